/- The document's disk: Remove and Rename (functions 53, 51). Printed by gen_rops.py. The document's disk: add (function 46). The document's disk: Used (function 45), Read (62), Sync (49), SyncDir (54), Fault (58). -/
import Derived.Test.YtfeglchngekedaaJ11Rpl
import Derived.IntWalk
namespace Go.Proofs.Ytfeglchngekedaa
open Go.RowKit Go.Shelf Go.Maps

theorem rbegin_pb (w : World) (F : Nat → Prop) (r : Nat) (s : RS) (n : Nat) (h : RefAt w F r s) (hb : PB n s.pl) (hn : n ≤ 100000) : Calls Try.prog 42 #[.pointer (some ⟨r, 0, none⟩)] w fun e w2 =>
    ∃ s2, e = .returned (.tuple #[.int .i64 s.pl.beginC.1, .int .i64 s.pl.beginC.2]) ∧ RefAt w2 (Gr F w) r s2 ∧ s2.pl = s.pl.begun ∧ Chg F w w2 ∧ s2.dir = s.dir ∧ s2.dir.length ≤ 100000 ∧ s2.files.length ≤ 100000 ∧ s2.pend.length ≤ 100000 := by
  refine (rbegin_any w F r s h (by have := hb.count; have e : s.pl.count = s.count := rfl; omega) (by have := hb.fltsL; have e : s.pl.flts = s.flts := rfl; rw [e] at this; omega) (fun x hx => hb.flts0 x hx) hb.stopB).mono ?_
  rintro e w2 ⟨s2, rfl, hD2, hpl, hc2⟩
  have hd2 : s2.dir = s.dir := congrArg PS.dir hpl
  refine ⟨s2, rfl, hD2, hpl, hc2, hd2, by rw [hd2]; exact Nat.le_trans hb.dirL hn, ?_, ?_⟩
  · have e := congrArg (fun x => x.files.length) hpl
    have e2 := hb.filesL
    simp only [RS.pl, PS.begun, List.length_map] at e e2
    omega
  · have e := congrArg (fun x => x.pend.length) hpl
    have e2 := hb.pendL
    simp only [RS.pl, PS.begun] at e e2
    omega
theorem cell_dir {w : World} {F : Nat → Prop} {r : Nat} {s : RS} (h : RefAt w F r s) {A : Option Addr} {c : Nat} (hv : s.vd = .slice A s.dir.length c) (k : Nat) (hk : k < s.dir.length) :
    ∃ g, A = some ⟨g, 0, none⟩ ∧ w.cell? ⟨g, k * 2, none⟩ = some (nmV s.dir[k].1) ∧ w.cell? ⟨g, k * 2 + 1, none⟩ = some (.int .i64 (s.dir[k].2 : Int)) := by
  have hr := h.dir.row
  rw [hv] at hr
  obtain ⟨g, cap, e⟩ := own_succ hr (by omega)
  injection e with e
  subst e
  exact ⟨g, rfl, by rw [hr.cellAt (k * 2) (by omega)]; exact (entsV_at s.dir k hk).1, by rw [hr.cellAt (k * 2 + 1) (by omega)]; exact (entsV_at s.dir k hk).2⟩

set_option maxRecDepth 100000 in
set_option maxHeartbeats 6400000 in
theorem rremove_any (w : World) (F : Nat → Prop) (r : Nat) (s : RS) (n : Nat) (nm : ByteArray) (h : RefAt w F r s) (hb : PB n s.pl) (hn : n ≤ 100000) (hnm : nm.size ≤ 9223372036854775807) :
    Calls Try.prog 53 #[.pointer (some ⟨r, 0, none⟩), .string nm] w (RPost w F r (s.pl.remove nm)) := by
  obtain ⟨i9, hi9, hz90, hz91, hz92⟩ := info_parts info91
  have HI9 := Lib.hid hi9
  have HZ90 := Lib.hid hz90
  have HZ91 := Lib.hid hz91
  have HZ92 := Lib.hid hz92
  have H := Lib.hid h
  have HPB := Lib.hid hb
  clear h hb hi9 hz90 hz91 hz92
  go_enter Try.func53, Try.ntmps53
  go_wp2_with fail
  refine (rbegin_pb w F r s n H.out HPB.out hn).mono ?_
  rintro e w2 ⟨s2, rfl, hD2, hpl, hc2, hd2, hl2, hf2, hp2⟩
  have hs2 := hc2.size
  have HD := Lib.hid hD2
  have HC := Lib.hid hc2
  have HPL := Lib.hid hpl
  have HDD := Lib.hid hd2
  clear hD2 hc2 hpl hd2
  obtain ⟨why, kd, hk⟩ : ∃ why kd, s.pl.beginC = (why, kd) := ⟨_, _, rfl⟩
  rw [hk]
  have HK := Lib.hid hk
  clear hk
  obtain ⟨A2, d2, hvd⟩ := own_slice HD.out.dir.row
  have c2 : w2.cell? ⟨r, 2, none⟩ = some (.slice A2 s2.dir.length d2) := (HD.out.blk.cell 2).trans (congrArg some hvd)
  have HVD := Lib.hid hvd
  have hrl := HD.out.blk.lt
  clear hvd
  by_cases hwy : why = 0
  · subst hwy
    go_wp2_with fail
    refine (rright_any nm w2 hnm).mono ?_
    rintro e w3 ⟨rfl, rfl⟩
    cases hrt : rightB nm with
    | false =>
      have HRT := Lib.hid hrt
      clear hrt
      go_wp2
      refine bodyPost_ret (results_tmp rfl _ _ _) rfl ?_
      have ex : s.pl.remove nm = (2, s.pl.begun) := by
        unfold PS.remove
        rw [HK.out, HRT.out]; rfl
      rw [ex]
      exact ⟨s2, rfl, HD.out, HPL.out, HC.out⟩
    | true =>
      have HRT := Lib.hid hrt
      clear hrt
      go_wp2_with fail
      refine (at_any w2 _ A2 d2 s2.dir nm (reads_ents HD.out HVD.out) (by omega)).mono ?_
      rintro e w3 ⟨rfl, rfl⟩
      rcases atZ_cases s2.dir nm.data.toList with ⟨hdg, haz⟩ | ⟨k, hk, haz, hnk, hdg⟩
      · rw [haz]
        have HDG := Lib.hid hdg
        clear hdg haz
        go_wp2
        refine bodyPost_ret (results_tmp rfl _ _ _) rfl ?_
        have ex : s.pl.remove nm = (3, s.pl.begun) := by
          unfold PS.remove
          rw [HK.out, HRT.out, if_pos rfl, if_pos rfl, show s.pl.dir = s2.dir from HDD.out.symm, HDG.out]
        rw [ex]
        exact ⟨s2, rfl, HD.out, HPL.out, HC.out⟩
      · rw [haz]
        obtain ⟨f, hf⟩ : ∃ f, f = s2.dir[k].2 := ⟨_, rfl⟩
        rw [← hf] at hdg
        have HDG := Lib.hid hdg
        clear hdg haz hnk hf hk
        have HOD := Lib.hid (show w2.ownsRow 0 94 2 (.slice A2 s2.dir.length d2) s2.dir.length (entsV s2.dir) by rw [← HVD.out]; exact HD.out.dir.row)
        go_wp2_with fail
        refine (unset_any w2 A2 d2 s2.dir nm HOD.out (by omega)).mono ?_
        rintro e w6 ⟨v6, rfl, hrow6, hb6⟩
        obtain ⟨N, hN⟩ : ∃ N, (ddel s2.dir nm.data.toList).length = N := ⟨_, rfl⟩
        obtain ⟨A6, d6, hv6⟩ := own_slice hrow6
        rw [hN] at hv6
        subst hv6
        have HN := Lib.hid hN
        clear hN
        obtain ⟨A4, d4, hvp⟩ := own_slice HD.out.pend.row
        have HVP := Lib.hid hvp
        have b6 := HD.out.blk.below hb6 HD.out.blk.lt
        have y2 : w6.cell? ⟨r, 2, none⟩ = some s2.vd := b6.cell 2
        have z2 := b6.frozen 2
        have hs6 := hb6.size
        have HROW6 := Lib.hid hrow6
        have HB6 := Lib.hid hb6
        clear b6 hrow6 hb6 hvp
        go_upto_region 9 with fail
        obtain ⟨w7, hw7⟩ : ∃ w7, w6.setCell ⟨r, 2, none⟩ (.slice A6 N d6) = w7 := ⟨_, rfl⟩
        have hD7 := HD.out.dirSet HB6.out _ _ HROW6.out
        have hC7 := (HC.out.below HB6.out (by omega)).setCell (p := ⟨r, 2, none⟩) (.inl H.out.own) (.slice A6 N d6)
        rw [hw7] at hD7 hC7
        have hs7 : w6.heap.size ≤ w7.heap.size := by rw [← hw7]; simp [World.setCell]
        have e4 : w7.cell? ⟨r, 4, none⟩ = some (.slice A4 s2.pend.length d4) := (hD7.blk.cell 4).trans (congrArg some HVP.out)
        rw [hw7]
        have HD7 := Lib.hid hD7
        have HC7 := Lib.hid hC7
        have HOP := Lib.hid (show w7.ownsRow 0 91 4 (.slice A4 s2.pend.length d4) s2.pend.length (rcsV s2.pend) by rw [← HVP.out]; exact hD7.pend.row)
        have HB7 := Lib.hid hD7.blk
        clear hw7 hD7 hC7 y2 z2
        go_wp2_with (at_builtin; go_loud (refine wpList_append_any _ rfl (.tmp 41) (.tmp 44) 55 rfl 0 91 i9 (.agg #[.int .i64 0, .string ⟨#[]⟩, .string ⟨#[]⟩, .int .i64 0]) 4 48 Try.underlying55 HI9.out HZ90.out HZ91.out HZ92.out rfl (by omega) (.slice A4 s2.pend.length d4) s2.pend.length (rcsV s2.pend) rfl (HOP.out.alloc _) (w7.heap.size + 1) (some ⟨w7.heap.size, 0, none⟩) 1 1 [.int .i64 3, .string ⟨#[]⟩, .string nm, .int .i64 0] rfl (reads_new4 w7 91 _ _ _ _) (rcV_one _ _ _ _) (by simp [maxLen]; omega) (by omega) (Nat.zero_le _) ?_; intro v8 w8 hown8 hgrow8 hloc8; obtain ⟨A8, d8, hv8⟩ := own_slice hown8; subst hv8; have b8 := (HB7.out.alloc (.cells #[.int .i64 3, .string ⟨#[]⟩, .string nm, .int .i64 0] 91)).grown hgrow8 (Ne.symm (own_blk_ne HOP.out HB7.out (by decide))); have y8 : w8.cell? ⟨r, 4, none⟩ = some s2.vp := b8.cell 4; have z8 := b8.frozen 4; have HW8 := Lib.hid hown8; have HG8 := Lib.hid hgrow8; have HL8 := Lib.hid hloc8; clear hown8 hgrow8 hloc8 b8))
        refine bodyPost_ret (results_tmp rfl _ _ _) rfl ?_
        have hs8 := HG8.out.size
        rw [World.size_alloc] at hs8
        have ex : s.pl.remove nm = (0, s.pl.begun.removed nm.data.toList) := by
          unfold PS.remove
          rw [HK.out, HRT.out, if_pos rfl, if_pos rfl, show s.pl.dir = s2.dir from HDD.out.symm, HDG.out]
        have hD9 := HD7.out.pendAdd ⟨3, [], nm.data.toList, 0⟩ (.slice A8 (s2.pend.length + 1) d8) (.cells #[.int .i64 3, .string ⟨#[]⟩, .string nm, .int .i64 0] 91) (by show World.grownBy _ _ s2.vp.ownBlock; rw [HVP.out]; exact HG8.out) HW8.out (by show _ = s2.vp.ownBlock ∨ _; rw [HVP.out]; exact HL8.out)
        rw [ex]
        refine ⟨_, rfl, hD9.inF (fun k hk => ?_), ?_, ?_⟩
        · rcases hk with (hk | hk) | hk
          · exact hk
          all_goals exact .inr (by omega)
        · rw [← HPL.out]
          rfl
        · exact ((HC7.out.alloc _).grown HG8.out (fun g hg => HD.out.pend.rowF g (by rw [HVP.out]; exact hg))).setCell (p := ⟨r, 4, none⟩) HD.out.own _
  · have hq : (why != 0) = true := by simp [hwy]
    have HWY := Lib.hid hwy
    clear hwy
    go_wp2
    refine bodyPost_ret (results_tmp rfl _ _ _) rfl ?_
    have ex : s.pl.remove nm = (why, s.pl.begun) := by
      unfold PS.remove
      rw [HK.out, if_neg HWY.out]
    rw [ex]
    exact ⟨s2, rfl, HD.out, HPL.out, HC.out⟩

set_option maxRecDepth 100000 in
set_option maxHeartbeats 6400000 in
theorem rrename_any (w : World) (F : Nat → Prop) (r : Nat) (s : RS) (n : Nat) (od nm : ByteArray) (h : RefAt w F r s) (hb : PB n s.pl) (hn : n ≤ 100000) (hod : od.size ≤ 9223372036854775807) (hnm : nm.size ≤ 9223372036854775807) :
    Calls Try.prog 51 #[.pointer (some ⟨r, 0, none⟩), .string od, .string nm] w (RPost w F r (s.pl.rename od nm)) := by
  obtain ⟨i9, hi9, hz90, hz91, hz92⟩ := info_parts info91
  have HI9 := Lib.hid hi9
  have HZ90 := Lib.hid hz90
  have HZ91 := Lib.hid hz91
  have HZ92 := Lib.hid hz92
  have H := Lib.hid h
  have HPB := Lib.hid hb
  clear h hb hi9 hz90 hz91 hz92
  go_enter Try.func51, Try.ntmps51
  go_wp2_with fail
  refine (rbegin_pb w F r s n H.out HPB.out hn).mono ?_
  rintro e w2 ⟨s2, rfl, hD2, hpl, hc2, hd2, hl2, hf2, hp2⟩
  have hs2 := hc2.size
  have HD := Lib.hid hD2
  have HC := Lib.hid hc2
  have HPL := Lib.hid hpl
  have HDD := Lib.hid hd2
  clear hD2 hc2 hpl hd2
  obtain ⟨why, kd, hk⟩ : ∃ why kd, s.pl.beginC = (why, kd) := ⟨_, _, rfl⟩
  rw [hk]
  have HK := Lib.hid hk
  clear hk
  obtain ⟨A2, d2, hvd⟩ := own_slice HD.out.dir.row
  have c2 : w2.cell? ⟨r, 2, none⟩ = some (.slice A2 s2.dir.length d2) := (HD.out.blk.cell 2).trans (congrArg some hvd)
  have HVD := Lib.hid hvd
  have hrl := HD.out.blk.lt
  clear hvd
  go_wp2_with fail
  refine (at_any w2 _ A2 d2 s2.dir od (reads_ents HD.out HVD.out) (by omega)).mono ?_
  rintro e w3 ⟨rfl, rfl⟩
  obtain ⟨az, haz⟩ : ∃ az, az = atZ s2.dir od.data.toList := ⟨_, rfl⟩
  rw [← haz]
  have HAZ := Lib.hid haz
  clear haz
  by_cases hwy : why = 0
  · subst hwy
    go_wp2_with fail
    refine (rright_any od w2 hod).mono ?_
    rintro e w3 ⟨rfl, rfl⟩
    cases hrt : rightB od with
    | false =>
      have HRT := Lib.hid hrt
      clear hrt
      go_wp2
      refine bodyPost_ret (results_tmp rfl _ _ _) rfl ?_
      have ex : s.pl.rename od nm = (2, s.pl.begun) := by
        unfold PS.rename
        rw [HK.out, HRT.out]; rfl
      rw [ex]
      exact ⟨s2, rfl, HD.out, HPL.out, HC.out⟩
    | true =>
      have HRT := Lib.hid hrt
      clear hrt
      go_wp2_with fail
      refine (rright_any nm w2 hnm).mono ?_
      rintro e w3 ⟨rfl, rfl⟩
      cases hrt2 : rightB nm with
      | false =>
        have HRT2 := Lib.hid hrt2
        clear hrt2
        go_wp2
        refine bodyPost_ret (results_tmp rfl _ _ _) rfl ?_
        have ex : s.pl.rename od nm = (2, s.pl.begun) := by
          unfold PS.rename
          rw [HK.out, HRT.out, HRT2.out]; rfl
        rw [ex]
        exact ⟨s2, rfl, HD.out, HPL.out, HC.out⟩
      | true =>
        have HRT2 := Lib.hid hrt2
        clear hrt2
        rcases atZ_cases s2.dir od.data.toList with ⟨hdg, haz⟩ | ⟨k, hk, haz, hnk, hdg⟩
        · obtain rfl : az = -1 := HAZ.out.trans haz
          have HDG := Lib.hid hdg
          clear hdg haz
          go_wp2
          refine bodyPost_ret (results_tmp rfl _ _ _) rfl ?_
          have ex : s.pl.rename od nm = (3, s.pl.begun) := by
            unfold PS.rename
            rw [HK.out, HRT.out, HRT2.out, if_pos rfl, if_pos ⟨rfl, rfl⟩, show s.pl.dir = s2.dir from HDD.out.symm, HDG.out]
          rw [ex]
          exact ⟨s2, rfl, HD.out, HPL.out, HC.out⟩
        · obtain rfl : az = (k : Int) := HAZ.out.trans haz
          obtain ⟨gA, rfl, -, x1⟩ := cell_dir HD.out HVD.out k hk
          obtain ⟨f, hf⟩ : ∃ f, f = s2.dir[k].2 := ⟨_, rfl⟩
          rw [← hf] at x1 hdg
          have HDG := Lib.hid hdg
          have HOD := Lib.hid (show w2.ownsRow 0 94 2 (.slice (some ⟨gA, 0, none⟩) s2.dir.length d2) s2.dir.length (entsV s2.dir) by rw [← HVD.out]; exact HD.out.dir.row)
          clear hdg haz hnk hf
          by_cases he : od.data.toList = nm.data.toList
          · have hq : (od.toList == nm.toList) = true := by rw [ByteArray.toList_eq, ByteArray.toList_eq, he]; exact beq_self_eq_true _
            have HE := Lib.hid he
            clear he
            go_wp2
            refine bodyPost_ret (results_tmp rfl _ _ _) rfl ?_
            have ex : s.pl.rename od nm = (0, s.pl.begun) := by
              unfold PS.rename
              rw [HK.out, HRT.out, HRT2.out, if_pos rfl, if_pos ⟨rfl, rfl⟩, show s.pl.dir = s2.dir from HDD.out.symm, HDG.out]; exact if_pos HE.out
            rw [ex]
            exact ⟨s2, rfl, HD.out, HPL.out, HC.out⟩
          · have hq : (od.toList == nm.toList) = false := by rw [ByteArray.toList_eq, ByteArray.toList_eq]; exact beq_false_of_ne he
            have HE := Lib.hid he
            clear he
            go_wp2_with fail
            refine (unset_any w2 (some ⟨gA, 0, none⟩) d2 s2.dir od HOD.out (by omega)).mono ?_
            rintro e w5 ⟨v5, rfl, hrow5, hb5⟩
            obtain ⟨A5, d5, hv5⟩ := own_slice hrow5
            subst hv5
            have hl5 := len_ddel s2.dir od.data.toList
            have hs5 := hb5.size
            have HB5 := Lib.hid hb5
            have HROW5 := Lib.hid (own_low hrow5 (Nat.zero_le _))
            obtain ⟨m, hm⟩ : ∃ m, m = ddel s2.dir od.data.toList := ⟨_, rfl⟩
            rw [← hm] at HROW5 hl5 ⊢
            have HM := Lib.hid hm
            clear hb5 hrow5 hm
            go_wp2_with fail
            refine (set_any w5 A5 d5 m nm f HROW5.out (by omega)).mono ?_
            rintro e w6 ⟨v6, rfl, hrow6', hb6'⟩
            have hb6 : Below w2.heap.size w2 w6 := HB5.out.trans (hb6'.mono hs5)
            have hrow6 := own_low hrow6' hs5
            clear hb6' hrow6'
            obtain ⟨N, hN⟩ : ∃ N, (ddel m nm.data.toList ++ [(nm.data.toList, f)]).length = N := ⟨_, rfl⟩
            obtain ⟨A6, d6, hv6⟩ := own_slice hrow6
            rw [hN] at hv6
            subst hv6
            have HN := Lib.hid hN
            clear hN
            obtain ⟨A4, d4, hvp⟩ := own_slice HD.out.pend.row
            have HVP := Lib.hid hvp
            have b6 := HD.out.blk.below hb6 HD.out.blk.lt
            have y2 : w6.cell? ⟨r, 2, none⟩ = some s2.vd := b6.cell 2
            have z2 := b6.frozen 2
            have hs6 := hb6.size
            have HROW6 := Lib.hid hrow6
            have HB6 := Lib.hid hb6
            clear b6 hrow6 hb6 hvp
            go_upto_region 13 with fail
            obtain ⟨w7, hw7⟩ : ∃ w7, w6.setCell ⟨r, 2, none⟩ (.slice A6 N d6) = w7 := ⟨_, rfl⟩
            have hD7 := HD.out.dirSet HB6.out _ _ HROW6.out
            have hC7 := (HC.out.below HB6.out (by omega)).setCell (p := ⟨r, 2, none⟩) (.inl H.out.own) (.slice A6 N d6)
            rw [hw7] at hD7 hC7
            have hs7 : w6.heap.size ≤ w7.heap.size := by rw [← hw7]; simp [World.setCell]
            have e4 : w7.cell? ⟨r, 4, none⟩ = some (.slice A4 s2.pend.length d4) := (hD7.blk.cell 4).trans (congrArg some HVP.out)
            rw [hw7]
            have HD7 := Lib.hid hD7
            have HC7 := Lib.hid hC7
            have HOP := Lib.hid (show w7.ownsRow 0 91 4 (.slice A4 s2.pend.length d4) s2.pend.length (rcsV s2.pend) by rw [← HVP.out]; exact hD7.pend.row)
            have HB7 := Lib.hid hD7.blk
            clear hw7 hD7 hC7 y2 z2
            go_wp2_with (at_builtin; go_loud (refine wpList_append_any _ rfl (.tmp 66) (.tmp 71) 55 rfl 0 91 i9 (.agg #[.int .i64 0, .string ⟨#[]⟩, .string ⟨#[]⟩, .int .i64 0]) 4 48 Try.underlying55 HI9.out HZ90.out HZ91.out HZ92.out rfl (by omega) (.slice A4 s2.pend.length d4) s2.pend.length (rcsV s2.pend) rfl (HOP.out.alloc _) (w7.heap.size + 1) (some ⟨w7.heap.size, 0, none⟩) 1 1 [.int .i64 2, .string od, .string nm, .int .i64 (f : Int)] rfl (reads_new4 w7 91 _ _ _ _) (rcV_one _ _ _ _) (by simp [maxLen]; omega) (by omega) (Nat.zero_le _) ?_; intro v8 w8 hown8 hgrow8 hloc8; obtain ⟨A8, d8, hv8⟩ := own_slice hown8; subst hv8; have b8 := (HB7.out.alloc (.cells #[.int .i64 2, .string od, .string nm, .int .i64 (f : Int)] 91)).grown hgrow8 (Ne.symm (own_blk_ne HOP.out HB7.out (by decide))); have y8 : w8.cell? ⟨r, 4, none⟩ = some s2.vp := b8.cell 4; have z8 := b8.frozen 4; have HW8 := Lib.hid hown8; have HG8 := Lib.hid hgrow8; have HL8 := Lib.hid hloc8; clear hown8 hgrow8 hloc8 b8))
            refine bodyPost_ret (results_tmp rfl _ _ _) rfl ?_
            have hs8 := HG8.out.size
            rw [World.size_alloc] at hs8
            have ex : s.pl.rename od nm = (0, s.pl.begun.renamed od.data.toList nm.data.toList f) := by
              unfold PS.rename
              rw [HK.out, HRT.out, HRT2.out, if_pos rfl, if_pos ⟨rfl, rfl⟩, show s.pl.dir = s2.dir from HDD.out.symm, HDG.out]; exact if_neg HE.out
            have hD9 := HD7.out.pendAdd ⟨2, od.data.toList, nm.data.toList, f⟩ (.slice A8 (s2.pend.length + 1) d8) (.cells #[.int .i64 2, .string od, .string nm, .int .i64 (f : Int)] 91) (by show World.grownBy _ _ s2.vp.ownBlock; rw [HVP.out]; exact HG8.out) HW8.out (by show _ = s2.vp.ownBlock ∨ _; rw [HVP.out]; exact HL8.out)
            rw [ex]
            refine ⟨_, rfl, hD9.inF (fun k hk => ?_), ?_, ?_⟩
            · rcases hk with (hk | hk) | hk
              · exact hk
              all_goals exact .inr (by omega)
            · rw [← HPL.out]
              rw [HM.out]; rfl
            · exact ((HC7.out.alloc _).grown HG8.out (fun g hg => HD.out.pend.rowF g (by rw [HVP.out]; exact hg))).setCell (p := ⟨r, 4, none⟩) HD.out.own _
  · have hq : (why != 0) = true := by simp [hwy]
    have HWY := Lib.hid hwy
    clear hwy
    go_wp2
    refine bodyPost_ret (results_tmp rfl _ _ _) rfl ?_
    have ex : s.pl.rename od nm = (why, s.pl.begun) := by
      unfold PS.rename
      rw [HK.out, if_neg HWY.out]
    rw [ex]
    exact ⟨s2, rfl, HD.out, HPL.out, HC.out⟩
end Go.Proofs.Ytfeglchngekedaa
namespace Go.Proofs.Ytfeglchngekedaa
open Go.RowKit Go.Shelf Go.Maps

theorem cell_file {w : World} {F : Nat → Prop} {r : Nat} {s : RS} (h : RefAt w F r s) {A : Option Addr} {c : Nat} (hv : s.vf = .slice A s.files.length c) (k : Nat) (hk : k < s.files.length) :
    ∃ g, A = some ⟨g, 0, none⟩ ∧ w.cell? ⟨g, k * 2, none⟩ = some s.files[k].v ∧ w.cell? ⟨g, k * 2 + 1, none⟩ = some (.int .i64 (s.files[k].kept : Int)) ∧ w.frozen? ⟨g, k * 2, none⟩ = false ∧ w.frozen? ⟨g, k * 2 + 1, none⟩ = false := by
  have hr := h.files.row
  rw [hv] at hr
  obtain ⟨g, cap, e⟩ := own_succ hr (by omega)
  injection e with e
  subst e
  exact ⟨g, rfl, by rw [hr.cellAt (k * 2) (by omega)]; exact (rfsV_at s.files k hk).1, by rw [hr.cellAt (k * 2 + 1) (by omega)]; exact (rfsV_at s.files k hk).2, hr.frozenAt _, hr.frozenAt _⟩
theorem rfsV_set : ∀ (l : List RF) (k : Nat) (h : k < l.length) (v : Value) (bs : List UInt8), rfsV (l.set k ⟨v, bs, l[k].kept⟩) = (rfsV l).set (k * 2) v
  | [], k, h, _, _ => absurd h (Nat.not_lt_zero _)
  | a :: l, 0, h, v, bs => rfl
  | a :: l, k + 1, h, v, bs => by
    have := rfsV_set l k (by simpa using h) v bs
    have e : rfsV (a :: l) = rfV a ++ rfsV l := rfl
    have h' : k < l.length := by simpa using h
    have e2 : rfsV ((a :: l).set (k + 1) ⟨v, bs, (a :: l)[k + 1].kept⟩) = rfV a ++ rfsV (l.set k ⟨v, bs, l[k].kept⟩) := rfl
    rw [e2, e, this, List.set_append_right _ _ (by simp [rfV]; omega)]
    congr 2
    simp [rfV]; omega
theorem rfsV_setk : ∀ (l : List RF) (k : Nat) (h : k < l.length) (n : Nat), rfsV (l.set k ⟨l[k].v, l[k].bs, n⟩) = (rfsV l).set (k * 2 + 1) (.int .i64 (n : Int))
  | [], k, h, _ => absurd h (Nat.not_lt_zero _)
  | a :: l, 0, h, n => rfl
  | a :: l, k + 1, h, n => by
    have := rfsV_setk l k (by simpa using h) n
    have e : rfsV (a :: l) = rfV a ++ rfsV l := rfl
    have h' : k < l.length := by simpa using h
    have e2 : rfsV ((a :: l).set (k + 1) ⟨(a :: l)[k + 1].v, (a :: l)[k + 1].bs, n⟩) = rfV a ++ rfsV (l.set k ⟨l[k].v, l[k].bs, n⟩) := rfl
    rw [e2, e, this, List.set_append_right _ _ (by simp [rfV]; omega)]
    congr 2
    simp [rfV]; omega

def RDone (w : World) (F : Nat → Prop) (r : Nat) (x : PS) (e : Ending) (w' : World) : Prop := e = .returned (.tuple #[]) ∧ ∃ s', RefAt w' (Gr F w) r s' ∧ s'.pl = x ∧ Chg F w w'

/-- a file's bytes are laid anew -/
theorem RefAt.fileSet {w w1 : World} {F : Nat → Prop} {r : Nat} {s : RS} (h : RefAt w F r s) (hb : Below w.heap.size w w1) (f : Nat) (hf : f < s.files.length) {g L c : Nat} (hL : L = s.files.length) (hv : s.vf = .slice (some ⟨g, 0, none⟩) L c) (v : Value) (bs : List UInt8)
    (hx : FileOk w1 (Gr F w) ⟨v, bs, s.files[f].kept⟩) : RefAt (w1.setCell ⟨g, f * 2, none⟩ v) (Gr F w) r { s with files := s.files.set f ⟨v, bs, s.files[f].kept⟩ } := by
  subst hL
  have hr := h.blk.lt
  have hs := hb.size
  have hrow := h.files.row
  rw [hv] at hrow
  have hgt := hrow.lt g rfl
  have hgr : r ≠ g := fun e => own_blk_ne hrow h.blk (by decide) (by rw [e]; rfl)
  have hrow1 : w1.ownsRow 0 88 2 (.slice (some ⟨g, 0, none⟩) s.files.length c) s.files.length (rfsV s.files) := own_keep hrow (fun k _ hk => hb.block k hk)
  have h5 : ∀ k, IsT w1 k 5 → (w1.setCell ⟨g, f * 2, none⟩ v).heap[k]? = w1.heap[k]? := fun k hk => Below.heap_setCell _ _ _ _ (hk.ne (.of_own hrow1 (k := g) rfl) (by decide))
  refine h.turn _ true false false (by simpa [World.setCell] using hs) ?_ ((h.blk.below hb hr).far hgr _) (.inr ⟨⟨?_, fun k hk => .inl (h.files.rowF k hk)⟩, fun x hx' => ?_⟩) (.inl ⟨rfl, rfl⟩) (.inl ⟨rfl, rfl⟩) (.inl ⟨rfl, rfl, rfl⟩) (.inl ⟨rfl, rfl, rfl⟩) h.capB
  · intro k hk _ h1 _ _
    have hkg : k ≠ g := fun e => h1 rfl (by rw [hv, e]; rfl)
    rw [Below.heap_setCell _ _ _ _ hkg, hb.block k hk]
  · show (w1.setCell ⟨g, f * 2, none⟩ v).ownsRow 0 88 2 s.vf (s.files.set f ⟨v, bs, s.files[f].kept⟩).length (rfsV (s.files.set f ⟨v, bs, s.files[f].kept⟩))
    rw [rfsV_set s.files f hf v bs, List.length_set, hv]
    exact own_set hrow1 (f * 2) v
  · have hx' : x ∈ s.files.set f ⟨v, bs, s.files[f].kept⟩ := hx'
    rcases List.mem_or_eq_of_mem_set hx' with hx' | rfl
    · exact .inl ⟨x, hx', rfl, rfl, (h.bytes x hx').le⟩
    · exact .inr (hx.keep (fun k _ hk => h5 k hk) (by simp [World.setCell]) fun _ h => h)

theorem map_set_mod (l : List RF) (f : Nat) (hf : f < l.length) (v : Value) (b : List UInt8) : (l.set f ⟨v, l[f].bs ++ b, l[f].kept⟩).map RF.pl = (l.map RF.pl).modify f fun y => (y.1 ++ b, y.2) := by
  apply List.ext_getElem?
  intro k
  rw [List.getElem?_modify, List.getElem?_map, List.getElem?_set, List.getElem?_map]
  by_cases e : f = k
  · subst e
    rw [if_pos rfl, if_pos hf, List.getElem?_eq_getElem hf]
    simp [RF.pl]
  · rw [if_neg e]
    simp [e]
theorem map_set_kept (l : List RF) (f : Nat) (hf : f < l.length) : (l.set f ⟨l[f].v, l[f].bs, l[f].bs.length⟩).map RF.pl = (l.map RF.pl).modify f fun y => (y.1, y.1.length) := by
  apply List.ext_getElem?
  intro k
  rw [List.getElem?_modify, List.getElem?_map, List.getElem?_set, List.getElem?_map]
  by_cases e : f = k
  · subst e
    rw [if_pos rfl, if_pos hf, List.getElem?_eq_getElem hf]
    simp [RF.pl]
  · rw [if_neg e]
    simp [e]
/-- the end of add -/
theorem add_end {w w6 : World} {F : Nat → Prop} {r : Nat} {s : RS} (h : RefAt w F r s) (hb : Below w.heap.size w w6) (f : Nat) (hf : f < s.files.length) {g N c lx d6 : Nat} {A6 : Option Addr} {b : List UInt8} (hN : N = s.files.length) (hv : s.vf = .slice (some ⟨g, 0, none⟩) N c)
    (hlx : lx = s.files[f].bs.length) (hrow : w6.ownsRow w.heap.size 5 1 (.slice A6 (lx + b.length) d6) (lx + b.length) (bytesV s.files[f].bs ++ bytesV b)) : RDone w F r (s.pl.add f b) (.returned (.tuple #[])) (w6.setCell ⟨g, f * 2, none⟩ (.slice A6 (lx + b.length) d6)) := by
  subst hlx
  have hlen : (s.files[f].bs ++ b).length = s.files[f].bs.length + b.length := by simp
  have e2 : bytesV (s.files[f].bs ++ b) = bytesV s.files[f].bs ++ bytesV b := by simp [bytesV]
  refine ⟨rfl, _, h.fileSet hb f hf hN hv (.slice A6 (s.files[f].bs.length + b.length) d6) (s.files[f].bs ++ b) ⟨⟨A6, d6, by rw [hlen], by rw [hlen]; exact own_capv hrow, ?_, fun ad e _ => ?_⟩, ?_⟩, ?_, ?_⟩
  · rw [hlen, e2]; exact Reads.of_own hrow
  · subst e
    exact ⟨.inr (hrow.lt _ rfl).1, .of_own hrow rfl⟩
  · rw [hlen]
    have := (h.bytes _ (List.getElem_mem hf)).le
    show s.files[f].kept ≤ _
    omega
  · show RS.pl { s with files := _ } = _
    unfold RS.pl PS.add
    rw [map_set_mod s.files f hf]
  · refine ((Chg.refl F w).below hb (Nat.le_refl _)).setCell (p := ⟨g, f * 2, none⟩) (.inl (h.files.rowF g (by rw [hv]; rfl))) _

set_option maxRecDepth 100000 in
set_option maxHeartbeats 6400000 in
theorem radd_any (w : World) (F : Nat → Prop) (r : Nat) (s : RS) (f : Nat) (A : Option Addr) (c : Nat) (b : List UInt8) (h : RefAt w F r s) (hf : f < s.files.length) (hR : Reads w w.heap.size 1 A b.length (bytesV b)) (hbl : b.length ≤ 100000)
    (hfl : s.files[f].bs.length ≤ 1000000000) :
    Calls Try.prog 46 #[.pointer (some ⟨r, 0, none⟩), .int .i64 (f : Int), .slice A b.length c] w (RDone w F r (s.pl.add f b)) := by
  obtain ⟨i5, hi5, hz50, hz51, hz52⟩ := info_parts info5
  have HI5 := Lib.hid hi5
  have HZ50 := Lib.hid hz50
  have HZ51 := Lib.hid hz51
  have HZ52 := Lib.hid hz52
  have H := Lib.hid h
  obtain ⟨A1, d1, hvf⟩ := own_slice h.files.row
  have c1 : w.cell? ⟨r, 1, none⟩ = some (.slice A1 s.files.length d1) := (h.blk.cell 1).trans (congrArg some hvf)
  obtain ⟨gF, rfl, x0, -, z0, -⟩ := cell_file h hvf f hf
  have hrow := h.files.row
  rw [hvf] at hrow
  have hgt := (hrow.lt gF rfl).2
  have hrt := h.blk.lt
  have hfo := h.bytes _ (List.getElem_mem hf)
  obtain ⟨⟨Ax, cx, hxv, hxc, hRx, hAx⟩, hle⟩ := hfo
  have HXV := Lib.hid hxv
  rw [hxv] at x0
  obtain ⟨lx, hlx⟩ : ∃ lx, lx = s.files[f].bs.length := ⟨_, rfl⟩
  rw [← hlx] at x0 hRx hfl HXV
  have hRF := hRx
  have HLX := Lib.hid hlx
  have HVF := Lib.hid hvf
  have hb1 : Below w.heap.size w (w.drew.alloc (.cells #[] 5)) := (Below.refl _ w).drew.alloc (Nat.le_refl _) _
  have HRX := Lib.hid (hRx.below hb1)
  have HR1 := Lib.hid (hR.below hb1)
  have HB1 := Lib.hid hb1
  have HOW := Lib.hid (World.ownsRow_lit (base := w.heap.size) (e := 5) (size := 1) w.drew #[] 0 (Nat.le_refl _) (Nat.zero_le _) rfl)
  obtain ⟨N, hN⟩ : ∃ N, N = s.files.length := ⟨_, rfl⟩
  rw [← hN] at c1 HVF
  have hf' : f < N := by omega
  have HN := Lib.hid hN
  clear hi5 hz50 hz51 hz52 h hvf hrow hxv hxc hRx hAx hlx hb1 hR hRF hN hle
  go_enter Try.func46, Try.ntmps46
  go_upto_region 0 with fail
  go_region_law (first
    | (refine step_append_any (w.drew.alloc (.cells #[] 5)) (by rfl) (.tmp 11) (.tmp 19) 22 (by rfl) w.heap.size 5 i5 (.int .u8 0) 1 1 Try.underlying22 HI5.out HZ50.out HZ51.out HZ52.out rfl (by omega) (.slice (some ⟨w.heap.size, 0, none⟩) 0 0) 0 [] (by rfl) HOW.out w.heap.size Ax lx cx (bytesV s.files[f].bs) (by rfl) HRX.out (bytesV_one _) (by simp [maxLen]; omega) (by omega) (by simp) ?_; intro v4 w4 hown4 hgrow4 _; rw [Nat.zero_add, List.nil_append] at hown4; obtain ⟨A4, d4, hv4⟩ := own_slice hown4; subst hv4; have hs4 : w.heap.size + 1 ≤ w4.heap.size := (by have := hgrow4.size; rw [World.size_alloc] at this; exact this); have hb4 := HB1.out.grown hgrow4 (by simp) (fun k hk => by cases hk; exact Nat.le_refl _); have y1 : w4.cell? ⟨r, 1, none⟩ = some (.slice (some ⟨gF, 0, none⟩) N d1) := (hb4.cell (p := ⟨r, 1, none⟩) hrt).trans c1; have HW4 := Lib.hid hown4; have HB4 := Lib.hid hb4; have HR4 := Lib.hid (HR1.out.grown hgrow4 (by simp) (fun k hk => by cases hk; exact Nat.le_refl _)); clear hown4 hgrow4 hb4)
    | (refine step_append_any w4 (by rfl) (.tmp 20) (.tmp 21) 22 (by rfl) w.heap.size 5 i5 (.int .u8 0) 1 1 Try.underlying22 HI5.out HZ50.out HZ51.out HZ52.out rfl (by omega) (.slice A4 lx d4) lx (bytesV s.files[f].bs) (by rfl) HW4.out w.heap.size A b.length c (bytesV b) (by rfl) HR4.out (bytesV_one _) (by simp [maxLen]; omega) (by omega) (by omega) ?_; intro v6 w6 hown6 hgrow6 _; obtain ⟨A6, d6, hv6⟩ := own_slice hown6; subst hv6; have hs6 := hgrow6.size; have hb6 := HB4.out.grown hgrow6 (by omega) (fun k hk => (HW4.out.lt k hk).1); have y2 : w6.cell? ⟨r, 1, none⟩ = some (.slice (some ⟨gF, 0, none⟩) N d1) := (hb6.cell (p := ⟨r, 1, none⟩) hrt).trans c1; have y3 : w6.cell? ⟨gF, f * 2, none⟩ = some (.slice Ax lx cx) := (hb6.cell (p := ⟨gF, f * 2, none⟩) hgt).trans x0; have z3 : w6.frozen? ⟨gF, f * 2, none⟩ = false := (hb6.frozen (p := ⟨gF, f * 2, none⟩) hgt).trans z0; have HW6 := Lib.hid hown6; have HB6 := Lib.hid hb6; clear hown6 hgrow6 hb6))
  all_goals
    go_end0
    exact add_end H.out HB6.out f hf HN.out HVF.out HLX.out HW6.out
end Go.Proofs.Ytfeglchngekedaa
namespace Go.Proofs.Ytfeglchngekedaa
open Go.RowKit Go.Shelf Go.Maps

def UseR (w : World) (s : RS) (acc i : Value) (wr : World) : Prop :=
  ∃ k q a : Nat, k ≤ s.dir.length ∧ i = .int .i64 k ∧ acc = .int .i64 (a : Int) ∧ a = ((s.dir.take k).map fun e => flen s.pl.files e.2).sum ∧ a ≤ k * 1000000000 ∧ wr = w.drewN q
theorem flen_pl (s : RS) (f : Nat) (hf : f < s.files.length) : flen s.pl.files f = s.files[f].bs.length := by
  unfold flen RS.pl
  simp [List.getElem?_map, List.getElem?_eq_getElem hf, RF.pl]

set_option maxRecDepth 100000 in
set_option maxHeartbeats 6400000 in
theorem rused_any (w : World) (F : Nat → Prop) (r : Nat) (s : RS) (h : RefAt w F r s) (hdl : s.dir.length ≤ 100000) (hfi : ∀ e ∈ s.dir, e.2 < s.files.length) (hby : ∀ x ∈ s.files, x.bs.length ≤ 1000000000) :
    Calls Try.prog 45 #[.pointer (some ⟨r, 0, none⟩)] w fun e w' => e = .returned (.int .i64 (s.pl.used : Int)) ∧ ∃ q, w' = w.drewN q := by
  obtain ⟨A1, d1, hvf⟩ := own_slice h.files.row
  obtain ⟨A2, d2, hvd⟩ := own_slice h.dir.row
  have c1 : w.cell? ⟨r, 1, none⟩ = some (.slice A1 s.files.length d1) := (h.blk.cell 1).trans (congrArg some hvf)
  have c2 : w.cell? ⟨r, 2, none⟩ = some (.slice A2 s.dir.length d2) := (h.blk.cell 2).trans (congrArg some hvd)
  have H := Lib.hid h
  have HFI := Lib.hid hfi
  have HBY := Lib.hid hby
  have HVF := Lib.hid hvf
  have HVD := Lib.hid hvd
  clear h hfi hby hvf hvd
  go_enter Try.func45, Try.ntmps45
  go_wp2_with fail
  go_loopw [3, 4] (fun acc i wr => UseR w s acc i wr) (fun _ i _ => s.dir.length - (intOf i).toNat)
  case atStart => exact ⟨0, 0, 0, Nat.zero_le _, rfl, rfl, rfl, by omega, rfl⟩
  case round =>
    obtain ⟨k, q, a, hk, rfl, rfl, hsum, hab, rfl⟩ := hrel
    have e1 : (w.drewN q).cell? ⟨r, 1, none⟩ = some (.slice A1 s.files.length d1) := c1
    have e2 : (w.drewN q).cell? ⟨r, 2, none⟩ = some (.slice A2 s.dir.length d2) := c2
    have HS := Lib.hid hsum
    clear hsum
    by_cases hlt : k < s.dir.length
    · obtain ⟨gA, hA2, -, x1⟩ := cell_dir H.out HVD.out k hlt
      have hfl := HFI.out _ (List.getElem_mem hlt)
      have HT := Lib.hid (List.take_succ_eq_append_getElem hlt)
      obtain ⟨f, hf⟩ : ∃ f, f = s.dir[k].2 := ⟨_, rfl⟩
      rw [← hf] at x1 hfl
      have HF := Lib.hid hf
      obtain ⟨gF, hA1, xv, -, -, -⟩ := cell_file H.out HVF.out f hfl
      obtain ⟨⟨Ax, cx, hxv, -, -, -⟩, -⟩ := H.out.bytes _ (List.getElem_mem hfl)
      have hbl := HBY.out _ (List.getElem_mem hfl)
      rw [hxv] at xv
      have HL := Lib.hid (flen_pl s f hfl)
      obtain ⟨lx, hlx⟩ : ∃ lx, lx = s.files[f].bs.length := ⟨_, rfl⟩
      rw [← hlx] at xv hbl HL
      subst hA1
      subst hA2
      have x1' : (w.drewN q).cell? ⟨gA, k * 2 + 1, none⟩ = some (.int .i64 (f : Int)) := x1
      have xv' : (w.drewN q).cell? ⟨gF, f * 2, none⟩ = some (.slice Ax lx cx) := xv
      have hka : a ≤ 100000000000000 := by
        have : k * 1000000000 ≤ 100000 * 1000000000 := Nat.mul_le_mul_right _ (by omega)
        omega
      clear hf hxv hlx
      go_upto_region 5 with fail
      have hw : IntKind.i64.wrap ((a : Int) + (lx : Int)) = (a : Int) + (lx : Int) := IntWalk.i64_in _ (by omega)
      have hi1 : (k : Int) < (s.dir.length : Int) := by omega
      have hi2 : (f : Int) < (s.files.length : Int) := by omega
      go_quiet (fail)
      clear hw
      go_wp2
      refine ⟨⟨k + 1, _, a + lx, by omega, by go_num, by go_num, ?_, ?_, rfl⟩, by simp [intOf]; omega⟩
      · rw [HT.out, List.map_append, List.sum_append, ← HS.out]
        simp [← HF.out, HL.out]
      · omega
    · obtain rfl : k = s.dir.length := by omega
      go_wp2
      go_ret
      refine ⟨?_, _, rfl⟩
      show Ending.returned (.int .i64 (a : Int)) = _
      have := HS.out
      rw [List.take_length] at this
      rw [this]
      rfl
end Go.Proofs.Ytfeglchngekedaa
