/- The document's disk: Read (function 62), Fault (58), SyncDir (54), Sync (49). The document's disk: Sync (function 49). The document's disk: Append (function 21). Printed by gen_rappend.py. -/
import Derived.Test.YtfeglchngekedaaJ12Rdir
import Derived.BigRegion
namespace Go.Proofs.Ytfeglchngekedaa
open Go.RowKit Go.Shelf Go.Maps

def RReadPost (w : World) (x : List UInt8 × Int) (e : Ending) (w' : World) : Prop :=
  ∃ v, e = .returned (.tuple #[v, .int .i64 x.2]) ∧ w'.ownsRow w.heap.size 5 1 v x.1.length (bytesV x.1) ∧ Below w.heap.size w w'

set_option maxRecDepth 100000 in
set_option maxHeartbeats 6400000 in
theorem rread_any (w : World) (F : Nat → Prop) (r : Nat) (s : RS) (nm : ByteArray) (h : RefAt w F r s) (hdl : s.dir.length ≤ 100000) (hfi : ∀ e ∈ s.dir, e.2 < s.files.length) (hby : ∀ x ∈ s.files, x.bs.length ≤ 1000000000) (hnm : nm.size ≤ 9223372036854775807) :
    Calls Try.prog 62 #[.pointer (some ⟨r, 0, none⟩), .string nm] w (RReadPost w (s.pl.read nm)) := by
  obtain ⟨i5, hi5, hz50, hz51, hz52⟩ := info_parts info5
  have HI5 := Lib.hid hi5
  have HZ50 := Lib.hid hz50
  have HZ51 := Lib.hid hz51
  have HZ52 := Lib.hid hz52
  obtain ⟨A1, d1, hvf⟩ := own_slice h.files.row
  obtain ⟨A2, d2, hvd⟩ := own_slice h.dir.row
  have c1 : w.cell? ⟨r, 1, none⟩ = some (.slice A1 s.files.length d1) := (h.blk.cell 1).trans (congrArg some hvf)
  have c2 : w.cell? ⟨r, 2, none⟩ = some (.slice A2 s.dir.length d2) := (h.blk.cell 2).trans (congrArg some hvd)
  have H := Lib.hid h
  have HFI := Lib.hid hfi
  have HBY := Lib.hid hby
  have HVF := Lib.hid hvf
  have HVD := Lib.hid hvd
  have hrl := h.blk.lt
  clear h hfi hby hvf hvd hi5 hz50 hz51 hz52
  go_enter Try.func62, Try.ntmps62
  go_wp2_with fail
  refine (at_any w _ A2 d2 s.dir nm (reads_ents H.out HVD.out) (by omega)).mono ?_
  rintro e w3 ⟨rfl, rfl⟩
  obtain ⟨az, haz⟩ : ∃ az, az = atZ s.dir nm.data.toList := ⟨_, rfl⟩
  rw [← haz]
  have HAZ := Lib.hid haz
  clear haz
  go_wp2_with fail
  refine (rright_any nm w hnm).mono ?_
  rintro e w3 ⟨rfl, rfl⟩
  cases hrt : rightB nm with
  | false =>
    have HRT := Lib.hid hrt
    clear hrt
    go_wp2
    go_ret2
    have ex : s.pl.read nm = ([], 2) := by unfold PS.read; rw [HRT.out]; rfl
    rw [ex]
    exact ⟨_, rfl, World.ownsRow_nil _ _ _ _, Below.refl _ _⟩
  | true =>
    have HRT := Lib.hid hrt
    clear hrt
    rcases atZ_cases s.dir nm.data.toList with ⟨hdg, haz⟩ | ⟨k, hk, haz, hnk, hdg⟩
    · obtain rfl : az = -1 := HAZ.out.trans haz
      have HDG := Lib.hid hdg
      clear hdg haz
      go_wp2
      go_ret2
      have ex : s.pl.read nm = ([], 3) := by unfold PS.read; rw [HRT.out, if_pos rfl, show s.pl.dir = s.dir from rfl, HDG.out]
      rw [ex]
      exact ⟨_, rfl, World.ownsRow_nil _ _ _ _, Below.refl _ _⟩
    · obtain rfl : az = (k : Int) := HAZ.out.trans haz
      obtain ⟨gA, rfl, -, x1⟩ := cell_dir H.out HVD.out k hk
      have hfl := HFI.out _ (List.getElem_mem hk)
      obtain ⟨f, hf⟩ : ∃ f, f = s.dir[k].2 := ⟨_, rfl⟩
      rw [← hf] at x1 hdg hfl
      have HDG := Lib.hid hdg
      obtain ⟨gF, rfl, xv, -, -, -⟩ := cell_file H.out HVF.out f hfl
      obtain ⟨⟨Ax, cx, hxv, hxc, hRx, -⟩, -⟩ := H.out.bytes _ (List.getElem_mem hfl)
      have hbl := HBY.out _ (List.getElem_mem hfl)
      rw [hxv] at xv
      obtain ⟨bs, hbs⟩ : ∃ bs, bs = s.files[f].bs := ⟨_, rfl⟩
      rw [← hbs] at xv hbl hRx
      have hb1 : Below w.heap.size w (w.drew.alloc (.cells #[] 5)) := (Below.refl _ w).drew.alloc (Nat.le_refl _) _
      have HRX := Lib.hid (hRx.below hb1)
      have HB1 := Lib.hid hb1
      have HOW := Lib.hid (World.ownsRow_lit (base := w.heap.size) (e := 5) (size := 1) w.drew #[] 0 (Nat.le_refl _) (Nat.zero_le _) rfl)
      have hpl : s.pl.read nm = (bs, 0) := by
        unfold PS.read
        rw [HRT.out, if_pos rfl, show s.pl.dir = s.dir from rfl, HDG.out]
        simp [RS.pl, List.getElem?_map, List.getElem?_eq_getElem hfl, RF.pl, hbs]
      have HPL := Lib.hid hpl
      have hgA : gA < w.heap.size := (H.out.dir.row.lt gA (by rw [HVD.out]; rfl)).2
      have hgF : gF < w.heap.size := (H.out.files.row.lt gF (by rw [HVF.out]; rfl)).2
      clear hdg haz hnk hf hxv hRx hb1 hbs hpl
      go_upto_region 6 with fail
      go_region_law (refine step_append_any (w.drew.alloc (.cells #[] 5)) (by rfl) (.tmp 20) (.tmp 35) 22 (by rfl) w.heap.size 5 i5 (.int .u8 0) 1 1 Try.underlying22 HI5.out HZ50.out HZ51.out HZ52.out rfl (by omega) (.slice (some ⟨w.heap.size, 0, none⟩) 0 0) 0 [] (by rfl) HOW.out w.heap.size Ax bs.length cx (bytesV bs) (by rfl) HRX.out (bytesV_one _) (by simp [maxLen]; omega) (by omega) (by simp) ?_; intro v4 w4 hown4 hgrow4 _; rw [Nat.zero_add, List.nil_append] at hown4; have HW4 := Lib.hid hown4; have HB4 := Lib.hid (HB1.out.grown hgrow4 (by simp) (fun k hk => by cases hk; exact Nat.le_refl _)); clear hown4 hgrow4)
      all_goals
        go_wp2
        go_ret2
        rw [HPL.out]
        exact ⟨v4, rfl, HW4.out, HB4.out⟩

/-! ### a fault -/
set_option maxRecDepth 100000 in
set_option maxHeartbeats 6400000 in
theorem rfault_any (w : World) (F : Nat → Prop) (r : Nat) (s : RS) (n k : Int) (h : RefAt w F r s) (hf : s.flts.length ≤ 100000) :
    Calls Try.prog 58 #[.pointer (some ⟨r, 0, none⟩), .int .i64 n, .int .i64 k] w (RDone w F r (s.pl.fault n k)) := by
  obtain ⟨i0, hi, hz0, hz1, hz2⟩ := info_parts info108
  have HI := Lib.hid hi
  have HZ0 := Lib.hid hz0
  have HZ1 := Lib.hid hz1
  have HZ2 := Lib.hid hz2
  obtain ⟨A5, d5, hvq⟩ := own_slice h.flts.row
  have c5 : w.cell? ⟨r, 5, none⟩ = some (.slice A5 s.flts.length d5) := (h.blk.cell 5).trans (congrArg some hvq)
  have H := Lib.hid h
  have HVQ := Lib.hid hvq
  have HOQ := Lib.hid (show w.ownsRow 0 108 2 (.slice A5 s.flts.length d5) s.flts.length (fltsV s.flts) by rw [← hvq]; exact h.flts.row)
  have HB := Lib.hid h.blk
  clear h hvq hi hz0 hz1 hz2
  by_cases hn : n < 0
  case' pos =>
    have e : max n 0 = 0 := by omega
    have HE := Lib.hid e
    clear e
  case' neg =>
    have e : max n 0 = n := by omega
    have HE := Lib.hid e
    clear e
  all_goals
    go_enter Try.func58, Try.ntmps58
    go_wp2_with (at_builtin; go_loud (first
      | (refine wpList_append_any _ rfl (.tmp 12) (.tmp 16) 56 rfl 0 108 i0 (.agg #[.int .i64 0, .int .i64 0]) 2 16 Try.underlying56 HI.out HZ0.out HZ1.out HZ2.out rfl (by omega) (.slice A5 s.flts.length d5) s.flts.length (fltsV s.flts) rfl (HOQ.out.alloc _) (w.heap.size + 1) (some ⟨w.heap.size, 0, none⟩) 1 1 [.int .i64 0, .int .i64 k] rfl (reads_new2 w 108 _ _) (by intro u hu; simp at hu; rcases hu with rfl | rfl <;> rfl) (by simp [maxLen]; omega) (by omega) (Nat.zero_le _) ?_; intro v8 w8 hown8 hgrow8 hloc8; obtain ⟨A8, d8, hv8⟩ := own_slice hown8; subst hv8; have b8 := (HB.out.alloc (.cells #[.int .i64 0, .int .i64 k] 108)).grown hgrow8 (Ne.symm (own_blk_ne HOQ.out HB.out (by decide))); have y8 : w8.cell? ⟨r, 5, none⟩ = some s.vq := b8.cell 5; have z8 := b8.frozen 5; have HB8 := Lib.hid b8; have HW8 := Lib.hid hown8; have HG8 := Lib.hid hgrow8; have HL8 := Lib.hid hloc8; clear hown8 hgrow8 hloc8 b8)
      | (refine wpList_append_any _ rfl (.tmp 12) (.tmp 16) 56 rfl 0 108 i0 (.agg #[.int .i64 0, .int .i64 0]) 2 16 Try.underlying56 HI.out HZ0.out HZ1.out HZ2.out rfl (by omega) (.slice A5 s.flts.length d5) s.flts.length (fltsV s.flts) rfl (HOQ.out.alloc _) (w.heap.size + 1) (some ⟨w.heap.size, 0, none⟩) 1 1 [.int .i64 n, .int .i64 k] rfl (reads_new2 w 108 _ _) (by intro u hu; simp at hu; rcases hu with rfl | rfl <;> rfl) (by simp [maxLen]; omega) (by omega) (Nat.zero_le _) ?_; intro v8 w8 hown8 hgrow8 hloc8; obtain ⟨A8, d8, hv8⟩ := own_slice hown8; subst hv8; have b8 := (HB.out.alloc (.cells #[.int .i64 n, .int .i64 k] 108)).grown hgrow8 (Ne.symm (own_blk_ne HOQ.out HB.out (by decide))); have y8 : w8.cell? ⟨r, 5, none⟩ = some s.vq := b8.cell 5; have z8 := b8.frozen 5; have HB8 := Lib.hid b8; have HW8 := Lib.hid hown8; have HG8 := Lib.hid hgrow8; have HL8 := Lib.hid hloc8; clear hown8 hgrow8 hloc8 b8)))
    go_end0
    have hs8 := HG8.out.size
    rw [World.size_alloc] at hs8
    refine ⟨rfl, { s with flts := s.flts ++ [(max n 0, k)], vq := .slice A8 (s.flts.length + 1) d8 }, H.out.turn _ false false true (by simp [World.setCell]; omega) ?_ (HB8.out.set_ 5 _) (.inl ⟨rfl, rfl, rfl⟩) (.inl ⟨rfl, rfl⟩) (.inl ⟨rfl, rfl⟩) (.inl ⟨rfl, rfl, rfl⟩) (.inr ⟨?_, fun k hk => ?_⟩) H.out.capB, rfl, ?_⟩
    · intro k hk hne _ _ h1
      have h1' := h1 rfl
      rw [HVQ.out] at h1'
      rw [Below.heap_setCell _ _ _ _ hne, HG8.out.block k (by rw [World.size_alloc]; omega) (Ne.symm h1'), Below.heap_alloc _ _ _ hk]
    · have e : (s.flts ++ [(max n 0, k)]).length = s.flts.length + 1 := by simp
      rw [e, fltsV_snoc, HE.out]
      exact ownsRow_setCell_other HW8.out (own_blk_ne HW8.out HB8.out (by decide)) _
    · rcases HL8.out with e | e
      · exact .inl (H.out.flts.rowF k (by rw [HVQ.out, ← e]; exact hk))
      · have hk' : (Value.slice A8 (s.flts.length + 1) d8).ownBlock = some k := hk
        rw [e] at hk'
        injection hk' with hk'
        rw [World.size_alloc] at hk'
        exact .inr (by omega)
    · exact (((Chg.refl F w).alloc _).grown HG8.out (fun g hg => .inl (H.out.flts.rowF g (by rw [HVQ.out]; exact hg)))).setCell (p := ⟨r, 5, none⟩) (.inl H.out.own) _

/-! ### the directory is made durable -/
theorem RefAt.keptSet {w w1 : World} {F : Nat → Prop} {r : Nat} {s : RS} (h : RefAt w F r s) (hb : Below w.heap.size w w1) (d : Dl) (v : Value) (hv : w1.ownsRow w.heap.size 94 2 v d.length (entsV d)) :
    RefAt ((w1.setCell ⟨r, 3, none⟩ v).setCell ⟨r, 4, none⟩ (.slice none 0 0)) (Gr F w) r { s with kept := d, vk := v, pend := [], vp := .slice none 0 0 } := by
  have hr := h.blk.lt
  have hs := hb.size
  refine h.turn _ false true false (by simpa [World.setCell] using hs) ?_ (((h.blk.below hb hr).set_ 3 v).set_ 4 _) (.inl ⟨rfl, rfl, rfl⟩) (.inl ⟨rfl, rfl⟩)
    (.inr ⟨own_low (ownsRow_setCell_below (ownsRow_setCell_below hv (a := ⟨r, 3, none⟩) hr v) (a := ⟨r, 4, none⟩) hr _) (Nat.zero_le _), fun k hk => .inr (hv.lt k hk).1⟩) (.inr (RRow.nil _ _ _ _)) (.inl ⟨rfl, rfl, rfl⟩) h.capB
  intro k hk hne _ _ _
  rw [Below.heap_setCell _ _ _ _ hne, Below.heap_setCell _ _ _ _ hne, hb.block k hk]

theorem entsV_one (l : Dl) : ∀ u ∈ entsV l, u.oneCell' = true := by
  intro u hu
  obtain ⟨x, -, hx⟩ := List.mem_flatMap.1 hu
  simp only [entV, List.mem_cons, List.not_mem_nil, or_false] at hx
  rcases hx with rfl | rfl <;> rfl

set_option maxRecDepth 100000 in
set_option maxHeartbeats 6400000 in
theorem rsyncdir_any (w : World) (F : Nat → Prop) (r : Nat) (s : RS) (n : Nat) (h : RefAt w F r s) (hb : PB n s.pl) (hn : n ≤ 100000) :
    Calls Try.prog 54 #[.pointer (some ⟨r, 0, none⟩)] w (RPost w F r s.pl.syncDir) := by
  obtain ⟨i9, hi9, hz90, hz91, hz92⟩ := info_parts info94
  have HI9 := Lib.hid hi9
  have HZ90 := Lib.hid hz90
  have HZ91 := Lib.hid hz91
  have HZ92 := Lib.hid hz92
  have H := Lib.hid h
  have HPB := Lib.hid hb
  clear h hb hi9 hz90 hz91 hz92
  go_enter Try.func54, Try.ntmps54
  go_wp2_with fail
  refine (rbegin_pb w F r s n H.out HPB.out hn).mono ?_
  rintro e w2 ⟨s2, rfl, hD2, hpl, hc2, hd2, hl2, hf2, hp2⟩
  have hs2 := hc2.size
  have HD := Lib.hid hD2
  have HC := Lib.hid hc2
  have HPL := Lib.hid hpl
  have HDD := Lib.hid hd2
  clear hD2 hc2 hpl hd2
  obtain ⟨why, kd, hk⟩ : ∃ why kd, s.pl.beginC = (why, kd) := ⟨_, _, rfl⟩
  rw [hk]
  have HK := Lib.hid hk
  clear hk
  by_cases hwy : why = 0
  · subst hwy
    obtain ⟨A2, d2, hvd⟩ := own_slice HD.out.dir.row
    have c2 : w2.cell? ⟨r, 2, none⟩ = some (.slice A2 s2.dir.length d2) := (HD.out.blk.cell 2).trans (congrArg some hvd)
    have HVD := Lib.hid hvd
    have hrl := HD.out.blk.lt
    have hb1 : Below w2.heap.size w2 (w2.alloc (.cells #[] 94)) := (Below.refl _ w2).alloc (Nat.le_refl _) _
    have HR1 := Lib.hid ((reads_ents HD.out hvd).below hb1)
    have HB1 := Lib.hid hb1
    have HOW := Lib.hid (World.ownsRow_lit (base := w2.heap.size) (e := 94) (size := 2) w2 #[] 0 (Nat.le_refl _) (Nat.zero_le _) rfl)
    clear hvd hb1
    go_wp2_with (at_builtin; go_loud (refine wpList_append_any _ rfl (.tmp 13) (.tmp 17) 54 rfl w2.heap.size 94 i9 (.agg #[.string ⟨#[]⟩, .int .i64 0]) 2 24 Try.underlying54 HI9.out HZ90.out HZ91.out HZ92.out rfl (by omega) (.slice (some ⟨w2.heap.size, 0, none⟩) 0 0) 0 [] rfl HOW.out w2.heap.size A2 s2.dir.length d2 (entsV s2.dir) rfl HR1.out (entsV_one _) (by simp [maxLen]; omega) (by omega) (by simp) ?_; intro v4 w4 hown4 hgrow4 _; rw [Nat.zero_add, List.nil_append] at hown4; obtain ⟨A4, d4, hv4⟩ := own_slice hown4; subst hv4; have hb4 := HB1.out.grown hgrow4 (by simp) (fun k hk => by cases hk; exact Nat.le_refl _); have b4 := HD.out.blk.below hb4 hrl; have y3 : w4.cell? ⟨r, 3, none⟩ = some s2.vk := b4.cell 3; have z3 := b4.frozen 3; have y4 : (w4.setCell ⟨r, 3, none⟩ (.slice A4 s2.dir.length d4)).cell? ⟨r, 4, none⟩ = some s2.vp := (b4.set_ 3 _).cell 4; have z4 := (b4.set_ 3 (.slice A4 s2.dir.length d4)).frozen 4; have HW4 := Lib.hid hown4; have HB4 := Lib.hid hb4; clear hown4 hgrow4 hb4 b4))
    refine bodyPost_ret (results_tmp rfl _ _ _) rfl ?_
    have ex : s.pl.syncDir = (0, { s.pl.begun with kept := s.pl.dir, pend := [] }) := by unfold PS.syncDir; rw [HK.out]; rfl
    rw [ex]
    refine ⟨_, rfl, (HD.out.keptSet HB4.out _ _ HW4.out).inF (fun k hk => Gr.mono hs2 k hk), ?_, ?_⟩
    · rw [← HPL.out]
      show _ = PS.mk _ _ _ s.dir _ _ _ _
      rw [← HDD.out]; rfl
    · exact ((HC.out.below HB4.out hs2).setCell (p := ⟨r, 3, none⟩) (.inl H.out.own) _).setCell (p := ⟨r, 4, none⟩) (.inl H.out.own) _
  · have hq : (why == 0) = false := by simp [hwy]
    have HWY := Lib.hid hwy
    clear hwy
    go_wp2
    refine bodyPost_ret (results_tmp rfl _ _ _) rfl ?_
    have ex : s.pl.syncDir = (why, s.pl.begun) := by unfold PS.syncDir; rw [HK.out, if_neg HWY.out]
    rw [ex]
    exact ⟨s2, rfl, HD.out, HPL.out, HC.out⟩
end Go.Proofs.Ytfeglchngekedaa
namespace Go.Proofs.Ytfeglchngekedaa
open Go.RowKit Go.Shelf Go.Maps

theorem RefAt.fileKept {w : World} {F : Nat → Prop} {r : Nat} {s : RS} (h : RefAt w F r s) (f : Nat) (hf : f < s.files.length) {g L c : Nat} (hL : L = s.files.length) (hv : s.vf = .slice (some ⟨g, 0, none⟩) L c) {lx : Nat} (hlx : lx = s.files[f].bs.length) :
    RefAt (w.setCell ⟨g, f * 2 + 1, none⟩ (.int .i64 (lx : Int))) (Gr F w) r { s with files := s.files.set f ⟨s.files[f].v, s.files[f].bs, s.files[f].bs.length⟩ } := by
  subst hL
  subst hlx
  have hrow := h.files.row
  rw [hv] at hrow
  have hgr : r ≠ g := fun e => own_blk_ne hrow h.blk (by decide) (by rw [e]; rfl)
  refine h.turn _ true false false (by simp [World.setCell]) ?_ (h.blk.far hgr _) (.inr ⟨⟨?_, fun k hk => .inl (h.files.rowF k hk)⟩, fun x hx' => ?_⟩) (.inl ⟨rfl, rfl⟩) (.inl ⟨rfl, rfl⟩) (.inl ⟨rfl, rfl, rfl⟩) (.inl ⟨rfl, rfl, rfl⟩) h.capB
  · intro k hk _ h1 _ _
    have hkg : k ≠ g := fun e => h1 rfl (by rw [hv, e]; rfl)
    rw [Below.heap_setCell _ _ _ _ hkg]
  · show (w.setCell ⟨g, f * 2 + 1, none⟩ (.int .i64 (s.files[f].bs.length : Int))).ownsRow 0 88 2 s.vf (s.files.set f ⟨s.files[f].v, s.files[f].bs, s.files[f].bs.length⟩).length (rfsV (s.files.set f ⟨s.files[f].v, s.files[f].bs, s.files[f].bs.length⟩))
    rw [rfsV_setk s.files f hf, List.length_set, hv]
    exact own_set hrow (f * 2 + 1) _
  · have hx' : x ∈ s.files.set f ⟨s.files[f].v, s.files[f].bs, s.files[f].bs.length⟩ := hx'
    rcases List.mem_or_eq_of_mem_set hx' with hx' | rfl
    · exact .inl ⟨x, hx', rfl, rfl, (h.bytes x hx').le⟩
    · exact .inl ⟨_, List.getElem_mem hf, rfl, rfl, Nat.le_refl _⟩

set_option maxRecDepth 100000 in
set_option maxHeartbeats 6400000 in
theorem rsync_any (w : World) (F : Nat → Prop) (r : Nat) (s : RS) (n : Nat) (nm : ByteArray) (h : RefAt w F r s) (hb : PB n s.pl) (hn : n ≤ 100000) (hnm : nm.size ≤ 9223372036854775807) :
    Calls Try.prog 49 #[.pointer (some ⟨r, 0, none⟩), .string nm] w (RPost w F r (s.pl.sync nm)) := by
  have H := Lib.hid h
  have HPB := Lib.hid hb
  clear h hb
  go_enter Try.func49, Try.ntmps49
  go_wp2_with fail
  refine (rbegin_pb w F r s n H.out HPB.out hn).mono ?_
  rintro e w2 ⟨s2, rfl, hD2, hpl, hc2, hd2, hl2, hf2, hp2⟩
  have hs2 := hc2.size
  have hfi : ∀ e ∈ s2.dir, e.2 < s2.files.length := by
    intro e he
    have e1 := congrArg (fun x => x.files.length) hpl
    simp only [RS.pl, PS.begun, List.length_map] at e1
    rw [hd2] at he
    have := HPB.out.dirF e he
    simp only [RS.pl, List.length_map] at this
    omega
  have HFI := Lib.hid hfi
  have HD := Lib.hid hD2
  have HC := Lib.hid hc2
  have HPL := Lib.hid hpl
  have HDD := Lib.hid hd2
  clear hD2 hc2 hpl hd2 hfi
  obtain ⟨why, kd, hk⟩ : ∃ why kd, s.pl.beginC = (why, kd) := ⟨_, _, rfl⟩
  rw [hk]
  have HK := Lib.hid hk
  clear hk
  obtain ⟨A2, d2, hvd⟩ := own_slice HD.out.dir.row
  have c2 : w2.cell? ⟨r, 2, none⟩ = some (.slice A2 s2.dir.length d2) := (HD.out.blk.cell 2).trans (congrArg some hvd)
  have HVD := Lib.hid hvd
  obtain ⟨A1, d1, hvf⟩ := own_slice HD.out.files.row
  have c1 : w2.cell? ⟨r, 1, none⟩ = some (.slice A1 s2.files.length d1) := (HD.out.blk.cell 1).trans (congrArg some hvf)
  have HVF := Lib.hid hvf
  have hrl := HD.out.blk.lt
  clear hvd hvf
  go_wp2_with fail
  refine (at_any w2 _ A2 d2 s2.dir nm (reads_ents HD.out HVD.out) (by omega)).mono ?_
  rintro e w3 ⟨rfl, rfl⟩
  obtain ⟨az, haz⟩ : ∃ az, az = atZ s2.dir nm.data.toList := ⟨_, rfl⟩
  rw [← haz]
  have HAZ := Lib.hid haz
  clear haz
  by_cases hwy : why = 0
  · subst hwy
    go_wp2_with fail
    refine (rright_any nm w2 hnm).mono ?_
    rintro e w3 ⟨rfl, rfl⟩
    cases hrt : rightB nm with
    | false =>
      have HRT := Lib.hid hrt
      clear hrt
      go_wp2
      refine bodyPost_ret (results_tmp rfl _ _ _) rfl ?_
      have ex : s.pl.sync nm = (2, s.pl.begun) := by unfold PS.sync; rw [HK.out, HRT.out]; rfl
      rw [ex]
      exact ⟨s2, rfl, HD.out, HPL.out, HC.out⟩
    | true =>
      have HRT := Lib.hid hrt
      clear hrt
      rcases atZ_cases s2.dir nm.data.toList with ⟨hdg, haz⟩ | ⟨k, hk, haz, hnk, hdg⟩
      · obtain rfl : az = -1 := HAZ.out.trans haz
        have HDG := Lib.hid hdg
        clear hdg haz
        go_wp2
        refine bodyPost_ret (results_tmp rfl _ _ _) rfl ?_
        have ex : s.pl.sync nm = (3, s.pl.begun) := by
          unfold PS.sync
          rw [HK.out, HRT.out, if_pos rfl, if_pos rfl, show s.pl.dir = s2.dir from HDD.out.symm, HDG.out]
        rw [ex]
        exact ⟨s2, rfl, HD.out, HPL.out, HC.out⟩
      · obtain rfl : az = (k : Int) := HAZ.out.trans haz
        obtain ⟨gA, rfl, -, x1⟩ := cell_dir HD.out HVD.out k hk
        have hfl := HFI.out _ (List.getElem_mem hk)
        obtain ⟨f, hf⟩ : ∃ f, f = s2.dir[k].2 := ⟨_, rfl⟩
        rw [← hf] at x1 hdg hfl
        have HDG := Lib.hid hdg
        obtain ⟨gF, rfl, xv, xk, -, zk⟩ := cell_file HD.out HVF.out f hfl
        obtain ⟨⟨Ax, cx, hxv, -, -, -⟩, -⟩ := HD.out.bytes _ (List.getElem_mem hfl)
        rw [hxv] at xv
        have HXV := Lib.hid hxv
        obtain ⟨lx, hlx⟩ : ∃ lx, lx = s2.files[f].bs.length := ⟨_, rfl⟩
        rw [← hlx] at xv
        have HLX := Lib.hid hlx
        obtain ⟨N, hN⟩ : ∃ N, N = s2.files.length := ⟨_, rfl⟩
        rw [← hN] at c1 HVF
        have hf' : f < N := by omega
        have HN := Lib.hid hN
        have hgF : gF < w2.heap.size := (HD.out.files.row.lt gF (by rw [HVF.out]; rfl)).2
        clear hdg haz hnk hf hxv hlx hN
        go_upto_region 10 with fail
        go_region
        all_goals
          go_wp2
          refine bodyPost_ret (results_tmp rfl _ _ _) rfl ?_
          have ex : s.pl.sync nm = (0, s.pl.begun.synced f) := by
            unfold PS.sync
            rw [HK.out, HRT.out, if_pos rfl, if_pos rfl, show s.pl.dir = s2.dir from HDD.out.symm, HDG.out]
          rw [ex]
          refine ⟨_, rfl, (HD.out.fileKept f hfl HN.out HVF.out HLX.out).drewN 1 |>.inF (fun k hk => Gr.mono hs2 k hk), ?_, ?_⟩
          · rw [← HPL.out]
            show RS.pl { s2 with files := _ } = _
            unfold RS.pl PS.synced
            rw [map_set_kept s2.files f hfl]
          · exact HC.out.drew.setCell (p := ⟨gF, f * 2 + 1, none⟩) (HD.out.files.rowF gF (by rw [HVF.out]; rfl)) _
  · have hq : (why != 0) = true := by simp [hwy]
    have HWY := Lib.hid hwy
    clear hwy
    go_wp2
    refine bodyPost_ret (results_tmp rfl _ _ _) rfl ?_
    have ex : s.pl.sync nm = (why, s.pl.begun) := by unfold PS.sync; rw [HK.out, if_neg HWY.out]
    rw [ex]
    exact ⟨s2, rfl, HD.out, HPL.out, HC.out⟩
end Go.Proofs.Ytfeglchngekedaa
namespace Go.Proofs.Ytfeglchngekedaa
open Go.RowKit Go.Shelf Go.Maps

theorem radd_n (w : World) (F : Nat → Prop) (r : Nat) (s : RS) (f : Nat) (A : Option Addr) (c : Nat) (b : List UInt8) (n : Nat) (hn : n = b.length) (h : RefAt w F r s) (hf : f < s.files.length) (hR : Reads w w.heap.size 1 A n (bytesV b)) (hbl : n ≤ 100000)
    (hfl : ∀ x ∈ s.files, x.bs.length ≤ 1000000000) : Calls Try.prog 46 #[.pointer (some ⟨r, 0, none⟩), .int .i64 (f : Int), .slice A n c] w (RDone w F r (s.pl.add f b)) := by
  subst hn
  exact radd_any w F r s f A c b h hf hR hbl (hfl _ (List.getElem_mem hf))
theorem beginC_cases (x : PS) : x.beginC = (7, 0) ∨ x.beginC = (0, 0) ∨ x.beginC = (6, 1) ∨ x.beginC = (6, 2) := by
  unfold PS.beginC
  split
  · exact .inl rfl
  · split
    · exact .inr (.inl rfl)
    · rcases rstruck_range x.flts with e | e | e
      · contradiction
      · rw [e]; exact .inr (.inr (.inl rfl))
      · rw [e]; exact .inr (.inr (.inr rfl))
theorem sumB_le (l : List Nat) (B : Nat) (h : ∀ x ∈ l, x ≤ B) : l.sum ≤ l.length * B := by
  induction l with
  | nil => simp
  | cons a l ih =>
    have h1 := h a List.mem_cons_self
    have h2 := ih (fun x hx => h x (List.mem_cons_of_mem _ hx))
    have h3 : (l.length + 1) * B = l.length * B + B := Nat.succ_mul _ _
    simp only [List.sum_cons, List.length_cons]
    omega
theorem rused_le (s : RS) (hdl : s.dir.length ≤ 100000) (hfi : ∀ e ∈ s.dir, e.2 < s.files.length) (hby : ∀ x ∈ s.files, x.bs.length ≤ 1000000000) : s.pl.used ≤ 100000000000000 := by
  unfold PS.used
  have h1 := sumB_le (s.dir.map fun e => flen s.pl.files e.2) 1000000000 (fun x hx => by
    obtain ⟨e, he, rfl⟩ := List.mem_map.1 hx
    rw [flen_pl s e.2 (hfi e he)]
    exact hby _ (List.getElem_mem _))
  rw [List.length_map] at h1
  have h2 : s.dir.length * 1000000000 ≤ 100000 * 1000000000 := Nat.mul_le_mul_right _ hdl
  show (s.dir.map fun e => flen s.pl.files e.2).sum ≤ _
  omega

theorem half_len (b : List UInt8) : b.length / 2 = (b.take (b.length / 2)).length := by rw [List.length_take]; omega
theorem half_reads {w : World} {B : Nat} {A : Option Addr} {b : List UInt8} (h : Reads w B 1 A b.length (bytesV b)) {w' : World} (hw : w'.heap = w.heap := by rfl) : Reads w' B 1 A (b.length / 2) (bytesV (b.take (b.length / 2))) := by
  have h9 := h.take (k := b.length / 2) (by omega)
  rw [show (bytesV b).take (b.length / 2 * 1) = bytesV (b.take (b.length / 2)) by simp [bytesV, List.map_take]] at h9
  refine ⟨h9.1, fun h0 => ?_⟩
  obtain ⟨ad, e, hlt, hc⟩ := h9.2 h0
  exact ⟨ad, e, hlt, fun j u hu => (World.cell?_of_block (a := ad.add j) (by rw [hw])).trans (hc j u hu)⟩

set_option maxRecDepth 100000 in
set_option maxHeartbeats 12800000 in
theorem rappend_any (w : World) (F : Nat → Prop) (r : Nat) (s : RS) (n : Nat) (nm : ByteArray) (A : Option Addr) (c : Nat) (b : List UInt8) (h : RefAt w F r s) (hb : PB n s.pl) (hn : n ≤ 100000) (hnm : nm.size ≤ 9223372036854775807)
    (hR : Reads w w.heap.size 1 A b.length (bytesV b)) (hA : 0 < b.length → ∀ ad, A = some ad → ¬ F ad.block) (hbc : b.length ≤ c) (hbl : b.length ≤ 1000) :
    Calls Try.prog 21 #[.pointer (some ⟨r, 0, none⟩), .string nm, .slice A b.length c] w (RPost w F r (s.pl.append nm b)) := by
  have H := Lib.hid h
  have HPB := Lib.hid hb
  have HR := Lib.hid hR
  have HA := Lib.hid hA
  clear h hb hR hA
  go_enter Try.func21, Try.ntmps21
  go_wp2_with fail
  refine (rbegin_pb w F r s n H.out HPB.out hn).mono ?_
  rintro e w2 ⟨s2, rfl, hD2, hpl, hc2, hd2, hl2, hf2, hp2⟩
  have hs2 := hc2.size
  have hfi : ∀ e ∈ s2.dir, e.2 < s2.files.length := by
    intro e he
    have e1 := congrArg (fun x => x.files.length) hpl
    simp only [RS.pl, PS.begun, List.length_map] at e1
    rw [hd2] at he
    have := HPB.out.dirF e he
    simp only [RS.pl, List.length_map] at this
    omega
  have hby : ∀ x ∈ s2.files, x.bs.length ≤ 1000000000 := by
    intro x hx
    have e1 : s2.files.map RF.pl = s.files.map RF.pl := congrArg PS.files hpl
    have h1 := HPB.out.bytesL x.pl (by show x.pl ∈ s.files.map RF.pl; rw [← e1]; exact List.mem_map_of_mem hx)
    have h2 : x.bs.length ≤ 1000 * n := h1.1
    omega
  have hcap : s2.cap = s.pl.cap := congrArg PS.cap hpl
  have hus : s2.pl.used = s.pl.used := by rw [hpl]; rfl
  have hul := rused_le s2 hl2 hfi hby
  have hR2 : Reads w2 w2.heap.size 1 A b.length (bytesV b) := ⟨HR.out.1, fun h0 => by
    obtain ⟨ad, e, hlt, hcell⟩ := HR.out.2 h0
    refine ⟨ad, e, by omega, fun j u hu => (World.cell?_of_block (a := ad.add j) ?_).trans (hcell j u hu)⟩
    rw [block_of_add]
    exact hc2.block _ hlt (HA.out h0 ad e)⟩
  have hcb := hD2.capB
  have c0 : w2.cell? ⟨r, 0, none⟩ = some (.int .i64 s2.cap) := hD2.blk.cell 0
  have HR2 := Lib.hid hR2
  have HFI := Lib.hid hfi
  have HBY := Lib.hid hby
  have HD := Lib.hid hD2
  have HC := Lib.hid hc2
  have HPL := Lib.hid hpl
  have HDD := Lib.hid hd2
  have HCAP := Lib.hid hcap
  have HUS := Lib.hid hus
  obtain ⟨U, hU⟩ : ∃ U, U = s2.pl.used := ⟨_, rfl⟩
  rw [← hU] at hul
  have HU := Lib.hid hU
  clear hD2 hc2 hpl hd2 hfi hby hR2 hcap hus hU
  have hfit : s.pl.fits nm b.length = if rightB nm = true then (match dget s2.dir nm.data.toList with | some _ => if b.length = 0 ∨ (b.length : Int) ≤ s2.cap - (U : Int) then 0 else 5 | none => 3) else 2 := by
    unfold PS.fits
    rw [show s.pl.dir = s2.dir from HDD.out.symm, ← HCAP.out, ← HUS.out, ← HU.out]
    rfl
  have HFIT := Lib.hid hfit
  clear hfit
  obtain ⟨A2, d2, hvd⟩ := own_slice HD.out.dir.row
  have c2 : w2.cell? ⟨r, 2, none⟩ = some (.slice A2 s2.dir.length d2) := (HD.out.blk.cell 2).trans (congrArg some hvd)
  have HVD := Lib.hid hvd
  have hrl := HD.out.blk.lt
  clear hvd
  have hdone : ∀ (code : Int) (w4 : World), (∃ q, w4 = w2.drewN q) → s.pl.append nm b = (code, s.pl.begun) → RPost w F r (s.pl.append nm b) (.returned (.int .i64 code)) w4 := by
    rintro code w4 ⟨q, rfl⟩ e
    rw [e]
    exact ⟨s2, rfl, HD.out.drewN q, HPL.out, HC.out.drewN q⟩
  have HDONE := Lib.hid hdone
  clear hdone
  have hput : ∀ (code : Int) (bb : List UInt8) (f : Nat) (w4 w5 : World) (e : Ending), (∃ q, w4 = w2.drewN q) → dget s2.dir nm.data.toList = some f → s.pl.append nm b = (code, s.pl.begun.addTo nm.data.toList bb) → RDone w4 (Gr F w) r (s2.pl.add f bb) e w5 → RPost w F r (s.pl.append nm b) (.returned (.int .i64 code)) w5 := by
    rintro code bb f w4 w5 e0 ⟨q, rfl⟩ hd e ⟨-, s', hD', hp', hC'⟩
    rw [e]
    refine ⟨s', rfl, hD'.inF (fun k hk => Gr.mono hs2 k hk), ?_, (HC.out.drewN q).trans hC' (fun x hx => hx)⟩
    rw [hp', HPL.out]
    show s.pl.begun.add f bb = s.pl.begun.addTo nm.data.toList bb
    unfold PS.addTo
    rw [show s.pl.begun.dir = s2.dir from HDD.out.symm, hd]
  have HPUT := Lib.hid hput
  clear hput
  rcases beginC_cases s.pl with hk | hk | hk | hk
  · have HK := Lib.hid hk
    rw [hk]
    clear hk
    go_wp2
    refine bodyPost_ret (results_tmp rfl _ _ _) rfl ?_
    exact HDONE.out 7 w2 ⟨0, rfl⟩ (by unfold PS.append; rw [HK.out]; rfl)
  · have HK := Lib.hid hk
    rw [hk]
    clear hk
    go_wp2_with fail
    refine (at_any w2 _ A2 d2 s2.dir nm (reads_ents HD.out HVD.out) (by omega)).mono ?_
    rintro e w3 ⟨rfl, rfl⟩
    have CALL17 := Lib.hid (fun (q : Nat) => rright_any nm (w2.drewN q) hnm)
    have CALL45 := Lib.hid (fun (q : Nat) => HU.out ▸ rused_any (w2.drewN q) (Gr F w) r s2 (HD.out.drewN q) hl2 HFI.out HBY.out)
    obtain ⟨az, haz⟩ : ∃ az, az = atZ s2.dir nm.data.toList := ⟨_, rfl⟩
    rw [← haz]
    have HAZ := Lib.hid haz
    clear haz
    cases hrt : rightB nm with
    | false =>
      rw [hrt] at CALL17
      have HRT := Lib.hid hrt
      clear hrt
      have hno : s.pl.fits nm b.length = 2 := by rw [HFIT.out, HRT.out]; rfl
      have HNO := Lib.hid hno
      clear hno
      go_upto_region 5 with fail
      go_quiet ((first | (go_at_call 17; exact (CALL17.out _).mono fun _ _ ⟨he, hm⟩ => ⟨he, _, hm.symm⟩) | (go_at_call 45; exact Calls.quiet_of (CALL45.out _))))
      try clear hwr
      go_wp2_with fail
      refine (CALL17.out _).mono ?_
      rintro e w3 ⟨rfl, rfl⟩
      go_wp2
      refine bodyPost_ret (results_tmp rfl _ _ _) rfl ?_
      exact HDONE.out 2 _ ⟨_, rfl⟩ (by unfold PS.append; rw [HK.out, HNO.out]; rfl)
    | true =>
      rw [hrt] at CALL17
      have HRT := Lib.hid hrt
      clear hrt
      rcases atZ_cases s2.dir nm.data.toList with ⟨hdg, haz⟩ | ⟨k, hk, haz, hnk, hdg⟩
      · obtain rfl : az = -1 := HAZ.out.trans haz
        have hno : s.pl.fits nm b.length = 3 := by rw [HFIT.out, HRT.out, if_pos rfl, hdg]
        have HNO := Lib.hid hno
        clear hno hdg haz
        go_upto_region 5 with fail
        go_quiet ((first | (go_at_call 17; exact (CALL17.out _).mono fun _ _ ⟨he, hm⟩ => ⟨he, _, hm.symm⟩) | (go_at_call 45; exact Calls.quiet_of (CALL45.out _))))
        try clear hwr
        go_wp2_with fail
        refine (CALL17.out _).mono ?_
        rintro e w3 ⟨rfl, rfl⟩
        go_wp2
        refine bodyPost_ret (results_tmp rfl _ _ _) rfl ?_
        exact HDONE.out 3 _ ⟨_, rfl⟩ (by unfold PS.append; rw [HK.out, HNO.out]; rfl)
      · obtain rfl : az = (k : Int) := HAZ.out.trans haz
        obtain ⟨gA, rfl, -, x1⟩ := cell_dir HD.out HVD.out k hk
        have hfl := HFI.out _ (List.getElem_mem hk)
        obtain ⟨f, hf⟩ : ∃ f, f = s2.dir[k].2 := ⟨_, rfl⟩
        rw [← hf] at x1 hdg hfl
        have HDG := Lib.hid hdg
        have hgA : gA < w2.heap.size := (HD.out.dir.row.lt gA (by rw [HVD.out]; rfl)).2
        have hi1 : (k : Int) < (s2.dir.length : Int) := by omega
        clear hdg haz hnk hf
        by_cases h0 : b.length = 0
        · have hno : s.pl.fits nm b.length = 0 := by rw [HFIT.out, HRT.out, if_pos rfl, HDG.out]; simp [h0]
          have HNO := Lib.hid hno
          have HB0 := Lib.hid h0
          obtain rfl : b = [] := List.eq_nil_of_length_eq_zero h0
          clear hno h0
          go_upto_region 5 with fail
          go_quiet ((first | (go_at_call 17; exact (CALL17.out _).mono fun _ _ ⟨he, hm⟩ => ⟨he, _, hm.symm⟩) | (go_at_call 45; exact Calls.quiet_of (CALL45.out _))))
          try clear hwr
          go_wp2_with fail
          refine (CALL17.out _).mono ?_
          rintro e w3 ⟨rfl, rfl⟩
          go_wp2_with fail
          refine (radd_n _ (Gr F w) r s2 f A c [] 0 rfl (by exact HD.out.drewN _) hfl (by exact HR2.out.drewN _) (by omega) HBY.out).mono ?_
          intro e w5 hdn
          have HDN := Lib.hid (HPUT.out 0 [] f _ w5 e ⟨_, rfl⟩ HDG.out (by unfold PS.append; rw [HK.out, HNO.out]; rfl) hdn)
          obtain ⟨rfl, -⟩ := hdn
          go_wp2
          refine bodyPost_ret (results_tmp rfl _ _ _) rfl ?_
          exact HDN.out
        · have h0' : ((b.length : Int) == 0) = false := beq_false_of_ne (by omega)
          by_cases hft : (b.length : Int) ≤ s2.cap - (U : Int)
          · have hno : s.pl.fits nm b.length = 0 := by rw [HFIT.out, HRT.out, if_pos rfl, HDG.out]; exact if_pos (.inr hft)
            have HNO := Lib.hid hno
            clear hno
            have hwr : IntKind.i64.wrap (s2.cap - (U : Int)) = s2.cap - (U : Int) := IntWalk.i64_in _ (by omega)
            go_upto_region 5 with fail
            go_quiet ((first | (go_at_call 17; exact (CALL17.out _).mono fun _ _ ⟨he, hm⟩ => ⟨he, _, hm.symm⟩) | (go_at_call 45; exact Calls.quiet_of (CALL45.out _))))
            try clear hwr
            go_wp2_with fail
            refine (CALL17.out _).mono ?_
            rintro e w3 ⟨rfl, rfl⟩
            go_wp2_with fail
            refine (radd_n _ (Gr F w) r s2 f A c b _ rfl (by exact HD.out.drewN _) hfl (by exact HR2.out.drewN _) (by omega) HBY.out).mono ?_
            intro e w5 hdn
            have HDN := Lib.hid (HPUT.out 0 b f _ w5 e ⟨_, rfl⟩ HDG.out (by unfold PS.append; rw [HK.out, HNO.out]; rfl) hdn)
            obtain ⟨rfl, -⟩ := hdn
            go_wp2
            refine bodyPost_ret (results_tmp rfl _ _ _) rfl ?_
            exact HDN.out
          · have hno : s.pl.fits nm b.length = 5 := by rw [HFIT.out, HRT.out, if_pos rfl, HDG.out]; exact if_neg (by omega)
            have hft' : decide ((b.length : Int) ≤ s2.cap - (U : Int)) = false := by simpa using hft
            have HNO := Lib.hid hno
            clear hno
            have hwr : IntKind.i64.wrap (s2.cap - (U : Int)) = s2.cap - (U : Int) := IntWalk.i64_in _ (by omega)
            go_upto_region 5 with fail
            go_quiet ((first | (go_at_call 17; exact (CALL17.out _).mono fun _ _ ⟨he, hm⟩ => ⟨he, _, hm.symm⟩) | (go_at_call 45; exact Calls.quiet_of (CALL45.out _))))
            try clear hwr
            go_wp2_with fail
            refine (CALL17.out _).mono ?_
            rintro e w3 ⟨rfl, rfl⟩
            go_wp2
            refine bodyPost_ret (results_tmp rfl _ _ _) rfl ?_
            exact HDONE.out 5 _ ⟨_, rfl⟩ (by unfold PS.append; rw [HK.out, HNO.out]; rfl)
  · have HK := Lib.hid hk
    rw [hk]
    clear hk
    go_wp2_with fail
    refine (at_any w2 _ A2 d2 s2.dir nm (reads_ents HD.out HVD.out) (by omega)).mono ?_
    rintro e w3 ⟨rfl, rfl⟩
    have CALL17 := Lib.hid (fun (q : Nat) => rright_any nm (w2.drewN q) hnm)
    have CALL45 := Lib.hid (fun (q : Nat) => HU.out ▸ rused_any (w2.drewN q) (Gr F w) r s2 (HD.out.drewN q) hl2 HFI.out HBY.out)
    obtain ⟨az, haz⟩ : ∃ az, az = atZ s2.dir nm.data.toList := ⟨_, rfl⟩
    rw [← haz]
    have HAZ := Lib.hid haz
    clear haz
    cases hrt : rightB nm with
    | false =>
      rw [hrt] at CALL17
      have HRT := Lib.hid hrt
      clear hrt
      have hno : s.pl.fits nm b.length = 2 := by rw [HFIT.out, HRT.out]; rfl
      have HNO := Lib.hid hno
      clear hno
      go_upto_region 5 with fail
      go_quiet ((first | (go_at_call 17; exact (CALL17.out _).mono fun _ _ ⟨he, hm⟩ => ⟨he, _, hm.symm⟩) | (go_at_call 45; exact Calls.quiet_of (CALL45.out _))))
      try clear hwr
      go_wp2
      refine bodyPost_ret (results_tmp rfl _ _ _) rfl ?_
      exact HDONE.out 6 _ ⟨_, rfl⟩ (by unfold PS.append; rw [HK.out, HNO.out]; rfl)
    | true =>
      rw [hrt] at CALL17
      have HRT := Lib.hid hrt
      clear hrt
      rcases atZ_cases s2.dir nm.data.toList with ⟨hdg, haz⟩ | ⟨k, hk, haz, hnk, hdg⟩
      · obtain rfl : az = -1 := HAZ.out.trans haz
        have hno : s.pl.fits nm b.length = 3 := by rw [HFIT.out, HRT.out, if_pos rfl, hdg]
        have HNO := Lib.hid hno
        clear hno hdg haz
        go_upto_region 5 with fail
        go_quiet ((first | (go_at_call 17; exact (CALL17.out _).mono fun _ _ ⟨he, hm⟩ => ⟨he, _, hm.symm⟩) | (go_at_call 45; exact Calls.quiet_of (CALL45.out _))))
        try clear hwr
        go_wp2
        refine bodyPost_ret (results_tmp rfl _ _ _) rfl ?_
        exact HDONE.out 6 _ ⟨_, rfl⟩ (by unfold PS.append; rw [HK.out, HNO.out]; rfl)
      · obtain rfl : az = (k : Int) := HAZ.out.trans haz
        obtain ⟨gA, rfl, -, x1⟩ := cell_dir HD.out HVD.out k hk
        have hfl := HFI.out _ (List.getElem_mem hk)
        obtain ⟨f, hf⟩ : ∃ f, f = s2.dir[k].2 := ⟨_, rfl⟩
        rw [← hf] at x1 hdg hfl
        have HDG := Lib.hid hdg
        have hgA : gA < w2.heap.size := (HD.out.dir.row.lt gA (by rw [HVD.out]; rfl)).2
        have hi1 : (k : Int) < (s2.dir.length : Int) := by omega
        clear hdg haz hnk hf
        by_cases h0 : b.length = 0
        · have hno : s.pl.fits nm b.length = 0 := by rw [HFIT.out, HRT.out, if_pos rfl, HDG.out]; simp [h0]
          have HNO := Lib.hid hno
          have HB0 := Lib.hid h0
          obtain rfl : b = [] := List.eq_nil_of_length_eq_zero h0
          clear hno h0
          go_upto_region 5 with fail
          go_quiet ((first | (go_at_call 17; exact (CALL17.out _).mono fun _ _ ⟨he, hm⟩ => ⟨he, _, hm.symm⟩) | (go_at_call 45; exact Calls.quiet_of (CALL45.out _))))
          try clear hwr
          go_wp2
          refine bodyPost_ret (results_tmp rfl _ _ _) rfl ?_
          exact HDONE.out 6 _ ⟨_, rfl⟩ (by unfold PS.append; rw [HK.out, HNO.out]; rfl)
        · have h0' : ((b.length : Int) == 0) = false := beq_false_of_ne (by omega)
          by_cases hft : (b.length : Int) ≤ s2.cap - (U : Int)
          · have hno : s.pl.fits nm b.length = 0 := by rw [HFIT.out, HRT.out, if_pos rfl, HDG.out]; exact if_pos (.inr hft)
            have HNO := Lib.hid hno
            clear hno
            have hwr : IntKind.i64.wrap (s2.cap - (U : Int)) = s2.cap - (U : Int) := IntWalk.i64_in _ (by omega)
            go_upto_region 5 with fail
            go_quiet ((first | (go_at_call 17; exact (CALL17.out _).mono fun _ _ ⟨he, hm⟩ => ⟨he, _, hm.symm⟩) | (go_at_call 45; exact Calls.quiet_of (CALL45.out _))))
            try clear hwr
            go_wp2
            refine bodyPost_ret (results_tmp rfl _ _ _) rfl ?_
            exact HDONE.out 6 _ ⟨_, rfl⟩ (by unfold PS.append; rw [HK.out, HNO.out]; rfl)
          · have hno : s.pl.fits nm b.length = 5 := by rw [HFIT.out, HRT.out, if_pos rfl, HDG.out]; exact if_neg (by omega)
            have hft' : decide ((b.length : Int) ≤ s2.cap - (U : Int)) = false := by simpa using hft
            have HNO := Lib.hid hno
            clear hno
            have hwr : IntKind.i64.wrap (s2.cap - (U : Int)) = s2.cap - (U : Int) := IntWalk.i64_in _ (by omega)
            go_upto_region 5 with fail
            go_quiet ((first | (go_at_call 17; exact (CALL17.out _).mono fun _ _ ⟨he, hm⟩ => ⟨he, _, hm.symm⟩) | (go_at_call 45; exact Calls.quiet_of (CALL45.out _))))
            try clear hwr
            go_wp2
            refine bodyPost_ret (results_tmp rfl _ _ _) rfl ?_
            exact HDONE.out 6 _ ⟨_, rfl⟩ (by unfold PS.append; rw [HK.out, HNO.out]; rfl)
  · have HK := Lib.hid hk
    rw [hk]
    clear hk
    go_wp2_with fail
    refine (at_any w2 _ A2 d2 s2.dir nm (reads_ents HD.out HVD.out) (by omega)).mono ?_
    rintro e w3 ⟨rfl, rfl⟩
    have CALL17 := Lib.hid (fun (q : Nat) => rright_any nm (w2.drewN q) hnm)
    have CALL45 := Lib.hid (fun (q : Nat) => HU.out ▸ rused_any (w2.drewN q) (Gr F w) r s2 (HD.out.drewN q) hl2 HFI.out HBY.out)
    obtain ⟨az, haz⟩ : ∃ az, az = atZ s2.dir nm.data.toList := ⟨_, rfl⟩
    rw [← haz]
    have HAZ := Lib.hid haz
    clear haz
    cases hrt : rightB nm with
    | false =>
      rw [hrt] at CALL17
      have HRT := Lib.hid hrt
      clear hrt
      have hno : s.pl.fits nm b.length = 2 := by rw [HFIT.out, HRT.out]; rfl
      have HNO := Lib.hid hno
      clear hno
      go_upto_region 5 with fail
      go_quiet ((first | (go_at_call 17; exact (CALL17.out _).mono fun _ _ ⟨he, hm⟩ => ⟨he, _, hm.symm⟩) | (go_at_call 45; exact Calls.quiet_of (CALL45.out _))))
      try clear hwr
      go_wp2
      refine bodyPost_ret (results_tmp rfl _ _ _) rfl ?_
      exact HDONE.out 6 _ ⟨_, rfl⟩ (by unfold PS.append; rw [HK.out, HNO.out]; rfl)
    | true =>
      rw [hrt] at CALL17
      have HRT := Lib.hid hrt
      clear hrt
      rcases atZ_cases s2.dir nm.data.toList with ⟨hdg, haz⟩ | ⟨k, hk, haz, hnk, hdg⟩
      · obtain rfl : az = -1 := HAZ.out.trans haz
        have hno : s.pl.fits nm b.length = 3 := by rw [HFIT.out, HRT.out, if_pos rfl, hdg]
        have HNO := Lib.hid hno
        clear hno hdg haz
        go_upto_region 5 with fail
        go_quiet ((first | (go_at_call 17; exact (CALL17.out _).mono fun _ _ ⟨he, hm⟩ => ⟨he, _, hm.symm⟩) | (go_at_call 45; exact Calls.quiet_of (CALL45.out _))))
        try clear hwr
        go_wp2
        refine bodyPost_ret (results_tmp rfl _ _ _) rfl ?_
        exact HDONE.out 6 _ ⟨_, rfl⟩ (by unfold PS.append; rw [HK.out, HNO.out]; rfl)
      · obtain rfl : az = (k : Int) := HAZ.out.trans haz
        obtain ⟨gA, rfl, -, x1⟩ := cell_dir HD.out HVD.out k hk
        have hfl := HFI.out _ (List.getElem_mem hk)
        obtain ⟨f, hf⟩ : ∃ f, f = s2.dir[k].2 := ⟨_, rfl⟩
        rw [← hf] at x1 hdg hfl
        have HDG := Lib.hid hdg
        have hgA : gA < w2.heap.size := (HD.out.dir.row.lt gA (by rw [HVD.out]; rfl)).2
        have hi1 : (k : Int) < (s2.dir.length : Int) := by omega
        clear hdg haz hnk hf
        by_cases h0 : b.length = 0
        · have hno : s.pl.fits nm b.length = 0 := by rw [HFIT.out, HRT.out, if_pos rfl, HDG.out]; simp [h0]
          have HNO := Lib.hid hno
          have HB0 := Lib.hid h0
          obtain rfl : b = [] := List.eq_nil_of_length_eq_zero h0
          clear hno h0
          go_upto_region 5 with fail
          go_quiet ((first | (go_at_call 17; exact (CALL17.out _).mono fun _ _ ⟨he, hm⟩ => ⟨he, _, hm.symm⟩) | (go_at_call 45; exact Calls.quiet_of (CALL45.out _))))
          try clear hwr
          go_upto_region 8 with fail
          have hwd : IntKind.i64.wrap 0 = 0 := by rfl
          go_region_law (go_simp; go_at_call 46; refine (radd_n _ (Gr F w) r s2 f A c [] 0 rfl (by exact HD.out.keep (fun _ _ _ => rfl) (Nat.le_refl _) fun _ h => h) hfl (by exact HR2.out.drewN _) (Nat.zero_le _) HBY.out).mono ?_; intro e w5 hdn; have HDN := Lib.hid (HPUT.out 6 [] f _ w5 e ⟨_, rfl⟩ HDG.out (by unfold PS.append; rw [HK.out, HNO.out]; rfl) hdn); obtain ⟨rfl, -⟩ := hdn)
          all_goals
            go_wp2
            refine bodyPost_ret (results_tmp rfl _ _ _) rfl ?_
            exact HDN.out
        · have h0' : ((b.length : Int) == 0) = false := beq_false_of_ne (by omega)
          by_cases hft : (b.length : Int) ≤ s2.cap - (U : Int)
          · have hno : s.pl.fits nm b.length = 0 := by rw [HFIT.out, HRT.out, if_pos rfl, HDG.out]; exact if_pos (.inr hft)
            have HNO := Lib.hid hno
            clear hno
            have hwr : IntKind.i64.wrap (s2.cap - (U : Int)) = s2.cap - (U : Int) := IntWalk.i64_in _ (by omega)
            go_upto_region 5 with fail
            go_quiet ((first | (go_at_call 17; exact (CALL17.out _).mono fun _ _ ⟨he, hm⟩ => ⟨he, _, hm.symm⟩) | (go_at_call 45; exact Calls.quiet_of (CALL45.out _))))
            try clear hwr
            go_upto_region 8 with fail
            have hh1 : (b.length : Int) / 2 ≤ (c : Int) := by omega
            have hh0 : 0 ≤ (b.length : Int) / 2 := by omega
            have hh2 : ((b.length : Int) / 2).toNat = b.length / 2 := by omega
            have hh3 : b.length / 2 ≤ 100000 := by omega
            have hwd : IntKind.i64.wrap ((b.length : Int) / 2) = (b.length : Int) / 2 := IntWalk.i64_in _ (by omega)
            go_region_law (go_simp; go_at_call 46; refine (radd_n _ (Gr F w) r s2 f A c (b.take (b.length / 2)) (b.length / 2) (half_len b) (by exact HD.out.keep (fun _ _ _ => rfl) (Nat.le_refl _) fun _ h => h) hfl (by exact half_reads HR2.out) hh3 HBY.out).mono ?_; intro e w5 hdn; have HDN := Lib.hid (HPUT.out 6 (b.take (b.length / 2)) f _ w5 e ⟨_, rfl⟩ HDG.out (by unfold PS.append; rw [HK.out, HNO.out]; rfl) hdn); obtain ⟨rfl, -⟩ := hdn)
            all_goals
              go_wp2
              refine bodyPost_ret (results_tmp rfl _ _ _) rfl ?_
              exact HDN.out
          · have hno : s.pl.fits nm b.length = 5 := by rw [HFIT.out, HRT.out, if_pos rfl, HDG.out]; exact if_neg (by omega)
            have hft' : decide ((b.length : Int) ≤ s2.cap - (U : Int)) = false := by simpa using hft
            have HNO := Lib.hid hno
            clear hno
            have hwr : IntKind.i64.wrap (s2.cap - (U : Int)) = s2.cap - (U : Int) := IntWalk.i64_in _ (by omega)
            go_upto_region 5 with fail
            go_quiet ((first | (go_at_call 17; exact (CALL17.out _).mono fun _ _ ⟨he, hm⟩ => ⟨he, _, hm.symm⟩) | (go_at_call 45; exact Calls.quiet_of (CALL45.out _))))
            try clear hwr
            go_wp2
            refine bodyPost_ret (results_tmp rfl _ _ _) rfl ?_
            exact HDONE.out 6 _ ⟨_, rfl⟩ (by unfold PS.append; rw [HK.out, HNO.out]; rfl)
end Go.Proofs.Ytfeglchngekedaa
