/- The walk of Checkpoint (39). The statements' own world, told plainly: what holds of it behind each thing that happens. The keeper: SpoilBytes, IntactBytes. Printed by gen_pl.py out of the disk seat's text. The statements' own world in memory. -/
import Derived.Test.YtfchnpdgnhoffaaGreatDoorJ14WClos
import Derived.Test.YtfchnpdgnhoffaaGreatDoorJ13WFind
import Derived.Test.YtfchnpdgnhoffaaGreatDoorJ07Lend
import Derived.Test.YtfchnpdgnhoffaaGreatDoorJ08SimPost
import Derived.Laws.BitsAllLaws
namespace Go.Proofs.YtfchnpdgnhoffaaGreatDoor
open Go.RowKit Go.Shelf Go.Maps

theorem SynW.chg {w w' : World} {F : Nat → Prop} (h : SynW w) (hc : Chg F w w') (h0 : ¬ F 0) : SynW w' := by
  obtain ⟨ev, h1, h2⟩ := h
  exact ⟨ev, hc.at_ (q := ⟨0, 0, none⟩) h0 h1, h2⟩
def sweepAll (last : Nat) (x : PS) : PS := (x.list preL).foldl (sweepP last) x
def CheckPostW (w : World) (F : Nat → Prop) (lp p n : Nat) (q : Int × PS) (c l : List Rec) (last : Nat) (e : Ending) (w' : World) : Prop :=
  e = .returned (.int .i64 q.1) ∧ LogAt w' (New F w w') lp p (n + 106) (if q.1 = 0 then sweepAll (last + 1) q.2 else q.2) (if q.1 = 0 then l else c) (if q.1 = 0 then last + 1 else last) (decide (q.1 ≠ 0)) ∧ Chg F w w'
def SweepR (w5 : World) (F : Nat → Prop) (p n last : Nat) (L : List Nm) (x : PS) (i : Value) (wr : World) : Prop :=
  ∃ (k : Nat) (Fk : Nat → Prop), k ≤ L.length ∧ i = .int .i64 k ∧ Dk wr Fk p (n + k) ((L.take k).foldl (sweepP last) x) ∧ Chg F w5 wr ∧ ∀ z, Fk z → Grs F w5 wr z
set_option maxRecDepth 100000 in
set_option maxHeartbeats 12800000 in
theorem checkpoint_any (l : List Rec) (v : Value) (H : Nat → Prop) (w : World) (F : Nat → Prop) (lp p n : Nat) (x : PS) (c : List Rec) (last : Nat) (fl : Bool) (h : LogAt w F lp p n x c last fl) (hF : ∀ k, F k → k < w.heap.size) (hn : n ≤ 9800) (hl : last ≤ 97)
    (hS : SynW w) (hF0 : ¬ F 0) (hr : RecsR w H v l) (hH : ∀ k, H k → ¬ F k) (hSm : Sm l) (hL : (entL ⟨true, l⟩ (last + 1)).length ≤ 90000)
    (hnm : (commitP x (entL ⟨true, l⟩ (last + 1)) (last + 1)).1 = 0 → (∀ nm ∈ (commitP x (entL ⟨true, l⟩ (last + 1)) (last + 1)).2.list preL, nm = draftL ∨ ∃ n, 1 ≤ n ∧ n < 100 ∧ nm = nameL n) ∧ ((commitP x (entL ⟨true, l⟩ (last + 1)) (last + 1)).2.list preL).length ≤ 100) :
    Calls Tryz.prog 39 #[.pointer (some ⟨lp, 0, none⟩), v] w (CheckPostW w F lp p n (commitP x (entL ⟨true, l⟩ (last + 1)) (last + 1)) c l last) := by
  have hr0 := hr
  obtain ⟨A0, d0, vs0, hv0, -⟩ := hr0
  subst hv0
  obtain ⟨q, hq⟩ : ∃ q, q = commitP x (entL ⟨true, l⟩ (last + 1)) (last + 1) := ⟨_, rfl⟩
  have HQ := Lib.hid hq
  rw [← hq] at hnm ⊢
  have HLG := Lib.hid h
  have HF := Lib.hid hF
  have HS := Lib.hid hS
  have HF0 := Lib.hid hF0
  have HR := Lib.hid hr
  have HH := Lib.hid hH
  have HL := Lib.hid hL
  have HNM := Lib.hid hnm
  have HSM := Lib.hid hSm
  have hlp := h.lt
  have h0w := hS.lt
  have HFL := Lib.hid h.own.1
  clear h hF hS hF0 hr hH hL hnm hSm hq
  go_enter Tryz.func39, Tryz.ntmps39
  go_wp2_with fail
  refine (commit_any true l (.slice A0 l.length d0) H w F lp p n x c last fl HLG.out HF.out (by omega) hl HR.out HH.out (Nat.le_trans HSM.out.1 (by decide)) HL.out (fun y hy => Nat.le_trans (HSM.out.2 y hy) (by decide))).mono ?_
  rintro e w1 ⟨rfl, hlog, hch⟩
  rw [← HQ.out] at hlog ⊢
  have hs1 := hch.size
  have hR1 : RecsR w1 H (.slice A0 l.length d0) l := HR.out.keep hs1 fun k hk hlt => hch.block k hlt (HH.out k hk)
  have hS1 : SynW w1 := HS.out.chg hch HF0.out
  have HLOG := Lib.hid hlog
  obtain ⟨Fd, G, vc, h1, h2, h3, h4, h5, h6, h7, h8⟩ := hlog
  obtain ⟨vs, ho, hgo, hrec⟩ := h3
  obtain ⟨Ac, dc, hvc⟩ := own_slice ho
  subst hvc
  have f3 : w1.cell? ⟨lp, 3, none⟩ = some (.bool fl) := h2.cell 3
  have z3 := h2.frozen 3
  have HCH := Lib.hid hch
  have HD1 := Lib.hid h1
  have HB1 := Lib.hid h2
  have HR1 := Lib.hid hR1
  have HS1 := Lib.hid hS1
  have H7 := Lib.hid h7
  clear hch hR1 hS1 h1 h2 ho hgo hrec h4 h7 h8
  by_cases h0 : q.1 = 0
  case neg =>
    have hne : decide (q.1 = 0) = false := decide_eq_false h0
    have HH0 := Lib.hid h0
    have hbn : (q.1 != 0) = true := by simp [h0]
    go_wp2
    go_ret
    refine ⟨rfl, ?_, HCH.out.setCell (p := ⟨lp, 3, none⟩) (.inl HFL.out) _⟩
    rw [if_neg HH0.out, if_neg HH0.out, if_neg HH0.out, decide_eq_true HH0.out]
    have hlg := log_fail HLOG.out true
    rw [if_neg HH0.out] at hlg
    exact hlg.mono (fun k hk => hk.elim .inl fun h => .inr ⟨h.1, by simpa [World.setCell] using h.2⟩) (by omega)
  have HH0 := Lib.hid h0
  obtain ⟨hnm, hln⟩ := HNM.out h0
  have HNM2 := Lib.hid hnm
  have HB1' := Lib.hid (show Blk w1 lp 71 #[.pointer (some ⟨p, 0, none⟩), .slice Ac c.length dc, .int .i64 ((last + 1 : Nat) : Int), .bool fl] by have := HB1.out; rwa [if_pos h0] at this)
  rw [h0]
  obtain ⟨w2, hw2⟩ : ∃ w2, w2 = w1.setCell ⟨lp, 3, none⟩ (.bool false) := ⟨_, rfl⟩
  have HW2 := Lib.hid hw2
  have hs2 : w2.heap.size = w1.heap.size := by rw [hw2]; simp [World.setCell]
  have HK2 := Lib.hid (show ∀ k, k ≠ lp → w2.heap[k]? = w1.heap[k]? from fun k hk => by rw [hw2]; exact Below.heap_setCell _ _ _ _ hk)
  have HB2 := Lib.hid (show Blk w2 lp 71 #[.pointer (some ⟨p, 0, none⟩), .slice Ac c.length dc, .int .i64 ((last + 1 : Nat) : Int), .bool false] by rw [hw2]; exact HB1'.out.set_ 3 _)
  have HR2 := Lib.hid (show RecsR w2 H (.slice A0 l.length d0) l from HR1.out.keep (by omega) fun k hk _ => HK2.out k (by rintro rfl; exact HH.out _ hk HFL.out))
  have HD2 := Lib.hid (show Dk w2 Fd p (n + 6) q.2 from HD1.out.keep fun k hk _ => HK2.out k (by rintro rfl; exact h5 hk))
  have HCH2 := Lib.hid (show Chg F w w2 by rw [hw2]; exact HCH.out.setCell (p := ⟨lp, 3, none⟩) (.inl HFL.out) _)
  have HHF := Lib.hid (show ∀ k, Fd k → k < w2.heap.size from fun k hk => (H7.out k hk).1.elim (fun h => by have := HF.out k h; omega) (fun h => by omega))
  clear hw2 hnm h0
  go_upto_region 5 with fail
  rw [← HW2.out]
  clear f3 z3
  go_wp2_with fail
  refine (copied_any (.slice A0 l.length d0) l H w2 HR2.out (Nat.le_trans HSM.out.1 (by decide)) (fun y hy => Nat.le_trans (HSM.out.2 y hy) (by decide))).mono ?_
  rintro e w3 ⟨v3, rfl, hv3, hb3⟩
  have hs3 := hb3.size
  obtain ⟨A3, d3, hv3e⟩ : ∃ A3 d3, v3 = .slice A3 l.length d3 := by
    obtain ⟨vs3, ho3, -⟩ := hv3
    exact own_slice ho3
  subst hv3e
  have hb2 := HB2.out.below hb3 (by omega)
  have l1 : w3.cell? ⟨lp, 1, none⟩ = some (.slice Ac c.length dc) := hb2.cell 1
  have z1 := hb2.frozen 1
  obtain ⟨w4, hw4⟩ : ∃ w4, w4 = w3.setCell ⟨lp, 1, none⟩ (.slice A3 l.length d3) := ⟨_, rfl⟩
  have HW4 := Lib.hid hw4
  have hs4 : w4.heap.size = w3.heap.size := by rw [hw4]; simp [World.setCell]
  have HK4 := Lib.hid (show ∀ k, k ≠ lp → w4.heap[k]? = w3.heap[k]? from fun k hk => by rw [hw4]; exact Below.heap_setCell _ _ _ _ hk)
  have HB4 := Lib.hid (show Blk w4 lp 71 #[.pointer (some ⟨p, 0, none⟩), .slice A3 l.length d3, .int .i64 ((last + 1 : Nat) : Int), .bool false] by rw [hw4]; exact hb2.set_ 1 _)
  have HD4 := Lib.hid (show Dk w4 Fd p (n + 6) q.2 by rw [hw4]; exact (HD2.out.below hb3).set_ h5 1 _)
  have HV4 := Lib.hid (show RecsAt w4 (fun k => w2.heap.size ≤ k ∧ k < w3.heap.size) (.slice A3 l.length d3) l from hv3.at_.keep fun k hk _ => HK4.out k (by rintro rfl; have := hk.1; omega))
  have HCH4 := Lib.hid (show Chg F w w4 by rw [hw4]; exact (HCH2.out.below hb3 (by omega)).setCell (p := ⟨lp, 1, none⟩) (.inl HFL.out) _)
  have m0 : w4.cell? ⟨lp, 0, none⟩ = some (.pointer (some ⟨p, 0, none⟩)) := HB4.out.cell 0
  have HS4 := Lib.hid (HS.out.chg HCH4.out HF0.out)
  clear hv3 hb3 hb2 hw4
  go_upto_region 6 with fail
  rw [← HW4.out]
  clear l1 z1
  go_wp2_with fail
  refine (dk_list w4 Fd p (n + 6) q.2 ⟨#[119, 97, 108, 47]⟩ HD4.out (by omega)).mono ?_
  rintro e w5 ⟨v5, rfl, hv5, hb5⟩
  rw [show (⟨#[119, 97, 108, 47]⟩ : ByteArray).data.toList = preL from rfl] at hv5
  obtain ⟨L, hL⟩ : ∃ L, L = q.2.list preL := ⟨_, rfl⟩
  have HLE := Lib.hid hL
  rw [← hL] at hv5 hln HNM2
  obtain ⟨nl, hnl⟩ : ∃ nl, nl = L.length := ⟨_, rfl⟩
  rw [← hnl] at hv5 hln
  have HNL := Lib.hid hnl
  obtain ⟨A5, d5, hv5e⟩ := own_slice hv5
  subst hv5e
  have hs5 := hb5.size
  have HR5 := Lib.hid (Reads.of_own hv5)
  have HL5 := Lib.hid (show ∀ ad, A5 = some ad → w4.heap.size ≤ ad.block from fun ad e => (hv5.lt ad.block (by rw [e]; rfl)).1)
  have HB5 := Lib.hid hb5
  have HD5 := Lib.hid (HD4.out.below hb5)
  have HBL5 := Lib.hid (HB4.out.below hb5 (by omega))
  have HS5 := Lib.hid (HS4.out.below hb5 (by omega))
  clear hL hnl hv5 hb5 m0
  go_wp2_with fail
  go_loopw [34] (fun i wr => SweepR w5 Fd p (n + 6) (last + 1) L q.2 i wr) (fun i _ => nl - (intOf i).toNat)
  case atStart => exact ⟨0, Fd, Nat.zero_le _, rfl, HD5.out, Chg.refl _ _, fun z hz => ⟨.inl hz, by have := HHF.out z hz; omega⟩⟩
  case round =>
    obtain ⟨wx, hwx⟩ : ∃ wx, wx = wr := ⟨_, rfl⟩
    subst hwx
    obtain ⟨k, Fk, hk, rfl, hdk, hch, hgr⟩ := hrel
    have hk : k ≤ nl := by rw [HNL.out]; exact hk
    have HDK := Lib.hid hdk
    have HCK := Lib.hid hch
    have HGK := Lib.hid hgr
    have hsx := hch.size
    have bx : Blk wx lp 71 #[.pointer (some ⟨p, 0, none⟩), .slice A3 l.length d3, .int .i64 ((last + 1 : Nat) : Int), .bool false] := (hch.block lp (by omega) h5).trans HBL5.out
    have x0 : wx.cell? ⟨lp, 0, none⟩ = some (.pointer (some ⟨p, 0, none⟩)) := bx.cell 0
    have x2 : wx.cell? ⟨lp, 2, none⟩ = some (.int .i64 ((last : Int) + 1)) := bx.cell 2
    have HBX := Lib.hid bx
    clear hdk hch hgr bx
    by_cases hlt : k < nl
    · obtain ⟨ad, hA, hg, hcell⟩ := HR5.out.2 (by omega)
      subst hA
      have hkl : k < L.length := by rw [← HNL.out]; exact hlt
      obtain ⟨nm, hnm⟩ : ∃ nm, nm = L[k] := ⟨_, rfl⟩
      have d0 : wx.cell? (ad.add k) = some (.string (nmBA nm)) := by
        have h9 : w5.cell? (ad.add k) = some (.string (nmBA nm)) := by rw [hnm]; exact hcell k _ (nm_of_str hkl)
        exact HCK.out.at_ (by rw [block_of_add]; exact fun h => by have := HHF.out _ h; have := HL5.out ad rfl; omega) h9
      have hTK : L.take (k + 1) = L.take k ++ [nm] := by rw [hnm]; exact List.take_succ_eq_append_getElem hkl
      have hcase := HNM2.out nm (by rw [hnm]; exact List.getElem_mem _)
      have hst : (L.take (k + 1)).foldl (sweepP (last + 1)) q.2 = sweepP (last + 1) ((L.take k).foldl (sweepP (last + 1)) q.2) nm := by rw [hTK, List.foldl_append]; rfl
      have HST := Lib.hid hst
      clear hcell hnm hTK hkl hst
      rcases hcase with rfl | ⟨z, hz1, hz2, rfl⟩
      · have HSx := Lib.hid (HS5.out.chg HCK.out (fun h => HF0.out ((H7.out 0 h).1.elim id fun h => by omega)))
        go_wp2_with fail
        refine (number_draft wx HSx.out).mono ?_
        rintro e w6 ⟨rfl, hb6⟩
        have HB6 := Lib.hid hb6
        clear hb6
        go_wp2
        refine ⟨⟨k + 1, Fk, by rw [← HNL.out]; omega, by go_num, ?_, HCK.out.below HB6.out hsx, fun z hz => ⟨(HGK.out z hz).1, Nat.lt_of_lt_of_le (HGK.out z hz).2 HB6.out.size⟩⟩, by simp [intOf]; omega⟩
        rw [HST.out, show sweepP (last + 1) ((L.take k).foldl (sweepP (last + 1)) q.2) draftL = (L.take k).foldl (sweepP (last + 1)) q.2 by unfold sweepP; rw [numL_draft]]
        exact (HDK.out.below HB6.out).mono (by omega)
      · go_wp2_with fail
        refine (number_name z hz1 hz2 wx).mono ?_
        rintro e w6 ⟨rfl, hb6⟩
        have hs6 := hb6.size
        have b6 := HBX.out.below hb6 (by omega)
        have y0 : w6.cell? ⟨lp, 0, none⟩ = some (.pointer (some ⟨p, 0, none⟩)) := b6.cell 0
        have y2 : w6.cell? ⟨lp, 2, none⟩ = some (.int .i64 ((last : Int) + 1)) := b6.cell 2
        have HB6 := Lib.hid hb6
        have HD6 := Lib.hid (HDK.out.below hb6)
        clear hb6 b6 x0 x2 d0
        by_cases hzl : z < last + 1
        · have hzq : decide ((z : Int) < (last : Int) + 1) = true := decide_eq_true (by omega)
          have HSW := Lib.hid (show sweepP (last + 1) ((L.take k).foldl (sweepP (last + 1)) q.2) (nameL z) = (((L.take k).foldl (sweepP (last + 1)) q.2).remove (nB z)).2 by unfold sweepP; rw [numL_name hz1 hz2]; exact if_pos hzl)
          go_wp2_with fail
          refine (dk_remove w6 Fk p (n + 6 + k) _ (nB z) HD6.out (by omega) (by rw [nB_size]; decide)).mono ?_
          rintro e w7 ⟨rfl, hd7, hc7⟩
          have HD7 := Lib.hid hd7
          have HC7 := Lib.hid hc7
          clear hd7 hc7
          go_wp2
          refine ⟨⟨k + 1, Grs Fk w6 w7, by rw [← HNL.out]; omega, by go_num, by rw [HST.out, HSW.out]; exact HD7.out, (HCK.out.below HB6.out hsx).trans HC7.out (fun z hz => (HGK.out z hz).1), fun z hz => ⟨hz.1.elim (fun h => (HGK.out z h).1) (fun h => .inr (by omega)), hz.2⟩⟩, by simp [intOf]; omega⟩
        · have hzq : decide ((z : Int) < (last : Int) + 1) = false := decide_eq_false (by omega)
          have HSW := Lib.hid (show sweepP (last + 1) ((L.take k).foldl (sweepP (last + 1)) q.2) (nameL z) = (L.take k).foldl (sweepP (last + 1)) q.2 by unfold sweepP; rw [numL_name hz1 hz2]; exact if_neg hzl)
          go_wp2
          refine ⟨⟨k + 1, Fk, by rw [← HNL.out]; omega, by go_num, by rw [HST.out, HSW.out]; exact HD6.out.mono (by omega), HCK.out.below HB6.out hsx, fun z hz => ⟨(HGK.out z hz).1, Nat.lt_of_lt_of_le (HGK.out z hz).2 HB6.out.size⟩⟩, by simp [intOf]; omega⟩
    · obtain rfl : k = nl := by omega
      have hfin : (L.take k).foldl (sweepP (last + 1)) q.2 = sweepAll (last + 1) q.2 := by rw [HNL.out, List.take_length, HLE.out]; rfl
      rw [hfin] at HDK
      clear hfin x0 x2
      go_wp2
      go_ret
      have hGN : ∀ z, Fk z → New F w wx z := fun z hz => by
        obtain ⟨h1, h2⟩ := HGK.out z hz
        rcases h1 with h1 | h1
        · exact (H7.out z h1).1.elim .inl fun h => .inr ⟨h.1, h2⟩
        · exact .inr ⟨by omega, h2⟩
      refine ⟨by rw [HH0.out]; rfl, ?_, (HCH4.out.below HB5.out (by omega)).trans HCK.out fun z hz => (H7.out z hz).1.elim .inl fun h => .inr h.1⟩
      rw [if_pos HH0.out, if_pos HH0.out, if_pos HH0.out, decide_eq_false (fun h => h HH0.out)]
      refine ⟨Fk, fun k => w2.heap.size ≤ k ∧ k < w3.heap.size, _, HDK.out.mono (by omega), HBX.out, (HV4.out.below HB5.out).keep fun k hk hlt => HCK.out.block k hlt (fun h => by have := HHF.out k h; have := hk.1; omega), .inl HFL.out, fun h => ?_, fun h => by have := h.1; omega, fun y hy => ⟨hGN y hy, fun h => ?_⟩, fun y hy => .inr ⟨by omega, by have := hy.2; omega⟩⟩
      · rcases (HGK.out lp h).1 with h | h
        · exact h5 h
        · omega
      · rcases (HGK.out y hy).1 with h9 | h9
        · have := HHF.out y h9; omega
        · omega
end Go.Proofs.YtfchnpdgnhoffaaGreatDoor
namespace Go.Proofs.YtfchnpdgnhoffaaGreatDoor
open Go.RowKit Go.Shelf Go.Maps

/-! ### a directory's names stand once -/
def ND (m : Dl) : Prop := m.Pairwise fun a b => a.1 ≠ b.1
theorem ND.del {m : Dl} (h : ND m) (nm : Nm) : ND (ddel m nm) := List.Pairwise.filter _ h
theorem ND.add {m : Dl} (h : ND m) (nm : Nm) (f : Nat) : ND (ddel m nm ++ [(nm, f)]) := by
  refine List.pairwise_append.2 ⟨h.del nm, List.pairwise_singleton _ _, fun a ha b hb => ?_⟩
  rw [List.mem_singleton.1 hb]
  exact ((mem_ddel _ _ _).1 ha).2
theorem nd_create {x : PS} (h : ND x.dir) (nm : ByteArray) : ND (x.create nm).2.dir := by
  unfold PS.create
  split
  · split
    · split
      · exact h
      · exact ND.add (m := x.dir) h _ _
    · exact h
  · exact h
theorem addTo_dir (x : PS) (nm : Nm) (b : List UInt8) : (x.addTo nm b).dir = x.dir := by
  unfold PS.addTo
  split <;> rfl
theorem addTo_count (x : PS) (nm : Nm) (b : List UInt8) : (x.addTo nm b).count = x.count := by
  unfold PS.addTo
  split <;> rfl
theorem nd_append {x : PS} (h : ND x.dir) (nm : ByteArray) (b : List UInt8) : ND (x.append nm b).2.dir := by
  unfold PS.append
  split <;> dsimp only <;> split <;> first | exact h | (rw [addTo_dir]; exact h)
theorem nd_sync {x : PS} (h : ND x.dir) (nm : ByteArray) : ND (x.sync nm).2.dir := by
  unfold PS.sync
  split
  · split
    · split <;> exact h
    · exact h
  · exact h
theorem nd_rename {x : PS} (h : ND x.dir) (od nm : ByteArray) : ND (x.rename od nm).2.dir := by
  unfold PS.rename
  split
  · split
    · split
      · split
        · exact h
        · exact ND.add (m := ddel x.dir _) (ND.del (m := x.dir) h _) _ _
      · exact h
    · exact h
  · exact h
theorem nd_remove {x : PS} (h : ND x.dir) (nm : ByteArray) : ND (x.remove nm).2.dir := by
  unfold PS.remove
  split
  · split
    · split
      · exact ND.del (m := x.dir) h _
      · exact h
    · exact h
  · exact h
theorem nd_syncDir {x : PS} (h : ND x.dir) : ND x.syncDir.2.dir := by
  unfold PS.syncDir
  split <;> exact h
theorem nd_steps : ∀ (fs : List (PS → Int × PS)) (x : PS), (∀ f ∈ fs, ∀ y : PS, ND y.dir → ND (f y).2.dir) → ND x.dir → ND (stepsP fs x).2.dir
  | [], _, _, h => h
  | f :: fs, x, hf, h => by
    show ND (andP (f x) (stepsP fs)).2.dir
    have h1 := hf f List.mem_cons_self x h
    unfold andP
    split
    · exact nd_steps fs _ (fun g hg => hf g (List.mem_cons_of_mem _ hg)) h1
    · exact h1
theorem nd_commit {x : PS} (h : ND x.dir) (b : Rec) (n : Nat) : ND (commitP x b n).2.dir := by
  rw [commit_steps]
  have h1 : ND (clearP x).2.dir := by
    unfold clearP
    split
    · exact nd_remove h _
    · exact h
  unfold andP
  split
  · refine nd_steps _ _ (fun f hf y hy => ?_) h1
    rcases List.mem_cons.1 hf with rfl | hf
    · exact nd_create hy _
    rcases List.mem_cons.1 hf with rfl | hf
    · exact nd_append hy _ _
    rcases List.mem_cons.1 hf with rfl | hf
    · exact nd_sync hy _
    rcases List.mem_cons.1 hf with rfl | hf
    · exact nd_rename hy _ _
    rcases List.mem_cons.1 hf with rfl | hf
    · exact nd_syncDir hy
    · cases hf
  · exact h1
theorem nd_sweep (last : Nat) {x : PS} (h : ND x.dir) (nm : Nm) : ND (sweepP last x nm).dir := by
  unfold sweepP
  split
  · split
    · exact nd_remove h _
    · exact h
  · exact h
theorem nd_sweeps (last : Nat) : ∀ (l : List Nm) (x : PS), ND x.dir → ND (l.foldl (sweepP last) x).dir
  | [], _, h => h
  | nm :: l, x, h => nd_sweeps last l _ (nd_sweep last h nm)
/-! ### at least one operation -/
theorem create_count (x : PS) (nm : ByteArray) : (x.create nm).2.count = x.count + 1 := by
  unfold PS.create
  split
  · split
    · split <;> rfl
    · rfl
  · rfl
theorem remove_count (x : PS) (nm : ByteArray) : (x.remove nm).2.count = x.count + 1 := by
  unfold PS.remove
  split
  · split
    · split <;> rfl
    · rfl
  · rfl
theorem append_count (x : PS) (nm : ByteArray) (b : List UInt8) : (x.append nm b).2.count = x.count + 1 := by
  unfold PS.append
  split <;> dsimp only <;> split <;> first | rfl | (rw [addTo_count]; rfl)
theorem sync_count (x : PS) (nm : ByteArray) : (x.sync nm).2.count = x.count + 1 := by
  unfold PS.sync
  split
  · split
    · split <;> rfl
    · rfl
  · rfl
theorem rename_count (x : PS) (od nm : ByteArray) : (x.rename od nm).2.count = x.count + 1 := by
  unfold PS.rename
  split
  · split
    · split
      · split <;> rfl
      · rfl
    · rfl
  · rfl
theorem syncDir_count (x : PS) : x.syncDir.2.count = x.count + 1 := by
  unfold PS.syncDir
  split <;> rfl
theorem andP_le {r : Int × PS} {f : PS → Int × PS} (hf : ∀ y : PS, y.count ≤ (f y).2.count) : r.2.count ≤ (andP r f).2.count := by
  unfold andP
  split
  · exact hf r.2
  · exact Nat.le_refl _
theorem commit_count (x : PS) (b : Rec) (n : Nat) : x.count < (commitP x b n).2.count := by
  have c5 : ∀ z : PS, z.count ≤ z.syncDir.2.count := fun z => by rw [syncDir_count]; omega
  have c4 : ∀ z : PS, z.count ≤ (andP (z.rename dB (nB n)) fun x => x.syncDir).2.count := fun z => Nat.le_trans (by rw [rename_count]; omega) (andP_le c5)
  have c3 : ∀ z : PS, z.count ≤ (andP (z.sync dB) fun x => andP (x.rename dB (nB n)) fun x => x.syncDir).2.count := fun z => Nat.le_trans (by rw [sync_count]; omega) (andP_le c4)
  have c2 : ∀ z : PS, z.count ≤ (andP (z.append dB b) fun x => andP (x.sync dB) fun x => andP (x.rename dB (nB n)) fun x => x.syncDir).2.count := fun z => Nat.le_trans (by rw [append_count]; omega) (andP_le c3)
  have c1 : ∀ z : PS, z.count < (andP (z.create dB) fun x => andP (x.append dB b) fun x => andP (x.sync dB) fun x => andP (x.rename dB (nB n)) fun x => x.syncDir).2.count := fun z => Nat.lt_of_lt_of_le (by rw [create_count]; omega) (andP_le c2)
  have h1 : x.count < (clearP x).2.count ∨ (clearP x).1 = 0 ∧ (clearP x).2.count = x.count := by
    unfold clearP
    split
    · exact .inl (by rw [remove_count]; omega)
    · exact .inr ⟨rfl, rfl⟩
  unfold commitP
  rcases h1 with h1 | ⟨h1, h3⟩
  · exact Nat.lt_of_lt_of_le h1 (andP_le fun y => Nat.le_of_lt (c1 y))
  · have e : ∀ f, andP (clearP x) f = f (clearP x).2 := fun f => if_pos h1
    rw [e, ← h3]
    exact c1 _
/-! ### how many names -/
theorem len_sub {α : Type} [BEq α] [LawfulBEq α] : ∀ (l m : List α), l.Pairwise (fun a b => a ≠ b) → (∀ a ∈ l, a ∈ m) → l.length ≤ m.length
  | [], _, _, _ => Nat.zero_le _
  | a :: l, m, hp, hs => by
    rw [List.pairwise_cons] at hp
    have h1 := hs a List.mem_cons_self
    have h2 := len_sub l (m.erase a) hp.2 fun b hb => (List.mem_erase_of_ne (fun e => hp.1 b hb e.symm)).2 (hs b (List.mem_cons_of_mem _ hb))
    have h3 := List.length_erase_of_mem h1
    have h4 := List.length_pos_of_mem h1
    rw [List.length_cons]
    omega
def allNames : List Nm := draftL :: (List.range 99).map fun i => nameL (i + 1)
theorem list_hundred {x : PS} (h : ND x.dir) (hn : ∀ y ∈ x.dir, y.1 = draftL ∨ ∃ n, 1 ≤ n ∧ n ≤ 99 ∧ y.1 = nameL n) (pre : Nm) : (x.list pre).length ≤ 100 := by
  unfold PS.list begN
  rw [List.length_mergeSort]
  refine Nat.le_trans (List.length_filter_le _ _) ?_
  have := len_sub (x.dir.map (·.1)) allNames (List.pairwise_map.2 (show x.dir.Pairwise (fun a b => a.1 ≠ b.1) from h)) fun a ha => by
    obtain ⟨y, hy, rfl⟩ := List.mem_map.1 ha
    rcases hn y hy with h1 | ⟨n, h1, h2, h3⟩
    · rw [h1]; exact List.mem_cons_self
    · refine List.mem_cons_of_mem _ (List.mem_map.2 ⟨n - 1, List.mem_range.2 (by omega), ?_⟩)
      rw [h3, show n - 1 + 1 = n by omega]
  refine Nat.le_trans this ?_
  simp [allNames]

/-! ### the world of the statements -/
structure LS where
  x : PS
  N : Nat
  E : Nat → Option Ent
  c : List Rec
  last : Nat
  may : List (List Rec)
  struck : List Int
  stop : Int
  fl : Bool
def Sz (k : Nat) (l : List Rec) : Prop := l.length ≤ k + 8 ∧ ∀ b ∈ l, b.length ≤ 40000
theorem Sz.mono {k m : Nat} {l : List Rec} (h : Sz k l) (hk : k ≤ m) : Sz m l := ⟨by have := h.1; omega, h.2⟩
theorem Sz.sm {k : Nat} {l : List Rec} (h : Sz k l) (hk : k ≤ 100) : Sm l := ⟨by have := h.1; omega, fun b hb => by have := h.2 b hb; omega⟩
structure LS.Ok (s : LS) (k : Nat) : Prop where
  inv : Inv s.x s.N s.E s.c s.last s.may
  hr : Hr s.x s.struck s.stop
  nd : ND s.x.dir
  last : s.last ≤ k
  cS : Sz k s.c
  mS : ∀ l ∈ s.may, Sz k l
  mL : s.may.length ≤ k
  sL : s.struck.length ≤ k
  sB : ∀ t ∈ s.struck, 0 ≤ t ∧ t ≤ s.x.count + 11
  tB : -1 ≤ s.stop ∧ s.stop ≤ s.x.count + 11
/-- nothing strikes, nothing was refused -/
def LS.Free (s : LS) : Prop := s.x.flts = [] ∧ s.x.stop = -1 ∧ s.may = []
/-- a call that would make the content l -/
structure CallT (s s' : LS) (l : List Rec) : Prop where
  count : s.x.count < s'.x.count
  struck : s'.struck = s.struck
  stop : s'.stop = s.stop
  free : s.Free → s'.Free ∧ s'.fl = false
  res : (s'.c = l ∧ s'.may = [] ∧ s'.fl = false) ∨ (s'.c = s.c ∧ s'.may = s.may ++ [l] ∧ s'.fl = true)
theorem Ent.next_len {e : Ent} {c : List Rec} {k : Nat} (h : Sz k c) (he : e.ok) (hr : Sz 0 e.recs) : Sz (k + 1) (e.next c) := by
  unfold Ent.next
  have h1 := h.1
  have h2 := hr.1
  split
  · exact ⟨by omega, hr.2⟩
  · rename_i ha
    have h3 : e.recs.length = 1 := he.elim (fun h => absurd h ha) id
    refine ⟨by rw [List.length_append]; omega, fun b hb => ?_⟩
    rcases List.mem_append.1 hb with hb | hb
    · exact h.2 b hb
    · exact hr.2 b hb
section
variable {s : LS} {k : Nat}
def LS.good (s : LS) (x : PS) (N : Nat) (E : Nat → Option Ent) (e : Ent) : LS := { s with x := x, N := N, E := E, c := e.next s.c, last := s.last + 1, may := [], fl := false }
def LS.bad (s : LS) (x : PS) (N : Nat) (e : Ent) : LS := { s with x := x, N := N, may := s.may ++ [e.next s.c], fl := true }
/-- what a call of the log's leaves of it -/
def LS.after (s s' : LS) (e : Ent) (q : Int × PS) : Prop := if q.1 = 0 then ∃ N E, s' = s.good q.2 N E e ∧ E (s.last + 1) = some e else ∃ N, s' = s.bad q.2 N e
theorem LS.call (h : s.Ok k) (hk : k ≤ 90) (e : Ent) (he : e.ok) (hz : Sz 0 e.recs) (hb : (entL e (s.last + 1)).length ≤ 50000) (hc : s.x.count ≤ 9980) :
    ∃ s' : LS, s.after s' e (commitP s.x (entL e (s.last + 1)) (s.last + 1)) ∧ s'.Ok (k + 1) ∧ CallT s s' (e.next s.c) ∧
      ((commitP s.x (entL e (s.last + 1)) (s.last + 1)).1 ≠ 0 → ((commitP s.x (entL e (s.last + 1)) (s.last + 1)).1 = 6 ∨ (commitP s.x (entL e (s.last + 1)) (s.last + 1)).1 = 7) ∧ Hind s.struck s.stop s.x.count (commitP s.x (entL e (s.last + 1)) (s.last + 1)).2.count) := by
  have hl := h.last
  obtain ⟨run, h1, h2⟩ := commit_law h.inv h.hr e he (by omega) hb hc
  have hcn := commit_count s.x (entL e (s.last + 1)) (s.last + 1)
  have hnd := nd_commit h.nd (entL e (s.last + 1)) (s.last + 1)
  generalize commitP s.x (entL e (s.last + 1)) (s.last + 1) = q at *
  have hsz : Sz (k + 1) (e.next s.c) := Ent.next_len h.cS he hz
  have hsB : ∀ t ∈ s.struck, 0 ≤ t ∧ t ≤ q.2.count + 11 := fun t ht => by have := h.sB t ht; omega
  have htB : -1 ≤ s.stop ∧ s.stop ≤ q.2.count + 11 := by have := h.tB; omega
  by_cases h0 : q.1 = 0
  · obtain ⟨⟨N', E', hi, hE⟩, -⟩ := h1 h0
    refine ⟨s.good q.2 N' E' e, by unfold LS.after; rw [if_pos h0]; exact ⟨N', E', rfl, hE⟩, ⟨hi, run.hr, hnd, Nat.succ_le_succ hl, hsz, (fun l hl => by cases hl), Nat.zero_le _, Nat.le_succ_of_le h.sL, hsB, htB⟩, ⟨hcn, rfl, rfl, fun hf => ⟨⟨(run.free hf.1 hf.2.1).2.1, (run.free hf.1 hf.2.1).2.2, rfl⟩, rfl⟩, .inl ⟨rfl, rfl, rfl⟩⟩, fun hne => absurd h0 hne⟩
  · obtain ⟨N', hi⟩ := h2 h0
    refine ⟨s.bad q.2 N' e, by unfold LS.after; rw [if_neg h0]; exact ⟨N', rfl⟩, ⟨hi, run.hr, hnd, Nat.le_succ_of_le hl, h.cS.mono (Nat.le_succ _), fun l hl => ?_, ?_, Nat.le_succ_of_le h.sL, hsB, htB⟩, ⟨hcn, rfl, rfl, fun hf => absurd (run.free hf.1 hf.2.1).1 h0, .inr ⟨rfl, rfl, rfl⟩⟩, run.bad⟩
    · rcases List.mem_append.1 hl with hl | hl
      · exact (h.mS l hl).mono (Nat.le_succ _)
      · rw [List.mem_singleton.1 hl]; exact hsz
    · show (s.may ++ [e.next s.c]).length ≤ k + 1
      rw [List.length_append]
      have := h.mL
      simp only [List.length_cons, List.length_nil]
      omega
/-- behind a checkpoint the old entries are swept away -/
theorem Inv.listed {x : PS} {N : Nat} {E : Nat → Option Ent} {c : List Rec} {last : Nat} {may : List (List Rec)} (h : Inv x N E c last may) : ∀ y ∈ x.dir, y.1 = draftL ∨ ∃ n, 1 ≤ n ∧ n ≤ 99 ∧ y.1 = nameL n := fun y hy => by
  obtain ⟨E', hst⟩ := h.steps
  rcases hst.says.names y hy with h1 | ⟨n, h1, h2, h3⟩
  · exact .inl h1
  · exact .inr ⟨n, h1, by have := h.lastB; omega, h3⟩
theorem LS.sweep {s : LS} (h : s.Ok k) (e : Ent) (he : s.E s.last = some e) (ha : e.all = true) :
    ({ s with x := sweepAll s.last s.x } : LS).Ok k ∧ s.x.count ≤ (sweepAll s.last s.x).count ∧ (s.Free → ({ s with x := sweepAll s.last s.x } : LS).Free) := by
  obtain ⟨i1, i2, i3, i4, i5⟩ := sweep_law e he ha (s.x.list preL) s.x h.inv h.hr (fun nm hnm => by
    obtain ⟨⟨f, hf⟩, -⟩ := mem_list.1 hnm
    exact h.inv.listed _ hf)
  exact ⟨⟨i1, i2, nd_sweeps _ _ _ h.nd, h.last, h.cS, h.mS, h.mL, h.sL, fun t ht => by have := h.sB t ht; exact ⟨this.1, by have := this.2; show t ≤ ((sweepAll s.last s.x).count : Int) + 11; unfold sweepAll; omega⟩, by have := h.tB; exact ⟨this.1, by show s.stop ≤ ((sweepAll s.last s.x).count : Int) + 11; unfold sweepAll; omega⟩⟩, i3, fun hf => ⟨(i5 hf.1 hf.2.1).1, (i5 hf.1 hf.2.1).2, hf.2.2⟩⟩
/-- what Checkpoint asks -/
theorem LS.listed (h : s.Ok k) : (∀ nm ∈ s.x.list preL, nm = draftL ∨ ∃ n, 1 ≤ n ∧ n < 100 ∧ nm = nameL n) ∧ (s.x.list preL).length ≤ 100 := by
  refine ⟨fun nm hnm => ?_, list_hundred h.nd h.inv.listed _⟩
  obtain ⟨⟨f, hf⟩, -⟩ := mem_list.1 hnm
  rcases h.inv.listed _ hf with h1 | ⟨n, h1, h2, h3⟩
  · exact .inl h1
  · exact .inr ⟨n, h1, by omega, h3⟩
theorem recsL_len : ∀ (l : List Rec) (m : Nat), (∀ b ∈ l, b.length ≤ m) → (recsL l).length ≤ (m + 4) * l.length
  | [], _, _ => Nat.le_refl _
  | b :: r, m, h => by
    have h1 := recsL_len r m fun y hy => h y (List.mem_cons_of_mem _ hy)
    have h2 := h b List.mem_cons_self
    rw [recsL_cons, List.length_append, List.length_append, fourL_len, List.length_cons, Nat.mul_succ]
    omega
theorem entL_len (e : Ent) (n m : Nat) (h : ∀ b ∈ e.recs, b.length ≤ m) : (entL e n).length ≤ (m + 4) * e.recs.length + 21 := by
  have := recsL_len e.recs m h
  have h1 : (nameL n).length = 16 := nameL_len n
  unfold entL bodyL
  rw [List.length_append, fourL_len, List.length_cons, List.length_append, h1]
  omega
/-! ### the other things that happen -/
theorem LS.fault (h : s.Ok k) (n z : Int) (h0 : 0 ≤ n) (h1 : n ≤ 11) : ({ s with x := s.x.fault n z, struck := s.struck ++ [(s.x.count : Int) + n] } : LS).Ok (k + 1) := by
  have hm : max n 0 = n := by omega
  refine ⟨⟨h.inv.says, h.inv.told, h.inv.pend, h.inv.lastB, h.inv.filesB, h.inv.len, h.inv.cap, h.inv.dir, ⟨h.inv.pc.kp, h.inv.pc.dc⟩⟩, ⟨fun f hf => ?_, h.hr.stop⟩, h.nd, Nat.le_succ_of_le h.last, h.cS.mono (Nat.le_succ _), fun l hl => (h.mS l hl).mono (Nat.le_succ _), Nat.le_succ_of_le h.mL, ?_, fun t ht => ?_, h.tB⟩
  · rcases List.mem_append.1 (show f ∈ s.x.flts ++ [(max n 0, z)] from hf) with hf | hf
    · obtain ⟨h2, h3⟩ := h.hr.flts f hf
      exact ⟨h2, List.mem_append_left _ h3⟩
    · rw [List.mem_singleton.1 hf, hm]
      exact ⟨h0, List.mem_append_right _ (List.mem_singleton.2 rfl)⟩
  · show (s.struck ++ [(s.x.count : Int) + n]).length ≤ k + 1
    rw [List.length_append]
    have := h.sL
    simp only [List.length_cons, List.length_nil]
    omega
  · show 0 ≤ t ∧ t ≤ (s.x.count : Int) + 11
    rcases List.mem_append.1 (show t ∈ s.struck ++ [(s.x.count : Int) + n] from ht) with ht | ht
    · exact h.sB t ht
    · rw [List.mem_singleton.1 ht]
      omega
theorem LS.stopAt (h : s.Ok k) (n : Int) (h0 : 0 ≤ n) (h1 : n ≤ 11) : ({ s with x := { s.x with stop := max n 0 }, stop := (s.x.count : Int) + n } : LS).Ok (k + 1) := by
  refine ⟨⟨h.inv.says, h.inv.told, h.inv.pend, h.inv.lastB, h.inv.filesB, h.inv.len, h.inv.cap, h.inv.dir, ⟨h.inv.pc.kp, h.inv.pc.dc⟩⟩, ⟨h.hr.flts, .inr ⟨?_, ?_⟩⟩, h.nd, Nat.le_succ_of_le h.last, h.cS.mono (Nat.le_succ _), fun l hl => (h.mS l hl).mono (Nat.le_succ _), Nat.le_succ_of_le h.mL, Nat.le_succ_of_le h.sL, h.sB, ?_⟩
  · show 0 ≤ (s.x.count : Int) + n; omega
  · show max n 0 = max ((s.x.count : Int) + n - s.x.count) 0; omega
  · show -1 ≤ (s.x.count : Int) + n ∧ (s.x.count : Int) + n ≤ s.x.count + 11; omega
theorem crash_count (x : PS) (cs : List Int) : (x.crash cs).count = x.count := rfl
theorem LS.crash (h : s.Ok k) (hk : k ≤ 90) (cs : List Int) (hnd : ND (s.x.crash cs).dir) : ∃ s' : LS, s'.x = s.x.crash cs ∧ s'.Ok (k + 1) ∧ s'.struck = [] ∧ s'.stop = -1 ∧ s'.may = [] ∧ s'.fl = false ∧ (s'.c = s.c ∨ s'.c ∈ s.may) ∧ s'.Free := by
  have hl := h.last
  obtain ⟨E', c', last', hi, hcl⟩ := h.inv.crash (by omega) cs
  have hr := Hr.crashed s.x cs
  refine ⟨{ x := s.x.crash cs, N := s.N, E := E', c := c', last := last', may := [], struck := [], stop := -1, fl := false }, rfl, ⟨hi, hr, hnd, ?_, ?_, (fun l hl => by cases hl), Nat.zero_le _, Nat.zero_le _, (fun t ht => by cases ht), ⟨Int.le_refl _, by show (-1 : Int) ≤ ((s.x.crash cs).count : Int) + 11; omega⟩⟩, rfl, rfl, rfl, rfl, ?_, ⟨rfl, rfl, rfl⟩⟩
  · show last' ≤ k + 1; omega
  · show Sz (k + 1) c'
    rcases hcl with ⟨h1, -⟩ | ⟨h1, -⟩
    · rw [h1]; exact h.cS.mono (Nat.le_succ _)
    · exact (h.mS c' h1).mono (Nat.le_succ _)
  · exact hcl.elim (fun h => .inl h.1) fun h => .inr h.1
end
end Go.Proofs.YtfchnpdgnhoffaaGreatDoor
namespace Go.Proofs.YtfchnpdgnhoffaaGreatDoor
open Go.RowKit Go.Shelf Go.Maps

def SpBR (w : World) (b : Nat) (v : Value) (n : Nat) (i : Value) (wr : World) : Prop :=
  ∃ (k : Nat) (bs : List UInt8), k ≤ n ∧ i = .int .i64 k ∧ bs.length = n ∧ wr.ownsRow b 5 1 v n (bytesV bs) ∧ Below b w wr
def SpBR2 (w : World) (b : Nat) (n : Nat) (v i : Value) (wr : World) : Prop :=
  ∃ (k : Nat) (u : Value) (bs : List UInt8), k ≤ 40 ∧ u = v ∧ i = .int .i64 k ∧ wr.ownsRow b 5 1 u (n + k) (bytesV bs) ∧ Below b w wr
theorem own_byte_at {w : World} {b g c n : Nat} {bs : List UInt8} (h : w.ownsRow b 5 1 (.slice (some ⟨g, 0, none⟩) n c) n (bytesV bs)) (k : Nat) (hk : k < bs.length) (hkn : k < n) :
    w.cell? ⟨g, k, none⟩ = some (.int .u8 (bs[k].toNat : Int)) := by
  rw [h.cellAt k (by omega), bytesV, List.getElem?_map, List.getElem?_eq_getElem hk]
  rfl
set_option maxRecDepth 100000 in
set_option maxHeartbeats 1600000 in
theorem spoilbytes_any (v : Value) (bs : List UInt8) (b : Nat) (w : World) (h : w.ownsRow b 5 1 v bs.length (bytesV bs)) (hb : b ≤ w.heap.size) (hl : bs.length ≤ 10000000) :
    Calls Tryz.prog 26 #[v] w fun e w' => e = .returned (.tuple #[]) ∧ Below b w w' := by
  obtain ⟨i0, hi, hz0, hz1, hz2⟩ := info_parts info5
  obtain ⟨N, hN⟩ : ∃ N, N = bs.length := ⟨_, rfl⟩
  obtain ⟨A, c, rfl, hA⟩ : ∃ A c, v = .slice A N c ∧ (N ≠ 0 → ∃ g, A = some ⟨g, 0, none⟩) := by
    rcases h.2 with ⟨rfl, h0⟩ | ⟨g, cap, cur, rfl, _⟩
    · exact ⟨none, 0, by rw [hN, h0], fun hn => absurd (hN.trans h0) hn⟩
    · exact ⟨_, _, by rw [hN], fun _ => ⟨_, rfl⟩⟩
  rw [← hN] at h
  have H := Lib.hid h
  have HN := Lib.hid hN
  have HA := Lib.hid hA
  have HI := Lib.hid hi
  have HZ0 := Lib.hid hz0
  have HZ1 := Lib.hid hz1
  have HZ2 := Lib.hid hz2
  have hN2 : N ≤ 10000000 := by omega
  clear h hi hz0 hz1 hz2 hN hA
  go_enter Tryz.func26, Tryz.ntmps26
  go_wp2_with fail
  go_loopw [2] (fun i wr => SpBR w b (.slice A N c) N i wr) (fun i _ => N - (intOf i).toNat)
  case atStart => exact ⟨0, bs, Nat.zero_le _, rfl, HN.out.symm, H.out, Below.refl _ _⟩
  case round =>
    obtain ⟨k, cs, hk, rfl, hcn, ho, hB⟩ := hrel
    have HO := Lib.hid ho
    have HB := Lib.hid hB
    have HCN := Lib.hid hcn
    by_cases hlt : k < N
    · obtain ⟨g, hg⟩ := HA.out (by omega)
      subst hg
      have q1 := own_byte_at ho k (by omega) hlt
      have kg := HO.out.frozenAt k
      obtain ⟨x, hxe⟩ : ∃ x, x = cs[k].toNat := ⟨_, rfl⟩
      have hx : x < 256 := by rw [hxe]; exact UInt8.toNat_lt _
      rw [← hxe] at q1
      have hxor := u8_xor_nat x 255 hx (by omega)
      rw [show ((255 : Nat) : Int) = 255 from rfl] at hxor
      have hxx : x ^^^ 255 < 256 := Nat.xor_lt_two_pow (n := 8) hx (by omega)
      clear hxe ho hB hcn
      go_wp2
      have hs := HO.out.stored k (.int .u8 ((x ^^^ 255 : Nat) : Int))
      have hg1 := HO.out.lt g rfl
      refine ⟨⟨k + 1, cs.set k (UInt8.ofNat (x ^^^ 255)), by omega, by go_num, by rw [List.length_set]; exact HCN.out, ?_, ?_⟩, by simp [intOf]; omega⟩
      · have e : bytesV (cs.set k (UInt8.ofNat (x ^^^ 255))) = (bytesV cs).set k (.int .u8 ((x ^^^ 255 : Nat) : Int)) := by
          unfold bytesV
          rw [List.map_set]
          congr 3
          rw [UInt8.toNat_ofNat']
          congr 1
          omega
        rw [e]; exact hs.1
      · exact HB.out.setCell (p := ⟨g, k, none⟩) hg1.1 _
    · have hkl : k = N := by omega
      subst hkl
      clear H HA hlt ho hB hcn
      go_wp2_with fail
      go_loopw [0, 3] (fun v i wr' => SpBR2 w b k v i wr') (fun _ i _ => 40 - (intOf i).toNat)
      case atStart => exact ⟨0, _, cs, Nat.zero_le _, rfl, rfl, HO.out, HB.out⟩
      case round =>
        obtain ⟨j, u, ds, hj, hu, rfl, ho, hB⟩ := hrel
        subst hu
        have HO2 := Lib.hid ho
        have HB2 := Lib.hid hB
        have hsz := hB.size
        clear ho hB HO HB HCN
        by_cases hlt : j < 40
        · go_wp2_with (at_builtin; go_loud (refine wpList_append_own _ rfl (.tmp 22) (.tmp 23) 25 rfl b 5 i0 (.int .u8 0) 1 1 Tryz.underlying25 HI.out HZ0.out HZ1.out HZ2.out rfl (by decide) u (k + j) (bytesV ds) rfl (HO2.out.alloc _) ⟨_, 0, none⟩ 1 1 [.int .u8 85] rfl rfl (cell_one_new _ _ _) (by simp [Value.oneCell']) (by simp only [maxLen]; omega) (by omega) (by simp; omega) ?_; intro v' w1 hown1 hgrow1 _; have HOW := Lib.hid hown1; have HGR := Lib.hid hgrow1; clear hown1 hgrow1))
          refine ⟨⟨j + 1, v', ds ++ [85], by omega, rfl, by go_num, ?_, (HB2.out.alloc (by omega) _).grown HGR.out (by simp; omega) (fun k hk => (HO2.out.lt k hk).1)⟩, by simp [intOf]; omega⟩
          have := HOW.out
          rw [show bytesV (ds ++ [85]) = bytesV ds ++ [.int .u8 85] by simp [bytesV]]
          exact this
        · go_wp2
          go_end0
          exact ⟨rfl, HB2.out⟩
def IntR (w : World) (g c n : Nat) (i : Value) (wr : World) : Prop :=
  ∃ (k b : Nat) (xs : List Value), k ≤ n ∧ i = .int .i64 k ∧ xs.length = n ∧ wr.ownsRow b 5 1 (.slice (some ⟨g, 0, none⟩) n c) n xs ∧ w.grownBy wr (some g)
set_option maxRecDepth 100000 in
set_option maxHeartbeats 1600000 in
theorem intact_any (w : World) (A : Option Addr) (cap g c lim B : Nat) (bs : List UInt8) (h : Reads w lim 1 A bs.length (bytesV bs)) (hL : w.ownsRow B 5 1 (.slice (some ⟨g, 0, none⟩) (bs.length + 4) c) (bs.length + 4) (bytesV (bs ++ markV))) (hl : bs.length ≤ 100000) :
    Calls Tryz.prog 38 #[.slice (some ⟨g, 0, none⟩) bs.length c, .slice A bs.length cap] w fun e w' => e = .returned (.bool true) ∧ w.grownBy w' (some g) := by
  have hcc : (bs.length : Int) + 4 ≤ (c : Int) := by have := own_capv hL; omega
  have hlen : (bs ++ markV).length = bs.length + 4 := by simp [markV]
  have j1 : (convert 25 9 (.slice (some ⟨g, 0, none⟩) (bs.length + 4) c)).run Tryz.prog w = .ok (.string ⟨(bs ++ markV).toArray⟩) w := run_str_reads c (Reads.of_own hL)
  have j2 : (convert 25 9 (.slice A bs.length cap)).run Tryz.prog w = .ok (.string ⟨bs.toArray⟩) w := run_str_reads cap h
  have HS : (⟨bs.toArray⟩ : ByteArray) ++ { data := #[201, 202, 203, 204] } = ⟨(bs ++ markV).toArray⟩ := by
    apply ByteArray.ext
    simp [markV]
  have hsz : (⟨bs.toArray⟩ : ByteArray).size + 4 ≤ 9223372036854775807 := by
    have : (⟨bs.toArray⟩ : ByteArray).size = bs.length := by simp [ByteArray.size]
    omega
  have HL := Lib.hid hL
  have HLN := Lib.hid hlen
  clear h hL hlen
  go_enter Tryz.func38, Tryz.ntmps38
  go_wp2_with fail
  go_loopw [7] (fun i wr => IntR w g c (bs.length + 4) i wr) (fun i _ => (bs.length + 4) - (intOf i).toNat)
  case atStart => exact ⟨0, B, bytesV (bs ++ markV), Nat.zero_le _, rfl, by rw [bytesV_length, HLN.out], HL.out, only_refl _ _⟩
  case round =>
    obtain ⟨k, b', cs, hk, rfl, hcn, ho, hb⟩ := hrel
    have HO := Lib.hid ho
    have HB := Lib.hid hb
    have HC := Lib.hid hcn
    clear ho hb hcn j1 j2 HS HL hsz
    by_cases hlt : k < bs.length + 4
    · obtain ⟨u, hu⟩ : ∃ u, wr.cell? ⟨g, k, none⟩ = some u := ⟨cs[k]'(by have := HC.out; omega), by rw [HO.out.cellAt k (by omega)]; exact List.getElem?_eq_getElem _⟩
      have kg := HO.out.frozenAt k
      go_wp2
      have hs := HO.out.stored k (.int .u8 85)
      refine ⟨⟨k + 1, b', _, by omega, by go_num, by rw [List.length_set]; exact HC.out, hs.1, only_setCell HB.out (p := ⟨g, k, none⟩) (.inl rfl) _⟩, by simp [intOf]; omega⟩
    · have hkl : k = bs.length + 4 := by omega
      go_wp2
      go_ret
      exact ⟨rfl, HB.out⟩
def intsV (l : List Int) : List Value := l.map (Value.int .i64)
def SpBG (w : World) (b : Nat) (v : Value) (n : Nat) (i : Value) (wr : World) : Prop :=
  ∃ (k : Nat) (bs : List UInt8), k ≤ n ∧ i = .int .i64 k ∧ bs.length = n ∧ wr.ownsRow b 5 1 v n (bytesV bs) ∧ w.grownBy wr v.ownBlock
def SpBG2 (w : World) (b : Nat) (n : Nat) (row : Option Nat) (v i : Value) (wr : World) : Prop :=
  ∃ (k : Nat) (u : Value) (bs : List UInt8), k ≤ 40 ∧ u = v ∧ i = .int .i64 k ∧ wr.ownsRow b 5 1 u (n + k) (bytesV bs) ∧ w.grownBy wr row ∧ (u.ownBlock = row ∨ ∀ g, u.ownBlock = some g → w.heap.size ≤ g)
theorem grown_two {a b c : World} {row row2 : Option Nat} (h1 : a.grownBy b row) (h2 : b.grownBy c row2) (hr : row2 = row ∨ ∀ g, row2 = some g → a.heap.size ≤ g) : a.grownBy c row where
  os := h2.os.trans h1.os
  tape := h2.tape.trans h1.tape
  output := h2.output.trans h1.output
  size := Nat.le_trans h1.size h2.size
  block := fun k hk hn => by
    refine (h2.block k (Nat.lt_of_lt_of_le hk h1.size) ?_).trans (h1.block k hk hn)
    rcases hr with e | e
    · rw [e]; exact hn
    · intro e2
      exact absurd (e k e2.symm) (by omega)
theorem loc_two {a : Nat} {c : Nat} {row row2 row3 : Option Nat} (h1 : row2 = row ∨ ∀ g, row2 = some g → a ≤ g) (h2 : row3 = row2 ∨ row3 = some c) (hc : a ≤ c) : row3 = row ∨ ∀ g, row3 = some g → a ≤ g := by
  rcases h2 with e | e
  · rw [e]; exact h1
  · refine .inr fun g hg => ?_
    rw [e] at hg
    injection hg with hg
    omega
set_option maxRecDepth 100000 in
set_option maxHeartbeats 1600000 in
theorem spoilbytes2_any (v : Value) (bs : List UInt8) (b : Nat) (w : World) (h : w.ownsRow b 5 1 v bs.length (bytesV bs)) (hb : b ≤ w.heap.size) (hl : bs.length ≤ 10000000) :
    Calls Tryz.prog 26 #[v] w fun e w' => e = .returned (.tuple #[]) ∧ w.grownBy w' v.ownBlock := by
  obtain ⟨i0, hi, hz0, hz1, hz2⟩ := info_parts info5
  obtain ⟨N, hN⟩ : ∃ N, N = bs.length := ⟨_, rfl⟩
  obtain ⟨A, c, rfl, hA⟩ : ∃ A c, v = .slice A N c ∧ (N ≠ 0 → ∃ g, A = some ⟨g, 0, none⟩) := by
    rcases h.2 with ⟨rfl, h0⟩ | ⟨g, cap, cur, rfl, _⟩
    · exact ⟨none, 0, by rw [hN, h0], fun hn => absurd (hN.trans h0) hn⟩
    · exact ⟨_, _, by rw [hN], fun _ => ⟨_, rfl⟩⟩
  rw [← hN] at h
  have H := Lib.hid h
  have HN := Lib.hid hN
  have HA := Lib.hid hA
  have HI := Lib.hid hi
  have HZ0 := Lib.hid hz0
  have HZ1 := Lib.hid hz1
  have HZ2 := Lib.hid hz2
  have hN2 : N ≤ 10000000 := by omega
  clear h hi hz0 hz1 hz2 hN hA
  go_enter Tryz.func26, Tryz.ntmps26
  go_wp2_with fail
  go_loopw [2] (fun i wr => SpBG w b (.slice A N c) N i wr) (fun i _ => N - (intOf i).toNat)
  case atStart => exact ⟨0, bs, Nat.zero_le _, rfl, HN.out.symm, H.out, only_refl _ _⟩
  case round =>
    obtain ⟨k, cs, hk, rfl, hcn, ho, hB⟩ := hrel
    have HO := Lib.hid ho
    have HB := Lib.hid hB
    have HCN := Lib.hid hcn
    by_cases hlt : k < N
    · obtain ⟨g, hg⟩ := HA.out (by omega)
      subst hg
      have q1 := own_byte_at ho k (by omega) hlt
      have kg := HO.out.frozenAt k
      obtain ⟨x, hxe⟩ : ∃ x, x = cs[k].toNat := ⟨_, rfl⟩
      have hx : x < 256 := by rw [hxe]; exact UInt8.toNat_lt _
      rw [← hxe] at q1
      have hxor := u8_xor_nat x 255 hx (by omega)
      rw [show ((255 : Nat) : Int) = 255 from rfl] at hxor
      have hxx : x ^^^ 255 < 256 := Nat.xor_lt_two_pow (n := 8) hx (by omega)
      clear hxe ho hB hcn
      go_wp2
      have hs := HO.out.stored k (.int .u8 ((x ^^^ 255 : Nat) : Int))
      have hg1 := HO.out.lt g rfl
      refine ⟨⟨k + 1, cs.set k (UInt8.ofNat (x ^^^ 255)), by omega, by go_num, by rw [List.length_set]; exact HCN.out, ?_, ?_⟩, by simp [intOf]; omega⟩
      · have e : bytesV (cs.set k (UInt8.ofNat (x ^^^ 255))) = (bytesV cs).set k (.int .u8 ((x ^^^ 255 : Nat) : Int)) := by
          unfold bytesV
          rw [List.map_set]
          congr 3
          rw [UInt8.toNat_ofNat']
          congr 1
          omega
        rw [e]; exact hs.1
      · exact only_setCell HB.out (p := ⟨g, k, none⟩) (.inl rfl) _
    · have hkl : k = N := by omega
      subst hkl
      clear H HA hlt ho hB hcn
      go_wp2_with fail
      go_loopw [0, 3] (fun v i wr' => SpBG2 w b k (Value.slice A k c).ownBlock v i wr') (fun _ i _ => 40 - (intOf i).toNat)
      case atStart => exact ⟨0, _, cs, Nat.zero_le _, rfl, rfl, HO.out, HB.out, .inl rfl⟩
      case round =>
        obtain ⟨j, u, ds, hj, hu, rfl, ho, hB, hloc⟩ := hrel
        subst hu
        have HLOC := Lib.hid hloc
        clear hloc
        have HO2 := Lib.hid ho
        have HB2 := Lib.hid hB
        have hsz := hB.size
        clear ho hB HO HB HCN
        by_cases hlt : j < 40
        · go_wp2_with (at_builtin; go_loud (refine wpList_append_any _ rfl (.tmp 22) (.tmp 23) 25 rfl b 5 i0 (.int .u8 0) 1 1 Tryz.underlying25 HI.out HZ0.out HZ1.out HZ2.out rfl (by decide) u (k + j) (bytesV ds) rfl (HO2.out.alloc _) _ _ 1 1 [.int .u8 85] rfl (reads_new1 _ 5 _) (by simp [Value.oneCell']) (by simp only [maxLen]; omega) (by omega) (by simp; omega) ?_; intro v' w1 hown1 hgrow1 hlo1; have HLO := Lib.hid hlo1; clear hlo1; have HOW := Lib.hid hown1; have HGR := Lib.hid hgrow1; clear hown1 hgrow1))
          refine ⟨⟨j + 1, v', ds ++ [85], by omega, rfl, by go_num, ?_, grown_two (only_alloc HB2.out _) HGR.out HLOC.out, loc_two HLOC.out HLO.out (by simp; omega)⟩, by simp [intOf]; omega⟩
          have := HOW.out
          rw [show bytesV (ds ++ [85]) = bytesV ds ++ [.int .u8 85] by simp [bytesV]]
          exact this
        · go_wp2
          go_end0
          exact ⟨rfl, HB2.out⟩
end Go.Proofs.YtfchnpdgnhoffaaGreatDoor
namespace Go.Proofs.YtfchnpdgnhoffaaGreatDoor
open Go.RowKit Go.Shelf Go.Maps

/-- the rows that might be the content -/
def MayAt (w : World) (G : Nat → Prop) (vm : Value) (l : List (List Rec)) : Prop :=
  ∃ us, w.ownsRow 0 29 1 vm l.length us ∧ ∀ (i : Nat) (u : Value) (m : List Rec), us[i]? = some u → l[i]? = some m → RecsR w G u m
/-- the world at wp, its own blocks in F, what it reads in G; the log is that of a -/
structure WSt (w : World) (F G : Nat → Prop) (wp n : Nat) (a s : LS) (lp p : Nat) (Fl : Nat → Prop) (vc vm vs : Value) : Prop where
  log : LogAt w Fl lp p n a.x a.c a.last a.fl
  blk : Blk w wp 32 #[.pointer (some ⟨p, 0, none⟩), .pointer (some ⟨lp, 0, none⟩), vc, vm, vs, .int .i64 s.stop]
  cont : RecsR w G vc s.c
  may : MayAt w G vm s.may
  struck : w.ownsRow 0 3 1 vs s.struck.length (intsV s.struck)
  own : F wp
  far : ¬ Fl wp
  sub : ∀ y, Fl y → F y
  mayF : ∀ y, vm.ownBlock = some y → F y ∧ ¬ Fl y
  strF : ∀ y, vs.ownBlock = some y → F y ∧ ¬ Fl y
  disj : ∀ y, G y → ¬ F y
  lt : ∀ y, F y → y < w.heap.size
  syn : SynW w
  no0 : ¬ F 0
theorem MayAt.keep {w w' : World} {G : Nat → Prop} {vm : Value} {l : List (List Rec)} (h : MayAt w G vm l) (hs : w.heap.size ≤ w'.heap.size) (ho : ∀ k, vm.ownBlock = some k → w'.heap[k]? = w.heap[k]?) (hk : ∀ k, G k → k < w.heap.size → w'.heap[k]? = w.heap[k]?) : MayAt w' G vm l := by
  obtain ⟨us, h1, h2⟩ := h
  exact ⟨us, own_keep h1 fun k e _ => ho k e, fun i u m e1 e2 => (h2 i u m e1 e2).keep hs hk⟩
theorem MayAt.mono {w : World} {G H : Nat → Prop} {vm : Value} {l : List (List Rec)} (h : MayAt w G vm l) (hG : ∀ k, k < w.heap.size → G k → H k) : MayAt w H vm l := by
  obtain ⟨us, h1, h2⟩ := h
  exact ⟨us, h1, fun i u m e1 e2 => (h2 i u m e1 e2).mono hG⟩
theorem MayAt.nil (w : World) (G : Nat → Prop) : MayAt w G (.slice none 0 0) [] := ⟨[], World.ownsRow_nil _ _ _ _, fun i u m h => by cases h⟩
section
variable {w w' : World} {F G H : Nat → Prop} {wp n : Nat} {a s : LS} {lp p : Nat} {Fl : Nat → Prop} {vc vm vs : Value}
theorem WSt.keep (h : WSt w F G wp n a s lp p Fl vc vm vs) (hs : w.heap.size ≤ w'.heap.size) (hF : ∀ k, F k → k < w.heap.size → w'.heap[k]? = w.heap[k]?) (hG : ∀ k, G k → k < w.heap.size → w'.heap[k]? = w.heap[k]?) (h0 : w'.heap[0]? = w.heap[0]?) : WSt w' F G wp n a s lp p Fl vc vm vs where
  log := h.log.keep fun k hk hlt => hF k (h.sub k hk) hlt
  blk := (hF wp h.own h.blk.lt).trans h.blk
  cont := h.cont.keep hs hG
  may := h.may.keep hs (fun k e => hF k (h.mayF k e).1 (h.lt k (h.mayF k e).1)) hG
  struck := own_keep h.struck fun k e hlt => hF k (h.strF k e).1 hlt
  own := h.own
  far := h.far
  sub := h.sub
  mayF := h.mayF
  strF := h.strF
  disj := h.disj
  lt := fun y hy => Nat.lt_of_lt_of_le (h.lt y hy) hs
  syn := by
    obtain ⟨ev, h1, h2⟩ := h.syn
    exact ⟨ev, (World.cell?_of_block (a := ⟨0, 0, none⟩) h0).trans h1, h2⟩
  no0 := h.no0
theorem WSt.below (h : WSt w F G wp n a s lp p Fl vc vm vs) (hb : Below w.heap.size w w') : WSt w' F G wp n a s lp p Fl vc vm vs :=
  h.keep hb.size (fun k _ hlt => hb.block k hlt) (fun k _ hlt => hb.block k hlt) (hb.block 0 h.syn.lt)
theorem WSt.drewN (h : WSt w F G wp n a s lp p Fl vc vm vs) (q : Nat) : WSt (w.drewN q) F G wp n a s lp p Fl vc vm vs := h.below (below_drewN (Below.refl _ _) q)
theorem WSt.atG (h : WSt w F G wp n a s lp p Fl vc vm vs) : WSt w F (fun y => G y ∧ y < w.heap.size) wp n a s lp p Fl vc vm vs :=
  { h with
    cont := h.cont.mono fun k hlt hk => ⟨hk, hlt⟩
    may := h.may.mono fun k hlt hk => ⟨hk, hlt⟩
    disj := fun y hy => h.disj y hy.1 }
theorem WSt.mono {m : Nat} (h : WSt w F G wp n a s lp p Fl vc vm vs) (hm : n ≤ m) : WSt w F G wp m a s lp p Fl vc vm vs :=
  { h with log := h.log.mono (fun _ hk => hk) hm }
theorem WSt.inG (h : WSt w F G wp n a s lp p Fl vc vm vs) (hG : ∀ y, G y → H y) (hd : ∀ y, H y → ¬ F y) : WSt w F H wp n a s lp p Fl vc vm vs :=
  { h with cont := h.cont.mono fun k _ hk => hG k hk, may := h.may.mono fun k _ hk => hG k hk, disj := hd }
theorem WSt.lpF (h : WSt w F G wp n a s lp p Fl vc vm vs) : F lp := h.sub _ h.log.own.1
theorem WSt.wp_ne (h : WSt w F G wp n a s lp p Fl vc vm vs) : wp ≠ lp := fun e => h.far (by rw [e]; exact h.log.own.1)
/-- behind a call of the log's -/
theorem WSt.logged {n' : Nat} {b : LS} (h : WSt w F G wp n a s lp p Fl vc vm vs) (hc : Chg Fl w w') (hl : LogAt w' (New Fl w w') lp p n' b.x b.c b.last b.fl) :
    WSt w' (New F w w') (fun y => G y ∧ y < w.heap.size) wp n' b s lp p (New Fl w w') vc vm vs where
  log := hl
  blk := (hc.block wp h.blk.lt h.far).trans h.blk
  cont := (h.cont.mono fun k hlt hk => ⟨hk, hlt⟩).keep hc.size fun k hk hlt => hc.block k hlt fun hf => h.disj k hk.1 (h.sub k hf)
  may := (h.may.mono fun k hlt hk => ⟨hk, hlt⟩).keep hc.size (fun k e => hc.block k (h.lt k (h.mayF k e).1) (h.mayF k e).2) fun k hk hlt => hc.block k hlt fun hf => h.disj k hk.1 (h.sub k hf)
  struck := own_keep h.struck fun k e hlt => hc.block k hlt (h.strF k e).2
  own := .inl h.own
  far := fun hk => hk.elim h.far fun hk => by have := h.blk.lt; omega
  sub := fun y hy => hy.elim (fun hy => .inl (h.sub y hy)) .inr
  mayF := fun y e => ⟨.inl (h.mayF y e).1, fun hk => hk.elim (h.mayF y e).2 fun hk => by have := h.lt y (h.mayF y e).1; omega⟩
  strF := fun y e => ⟨.inl (h.strF y e).1, fun hk => hk.elim (h.strF y e).2 fun hk => by have := h.lt y (h.strF y e).1; omega⟩
  disj := fun y hy hk => hk.elim (h.disj y hy.1) fun hk => by have := hy.2; omega
  lt := fun y hy => hy.elim (fun hy => Nat.lt_of_lt_of_le (h.lt y hy) hc.size) fun hy => hy.2
  syn := h.syn.chg hc fun hf => h.no0 (h.sub 0 hf)
  no0 := fun hk => hk.elim h.no0 fun hk => by have := h.syn.lt; omega
end
/-- behind an operation of the disk's -/
theorem LogAt.disk {w w' : World} {F : Nat → Prop} {lp p n n' : Nat} {x y : PS} {c : List Rec} {last : Nat} {fl : Bool} (h : LogAt w F lp p n x c last fl) (hF : ∀ k, F k → k < w.heap.size) :
    ∃ Fd, Dk w Fd p n x ∧ (∀ k, Fd k → F k) ∧ (Dk w' (Grs Fd w w') p n' y → Chg Fd w w' → LogAt w' (New F w w') lp p n' y c last fl) := by
  obtain ⟨Fd, G, vc, h1, h2, h3, h4, h5, h6, h7, h8⟩ := h
  refine ⟨Fd, h1, fun k hk => (h7 k hk).1, fun hd hc => ⟨Grs Fd w w', G, vc, hd, (hc.block lp h2.lt h5).trans h2, h3.keep fun k hk hlt => hc.block k hlt fun h => (h7 k h).2 hk, .inl h4, fun h => ?_, h6, fun y hy => ?_, fun y hy => .inl (h8 y hy)⟩⟩
  · rcases h.1 with h | h
    · exact h5 h
    · have := h2.lt; omega
  · rcases hy.1 with h | h
    · exact ⟨.inl (h7 y h).1, (h7 y h).2⟩
    · exact ⟨.inr ⟨h, hy.2⟩, fun h9 => by have := hF y (h8 y h9); omega⟩
/-- what a thing that happens leaves -/
def WAt (w : World) (F : Nat → Prop) (wp n : Nat) (s : LS) : Prop := ∃ G lp p Fl vc vm vs, WSt w F G wp n s s lp p Fl vc vm vs
def WPost (w : World) (F : Nat → Prop) (wp n : Nat) (s : LS) (w' : World) : Prop := ∃ F' : Nat → Prop, (∀ y, F' y → New F w w' y) ∧ WAt w' F' wp n s ∧ Chg F w w'
theorem WAt.below {w w' : World} {F : Nat → Prop} {wp n : Nat} {s : LS} (h : WAt w F wp n s) (hb : Below w.heap.size w w') : WAt w' F wp n s := by
  obtain ⟨G, lp, p, Fl, vc, vm, vs, h⟩ := h
  exact ⟨G, lp, p, Fl, vc, vm, vs, h.below hb⟩
theorem WAt.mono {w : World} {F : Nat → Prop} {wp n m : Nat} {s : LS} (h : WAt w F wp n s) (hm : n ≤ m) : WAt w F wp m s := by
  obtain ⟨G, lp, p, Fl, vc, vm, vs, h⟩ := h
  exact ⟨G, lp, p, Fl, vc, vm, vs, h.mono hm⟩
theorem WPost.chain {w w5 w6 : World} {F F5 : Nat → Prop} {wp n m : Nat} {s : LS} (h : WPost w5 F5 wp n s w6) (hc : Chg F w w5) (hF : ∀ y, F5 y → New F w w5 y) (hm : n ≤ m) : WPost w F wp m s w6 := by
  obtain ⟨F', h1, h2, h3⟩ := h
  have hs := hc.size
  have hs3 := h3.size
  refine ⟨F', fun y hy => ?_, h2.mono hm, hc.trans h3 fun y hy => (hF y hy).elim .inl fun h => .inr h.1⟩
  rcases h1 y hy with h | h
  · exact (hF y h).elim .inl fun h => .inr ⟨h.1, by omega⟩
  · exact .inr ⟨by omega, h.2⟩
end Go.Proofs.YtfchnpdgnhoffaaGreatDoor
