/- The tests of a row of labels, the document's (ref2.Right) and the program's (labels.Right), exactly. Printed by gen_right.py. A head, told plainly: its retention, its newest time, its series rising by their labels; what a batch does. A directory in memory: a map from names to pointers, told by a plain list; look-up, store, delete. The ends of series that a plan has reckoned: a map from texts to a last sample, told by a plain list. Printed by gen_dir.py. A head in memory. -/
import Derived.Test.YtbeeejpjnniejaaGreatDoorJ04LRight
import Derived.Test.YtbeeejpjnniejaaGreatDoorJ00Lib
import Derived.Maps.OwnSet
import Derived.Maps.OwnOps
import Derived.Shelf.Abstract
namespace Go.Proofs.YtbeeejpjnniejaaGreatDoor
open Go.RowKit
/-- a label that may not stand there -/
def badAt (ls : List Lbl) (k : Nat) : Bool := (!fairB (lblAt ls k).1 (lblAt ls k).2 || ((lblAt ls k).2.toList == [])) || (decide (0 < k) && !Op.bytesLess (lblAt ls (k - 1)).1.toList (lblAt ls k).1.toList)
def okTo (ls : List Lbl) (k : Nat) : Bool := (List.range k).all fun j => !badAt ls j
def rightL (ls : List Lbl) : Bool := okTo ls ls.length && decide (ls.length ≤ 64)
theorem okTo_succ (ls : List Lbl) (k : Nat) : okTo ls (k + 1) = (okTo ls k && !badAt ls k) := by unfold okTo; rw [List.range_succ, List.all_append]; simp
theorem rightL_bad {ls : List Lbl} {k : Nat} (hk : k < ls.length) (hb : badAt ls k = true) : rightL ls = false := by
  have : okTo ls ls.length = false := by
    unfold okTo
    rw [List.all_eq_false]
    exact ⟨k, List.mem_range.2 hk, by rw [hb]; decide⟩
  unfold rightL
  rw [this]; rfl
/-- of a right row -/
theorem rightL_at {ls : List Lbl} (h : rightL ls = true) {k : Nat} {p : Lbl} (hp : ls[k]? = some p) : fairB p.1 p.2 = true ∧ p.2.toList ≠ [] ∧ (∀ q, 0 < k → ls[k - 1]? = some q → Op.bytesLess q.1.toList p.1.toList = true) := by
  unfold rightL at h
  obtain ⟨h1, _⟩ := Bool.and_eq_true_iff.1 h
  unfold okTo at h1
  have h2 := List.all_eq_true.1 h1 k (List.mem_range.2 (List.getElem?_eq_some_iff.1 hp).1)
  unfold badAt at h2
  rw [lblAt_of hp] at h2
  cases e1 : fairB p.1 p.2 with
  | false => rw [e1] at h2; simp at h2
  | true =>
    cases e2 : p.2.toList == [] with
    | true => rw [e1, e2] at h2; simp at h2
    | false =>
      refine ⟨rfl, by simpa using e2, fun q hk hq => ?_⟩
      rw [e1, e2, lblAt_of hq, decide_eq_true hk] at h2
      simpa using h2
theorem fairB_le {x y : ByteArray} (h : fairB x y = true) : 1 ≤ x.size ∧ x.size ≤ 1024 ∧ y.size ≤ 1024 := by
  unfold fairB wordB valueB at h
  simp only [Bool.and_eq_true, decide_eq_true_eq] at h
  obtain ⟨⟨⟨⟨_, h1⟩, h2⟩, h3, _⟩, _⟩ := h
  exact ⟨h1, h2, h3⟩
theorem rightL_fit {ls : List Lbl} (h : rightL ls = true) : LFit ls := by
  have h0 := h
  unfold rightL at h0
  obtain ⟨_, h2⟩ := Bool.and_eq_true_iff.1 h0
  refine ⟨of_decide_eq_true h2, fun p hp => ?_⟩
  obtain ⟨k, hk⟩ := List.mem_iff_getElem?.1 hp
  have := fairB_le (rightL_at h hk).1
  exact ⟨this.2.1, this.2.2⟩
def RgR (w : World) (ls : List Lbl) (n : Nat) (i : Value) (wr : World) : Prop := ∃ k : Nat, i = .int .i64 (k : Int) ∧ k ≤ n ∧ okTo ls k = true ∧ Below w.heap.size w wr
set_option maxRecDepth 100000 in
set_option maxHeartbeats 6400000 in
theorem rright_any (w : World) (B : Nat) (v : Value) (ls : List Lbl) (h : LabsAt w B v ls) (hB : B ≤ w.heap.size) (hl : ls.length ≤ 9223372036854775807) (hsz : ∀ p ∈ ls, p.1.size ≤ 9223372036854775807 ∧ p.2.size ≤ 9223372036854775807) :
    Calls Tryz.prog 81 #[v] w fun e w' => e = .returned (.bool (rightL ls)) ∧ Below w.heap.size w w' := by
  obtain ⟨A, c, rfl, hr⟩ := h
  obtain ⟨n, hn⟩ : ∃ n, n = ls.length := ⟨_, rfl⟩
  rw [← hn] at hr hl ⊢
  have HR := Lib.hid hr
  have HN := Lib.hid hn
  have HSZ := Lib.hid hsz
  have HBB := Lib.hid hB
  have HI := Lib.hid (show RgR w ls n (.int .i64 0) w from ⟨0, rfl, Nat.zero_le _, rfl, Below.refl _ w⟩)
  clear hr hn hsz hB
  go_enter Tryz.func81, Tryz.ntmps81
  go_wp2_with fail
  go_loopw [3] (fun i wr => RgR w ls n i wr) (fun i _ => n - (intOf i).toNat)
  case atStart => exact HI.out
  case round =>
    obtain ⟨k, rfl, hk, hok, hb⟩ := hrel
    have HOK := Lib.hid hok
    have hnl := HN.out
    by_cases hlt : k < n
    · have i1 : (k : Int) < (n : Int) := by omega
      have sk : IntKind.i64.wrap ((k : Int) + 1) = ((k + 1 : Nat) : Int) := (IntWalk.i64_in _ (by omega)).trans (by omega)
      obtain ⟨p, hp⟩ : ∃ p, ls[k]? = some p := ⟨_, List.getElem?_eq_getElem (by omega)⟩
      have hla := lblAt_of hp
      obtain ⟨d, rfl, hd, x1, x2⟩ := (HR.out.keep fun p hp => hb.cell (by have := HBB.out; omega)).two hp
      obtain ⟨z1, z2⟩ := HSZ.out p (List.mem_of_getElem? hp)
      obtain ⟨p1, p2⟩ := p
      dsimp only at x1 x2 z1 z2
      have i2 : (0 : Int) ≤ (k : Int) := by omega
      have hwr : B ≤ wr.heap.size := Nat.le_trans HBB.out hb.size
      have hbw2 := hb
      have X1 : ∀ st : Cls wr, st.val.cell? (d.add (k * 2)) = some (.string p1) := fun st => (st.2.cell (by rw [block_of_add]; omega)).trans x1
      have X2 : ∀ st : Cls wr, st.val.cell? ⟨(d.add (k * 2)).block, (d.add (k * 2)).off + 1, none⟩ = some (.string p2) := fun st => (st.2.cell (by show (d.add (k * 2)).block < _; rw [block_of_add]; omega)).trans x2
      obtain ⟨fb, hfb⟩ : ∃ fb, fb = fairB p1 p2 := ⟨_, rfl⟩
      have HC := Lib.hid (fun st : Cls wr => show Calls Tryz.prog 140 #[.agg #[.string p1, .string p2]] st.val fun e w' => e = .returned (.bool fb) ∧ Below st.val.heap.size st.val w' by rw [hfb]; exact fair_any p1 p2 st.val z1 z2)
      have HB := Lib.hid hbw2
      have hq1 : ∃ q1, 0 < k → (lblAt ls (k - 1)).1 = q1 ∧ ∀ st : Cls wr, st.val.cell? (d.add ((k - 1) * 2)) = some (.string q1) := by
        by_cases hk0 : 0 < k
        · obtain ⟨q, hq⟩ : ∃ p, ls[k - 1]? = some p := ⟨_, List.getElem?_eq_getElem (by omega)⟩
          obtain ⟨d', e', hd', y1, -⟩ := (HR.out.keep fun p hp => hbw2.cell (by have := HBB.out; omega)).two hq
          injection e' with e'
          subst e'
          exact ⟨q.1, fun _ => ⟨by rw [lblAt_of hq], fun st => (st.2.cell (by rw [block_of_add]; have := hbw2.size; have := HBB.out; omega)).trans y1⟩⟩
        · exact ⟨p1, fun h => absurd h hk0⟩
      obtain ⟨q1, HQ⟩ := hq1
      have HQ := Lib.hid HQ
      have hba : badAt ls k = ((!fb || (p2.toList == [])) || (decide (0 < k) && !Op.bytesLess (lblAt ls (k - 1)).1.toList p1.toList)) := by
        unfold badAt
        rw [hla, ← hfb]
      have HBA := Lib.hid hba
      obtain ⟨ba, hbae⟩ : ∃ ba, ba = badAt ls k := ⟨_, rfl⟩
      have HBE := Lib.hid hbae
      clear hb hbw2 hp hnl z1 z2 hd hfb x1 x2 hwr hla hba hbae hok
      go_upto_region 4 with fail
      go_cut [41] from 10 to 41 (fun c wx => BoolIs c ba ∧ Below w.heap.size w wx)
      case first =>
        cases fb with
        | false =>
          have HBV := Lib.hid (show ba = true by rw [HBE.out, HBA.out]; rfl)
          refine wp_region_cls (by kernel_rfl) (by kernel_rfl) ?_
          repeat (go_big_quiet_step ((go_at_call 140; exact Cls.call (HC.out _))))
          refine wpQuiet_nil ?_
          rintro _ ⟨st, rfl⟩
          go_wp2_with fail
          go_meet
          exact ⟨by unfold BoolIs; rw [HBV.out], HB.out.trans (st.2.mono HB.out.size)⟩
        | true =>
          cases e2 : p2.toList == [] with
          | true =>
            have HBV := Lib.hid (show ba = true by rw [HBE.out, HBA.out, e2]; rfl)
            refine wp_region_cls (by kernel_rfl) (by kernel_rfl) ?_
            repeat (go_big_quiet_step ((go_at_call 140; exact Cls.call (HC.out _))))
            refine wpQuiet_nil ?_
            rintro _ ⟨st, rfl⟩
            go_wp2_with fail
            go_meet
            exact ⟨by unfold BoolIs; rw [HBV.out], HB.out.trans (st.2.mono HB.out.size)⟩
          | false =>
            have e3 : ¬ p2.toList = [] := by simpa using e2
            by_cases hk0 : 0 < k
            · obtain ⟨hqe, Y1⟩ := HQ.out hk0
              have HBV := Lib.hid (show ba = !Op.bytesLess q1.toList p1.toList by rw [HBE.out, HBA.out, e2, hqe, decide_eq_true hk0]; rfl)
              have i3 : (0 : Int) < (k : Int) := by omega
              have i4 : decide ((0 : Int) < (k : Int)) = true := decide_eq_true i3
              have d7 : ((k : Int) - 1).toNat = k - 1 := by omega
              have s1 : IntKind.i64.wrap ((k : Int) - 1) = (k : Int) - 1 := IntWalk.i64_in _ (by omega)
              have d2 : (k : Int) ≤ (n : Int) := by omega
              have d3 : (0 : Int) ≤ (k : Int) - 1 := by omega
              have d5 : (k : Int) - 1 < (n : Int) := by omega
              clear hqe
              refine wp_region_cls (by kernel_rfl) (by kernel_rfl) ?_
              repeat (go_big_quiet_step ((go_at_call 140; exact Cls.call (HC.out _))))
              refine wpQuiet_nil ?_
              rintro _ ⟨st, rfl⟩
              go_wp2_with fail
              go_meet
              exact ⟨by unfold BoolIs; rw [HBV.out], HB.out.trans (st.2.mono HB.out.size)⟩
            · have HBV := Lib.hid (show ba = false by rw [HBE.out, HBA.out, e2, decide_eq_false hk0]; rfl)
              have i3 : ¬ (0 : Int) < (k : Int) := by omega
              have i4 : decide ((0 : Int) < (k : Int)) = false := decide_eq_false i3
              refine wp_region_cls (by kernel_rfl) (by kernel_rfl) ?_
              repeat (go_big_quiet_step ((go_at_call 140; exact Cls.call (HC.out _))))
              refine wpQuiet_nil ?_
              rintro _ ⟨st, rfl⟩
              go_wp2_with fail
              go_meet
              exact ⟨by unfold BoolIs; rw [HBV.out], HB.out.trans (st.2.mono HB.out.size)⟩
      case rest =>
        obtain ⟨hbi, hbw⟩ := hcut
        unfold BoolIs at hbi
        subst hbi
        have HBW := Lib.hid hbw
        clear hbw X1 X2 HC
        cases ba with
        | true =>
          have HV := Lib.hid (show rightL ls = false from rightL_bad (by have := HN.out; omega) HBE.out.symm)
          go_wp2
          refine bodyPost_ret (results_tmp rfl _ _ _) rfl ?_
          exact ⟨by rw [HV.out]; rfl, HBW.out⟩
        | false =>
          go_wp2
          exact ⟨⟨k + 1, rfl, by omega, by rw [okTo_succ, HOK.out, ← HBE.out]; rfl, HBW.out⟩, by simp [intOf]; omega⟩
    · have i1 : ¬ (k : Int) < (n : Int) := by omega
      have HB := Lib.hid hb
      obtain rfl : k = n := by omega
      clear hb hnl hok
      by_cases h64 : k ≤ 64
      · have i2 : (k : Int) ≤ 64 := by omega
        have HV := Lib.hid (show rightL ls = true by unfold rightL; rw [← HN.out, HOK.out, decide_eq_true h64]; rfl)
        go_wp2
        refine bodyPost_ret (results_tmp rfl _ _ _) rfl ?_
        exact ⟨by rw [HV.out]; rfl, HB.out⟩
      · have i2 : ¬ (k : Int) ≤ 64 := by omega
        have HV := Lib.hid (show rightL ls = false by unfold rightL; rw [← HN.out, decide_eq_false h64]; simp)
        go_wp2
        refine bodyPost_ret (results_tmp rfl _ _ _) rfl ?_
        exact ⟨by rw [HV.out]; rfl, HB.out⟩
set_option maxRecDepth 100000 in
set_option maxHeartbeats 6400000 in
theorem right_any (w : World) (B : Nat) (v : Value) (ls : List Lbl) (hT : Tabs w) (h : LabsAt w B v ls) (hB : B ≤ w.heap.size) (hl : ls.length ≤ 9223372036854775807) (hsz : ∀ p ∈ ls, p.1.size ≤ 9223372036854775807 ∧ p.2.size ≤ 9223372036854775807) :
    Calls Tryz.prog 120 #[v] w fun e w' => e = .returned (.bool (rightL ls)) ∧ Below w.heap.size w w' := by
  obtain ⟨A, c, rfl, hr⟩ := h
  obtain ⟨n, hn⟩ : ∃ n, n = ls.length := ⟨_, rfl⟩
  rw [← hn] at hr hl ⊢
  have HR := Lib.hid hr
  have HN := Lib.hid hn
  have HSZ := Lib.hid hsz
  have HBB := Lib.hid hB
  have HT := Lib.hid hT
  have HI := Lib.hid (show RgR w ls n (.int .i64 0) w from ⟨0, rfl, Nat.zero_le _, rfl, Below.refl _ w⟩)
  clear hr hn hsz hB hT
  go_enter Tryz.func120, Tryz.ntmps120
  go_wp2_with fail
  go_loopw [7] (fun i wr => RgR w ls n i wr) (fun i _ => n - (intOf i).toNat)
  case atStart => exact HI.out
  case round =>
    obtain ⟨k, rfl, hk, hok, hb⟩ := hrel
    have HOK := Lib.hid hok
    have hnl := HN.out
    by_cases hlt : k < n
    · have i1 : (k : Int) < (n : Int) := by omega
      have sk : IntKind.i64.wrap ((k : Int) + 1) = ((k + 1 : Nat) : Int) := (IntWalk.i64_in _ (by omega)).trans (by omega)
      obtain ⟨p, hp⟩ : ∃ p, ls[k]? = some p := ⟨_, List.getElem?_eq_getElem (by omega)⟩
      have hla := lblAt_of hp
      obtain ⟨d, rfl, hd, x1, x2⟩ := (HR.out.keep fun p hp => hb.cell (by have := HBB.out; omega)).two hp
      obtain ⟨z1, z2⟩ := HSZ.out p (List.mem_of_getElem? hp)
      obtain ⟨p1, p2⟩ := p
      dsimp only at x1 x2 z1 z2
      have i2 : (0 : Int) ≤ (k : Int) := by omega
      have hwr : B ≤ wr.heap.size := Nat.le_trans HBB.out hb.size
      obtain ⟨w2, hw2⟩ : ∃ w2, w2 = wr.alloc (.cells #[.string p1, .string p2] 55) := ⟨_, rfl⟩
      have hb2 : Below wr.heap.size wr w2 := by rw [hw2]; exact (Below.refl _ wr).alloc (Nat.le_refl _) _
      have hbl : Blk w2 wr.heap.size 55 #[.string p1, .string p2] := by rw [hw2]; exact Blk.new wr 55 _
      have hbw2 := hb.trans (hb2.mono hb.size)
      have HT2 := Lib.hid (HT.out.below_ hbw2)
      have X1 : ∀ st : Cls w2, st.val.cell? ⟨wr.heap.size, 0, none⟩ = some (.string p1) := fun st => (hbl.below st.2 hbl.lt).cell 0
      have X2 : ∀ st : Cls w2, st.val.cell? ⟨wr.heap.size, 1, none⟩ = some (.string p2) := fun st => (hbl.below st.2 hbl.lt).cell 1
      obtain ⟨fb, hfb⟩ : ∃ fb, fb = fairB p1 p2 := ⟨_, rfl⟩
      have HC := Lib.hid (fun st : Cls w2 => show Calls Tryz.prog 166 #[.agg #[.string p1, .string p2]] st.val fun e w' => e = .returned (.bool fb) ∧ Below st.val.heap.size st.val w' by rw [hfb]; exact lright_any p1 p2 st.val (HT2.out.below_ st.2) z1 z2)
      have HB := Lib.hid hbw2
      have hq1 : ∃ q1, 0 < k → (lblAt ls (k - 1)).1 = q1 ∧ ∀ st : Cls w2, st.val.cell? (d.add ((k - 1) * 2)) = some (.string q1) := by
        by_cases hk0 : 0 < k
        · obtain ⟨q, hq⟩ : ∃ p, ls[k - 1]? = some p := ⟨_, List.getElem?_eq_getElem (by omega)⟩
          obtain ⟨d', e', hd', y1, -⟩ := (HR.out.keep fun p hp => hbw2.cell (by have := HBB.out; omega)).two hq
          injection e' with e'
          subst e'
          exact ⟨q.1, fun _ => ⟨by rw [lblAt_of hq], fun st => (st.2.cell (by rw [block_of_add]; have := hbw2.size; have := HBB.out; omega)).trans y1⟩⟩
        · exact ⟨p1, fun h => absurd h hk0⟩
      obtain ⟨q1, HQ⟩ := hq1
      have HQ := Lib.hid HQ
      have hba : badAt ls k = ((!fb || (p2.toList == [])) || (decide (0 < k) && !Op.bytesLess (lblAt ls (k - 1)).1.toList p1.toList)) := by
        unfold badAt
        rw [hla, ← hfb]
      have HBA := Lib.hid hba
      obtain ⟨ba, hbae⟩ : ∃ ba, ba = badAt ls k := ⟨_, rfl⟩
      have HBE := Lib.hid hbae
      clear hb hbw2 hp hnl z1 z2 hd hfb  hwr hla hba hbae hok hb2 hbl
      go_upto_region 4 with fail
      rw [← hw2]
      clear hw2 x1 x2
      go_cut [34] from 12 to 34 (fun c wx => BoolIs c ba ∧ Below w.heap.size w wx)
      case first =>
        cases fb with
        | false =>
          have HBV := Lib.hid (show ba = true by rw [HBE.out, HBA.out]; rfl)
          refine wp_region_cls (by kernel_rfl) (by kernel_rfl) ?_
          repeat (go_big_quiet_step ((go_at_call 166; exact Cls.call (HC.out _))))
          refine wpQuiet_nil ?_
          rintro _ ⟨st, rfl⟩
          go_wp2_with fail
          go_meet
          exact ⟨by unfold BoolIs; rw [HBV.out], HB.out.trans (st.2.mono HB.out.size)⟩
        | true =>
          cases e2 : p2.toList == [] with
          | true =>
            have HBV := Lib.hid (show ba = true by rw [HBE.out, HBA.out, e2]; rfl)
            refine wp_region_cls (by kernel_rfl) (by kernel_rfl) ?_
            repeat (go_big_quiet_step ((go_at_call 166; exact Cls.call (HC.out _))))
            refine wpQuiet_nil ?_
            rintro _ ⟨st, rfl⟩
            go_wp2_with fail
            go_meet
            exact ⟨by unfold BoolIs; rw [HBV.out], HB.out.trans (st.2.mono HB.out.size)⟩
          | false =>
            have e3 : ¬ p2.toList = [] := by simpa using e2
            by_cases hk0 : 0 < k
            · obtain ⟨hqe, Y1⟩ := HQ.out hk0
              have HBV := Lib.hid (show ba = !Op.bytesLess q1.toList p1.toList by rw [HBE.out, HBA.out, e2, hqe, decide_eq_true hk0]; rfl)
              have i3 : (0 : Int) < (k : Int) := by omega
              have i4 : decide ((0 : Int) < (k : Int)) = true := decide_eq_true i3
              have d7 : ((k : Int) - 1).toNat = k - 1 := by omega
              have s1 : IntKind.i64.wrap ((k : Int) - 1) = (k : Int) - 1 := IntWalk.i64_in _ (by omega)
              have d2 : (k : Int) ≤ (n : Int) := by omega
              have d3 : (0 : Int) ≤ (k : Int) - 1 := by omega
              have d5 : (k : Int) - 1 < (n : Int) := by omega
              clear hqe
              refine wp_region_cls (by kernel_rfl) (by kernel_rfl) ?_
              repeat (go_big_quiet_step ((go_at_call 166; exact Cls.call (HC.out _))))
              refine wpQuiet_nil ?_
              rintro _ ⟨st, rfl⟩
              go_wp2_with fail
              go_meet
              exact ⟨by unfold BoolIs; rw [HBV.out], HB.out.trans (st.2.mono HB.out.size)⟩
            · have HBV := Lib.hid (show ba = false by rw [HBE.out, HBA.out, e2, decide_eq_false hk0]; rfl)
              have i3 : ¬ (0 : Int) < (k : Int) := by omega
              have i4 : decide ((0 : Int) < (k : Int)) = false := decide_eq_false i3
              refine wp_region_cls (by kernel_rfl) (by kernel_rfl) ?_
              repeat (go_big_quiet_step ((go_at_call 166; exact Cls.call (HC.out _))))
              refine wpQuiet_nil ?_
              rintro _ ⟨st, rfl⟩
              go_wp2_with fail
              go_meet
              exact ⟨by unfold BoolIs; rw [HBV.out], HB.out.trans (st.2.mono HB.out.size)⟩
      case rest =>
        obtain ⟨hbi, hbw⟩ := hcut
        unfold BoolIs at hbi
        subst hbi
        have HBW := Lib.hid hbw
        clear hbw X1 X2 HC
        cases ba with
        | true =>
          have HV := Lib.hid (show rightL ls = false from rightL_bad (by have := HN.out; omega) HBE.out.symm)
          go_wp2
          refine bodyPost_ret (results_tmp rfl _ _ _) rfl ?_
          exact ⟨by rw [HV.out]; rfl, HBW.out⟩
        | false =>
          go_wp2
          exact ⟨⟨k + 1, rfl, by omega, by rw [okTo_succ, HOK.out, ← HBE.out]; rfl, HBW.out⟩, by simp [intOf]; omega⟩
    · have i1 : ¬ (k : Int) < (n : Int) := by omega
      have HB := Lib.hid hb
      obtain rfl : k = n := by omega
      clear hb hnl hok
      by_cases h64 : k ≤ 64
      · have i2 : (k : Int) ≤ 64 := by omega
        have HV := Lib.hid (show rightL ls = true by unfold rightL; rw [← HN.out, HOK.out, decide_eq_true h64]; rfl)
        go_wp2
        refine bodyPost_ret (results_tmp rfl _ _ _) rfl ?_
        exact ⟨by rw [HV.out]; rfl, HB.out⟩
      · have i2 : ¬ (k : Int) ≤ 64 := by omega
        have HV := Lib.hid (show rightL ls = false by unfold rightL; rw [← HN.out, decide_eq_false h64]; simp)
        go_wp2
        refine bodyPost_ret (results_tmp rfl _ _ _) rfl ?_
        exact ⟨by rw [HV.out]; rfl, HB.out⟩
end Go.Proofs.YtbeeejpjnniejaaGreatDoor
namespace Go.Proofs.YtbeeejpjnniejaaGreatDoor
open Go.RowKit
/-- a sample of a head: its time, its value's bits, whether it is deleted -/
abbrev HSmp := Int × Nat × Bool
abbrev HSer := List Lbl × List HSmp
/-- a point of a batch: labels, time, the value's bits -/
abbrev Pt := List Lbl × Int × Nat
structure Hd where
  ret : Int
  newest : Int
  ss : List HSer
def big : Int := 9007199254740992
def horizonP (ret newest : Int) : Int := if newest + big + 1 < ret then - big - 1 else newest - ret
def Hd.horizon (H : Hd) : Int := horizonP H.ret H.newest
def Hd.empty (ret : Int) : Hd := ⟨max ret 0, - big - 1, []⟩
/-- a series' row -/
def findS (l : List Lbl) : List HSer → Option (List HSmp)
  | [] => none
  | s :: r => if cmpL s.1 l = 0 then some s.2 else findS l r
def lastOf (r : List HSmp) : Int × Nat := (r.getLast?.map fun x => (x.1, x.2.1)).getD (0, 0)
def Hd.last (H : Hd) (l : List Lbl) : Option (Int × Nat) := (findS l H.ss).map lastOf
/-- why a point of a right set isn't taken -/
def codeP (ret newest : Int) (e : Option (Int × Nat)) (t : Int) (v : Nat) : Int :=
  if t < - big ∨ big < t then 9
  else if t < horizonP ret newest ∨ (∃ x, e = some x ∧ t < x.1) then 12
  else match e with
    | none => 0
    | some x => if x.1 < t then 0 else if v = x.2 then 16 else 13
/-- a sample behind a series, or a new one in its place -/
def addS (l : List Lbl) (x : HSmp) : List HSer → List HSer
  | [] => [(l, [x])]
  | s :: r => if cmpL s.1 l = 0 then (s.1, s.2 ++ [x]) :: r else if 0 < cmpL s.1 l then (l, [x]) :: s :: r else s :: addS l x r
def Hd.add (H : Hd) (p : Pt) : Hd := { H with newest := max H.newest p.2.1, ss := addS p.1 (p.2.1, p.2.2, false) H.ss }
def fitP (l : List Lbl) : Bool := rightL l && !l.isEmpty
def Hd.code (H : Hd) (p : Pt) : Int := if fitP p.1 then codeP H.ret H.newest (H.last p.1) p.2.1 p.2.2 else 2
def Hd.take1 (H : Hd) (p : Pt) : Hd := if H.code p = 0 then H.add p else H
/-- the codes of a batch, and the head behind it -/
def Hd.take (H : Hd) : List Pt → List Int × Hd
  | [] => ([], H)
  | p :: r => (H.code p :: ((H.take1 p).take r).1, ((H.take1 p).take r).2)
/-- the points that are taken -/
def Hd.taken (H : Hd) : List Pt → List Pt
  | [] => []
  | p :: r => if H.code p = 0 then p :: (H.take1 p).taken r else (H.take1 p).taken r
def Hd.adds (H : Hd) (l : List Pt) : Hd := l.foldl Hd.add H
theorem take_adds : ∀ (l : List Pt) (H : Hd), (H.take l).2 = H.adds (H.taken l)
  | [], H => rfl
  | p :: r, H => by
    unfold Hd.take Hd.taken
    rw [take_adds r]
    by_cases h : H.code p = 0
    · rw [if_pos h]
      show _ = Hd.adds (H.add p) _
      unfold Hd.take1
      rw [if_pos h]
    · rw [if_neg h]
      unfold Hd.take1
      rw [if_neg h]
theorem take_snoc : ∀ (l : List Pt) (H : Hd) (p : Pt), H.take (l ++ [p]) = ((H.take l).1 ++ [(H.take l).2.code p], (H.take l).2.take1 p)
  | [], H, p => rfl
  | q :: r, H, p => by
    show (H.code q :: ((H.take1 q).take (r ++ [p])).1, ((H.take1 q).take (r ++ [p])).2) = _
    rw [take_snoc r]
    rfl
theorem taken_snoc : ∀ (l : List Pt) (H : Hd) (p : Pt), H.taken (l ++ [p]) = H.taken l ++ if (H.take l).2.code p = 0 then [p] else []
  | [], H, p => by
    unfold Hd.taken
    rfl
  | q :: r, H, p => by
    show (if H.code q = 0 then q :: (H.take1 q).taken (r ++ [p]) else (H.take1 q).taken (r ++ [p])) = (if H.code q = 0 then q :: (H.take1 q).taken r else (H.take1 q).taken r) ++ if ((H.take1 q).take r).2.code p = 0 then [p] else []
    rw [taken_snoc r]
    split <;> simp
theorem take_len : ∀ (l : List Pt) (H : Hd), (H.take l).1.length = l.length
  | [], _ => rfl
  | p :: r, H => by
    show (_ :: ((H.take1 p).take r).1).length = _
    rw [List.length_cons, take_len r, List.length_cons]
theorem taken_len : ∀ (l : List Pt) (H : Hd), (H.taken l).length ≤ l.length
  | [], _ => Nat.le_refl _
  | p :: r, H => by
    have := taken_len r (H.take1 p)
    unfold Hd.taken
    split <;> simp <;> omega
/-! ### a head that is in order -/
def Rises (r : List HSmp) : Prop := r.Pairwise fun a b => a.1 < b.1
structure SerOk (newest : Int) (s : HSer) : Prop where
  right : fitP s.1 = true
  pos : s.2 ≠ []
  rises : Rises s.2
  times : ∀ x ∈ s.2, - big ≤ x.1 ∧ x.1 ≤ big ∧ x.1 ≤ newest
structure Hd.Ok (H : Hd) : Prop where
  ret : 0 ≤ H.ret ∧ H.ret ≤ 9223372036854775807
  newest : - big - 1 ≤ H.newest ∧ H.newest ≤ big
  sorted : H.ss.Pairwise fun a b => cmpL a.1 b.1 < 0
  ser : ∀ s ∈ H.ss, SerOk H.newest s
theorem findS_mem {l : List Lbl} : ∀ {ss : List HSer} {r : List HSmp}, findS l ss = some r → ∃ s ∈ ss, s.1 = l ∧ s.2 = r
  | [], _, h => by cases h
  | s :: ss, r, h => by
    unfold findS at h
    split at h
    · rename_i e
      injection h with h
      exact ⟨s, List.mem_cons_self, (cmpL_three.zero _ _).1 e, h⟩
    · obtain ⟨s', h1, h2⟩ := findS_mem h
      exact ⟨s', List.mem_cons_of_mem _ h1, h2⟩
theorem findS_of_mem {ss : List HSer} (hp : ss.Pairwise fun a b => cmpL a.1 b.1 < 0) : ∀ {s : HSer}, s ∈ ss → findS s.1 ss = some s.2 := by
  induction ss with
  | nil => intro s h; cases h
  | cons a ss ih =>
    intro s h
    rw [List.pairwise_cons] at hp
    unfold findS
    rcases List.mem_cons.1 h with rfl | h
    · rw [if_pos (cmpL_three.self _)]
    · rw [if_neg (by have := hp.1 s h; omega)]
      exact ih hp.2 h
theorem findS_none {l : List Lbl} : ∀ {ss : List HSer}, findS l ss = none ↔ ∀ s ∈ ss, s.1 ≠ l
  | [] => by simp [findS]
  | s :: ss => by
    unfold findS
    split
    · rename_i e
      have := (cmpL_three.zero _ _).1 e
      simp [this]
    · rename_i e
      rw [findS_none]
      simp only [List.mem_cons, forall_eq_or_imp]
      exact ⟨fun h => ⟨fun e2 => e ((cmpL_three.zero _ _).2 e2), h⟩, fun h => h.2⟩
theorem mem_addS (l : List Lbl) (x : HSmp) : ∀ (ss : List HSer), ss.Pairwise (fun a b => cmpL a.1 b.1 < 0) → ∀ s, s ∈ addS l x ss ↔ (s ∈ ss ∧ s.1 ≠ l) ∨ s = (l, ((findS l ss).getD []) ++ [x])
  | [], _, s => by simp [addS, findS]
  | a :: ss, hp, s => by
    rw [List.pairwise_cons] at hp
    unfold addS findS
    by_cases e : cmpL a.1 l = 0
    · rw [if_pos e, if_pos e]
      have ea := (cmpL_three.zero _ _).1 e
      have hne : ∀ b ∈ ss, b.1 ≠ l := fun b hb e2 => by have := hp.1 b hb; rw [ea, e2, cmpL_three.self] at this; omega
      simp only [List.mem_cons, Option.getD_some]
      constructor
      · rintro (rfl | h)
        · exact .inr (by rw [ea])
        · exact .inl ⟨.inr h, hne _ h⟩
      · rintro (⟨rfl | h, h2⟩ | rfl)
        · exact absurd ea h2
        · exact .inr h
        · exact .inl (by rw [ea])
    · rw [if_neg e, if_neg e]
      by_cases h0 : 0 < cmpL a.1 l
      · rw [if_pos h0]
        have hla : cmpL l a.1 < 0 := by have := cmpL_three.anti a.1 l; omega
        have hn : findS l ss = none := findS_none.2 fun b hb e2 => by
          have h1 := hp.1 b hb
          rw [e2] at h1
          omega
        rw [hn]
        have hne : ∀ b ∈ a :: ss, b.1 ≠ l := fun b hb e2 => by
          rcases List.mem_cons.1 hb with rfl | hb
          · exact e ((cmpL_three.zero _ _).2 e2)
          · exact findS_none.1 hn b hb e2
        simp only [List.mem_cons, Option.getD_none, List.nil_append]
        constructor
        · rintro (rfl | h)
          · exact .inr rfl
          · exact .inl ⟨h, hne _ (List.mem_cons.2 h)⟩
        · rintro (⟨h, _⟩ | rfl)
          · exact .inr h
          · exact .inl rfl
      · rw [if_neg h0]
        simp only [List.mem_cons, mem_addS l x ss hp.2 s]
        constructor
        · rintro (rfl | ⟨h, h2⟩ | h)
          · exact .inl ⟨.inl rfl, fun e2 => e ((cmpL_three.zero _ _).2 e2)⟩
          · exact .inl ⟨.inr h, h2⟩
          · exact .inr h
        · rintro (⟨rfl | h, h2⟩ | h)
          · exact .inl rfl
          · exact .inr (.inl ⟨h, h2⟩)
          · exact .inr (.inr h)
theorem addS_head (l : List Lbl) (x : HSmp) (b : List Lbl) : ∀ (ss : List HSer), (∀ s ∈ ss, cmpL b s.1 < 0) → cmpL b l < 0 → ∀ s ∈ addS l x ss, cmpL b s.1 < 0
  | [], _, hl, s, h => by simp [addS] at h; rw [h]; exact hl
  | a :: ss, hs, hl, s, h => by
    unfold addS at h
    split at h
    · rcases List.mem_cons.1 h with rfl | h
      · exact hs a List.mem_cons_self
      · exact hs s (List.mem_cons_of_mem _ h)
    · split at h
      · rcases List.mem_cons.1 h with rfl | h
        · exact hl
        · exact hs s h
      · rcases List.mem_cons.1 h with rfl | h
        · exact hs s List.mem_cons_self
        · exact addS_head l x b ss (fun s hs' => hs s (List.mem_cons_of_mem _ hs')) hl s h
theorem sorted_addS (l : List Lbl) (x : HSmp) : ∀ (ss : List HSer), ss.Pairwise (fun a b => cmpL a.1 b.1 < 0) → (addS l x ss).Pairwise fun a b => cmpL a.1 b.1 < 0
  | [], _ => by simp [addS]
  | a :: ss, hp => by
    have hp0 := hp
    rw [List.pairwise_cons] at hp
    unfold addS
    by_cases e : cmpL a.1 l = 0
    · rw [if_pos e, List.pairwise_cons]
      exact hp
    · rw [if_neg e]
      by_cases h0 : 0 < cmpL a.1 l
      · rw [if_pos h0, List.pairwise_cons]
        have hla : cmpL l a.1 < 0 := by have := cmpL_three.anti a.1 l; omega
        refine ⟨fun b hb => ?_, hp0⟩
        rcases List.mem_cons.1 hb with rfl | hb
        · exact hla
        · exact cmpL_three.trans _ _ _ hla (hp.1 b hb)
      · rw [if_neg h0, List.pairwise_cons]
        exact ⟨addS_head l x a.1 ss hp.1 (by omega), sorted_addS l x ss hp.2⟩
theorem findS_addS {l : List Lbl} {x : HSmp} {ss : List HSer} (hp : ss.Pairwise fun a b => cmpL a.1 b.1 < 0) (k : List Lbl) : findS k (addS l x ss) = if k = l then some (((findS l ss).getD []) ++ [x]) else findS k ss := by
  have hs := sorted_addS l x ss hp
  by_cases e : k = l
  · subst e
    rw [if_pos rfl]
    exact findS_of_mem hs (s := (k, ((findS k ss).getD []) ++ [x])) ((mem_addS k x ss hp _).2 (.inr rfl))
  · rw [if_neg e]
    cases h : findS k ss with
    | none =>
      rw [findS_none] at h ⊢
      intro s hs' e2
      rcases (mem_addS l x ss hp s).1 hs' with ⟨h1, _⟩ | rfl
      · exact h s h1 e2
      · exact e e2.symm
    | some r =>
      obtain ⟨s, h1, h2, h3⟩ := findS_mem h
      have := findS_of_mem hs (s := s) ((mem_addS l x ss hp s).2 (.inl ⟨h1, by rw [h2]; exact e⟩))
      rw [h2, h3] at this
      exact this
theorem Hd.Ok.add {H : Hd} (h : H.Ok) {p : Pt} (hc : H.code p = 0) : (H.add p).Ok := by
  unfold Hd.code at hc
  cases hf : fitP p.1 with
  | false => rw [hf] at hc; simp at hc
  | true =>
    rw [hf, if_pos rfl] at hc
    unfold codeP at hc
    split at hc
    · omega
    rename_i h1
    split at hc
    · omega
    rename_i h2
    have hb : - big ≤ p.2.1 ∧ p.2.1 ≤ big := by omega
    refine ⟨h.ret, ?_, sorted_addS _ _ _ h.sorted, fun s hs => ?_⟩
    · show - big - 1 ≤ max H.newest p.2.1 ∧ max H.newest p.2.1 ≤ big
      have := h.newest
      omega
    · rcases (mem_addS _ _ _ h.sorted s).1 hs with ⟨h3, _⟩ | rfl
      · obtain ⟨a1, a2, a3, a4⟩ := h.ser s h3
        exact ⟨a1, a2, a3, fun x hx => ⟨(a4 x hx).1, (a4 x hx).2.1, by show x.1 ≤ max H.newest p.2.1; have := (a4 x hx).2.2; omega⟩⟩
      · refine ⟨hf, by simp, ?_, ?_⟩
        · cases hfd : findS p.1 H.ss with
          | none => exact List.pairwise_singleton _ _
          | some r =>
            show Rises (r ++ [_])
            obtain ⟨s, k1, k2, k3⟩ := findS_mem hfd
            have ho := h.ser s k1
            subst k3
            refine List.pairwise_append.2 ⟨ho.rises, List.pairwise_singleton _ _, fun a ha b hb' => ?_⟩
            have hb2 : b = (p.2.1, p.2.2, false) := by simpa using hb'
            subst hb2
            show a.1 < p.2.1
            have hl : H.last p.1 = some (lastOf s.2) := by unfold Hd.last; rw [hfd]; rfl
            rw [hl] at hc h2
            obtain ⟨y, ys, hy⟩ : ∃ y ys, s.2 = ys ++ [y] := ⟨s.2.getLast ho.pos, s.2.dropLast, (List.dropLast_concat_getLast ho.pos).symm⟩
            have hly : lastOf s.2 = (y.1, y.2.1) := by unfold lastOf; rw [hy]; simp
            rw [hly] at hc h2
            have hyt : y.1 < p.2.1 := by
              dsimp only at hc
              split at hc
              · rename_i k; exact k
              · split at hc <;> omega
            have hay : a.1 ≤ y.1 := by
              rw [hy] at ha
              rcases List.mem_append.1 ha with ha | ha
              · have hr := ho.rises
                unfold Rises at hr
                rw [hy] at hr
                exact Int.le_of_lt ((List.pairwise_append.1 hr).2.2 a ha y (by simp))
              · simp at ha; rw [ha]; exact Int.le_refl _
            omega
        · intro x hx
          rcases List.mem_append.1 hx with hx | hx
          · cases hfd : findS p.1 H.ss with
            | none => rw [hfd] at hx; simp at hx
            | some r =>
              rw [hfd] at hx
              obtain ⟨s, k1, k2, k3⟩ := findS_mem hfd
              subst k3
              obtain ⟨b1, b2, b3⟩ := (h.ser s k1).times x hx
              exact ⟨b1, b2, by show x.1 ≤ max H.newest p.2.1; omega⟩
          · simp at hx
            subst hx
            exact ⟨hb.1, hb.2, by show p.2.1 ≤ max H.newest p.2.1; omega⟩
theorem Hd.Ok.take1 {H : Hd} (h : H.Ok) (p : Pt) : (H.take1 p).Ok := by
  unfold Hd.take1
  split
  · rename_i hc; exact h.add hc
  · exact h
theorem Hd.Ok.take : ∀ (l : List Pt) {H : Hd}, H.Ok → (H.take l).2.Ok
  | [], _, h => h
  | p :: r, _, h => Hd.Ok.take r (h.take1 p)
end Go.Proofs.YtbeeejpjnniejaaGreatDoor
namespace Go.Proofs.YtbeeejpjnniejaaGreatDoor
open Go.RowKit Go.Shelf Go.Maps

abbrev Nm := List UInt8
/-- a name's value -/
def nmV (s : Nm) : Value := .string ⟨s.toArray⟩
def ptrV : Option Nat → Value
  | none => .pointer none
  | some g => .pointer (some ⟨g, 0, none⟩)
def ptrElem : Value → Option (DataW Unit × List MemPlace)
  | .pointer none => some (.lit (.int .i64 (-1)), [])
  | .pointer (some ⟨g, 0, none⟩) => some (.lit (.int .i64 (g : Int)), [])
  | _ => none
theorem ptrElem_some {v : Value} {g : Nat} {ps : List MemPlace} (h : ptrElem v = some (.lit (.int .i64 (g : Int)), ps)) : v = .pointer (some ⟨g, 0, none⟩) := by
  unfold ptrElem at h
  split at h
  · injection h with h; injection h with h _; injection h with h; injection h with _ h; omega
  · injection h with h; injection h with h _; injection h with h; injection h with _ h
    have : _ = g := Int.ofNat.inj h
    rw [this]
  · cases h
theorem ptrElem_none {v : Value} {ps : List MemPlace} (h : ptrElem v = some (.lit (.int .i64 (-1)), ps)) : v = .pointer none := by
  unfold ptrElem at h
  split at h
  · rfl
  · injection h with h; injection h with h _; injection h with h; injection h with _ h; omega
  · cases h

abbrev Dl := List (Nm × Nat)
def encE (x : Nm × Nat) : Lit × DataW Unit := (.string x.1, .lit (.int .i64 (x.2 : Int)))
def dirD (l : Dl) : DataW Unit := .map (l.map encE)
def dget (l : Dl) (s : Nm) : Option Nat := (l.find? (fun x => x.1 == s)).map (·.2)
def ddel (l : Dl) (s : Nm) : Dl := l.filter fun x => !(x.1 == s)
def dins (x : Nm × Nat) : Dl → Dl
  | [] => [x]
  | y :: r => if (Lit.string x.1).before (.string y.1) then x :: y :: r else y :: dins x r
def dput (l : Dl) (s : Nm) (g : Nat) : Dl := dins (s, g) (ddel l s)

theorem dirD_ins (x : Nm × Nat) : ∀ l : Dl, DataW.insert (encE x) (l.map encE) = (dins x l).map encE
  | [] => rfl
  | y :: r => by
    simp only [List.map_cons, DataW.insert, dins]
    have e : (encE x).1.before (encE y).1 = (Lit.string x.1).before (.string y.1) := rfl
    rw [e]
    split
    · rfl
    · rw [dirD_ins x r]; rfl
theorem dirD_filter (l : Dl) (s : Nm) : (l.map encE).filter (fun p => !p.1.sameKey (.string s)) = (ddel l s).map encE := by
  unfold ddel
  rw [List.filter_map]
  rfl
theorem dirD_put (l : Dl) (s : Nm) (g : Nat) : (dirD l).put (.string s) (.lit (.int .i64 (g : Int))) = dirD (dput l s g) := by
  show DataW.map (DataW.insert (encE (s, g)) ((l.map encE).filter (fun p => !p.1.sameKey (.string s)))) = _
  rw [dirD_filter, dirD_ins]
  rfl
theorem dirD_del (l : Dl) (s : Nm) : (dirD l).del (.string s) = dirD (ddel l s) := by
  show DataW.map ((l.map encE).filter (fun p => !p.1.sameKey (.string s))) = _
  rw [dirD_filter]
  rfl
theorem dirD_at (l : Dl) (s : Nm) (z : DataW Unit) : (dirD l).atKey (.string s) z = match dget l s with | none => z | some g => .lit (.int .i64 (g : Int)) := by
  unfold dirD DataW.atKey dget
  simp only [List.find?_map]
  have e : ((fun p : Lit × DataW Unit => p.1.sameKey (.string s)) ∘ encE) = fun x : Nm × Nat => x.1 == s := rfl
  rw [e]
  cases l.find? (fun x => x.1 == s) <;> rfl
theorem mem_dins (x y : Nm × Nat) : ∀ l : Dl, y ∈ dins x l ↔ y = x ∨ y ∈ l
  | [] => by simp [dins]
  | z :: r => by
    unfold dins
    split
    · simp
    · simp only [List.mem_cons, mem_dins x y r]
      constructor
      · rintro (h | h | h)
        · exact .inr (.inl h)
        · exact .inl h
        · exact .inr (.inr h)
      · rintro (h | h | h)
        · exact .inr (.inl h)
        · exact .inl h
        · exact .inr (.inr h)
theorem len_dins (x : Nm × Nat) : ∀ l : Dl, (dins x l).length = l.length + 1
  | [] => rfl
  | z :: r => by
    unfold dins
    split
    · rfl
    · simp [len_dins x r]
theorem mem_ddel (l : Dl) (s : Nm) (y : Nm × Nat) : y ∈ ddel l s ↔ y ∈ l ∧ y.1 ≠ s := by
  unfold ddel; simp
theorem mem_dput (l : Dl) (s : Nm) (g : Nat) (y : Nm × Nat) : y ∈ dput l s g ↔ y = (s, g) ∨ (y ∈ l ∧ y.1 ≠ s) := by
  unfold dput; rw [mem_dins, mem_ddel]
theorem len_ddel (l : Dl) (s : Nm) : (ddel l s).length ≤ l.length := List.length_filter_le _ _
theorem len_dput (l : Dl) (s : Nm) (g : Nat) : (dput l s g).length ≤ l.length + 1 := by
  unfold dput; rw [len_dins]; have := len_ddel l s; omega
theorem dget_mem {l : Dl} {s : Nm} {g : Nat} (h : dget l s = some g) : (s, g) ∈ l := by
  unfold dget at h
  obtain ⟨x, hx, rfl⟩ := Option.map_eq_some_iff.1 h
  have h1 := List.find?_some hx
  have h2 := List.mem_of_find?_eq_some hx
  obtain ⟨a, b⟩ := x
  have : a = s := by simpa using h1
  rw [this] at h2
  exact h2
theorem dget_none {l : Dl} {s : Nm} : dget l s = none ↔ ∀ y ∈ l, y.1 ≠ s := by
  unfold dget
  simp
theorem find_dins_hit {f : Nm × Nat → Bool} {x : Nm × Nat} (hx : f x = true) : ∀ l : Dl, (∀ p ∈ l, f p = false) → (dins x l).find? f = some x
  | [], _ => by simp [dins, hx]
  | y :: r, h => by
    unfold dins
    split
    · simp [hx]
    · simp [h y (by simp), find_dins_hit hx r (fun p hp => h p (by simp [hp]))]
theorem find_dins_miss {f : Nm × Nat → Bool} {x : Nm × Nat} (hx : f x = false) : ∀ l : Dl, (dins x l).find? f = l.find? f
  | [] => by simp [dins, hx]
  | y :: r => by
    unfold dins
    split
    · simp [hx]
    · cases hy : f y <;> simp [hy, find_dins_miss hx r]
theorem dget_put (l : Dl) (s t : Nm) (g : Nat) : dget (dput l s g) t = if t = s then some g else dget l t := by
  unfold dget dput
  by_cases h : t = s
  · subst h
    rw [if_pos rfl, find_dins_hit (by simp) _ (fun p hp => by have := (mem_ddel l t p).1 hp; simpa using this.2)]
    rfl
  · rw [if_neg h, find_dins_miss (by simp; exact fun e => h e.symm)]
    unfold ddel
    rw [List.find?_filter]
    congr 2
    funext x
    by_cases hx : x.1 = t
    · simp [hx, h]
    · simp [hx]
theorem dget_del (l : Dl) (s t : Nm) : dget (ddel l s) t = if t = s then none else dget l t := by
  by_cases h : t = s
  · subst h
    rw [if_pos rfl, dget_none]
    intro y hy
    exact ((mem_ddel l t y).1 hy).2
  · rw [if_neg h]
    unfold dget ddel
    rw [List.find?_filter]
    congr 2
    funext x
    by_cases hx : x.1 = t
    · simp [hx, h]
    · simp [hx]

/-- a directory in memory -/
def DirAt (w : World) (b n : Nat) (l : Dl) : Prop := w.ownsMap Tryz.prog 9 ptrElem b n (dirD l)

theorem law9 : Keyed Tryz.prog 9 := string_keyed Tryz.underlying9
theorem zero176 (w : World) : (zeroValue 176).run Tryz.prog w = .ok (.pointer none) w := by kernel_rfl
theorem key_nm (s : ByteArray) (h : s.size ≤ maxLen) : keyOf Tryz.prog 9 (.string s) = some (.string s.data.toList) := WideMaps.keyOf_string_mk Tryz.underlying9 h

section
variable {w w' : World} {b n : Nat} {l : Dl}
theorem DirAt.lt (h : DirAt w b n l) : b < w.heap.size := World.ownsMap.lt h
theorem DirAt.len (h : DirAt w b n l) : l.length ≤ n := by
  have := World.ownsMap.size_le h
  simpa [dirD, Maps.size] using this
theorem DirAt.tight (h : DirAt w b n l) : DirAt w b l.length l := by
  obtain ⟨es, clock, hb, F, hs, hD⟩ := h
  refine ⟨es, clock, hb, F, ?_, hD⟩
  have e1 : Maps.size (dirD l) = es.size := by rw [hD]; simp [Maps.size, length_sorted]
  have e2 : Maps.size (dirD l) = l.length := by simp [dirD, Maps.size]
  omega
theorem DirAt.tidy (h : DirAt w b n l) : l.Pairwise (fun x y => x.1 ≠ y.1) := by
  obtain ⟨es, e, hp⟩ := World.ownsMap.tidy h law9
  have : l.map encE = es := by injection e
  rw [← this, List.pairwise_map] at hp
  exact hp.imp fun hne he => hne (by show Lit.string _ = Lit.string _; rw [he])
theorem DirAt.keep (h : DirAt w b n l) (hb : w'.heap[b]? = w.heap[b]?) : DirAt w' b n l := by
  obtain ⟨es, clock, h1, h2⟩ := h
  exact ⟨es, clock, hb.trans h1, h2⟩
theorem DirAt.mono (h : DirAt w b n l) {n' : Nat} (hn : n ≤ n') : DirAt w b n' l := World.ownsMap.mono h hn
theorem DirAt.blk_ne (h : DirAt w b n l) {g : Nat} {t : TypeId} {cs : Array Value} (hg : Blk w g t cs) : b ≠ g := by
  rintro rfl
  obtain ⟨es, clock, h1, _⟩ := h
  unfold Blk at hg
  rw [h1] at hg
  cases hg
theorem DirAt.own_ne (h : DirAt w b n l) {e : TypeId} {base size k : Nat} {v : Value} {xs : List Value} (hv : w.ownsRow base e size v k xs) : v.ownBlock ≠ some b := by
  rcases hv.2 with ⟨rfl, _⟩ | ⟨g, cap, cur, rfl, _, hg, _⟩
  · simp [Value.ownBlock]
  · intro he
    have e : g = b := by simpa [Value.ownBlock] using he
    subst e
    obtain ⟨es, clock, h1, _⟩ := h
    rw [h1] at hg
    cases hg
theorem dir_made (w : World) : DirAt (w.alloc (.map #[] 0)) w.heap.size 0 [] := World.ownsMap_made w Tryz.prog 9 ptrElem
theorem DirAt.look (h : DirAt w b n l) (s : ByteArray) (hs : s.size ≤ maxLen) : (Instr.lookup 164 (.map (some b)) (.string s) false).run Tryz.prog w = .ok (ptrV (dget l s.data.toList)) w := by
  obtain ⟨v, ps, hrun, hv⟩ := World.ownsMap.lookup h law9 Tryz.underlying164 (zero176 w) (zd := .lit (.int .i64 (-1))) (zp := []) rfl (key_nm s hs)
  rw [dirD_at] at hv
  rw [hrun]
  cases hd : dget l s.data.toList with
  | none => rw [hd] at hv; rw [ptrElem_none hv]; rfl
  | some g => rw [hd] at hv; rw [ptrElem_some hv]; rfl
end
theorem zero136 (w : World) : (zeroValue 136).run Tryz.prog w = .ok (.pointer none) w := by kernel_rfl
theorem DirAt.look124 {w : World} {b n : Nat} {l : Dl} (h : DirAt w b n l) (s : ByteArray) (hs : s.size ≤ maxLen) : (Instr.lookup 124 (.map (some b)) (.string s) false).run Tryz.prog w = .ok (ptrV (dget l s.data.toList)) w := by
  obtain ⟨v, ps, hrun, hv⟩ := World.ownsMap.lookup h law9 Tryz.underlying124 (zero136 w) (zd := .lit (.int .i64 (-1))) (zp := []) rfl (key_nm s hs)
  rw [dirD_at] at hv
  rw [hrun]
  cases hd : dget l s.data.toList with
  | none => rw [hd] at hv; rw [ptrElem_none hv]; rfl
  | some g => rw [hd] at hv; rw [ptrElem_some hv]; rfl
end Go.Proofs.YtbeeejpjnniejaaGreatDoor
namespace Go.Proofs.YtbeeejpjnniejaaGreatDoor
open Go.RowKit Go.Shelf Go.Maps
/-- a last sample: its time, its value's bits -/
abbrev Le := Int × Nat
abbrev El := List (Nm × Le)
def endD (e : Le) : DataW Unit := .agg [.lit (.int .i64 e.1), .lit (.float .f64 e.2), .lit (.bool true)]
def noEnd : DataW Unit := .agg [.lit (.int .i64 0), .lit (.float .f64 0), .lit (.bool false)]
def endV (e : Le) : Value := .agg #[.int .i64 e.1, .float .f64 e.2, .bool true]
def noEndV : Value := .agg #[.int .i64 0, .float .f64 0, .bool false]
def endElem : Value → Option (DataW Unit × List MemPlace)
  | .agg cs => match cs.toList with
    | [.int .i64 t, .float .f64 v, .bool b] => some (.agg [.lit (.int .i64 t), .lit (.float .f64 v), .lit (.bool b)], [])
    | _ => none
  | _ => none
theorem endElem_some {v : Value} {a : Int} {c : Nat} {b : Bool} {ps : List MemPlace} (h : endElem v = some (.agg [.lit (.int .i64 a), .lit (.float .f64 c), .lit (.bool b)], ps)) : v = .agg #[.int .i64 a, .float .f64 c, .bool b] := by
  unfold endElem at h
  split at h
  · rename_i cs
    split at h
    · rename_i t v b' hc
      injection h with h; injection h with h _; injection h with h; injection h with h1 h2; injection h2 with h2 h3; injection h3 with h3 _
      injection h1 with h1; injection h2 with h2; injection h3 with h3
      injection h1 with _ h1; injection h2 with _ h2; injection h3 with h3
      subst h1 h2 h3
      have : cs = #[.int .i64 t, .float .f64 v, .bool b'] := by
        apply Array.toList_inj.1
        rw [hc]
      rw [this]
    · cases h
  · cases h
def encM (x : Nm × Le) : Lit × DataW Unit := (.string x.1, endD x.2)
def endsD (l : El) : DataW Unit := .map (l.map encM)
def eget (l : El) (s : Nm) : Option Le := (l.find? (fun x => x.1 == s)).map (·.2)
def edel (l : El) (s : Nm) : El := l.filter fun x => !(x.1 == s)
def eins (x : Nm × Le) : El → El
  | [] => [x]
  | y :: r => if (Lit.string x.1).before (.string y.1) then x :: y :: r else y :: eins x r
def eput (l : El) (s : Nm) (g : Le) : El := eins (s, g) (edel l s)
theorem e_dirD_ins (x : Nm × Le) : ∀ l : El, DataW.insert (encM x) (l.map encM) = (eins x l).map encM
  | [] => rfl
  | y :: r => by
    simp only [List.map_cons, DataW.insert, eins]
    have e : (encM x).1.before (encM y).1 = (Lit.string x.1).before (.string y.1) := rfl
    rw [e]
    split
    · rfl
    · rw [e_dirD_ins x r]; rfl
theorem e_dirD_filter (l : El) (s : Nm) : (l.map encM).filter (fun p => !p.1.sameKey (.string s)) = (edel l s).map encM := by
  unfold edel
  rw [List.filter_map]
  rfl
theorem e_dirD_put (l : El) (s : Nm) (g : Le) : (endsD l).put (.string s) (endD g) = endsD (eput l s g) := by
  show DataW.map (DataW.insert (encM (s, g)) ((l.map encM).filter (fun p => !p.1.sameKey (.string s)))) = _
  rw [e_dirD_filter, e_dirD_ins]
  rfl
theorem e_dirD_at (l : El) (s : Nm) (z : DataW Unit) : (endsD l).atKey (.string s) z = match eget l s with | none => z | some g => endD g := by
  unfold endsD DataW.atKey eget
  simp only [List.find?_map]
  have e : ((fun p : Lit × DataW Unit => p.1.sameKey (.string s)) ∘ encM) = fun x : Nm × Le => x.1 == s := rfl
  rw [e]
  cases l.find? (fun x => x.1 == s) <;> rfl
theorem e_mem_dins (x y : Nm × Le) : ∀ l : El, y ∈ eins x l ↔ y = x ∨ y ∈ l
  | [] => by simp [eins]
  | z :: r => by
    unfold eins
    split
    · simp
    · simp only [List.mem_cons, e_mem_dins x y r]
      constructor
      · rintro (h | h | h)
        · exact .inr (.inl h)
        · exact .inl h
        · exact .inr (.inr h)
      · rintro (h | h | h)
        · exact .inr (.inl h)
        · exact .inl h
        · exact .inr (.inr h)
theorem e_len_dins (x : Nm × Le) : ∀ l : El, (eins x l).length = l.length + 1
  | [] => rfl
  | z :: r => by
    unfold eins
    split
    · rfl
    · simp [e_len_dins x r]
theorem e_mem_ddel (l : El) (s : Nm) (y : Nm × Le) : y ∈ edel l s ↔ y ∈ l ∧ y.1 ≠ s := by
  unfold edel; simp
theorem e_mem_dput (l : El) (s : Nm) (g : Le) (y : Nm × Le) : y ∈ eput l s g ↔ y = (s, g) ∨ (y ∈ l ∧ y.1 ≠ s) := by
  unfold eput; rw [e_mem_dins, e_mem_ddel]
theorem e_len_ddel (l : El) (s : Nm) : (edel l s).length ≤ l.length := List.length_filter_le _ _
theorem e_len_dput (l : El) (s : Nm) (g : Le) : (eput l s g).length ≤ l.length + 1 := by
  unfold eput; rw [e_len_dins]; have := e_len_ddel l s; omega
theorem e_dget_mem {l : El} {s : Nm} {g : Le} (h : eget l s = some g) : (s, g) ∈ l := by
  unfold eget at h
  obtain ⟨x, hx, rfl⟩ := Option.map_eq_some_iff.1 h
  have h1 := List.find?_some hx
  have h2 := List.mem_of_find?_eq_some hx
  obtain ⟨a, b⟩ := x
  have : a = s := by simpa using h1
  rw [this] at h2
  exact h2
theorem e_dget_none {l : El} {s : Nm} : eget l s = none ↔ ∀ y ∈ l, y.1 ≠ s := by
  unfold eget
  simp
theorem e_find_dins_hit {f : Nm × Le → Bool} {x : Nm × Le} (hx : f x = true) : ∀ l : El, (∀ p ∈ l, f p = false) → (eins x l).find? f = some x
  | [], _ => by simp [eins, hx]
  | y :: r, h => by
    unfold eins
    split
    · simp [hx]
    · simp [h y (by simp), e_find_dins_hit hx r (fun p hp => h p (by simp [hp]))]
theorem e_find_dins_miss {f : Nm × Le → Bool} {x : Nm × Le} (hx : f x = false) : ∀ l : El, (eins x l).find? f = l.find? f
  | [] => by simp [eins, hx]
  | y :: r => by
    unfold eins
    split
    · simp [hx]
    · cases hy : f y <;> simp [hy, e_find_dins_miss hx r]
theorem e_dget_put (l : El) (s t : Nm) (g : Le) : eget (eput l s g) t = if t = s then some g else eget l t := by
  unfold eget eput
  by_cases h : t = s
  · subst h
    rw [if_pos rfl, e_find_dins_hit (by simp) _ (fun p hp => by have := (e_mem_ddel l t p).1 hp; simpa using this.2)]
    rfl
  · rw [if_neg h, e_find_dins_miss (by simp; exact fun e => h e.symm)]
    unfold edel
    rw [List.find?_filter]
    congr 2
    funext x
    by_cases hx : x.1 = t
    · simp [hx, h]
    · simp [hx]

/-- the map in memory -/
def EndsAt (w : World) (b n : Nat) (l : El) : Prop := w.ownsMap Tryz.prog 9 endElem b n (endsD l)
theorem zero213 (w : World) : (zeroValue 213).run Tryz.prog w = .ok noEndV w := by kernel_rfl
def lookV : Option Le → Value
  | none => noEndV
  | some e => endV e
section
variable {w w' : World} {b n : Nat} {l : El}
theorem EndsAt.lt (h : EndsAt w b n l) : b < w.heap.size := World.ownsMap.lt h
theorem EndsAt.keep (h : EndsAt w b n l) (hb : w'.heap[b]? = w.heap[b]?) : EndsAt w' b n l := by
  obtain ⟨es, clock, h1, h2⟩ := h
  exact ⟨es, clock, hb.trans h1, h2⟩
theorem EndsAt.mono (h : EndsAt w b n l) {n' : Nat} (hn : n ≤ n') : EndsAt w b n' l := World.ownsMap.mono h hn
theorem ends_made (w : World) : EndsAt (w.alloc (.map #[] 0)) w.heap.size 0 [] := World.ownsMap_made w Tryz.prog 9 endElem
theorem EndsAt.blk_ne (h : EndsAt w b n l) {g : Nat} {t : TypeId} {cs : Array Value} (hg : Blk w g t cs) : b ≠ g := by
  rintro rfl
  obtain ⟨es, clock, h1, _⟩ := h
  unfold Blk at hg
  rw [h1] at hg
  cases hg
theorem EndsAt.own_ne (h : EndsAt w b n l) {e : TypeId} {base size k : Nat} {v : Value} {xs : List Value} (hv : w.ownsRow base e size v k xs) : v.ownBlock ≠ some b := by
  rcases hv.2 with ⟨rfl, _⟩ | ⟨g, cap, cur, rfl, _, hg, _⟩
  · simp [Value.ownBlock]
  · intro he
    have e : g = b := by simpa [Value.ownBlock] using he
    subst e
    obtain ⟨es, clock, h1, _⟩ := h
    rw [h1] at hg
    cases hg
theorem EndsAt.look (h : EndsAt w b n l) (s : ByteArray) (hs : s.size ≤ maxLen) : (Instr.lookup 210 (.map (some b)) (.string s) true).run Tryz.prog w = .ok (.tuple #[lookV (eget l s.data.toList), .bool (eget l s.data.toList).isSome]) w := by
  obtain ⟨v, ps, hrun, hv⟩ := World.ownsMap.look_ok h law9 Tryz.underlying210 (zero213 w) (zd := noEnd) (zp := []) rfl (key_nm s hs)
  rw [hrun]
  have hat := e_dirD_at l s.data.toList noEnd
  have hhas : Maps.has (endsD l) (.string s.data.toList) = (eget l s.data.toList).isSome := by
    unfold Maps.has endsD eget
    simp only [List.any_map, Option.isSome_map, List.find?_isSome]
    rw [Bool.eq_iff_iff]
    simp [List.any_eq_true, encM, Lit.sameKey, Function.comp]
  rw [hhas]
  rw [hat] at hv
  cases he : eget l s.data.toList with
  | none =>
    rw [he] at hv
    have := endElem_some hv
    rw [this]; rfl
  | some e =>
    rw [he] at hv
    have := endElem_some hv
    rw [this]; rfl
end
end Go.Proofs.YtbeeejpjnniejaaGreatDoor
namespace Go.Proofs.YtbeeejpjnniejaaGreatDoor
open Go.RowKit Go.Maps
theorem info148 : (Tryz.prog.info? 148).map (fun i => (i.zero, i.size, i.bytes)) = some (some (.agg #[.int .i64 0, .float .f64 0, .bool false]), 3, 24) := by kernel_rfl
/-! ### how a world may turn: in the blocks of F, and by new ones -/
structure Chg (F : Nat → Prop) (w w' : World) : Prop where
  os : w'.os = w.os
  tape : w'.tape = w.tape
  output : w'.output = w.output
  size : w.heap.size ≤ w'.heap.size
  block : ∀ k, k < w.heap.size → ¬ F k → w'.heap[k]? = w.heap[k]?
/-- F and what is new -/
def Gr (F : Nat → Prop) (w : World) (k : Nat) : Prop := F k ∨ w.heap.size ≤ k
theorem Chg.refl (F : Nat → Prop) (w : World) : Chg F w w := ⟨rfl, rfl, rfl, Nat.le_refl _, fun _ _ _ => rfl⟩
theorem Chg.trans {F G : Nat → Prop} {a b c : World} (h : Chg F a b) (k : Chg G b c) (hG : ∀ x, G x → F x ∨ a.heap.size ≤ x) : Chg F a c :=
  ⟨k.os.trans h.os, k.tape.trans h.tape, k.output.trans h.output, Nat.le_trans h.size k.size, fun i hi hn => (k.block i (Nat.lt_of_lt_of_le hi h.size) (fun hg => by
    rcases hG i hg with h1 | h1
    · exact hn h1
    · omega)).trans (h.block i hi hn)⟩
theorem Chg.then {F : Nat → Prop} {a b c : World} (h : Chg F a b) (k : Chg (Gr F a) b c) : Chg F a c := h.trans k fun _ h => h
theorem Chg.drewN {F : Nat → Prop} {a b : World} (h : Chg F a b) (n : Nat) : Chg F a (b.drewN n) := ⟨h.os, h.tape, h.output, h.size, h.block⟩
theorem Chg.drew {F : Nat → Prop} {a b : World} (h : Chg F a b) : Chg F a b.drew := ⟨h.os, h.tape, h.output, h.size, h.block⟩
theorem Chg.below {F : Nat → Prop} {a b c : World} (h : Chg F a b) {B : Nat} (k : Below B b c) (hB : a.heap.size ≤ B) : Chg F a c :=
  ⟨k.os.trans h.os, k.tape.trans h.tape, k.output.trans h.output, Nat.le_trans h.size k.size, fun i hi hn => (k.block i (by omega)).trans (h.block i hi hn)⟩
theorem Chg.grown {F : Nat → Prop} {a b c : World} {row : Option Nat} (h : Chg F a b) (k : b.grownBy c row) (hr : ∀ g, row = some g → F g ∨ a.heap.size ≤ g) : Chg F a c :=
  ⟨k.os.trans h.os, k.tape.trans h.tape, k.output.trans h.output, Nat.le_trans h.size k.size, fun i hi hn => (k.block i (Nat.lt_of_lt_of_le hi h.size) (fun e => by
    rcases hr i e.symm with h1 | h1
    · exact hn h1
    · omega)).trans (h.block i hi hn)⟩
theorem Chg.alloc {F : Nat → Prop} {a b : World} (h : Chg F a b) (o : Obj) : Chg F a (b.alloc o) := h.grown (World.grownBy_alloc b o none) (fun _ h => by cases h)
theorem Chg.setCell {F : Nat → Prop} {a b : World} (h : Chg F a b) {p : Addr} (hp : F p.block ∨ a.heap.size ≤ p.block) (u : Value) : Chg F a (b.setCell p u) :=
  h.grown (only_setCell (only_refl b (some p.block)) (.inl rfl) u) (fun g hg => by cases hg; exact hp)
theorem Chg.toBelow {F : Nat → Prop} {a b : World} (h : Chg F a b) {B : Nat} (hF : ∀ k, F k → B ≤ k) (hB : B ≤ a.heap.size) : Below B a b :=
  ⟨h.os, h.tape, h.output, h.size, fun k hk => h.block k (by omega) (fun hf => by have := hF k hf; omega)⟩
theorem Chg.of_below {F : Nat → Prop} {a b : World} (h : Below a.heap.size a b) : Chg F a b := (Chg.refl F a).below h (Nat.le_refl _)
theorem Chg.more {F G : Nat → Prop} {a b : World} (h : Chg F a b) (hF : ∀ k, F k → G k) : Chg G a b := ⟨h.os, h.tape, h.output, h.size, fun k hk hn => h.block k hk fun hf => hn (hF k hf)⟩
theorem Gr.mono {F : Nat → Prop} {a b : World} (h : a.heap.size ≤ b.heap.size) (k : Nat) : Gr (Gr F a) b k → Gr F a k
  | .inl h => h
  | .inr h' => .inr (by omega)

/-! ### the state -/
def smpV (x : HSmp) : List Value := [.int .i64 x.1, .float .f64 x.2.1, .bool x.2.2]
def rowV (l : List HSmp) : List Value := l.flatMap smpV
theorem rowV_length (l : List HSmp) : (rowV l).length = l.length * 3 := by
  induction l with
  | nil => rfl
  | cons a l ih =>
    show (smpV a ++ rowV l).length = _
    rw [List.length_append, ih]
    simp [smpV]; omega
theorem rowV_append (l m : List HSmp) : rowV (l ++ m) = rowV l ++ rowV m := by simp [rowV]
theorem rowV_one (l : List HSmp) : ∀ u ∈ rowV l, u.oneCell' = true := by
  intro u hu
  obtain ⟨x, -, hx⟩ := List.mem_flatMap.1 hu
  simp only [smpV, List.mem_cons, List.not_mem_nil, or_false] at hx
  rcases hx with rfl | rfl | rfl <;> rfl
theorem rowV_get : ∀ (l : List HSmp) (i : Nat) (x : HSmp), l[i]? = some x → (rowV l)[i * 3]? = some (.int .i64 x.1) ∧ (rowV l)[i * 3 + 1]? = some (.float .f64 x.2.1) ∧ (rowV l)[i * 3 + 2]? = some (.bool x.2.2)
  | [], i, x, h => by simp at h
  | a :: l, 0, x, h => by
    simp at h; subst h
    exact ⟨rfl, rfl, rfl⟩
  | a :: l, i + 1, x, h => by
    have := rowV_get l i x (by simpa using h)
    unfold rowV at this ⊢
    rw [List.flatMap_cons]
    rw [show (i + 1) * 3 = i * 3 + 3 by omega]
    exact this
/-- a head in memory: where its map lies, its keys' series' blocks, of each block its labels and its row -/
structure HS where
  ret : Int
  newest : Int
  m : Nat
  dir : Dl
  vl : Nat → Value
  vr : Nat → Value
  lab : Nat → List Lbl
  row : Nat → List HSmp
structure SerAt (w : World) (F : Nat → Prop) (s : HS) (g : Nat) : Prop where
  blk : Blk w g 140 #[s.vl g, s.vr g]
  own : F g
  labs : w.ownsRow 0 55 2 (s.vl g) (s.lab g).length (flatL (s.lab g))
  labF : ∀ k, (s.vl g).ownBlock = some k → F k
  row : w.ownsRow 0 148 3 (s.vr g) (s.row g).length (rowV (s.row g))
  rowF : ∀ k, (s.vr g).ownBlock = some k → F k
structure HeadAt (w : World) (F : Nat → Prop) (p : Nat) (s : HS) : Prop where
  blk : Blk w p 126 #[.int .i64 s.ret, .int .i64 s.newest, .map (some s.m)]
  own : F p
  dir : DirAt w s.m s.dir.length s.dir
  mF : F s.m
  ser : ∀ x ∈ s.dir, SerAt w F s x.2
  key : ∀ x ∈ s.dir, x.1 = lbytes (s.lab x.2)
  inj : s.dir.Pairwise fun x y => x.2 ≠ y.2
  apart : ∀ x ∈ s.dir, ∀ y ∈ s.dir, x.2 ≠ y.2 → (s.vr x.2).ownBlock = none ∨ (s.vr x.2).ownBlock ≠ (s.vr y.2).ownBlock
/-- the plain head that a state is -/
structure Tells (s : HS) (H : Hd) : Prop where
  ret : s.ret = H.ret
  newest : s.newest = H.newest
  perm : (s.dir.map fun x => (s.lab x.2, s.row x.2)).Perm H.ss
/-- a head in the blocks of F, with n samples at most -/
def HdAt (w : World) (F : Nat → Prop) (p n : Nat) (H : Hd) : Prop :=
  ∃ s, HeadAt w F p s ∧ Tells s H ∧ H.Ok ∧ H.ss.length ≤ n ∧ (∀ x ∈ H.ss, x.2.length ≤ n)
section
variable {w w' : World} {F G : Nat → Prop} {p n : Nat} {s : HS} {H : Hd} {g : Nat}
theorem SerAt.keep (h : SerAt w F s g) (hg : g < w.heap.size) (hb : ∀ k, F k → k < w.heap.size → w'.heap[k]? = w.heap[k]?) (hF : ∀ k, F k → G k) (hs : w.heap.size ≤ w'.heap.size) : SerAt w' G s g := by
  have hk : ∀ {e : TypeId} {size n : Nat} {v : Value} {xs : List Value}, w.ownsRow 0 e size v n xs → (∀ k, v.ownBlock = some k → F k) → w'.ownsRow 0 e size v n xs := by
    intro e size n v xs ho hv
    refine ⟨ho.1, ?_⟩
    rcases ho.2 with h1 | ⟨g, cap, cur, rfl, h2, h3, h4⟩
    · exact .inl h1
    · exact .inr ⟨g, cap, cur, rfl, h2, (hb g (hv g rfl) (Array.getElem?_eq_some_iff.1 h3).1).trans h3, h4⟩
  exact ⟨(hb g h.own hg).trans h.blk, hF _ h.own, hk h.labs h.labF, fun k e => hF _ (h.labF k e), hk h.row h.rowF, fun k e => hF _ (h.rowF k e)⟩
theorem HeadAt.keep (h : HeadAt w F p s) (hb : ∀ k, F k → k < w.heap.size → w'.heap[k]? = w.heap[k]?) (hF : ∀ k, F k → G k) (hs : w.heap.size ≤ w'.heap.size) : HeadAt w' G p s :=
  ⟨(hb p h.own h.blk.lt).trans h.blk, hF _ h.own, h.dir.keep (hb _ h.mF h.dir.lt), hF _ h.mF, fun x hx => (h.ser x hx).keep (h.ser x hx).blk.lt hb hF hs, h.key, h.inj, h.apart⟩
theorem HdAt.keep (h : HdAt w F p n H) (hb : ∀ k, F k → k < w.heap.size → w'.heap[k]? = w.heap[k]?) (hs : w.heap.size ≤ w'.heap.size) : HdAt w' F p n H := by
  obtain ⟨s, h1, h2⟩ := h
  exact ⟨s, h1.keep hb (fun _ h => h) hs, h2⟩
theorem HdAt.below (h : HdAt w F p n H) (hb : Below w.heap.size w w') : HdAt w' F p n H := h.keep (fun k _ hk => hb.block k hk) hb.size
theorem HdAt.inF (h : HdAt w F p n H) (hF : ∀ k, F k → G k) : HdAt w G p n H := by
  obtain ⟨s, h1, h2⟩ := h
  exact ⟨s, h1.keep (fun _ _ _ => rfl) hF (Nat.le_refl _), h2⟩
theorem HdAt.far {Q : Nat → Prop} (h : HdAt w F p n H) (hc : Chg Q w w') (hq : ∀ k, Q k → ¬ F k) : HdAt w' F p n H := h.keep (fun k hk hlt => hc.block k hlt fun h1 => hq k h1 hk) hc.size
theorem HdAt.mono (h : HdAt w F p n H) {m : Nat} (hm : n ≤ m) : HdAt w F p m H := by
  obtain ⟨s, h1, h2, h3, h4, h5⟩ := h
  exact ⟨s, h1, h2, h3, Nat.le_trans h4 hm, fun x hx => Nat.le_trans (h5 x hx) hm⟩
theorem HdAt.own (h : HdAt w F p n H) : F p := by obtain ⟨s, h1, -⟩ := h; exact h1.own
theorem HdAt.lt (h : HdAt w F p n H) : p < w.heap.size := by obtain ⟨s, h1, -⟩ := h; exact h1.blk.lt
theorem HdAt.ok (h : HdAt w F p n H) : H.Ok := by obtain ⟨s, h1, h2, h3, -⟩ := h; exact h3
end
end Go.Proofs.YtbeeejpjnniejaaGreatDoor
