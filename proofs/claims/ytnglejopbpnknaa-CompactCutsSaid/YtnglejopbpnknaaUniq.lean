/- The walk of slices.CompactFunc at three samples, of which the first two bear one time. -/
import Derived.Test.YtnglejopbpnknaaSortT
namespace Go.Proofs.Ytnglejopbpnknaa
open Go.RowKit

theorem run_store_float (P : Program) (w : World) (a : Addr) (m : Mode) (k : FloatKind) (b : Nat) : (store a (.float k b) m).run P w = stored P w a (.float k b) m := run_store P w a _ m rfl
attribute [local go_sem] run_store_float

theorem cell_far (w : World) (g i j : Nat) (v : Value) (h : i ≠ j) : (w.setCell ⟨g, i, none⟩ v).cell? ⟨g, j, none⟩ = w.cell? ⟨g, j, none⟩ := World.cell?_setCell_other w _ _ v (fun e => h (by injection e))
theorem cell_near (w : World) (g i : Nat) (u v : Value) (h : w.cell? ⟨g, i, none⟩ = some u) : (w.setCell ⟨g, i, none⟩ v).cell? ⟨g, i, none⟩ = some v := World.cell?_setCell_same' w _ v (by rw [h]; rfl)

/-- the closure that says whether two samples bear one time -/
theorem teq_any (a b : Int) (va vb : Nat) (w : World) :
    Calls Try.prog 31 #[.agg #[.int .i64 a, .float .f64 va], .agg #[.int .i64 b, .float .f64 vb]] w fun e w' => e = .returned (.bool (a == b)) ∧ Below w.heap.size w w' := by
  go_enter Try.func31, Try.ntmps31
  go_wp2
  go_ret
  exact ⟨rfl, ((Below.refl w.heap.size w).alloc (Nat.le_refl _) _).alloc (by simp) _⟩

set_option maxRecDepth 100000 in
set_option maxHeartbeats 3200000 in
theorem uniq_three (g c : Nat) (t0 t2 : Int) (v0 v1 v2 : Nat) (w : World) (h : ThreeT w g t0 t0 t2 v0 v1 v2) (hf : ∀ i, w.frozen? ⟨g, i, none⟩ = false) (h02 : t2 ≠ t0) (hc : 3 ≤ c) :
    Calls Try.prog 30 #[.slice (some ⟨g, 0, none⟩) 3 c, .func (.func 31) #[] #[]] w fun e w' => e = .returned (.slice (some ⟨g, 0, none⟩) 2 c) ∧
      (w'.cell? ⟨g, 0, none⟩ = some (.int .i64 t0) ∧ w'.cell? ⟨g, 1, none⟩ = some (.float .f64 v0) ∧ w'.cell? ⟨g, 2, none⟩ = some (.int .i64 t2) ∧ w'.cell? ⟨g, 3, none⟩ = some (.float .f64 v2)) ∧ w.grownBy w' (some g) := by
  have H := Lib.hid h
  have HF := Lib.hid hf
  have e02 : (t2 == t0) = false := by simp [h02]
  obtain ⟨a0, a1, a2, a3, a4, a5, hlt⟩ := h
  have hw1 : IntKind.i64.wrap 0 = 0 := by rfl
  have hw3 : IntKind.i64.wrap 1 = 1 := by rfl
  have hw2 : Int.toNat 0 = 0 := rfl
  have hci : (3 : Int) ≤ (c : Int) := by omega
  clear hf h02
  go_enter Try.func30, Try.ntmps30
  go_wp2_with fail
  refine wp_loop_rounds 3 ?_
  rw [rounds_succ]
  go_wp2_with fail
  go_region_held3 (fun w' => w'.cell? ⟨g, 0, none⟩ = some (.int .i64 t0) ∧ w'.cell? ⟨g, 1, none⟩ = some (.float .f64 v0) ∧ w'.cell? ⟨g, 2, none⟩ = some (.int .i64 t0) ∧ w'.cell? ⟨g, 3, none⟩ = some (.float .f64 v1))
    (first | exact ⟨a0, a1, a2, a3⟩ | exact ⟨b0, b1, b2, b3⟩)
    (first | (go_at_call 31; refine (teq_any t0 t0 v1 v0 w.drew).mono ?_; rintro e w1 ⟨rfl, hb⟩; have hb' : Below w.heap.size w w1 := ((Below.refl w.heap.size w).drew).trans hb; have T2 := Lib.hid (H.out.below hb'); have b0 := T2.out.a0; have b1 := T2.out.a1; have b2 := T2.out.a2; have b3 := T2.out.a3; have HB := Lib.hid hb'; have HF1 := Lib.hid (fun i => (hb'.frozen (p := ⟨g, i, none⟩) H.out.lt).trans (HF.out i)); clear hb hb'))
  clear a0 a1 a2 a3 a4 a5
  have b4 := T2.out.a4
  have b5 := T2.out.a5
  go_wp2_with fail
  refine wp_loop_rounds 2 ?_
  rw [rounds_succ]
  go_wp2_with fail
  go_region_held3 (fun w' => w'.cell? ⟨g, 2, none⟩ = some (.int .i64 t0) ∧ w'.cell? ⟨g, 3, none⟩ = some (.float .f64 v1) ∧ w'.cell? ⟨g, 4, none⟩ = some (.int .i64 t2) ∧ w'.cell? ⟨g, 5, none⟩ = some (.float .f64 v2))
    (first | exact ⟨b2, b3, b4, b5⟩ | exact ⟨d2, d3, d4, d5⟩)
    (first | (go_at_call 31; refine (teq_any t2 t0 v2 v1 w1.drew).mono ?_; rintro e w2 ⟨rfl, hb⟩; have hb' : Below w1.heap.size w1 w2 := ((Below.refl w1.heap.size w1).drew).trans hb; have T3 := Lib.hid (T2.out.below hb'); have d2 := T3.out.a2; have d3 := T3.out.a3; have d4 := T3.out.a4; have d5 := T3.out.a5; have HB2 := Lib.hid (HB.out.trans (hb'.mono HB.out.size)); have HF2 := Lib.hid (fun i => (hb'.frozen (p := ⟨g, i, none⟩) T2.out.lt).trans (HF1.out i)); clear hb hb'))
  clear b0 b1 b2 b3 b4 b5
  have f2 := HF2.out 2
  have f3 := HF2.out 3
  have f4 := HF2.out 4
  have f5 := HF2.out 5
  go_wp2_with fail
  obtain ⟨w3, hw3'⟩ : ∃ w3, (w2.setCell ⟨g, 2, none⟩ (.int .i64 t2)).setCell ⟨g, 3, none⟩ (.float .f64 v2) = w3 := ⟨_, rfl⟩
  have m0 : w3.cell? ⟨g, 0, none⟩ = some (.int .i64 t0) := by rw [← hw3', cell_far _ _ _ _ _ (by decide), cell_far _ _ _ _ _ (by decide)]; exact T3.out.a0
  have m1 : w3.cell? ⟨g, 1, none⟩ = some (.float .f64 v0) := by rw [← hw3', cell_far _ _ _ _ _ (by decide), cell_far _ _ _ _ _ (by decide)]; exact T3.out.a1
  have m2 : w3.cell? ⟨g, 2, none⟩ = some (.int .i64 t2) := by rw [← hw3', cell_far _ _ _ _ _ (by decide)]; exact cell_near _ _ _ _ _ T3.out.a2
  have m3 : w3.cell? ⟨g, 3, none⟩ = some (.float .f64 v2) := by rw [← hw3']; exact cell_near _ _ _ _ _ (show (w2.setCell ⟨g, 2, none⟩ (.int .i64 t2)).cell? ⟨g, 3, none⟩ = some (.float .f64 v1) by rw [cell_far _ _ _ _ _ (by decide)]; exact T3.out.a3)
  have m4 : w3.cell? ⟨g, 4, none⟩ = some (.int .i64 t2) := by rw [← hw3', cell_far _ _ _ _ _ (by decide), cell_far _ _ _ _ _ (by decide)]; exact T3.out.a4
  have m5 : w3.cell? ⟨g, 5, none⟩ = some (.float .f64 v2) := by rw [← hw3', cell_far _ _ _ _ _ (by decide), cell_far _ _ _ _ _ (by decide)]; exact T3.out.a5
  have n4 : w3.frozen? ⟨g, 4, none⟩ = false := by rw [← hw3']; simp [f4]
  have n5 : w3.frozen? ⟨g, 5, none⟩ = false := by rw [← hw3']; simp [f5]
  have hg3 : w.grownBy w3 (some g) := by
    rw [← hw3']
    exact only_setCell (only_setCell (only_of_below HB2.out _) (p := ⟨g, 2, none⟩) (.inl rfl) _) (p := ⟨g, 3, none⟩) (.inl rfl) _
  rw [hw3']
  have HG3 := Lib.hid hg3
  clear hw3' hg3 d2 d3 d4 d5 f2 f3 f4 f5 T3
  rw [rounds_succ]
  have hcl : ∀ ty, (Builtin.clear_ #[32] ty #[.slice (some ⟨g, 4, none⟩) 1 (c - 2)]).run Try.prog w3 = .ok (.tuple #[]) ((w3.setCell ⟨g, 4, none⟩ (.int .i64 0)).setCell ⟨g, 5, none⟩ (.float .f64 0)) := by
    intro ty
    simp [Builtin.clear_, run_underlying Try.underlying32, Try.zeroValue51, Builtin.zeroCells, storeCells, go_sem, m4, m5, n4, n5, Addr.add, cell_far]
  go_wp2_with fail
  refine bodyPost_ret (results_tmp rfl _ _ _) rfl ?_
  refine ⟨rfl, ⟨?_, ?_, ?_, ?_⟩, only_setCell (only_setCell HG3.out (p := ⟨g, 4, none⟩) (.inl rfl) _) (p := ⟨g, 5, none⟩) (.inl rfl) _⟩
  · rw [cell_far _ _ _ _ _ (by decide), cell_far _ _ _ _ _ (by decide)]; exact m0
  · rw [cell_far _ _ _ _ _ (by decide), cell_far _ _ _ _ _ (by decide)]; exact m1
  · rw [cell_far _ _ _ _ _ (by decide), cell_far _ _ _ _ _ (by decide)]; exact m2
  · rw [cell_far _ _ _ _ _ (by decide), cell_far _ _ _ _ _ (by decide)]; exact m3
end Go.Proofs.Ytnglejopbpnknaa
