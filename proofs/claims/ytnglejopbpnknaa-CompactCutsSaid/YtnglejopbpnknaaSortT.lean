/- The walks of the library's stable sort at three samples that lie in order. -/
import Derived.Test.YtnglejopbpnknaaSortS
namespace Go.Proofs.Ytnglejopbpnknaa
open Go.RowKit

theorem isnan_i (x : Int) (w : World) : Calls Try.prog 47 #[.int .i64 x] w fun e w' => e = .returned (.bool false) ∧ w = w' := by
  go_enter Try.func47, Try.ntmps47
  go_wp2
  go_ret
  exact ⟨by simp, rfl⟩
/-- two times that lie in order -/
theorem cmpi_geq (a b : Int) (w : World) (h : b ≤ a) : Calls Try.prog 29 #[.int .i64 a, .int .i64 b] w fun e w' => (∃ q : Int, e = .returned (.int .i64 q) ∧ 0 ≤ q ∧ q ≤ 1) ∧ w = w' := by
  rcases Int.lt_or_le b a with h1 | h1
  · go_enter Try.func29, Try.ntmps29
    go_wp2_with (first | (go_at_call 47; refine (isnan_i _ _).mono ?_; rintro e w' ⟨rfl, rfl⟩))
    refine bodyPost_ret (results_tmp rfl _ _ _) rfl ?_
    exact ⟨⟨1, rfl, by omega, by omega⟩, rfl⟩
  · obtain rfl : a = b := by omega
    go_enter Try.func29, Try.ntmps29
    go_wp2_with (first | (go_at_call 47; refine (isnan_i _ _).mono ?_; rintro e w' ⟨rfl, rfl⟩))
    refine bodyPost_ret (results_tmp rfl _ _ _) rfl ?_
    exact ⟨⟨0, rfl, by omega, by omega⟩, rfl⟩
/-- the closure that a series' samples are sorted by -/
theorem tcmp_geq (a b : Int) (va vb : Nat) (w : World) (h : b ≤ a) :
    Calls Try.prog 28 #[.agg #[.int .i64 a, .float .f64 va], .agg #[.int .i64 b, .float .f64 vb]] w fun e w' => (∃ q : Int, e = .returned (.int .i64 q) ∧ 0 ≤ q ∧ q ≤ 1) ∧ Below w.heap.size w w' := by
  go_enter Try.func28, Try.ntmps28
  go_wp2_with fail
  refine (cmpi_geq a b _ h).mono ?_
  rintro e w' ⟨⟨q, rfl, h0, h1⟩, rfl⟩
  go_wp2
  go_ret
  exact ⟨⟨q, rfl, h0, h1⟩, ((Below.refl w.heap.size w).alloc (Nat.le_refl _) _).alloc (by simp) _⟩

/-- block g holds three samples in order -/
structure ThreeT (w : World) (g : Nat) (t0 t1 t2 : Int) (v0 v1 v2 : Nat) : Prop where
  a0 : w.cell? ⟨g, 0, none⟩ = some (.int .i64 t0)
  a1 : w.cell? ⟨g, 1, none⟩ = some (.float .f64 v0)
  a2 : w.cell? ⟨g, 2, none⟩ = some (.int .i64 t1)
  a3 : w.cell? ⟨g, 3, none⟩ = some (.float .f64 v1)
  a4 : w.cell? ⟨g, 4, none⟩ = some (.int .i64 t2)
  a5 : w.cell? ⟨g, 5, none⟩ = some (.float .f64 v2)
  lt : g < w.heap.size
theorem ThreeT.below {w w' : World} {g : Nat} {t0 t1 t2 : Int} {v0 v1 v2 : Nat} (h : ThreeT w g t0 t1 t2 v0 v1 v2) (hb : Below w.heap.size w w') : ThreeT w' g t0 t1 t2 v0 v1 v2 :=
  ⟨(hb.cell (p := ⟨g, 0, none⟩) h.lt).trans h.a0, (hb.cell (p := ⟨g, 1, none⟩) h.lt).trans h.a1, (hb.cell (p := ⟨g, 2, none⟩) h.lt).trans h.a2, (hb.cell (p := ⟨g, 3, none⟩) h.lt).trans h.a3,
    (hb.cell (p := ⟨g, 4, none⟩) h.lt).trans h.a4, (hb.cell (p := ⟨g, 5, none⟩) h.lt).trans h.a5, Nat.lt_of_lt_of_le h.lt hb.size⟩

set_option maxRecDepth 100000 in
set_option maxHeartbeats 1600000 in
theorem ins_three (g c : Nat) (t0 t1 t2 : Int) (v0 v1 v2 : Nat) (w : World) (h : ThreeT w g t0 t1 t2 v0 v1 v2) (h01 : t0 ≤ t1) (h12 : t1 ≤ t2) :
    Calls Try.prog 57 #[.slice (some ⟨g, 0, none⟩) 3 c, .int .i64 0, .int .i64 3, .func (.func 28) #[] #[]] w fun e w' => e = .returned (.tuple #[]) ∧ Below w.heap.size w w' := by
  have H := Lib.hid h
  have H01 := Lib.hid h01
  have H12 := Lib.hid h12
  obtain ⟨a0, a1, a2, a3, a4, a5, hlt⟩ := h
  have hw1 : IntKind.i64.wrap 0 = 0 := by rfl
  have hw3 : IntKind.i64.wrap 1 = 1 := by rfl
  have hw2 : Int.toNat 0 = 0 := rfl
  clear h01 h12
  go_enter Try.func57, Try.ntmps57
  go_wp2_with fail
  refine wp_loop_rounds 4 ?_
  rw [rounds_succ]
  go_wp2_with fail
  refine wp_loop_rounds 2 ?_
  rw [rounds_succ]
  go_wp2_with fail
  go_region_held3 (fun w' => w'.cell? ⟨g, 0, none⟩ = some (.int .i64 t0) ∧ w'.cell? ⟨g, 1, none⟩ = some (.float .f64 v0) ∧ w'.cell? ⟨g, 2, none⟩ = some (.int .i64 t1) ∧ w'.cell? ⟨g, 3, none⟩ = some (.float .f64 v1))
    (first | exact ⟨a0, a1, a2, a3⟩ | exact ⟨b0, b1, b2, b3⟩)
    (first | (go_at_call 28; refine (tcmp_geq t1 t0 v1 v0 w.drew H01.out).mono ?_; rintro e w1 ⟨⟨q, rfl, hq0, hq1⟩, hb⟩; have hb' : Below w.heap.size w w1 := ((Below.refl w.heap.size w).drew).trans hb; have T2 := Lib.hid (H.out.below hb'); have b0 := T2.out.a0; have b1 := T2.out.a1; have b2 := T2.out.a2; have b3 := T2.out.a3; have HB := Lib.hid hb'; clear hb hb'))
  clear a0 a1 a2 a3 a4 a5 b0 b1
  go_wp2_with fail
  rw [rounds_succ]
  have b4 := T2.out.a4
  have b5 := T2.out.a5
  go_wp2_with fail
  refine wp_loop_rounds 2 ?_
  rw [rounds_succ]
  go_wp2_with fail
  go_region_held3 (fun w' => w'.cell? ⟨g, 2, none⟩ = some (.int .i64 t1) ∧ w'.cell? ⟨g, 3, none⟩ = some (.float .f64 v1) ∧ w'.cell? ⟨g, 4, none⟩ = some (.int .i64 t2) ∧ w'.cell? ⟨g, 5, none⟩ = some (.float .f64 v2))
    (first | exact ⟨b2, b3, b4, b5⟩ | exact ⟨d2, d3, d4, d5⟩)
    (first | (go_at_call 28; refine (tcmp_geq t2 t1 v2 v1 w1.drew H12.out).mono ?_; rintro e w2 ⟨⟨q2, rfl, hq2, hq3⟩, hb⟩; have hb' : Below w1.heap.size w1 w2 := ((Below.refl w1.heap.size w1).drew).trans hb; have T3 := Lib.hid (T2.out.below hb'); have d2 := T3.out.a2; have d3 := T3.out.a3; have d4 := T3.out.a4; have d5 := T3.out.a5; have HB2 := Lib.hid (HB.out.trans (hb'.mono HB.out.size)); clear hb hb'))
  clear b2 b3 b4 b5 d2 d3 d4 d5
  go_wp2_with fail
  rw [rounds_succ]
  go_wp2
  go_end0
  exact ⟨rfl, HB2.out⟩

set_option maxHeartbeats 800000 in
theorem stable_three (g c : Nat) (t0 t1 t2 : Int) (v0 v1 v2 : Nat) (w : World) (h : ThreeT w g t0 t1 t2 v0 v1 v2) (h01 : t0 ≤ t1) (h12 : t1 ≤ t2) :
    Calls Try.prog 46 #[.slice (some ⟨g, 0, none⟩) 3 c, .int .i64 3, .func (.func 28) #[] #[]] w fun e w' => e = .returned (.tuple #[]) ∧ Below w.heap.size w w' := by
  have HI := Lib.hid (ins_three g c t0 t1 t2 v0 v1 v2 w h h01 h12)
  clear h h01 h12
  go_enter Try.func46, Try.ntmps46
  go_wp2_with fail
  refine wp_loop_rounds 1 ?_
  rw [rounds_succ]
  go_wp2_with fail
  refine HI.out.mono ?_
  rintro e w' ⟨rfl, hb⟩
  have HB := Lib.hid hb
  clear hb HI
  go_wp2_with fail
  refine wp_loop_rounds 1 ?_
  rw [rounds_succ]
  go_wp2
  go_end0
  exact ⟨rfl, HB.out⟩
theorem sort_three (g c : Nat) (t0 t1 t2 : Int) (v0 v1 v2 : Nat) (w : World) (h : ThreeT w g t0 t1 t2 v0 v1 v2) (h01 : t0 ≤ t1) (h12 : t1 ≤ t2) :
    Calls Try.prog 27 #[.slice (some ⟨g, 0, none⟩) 3 c, .func (.func 28) #[] #[]] w fun e w' => e = .returned (.tuple #[]) ∧ Below w.heap.size w w' := by
  have HI := Lib.hid (stable_three g c t0 t1 t2 v0 v1 v2 w h h01 h12)
  clear h h01 h12
  go_enter Try.func27, Try.ntmps27
  go_wp2_with fail
  refine HI.out.mono ?_
  rintro e w' ⟨rfl, hb⟩
  have HB := Lib.hid hb
  clear hb HI
  go_wp2
  go_end0
  exact ⟨rfl, HB.out⟩
end Go.Proofs.Ytnglejopbpnknaa
