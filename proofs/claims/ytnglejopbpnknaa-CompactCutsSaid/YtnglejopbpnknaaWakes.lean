/- The walk of the law's wakes. -/
import Derived.Test.YtnglejopbpnknaaFloor
namespace Go.Proofs.Ytnglejopbpnknaa
open Go.RowKit Go.Shelf
attribute [local go_sem] run_store_float

theorem eq_func_nil (w : World) (d : Nat) (f : Fn) (a c : Array Value) : (Op.equalIn (d + 1) 29 (.func f a c) .nilFunc).run Try.prog w = .ok false w := by
  simp [Op.equalIn, run_underlying Try.underlying29]
theorem func_nil (w : World) (f : Fn) (a c : Array Value) : (binOp .eql 29 (.func f a c) .nilFunc).run Try.prog w = .ok (.bool false) w := by
  simp only [binOp]
  simp [Op.equal, Op.maxDepth, eq_func_nil w 9999 f a c]

/-- the seven blocks that wakes lays -/
def wk (w : World) : World := (((((((w.alloc (.cells #[.string xA, .string yA] 61)).alloc (.cells #[.int .i64 1, .float .f64 4607182418800017408] 51)).alloc (.cells #[.slice (some ⟨w.heap.size, 0, none⟩) 1 1, .slice (some ⟨w.heap.size + 1, 0, none⟩) 1 1] 34)).alloc (.cells #[.string xA, .string yA] 61)).alloc (.cells #[.int .i64 1, .float .f64 4621256167635550208, .int .i64 2, .float .f64 4611686018427387904] 51)).alloc (.cells #[.slice (some ⟨w.heap.size + 1 + 1 + 1, 0, none⟩) 1 1, .slice (some ⟨w.heap.size + 1 + 1 + 1 + 1, 0, none⟩) 2 2] 34)).alloc (.cells #[.slice (some ⟨w.heap.size + 1 + 1, 0, none⟩) 1 1, .slice (some ⟨w.heap.size + 1 + 1 + 1 + 1 + 1, 0, none⟩) 1 1] 22))
theorem Blk.new_ (w : World) (g : Nat) (t : TypeId) (cs : Array Value) (h : w.heap.size = g) : Blk (w.alloc (.cells cs t)) g t cs := by rw [← h]; exact Blk.new w t cs
theorem wk_size (w : World) : (wk w).heap.size = w.heap.size + 1 + 1 + 1 + 1 + 1 + 1 + 1 := by unfold wk; simp only [World.size_alloc]
theorem wk_below (w : World) : Below w.heap.size w (wk w) := by
  have h0 := (Below.refl w.heap.size w).alloc (Nat.le_refl _) (.cells #[.string xA, .string yA] 61)
  have h1 := h0.alloc h0.size (.cells #[.int .i64 1, .float .f64 4607182418800017408] 51)
  have h2 := h1.alloc h1.size (.cells #[.slice (some ⟨w.heap.size, 0, none⟩) 1 1, .slice (some ⟨w.heap.size + 1, 0, none⟩) 1 1] 34)
  have h3 := h2.alloc h2.size (.cells #[.string xA, .string yA] 61)
  have h4 := h3.alloc h3.size (.cells #[.int .i64 1, .float .f64 4621256167635550208, .int .i64 2, .float .f64 4611686018427387904] 51)
  have h5 := h4.alloc h4.size (.cells #[.slice (some ⟨w.heap.size + 1 + 1 + 1, 0, none⟩) 1 1, .slice (some ⟨w.heap.size + 1 + 1 + 1 + 1, 0, none⟩) 2 2] 34)
  exact h5.alloc h5.size (.cells #[.slice (some ⟨w.heap.size + 1 + 1, 0, none⟩) 1 1, .slice (some ⟨w.heap.size + 1 + 1 + 1 + 1 + 1, 0, none⟩) 1 1] 22)
theorem wk_in2 (w : World) : In2 (wk w) (w.heap.size + 1 + 1 + 1 + 1 + 1 + 1) (w.heap.size + 1 + 1) (w.heap.size + 1 + 1 + 1 + 1 + 1) w.heap.size (w.heap.size + 1) (w.heap.size + 1 + 1 + 1) (w.heap.size + 1 + 1 + 1 + 1) := by
  have b0 : Blk (wk w) w.heap.size 61 #[.string xA, .string yA] := ((((((Blk.new w 61 _).alloc _).alloc _).alloc _).alloc _).alloc _).alloc _
  have b1 : Blk (wk w) (w.heap.size + 1) 51 #[.int .i64 1, .float .f64 4607182418800017408] := (((((Blk.new_ _ _ 51 _ (by simp only [World.size_alloc])).alloc _).alloc _).alloc _).alloc _).alloc _
  have b2 : Blk (wk w) (w.heap.size + 1 + 1) 34 #[.slice (some ⟨w.heap.size, 0, none⟩) 1 1, .slice (some ⟨w.heap.size + 1, 0, none⟩) 1 1] := ((((Blk.new_ _ _ 34 _ (by simp only [World.size_alloc])).alloc _).alloc _).alloc _).alloc _
  have b3 : Blk (wk w) (w.heap.size + 1 + 1 + 1) 61 #[.string xA, .string yA] := (((Blk.new_ _ _ 61 _ (by simp only [World.size_alloc])).alloc _).alloc _).alloc _
  have b4 : Blk (wk w) (w.heap.size + 1 + 1 + 1 + 1) 51 #[.int .i64 1, .float .f64 4621256167635550208, .int .i64 2, .float .f64 4611686018427387904] := ((Blk.new_ _ _ 51 _ (by simp only [World.size_alloc])).alloc _).alloc _
  have b5 : Blk (wk w) (w.heap.size + 1 + 1 + 1 + 1 + 1) 34 #[.slice (some ⟨w.heap.size + 1 + 1 + 1, 0, none⟩) 1 1, .slice (some ⟨w.heap.size + 1 + 1 + 1 + 1, 0, none⟩) 2 2] := (Blk.new_ _ _ 34 _ (by simp only [World.size_alloc])).alloc _
  have b6 : Blk (wk w) (w.heap.size + 1 + 1 + 1 + 1 + 1 + 1) 22 #[.slice (some ⟨w.heap.size + 1 + 1, 0, none⟩) 1 1, .slice (some ⟨w.heap.size + 1 + 1 + 1 + 1 + 1, 0, none⟩) 1 1] := Blk.new_ _ _ 22 _ (by simp only [World.size_alloc])
  exact ⟨b6.cell 0, b6.cell 1, b2.cell 0, b2.cell 1, b5.cell 0, b5.cell 1, ⟨b0.cell 0, b0.cell 1, b0.lt⟩, ⟨b3.cell 0, b3.cell 1, b3.lt⟩, b1.cell 0, b1.cell 1, b4.cell 0, b4.cell 1, b4.cell 2, b4.cell 3, b6.lt, b2.lt, b5.lt, b1.lt, b4.lt⟩

set_option maxRecDepth 100000 in
set_option maxHeartbeats 3200000 in
theorem wakes_any (w : World) : Calls Try.prog 12 #[] w fun e w' => e = .returned (.bool true) ∧ Below w.heap.size w w' := by
  go_enter Try.func12, Try.ntmps12
  go_wp2_with fail
  refine (merge_two _ _ _ _ _ _ _ (wk w) (wk_in2 w)).mono ?_
  rintro e w2 ⟨rfl, ⟨gB, cB, gL, cL, gS, cS, gL2, cL2, gS2, cS2, hM⟩, hb2⟩
  have hfn := fun W => func_nil W (.func 26) #[] #[.pointer (some ⟨(wk w).heap.size, 0, none⟩)]
  have HM := Lib.hid hM
  have HB2 := Lib.hid ((wk_below w).trans (hb2.mono (wk_below w).size))
  clear hM hb2
  go_wp2_with fail
  refine (collect_one _ gB cB gL cL gS cS gL2 cL2 gS2 cS2 w2 HM.out).mono ?_
  rintro e w3 ⟨g, c, gl, cl, gs, cs, rfl, hc⟩
  have c0 : w3.cell? ⟨g, 0, none⟩ = some (.slice (some ⟨gl, 0, none⟩) 1 cl) := by rw [hc.all_.cellAt 0 (by omega)]; rfl
  have c1 : w3.cell? ⟨g, 1, none⟩ = some (.slice (some ⟨gs, 0, none⟩) 2 cs) := by rw [hc.all_.cellAt 1 (by omega)]; rfl
  have d1 : w3.cell? ⟨gs, 1, none⟩ = some (.float .f64 4607182418800017408) := by rw [hc.smp.cellAt 1 (by omega)]; rfl
  have HB3 := Lib.hid (HB2.out.trans (hc.below.mono HB2.out.size))
  clear hc HM hfn
  go_wp2_with fail
  refine (floor_any (-1) 5 w3 (by omega)).mono ?_
  rintro e w4 ⟨rfl, rfl⟩
  rw [show floorZ (-1) 5 = -5 by decide]
  go_wp2
  refine bodyPost_ret (results_tmp rfl _ _ _) rfl ?_
  exact ⟨rfl, HB3.out⟩
end Go.Proofs.Ytnglejopbpnknaa
