/- An argument that is a steady row's description (a struct of three int64s and a float64), opened. -/
import Derived.Test.YtjlfkdopkhejbaaDoorRow
import Derived.Lib.SmallJoins
namespace Go.Proofs.YtjlfkdopkhejbaaDoor
open Go.Joins Go.ChangeShapes Go.WideShapes Go.ChangeAt Go.RowKit Go.Deep Ck

theorem wf64 {z : Int} (h : (Lit.int .i64 z).wf = true) : -9223372036854775808 ≤ z ∧ z ≤ 9223372036854775807 := by
  simpa [Lit.wf, IntKind.min, IntKind.max, IntKind.signed, IntKind.bits] using h

theorem open_steady {H : Type} {enc : TypeId × Value → H} {W : World} {base b0 : Nat} {sp : Nat → Bool} {held : Bool} {r : Reach} {v : Value} {d : DataW H} {ps : List MemPlace}
    (hv : Value.okWide Tryd.prog W r b0 46 v) (h : DataW.Trod enc Tryd.prog W base sp held 46 v d ps) :
    ∃ (t s n : Int) (b : Nat), v = .agg #[.int .i64 t, .int .i64 s, .int .i64 n, .float .f64 b] ∧ (-9223372036854775808 ≤ t ∧ t ≤ 9223372036854775807) ∧ (-9223372036854775808 ≤ s ∧ s ≤ 9223372036854775807) ∧ (-9223372036854775808 ≤ n ∧ n ≤ 9223372036854775807) ∧ b < 2 ^ 64 := by
  obtain ⟨v0, v1, v2, v3, y0, y1, y2, y3, n, rfl, _, _, t0, t1, t2, t3⟩ := open_agg4 Tryd.underlying46 (by kernel_rfl) (by kernel_rfl) hv h
  obtain ⟨a, ha, _, wa⟩ := DataW.trod_int Tryd.underlying3 t0
  obtain ⟨b, hb, _, wb⟩ := DataW.trod_int Tryd.underlying3 t1
  obtain ⟨c, hc, _, wc⟩ := DataW.trod_int Tryd.underlying3 t2
  obtain ⟨e, he, we⟩ := trod_f64 Tryd.underlying39 t3
  simp only [List.cons.injEq, and_true] at ha hb hc he
  subst ha hb hc he
  exact ⟨a, b, c, e, rfl, wf64 wa, wf64 wb, wf64 wc, we⟩
end Go.Proofs.YtjlfkdopkhejbaaDoor
