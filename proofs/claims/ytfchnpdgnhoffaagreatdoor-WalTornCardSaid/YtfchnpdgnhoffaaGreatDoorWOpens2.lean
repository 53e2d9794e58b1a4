/- An argument that is a struct, opened. -/
import Derived.Test.YtfchnpdgnhoffaaGreatDoorWOpens1
import Derived.Test.YtfchnpdgnhoffaaGreatDoorWTorn
namespace Go.Proofs.YtfchnpdgnhoffaaGreatDoor
open Go.ChangeShapes Go.WideShapes Go.ChangeAt Go.RowKit Go.Deep

set_option maxRecDepth 100000 in
theorem open_torn {H : Type} {enc : TypeId × Value → H} {W : World} {base b0 : Nat} {sp : Nat → Bool} {held : Bool} {r : Reach} {v : Value} {d : DataW H} {ps : List MemPlace}
    (hv : Value.okWide Tryz.prog W r b0 43 v) (h : DataW.Trod enc Tryz.prog W base sp held 43 v d ps) :
    ∃ (vr vl : Value) (z : Int) (A : Option Addr) (c : Nat) (rs : List Rec) (b : Rec) (cs : List Int), v = .agg #[vr, vl, .int .i64 z, .slice A cs.length c] ∧ TornAt W vr vl z A c rs b cs := by
  obtain ⟨cs, rfl, hsz⟩ := okWide_struct Tryz.underlying43 hv
  obtain ⟨fuel, hf⟩ := h
  have h4 : cs.size = 4 := hsz.trans (by kernel_rfl)
  obtain ⟨l⟩ := cs
  match l, h4 with
  | [v0, v1, v2, v3], _ =>
    obtain ⟨n, hfld⟩ := open_fields Tryz.underlying43 (by kernel_rfl) hf
    obtain ⟨y0, t0⟩ := hfld 0 _ rfl v0 rfl
    obtain ⟨y1, t1⟩ := hfld 1 _ rfl v1 rfl
    obtain ⟨y2, t2⟩ := hfld 2 _ rfl v2 rfl
    obtain ⟨y3, t3⟩ := hfld 3 _ rfl v3 rfl
    obtain ⟨rs, hr0, hl0, hb0⟩ := one_rows t0
    obtain ⟨b, hb1, hl1⟩ := one_bytes t1
    obtain ⟨z, rfl, hw⟩ := one_int Tryz.underlying3 t2
    obtain ⟨A, m, c, xs, rfl, hc, hm, hR, -⟩ := one_ints Tryz.underlying22 Tryz.underlying3 cells3 t3
    have e5 : m = xs.length := by have := hR.1; simpa using this.symm
    subst e5
    exact ⟨v0, v1, z, A, c, rs, b, xs, rfl, hr0, hl0, hb0, hb1, hl1, wf63 hw, hR, hc⟩
end Go.Proofs.YtfchnpdgnhoffaaGreatDoor
