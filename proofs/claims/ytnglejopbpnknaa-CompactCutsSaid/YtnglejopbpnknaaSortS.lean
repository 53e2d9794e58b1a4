/- The walks of the library's stable sort at two series of the same labels. -/
import Derived.Test.YtnglejopbpnknaaCopied
namespace Go.Proofs.Ytnglejopbpnknaa
open Go.RowKit

/-- block g holds two series: labels at l0, l1; samples s0, s1 -/
structure TwoS (w : World) (g l0 k0 l1 k1 : Nat) (s0 s1 : Value) (x y : ByteArray) : Prop where
  a0 : w.cell? ⟨g, 0, none⟩ = some (.slice (some ⟨l0, 0, none⟩) 1 k0)
  a1 : w.cell? ⟨g, 1, none⟩ = some s0
  a2 : w.cell? ⟨g, 2, none⟩ = some (.slice (some ⟨l1, 0, none⟩) 1 k1)
  a3 : w.cell? ⟨g, 3, none⟩ = some s1
  lt : g < w.heap.size
  b0 : LblAt w l0 x y
  b1 : LblAt w l1 x y

theorem TwoS.below {w w' : World} {g l0 k0 l1 k1 : Nat} {s0 s1 : Value} {x y : ByteArray} (h : TwoS w g l0 k0 l1 k1 s0 s1 x y) (hb : Below w.heap.size w w') : TwoS w' g l0 k0 l1 k1 s0 s1 x y :=
  ⟨(hb.cell (p := ⟨g, 0, none⟩) h.lt).trans h.a0, (hb.cell (p := ⟨g, 1, none⟩) h.lt).trans h.a1, (hb.cell (p := ⟨g, 2, none⟩) h.lt).trans h.a2, (hb.cell (p := ⟨g, 3, none⟩) h.lt).trans h.a3,
    Nat.lt_of_lt_of_le h.lt hb.size, h.b0.below hb h.b0.2.2, h.b1.below hb h.b1.2.2⟩

set_option maxRecDepth 100000 in
set_option maxHeartbeats 1600000 in
theorem ins_two (g c l0 k0 l1 k1 : Nat) (s0 s1 : Value) (x y : ByteArray) (w : World) (h : TwoS w g l0 k0 l1 k1 s0 s1 x y) :
    Calls Try.prog 54 #[.slice (some ⟨g, 0, none⟩) 2 c, .int .i64 0, .int .i64 2, .func (.func 24) #[] #[]] w fun e w' => e = .returned (.tuple #[]) ∧ Below w.heap.size w w' := by
  have H := Lib.hid h
  obtain ⟨a0, a1, a2, a3, hlt, -, -⟩ := h
  have hw1 : IntKind.i64.wrap 0 = 0 := by rfl
  have hw2 : Int.toNat 0 = 0 := rfl
  go_enter Try.func54, Try.ntmps54
  go_wp2_with fail
  refine wp_loop_rounds 3 ?_
  rw [rounds_succ]
  go_wp2_with fail
  refine wp_loop_rounds 2 ?_
  rw [rounds_succ]
  go_wp2_with fail
  go_region_held3 (fun w' => w'.cell? ⟨g, 0, none⟩ = some (.slice (some ⟨l0, 0, none⟩) 1 k0) ∧ w'.cell? ⟨g, 1, none⟩ = some s0 ∧ w'.cell? ⟨g, 2, none⟩ = some (.slice (some ⟨l1, 0, none⟩) 1 k1) ∧ w'.cell? ⟨g, 3, none⟩ = some s1)
    (first | exact ⟨a0, a1, a2, a3⟩ | exact ⟨b0, b1, b2, b3⟩)
    (first | (go_at_call 24; refine (scmp_one l1 l0 k1 k0 s1 s0 x y w.drew (H.out.below ((Below.refl w.heap.size w).drew)).b1 (H.out.below ((Below.refl w.heap.size w).drew)).b0).mono ?_; rintro e w' ⟨rfl, hb⟩; have hb' : Below w.heap.size w w' := ((Below.refl w.heap.size w).drew).trans hb; have T2 := H.out.below hb'; have b0 := T2.a0; have b1 := T2.a1; have b2 := T2.a2; have b3 := T2.a3; have HB := Lib.hid hb'; clear hb hb' T2))
  all_goals
    go_wp2_with fail
    rw [rounds_succ]
    go_wp2
    go_end0
    exact ⟨rfl, HB.out⟩

set_option maxHeartbeats 800000 in
theorem stable_two (g c l0 k0 l1 k1 : Nat) (s0 s1 : Value) (x y : ByteArray) (w : World) (h : TwoS w g l0 k0 l1 k1 s0 s1 x y) :
    Calls Try.prog 41 #[.slice (some ⟨g, 0, none⟩) 2 c, .int .i64 2, .func (.func 24) #[] #[]] w fun e w' => e = .returned (.tuple #[]) ∧ Below w.heap.size w w' := by
  have HI := Lib.hid (ins_two g c l0 k0 l1 k1 s0 s1 x y w h)
  clear h
  go_enter Try.func41, Try.ntmps41
  go_wp2_with fail
  refine wp_loop_rounds 1 ?_
  rw [rounds_succ]
  go_wp2_with fail
  refine HI.out.mono ?_
  rintro e w' ⟨rfl, hb⟩
  have HB := Lib.hid hb
  clear hb HI
  go_wp2_with fail
  refine wp_loop_rounds 1 ?_
  rw [rounds_succ]
  go_wp2
  go_end0
  exact ⟨rfl, HB.out⟩
theorem sort_two (g c l0 k0 l1 k1 : Nat) (s0 s1 : Value) (x y : ByteArray) (w : World) (h : TwoS w g l0 k0 l1 k1 s0 s1 x y) :
    Calls Try.prog 23 #[.slice (some ⟨g, 0, none⟩) 2 c, .func (.func 24) #[] #[]] w fun e w' => e = .returned (.tuple #[]) ∧ Below w.heap.size w w' := by
  have HI := Lib.hid (stable_two g c l0 k0 l1 k1 s0 s1 x y w h)
  clear h
  go_enter Try.func23, Try.ntmps23
  go_wp2_with fail
  refine HI.out.mono ?_
  rintro e w' ⟨rfl, hb⟩
  have HB := Lib.hid hb
  clear hb HI
  go_wp2
  go_end0
  exact ⟨rfl, HB.out⟩
end Go.Proofs.Ytnglejopbpnknaa
