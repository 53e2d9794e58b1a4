/- Law HeadHorizon: its memory between two rounds. -/
import Derived.Test.YtbeeejpjnniejaaGreatDoorHHorL
import Derived.Test.YtbeeejpjnniejaaGreatDoorJ13HWakes
namespace Go.Proofs.YtbeeejpjnniejaaGreatDoor
open Go.RowKit Go.Shelf Go.Maps
def intsV (l : List Int) : List Value := l.map (Value.int .i64)
theorem intsV_one (l : List Int) : ∀ u ∈ intsV l, u.oneCell' = true := fun u hu => by
  obtain ⟨x, -, rfl⟩ := List.mem_map.1 hu
  rfl
theorem intsV_snoc (l : List Int) (x : Int) : intsV (l ++ [x]) = intsV l ++ [.int .i64 x] := by simp [intsV]
structure HoS (w W : World) (p L k : Nat) (all : Value) (ret tt : Int) (ys xs : List Int) (F : Nat → Prop) (H : Hd) : Prop where
  bel : Below w.heap.size w W
  hd : HdAt W F p k H
  inv : HorI ret xs tt H
  ok : TimesOk xs tt
  own : W.ownsRow w.heap.size 3 1 all ys.length (intsV ys)
  lab : Blk W L 55 #[.string la, .string l1]
  f1 : ∀ j, F j → w.heap.size ≤ j ∧ j < W.heap.size ∧ j ≠ L
  f2 : ∀ j, all.ownBlock = some j → ¬ F j
  l0 : w.heap.size ≤ L
section
variable {w W W' : World} {p L k : Nat} {all : Value} {ret tt : Int} {ys xs : List Int} {F : Nat → Prop} {H : Hd}
theorem HoS.below (h : HoS w W p L k all ret tt ys xs F H) (hb : Below W.heap.size W W') : HoS w W' p L k all ret tt ys xs F H where
  bel := h.bel.trans (hb.mono h.bel.size)
  hd := h.hd.below hb
  inv := h.inv
  ok := h.ok
  own := own_blk h.own fun j hj => hb.block j (h.own.lt j hj).2
  lab := h.lab.below hb h.lab.lt
  f1 := fun j hj => by have := h.f1 j hj; have := hb.size; omega
  f2 := h.f2
  l0 := h.l0
theorem HoS.chg (h : HoS w W p L k all ret tt ys xs F H) (hc : Chg F W W') {k' : Nat} {tt' : Int} {xs' : List Int} {H' : Hd} (hh : HdAt W' (Grs F W W') p k' H') (hi : HorI ret xs' tt' H') (ho : TimesOk xs' tt') :
    HoS w W' p L k' all ret tt' ys xs' (Grs F W W') H' where
  bel := h.bel.trans (hc.toBelow (fun j hj => (h.f1 j hj).1) h.bel.size)
  hd := hh
  inv := hi
  ok := ho
  own := own_blk h.own fun j hj => hc.block j (h.own.lt j hj).2 (h.f2 j hj)
  lab := (hc.block L h.lab.lt fun hf => (h.f1 L hf).2.2 rfl).trans h.lab
  f1 := fun j hj => by
    have h1 := hj.2
    rcases hj.1 with h2 | h2
    · have := h.f1 j h2; exact ⟨this.1, h1, this.2.2⟩
    · have h3 : W.heap.size ≤ j := h2
      have := h.bel.size
      have := h.lab.lt
      exact ⟨by omega, h1, by omega⟩
  f2 := fun j hj hf => by
    have h1 := (h.own.lt j hj).2
    rcases hf.1 with h2 | h2
    · exact h.f2 j hj h2
    · have h3 : W.heap.size ≤ j := h2
      omega
  l0 := h.l0
theorem HoS.grown (h : HoS w W p L k all ret tt ys xs F H) (hg : W.grownBy W' all.ownBlock) {all' : Value} {ys' : List Int} (ho : W'.ownsRow w.heap.size 3 1 all' ys'.length (intsV ys')) (hn : all'.ownBlock = none ∨ all'.ownBlock = all.ownBlock ∨ all'.ownBlock = some W.heap.size) :
    HoS w W' p L k all' ret tt ys' xs F H where
  bel := h.bel.grown hg h.bel.size fun g hg => (h.own.lt g hg).1
  hd := h.hd.keep (fun j hj hlt => hg.block j hlt fun e => h.f2 j e.symm hj) hg.size
  inv := h.inv
  ok := h.ok
  own := ho
  lab := (hg.block L h.lab.lt fun e => own_blk_ne h.own h.lab (by decide) e.symm).trans h.lab
  f1 := fun j hj => by have := h.f1 j hj; have := hg.size; omega
  f2 := fun j hj hf => by
    rcases hn with h1 | h1 | h1
    · rw [h1] at hj; cases hj
    · exact h.f2 j (h1 ▸ hj) hf
    · rw [h1] at hj
      injection hj with hj
      have := (h.f1 j hf).2.1
      omega
  l0 := h.l0
end
theorem within_eq (n m : Int) (w : World) (h : 1 ≤ m) (hm : m ≤ 9223372036854775807) (hn : -9223372036854775808 ≤ n ∧ n ≤ 9223372036854775807) {x : Int} (hx : x = n % m) :
    Calls Tryz.prog 24 #[.int .i64 n, .int .i64 m] w fun e w' => e = .returned (.int .i64 x) ∧ w = w' := (within11_any n m w h hm hn.1 hn.2).mono fun e w' ⟨h1, h2⟩ => ⟨by rw [hx]; exact h1, h2.symm⟩
def HorR (w : World) (ret : Int) (p N L : Nat) (t all i : Value) (W : World) : Prop :=
  ∃ (k : Nat) (tt : Int) (xs : List Int) (F : Nat → Prop) (H : Hd), t = .int .i64 tt ∧ i = .int .i64 (k : Int) ∧ k ≤ N ∧ k ≤ 30 ∧ 0 ≤ tt ∧ tt ≤ 200 * k ∧ xs.length = k ∧ HoS w W p L k all ret tt xs xs F H
end Go.Proofs.YtbeeejpjnniejaaGreatDoor
