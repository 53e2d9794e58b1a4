/- An argument that is a row of bytes, opened. -/
import Derived.Test.YtjlfkdopkhejbaaDoorRow
namespace Go.Proofs.YtjlfkdopkhejbaaDoor
open Go.ChangeShapes Go.WideShapes Go.ChangeAt Go.RowKit Go.Deep Ck

/-- an argument that is a row of bytes, opened -/
theorem open_bytes {H : Type} {enc : TypeId × Value → H} {W : World} {base b0 : Nat} {sp : Nat → Bool} {held : Bool} {r : Reach} {v : Value} {d : DataW H} {ps : List MemPlace}
    (hv : Value.okWide Tryd.prog W r b0 23 v) (h : DataW.Trod enc Tryd.prog W base sp held 23 v d ps) :
    ∃ (A : Option Addr) (cap : Nat) (l : List Nat), v = .slice A l.length cap ∧ l.length ≤ cap ∧ BytAt W W.heap.size A l ∧ ∀ b ∈ l, b < 256 := by
  obtain ⟨a, len, cap, rfl⟩ := okWide_slice Tryd.underlying23 hv
  obtain ⟨fuel, hf⟩ := h
  rcases open_slice Tryd.underlying23 hf with ⟨hcs, _⟩ | ⟨a', len', cap', m, n, D, Pl, hcs, _, hl, _, hm, _, hi⟩
  · simp only [Value.cells, List.cons.injEq, and_true] at hcs
    cases hcs
    exact ⟨none, 0, [], rfl, Nat.le_refl _, fun h0 => absurd h0 (by simp), fun x hx => by cases hx⟩
  · simp only [Value.cells, List.cons.injEq, and_true] at hcs
    cases hcs
    have hlm : len ≤ m := by rw [hm]; split <;> omega
    have hx : ∀ i : Nat, ∃ x : Nat, i < len → x < 256 ∧ W.cell? (a'.add i) = some (.int .u8 (x : Nat)) := by
      intro i
      by_cases hil : i < len
      · obtain ⟨cs', hc, ht'⟩ := hi i (by omega)
        rw [cells5] at hc
        obtain ⟨z, hz, _, hzw⟩ := DataW.trod_int Tryd.underlying5 ht'
        subst hz
        have hzr : 0 ≤ z ∧ z ≤ 255 := by simpa [Lit.wf, IntKind.min, IntKind.max, IntKind.signed, IntKind.bits] using hzw
        obtain ⟨_, _, hat⟩ := World.cells?_some hc
        have := hat 0 (by omega)
        refine ⟨z.toNat, fun _ => ⟨by omega, ?_⟩⟩
        rw [show ((z.toNat : Nat) : Int) = z by omega]
        rw [Nat.mul_one] at this
        simpa [Addr.add] using this
      · exact ⟨0, fun h => absurd h hil⟩
    obtain ⟨f, hf'⟩ := Classical.skolem.1 hx
    refine ⟨some a', cap, (List.range len).map f, by simp, by simpa using hl, fun h0 => ?_, fun x hx => ?_⟩
    · have hl0 : 0 < len := by simpa using h0
      have hs := World.cell?_spot (hf' 0 hl0).2
      have hlt := World.block_lt_of_cell? W _ (hf' 0 hl0).2
      obtain ⟨g, off, spot⟩ := a'
      have hsp : spot = none := by simpa [Addr.add] using hs
      subst hsp
      have e : ∀ j, (⟨g, off, none⟩ : Addr).add j = ⟨g, off + j, none⟩ := fun j => by unfold Addr.add; split <;> simp_all
      refine ⟨g, off, rfl, by simpa [Addr.add] using hlt, fun i x hx => ?_⟩
      have hil : i < len := by
        have := (List.getElem?_eq_some_iff.1 hx).1
        simpa using this
      have hxe : x = f i := by
        rw [List.getElem?_map, List.getElem?_range hil] at hx
        simpa using hx.symm
      rw [hxe]
      have h2 := (hf' i hil).2
      rw [e] at h2
      exact h2
    · obtain ⟨i, hi', rfl⟩ := List.mem_map.1 hx
      exact (hf' i (List.mem_range.1 hi')).1
end Go.Proofs.YtjlfkdopkhejbaaDoor
