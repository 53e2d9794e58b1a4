/- Plain lists: rising lists of the same members are one list; what slices.Compact makes of a sorted list; the cuts. -/
import Derived.Lib.SlicesCompact
import Derived.Test.YtnglejopbpnknaaWakes
namespace Go.Proofs.Ytnglejopbpnknaa

theorem rising_unique : ∀ (l m : List Int), l.Pairwise (· < ·) → m.Pairwise (· < ·) → (∀ b, b ∈ l ↔ b ∈ m) → l = m
  | [], [], _, _, _ => rfl
  | [], y :: m, _, _, h => by have := (h y).2 (by simp); cases this
  | x :: l, [], _, _, h => by have := (h x).1 (by simp); cases this
  | x :: l, y :: m, hl, hm, h => by
    rw [List.pairwise_cons] at hl hm
    have hxy : x = y := by
      have h1 := (h x).1 (by simp)
      have h2 := (h y).2 (by simp)
      rcases List.mem_cons.1 h1 with h1 | h1
      · exact h1
      · rcases List.mem_cons.1 h2 with h2 | h2
        · exact h2.symm
        · have := hl.1 y h2
          have := hm.1 x h1
          omega
    subst hxy
    rw [rising_unique l m hl.2 hm.2 (fun b => by
      constructor
      · intro hb
        rcases List.mem_cons.1 ((h b).1 (List.mem_cons_of_mem _ hb)) with e | e
        · have := hl.1 b hb; omega
        · exact e
      · intro hb
        rcases List.mem_cons.1 ((h b).2 (List.mem_cons_of_mem _ hb)) with e | e
        · have := hm.1 b hb; omega
        · exact e)]

theorem keeps_iff (d : Array Int) (j : Nat) : Lib.keeps d j = true ↔ j = 0 ∨ d[j]! ≠ d[j - 1]! := by
  simp [Lib.keeps]
theorem compact_rising (zs : List Int) (h : zs.Pairwise (· ≤ ·)) : (Lib.compact zs).Pairwise (· < ·) ∧ ∀ b, b ∈ Lib.compact zs ↔ b ∈ zs := by
  have hg : ∀ j, j < zs.length → zs.toArray[j]! = zs.getD j 0 := fun j hj => by simp [List.getD]
  have hle : ∀ i j, i ≤ j → j < zs.length → zs.toArray[i]! ≤ zs.toArray[j]! := by
    intro i j hij hj
    rcases Nat.lt_or_eq_of_le hij with hij | rfl
    · rw [hg i (by omega), hg j hj]
      have := List.pairwise_iff_getElem.1 h i j (by omega) hj hij
      simpa [List.getD, List.getElem?_eq_getElem hj, List.getElem?_eq_getElem (show i < zs.length by omega)] using this
    · exact Int.le_refl _
  unfold Lib.compact Lib.compactUpTo
  refine ⟨?_, fun b => ?_⟩
  · rw [List.pairwise_map]
    have h1 : (List.range zs.length).Pairwise (· < ·) := List.pairwise_lt_range
    have h2 : ((List.range zs.length).filter (Lib.keeps zs.toArray)).Pairwise (· < ·) := h1.filter _
    refine (List.Pairwise.imp_of_mem ?_ h2)
    intro i j hi hj hij
    rw [List.mem_filter] at hi hj
    have hjl : j < zs.length := by simpa using hj.1
    rcases (keeps_iff _ _).1 hj.2 with h0 | hne
    · omega
    · have a := hle i (j - 1) (by omega) (by omega)
      have b := hle (j - 1) j (by omega) hjl
      omega
  · rw [List.mem_map]
    constructor
    · rintro ⟨j, hj, rfl⟩
      rw [List.mem_filter] at hj
      have hjl : j < zs.length := by simpa using hj.1
      rw [hg j hjl, List.getD, List.getElem?_eq_getElem hjl]
      exact List.getElem_mem _
    · intro hb
      obtain ⟨j, hj, e⟩ := List.getElem_of_mem hb
      have : ∀ n j, j ≤ n → (hj : j < zs.length) → zs.toArray[j]! = b → ∃ k, k ∈ (List.range zs.length).filter (Lib.keeps zs.toArray) ∧ zs.toArray[k]! = b := by
        intro n
        induction n with
        | zero =>
          intro j hn hj e
          exact ⟨j, List.mem_filter.2 ⟨by simpa using hj, (keeps_iff _ _).2 (.inl (by omega))⟩, e⟩
        | succ n ih =>
          intro j hn hj e
          by_cases hk : Lib.keeps zs.toArray j = true
          · exact ⟨j, List.mem_filter.2 ⟨by simpa using hj, hk⟩, e⟩
          · have hk' := fun h => hk ((keeps_iff _ _).2 h)
            have hj0 : j ≠ 0 := fun h => hk' (.inl h)
            have he : zs.toArray[j]! = zs.toArray[j - 1]! := Classical.byContradiction fun h => hk' (.inr h)
            exact ih (j - 1) (by omega) (by omega) (he.symm.trans e)
      obtain ⟨k, hk, ek⟩ := this j j (Nat.le_refl _) hj (by rw [hg j hj, List.getD, List.getElem?_eq_getElem hj]; exact e)
      exact ⟨k, hk, ek⟩

/-- the cuts of times, in their order, each as often as it comes -/
def cutF (newest wd : Int) (ts : List Int) : List Int := (ts.map fun t => floorZ t wd).filter fun b => decide (b + wideT wd ≤ clampT newest - wideT wd / 2)
/-- the document's cuts -/
def IsCuts (ts : List Int) (newest wd : Int) (l : List Int) : Prop := l.Pairwise (· < ·) ∧ ∀ b, b ∈ l ↔ (wideT wd < 36028797018963968 ∧ b ∈ cutF newest wd ts)
theorem IsCuts.unique {ts : List Int} {newest wd : Int} {l m : List Int} (h : IsCuts ts newest wd l) (k : IsCuts ts newest wd m) : l = m :=
  rising_unique l m h.1 k.1 fun b => (h.2 b).trans (k.2 b).symm
theorem IsCuts.nil {ts : List Int} {newest wd : Int} (h : 36028797018963968 ≤ wideT wd) : IsCuts ts newest wd [] :=
  ⟨List.Pairwise.nil, fun b => ⟨fun hb => (by cases hb), fun hb => by omega⟩⟩
theorem wideT_idem (wd : Int) : wideT (wideT wd) = wideT wd := by unfold wideT; omega
theorem floorZ_wide (t wd : Int) : floorZ t (wideT wd) = floorZ t wd := by unfold floorZ; rw [wideT_idem]
theorem sort_rising (l : List Int) : (Lib.compact (l.mergeSort fun x y => decide (x ≤ y))).Pairwise (· < ·) ∧ ∀ b, b ∈ Lib.compact (l.mergeSort fun x y => decide (x ≤ y)) ↔ b ∈ l := by
  have h := compact_rising (l.mergeSort fun x y => decide (x ≤ y)) (by
    have h1 := List.pairwise_mergeSort (le := fun x y : Int => decide (x ≤ y)) (fun a b c hab hbc => by simp at *; omega) (fun a b => by simp; omega) l
    exact h1.imp (fun h => by simpa using h))
  exact ⟨h.1, fun b => (h.2 b).trans List.mem_mergeSort⟩
theorem IsCuts.of_sort {ts : List Int} {newest wd : Int} (h : wideT wd < 36028797018963968) : IsCuts ts newest wd (Lib.compact ((cutF newest wd ts).mergeSort fun x y => decide (x ≤ y))) :=
  ⟨(sort_rising _).1, fun b => ((sort_rising _).2 b).trans ⟨fun hb => ⟨h, hb⟩, fun hb => hb.2⟩⟩
end Go.Proofs.Ytnglejopbpnknaa
