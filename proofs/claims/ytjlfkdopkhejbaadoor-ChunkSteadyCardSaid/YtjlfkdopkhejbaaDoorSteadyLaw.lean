/- The plain law of ChunkSteady: what steady samples take. -/
import Derived.Test.YtjlfkdopkhejbaaDoorBytes
namespace Go.Proofs.YtjlfkdopkhejbaaDoor
open Go.RowKit Ck

theorem wrap64_keeps (n : Int) (h : -9223372036854775808 ≤ n ∧ n ≤ 9223372036854775807) : wrap64 n = n := by unfold wrap64; omega

/-- k samples a step d apart -/
def steadyL (f d : Int) (v : Nat) (k : Nat) : List Smp := (List.range k).map fun i : Nat => ⟨f + (i : Int) * d, v⟩

theorem steadyL_length (f d : Int) (v k : Nat) : (steadyL f d v k).length = k := by simp [steadyL]
theorem steadyL_succ (f d : Int) (v k : Nat) : steadyL f d v (k + 1) = steadyL f d v k ++ [⟨f + (k : Int) * d, v⟩] := by simp [steadyL, List.range_succ]
theorem steadyL_take (f d : Int) (v k n : Nat) (h : n ≤ k) : (steadyL f d v k).take n = steadyL f d v n := by
  unfold steadyL
  rw [← List.map_take, List.take_range, Nat.min_eq_left h]

theorem mul_small (i : Nat) (d : Int) (hi : i ≤ 120) (hd : 0 ≤ d ∧ d < 1099511627776) : 0 ≤ (i : Int) * d ∧ (i : Int) * d ≤ 131941395333120 := by
  have h1 : 0 ≤ (i : Int) * d := Int.mul_nonneg (by omega) hd.1
  have h2 : (i : Int) * d ≤ 120 * d := Int.mul_le_mul_of_nonneg_right (by omega) hd.1
  omega

theorem steadyL_ok (f d : Int) (v k : Nat) (hk : k ≤ 120) (hf : 0 ≤ f ∧ f < 1125899906842624) (hd : 0 ≤ d ∧ d < 1099511627776) (hv : v < 2 ^ 64) : ∀ x ∈ steadyL f d v k, x.ok := by
  intro x hx
  unfold steadyL at hx
  obtain ⟨i, hi, rfl⟩ := List.mem_map.1 hx
  have hi := List.mem_range.1 hi
  have := mul_small i d (by omega) hd
  exact ⟨by simp only; omega, hv⟩

/-- the state behind k of them, k at least 2 -/
theorem steady_more (f d : Int) (v : Nat) (_hf : 0 ≤ f ∧ f < 1125899906842624) (hd : 0 ≤ d ∧ d < 1099511627776) : ∀ k : Nat, k + 2 ≤ 120 →
    (encSt St.zero (steadyL f d v (k + 2))).t = f + ((k + 1 : Nat) : Int) * d ∧ (encSt St.zero (steadyL f d v (k + 2))).delta = d ∧ (encSt St.zero (steadyL f d v (k + 2))).v = v ∧
    (encBits St.zero (steadyL f d v (k + 2))).length = (encBits St.zero (steadyL f d v 2)).length + 2 * k := by
  intro k
  induction k with
  | zero =>
    intro _
    have e : steadyL f d v (0 + 2) = [⟨f, v⟩, ⟨f + d, v⟩] := by simp [steadyL, List.range_succ]
    rw [e]
    refine ⟨by simp [encSt, appendBits, St.zero], ?_, by simp [encSt, appendBits, St.zero], by simp⟩
    simp only [encSt, appendBits, St.zero, if_true, Nat.zero_add, Nat.one_ne_zero, if_false]
    rw [show f + d - f = d by omega]
    exact wrap64_keeps d (by omega)
  | succ k ih =>
    intro hk
    obtain ⟨h1, h2, h3, h4⟩ := ih (by omega)
    rw [show k + 1 + 2 = k + 2 + 1 by omega, steadyL_succ, encSt_append, encBits_append, List.length_append, h4]
    have hn : (encSt St.zero (steadyL f d v (k + 2))).n = k + 2 := by rw [encSt_n, steadyL_length]; simp [St.zero]
    obtain ⟨s, hs⟩ : ∃ s, s = encSt St.zero (steadyL f d v (k + 2)) := ⟨_, rfl⟩
    rw [← hs] at h1 h2 h3 hn ⊢
    have e0 : ((k + 2 : Nat) : Int) * d = ((k + 1 : Nat) : Int) * d + d := by
      rw [show ((k + 2 : Nat) : Int) = ((k + 1 : Nat) : Int) + 1 by omega, Int.add_mul, Int.one_mul]
    have e1 : f + ((k + 2 : Nat) : Int) * d - s.t = d := by
      rw [h1]
      omega
    have e2 : wrap64 (f + ((k + 2 : Nat) : Int) * d - s.t) = d := by rw [e1]; exact wrap64_keeps d (by omega)
    have ea : appendBits s ⟨f + ((k + 2 : Nat) : Int) * d, v⟩ = ([false, false], { s with n := s.n + 1, t := f + ((k + 2 : Nat) : Int) * d, delta := d, v := v }) := by
      unfold appendBits
      rw [if_neg (by omega)]
      simp only
      have ev : valueBits s 0 = (bitsOf 0 1, s) := by unfold valueBits; rw [if_pos rfl]
      have ed : dodBits (wrap64 0) = bitsOf 0 1 := by unfold dodBits; rw [if_pos (wrap64_keeps 0 (by omega))]
      rw [e2, h2, h3, Int.sub_self, Nat.xor_self, ev, ed]
      rfl
    simp only [encSt, encBits, ea, List.append_nil, List.length_cons, List.length_nil]
    exact ⟨trivial, trivial, trivial, by omega⟩

theorem steady_law (f d : Int) (v k : Nat) (hk : 2 ≤ k ∧ k ≤ 120) (hf : 0 ≤ f ∧ f < 1125899906842624) (hd : 0 ≤ d ∧ d < 1099511627776) :
    bitsN (steadyL f d v 1) = 144 ∧ 146 ≤ bitsN (steadyL f d v 2) ∧ bitsN (steadyL f d v 2) ≤ 213 ∧ bitsN (steadyL f d v k) = bitsN (steadyL f d v 2) + 2 * (k - 2) := by
  have hb : ∀ j, j ≤ 120 → bitsN (steadyL f d v j) = 16 + (encBits St.zero (steadyL f d v j)).length := fun j hj => by unfold bitsN; rw [if_pos (by rw [steadyL_length]; exact hj)]
  rw [hb 1 (by omega), hb 2 (by omega), hb k hk.2]
  obtain ⟨j, rfl⟩ : ∃ j, k = j + 2 := ⟨k - 2, by omega⟩
  have h4 := (steady_more f d v hf hd j (by omega)).2.2.2
  have e1 : (encBits St.zero (steadyL f d v 1)).length = 128 := by
    have e : steadyL f d v 1 = [⟨f, v⟩] := by simp [steadyL, List.range_succ]
    rw [e]
    simp [encBits, appendBits, St.zero, bitsOf_length]
  have e2 : (encBits St.zero (steadyL f d v 2)).length = 128 + ((dodBits d).length + 1) := by
    have e : steadyL f d v 2 = [⟨f, v⟩, ⟨f + d, v⟩] := by simp [steadyL, List.range_succ]
    rw [e]
    have ed : wrap64 (wrap64 (f + d - f)) = d := by
      rw [show f + d - f = d by omega, wrap64_keeps d (by omega), wrap64_keeps d (by omega)]
    simp [encBits, appendBits, St.zero, bitsOf_length, valueBits, ed]
    omega
  have e3 : 1 ≤ (dodBits d).length ∧ (dodBits d).length ≤ 68 := by
    unfold dodBits
    split
    · simp [bitsOf_length]
    · split
      · simp [bitsOf_length]
      · split
        · simp [bitsOf_length]
        · split
          · simp [bitsOf_length]
          · simp [bitsOf_length]
  omega
end Go.Proofs.YtjlfkdopkhejbaaDoor
