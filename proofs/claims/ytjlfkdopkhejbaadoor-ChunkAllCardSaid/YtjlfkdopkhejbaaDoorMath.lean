/- Plain mathematics of the chunk codec: rows of bits, packing into bytes, a writer's and a reader's state machines. No program is in sight here. -/
import Derived.RowKit
import Derived.IntWalk
import Derived.Lib.TrailingZeros
namespace Go.Proofs.YtjlfkdopkhejbaaDoor
namespace Ck

/-! ### Rows of bits -/

/-- the number that a row of bits spells, the highest first -/
def val (l : List Bool) : Nat := l.foldl (fun x b => 2 * x + b.toNat) 0

/-- the lowest n bits of x, the highest first -/
def bitsOf (x n : Nat) : List Bool := (List.range n).map fun i => x.testBit (n - 1 - i)

theorem snoc_ind {α : Type} {p : List α → Prop} (h0 : p []) (h1 : ∀ l b, p l → p (l ++ [b])) (l : List α) : p l := by
  have h : ∀ n (l : List α), l.length = n → p l := by
    intro n
    induction n with
    | zero => intro l hl; rw [List.eq_nil_of_length_eq_zero hl]; exact h0
    | succ n ih =>
      intro l hl
      rcases List.eq_nil_or_concat l with rfl | ⟨l', b, rfl⟩
      · exact h0
      · rw [List.concat_eq_append] at hl ⊢
        exact h1 _ _ (ih _ (by simpa using hl))
  exact h _ l rfl

theorem val_nil : val [] = 0 := rfl
theorem val_snoc (l : List Bool) (b : Bool) : val (l ++ [b]) = 2 * val l + b.toNat := by simp [val, List.foldl_append]

theorem val_lt (l : List Bool) : val l < 2 ^ l.length := by
  induction l using snoc_ind with
  | h0 => simp [val]
  | h1 l b ih => rw [val_snoc, List.length_append]; simp only [List.length_cons, List.length_nil, Nat.pow_succ]; cases b <;> simp <;> omega

theorem val_testBit (l : List Bool) (t : Nat) : (val l).testBit t = (decide (t < l.length) && l.getD (l.length - 1 - t) false) := by
  induction l using snoc_ind generalizing t with
  | h0 => simp [val]
  | h1 l b ih =>
    rw [val_snoc]
    cases t with
    | zero =>
      cases b <;> simp [Nat.testBit_zero]
    | succ t =>
      rw [Nat.testBit_succ, show (2 * val l + b.toNat) / 2 = val l by cases b <;> simp <;> omega, ih]
      by_cases ht : t < l.length
      · simp only [ht, decide_true, Bool.true_and, List.length_append, List.length_cons, List.length_nil]
        have h1 : t + 1 < l.length + (0 + 1) := by omega
        simp only [h1, decide_true, Bool.true_and]
        rw [show l.length + (0 + 1) - 1 - (t + 1) = l.length - 1 - t by omega]
        rw [List.getD_eq_getElem?_getD, List.getD_eq_getElem?_getD, List.getElem?_append_left (by omega)]
      · simp [ht]

theorem bitsOf_length (x n : Nat) : (bitsOf x n).length = n := by simp [bitsOf]
theorem bitsOf_getD (x n i : Nat) (h : i < n) : (bitsOf x n).getD i false = x.testBit (n - 1 - i) := by simp [bitsOf, h]

theorem val_bitsOf (x n : Nat) (h : x < 2 ^ n) : val (bitsOf x n) = x := by
  apply Nat.eq_of_testBit_eq
  intro t
  rw [val_testBit, bitsOf_length]
  by_cases ht : t < n
  · rw [bitsOf_getD _ _ _ (by omega)]
    simp only [ht, decide_true, Bool.true_and]
    congr 1; omega
  · simp only [ht, decide_false, Bool.false_and]
    exact (Nat.testBit_lt_two_pow (Nat.lt_of_lt_of_le h (Nat.pow_le_pow_right (by omega) (by omega)))).symm

theorem bitsOf_zero (x : Nat) : bitsOf x 0 = [] := rfl
/-- one bit more, from the highest on -/
theorem bitsOf_cons (x k : Nat) : bitsOf x (k + 1) = x.testBit k :: bitsOf x k := by
  simp only [bitsOf, List.range_succ_eq_map, List.map_cons, List.map_map]
  congr 1
  apply List.map_congr_left
  intro i _
  simp only [Function.comp]
  congr 1; omega
theorem bitsOf_snoc (x n : Nat) : bitsOf x (n + 1) = bitsOf (x / 2) n ++ [x.testBit 0] := by
  apply List.ext_getElem?
  intro i
  by_cases hi : i < n
  · rw [List.getElem?_append_left (by rw [bitsOf_length]; exact hi)]
    simp only [bitsOf, List.getElem?_map]
    rw [List.getElem?_range (by omega), List.getElem?_range hi]
    simp only [Option.map_some]
    rw [show n + 1 - 1 - i = (n - 1 - i) + 1 by omega, Nat.testBit_succ]
  · rw [List.getElem?_append_right (by rw [bitsOf_length]; omega), bitsOf_length]
    by_cases h2 : i = n
    · subst h2; simp [bitsOf]
    · rw [List.getElem?_eq_none (by rw [bitsOf_length]; omega)]
      simp; omega
theorem bitsOf_val (l : List Bool) : bitsOf (val l) l.length = l := by
  apply List.ext_getElem?
  intro i
  by_cases hi : i < l.length
  · simp only [bitsOf, List.getElem?_map]
    rw [List.getElem?_range hi]
    simp only [Option.map_some]
    rw [val_testBit]
    have h1 : l.length - 1 - i < l.length := by omega
    simp only [h1, decide_true, Bool.true_and]
    rw [show l.length - 1 - (l.length - 1 - i) = i by omega, List.getD_eq_getElem?_getD, List.getElem?_eq_getElem hi]; rfl
  · rw [List.getElem?_eq_none (by rw [bitsOf_length]; omega), List.getElem?_eq_none (by omega)]

/-! ### Bits and bytes -/

/-- bit p of a row of bytes -/
def bitAt (bs : List Nat) (p : Nat) : Bool := (bs.getD (p / 8) 0).testBit (7 - p % 8)
/-- a row of bytes as bits -/
def ofBytes (bs : List Nat) : List Bool := (List.range (8 * bs.length)).map (bitAt bs)
/-- byte i of a row of bits, filled up with 0 -/
def pbyte (l : List Bool) (i : Nat) : Nat := val ((List.range 8).map fun j => l.getD (8 * i + j) false)
/-- a row of bits as bytes, filled up with 0 -/
def pack (l : List Bool) : List Nat := (List.range ((l.length + 7) / 8)).map (pbyte l)

theorem ofBytes_length (bs : List Nat) : (ofBytes bs).length = 8 * bs.length := by simp [ofBytes]
theorem ofBytes_get (bs : List Nat) (p : Nat) (h : p < 8 * bs.length) : (ofBytes bs)[p]? = some (bitAt bs p) := by
  simp only [ofBytes, List.getElem?_map]; rw [List.getElem?_range h]; rfl
theorem pack_length (l : List Bool) : (pack l).length = (l.length + 7) / 8 := by simp [pack]
theorem pbyte_lt (l : List Bool) (i : Nat) : pbyte l i < 256 := by
  have := val_lt ((List.range 8).map fun j => l.getD (8 * i + j) false)
  simpa [pbyte] using this
theorem pack_lt (l : List Bool) : ∀ b ∈ pack l, b < 256 := by
  intro b hb
  obtain ⟨i, _, rfl⟩ := List.mem_map.1 hb
  exact pbyte_lt l i
theorem pack_getD (l : List Bool) (i : Nat) (h : i < (l.length + 7) / 8) : (pack l).getD i 0 = pbyte l i := by simp [pack, h]
theorem pbyte_testBit (l : List Bool) (i t : Nat) : (pbyte l i).testBit t = (decide (t < 8) && l.getD (8 * i + (7 - t)) false) := by
  unfold pbyte
  rw [val_testBit]
  simp only [List.length_map, List.length_range]
  by_cases ht : t < 8
  · simp only [ht, decide_true, Bool.true_and]
    have h7 : 8 - 1 - t < 8 := by omega
    simp [h7]
  · simp [ht]

theorem ofBytes_pack (l : List Bool) : ofBytes (pack l) = l ++ List.replicate (8 * ((l.length + 7) / 8) - l.length) false := by
  apply List.ext_getElem?
  intro p
  by_cases hp : p < 8 * ((l.length + 7) / 8)
  · rw [ofBytes_get _ _ (by rw [pack_length]; exact hp)]
    unfold bitAt
    rw [pack_getD _ _ (by omega), pbyte_testBit]
    have h7 : 7 - p % 8 < 8 := by omega
    simp only [h7, decide_true, Bool.true_and]
    rw [show 8 * (p / 8) + (7 - (7 - p % 8)) = p by omega]
    by_cases hl : p < l.length
    · rw [List.getElem?_append_left hl, List.getD_eq_getElem?_getD, List.getElem?_eq_getElem hl]; rfl
    · rw [List.getElem?_append_right (by omega), List.getElem?_replicate, if_pos (by omega), List.getD_eq_getElem?_getD, List.getElem?_eq_none (by omega)]; rfl
  · rw [List.getElem?_eq_none (by rw [ofBytes_length, pack_length]; omega), List.getElem?_eq_none (by simp; omega)]

theorem bytes_ext (a b : List Nat) (ha : ∀ x ∈ a, x < 256) (hb : ∀ x ∈ b, x < 256) (h : ofBytes a = ofBytes b) : a = b := by
  have hl : a.length = b.length := by have := congrArg List.length h; rw [ofBytes_length, ofBytes_length] at this; omega
  apply List.ext_getElem hl
  intro i h1 h2
  apply Nat.eq_of_testBit_eq
  intro t
  have la := ha _ (List.getElem_mem h1)
  have lb := hb _ (List.getElem_mem h2)
  by_cases ht : t < 8
  · have e : (ofBytes a)[8 * i + (7 - t)]? = (ofBytes b)[8 * i + (7 - t)]? := by rw [h]
    rw [ofBytes_get _ _ (by omega), ofBytes_get _ _ (by omega)] at e
    have e := Option.some.inj e
    unfold bitAt at e
    rw [show (8 * i + (7 - t)) / 8 = i by omega, show 7 - (8 * i + (7 - t)) % 8 = t by omega] at e
    simpa [h1, h2] using e
  · have h256 : (256 : Nat) ≤ 2 ^ t := by
      have : (2 : Nat) ^ 8 ≤ 2 ^ t := Nat.pow_le_pow_right (by omega) (by omega)
      simpa using this
    rw [Nat.testBit_lt_two_pow (by omega), Nat.testBit_lt_two_pow (by omega)]

theorem pack_inj (a b : List Bool) (hl : a.length = b.length) (h : pack a = pack b) : a = b := by
  have e := congrArg ofBytes h
  rw [ofBytes_pack, ofBytes_pack, hl] at e
  exact (List.append_inj e hl).1

theorem pack_nil : pack [] = [] := rfl

theorem getD_snoc (l : List Bool) (b : Bool) (p : Nat) : (l ++ [b]).getD p false = if p = l.length then b else l.getD p false := by
  rw [List.getD_eq_getElem?_getD, List.getD_eq_getElem?_getD]
  rcases Nat.lt_trichotomy p l.length with h | h | h
  · rw [List.getElem?_append_left h, if_neg (by omega)]
  · subst h; simp
  · rw [List.getElem?_append_right (by omega), if_neg (by omega), List.getElem?_eq_none (l := [b]) (by simp; omega), List.getElem?_eq_none (by omega)]

/-- ONE BIT MORE, THE BYTE IT FALLS IN: the byte that was there, or 0, with the bit set in. -/
theorem pbyte_snoc_at (l : List Bool) (b : Bool) : pbyte (l ++ [b]) (l.length / 8) = pbyte l (l.length / 8) ||| b.toNat * 2 ^ (7 - l.length % 8) := by
  apply Nat.eq_of_testBit_eq
  intro t
  rw [Nat.testBit_or, pbyte_testBit, pbyte_testBit, getD_snoc, Nat.testBit_mul_two_pow]
  by_cases ht : t < 8
  · simp only [ht, decide_true, Bool.true_and]
    by_cases he : 8 * (l.length / 8) + (7 - t) = l.length
    · rw [if_pos he, he, List.getD_eq_getElem?_getD, List.getElem?_eq_none (by omega)]
      have e1 : t = 7 - l.length % 8 := by omega
      subst e1
      cases b <;> simp
    · rw [if_neg he]
      have : (decide (7 - l.length % 8 ≤ t) && b.toNat.testBit (t - (7 - l.length % 8))) = false := by
        by_cases h1 : 7 - l.length % 8 ≤ t
        · have h2 : t - (7 - l.length % 8) ≠ 0 := by omega
          obtain ⟨q, hq⟩ := Nat.exists_eq_succ_of_ne_zero h2
          rw [hq]
          cases b <;> simp [Nat.testBit_succ]
        · simp [h1]
      rw [this, Bool.or_false]
  · simp only [ht, decide_false, Bool.false_and, Bool.false_or]
    have h2 : t - (7 - l.length % 8) ≠ 0 := by omega
    obtain ⟨q, hq⟩ := Nat.exists_eq_succ_of_ne_zero h2
    rw [hq]
    cases b <;> simp [Nat.testBit_succ]

theorem pbyte_snoc_other (l : List Bool) (b : Bool) (i : Nat) (h : i ≠ l.length / 8) : pbyte (l ++ [b]) i = pbyte l i := by
  apply Nat.eq_of_testBit_eq
  intro t
  rw [pbyte_testBit, pbyte_testBit, getD_snoc]
  by_cases ht : t < 8
  · rw [if_neg (by omega)]
  · simp [ht]

theorem pbyte_fresh (l : List Bool) (i : Nat) (h : l.length ≤ 8 * i) : pbyte l i = 0 := by
  apply Nat.eq_of_testBit_eq
  intro t
  rw [pbyte_testBit, List.getD_eq_getElem?_getD, List.getElem?_eq_none (by omega)]
  simp

/-- where a byte is begun, 0 comes behind: the row as the loop's first half leaves it -/
def opened (l : List Bool) : List Nat := if l.length % 8 = 0 then pack l ++ [0] else pack l

theorem opened_length (l : List Bool) : (opened l).length = l.length / 8 + 1 := by
  unfold opened
  split
  · rw [List.length_append, pack_length]; simp; omega
  · rw [pack_length]; omega
theorem opened_at (l : List Bool) : (opened l).getD (l.length / 8) 0 = pbyte l (l.length / 8) := by
  unfold opened
  split
  · rename_i h
    rw [pbyte_fresh l _ (by omega), List.getD_eq_getElem?_getD, List.getElem?_append_right (by rw [pack_length]; omega), pack_length]
    rw [show l.length / 8 - (l.length + 7) / 8 = 0 by omega]; rfl
  · exact pack_getD l _ (by omega)
theorem opened_set (l : List Bool) (b : Bool) : (opened l).set (l.length / 8) (pbyte l (l.length / 8) ||| b.toNat * 2 ^ (7 - l.length % 8)) = pack (l ++ [b]) := by
  apply List.ext_getElem?
  intro i
  have hlen := opened_length l
  have hp : (pack (l ++ [b])).length = l.length / 8 + 1 := by rw [pack_length]; simp; omega
  by_cases hi : i < l.length / 8 + 1
  · have hpi : (pack (l ++ [b]))[i]? = some (pbyte (l ++ [b]) i) := by
      simp only [pack, List.getElem?_map]
      rw [List.getElem?_range (by simp; omega)]; rfl
    rw [hpi, List.getElem?_set]
    by_cases he : l.length / 8 = i
    · subst he
      rw [if_pos rfl, if_pos (by omega), pbyte_snoc_at]
    · rw [if_neg he, pbyte_snoc_other _ _ _ (Ne.symm he)]
      unfold opened
      have hi2 : i < (pack l).length := by rw [pack_length]; omega
      have hpl : (pack l)[i]? = some (pbyte l i) := by
        simp only [pack, List.getElem?_map]
        rw [List.getElem?_range (by rw [pack_length] at hi2; exact hi2)]; rfl
      split
      · rw [List.getElem?_append_left hi2, hpl]
      · exact hpl
  · rw [List.getElem?_eq_none (by simp; omega), List.getElem?_eq_none (by omega)]

end Ck
end Go.Proofs.YtjlfkdopkhejbaaDoor
