/- Plain mathematics of the chunk codec: whole rows of samples are read back as they were written; prefixes; steady rows. No program is in sight here. -/
import Derived.Test.YtjlfkdopkhejbaaDoorCodec
namespace Go.Proofs.YtjlfkdopkhejbaaDoor
namespace Ck
open Go.RowKit

/-- a sample as Go has one -/
def Smp.ok (x : Smp) : Prop := (-9223372036854775808 ≤ x.t ∧ x.t ≤ 9223372036854775807) ∧ x.v < 2 ^ 64
def St.ok (s : St) : Prop := s.fits ∧ s.v < 2 ^ 64

theorem St.zero_ok : St.zero.ok := ⟨fun h => by simp [St.zero] at h, by decide⟩

theorem valueBits_same (s : St) (x : Nat) : (valueBits s x).2.n = s.n ∧ (valueBits s x).2.t = s.t ∧ (valueBits s x).2.delta = s.delta ∧ (valueBits s x).2.v = s.v := by
  unfold valueBits
  split
  · exact ⟨rfl, rfl, rfl, rfl⟩
  · split <;> exact ⟨rfl, rfl, rfl, rfl⟩

theorem appendBits_ok (s : St) (x : Smp) (hs : s.ok) (hx : x.ok) : (appendBits s x).2.ok := by
  unfold appendBits
  split
  · exact ⟨fun h => hs.1 h, hx.2⟩
  · exact ⟨valueBits_fits s _ hs.1 (Nat.xor_lt_two_pow hx.2 hs.2), hx.2⟩
theorem encSt_ok (s : St) (l : List Smp) (hs : s.ok) (hl : ∀ x ∈ l, x.ok) : (encSt s l).ok := by
  induction l generalizing s with
  | nil => exact hs
  | cons x l ih => exact ih _ (appendBits_ok s x hs (hl x (by simp))) (fun y hy => hl y (by simp [hy]))
theorem appendBits_n (s : St) (x : Smp) : (appendBits s x).2.n = s.n + 1 := by unfold appendBits; split <;> rfl

theorem back_delta (d D : Int) (hD : -9223372036854775808 ≤ D ∧ D ≤ 9223372036854775807) : wrap64 (d + wrap64 (D - d)) = D := by unfold wrap64; omega
theorem back_xor (a b : Nat) : b ^^^ (a ^^^ b) = a := by rw [Nat.xor_comm a b, ← Nat.xor_assoc, Nat.xor_self, Nat.zero_xor]

theorem next_read {rb : List Bool} {r : Rd} {x : Smp} {rest : List Bool} (h : Rest rb r.pos ((appendBits r.s x).1 ++ rest)) (hs : r.s.ok) (hx : x.ok) :
    nextR rb r = { r with s := (appendBits r.s x).2, pos := r.pos + (appendBits r.s x).1.length } ∧ Rest rb (r.pos + (appendBits r.s x).1.length) rest := by
  unfold appendBits at h ⊢
  split at h
  · rename_i h0
    rw [if_pos h0]
    simp only [List.append_assoc] at h
    obtain ⟨a1, b1⟩ := get_bits h (u64_lt _)
    have b1' : Rest rb ({ r with pos := r.pos + 64 } : Rd).pos (bitsOf x.v 64 ++ rest) := b1
    obtain ⟨a2, b2⟩ := get_bits b1' hx.2
    unfold nextR
    rw [if_pos h0]
    simp only [a1, a2, List.length_append, bitsOf_length, wrap_u64 x.t hx.1]
    exact ⟨trivial, b2⟩
  · rename_i h0
    rw [if_neg h0]
    simp only [List.append_assoc] at h
    obtain ⟨a1, b1⟩ := dod_read h (wrap64_range _)
    have hxv : x.v ^^^ r.s.v < 2 ^ 64 := Nat.xor_lt_two_pow hx.2 hs.2
    generalize hL : (dodBits (wrap64 (wrap64 (x.t - r.s.t) - r.s.delta))).length = L at *
    have b1' : Rest rb ({ r with pos := r.pos + L } : Rd).pos ((valueBits ({ r with pos := r.pos + L } : Rd).s (x.v ^^^ r.s.v)).1 ++ rest) := b1
    obtain ⟨a2, b2⟩ := value_read b1' hs.1 hxv
    have hsame := valueBits_same r.s (x.v ^^^ r.s.v)
    unfold nextR
    rw [if_neg h0]
    simp only [a1, a2, List.length_append, hL]
    rw [back_delta _ _ (wrap64_range _), back_delta _ _ hx.1, back_xor]
    refine ⟨?_, ?_⟩
    · rw [Nat.add_assoc]
    · rw [← Nat.add_assoc]; exact b2

theorem dec_read {rb : List Bool} (l : List Smp) (hl : ∀ x ∈ l, x.ok) : ∀ {r : Rd} {rest : List Bool}, Rest rb r.pos (encBits r.s l ++ rest) → r.s.ok → r.short = false → decGo rb l.length r = l := by
  induction l with
  | nil => intros; rfl
  | cons x l ih =>
    intro r rest h hs hsh
    simp only [encBits, List.append_assoc] at h
    obtain ⟨a1, b1⟩ := next_read h hs (hl x (by simp))
    rw [List.length_cons, decGo, a1]
    rw [if_neg (by simp [hsh])]
    have ht : (appendBits r.s x).2.t = x.t ∧ (appendBits r.s x).2.v = x.v := by unfold appendBits; split <;> exact ⟨rfl, rfl⟩
    simp only [ht.1, ht.2]
    congr 1
    exact ih (fun y hy => hl y (by simp [hy])) (r := { r with s := (appendBits r.s x).2, pos := r.pos + (appendBits r.s x).1.length }) b1 (appendBits_ok _ _ hs (hl x (by simp))) hsh

theorem chunkOf_length (l : List Smp) : 2 ≤ (chunkOf l).length := by simp [chunkOf]
theorem chunkOf_lt (l : List Smp) : ∀ b ∈ chunkOf l, b < 256 := by
  intro b hb
  simp only [chunkOf, List.cons_append, List.nil_append, List.mem_cons] at hb
  rcases hb with rfl | rfl | hb
  · omega
  · omega
  · exact pack_lt _ b hb

/-- P5.3: WHAT IS WRITTEN IS READ. -/
theorem allOf_chunkOf (l : List Smp) (hl : ∀ x ∈ l, x.ok) (hn : l.length < 65536) : allOf (chunkOf l) = l := by
  unfold allOf
  rw [if_neg (by have := chunkOf_length l; omega)]
  have e1 : (chunkOf l).drop 2 = pack (encBits St.zero l) := rfl
  have e2 : (chunkOf l).getD 0 0 * 256 + (chunkOf l).getD 1 0 = l.length := by
    show l.length / 256 % 256 * 256 + l.length % 256 = l.length
    omega
  rw [e1, e2]
  refine dec_read l hl (r := Rd.zero) (rest := List.replicate (8 * (((encBits St.zero l).length + 7) / 8) - (encBits St.zero l).length) false) ⟨Nat.zero_le _, ?_⟩ St.zero_ok rfl
  rw [ofBytes_pack]
  rfl

theorem decode_chunkOf (l : List Smp) (hl : ∀ x ∈ l, x.ok) (hn : l.length ≤ 120) : decode (chunkOf l) = some l := by
  unfold decode
  rw [allOf_chunkOf l hl (by omega), List.take_of_length_le hn, if_pos rfl]

theorem chunkOf_inj (a b : List Smp) (ha : ∀ x ∈ a, x.ok) (hb : ∀ x ∈ b, x.ok) (na : a.length ≤ 120) (nb : b.length ≤ 120) (h : chunkOf a = chunkOf b) : a = b := by
  have h1 := decode_chunkOf a ha na
  rw [h, decode_chunkOf b hb nb] at h1
  exact (Option.some.inj h1).symm

/-! ### A row of samples that begins another -/
theorem pack_prefix (a b : List Bool) (i : Nat) (h : 8 * i + 8 ≤ a.length) : pbyte (a ++ b) i = pbyte a i := by
  apply Nat.eq_of_testBit_eq
  intro t
  rw [pbyte_testBit, pbyte_testBit]
  by_cases ht : t < 8
  · rw [List.getD_eq_getElem?_getD, List.getD_eq_getElem?_getD, List.getElem?_append_left (by omega)]
  · simp [ht]

/-- the whole bytes of a row are the first of whatever row it begins -/
theorem pack_take (a b : List Bool) (n : Nat) (h : 8 * n ≤ a.length) : (pack (a ++ b)).take n = (pack a).take n := by
  apply List.ext_getElem?
  intro i
  rw [List.getElem?_take, List.getElem?_take]
  split
  · rename_i hi
    simp only [pack, List.getElem?_map]
    rw [List.getElem?_range (by simp; omega), List.getElem?_range (by omega)]
    simp only [Option.map_some]
    rw [pack_prefix a b i (by omega)]
  · rfl

/-! ### Rows of whole bytes -/
theorem pack_append (a b : List Bool) (h : a.length % 8 = 0) : pack (a ++ b) = pack a ++ pack b := by
  apply List.ext_getElem?
  intro i
  by_cases hi : i < a.length / 8
  · rw [List.getElem?_append_left (by rw [pack_length]; omega)]
    simp only [pack, List.getElem?_map]
    rw [List.getElem?_range (by simp; omega), List.getElem?_range (by omega)]
    simp only [Option.map_some]
    rw [pack_prefix a b i (by omega)]
  · rw [List.getElem?_append_right (by rw [pack_length]; omega), pack_length]
    by_cases h2 : i < (a ++ b).length / 8 + (if (a ++ b).length % 8 = 0 then 0 else 1)
    · have h3 : i < ((a ++ b).length + 7) / 8 := by split at h2 <;> omega
      have h4 : i - (a.length + 7) / 8 < (b.length + 7) / 8 := by simp only [List.length_append] at h3; omega
      simp only [pack, List.getElem?_map]
      rw [List.getElem?_range h3, List.getElem?_range h4]
      simp only [Option.map_some]
      congr 1
      apply Nat.eq_of_testBit_eq
      intro t
      rw [pbyte_testBit, pbyte_testBit]
      by_cases ht : t < 8
      · simp only [ht, decide_true, Bool.true_and]
        rw [List.getD_eq_getElem?_getD, List.getD_eq_getElem?_getD, List.getElem?_append_right (by omega)]
        congr 2
        omega
      · simp [ht]
    · have h3 : ((a ++ b).length + 7) / 8 ≤ i := by split at h2 <;> omega
      rw [List.getElem?_eq_none (by rw [pack_length]; exact h3), List.getElem?_eq_none (by rw [pack_length]; simp only [List.length_append] at h3; omega)]

end Ck
end Go.Proofs.YtjlfkdopkhejbaaDoor
