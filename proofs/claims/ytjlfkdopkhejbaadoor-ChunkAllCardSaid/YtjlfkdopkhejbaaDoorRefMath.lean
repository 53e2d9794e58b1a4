/- Plain mathematics: the document's own row of bits, packed, is the chunk. No program is in sight here. -/
import Derived.Test.YtjlfkdopkhejbaaDoorBack
namespace Go.Proofs.YtjlfkdopkhejbaaDoor
namespace Ck

/-- the document's row of bits: the count's, then the samples' -/
def refBits (l : List Smp) : List Bool := bitsOf l.length 16 ++ encBits St.zero l

theorem pack16 (n : Nat) : pack (bitsOf n 16) = [n / 256 % 256, n % 256] := by
  have e : pack (bitsOf n 16) = [pbyte (bitsOf n 16) 0, pbyte (bitsOf n 16) 1] := by
    unfold pack
    rw [bitsOf_length]
    rfl
  rw [e]
  have h0 : pbyte (bitsOf n 16) 0 = n / 256 % 256 := by
    apply Nat.eq_of_testBit_eq
    intro t
    rw [pbyte_testBit, show (256 : Nat) = 2 ^ 8 from rfl, Nat.testBit_mod_two_pow, Nat.testBit_div_two_pow]
    by_cases ht : t < 8
    · rw [bitsOf_getD _ _ _ (by omega)]
      simp only [ht, decide_true, Bool.true_and]
      congr 1
      omega
    · simp [ht]
  have h1 : pbyte (bitsOf n 16) 1 = n % 256 := by
    apply Nat.eq_of_testBit_eq
    intro t
    rw [pbyte_testBit, show (256 : Nat) = 2 ^ 8 from rfl, Nat.testBit_mod_two_pow]
    by_cases ht : t < 8
    · rw [bitsOf_getD _ _ _ (by omega)]
      simp only [ht, decide_true, Bool.true_and]
      congr 1
      omega
    · simp [ht]
  rw [h0, h1]

theorem pack_refBits (l : List Smp) : pack (refBits l) = chunkOf l := by
  unfold refBits chunkOf
  rw [pack_append _ _ (by rw [bitsOf_length]), pack16]

theorem refBits_length (l : List Smp) : (refBits l).length = 16 + (encBits St.zero l).length := by
  unfold refBits
  rw [List.length_append, bitsOf_length]
end Ck
end Go.Proofs.YtjlfkdopkhejbaaDoor
