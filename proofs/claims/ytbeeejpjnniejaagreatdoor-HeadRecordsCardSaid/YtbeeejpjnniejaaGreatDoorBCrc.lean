/- A block's check and its numbers, plainly: the check tells one changed byte. -/
import Derived.Test.YtbeeejpjnniejaaGreatDoorJ00Lib
namespace Go.Proofs.YtbeeejpjnniejaaGreatDoor
open Go.RowKit
def crc1 (x : Nat) : Nat := (x >>> 1) ^^^ (3988292384 * (x &&& 1))
def crcK (x : Nat) : Nat → Nat
  | 0 => x
  | k + 1 => crc1 (crcK x k)
def crcStep (x : Nat) (b : UInt8) : Nat := crcK (x ^^^ b.toNat) 8
def crcL (l : List UInt8) : Nat := 4294967295 ^^^ l.foldl crcStep 4294967295
theorem crc1_lt {x : Nat} (h : x < 4294967296) : crc1 x < 4294967296 := by
  unfold crc1
  have h1 : x >>> 1 < 2 ^ 32 := by rw [Nat.shiftRight_eq_div_pow]; omega
  have h2 : 3988292384 * (x &&& 1) < 2 ^ 32 := by
    have : x &&& 1 ≤ 1 := Nat.and_le_right
    omega
  exact Nat.xor_lt_two_pow h1 h2
theorem crcK_lt {x : Nat} (h : x < 4294967296) : ∀ k, crcK x k < 4294967296
  | 0 => h
  | k + 1 => crc1_lt (crcK_lt h k)
theorem crcStep_lt {x : Nat} (h : x < 4294967296) (b : UInt8) : crcStep x b < 4294967296 := by
  unfold crcStep
  have hb := b.toNat_lt
  exact crcK_lt (Nat.xor_lt_two_pow (n := 32) h (by omega)) 8
theorem fold_lt : ∀ (l : List UInt8) (x : Nat), x < 4294967296 → l.foldl crcStep x < 4294967296
  | [], _, h => h
  | b :: l, _, h => fold_lt l _ (crcStep_lt h b)
theorem crcL_lt (l : List UInt8) : crcL l < 4294967296 := Nat.xor_lt_two_pow (n := 32) (by decide) (fold_lt l _ (by decide))
/-! the check tells one changed byte -/
theorem crc1_top {x : Nat} (h : x < 4294967296) : crc1 x / 2147483648 = x % 2 := by
  unfold crc1
  rw [Nat.shiftRight_eq_div_pow, Nat.and_one_is_mod]
  rcases Nat.mod_two_eq_zero_or_one x with e | e
  · rw [e, Nat.mul_zero, Nat.xor_zero]; omega
  · rw [e, Nat.mul_one]
    have h1 : x / 2 ^ 1 < 2 ^ 31 := by omega
    have h2 : (x / 2 ^ 1 ^^^ 3988292384) >>> 31 = (x / 2 ^ 1) >>> 31 ^^^ 3988292384 >>> 31 := Nat.shiftRight_xor_distrib
    rw [Nat.shiftRight_eq_div_pow, Nat.shiftRight_eq_div_pow, Nat.shiftRight_eq_div_pow] at h2
    have h3 : (x / 2 ^ 1) / 2 ^ 31 = 0 := by omega
    rw [h3] at h2
    exact h2
theorem crc1_inj {x y : Nat} (hx : x < 4294967296) (hy : y < 4294967296) (h : crc1 x = crc1 y) : x = y := by
  have e : x % 2 = y % 2 := by rw [← crc1_top hx, ← crc1_top hy, h]
  unfold crc1 at h
  rw [Nat.and_one_is_mod, Nat.and_one_is_mod, e] at h
  have h2 := congrArg (fun z => z ^^^ (3988292384 * (y % 2))) h
  simp only [Nat.xor_assoc, Nat.xor_self, Nat.xor_zero] at h2
  rw [Nat.shiftRight_eq_div_pow, Nat.shiftRight_eq_div_pow] at h2
  omega
theorem crcK_inj {x y : Nat} (hx : x < 4294967296) (hy : y < 4294967296) : ∀ k, crcK x k = crcK y k → x = y
  | 0, h => h
  | k + 1, h => crcK_inj hx hy k (crc1_inj (crcK_lt hx k) (crcK_lt hy k) h)
theorem xor_left_inj {a x y : Nat} (h : a ^^^ x = a ^^^ y) : x = y := by
  have h2 := congrArg (fun z => a ^^^ z) h
  simp only [← Nat.xor_assoc, Nat.xor_self, Nat.zero_xor] at h2
  exact h2
theorem xor_right_inj {a x y : Nat} (h : x ^^^ a = y ^^^ a) : x = y := xor_left_inj (a := a) (by rw [Nat.xor_comm a x, Nat.xor_comm a y]; exact h)
theorem crcStep_byte {x : Nat} (hx : x < 4294967296) {a b : UInt8} (h : crcStep x a = crcStep x b) : a = b := by
  unfold crcStep at h
  have ha := a.toNat_lt
  have hb := b.toNat_lt
  have h1 := crcK_inj (Nat.xor_lt_two_pow (n := 32) hx (by omega)) (Nat.xor_lt_two_pow (n := 32) hx (by omega)) 8 h
  exact UInt8.toNat_inj.1 (xor_left_inj h1)
theorem crcStep_st {x y : Nat} (hx : x < 4294967296) (hy : y < 4294967296) {a : UInt8} (h : crcStep x a = crcStep y a) : x = y := by
  unfold crcStep at h
  have ha := a.toNat_lt
  have h1 := crcK_inj (Nat.xor_lt_two_pow (n := 32) hx (by omega)) (Nat.xor_lt_two_pow (n := 32) hy (by omega)) 8 h
  exact xor_right_inj h1
theorem fold_inj : ∀ (l : List UInt8) {x y : Nat}, x < 4294967296 → y < 4294967296 → l.foldl crcStep x = l.foldl crcStep y → x = y
  | [], _, _, _, _, h => h
  | b :: l, _, _, hx, hy, h => crcStep_st hx hy (fold_inj l (crcStep_lt hx b) (crcStep_lt hy b) h)
theorem crc_byte {p q : List UInt8} {a b : UInt8} (h : crcL (p ++ a :: q) = crcL (p ++ b :: q)) : a = b := by
  unfold crcL at h
  have h1 := xor_left_inj h
  rw [List.foldl_append, List.foldl_append, List.foldl_cons, List.foldl_cons] at h1
  have hp := fold_lt p 4294967295 (by decide)
  exact crcStep_byte hp (fold_inj q (crcStep_lt hp a) (crcStep_lt hp b) h1)
def sumB (l : List UInt8) : Nat := l.length * 4294967296 + crcL l
theorem sum_byte {p q : List UInt8} {a b : UInt8} (h : sumB (p ++ a :: q) = sumB (p ++ b :: q)) : a = b := by
  unfold sumB at h
  rw [show (p ++ a :: q).length = (p ++ b :: q).length by simp] at h
  have h2 : crcL (p ++ a :: q) = crcL (p ++ b :: q) := by omega
  exact crc_byte h2
/-! numbers of eight bytes -/
def eightL (n : Nat) : List UInt8 := [UInt8.ofNat (n / 72057594037927936), UInt8.ofNat (n / 281474976710656), UInt8.ofNat (n / 1099511627776), UInt8.ofNat (n / 4294967296), UInt8.ofNat (n / 16777216), UInt8.ofNat (n / 65536), UInt8.ofNat (n / 256), UInt8.ofNat n]
def uneightL (l : List UInt8) : Nat := l.foldl (fun n b => n * 256 + b.toNat) 0
theorem eightL_len (n : Nat) : (eightL n).length = 8 := rfl
theorem ofNat_toNat (n : Nat) : (UInt8.ofNat n).toNat = n % 256 := by simp
theorem uneight_eight (n : Nat) (h : n < 18446744073709551616) : uneightL (eightL n) = n := by
  unfold uneightL eightL
  simp only [List.foldl_cons, List.foldl_nil, ofNat_toNat]
  omega
theorem uneight_inj {a b : List UInt8} (ha : a.length = 8) (hb : b.length = 8) (h : uneightL a = uneightL b) : a = b := by
  match a, b, ha, hb with
  | [a0, a1, a2, a3, a4, a5, a6, a7], [b0, b1, b2, b3, b4, b5, b6, b7], _, _ =>
    unfold uneightL at h
    simp only [List.foldl_cons, List.foldl_nil] at h
    have p0 := a0.toNat_lt; have p1 := a1.toNat_lt; have p2 := a2.toNat_lt; have p3 := a3.toNat_lt
    have p4 := a4.toNat_lt; have p5 := a5.toNat_lt; have p6 := a6.toNat_lt; have p7 := a7.toNat_lt
    have q0 := b0.toNat_lt; have q1 := b1.toNat_lt; have q2 := b2.toNat_lt; have q3 := b3.toNat_lt
    have q4 := b4.toNat_lt; have q5 := b5.toNat_lt; have q6 := b6.toNat_lt; have q7 := b7.toNat_lt
    have e0 : a0 = b0 := UInt8.toNat_inj.1 (by omega)
    have e1 : a1 = b1 := UInt8.toNat_inj.1 (by omega)
    have e2 : a2 = b2 := UInt8.toNat_inj.1 (by omega)
    have e3 : a3 = b3 := UInt8.toNat_inj.1 (by omega)
    have e4 : a4 = b4 := UInt8.toNat_inj.1 (by omega)
    have e5 : a5 = b5 := UInt8.toNat_inj.1 (by omega)
    have e6 : a6 = b6 := UInt8.toNat_inj.1 (by omega)
    have e7 : a7 = b7 := UInt8.toNat_inj.1 (by omega)
    rw [e0, e1, e2, e3, e4, e5, e6, e7]
theorem uneight_lt {a : List UInt8} (ha : a.length = 8) : uneightL a < 18446744073709551616 := by
  match a, ha with
  | [a0, a1, a2, a3, a4, a5, a6, a7], _ =>
    unfold uneightL
    simp only [List.foldl_cons, List.foldl_nil]
    have p0 := a0.toNat_lt; have p1 := a1.toNat_lt; have p2 := a2.toNat_lt; have p3 := a3.toNat_lt
    have p4 := a4.toNat_lt; have p5 := a5.toNat_lt; have p6 := a6.toNat_lt; have p7 := a7.toNat_lt
    omega
/-- an int's eight bytes, and back -/
def numB (n : Int) : List UInt8 := eightL (n % 18446744073709551616).toNat
def unnum (l : List UInt8) : Int := RowKit.wrap64 (uneightL l : Nat)
theorem numB_len (n : Int) : (numB n).length = 8 := rfl
def i64 (n : Int) : Prop := -9223372036854775808 ≤ n ∧ n ≤ 9223372036854775807
theorem unnum_num {n : Int} (h : i64 n) : unnum (numB n) = n := by
  unfold unnum numB
  obtain ⟨h1, h2⟩ := h
  rw [uneight_eight _ (by omega)]
  unfold RowKit.wrap64
  omega
theorem unnum_i64 (l : List UInt8) : i64 (unnum l) := by
  unfold unnum i64 RowKit.wrap64
  omega
theorem unnum_inj {a b : List UInt8} (ha : a.length = 8) (hb : b.length = 8) (h : unnum a = unnum b) : a = b := by
  have h1 := uneight_lt ha
  have h2 := uneight_lt hb
  unfold unnum RowKit.wrap64 at h
  exact uneight_inj ha hb (by omega)
end Go.Proofs.YtbeeejpjnniejaaGreatDoor
