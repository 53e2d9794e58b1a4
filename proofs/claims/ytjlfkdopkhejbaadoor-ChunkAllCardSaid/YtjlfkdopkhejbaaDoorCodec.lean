/- Plain mathematics of the chunk codec: the writer's and the reader's state machines, and that the one undoes the other. No program is in sight here. -/
import Derived.Test.YtjlfkdopkhejbaaDoorMath
import Derived.Lib.BitFns
namespace Go.Proofs.YtjlfkdopkhejbaaDoor
namespace Ck
open Go.RowKit

/-- a sample: its time; its value's bits -/
structure Smp where
  t : Int
  v : Nat
  deriving DecidableEq

/-- what a sample is written, or read, against -/
structure St where
  n : Nat
  t : Int
  delta : Int
  v : Nat
  lead : Int
  tail : Int
  opn : Bool

def St.zero : St := ⟨0, 0, 0, 0, 0, 0, false⟩

/-- an int64 as a uint64 -/
def u64 (x : Int) : Nat := (x % 18446744073709551616).toNat
def clz (x : Nat) : Nat := 64 - Lib.bitLen x
def ctz (x : Nat) : Nat := Lib.ctz 64 x

/-- the bits of a change of the step -/
def dodBits (x : Int) : List Bool :=
  if x = 0 then bitsOf 0 1
  else if -63 ≤ x ∧ x ≤ 64 then bitsOf 2 2 ++ bitsOf (x + 63).toNat 7
  else if -255 ≤ x ∧ x ≤ 256 then bitsOf 6 3 ++ bitsOf (x + 255).toNat 9
  else if -2047 ≤ x ∧ x ≤ 2048 then bitsOf 14 4 ++ bitsOf (x + 2047).toNat 12
  else bitsOf 15 4 ++ bitsOf (u64 x) 64

/-- the bits of what differs, and the window behind -/
def valueBits (s : St) (x : Nat) : List Bool × St :=
  if x = 0 then (bitsOf 0 1, s)
  else if s.opn = true ∧ s.lead ≤ (min (clz x) 31 : Nat) ∧ s.tail ≤ (ctz x : Nat) then
    (bitsOf 1 1 ++ (bitsOf 0 1 ++ bitsOf (x / 2 ^ s.tail.toNat) (64 - s.lead - s.tail).toNat), s)
  else
    (bitsOf 1 1 ++ (bitsOf 1 1 ++ (bitsOf (min (clz x) 31) 5 ++ (bitsOf (64 - (min (clz x) 31 : Nat) - (ctz x : Nat) - 1 : Int).toNat 6 ++ bitsOf (x / 2 ^ ctz x) (64 - (min (clz x) 31 : Nat) - (ctz x : Nat) : Int).toNat))),
      { s with lead := (min (clz x) 31 : Nat), tail := (ctz x : Nat), opn := true })

/-- the bits of a sample, and the state behind -/
def appendBits (s : St) (x : Smp) : List Bool × St :=
  if s.n = 0 then (bitsOf (u64 x.t) 64 ++ bitsOf x.v 64, { s with n := s.n + 1, t := x.t, v := x.v })
  else
    (dodBits (wrap64 (wrap64 (x.t - s.t) - s.delta)) ++ (valueBits s (x.v ^^^ s.v)).1,
      { (valueBits s (x.v ^^^ s.v)).2 with n := s.n + 1, t := x.t, delta := wrap64 (x.t - s.t), v := x.v })

def encBits : St → List Smp → List Bool
  | _, [] => []
  | s, x :: l => (appendBits s x).1 ++ encBits (appendBits s x).2 l
def encSt : St → List Smp → St
  | s, [] => s
  | s, x :: l => encSt (appendBits s x).2 l

theorem encBits_append (s : St) (l m : List Smp) : encBits s (l ++ m) = encBits s l ++ encBits (encSt s l) m := by
  induction l generalizing s with
  | nil => rfl
  | cons x l ih => simp [encBits, encSt, ih]
theorem encSt_append (s : St) (l m : List Smp) : encSt s (l ++ m) = encSt (encSt s l) m := by
  induction l generalizing s with
  | nil => rfl
  | cons x l ih => simp [encSt, ih]
theorem encSt_n (s : St) (l : List Smp) : (encSt s l).n = s.n + l.length := by
  induction l generalizing s with
  | nil => rfl
  | cons x l ih =>
    simp only [encSt, ih, List.length_cons]
    have : (appendBits s x).2.n = s.n + 1 := by unfold appendBits; split <;> rfl
    omega

/-- the chunk of samples, as bytes -/
def chunkOf (l : List Smp) : List Nat := [l.length / 256 % 256, l.length % 256] ++ pack (encBits St.zero l)

/-! ### The reader -/

structure Rd where
  s : St
  pos : Nat
  short : Bool

def Rd.zero : Rd := ⟨St.zero, 0, false⟩

/-- read n bits -/
def get (rb : List Bool) (r : Rd) (n : Nat) : Nat × Rd :=
  if rb.length < r.pos + n then (0, { r with short := true }) else (val ((rb.drop r.pos).take n), { r with pos := r.pos + n })

def dodRows : List (Nat × Int) := [(0, 0), (7, -63), (9, -255), (12, -2047)]
/-- read a change of the step: the rows that are left -/
def dodR (rb : List Bool) : List (Nat × Int) → Rd → Int × Rd
  | [], r => (wrap64 ((get rb r 64).1 : Nat), (get rb r 64).2)
  | x :: rest, r =>
    if (get rb r 1).1 = 0 then (((get rb (get rb r 1).2 x.1).1 : Int) + x.2, (get rb (get rb r 1).2 x.1).2)
    else dodR rb rest (get rb r 1).2

/-- read the window, if there comes one -/
def windowR (rb : List Bool) (r : Rd) : Rd :=
  if (get rb r 1).1 = 1 then
    let r1 := (get rb r 1).2
    let l := (get rb r1 5).1
    let r2 := (get rb r1 5).2
    let q := (get rb r2 6).1
    let r3 := (get rb r2 6).2
    { r3 with s := { r3.s with lead := (l : Int), tail := 63 - (l : Int) - (q : Int), opn := true } }
  else (get rb r 1).2

/-- read what differs -/
def valueR (rb : List Bool) (r : Rd) : Nat × Rd :=
  if (get rb r 1).1 = 0 then (0, (get rb r 1).2)
  else
    let r1 := windowR rb (get rb r 1).2
    if r1.s.opn = false ∨ r1.s.tail < 0 then (0, { r1 with short := true })
    else
      let g := get rb r1 (64 - r1.s.lead - r1.s.tail).toNat
      (g.1 * 2 ^ r1.s.tail.toNat % 18446744073709551616, g.2)

/-- read a sample -/
def nextR (rb : List Bool) (r : Rd) : Rd :=
  if r.s.n = 0 then
    let a := get rb r 64
    let b := get rb a.2 64
    { b.2 with s := { b.2.s with n := r.s.n + 1, t := wrap64 (a.1 : Nat), v := b.1 } }
  else
    let d := dodR rb dodRows r
    let x := valueR rb d.2
    { x.2 with s := { x.2.s with n := r.s.n + 1, t := wrap64 (r.s.t + wrap64 (r.s.delta + d.1)), delta := wrap64 (r.s.delta + d.1), v := r.s.v ^^^ x.1 } }

/-- read up to k samples, as long as there is a whole one -/
def decGo (rb : List Bool) : Nat → Rd → List Smp
  | 0, _ => []
  | k + 1, r => if (nextR rb r).short = true then [] else ⟨(nextR rb r).s.t, (nextR rb r).s.v⟩ :: decGo rb k (nextR rb r)

/-- the samples that bytes hold -/
def allOf (bs : List Nat) : List Smp :=
  if bs.length < 2 then [] else decGo (ofBytes (bs.drop 2)) (bs.getD 0 0 * 256 + bs.getD 1 0) Rd.zero

/-- what Decode answers: none: refused -/
def decode (bs : List Nat) : Option (List Smp) :=
  if chunkOf ((allOf bs).take 120) = bs then some ((allOf bs).take 120) else none

/-! ### Reading back what was written -/

/-- what is left to read from place p on -/
def Rest (rb : List Bool) (p : Nat) (s : List Bool) : Prop := p ≤ rb.length ∧ rb.drop p = s

theorem get_read {rb : List Bool} {r : Rd} {s rest : List Bool} (h : Rest rb r.pos (s ++ rest)) :
    get rb r s.length = (val s, { r with pos := r.pos + s.length }) ∧ Rest rb (r.pos + s.length) rest := by
  obtain ⟨hp, h⟩ := h
  have hl : rb.length - r.pos = s.length + rest.length := by have := congrArg List.length h; simpa using this
  refine ⟨?_, by omega, ?_⟩
  · unfold get
    rw [if_neg (by omega), h, List.take_left']
    rfl
  · rw [← List.drop_drop, h, List.drop_left']
    rfl

theorem get_bits {rb : List Bool} {r : Rd} {x n : Nat} {rest : List Bool} (h : Rest rb r.pos (bitsOf x n ++ rest)) (hx : x < 2 ^ n) :
    get rb r n = (x, { r with pos := r.pos + n }) ∧ Rest rb (r.pos + n) rest := by
  have := get_read h
  rw [bitsOf_length, val_bitsOf x n hx] at this
  exact this

theorem u64_lt (x : Int) : u64 x < 2 ^ 64 := by unfold u64; omega
theorem wrap_u64 (x : Int) (h : -9223372036854775808 ≤ x ∧ x ≤ 9223372036854775807) : wrap64 (u64 x : Nat) = x := by unfold wrap64 u64; omega
theorem wrap64_range (x : Int) : -9223372036854775808 ≤ wrap64 x ∧ wrap64 x ≤ 9223372036854775807 := by unfold wrap64; omega

theorem dod_read {rb : List Bool} {r : Rd} {x : Int} {rest : List Bool} (h : Rest rb r.pos (dodBits x ++ rest)) (hx : -9223372036854775808 ≤ x ∧ x ≤ 9223372036854775807) :
    dodR rb dodRows r = (x, { r with pos := r.pos + (dodBits x).length }) ∧ Rest rb (r.pos + (dodBits x).length) rest := by
  have e2 : bitsOf 2 2 = bitsOf 1 1 ++ bitsOf 0 1 := by decide
  have e6 : bitsOf 6 3 = bitsOf 1 1 ++ (bitsOf 1 1 ++ bitsOf 0 1) := by decide
  have e14 : bitsOf 14 4 = bitsOf 1 1 ++ (bitsOf 1 1 ++ (bitsOf 1 1 ++ bitsOf 0 1)) := by decide
  have e15 : bitsOf 15 4 = bitsOf 1 1 ++ (bitsOf 1 1 ++ (bitsOf 1 1 ++ bitsOf 1 1)) := by decide
  unfold dodBits at h ⊢
  split at h
  · rename_i h0
    subst h0
    obtain ⟨a1, b1⟩ := get_bits h (by decide)
    have b1' : Rest rb ({ r with pos := r.pos + 1 } : Rd).pos (bitsOf 0 0 ++ rest) := b1
    obtain ⟨a2, b2⟩ := get_bits b1' (by decide)
    simp only [if_pos, bitsOf_length, dodRows, dodR, a1, a2]
    exact ⟨by simp, b2⟩
  · rename_i h0
    rw [if_neg h0]
    split at h
    · rename_i h1
      rw [if_pos h1]
      rw [e2, List.append_assoc, List.append_assoc] at h
      obtain ⟨a1, b1⟩ := get_bits h (by decide)
      have b1' : Rest rb ({ r with pos := r.pos + 1 } : Rd).pos (bitsOf 0 1 ++ (bitsOf (x + 63).toNat 7 ++ rest)) := b1
      obtain ⟨a2, b2⟩ := get_bits b1' (by decide)
      have b2' : Rest rb ({ r with pos := r.pos + 1 + 1 } : Rd).pos (bitsOf (x + 63).toNat 7 ++ rest) := b2
      obtain ⟨a3, b3⟩ := get_bits b2' (by simp; omega)
      simp only [dodRows, dodR, a1, a2, a3, List.length_append, bitsOf_length]
      refine ⟨?_, b3⟩
      simp
      omega
    · rename_i h1
      rw [if_neg h1]
      split at h
      · rename_i h2
        rw [if_pos h2]
        rw [e6] at h
        simp only [List.append_assoc] at h
        obtain ⟨a1, b1⟩ := get_bits h (by decide)
        have b1' : Rest rb ({ r with pos := r.pos + 1 } : Rd).pos (bitsOf 1 1 ++ (bitsOf 0 1 ++ (bitsOf (x + 255).toNat 9 ++ rest))) := b1
        obtain ⟨a2, b2⟩ := get_bits b1' (by decide)
        have b2' : Rest rb ({ r with pos := r.pos + 1 + 1 } : Rd).pos (bitsOf 0 1 ++ (bitsOf (x + 255).toNat 9 ++ rest)) := b2
        obtain ⟨a3, b3⟩ := get_bits b2' (by decide)
        have b3' : Rest rb ({ r with pos := r.pos + 1 + 1 + 1 } : Rd).pos (bitsOf (x + 255).toNat 9 ++ rest) := b3
        obtain ⟨a4, b4⟩ := get_bits b3' (by simp; omega)
        simp only [dodRows, dodR, a1, a2, a3, a4, List.length_append, bitsOf_length]
        refine ⟨?_, b4⟩
        simp
        omega
      · rename_i h2
        rw [if_neg h2]
        split at h
        · rename_i h3
          rw [if_pos h3]
          rw [e14] at h
          simp only [List.append_assoc] at h
          obtain ⟨a1, b1⟩ := get_bits h (by decide)
          have b1' : Rest rb ({ r with pos := r.pos + 1 } : Rd).pos (bitsOf 1 1 ++ (bitsOf 1 1 ++ (bitsOf 0 1 ++ (bitsOf (x + 2047).toNat 12 ++ rest)))) := b1
          obtain ⟨a2, b2⟩ := get_bits b1' (by decide)
          have b2' : Rest rb ({ r with pos := r.pos + 1 + 1 } : Rd).pos (bitsOf 1 1 ++ (bitsOf 0 1 ++ (bitsOf (x + 2047).toNat 12 ++ rest))) := b2
          obtain ⟨a3, b3⟩ := get_bits b2' (by decide)
          have b3' : Rest rb ({ r with pos := r.pos + 1 + 1 + 1 } : Rd).pos (bitsOf 0 1 ++ (bitsOf (x + 2047).toNat 12 ++ rest)) := b3
          obtain ⟨a4, b4⟩ := get_bits b3' (by decide)
          have b4' : Rest rb ({ r with pos := r.pos + 1 + 1 + 1 + 1 } : Rd).pos (bitsOf (x + 2047).toNat 12 ++ rest) := b4
          obtain ⟨a5, b5⟩ := get_bits b4' (by simp; omega)
          simp only [dodRows, dodR, a1, a2, a3, a4, a5, List.length_append, bitsOf_length]
          refine ⟨?_, b5⟩
          simp
          omega
        · rename_i h3
          rw [if_neg h3]
          rw [e15] at h
          simp only [List.append_assoc] at h
          obtain ⟨a1, b1⟩ := get_bits h (by decide)
          have b1' : Rest rb ({ r with pos := r.pos + 1 } : Rd).pos (bitsOf 1 1 ++ (bitsOf 1 1 ++ (bitsOf 1 1 ++ (bitsOf (u64 x) 64 ++ rest)))) := b1
          obtain ⟨a2, b2⟩ := get_bits b1' (by decide)
          have b2' : Rest rb ({ r with pos := r.pos + 1 + 1 } : Rd).pos (bitsOf 1 1 ++ (bitsOf 1 1 ++ (bitsOf (u64 x) 64 ++ rest))) := b2
          obtain ⟨a3, b3⟩ := get_bits b2' (by decide)
          have b3' : Rest rb ({ r with pos := r.pos + 1 + 1 + 1 } : Rd).pos (bitsOf 1 1 ++ (bitsOf (u64 x) 64 ++ rest)) := b3
          obtain ⟨a4, b4⟩ := get_bits b3' (by decide)
          have b4' : Rest rb ({ r with pos := r.pos + 1 + 1 + 1 + 1 } : Rd).pos (bitsOf (u64 x) 64 ++ rest) := b4
          obtain ⟨a5, b5⟩ := get_bits b4' (u64_lt x)
          simp only [dodRows, dodR, a1, a2, a3, a4, a5, List.length_append, bitsOf_length]
          refine ⟨?_, b5⟩
          simp [wrap_u64 x hx]

/-! ### The zeros of a number -/
theorem bitLenAux_lt (f x : Nat) (h : x < 2 ^ f) : x < 2 ^ Lib.bitLenAux f x ∧ Lib.bitLenAux f x ≤ f := by
  induction f generalizing x with
  | zero => simpa [Lib.bitLenAux] using h
  | succ f ih =>
    unfold Lib.bitLenAux
    split
    · rename_i h0; subst h0; simp
    · have := ih (x / 2) (by rw [Nat.pow_succ] at h; omega)
      rw [Nat.pow_add]
      omega
theorem clz_spec (x : Nat) (h : x < 2 ^ 64) : x < 2 ^ (64 - clz x) ∧ clz x ≤ 64 := by
  have := bitLenAux_lt 64 x h
  unfold clz
  refine ⟨?_, by omega⟩
  rw [show 64 - (64 - Lib.bitLen x) = Lib.bitLen x by unfold Lib.bitLen; omega]
  exact this.1
theorem ctz_spec (x : Nat) (h0 : x ≠ 0) (h : x < 2 ^ 64) : 2 ^ ctz x ∣ x := by
  obtain ⟨m, hm, _⟩ := Lib.ctzFrom_spec 64 x (by omega) h
  have e : ctz x = Lib.ctzFrom 64 x := by simp [ctz, Lib.ctz, h0]
  rw [e]
  exact ⟨2 * m + 1, hm⟩
theorem clz_ctz (x : Nat) (h0 : x ≠ 0) (h : x < 2 ^ 64) : clz x + ctz x ≤ 63 := by
  obtain ⟨h1, h2⟩ := clz_spec x h
  obtain ⟨m, hm⟩ := ctz_spec x h0 h
  rcases Nat.lt_or_ge (ctz x) (64 - clz x) with hlt | hge
  · omega
  · exfalso
    have hm0 : 1 ≤ m := by
      rcases Nat.eq_zero_or_pos m with hz | hp
      · subst hz; simp at hm; omega
      · exact hp
    have h3 : 2 ^ (64 - clz x) ≤ 2 ^ ctz x := Nat.pow_le_pow_right (by omega) hge
    have h4 : 2 ^ ctz x * 1 ≤ 2 ^ ctz x * m := Nat.mul_le_mul_left _ hm0
    omega

/-- what lies between a window's two ends, and back -/
theorem between (x l t : Nat) (h0 : x ≠ 0) (h : x < 2 ^ 64) (hl : l ≤ clz x) (ht : t ≤ ctz x) : x / 2 ^ t < 2 ^ (64 - l - t) ∧ x / 2 ^ t * 2 ^ t = x ∧ l + t ≤ 63 := by
  have hs := clz_ctz x h0 h
  have hx : x < 2 ^ (64 - l) := Nat.lt_of_lt_of_le (clz_spec x h).1 (Nat.pow_le_pow_right (by omega) (by omega))
  refine ⟨?_, ?_, by omega⟩
  · apply Nat.div_lt_of_lt_mul
    rw [← Nat.pow_add, show t + (64 - l - t) = 64 - l by omega]
    exact hx
  · exact Nat.div_mul_cancel (Nat.dvd_trans (Nat.pow_dvd_pow 2 ht) (ctz_spec x h0 h))

/-- a window that fits -/
def St.fits (s : St) : Prop := s.opn = true → 0 ≤ s.lead ∧ 0 ≤ s.tail ∧ s.lead + s.tail ≤ 63

theorem valueBits_fits (s : St) (x : Nat) (hs : s.fits) (hx : x < 2 ^ 64) : (valueBits s x).2.fits := by
  unfold valueBits
  split
  · exact hs
  · rename_i h0
    split
    · exact hs
    · intro _
      have := clz_ctz x h0 hx
      show 0 ≤ ((min (clz x) 31 : Nat) : Int) ∧ 0 ≤ ((ctz x : Nat) : Int) ∧ ((min (clz x) 31 : Nat) : Int) + (ctz x : Nat) ≤ 63
      omega

theorem value_read {rb : List Bool} {r : Rd} {x : Nat} {rest : List Bool} (h : Rest rb r.pos ((valueBits r.s x).1 ++ rest)) (hs : r.s.fits) (hx : x < 2 ^ 64) :
    valueR rb r = (x, { r with pos := r.pos + (valueBits r.s x).1.length, s := (valueBits r.s x).2 }) ∧ Rest rb (r.pos + (valueBits r.s x).1.length) rest := by
  unfold valueBits at h ⊢
  split at h
  · rename_i h0
    rw [if_pos h0]
    obtain ⟨a1, b1⟩ := get_bits h (by decide)
    simp only [bitsOf_length]
    unfold valueR
    rw [a1]
    exact ⟨by simp [h0], b1⟩
  · rename_i h0
    rw [if_neg h0]
    split at h
    · rename_i h1
      rw [if_pos h1]
      obtain ⟨ho, hl, ht⟩ := h1
      obtain ⟨f1, f2, f3⟩ := hs ho
      obtain ⟨c1, c2, c3⟩ := between x r.s.lead.toNat r.s.tail.toNat h0 hx (by omega) (by omega)
      rw [show (64 - r.s.lead - r.s.tail).toNat = 64 - r.s.lead.toNat - r.s.tail.toNat by omega] at h ⊢
      simp only [List.append_assoc] at h
      obtain ⟨a1, b1⟩ := get_bits h (by decide)
      have b1' : Rest rb ({ r with pos := r.pos + 1 } : Rd).pos (bitsOf 0 1 ++ (bitsOf (x / 2 ^ r.s.tail.toNat) (64 - r.s.lead.toNat - r.s.tail.toNat) ++ rest)) := b1
      obtain ⟨a2, b2⟩ := get_bits b1' (by decide)
      have b2' : Rest rb ({ r with pos := r.pos + 1 + 1 } : Rd).pos (bitsOf (x / 2 ^ r.s.tail.toNat) (64 - r.s.lead.toNat - r.s.tail.toNat) ++ rest) := b2
      obtain ⟨a3, b3⟩ := get_bits b2' c1
      simp only [List.length_append, bitsOf_length]
      unfold valueR windowR
      simp only [a1, a2]
      have hn : ¬ (r.s.opn = false ∨ r.s.tail < 0) := by rw [ho]; simp; omega
      simp only [Nat.one_ne_zero, Nat.zero_ne_one, if_false, hn]
      rw [show (64 - r.s.lead - r.s.tail).toNat = 64 - r.s.lead.toNat - r.s.tail.toNat by omega, a3]
      simp only
      rw [c2, Nat.mod_eq_of_lt (by omega)]
      refine ⟨?_, ?_⟩
      · rw [show r.pos + (1 + (1 + (64 - r.s.lead.toNat - r.s.tail.toNat))) = r.pos + 1 + 1 + (64 - r.s.lead.toNat - r.s.tail.toNat) by omega]
      · rw [show r.pos + (1 + (1 + (64 - r.s.lead.toNat - r.s.tail.toNat))) = r.pos + 1 + 1 + (64 - r.s.lead.toNat - r.s.tail.toNat) by omega]; exact b3
    · rename_i h1
      rw [if_neg h1]
      obtain ⟨c1, c2, c3⟩ := between x (min (clz x) 31) (ctz x) h0 hx (by omega) (by omega)
      generalize hL : min (clz x) 31 = L at *
      generalize hT : ctz x = T at *
      have hL31 : L ≤ 31 := by omega
      have e6 : (64 - (L : Int) - (T : Int) - 1).toNat = 63 - L - T := by omega
      have e7 : (64 - (L : Int) - (T : Int)).toNat = 64 - L - T := by omega
      rw [e6, e7] at h ⊢
      simp only [List.append_assoc] at h
      obtain ⟨a1, b1⟩ := get_bits h (by decide)
      have b1' : Rest rb ({ r with pos := r.pos + 1 } : Rd).pos (bitsOf 1 1 ++ (bitsOf L 5 ++ (bitsOf (63 - L - T) 6 ++ (bitsOf (x / 2 ^ T) (64 - L - T) ++ rest)))) := b1
      obtain ⟨a2, b2⟩ := get_bits b1' (by decide)
      have b2' : Rest rb ({ r with pos := r.pos + 1 + 1 } : Rd).pos (bitsOf L 5 ++ (bitsOf (63 - L - T) 6 ++ (bitsOf (x / 2 ^ T) (64 - L - T) ++ rest))) := b2
      obtain ⟨a3, b3⟩ := get_bits b2' (by omega)
      have b3' : Rest rb ({ r with pos := r.pos + 1 + 1 + 5 } : Rd).pos (bitsOf (63 - L - T) 6 ++ (bitsOf (x / 2 ^ T) (64 - L - T) ++ rest)) := b3
      obtain ⟨a4, b4⟩ := get_bits b3' (by omega)
      have b4' : Rest rb ({ r with pos := r.pos + 1 + 1 + 5 + 6, s := { r.s with lead := (L : Int), tail := (T : Int), opn := true } } : Rd).pos (bitsOf (x / 2 ^ T) (64 - L - T) ++ rest) := b4
      obtain ⟨a5, b5⟩ := get_bits b4' c1
      simp only [List.length_append, bitsOf_length]
      unfold valueR windowR
      simp only [a1, a2, a3, a4]
      have et : (63 : Int) - (L : Int) - ((63 - L - T : Nat) : Int) = (T : Int) := by omega
      simp only [et, Nat.one_ne_zero, if_false, if_true]
      have hn : ¬ (true = false ∨ (T : Int) < 0) := by simp
      rw [if_neg hn, e7, a5]
      simp only [Int.toNat_natCast]
      rw [c2, Nat.mod_eq_of_lt (by omega)]
      rw [show r.pos + (1 + (1 + (5 + (6 + (64 - L - T))))) = r.pos + 1 + 1 + 5 + 6 + (64 - L - T) by omega]
      exact ⟨rfl, b5⟩

end Ck
end Go.Proofs.YtjlfkdopkhejbaaDoor
