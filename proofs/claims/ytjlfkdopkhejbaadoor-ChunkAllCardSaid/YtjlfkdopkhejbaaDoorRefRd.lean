/- Plain mathematics: the document's own reader (of all the bits, bad stays bad) reads what the chunk's reader reads. No program is in sight here. -/
import Derived.Test.YtjlfkdopkhejbaaDoorNext
import Derived.Test.YtjlfkdopkhejbaaDoorRefMath
namespace Go.Proofs.YtjlfkdopkhejbaaDoor
namespace Ck
open Go.RowKit

/-- the document's reader: the place of the next bit; bad: they were not there -/
structure RB where
  at_ : Nat
  bad : Bool

def rget (rb : List Bool) (s : RB) (n : Nat) : Nat × RB :=
  if s.bad = true ∨ rb.length < s.at_ + n then (0, { s with bad := true }) else (val ((rb.drop s.at_).take n), { s with at_ := s.at_ + n })

/-- the two readers are at the same place, or both are off -/
def Sim (r : Rd) (s : RB) : Prop := (s.bad = true ∧ r.short = true) ∨ (s.bad = false ∧ r.short = false ∧ s.at_ = r.pos + 16)

theorem get_stays (rb : List Bool) (r : Rd) (n : Nat) (h : r.short = true) : (get rb r n).2.short = true := by
  unfold get; split <;> simp [h]
theorem rget_bad (rb : List Bool) (s : RB) (n : Nat) (h : s.bad = true) : rget rb s n = (0, s) := by
  unfold rget
  rw [if_pos (.inl h)]
  cases s; simp_all
theorem rget_at (rb : List Bool) (s : RB) (n : Nat) (h : (rget rb s n).2.bad = false) : (rget rb s n).2.at_ ≤ rb.length ∧ s.bad = false ∧ s.at_ + n ≤ rb.length := by
  unfold rget at h ⊢
  split at h
  · cases h
  · rename_i hn
    rw [if_neg hn]
    simp only [not_or, Bool.not_eq_true] at hn
    refine ⟨?_, hn.1, by omega⟩
    show s.at_ + n ≤ rb.length
    omega
theorem rget_lt (rb : List Bool) (s : RB) (n : Nat) : (rget rb s n).1 < 2 ^ n := by
  unfold rget
  split
  · exact Nat.two_pow_pos n
  · exact Nat.lt_of_lt_of_le (val_lt _) (Nat.pow_le_pow_right (by omega) (by simp; omega))

section
variable {hd rb : List Bool} (hh : hd.length = 16)
include hh
theorem rget_sim {r : Rd} {s : RB} (h : Sim r s) (n : Nat) : Sim (get rb r n).2 (rget (hd ++ rb) s n).2 ∧ ((rget (hd ++ rb) s n).2.bad = false → (rget (hd ++ rb) s n).1 = (get rb r n).1) := by
  rcases h with ⟨hb, hs⟩ | ⟨hb, hs, ha⟩
  · rw [rget_bad _ _ _ hb]
    exact ⟨.inl ⟨hb, get_stays rb r n hs⟩, fun h => by rw [hb] at h; cases h⟩
  · have hl : (hd ++ rb).length = 16 + rb.length := by rw [List.length_append, hh]
    unfold rget get
    by_cases hn : rb.length < r.pos + n
    · rw [if_pos hn, if_pos (.inr (by rw [hl, ha]; omega))]
      exact ⟨.inl ⟨rfl, rfl⟩, fun h => by cases h⟩
    · rw [if_neg hn, if_neg (by rw [hl, ha, hb]; simp; omega)]
      refine ⟨.inr ⟨hb, hs, ?_⟩, fun _ => ?_⟩
      · show s.at_ + n = r.pos + n + 16
        omega
      · show val (((hd ++ rb).drop s.at_).take n) = val ((rb.drop r.pos).take n)
        rw [ha, Nat.add_comm, ← List.drop_drop, List.drop_left' hh]
end

/-! ### A change of the step -/
def fin (rb : List Bool) : Nat → RB → Int × RB
  | 0, s => (0, s)
  | 1, s => ((rget rb s 7).1 - 63, (rget rb s 7).2)
  | 2, s => ((rget rb s 9).1 - 255, (rget rb s 9).2)
  | 3, s => ((rget rb s 12).1 - 2047, (rget rb s 12).2)
  | _, s => (wrap64 ((rget rb s 64).1 : Nat), (rget rb s 64).2)
def dodFrom (rb : List Bool) : Nat → Nat → RB → Int × RB
  | 0, k, s => fin rb k s
  | f + 1, k, s => if (rget rb s 1).1 = 1 then dodFrom rb f (k + 1) (rget rb s 1).2 else fin rb k (rget rb s 1).2
def dodB (rb : List Bool) (s : RB) : Int × RB := dodFrom rb 4 0 s

theorem fin_bad (rb : List Bool) (k : Nat) (s : RB) (h : s.bad = true) : (fin rb k s).2.bad = true := by
  unfold fin
  split <;> simp [rget_bad _ _ _ h, h]
theorem dodFrom_bad (rb : List Bool) (f k : Nat) (s : RB) (h : s.bad = true) : (dodFrom rb f k s).2.bad = true := by
  induction f generalizing k s with
  | zero => exact fin_bad rb k s h
  | succ f ih =>
    rw [dodFrom, rget_bad _ _ _ h]
    simp [fin_bad rb k s h]
theorem dodR_stays (rb : List Bool) (L : List (Nat × Int)) (r : Rd) (h : r.short = true) : (dodR rb L r).2.short = true := by
  induction L generalizing r with
  | nil => exact get_stays rb r 64 h
  | cons x L ih =>
    rw [dodR]
    split
    · exact get_stays _ _ _ (get_stays _ _ _ h)
    · exact ih _ (get_stays _ _ _ h)
theorem get_zero (rb : List Bool) (r : Rd) (h : r.pos ≤ rb.length) : get rb r 0 = (0, r) := by
  unfold get
  rw [if_neg (by omega)]
  rfl

theorem dodFrom_sim {hd rb : List Bool} (hh : hd.length = 16) (f k : Nat) {r : Rd} {s : RB} (hf : f + k = 4) (h : Sim r s) :
    Sim (dodR rb (dodRows.drop k) r).2 (dodFrom (hd ++ rb) f k s).2 ∧ ((dodFrom (hd ++ rb) f k s).2.bad = false → (dodFrom (hd ++ rb) f k s).1 = (dodR rb (dodRows.drop k) r).1) := by
  induction f generalizing k r s with
  | zero =>
    obtain rfl : k = 4 := by omega
    obtain ⟨h1, h2⟩ := rget_sim (rb := rb) hh h 64
    refine ⟨h1, fun hb => ?_⟩
    show wrap64 ((rget (hd ++ rb) s 64).1 : Nat) = wrap64 ((get rb r 64).1 : Nat)
    rw [h2 hb]
  | succ f ih =>
    obtain ⟨h1, h2⟩ := rget_sim (rb := rb) hh h 1
    cases hb1 : (rget (hd ++ rb) s 1).2.bad with
    | true =>
      have hs1 : (get rb r 1).2.short = true := by
        rcases h1 with ⟨_, hs⟩ | ⟨hb, _⟩
        · exact hs
        · rw [hb1] at hb; cases hb
      have hA : (dodFrom (hd ++ rb) (f + 1) k s).2.bad = true := by
        rw [dodFrom]
        split
        · exact dodFrom_bad _ _ _ _ hb1
        · exact fin_bad _ _ _ hb1
      have hB : (dodR rb (dodRows.drop k) r).2.short = true := by
        have K : k = 0 ∨ k = 1 ∨ k = 2 ∨ k = 3 := by omega
        rcases K with rfl | rfl | rfl | rfl
        all_goals
          simp only [dodRows, List.drop_zero, List.drop_succ_cons]
          rw [dodR]
          split
          · exact get_stays _ _ _ hs1
          · exact dodR_stays _ _ _ hs1
      exact ⟨.inl ⟨hA, hB⟩, fun hb => by rw [hA] at hb; cases hb⟩
    | false =>
      have hv := h2 hb1
      obtain ⟨q1, q2, q3⟩ := rget_at _ _ _ hb1
      have hlt := rget_lt (hd ++ rb) s 1
      have hl : (hd ++ rb).length = 16 + rb.length := by rw [List.length_append, hh]
      have hpos : (get rb r 1).2.pos ≤ rb.length := by
        rcases h1 with ⟨hb, _⟩ | ⟨_, _, ha⟩
        · rw [hb1] at hb; cases hb
        · omega
      by_cases hz : (get rb r 1).1 = 0
      · have e1 : dodFrom (hd ++ rb) (f + 1) k s = fin (hd ++ rb) k (rget (hd ++ rb) s 1).2 := by
          rw [dodFrom, if_neg (by omega)]
        rw [e1]
        have K : k = 0 ∨ k = 1 ∨ k = 2 ∨ k = 3 := by omega
        rcases K with rfl | rfl | rfl | rfl
        · simp only [dodRows, List.drop_zero]
          rw [dodR, if_pos hz, get_zero _ _ hpos]
          exact ⟨h1, fun _ => rfl⟩
        · simp only [dodRows, List.drop_zero, List.drop_succ_cons]
          rw [dodR, if_pos hz]
          obtain ⟨k1, k2⟩ := rget_sim (rb := rb) hh h1 7
          refine ⟨k1, fun hb => ?_⟩
          have := k2 hb
          show ((rget (hd ++ rb) (rget (hd ++ rb) s 1).2 7).1 : Int) - 63 = ((get rb (get rb r 1).2 7).1 : Int) + -63
          omega
        · simp only [dodRows, List.drop_zero, List.drop_succ_cons]
          rw [dodR, if_pos hz]
          obtain ⟨k1, k2⟩ := rget_sim (rb := rb) hh h1 9
          refine ⟨k1, fun hb => ?_⟩
          have := k2 hb
          show ((rget (hd ++ rb) (rget (hd ++ rb) s 1).2 9).1 : Int) - 255 = ((get rb (get rb r 1).2 9).1 : Int) + -255
          omega
        · simp only [dodRows, List.drop_zero, List.drop_succ_cons]
          rw [dodR, if_pos hz]
          obtain ⟨k1, k2⟩ := rget_sim (rb := rb) hh h1 12
          refine ⟨k1, fun hb => ?_⟩
          have := k2 hb
          show ((rget (hd ++ rb) (rget (hd ++ rb) s 1).2 12).1 : Int) - 2047 = ((get rb (get rb r 1).2 12).1 : Int) + -2047
          omega
      · have e1 : dodFrom (hd ++ rb) (f + 1) k s = dodFrom (hd ++ rb) f (k + 1) (rget (hd ++ rb) s 1).2 := by
          rw [dodFrom, if_pos (by omega)]
        have e2 : dodR rb (dodRows.drop k) r = dodR rb (dodRows.drop (k + 1)) (get rb r 1).2 := by
          have K : k = 0 ∨ k = 1 ∨ k = 2 ∨ k = 3 := by omega
          rcases K with rfl | rfl | rfl | rfl
          all_goals
            simp only [dodRows, List.drop_zero, List.drop_succ_cons]
            conv => lhs; rw [dodR, if_neg hz]
        rw [e1, e2]
        exact ih (k + 1) (by omega) h1
theorem dodB_sim {hd rb : List Bool} (hh : hd.length = 16) {r : Rd} {s : RB} (h : Sim r s) :
    Sim (dodR rb dodRows r).2 (dodB (hd ++ rb) s).2 ∧ ((dodB (hd ++ rb) s).2.bad = false → (dodB (hd ++ rb) s).1 = (dodR rb dodRows r).1) := dodFrom_sim hh 4 0 rfl h

/-! ### What differs -/
def winB (rb : List Bool) (s : RB) (lead tail : Int) : RB × Int × Int :=
  if (rget rb s 1).1 = 1 then
    ((rget rb (rget rb (rget rb s 1).2 5).2 6).2, ((rget rb (rget rb s 1).2 5).1 : Int), 63 - ((rget rb (rget rb s 1).2 5).1 : Int) - ((rget rb (rget rb (rget rb s 1).2 5).2 6).1 : Int))
  else ((rget rb s 1).2, lead, tail)
def valB (rb : List Bool) (s : RB) (lead tail : Int) : Nat × RB × Int × Int :=
  if (rget rb s 1).1 = 1 then
    let w := winB rb (rget rb s 1).2 lead tail
    if w.2.1 < 0 ∨ w.2.2 < 0 then (0, { w.1 with bad := true }, w.2.1, w.2.2)
    else ((rget rb w.1 (64 - w.2.1 - w.2.2).toNat).1 * 2 ^ w.2.2.toNat % 18446744073709551616, (rget rb w.1 (64 - w.2.1 - w.2.2).toNat).2, w.2.1, w.2.2)
  else (0, (rget rb s 1).2, lead, tail)

/-- the document's window is the chunk's -/
def WinSim (s : St) (lead tail : Int) : Prop := (s.opn = true → lead = s.lead ∧ tail = s.tail ∧ 0 ≤ lead) ∧ (s.opn = false → lead = -1 ∧ tail = -1)

theorem Sim.short {r : Rd} {s : RB} (h : Sim r s) (hb : s.bad = true) : r.short = true := by
  rcases h with ⟨_, hs⟩ | ⟨hb', _⟩
  · exact hs
  · rw [hb] at hb'; cases hb'
theorem windowR_stays (rb : List Bool) (r : Rd) (h : r.short = true) : (windowR rb r).short = true := by
  unfold windowR
  split
  · exact get_stays _ _ _ (get_stays _ _ _ (get_stays _ _ _ h))
  · exact get_stays _ _ _ h
theorem valueR_stays (rb : List Bool) (r : Rd) (h : r.short = true) : (valueR rb r).2.short = true := by
  unfold valueR
  split
  · exact get_stays _ _ _ h
  · simp only
    split
    · rfl
    · exact get_stays _ _ _ (windowR_stays _ _ (get_stays _ _ _ h))

theorem winB_sim {hd rb : List Bool} (hh : hd.length = 16) {r : Rd} {s : RB} (h : Sim r s) {lead tail : Int} (hw : r.short = false → WinSim r.s lead tail) :
    Sim (windowR rb r) (winB (hd ++ rb) s lead tail).1 ∧ ((winB (hd ++ rb) s lead tail).1.bad = false → WinSim (windowR rb r).s (winB (hd ++ rb) s lead tail).2.1 (winB (hd ++ rb) s lead tail).2.2) := by
  obtain ⟨h1, h2⟩ := rget_sim (rb := rb) hh h 1
  cases hb1 : (rget (hd ++ rb) s 1).2.bad with
  | true =>
    have hs1 := h1.short hb1
    have hA : (winB (hd ++ rb) s lead tail).1.bad = true := by
      unfold winB
      split
      · simp [rget_bad _ _ _ hb1, hb1]
      · exact hb1
    have hB : (windowR rb r).short = true := by
      unfold windowR
      split
      · exact get_stays _ _ _ (get_stays _ _ _ hs1)
      · exact hs1
    exact ⟨.inl ⟨hA, hB⟩, fun hb => by rw [hA] at hb; cases hb⟩
  | false =>
    have hv := h2 hb1
    have hrs : r.short = false := by
      rcases h with ⟨hb, _⟩ | ⟨_, hs, _⟩
      · have := (rget_at _ _ _ hb1).2.1
        rw [hb] at this; cases this
      · exact hs
    by_cases hz : (get rb r 1).1 = 1
    · obtain ⟨k1, k2⟩ := rget_sim (rb := rb) hh h1 5
      obtain ⟨m1, m2⟩ := rget_sim (rb := rb) hh k1 6
      unfold winB windowR
      rw [if_pos hz, if_pos (by omega)]
      refine ⟨m1, fun hb => ⟨fun _ => ?_, fun h => by cases h⟩⟩
      have e6 := m2 hb
      have e5 := k2 ((rget_at _ _ _ hb).2.1)
      simp only
      rw [e5, e6]
      exact ⟨rfl, rfl, by omega⟩
    · unfold winB windowR
      rw [if_neg hz, if_neg (by omega)]
      refine ⟨h1, fun _ => ?_⟩
      have : (get rb r 1).2.s = r.s := get_keeps rb r 1
      rw [this]
      exact hw hrs

theorem valB_sim {hd rb : List Bool} (hh : hd.length = 16) {r : Rd} {s : RB} (h : Sim r s) {lead tail : Int} (hw : r.short = false → WinSim r.s lead tail) :
    Sim (valueR rb r).2 (valB (hd ++ rb) s lead tail).2.1 ∧ ((valB (hd ++ rb) s lead tail).2.1.bad = false → (valB (hd ++ rb) s lead tail).1 = (valueR rb r).1 ∧ WinSim (valueR rb r).2.s (valB (hd ++ rb) s lead tail).2.2.1 (valB (hd ++ rb) s lead tail).2.2.2) := by
  obtain ⟨h1, h2⟩ := rget_sim (rb := rb) hh h 1
  cases hb1 : (rget (hd ++ rb) s 1).2.bad with
  | true =>
    have hs1 := h1.short hb1
    have h0 : (rget (hd ++ rb) s 1).1 = 0 := by
      unfold rget at hb1 ⊢
      split at hb1
      · rename_i hc; rw [if_pos hc]
      · rename_i hc
        simp only [not_or] at hc
        exact absurd hb1 hc.1
    have hA : (valB (hd ++ rb) s lead tail).2.1.bad = true := by
      unfold valB
      rw [if_neg (by omega)]
      exact hb1
    have hB : (valueR rb r).2.short = true := by
      unfold valueR
      split
      · exact hs1
      · simp only
        split
        · rfl
        · exact get_stays _ _ _ (windowR_stays _ _ hs1)
    exact ⟨.inl ⟨hA, hB⟩, fun hb => by rw [hA] at hb; cases hb⟩
  | false =>
    have hv := h2 hb1
    have hrs : r.short = false := by
      rcases h with ⟨hb, _⟩ | ⟨_, hs, _⟩
      · have := (rget_at _ _ _ hb1).2.1
        rw [hb] at this; cases this
      · exact hs
    have hlt := rget_lt (hd ++ rb) s 1
    have hks : (get rb r 1).2.s = r.s := get_keeps rb r 1
    by_cases hz : (get rb r 1).1 = 0
    · unfold valB valueR
      rw [if_pos hz, if_neg (by omega)]
      refine ⟨h1, fun _ => ⟨rfl, ?_⟩⟩
      show WinSim (get rb r 1).2.s lead tail
      rw [hks]
      exact hw hrs
    · obtain ⟨w1, w2⟩ := winB_sim hh h1 (lead := lead) (tail := tail) (fun _ => by rw [hks]; exact hw hrs)
      unfold valB valueR
      rw [if_neg hz, if_pos (show (rget (hd ++ rb) s 1).1 = 1 by omega)]
      simp only
      generalize winB (hd ++ rb) (rget (hd ++ rb) s 1).2 lead tail = W at *
      generalize windowR rb (get rb r 1).2 = V at *
      obtain ⟨s1, le, ta⟩ := W
      simp only at w1 w2 ⊢
      cases hbw : s1.bad with
      | true =>
        have hsw := w1.short hbw
        refine ⟨?_, fun hb => ?_⟩
        · left
          refine ⟨?_, ?_⟩
          · split
            · rfl
            · rw [rget_bad _ _ _ hbw]; exact hbw
          · split
            · rfl
            · exact get_stays _ _ _ hsw
        · exfalso
          split at hb
          · cases hb
          · rw [rget_bad _ _ _ hbw] at hb
            simp only at hb
            rw [hbw] at hb; cases hb
      | false =>
        obtain ⟨u1, u2⟩ := w2 hbw
        have hiff : (le < 0 ∨ ta < 0) ↔ (V.s.opn = false ∨ V.s.tail < 0) := by
          cases ho : V.s.opn with
          | true => obtain ⟨a, b, c⟩ := u1 ho; simp; omega
          | false => obtain ⟨a, b⟩ := u2 ho; simp; omega
        by_cases hc : le < 0 ∨ ta < 0
        · rw [if_pos hc, if_pos (hiff.1 hc)]
          exact ⟨.inl ⟨rfl, rfl⟩, fun hb => by cases hb⟩
        · rw [if_neg hc, if_neg (fun h => hc (hiff.2 h))]
          have ho : V.s.opn = true := by
            cases ho : V.s.opn with
            | true => rfl
            | false => exact absurd (hiff.2 (.inl ho)) hc
          obtain ⟨a, b, c⟩ := u1 ho
          subst a b
          obtain ⟨g1, g2⟩ := rget_sim (rb := rb) hh w1 (64 - V.s.lead - V.s.tail).toNat
          refine ⟨g1, fun hb => ?_⟩
          simp only at hb ⊢
          rw [g2 hb]
          refine ⟨rfl, ?_⟩
          rw [get_keeps]
          exact ⟨u1, u2⟩

theorem valB_bad (rb : List Bool) (s : RB) (lead tail : Int) (h : s.bad = true) : (valB rb s lead tail).2.1.bad = true := by
  unfold valB
  rw [rget_bad _ _ 1 h]
  simp [h]

/-! ### A sample -/
theorem first_sim {hd rb : List Bool} (hh : hd.length = 16) {r : Rd} {s : RB} (h : Sim r s) (hn : r.s.n = 0) (lead tail : Int) (hw : r.short = false → WinSim r.s lead tail) :
    Sim (nextR rb r) (rget (hd ++ rb) (rget (hd ++ rb) s 64).2 64).2 ∧ ((rget (hd ++ rb) (rget (hd ++ rb) s 64).2 64).2.bad = false →
      (nextR rb r).s.t = wrap64 ((rget (hd ++ rb) s 64).1 : Nat) ∧ (nextR rb r).s.delta = r.s.delta ∧ (nextR rb r).s.v = (rget (hd ++ rb) (rget (hd ++ rb) s 64).2 64).1 ∧ WinSim (nextR rb r).s lead tail) := by
  obtain ⟨h1, h2⟩ := rget_sim (rb := rb) hh h 64
  obtain ⟨k1, k2⟩ := rget_sim (rb := rb) hh h1 64
  unfold nextR
  rw [if_pos hn]
  have hs : (get rb (get rb r 64).2 64).2.s = r.s := by rw [get_keeps, get_keeps]
  refine ⟨k1, fun hb => ?_⟩
  have e2 := k2 hb
  have hb1 := (rget_at _ _ _ hb).2.1
  have e1 := h2 hb1
  have hrs : r.short = false := by
    rcases h with ⟨hb', _⟩ | ⟨_, hs, _⟩
    · have := (rget_at _ _ _ hb1).2.1
      rw [hb'] at this; cases this
    · exact hs
  have hw' := hw hrs
  simp only
  rw [e1, e2, hs]
  exact ⟨rfl, rfl, rfl, hw'⟩

theorem next_sim {hd rb : List Bool} (hh : hd.length = 16) {r : Rd} {s : RB} (h : Sim r s) (hn : r.s.n ≠ 0) (lead tail : Int) (hw : r.short = false → WinSim r.s lead tail) :
    Sim (nextR rb r) (valB (hd ++ rb) (dodB (hd ++ rb) s).2 lead tail).2.1 ∧ ((valB (hd ++ rb) (dodB (hd ++ rb) s).2 lead tail).2.1.bad = false →
      (nextR rb r).s.t = wrap64 (r.s.t + wrap64 (r.s.delta + (dodB (hd ++ rb) s).1)) ∧ (nextR rb r).s.delta = wrap64 (r.s.delta + (dodB (hd ++ rb) s).1) ∧ (nextR rb r).s.v = r.s.v ^^^ (valB (hd ++ rb) (dodB (hd ++ rb) s).2 lead tail).1 ∧
      WinSim (nextR rb r).s (valB (hd ++ rb) (dodB (hd ++ rb) s).2 lead tail).2.2.1 (valB (hd ++ rb) (dodB (hd ++ rb) s).2 lead tail).2.2.2) := by
  obtain ⟨h1, h2⟩ := dodB_sim (rb := rb) hh h
  have hds := dodR_s rb dodRows r
  obtain ⟨k1, k2⟩ := valB_sim (rb := rb) hh h1 (lead := lead) (tail := tail) (fun hf => by
    rw [hds]
    refine hw ?_
    cases hr : r.short with
    | false => rfl
    | true => rw [dodR_stays rb dodRows r hr] at hf; cases hf)
  unfold nextR
  rw [if_neg hn]
  refine ⟨k1, fun hb => ?_⟩
  obtain ⟨e2, w2⟩ := k2 hb
  have hb1 : (dodB (hd ++ rb) s).2.bad = false := by
    cases hc : (dodB (hd ++ rb) s).2.bad with
    | false => rfl
    | true => rw [valB_bad _ _ _ _ hc] at hb; cases hb
  have e1 := h2 hb1
  simp only
  rw [e1, e2]
  exact ⟨rfl, rfl, rfl, w2⟩

/-! ### All the bits -/
theorem bitAt_left (a b : List Nat) (p : Nat) (h : p < 8 * a.length) : bitAt (a ++ b) p = bitAt a p := by
  unfold bitAt
  rw [List.getD_eq_getElem?_getD, List.getD_eq_getElem?_getD, List.getElem?_append_left (by omega)]
theorem bitAt_right (a b : List Nat) (p : Nat) (h : 8 * a.length ≤ p) : bitAt (a ++ b) p = bitAt b (p - 8 * a.length) := by
  unfold bitAt
  rw [List.getD_eq_getElem?_getD, List.getD_eq_getElem?_getD, List.getElem?_append_right (by omega)]
  congr 1
  · congr 2; omega
  · omega
theorem ofBytes_append (a b : List Nat) : ofBytes (a ++ b) = ofBytes a ++ ofBytes b := by
  apply List.ext_getElem?
  intro p
  by_cases h : p < 8 * (a ++ b).length
  · rw [ofBytes_get _ _ h]
    rw [List.length_append] at h
    by_cases h1 : p < 8 * a.length
    · rw [List.getElem?_append_left (by rw [ofBytes_length]; exact h1), ofBytes_get _ _ h1, bitAt_left _ _ _ h1]
    · rw [List.getElem?_append_right (by rw [ofBytes_length]; omega), ofBytes_length, ofBytes_get _ _ (by omega), bitAt_right _ _ _ (by omega)]
  · rw [List.getElem?_eq_none (by rw [ofBytes_length]; omega), List.getElem?_eq_none (by rw [List.length_append, ofBytes_length, ofBytes_length]; rw [List.length_append] at h; omega)]

theorem head_bits (a b : Nat) (ha : a < 256) (hb : b < 256) : ofBytes [a, b] = bitsOf (a * 256 + b) 16 := by
  have h := pack16 (a * 256 + b)
  rw [show (a * 256 + b) / 256 % 256 = a by omega, show (a * 256 + b) % 256 = b by omega] at h
  rw [← h, ofBytes_pack, bitsOf_length]
  simp

/-- a whole header is read; the readers then stand at the same place -/
theorem head_sim (bs : List Nat) (h2 : 2 ≤ bs.length) (hlt : ∀ b ∈ bs, b < 256) :
    ∃ hd, hd.length = 16 ∧ ofBytes bs = hd ++ ofBytes (bs.drop 2) ∧ rget (ofBytes bs) ⟨0, false⟩ 16 = (bs.getD 0 0 * 256 + bs.getD 1 0, ⟨16, false⟩) ∧ Sim Rd.zero ⟨16, false⟩ := by
  match bs, h2 with
  | a :: b :: rest, _ =>
    have ha := hlt a (by simp)
    have hb := hlt b (by simp)
    have e : ofBytes (a :: b :: rest) = bitsOf (a * 256 + b) 16 ++ ofBytes rest := by
      rw [show a :: b :: rest = [a, b] ++ rest from rfl, ofBytes_append, head_bits a b ha hb]
    refine ⟨bitsOf (a * 256 + b) 16, bitsOf_length _ _, e, ?_, .inr ⟨rfl, rfl, rfl⟩⟩
    unfold rget
    rw [if_neg (by rw [e, List.length_append, bitsOf_length]; simp)]
    rw [e]
    simp only [List.drop_zero]
    rw [List.take_left' (bitsOf_length _ _), val_bitsOf _ _ (by omega)]
    rfl
theorem head_bad (bs : List Nat) (h2 : ¬ 2 ≤ bs.length) : rget (ofBytes bs) ⟨0, false⟩ 16 = (0, ⟨0, true⟩) := by
  unfold rget
  rw [if_pos (.inr (by rw [ofBytes_length]; simp only; omega))]
end Ck
end Go.Proofs.YtjlfkdopkhejbaaDoor
