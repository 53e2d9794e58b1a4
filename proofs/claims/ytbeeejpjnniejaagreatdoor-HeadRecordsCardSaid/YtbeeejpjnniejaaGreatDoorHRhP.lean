/- The document's head, told plainly by the same plain head: where a series stands, or would stand. -/
import Derived.Test.YtbeeejpjnniejaaGreatDoorJ05LSet
namespace Go.Proofs.YtbeeejpjnniejaaGreatDoor
open Go.RowKit
/-- where a label set stands, or would stand -/
def atP (ls : List Lbl) : List HSer → Nat × Bool
  | [] => (0, false)
  | s :: r => if cmpL s.1 ls = 0 then (0, true) else if 0 < cmpL s.1 ls then (0, false) else ((atP ls r).1 + 1, (atP ls r).2)
theorem atP_le (ls : List Lbl) : ∀ ss : List HSer, (atP ls ss).1 ≤ ss.length
  | [] => Nat.le_refl _
  | s :: r => by
    unfold atP
    split
    · exact Nat.zero_le _
    · split
      · exact Nat.zero_le _
      · have := atP_le ls r
        rw [List.length_cons]
        show (atP ls r).1 + 1 ≤ _
        omega
theorem atP_found (ls : List Lbl) (x : HSmp) : ∀ {ss : List HSer}, (atP ls ss).2 = true → ∃ s, ss[(atP ls ss).1]? = some s ∧ s.1 = ls ∧ findS ls ss = some s.2 ∧ addS ls x ss = ss.set (atP ls ss).1 (s.1, s.2 ++ [x])
  | [], h => by cases h
  | s :: r, h => by
    unfold atP at h ⊢
    by_cases h0 : cmpL s.1 ls = 0
    · rw [if_pos h0]
      refine ⟨s, rfl, (cmpL_three.zero _ _).1 h0, ?_, ?_⟩
      · unfold findS
        rw [if_pos h0]
      · unfold addS
        rw [if_pos h0]
        rfl
    · rw [if_neg h0] at h ⊢
      by_cases h1 : 0 < cmpL s.1 ls
      · rw [if_pos h1] at h
        cases h
      · rw [if_neg h1] at h ⊢
        obtain ⟨s', e1, e2, e3, e4⟩ := atP_found ls x h
        refine ⟨s', e1, e2, ?_, ?_⟩
        · unfold findS
          rw [if_neg h0]
          exact e3
        · unfold addS
          rw [if_neg h0, if_neg h1, e4]
          rfl
theorem atP_new (ls : List Lbl) (x : HSmp) : ∀ {ss : List HSer}, (atP ls ss).2 = false → addS ls x ss = ss.take (atP ls ss).1 ++ (ls, [x]) :: ss.drop (atP ls ss).1
  | [], _ => rfl
  | s :: r, h => by
    unfold atP at h ⊢
    by_cases h0 : cmpL s.1 ls = 0
    · rw [if_pos h0] at h
      cases h
    · rw [if_neg h0] at h ⊢
      by_cases h1 : 0 < cmpL s.1 ls
      · rw [if_pos h1]
        unfold addS
        rw [if_neg h0, if_pos h1]
        rfl
      · rw [if_neg h1] at h ⊢
        unfold addS
        rw [if_neg h0, if_neg h1, atP_new ls x h]
        rfl
theorem atP_none (ls : List Lbl) : ∀ {ss : List HSer}, ss.Pairwise (fun a b => cmpL a.1 b.1 < 0) → (atP ls ss).2 = false → findS ls ss = none
  | [], _, _ => rfl
  | s :: r, hp, h => by
    rw [List.pairwise_cons] at hp
    unfold atP at h
    unfold findS
    by_cases h0 : cmpL s.1 ls = 0
    · rw [if_pos h0] at h
      cases h
    · rw [if_neg h0] at h ⊢
      by_cases h1 : 0 < cmpL s.1 ls
      · rw [findS_none]
        intro q hq e
        have h2 := hp.1 q hq
        rw [e] at h2
        omega
      · rw [if_neg h1] at h
        exact atP_none ls hp.2 h
theorem atP_step {ls : List Lbl} {ss : List HSer} {k : Nat} {s : HSer} (hk : ss[k]? = some s) (h : cmpL s.1 ls < 0) : atP ls (ss.drop k) = ((atP ls (ss.drop (k + 1))).1 + 1, (atP ls (ss.drop (k + 1))).2) := by
  obtain ⟨h1, h2⟩ := List.getElem?_eq_some_iff.1 hk
  rw [List.drop_eq_getElem_cons h1, h2]
  conv => lhs; unfold atP
  rw [if_neg (by omega), if_neg (by omega)]
theorem atP_zero {ls : List Lbl} {ss : List HSer} {k : Nat} {s : HSer} (hk : ss[k]? = some s) (h : cmpL s.1 ls = 0) : atP ls (ss.drop k) = (0, true) := by
  obtain ⟨h1, h2⟩ := List.getElem?_eq_some_iff.1 hk
  rw [List.drop_eq_getElem_cons h1, h2]
  unfold atP
  rw [if_pos h]
theorem atP_stop {ls : List Lbl} {ss : List HSer} {k : Nat} {s : HSer} (hk : ss[k]? = some s) (h : 0 < cmpL s.1 ls) : atP ls (ss.drop k) = (0, false) := by
  obtain ⟨h1, h2⟩ := List.getElem?_eq_some_iff.1 hk
  rw [List.drop_eq_getElem_cons h1, h2]
  unfold atP
  rw [if_neg (by omega), if_pos h]
theorem Hd.Ok.last_lt {H : Hd} (h : H.Ok) {ls : List Lbl} {r : List HSmp} (hf : findS ls H.ss = some r) : ∃ x, r.getLast? = some x ∧ H.last ls = some (x.1, x.2.1) := by
  obtain ⟨s, h1, h2, h3⟩ := findS_mem hf
  have hp := (h.ser s h1).pos
  rw [h3] at hp
  cases hx : r.getLast? with
  | none => exact absurd (List.getLast?_eq_none_iff.1 hx) hp
  | some x =>
    refine ⟨x, rfl, ?_⟩
    unfold Hd.last
    rw [hf]
    show some (lastOf r) = _
    unfold lastOf
    rw [hx]
    rfl
/-- the document's horizon is the program's -/
theorem horizon_same {ret newest : Int} (hr : 0 ≤ ret) (hn : newest ≤ 9007199254740992) : (if newest < -9007199254740992 + ret ∨ 18014398509481984 < ret then -9007199254740993 else newest - ret) = horizonP ret newest := by
  unfold horizonP big
  split <;> split <;> omega
end Go.Proofs.YtbeeejpjnniejaaGreatDoor
