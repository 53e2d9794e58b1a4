/- For the document's add: a new series' place. -/
import Derived.Test.YtbeeejpjnniejaaGreatDoorHRaddL
namespace Go.Proofs.YtbeeejpjnniejaaGreatDoor
open Go.RowKit Go.Shelf Go.Maps
theorem insert_get {α : Type} (l : List α) (i : Nat) (a : α) (hi : i ≤ l.length) (j : Nat) : (l.take i ++ a :: l.drop i)[j]? = if j < i then l[j]? else if j = i then some a else l[j - 1]? := by
  have hlen : (l.take i).length = i := by rw [List.length_take]; omega
  by_cases h : j < i
  · rw [if_pos h, List.getElem?_append_left (by omega), List.getElem?_take_of_lt h]
  · rw [if_neg h, List.getElem?_append_right (by omega), hlen]
    by_cases h2 : j = i
    · rw [if_pos h2, h2, Nat.sub_self]
      rfl
    · rw [if_neg h2]
      obtain ⟨m, hm⟩ : ∃ m, j - i = m + 1 := ⟨j - i - 1, by omega⟩
      rw [hm, List.getElem?_cons_succ, List.getElem?_drop]
      congr 1
      omega
theorem insert_len {α : Type} (l : List α) (i : Nat) (a : α) (hi : i ≤ l.length) : (l.take i ++ a :: l.drop i).length = l.length + 1 := by
  rw [List.length_append, List.length_cons, List.length_take, List.length_drop]; omega
theorem insert_set {α : Type} (l : List α) (i : Nat) (a b : α) (hi : i ≤ l.length) : (l.take i ++ a :: l.drop i).set i b = l.take i ++ b :: l.drop i := by
  have hlen : (l.take i).length = i := by rw [List.length_take]; omega
  rw [List.set_append_right _ _ (by omega), hlen, Nat.sub_self]
  rfl
structure MidA (w : World) (F : Nat → Prop) (p n i : Nat) (H : Hd) (pl : List Lbl) (wx : World) : Prop where
  out : ∃ H1 vL vs r, RAt wx (Grs F w wx) p H1 vL vs ∧ H1.ret = H.ret ∧ H1.newest = H.newest ∧ H1.ss[i]? = some (pl, r) ∧ r.length ≤ n ∧ H1.ss.length ≤ n + 1 ∧ (∀ x, addS pl x H.ss = H1.ss.set i (pl, r ++ [x])) ∧ Chg F w wx
theorem add_new {w w9 : World} {F : Nat → Prop} {p n : Nat} {H : Hd} {vL : Value} {vs : List VV} {pl : List Lbl} (h : RAt w F p H vL vs) (hn : H.ss.length ≤ n) (hf : (atP pl H.ss).2 = false) (hb : Below w.heap.size w w9) {vL' lv : Value}
    (hl : w9.ownsRow w.heap.size 55 2 lv pl.length (flatL pl)) (ho : w9.ownsRow w.heap.size 153 2 vL' (H.ss.length + 1) (flatV (vs.take (atP pl H.ss).1 ++ (lv, Value.slice none 0 0) :: vs.drop (atP pl H.ss).1))) :
    MidA w F p n (atP pl H.ss).1 H pl (w9.setCell ⟨p, 1, none⟩ vL') := by
  have hnew := fun x => atP_new pl x hf
  have hi : (atP pl H.ss).1 ≤ H.ss.length := atP_le pl H.ss
  generalize (atP pl H.ss).1 = i at ho hnew hi ⊢
  have hsz := hb.size
  have hsc : (w9.setCell ⟨p, 1, none⟩ vL').heap.size = w9.heap.size := by simp [World.setCell]
  have h9 : RAt w9 (Grs F w w9) p H vL vs := h.keep (fun j _ hlt => hb.block j hlt) fun j hj hlt => ⟨.inl hj, by omega⟩
  have hvl := h.len
  have hne : ∀ {b : Nat} {e : TypeId} {z m : Nat} {v : Value} {xs : List Value}, w9.ownsRow b e z v m xs → e ≠ 144 → v.ownBlock ≠ some (⟨p, 1, none⟩ : Addr).block := fun h1 h2 => own_blk_ne h1 h9.blk h2
  have hfr : ∀ {e : TypeId} {z m : Nat} {v : Value} {xs : List Value}, w9.ownsRow w.heap.size e z v m xs → ∀ k, v.ownBlock = some k → Grs F w (w9.setCell ⟨p, 1, none⟩ vL') k := fun h1 k hk => ⟨.inr (by have := (h1.lt k hk).1; omega), by rw [hsc]; exact (h1.lt k hk).2⟩
  have hup : ∀ {v : Value}, (∀ k, v.ownBlock = some k → Grs F w w9 k) → ∀ k, v.ownBlock = some k → Grs F w (w9.setCell ⟨p, 1, none⟩ vL') k := fun h1 k hk => ⟨(h1 k hk).1, by rw [hsc]; exact (h1 k hk).2⟩
  refine ⟨{ H with ss := H.ss.take i ++ (pl, []) :: H.ss.drop i }, vL', vs.take i ++ (lv, Value.slice none 0 0) :: vs.drop i, [], ⟨h9.blk.set_ 1 vL', ⟨h9.own.1, by rw [hsc]; exact h9.own.2⟩, ?_, hfr ho, ?_, ?_⟩, rfl, rfl, ?_, Nat.zero_le _, ?_, fun x => ?_, ?_⟩
  · show World.ownsRow _ 0 153 2 vL' (H.ss.take i ++ (pl, []) :: H.ss.drop i).length _
    rw [insert_len _ _ _ hi]
    exact ownsRow_setCell_other (own_base0 ho) (hne ho (by decide)) _
  · show (vs.take i ++ (lv, Value.slice none 0 0) :: vs.drop i).length = (H.ss.take i ++ (pl, []) :: H.ss.drop i).length
    rw [insert_len _ _ _ hi, insert_len _ _ _ (by omega), hvl]
  · intro j x s hx hs
    rw [insert_get _ _ _ (by omega)] at hx
    replace hs : (H.ss.take i ++ (pl, []) :: H.ss.drop i)[j]? = some s := hs
    rw [insert_get _ _ _ hi] at hs
    by_cases c1 : j < i
    · rw [if_pos c1] at hx hs
      have hea := h9.each j x s hx hs
      exact ⟨⟨ownsRow_setCell_other hea.1.1 (hne hea.1.1 (by decide)) _, hup hea.1.2⟩, ownsRow_setCell_other hea.2.1 (hne hea.2.1 (by decide)) _, hup hea.2.2⟩
    · rw [if_neg c1] at hx hs
      by_cases c2 : j = i
      · rw [if_pos c2] at hx hs
        injection hx with hx
        injection hs with hs
        subst hx hs
        exact ⟨⟨ownsRow_setCell_other (own_base0 hl) (hne hl (by decide)) _, hfr hl⟩, World.ownsRow_nil _ _ _ _, fun k hk => by cases hk⟩
      · rw [if_neg c2] at hx hs
        have hea := h9.each (j - 1) x s hx hs
        exact ⟨⟨ownsRow_setCell_other hea.1.1 (hne hea.1.1 (by decide)) _, hup hea.1.2⟩, ownsRow_setCell_other hea.2.1 (hne hea.2.1 (by decide)) _, hup hea.2.2⟩
  · show (H.ss.take i ++ (pl, []) :: H.ss.drop i)[i]? = _
    rw [insert_get _ _ _ hi, if_neg (Nat.lt_irrefl _), if_pos rfl]
  · show (H.ss.take i ++ (pl, []) :: H.ss.drop i).length ≤ n + 1
    rw [insert_len _ _ _ hi]; omega
  · show addS pl x H.ss = (H.ss.take i ++ (pl, []) :: H.ss.drop i).set i _
    rw [insert_set _ _ _ _ hi, hnew x]
    rfl
  · exact (Chg.of_below hb).setCell (p := ⟨p, 1, none⟩) (.inl h.own) _
end Go.Proofs.YtbeeejpjnniejaaGreatDoor
