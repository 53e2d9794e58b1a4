/- The document's head in memory: one series' row is laid anew. -/
import Derived.Test.YtbeeejpjnniejaaGreatDoorHRh
import Derived.Test.YtbeeejpjnniejaaGreatDoorJ09HCommit1
namespace Go.Proofs.YtbeeejpjnniejaaGreatDoor
open Go.RowKit Go.Shelf Go.Maps
/-- a cell of an owned row is written -/
theorem own_set_cell {w : World} {b : Nat} {e : TypeId} {z n c : Nat} {d : Addr} {xs : List Value} (h : w.ownsRow b e z (.slice (some d) n c) n xs) (j : Nat) (u : Value) : (w.setCell (d.add j) u).ownsRow b e z (.slice (some d) n c) n (xs.set j u) := by
  obtain ⟨h1, ⟨h2, -⟩ | ⟨g, cap, cur, hv, hg, hh, h3, h4, h5, h6⟩⟩ := h
  · cases h2
  · injection hv with ha hn hc
    injection ha with ha
    subst ha hc
    refine ⟨by rw [List.length_set]; exact h1, .inr ⟨g, c, cur.setIfInBounds j u, rfl, hg, ?_, h3, h4, by rw [Array.size_setIfInBounds]; exact h5, ?_⟩⟩
    · rw [show (⟨g, 0, none⟩ : Addr).add j = ⟨g, j, none⟩ by cases j <;> simp [Addr.add]]
      simp [World.setCell, Array.getElem?_modify, hh]
    · rw [Array.toList_setIfInBounds, List.take_set, h6]
theorem flatV_set : ∀ (vs : List VV) (i : Nat) (x : VV) (u : Value), vs[i]? = some x → flatV (vs.set i (x.1, u)) = (flatV vs).set (i * 2 + 1) u
  | [], i, x, u, h => by simp at h
  | a :: l, 0, x, u, h => by
    simp at h; subst h
    rfl
  | a :: l, i + 1, x, u, h => by
    have ih := flatV_set l i x u (by simpa using h)
    unfold flatV at ih ⊢
    rw [List.set_cons_succ]
    show flat2 _ _ (a :: l.set i (x.1, u)) = _
    unfold flat2 at ih ⊢
    rw [List.flatMap_cons, ih, List.flatMap_cons, show (i + 1) * 2 + 1 = i * 2 + 1 + 1 + 1 by omega]
    rfl
theorem RAt.setRow {w : World} {F : Nat → Prop} {p N c : Nat} {H : Hd} {d : Addr} {vs : List VV} (h : RAt w F p H (.slice (some d) N c) vs) (hN : N = H.ss.length) {i : Nat} {xv : VV} {s : HSer} (hx : vs[i]? = some xv) (hs : H.ss[i]? = some s)
    {v' : Value} {l' : List HSmp} (ho : w.ownsRow 0 155 3 v' l'.length (rowV l')) (hF : ∀ k, v'.ownBlock = some k → F k) :
    RAt (w.setCell (d.add (i * 2 + 1)) v') F p { H with ss := H.ss.set i (s.1, l') } (.slice (some d) N c) (vs.set i (xv.1, v')) := by
  have hrow := h.row
  rw [← hN] at hrow
  have hob : (Value.slice (some d) N c).ownBlock = some (d.add (i * 2 + 1)).block := rfl
  have hne : ∀ {e : TypeId} {z m : Nat} {v : Value} {xs : List Value}, w.ownsRow 0 e z v m xs → e ≠ 153 → v.ownBlock ≠ some (d.add (i * 2 + 1)).block := fun h1 h2 e => by
    rcases own_ne2 h1 hrow h2 with h3 | h3
    · rw [h3] at e; cases e
    · exact h3 (e.trans hob.symm)
  have hpb : p ≠ (d.add (i * 2 + 1)).block := fun e => own_blk_ne hrow h.blk (by decide) (hob.trans (congrArg some e.symm))
  refine ⟨h.blk.far hpb _, h.own, ?_, h.rowF, by simp [h.len], ?_⟩
  · show World.ownsRow _ 0 153 2 _ (H.ss.set i (s.1, l')).length (flatV (vs.set i (xv.1, v')))
    rw [List.length_set, flatV_set vs i xv v' hx, ← hN]
    exact own_set_cell hrow _ _
  · intro j x t hj ht
    replace ht : (H.ss.set i (s.1, l'))[j]? = some t := ht
    by_cases hij : i = j
    · subst hij
      have e1 := (List.getElem?_eq_some_iff.1 hx).1
      have e2 := (List.getElem?_eq_some_iff.1 hs).1
      rw [List.getElem?_set_self e1] at hj
      rw [List.getElem?_set_self e2] at ht
      injection hj with hj
      injection ht with ht
      subst hj ht
      have hea := h.each i xv s hx hs
      exact ⟨⟨ownsRow_setCell_other hea.1.1 (hne hea.1.1 (by decide)) _, hea.1.2⟩, ownsRow_setCell_other ho (hne ho (by decide)) _, hF⟩
    · rw [List.getElem?_set_ne hij] at hj ht
      have hea := h.each j x t hj ht
      exact ⟨⟨ownsRow_setCell_other hea.1.1 (hne hea.1.1 (by decide)) _, hea.1.2⟩, ownsRow_setCell_other hea.2.1 (hne hea.2.1 (by decide)) _, hea.2.2⟩
end Go.Proofs.YtbeeejpjnniejaaGreatDoor
