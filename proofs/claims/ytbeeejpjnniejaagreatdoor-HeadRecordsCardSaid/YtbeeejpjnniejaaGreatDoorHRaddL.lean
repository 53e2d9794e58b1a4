/- For the document's add: what lies in memory behind it. -/
import Derived.Test.YtbeeejpjnniejaaGreatDoorHRset
import Derived.Test.YtbeeejpjnniejaaGreatDoorHRplan
namespace Go.Proofs.YtbeeejpjnniejaaGreatDoor
open Go.RowKit Go.Shelf Go.Maps
theorem own_base0 {w : World} {b : Nat} {e : TypeId} {z n : Nat} {v : Value} {xs : List Value} (h : w.ownsRow b e z v n xs) : w.ownsRow 0 e z v n xs := by
  obtain ⟨h1, h2 | ⟨g, cap, cur, hv, hb, r⟩⟩ := h
  · exact ⟨h1, .inl h2⟩
  · exact ⟨h1, .inr ⟨g, cap, cur, hv, Nat.zero_le _, r⟩⟩
theorem own_free {w : World} {b : Nat} {e : TypeId} {z n c : Nat} {d : Addr} {xs : List Value} (h : w.ownsRow b e z (.slice (some d) n c) n xs) (o : Nat) : w.frozen? ⟨d.block, o, none⟩ = false := by
  obtain ⟨h1, ⟨h2, -⟩ | ⟨g, cap, cur, hv, hb, hh, r⟩⟩ := h
  · cases h2
  · injection hv with ha
    injection ha with ha
    subst ha
    simp [World.frozen?, hh]
theorem own_add {w : World} {b : Nat} {e : TypeId} {z n c : Nat} {d : Addr} {xs : List Value} (h : w.ownsRow b e z (.slice (some d) n c) n xs) (j : Nat) : (⟨(d.add j).block, (d.add j).off + 1, none⟩ : Addr) = d.add (j + 1) ∧ (d.add j).block = d.block := by
  obtain ⟨h1, ⟨h2, -⟩ | ⟨g, cap, cur, hv, hb, hh, r⟩⟩ := h
  · cases h2
  · injection hv with ha
    injection ha with ha
    subst ha
    have e1 : ∀ m, (⟨g, 0, none⟩ : Addr).add m = ⟨g, m, none⟩ := fun m => by cases m <;> simp [Addr.add]
    rw [e1, e1]
    exact ⟨rfl, rfl⟩
theorem RAt.newest {w : World} {F : Nat → Prop} {p : Nat} {H : Hd} {vL : Value} {vs : List VV} (h : RAt w F p H vL vs) (t : Int) : RAt (w.setCell ⟨p, 2, none⟩ (.int .i64 t)) F p { H with newest := t } vL vs := by
  have hne : ∀ {e : TypeId} {z m : Nat} {v : Value} {xs : List Value}, w.ownsRow 0 e z v m xs → e ≠ 144 → v.ownBlock ≠ some (⟨p, 2, none⟩ : Addr).block := fun h1 h2 => own_blk_ne h1 h.blk h2
  refine ⟨h.blk.set_ 2 _, h.own, ownsRow_setCell_other h.row (hne h.row (by decide)) _, h.rowF, h.len, fun i x s a b => ?_⟩
  have hea := h.each i x s a b
  exact ⟨⟨ownsRow_setCell_other hea.1.1 (hne hea.1.1 (by decide)) _, hea.1.2⟩, ownsRow_setCell_other hea.2.1 (hne hea.2.1 (by decide)) _, hea.2.2⟩
/-- the sample has been laid behind its series -/
theorem add_row {w wc w7 : World} {F : Nat → Prop} {p N c i k : Nat} {H1 : Hd} {d : Addr} {vs : List VV} (hr : RAt wc (Grs F w wc) p H1 (.slice (some d) N c) vs) (hN : N = H1.ss.length) {xv : VV} {pl : List Lbl} {r : List HSmp} (hx : vs[i]? = some xv) (hs : H1.ss[i]? = some (pl, r)) (hb : Below wc.heap.size wc w7) (hww : w.heap.size ≤ wc.heap.size)
    {v7 : Value} {x : HSmp} (hk : k = r.length) (ho : w7.ownsRow wc.heap.size 155 3 v7 (k + 1) (rowV r ++ [.int .i64 x.1, .float .f64 x.2.1, .bool x.2.2])) (hch : Chg F w wc) :
    RAt (w7.setCell ⟨(d.add (i * 2)).block, (d.add (i * 2)).off + 1, none⟩ v7) (Grs F w (w7.setCell ⟨(d.add (i * 2)).block, (d.add (i * 2)).off + 1, none⟩ v7)) p { H1 with ss := H1.ss.set i (pl, r ++ [x]) } (.slice (some d) N c) (vs.set i (xv.1, v7)) ∧ Chg F w (w7.setCell ⟨(d.add (i * 2)).block, (d.add (i * 2)).off + 1, none⟩ v7) := by
  have hrow := hr.row
  rw [← hN] at hrow
  obtain ⟨e1, e2⟩ := own_add hrow (i * 2)
  rw [e1]
  have hsz := hb.size
  have h7 : RAt w7 (Grs F w w7) p H1 (.slice (some d) N c) vs := hr.keep (fun j hj hlt => hb.block j hlt) fun j hj hlt => ⟨hj.1, by omega⟩
  have ho' : w7.ownsRow 0 155 3 v7 (r ++ [x]).length (rowV (r ++ [x])) := by
    rw [rowV_append, List.length_append, List.length_singleton, ← hk]
    exact own_base0 ho
  have hF7 : ∀ j, v7.ownBlock = some j → Grs F w w7 j := fun j hj => ⟨.inr (by have := (ho.lt j hj).1; omega), (ho.lt j hj).2⟩
  have hfin := h7.setRow hN hx hs ho' hF7
  have hsc : (w7.setCell (d.add (i * 2 + 1)) v7).heap.size = w7.heap.size := by simp [World.setCell]
  refine ⟨hfin.keep (fun _ _ _ => rfl) fun j hj _ => ⟨hj.1, by rw [hsc]; exact hj.2⟩, ?_⟩
  have hd : Grs F w wc d.block := hr.rowF d.block rfl
  have e3 : (d.add (i * 2 + 1)).block = d.block := (own_add hrow (i * 2 + 1)).2
  exact (hch.below hb hww).setCell (p := d.add (i * 2 + 1)) (by rw [e3]; exact hd.1) _
end Go.Proofs.YtbeeejpjnniejaaGreatDoor
