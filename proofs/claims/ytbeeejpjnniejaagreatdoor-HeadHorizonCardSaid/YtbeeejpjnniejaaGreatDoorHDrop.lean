/- Drop (25): what lies before a time is taken off each series, but for its last sample. -/
import Derived.Test.YtbeeejpjnniejaaGreatDoorJ11HTold
import Derived.Maps.RangeWalk
namespace Go.Proofs.YtbeeejpjnniejaaGreatDoor
open Go.RowKit Go.Shelf Go.Maps
attribute [-go_sem] Builtin.append_
attribute [local go_sem] Oper.semAt_some
def fromI (t : Int) (r : List HSmp) : Nat := (r.takeWhile fun x => decide (x.1 < t)).length
theorem FromAt.eq {t : Int} : ∀ {r : List HSmp} {i : Nat}, FromAt r t i → i = fromI t r
  | [], i, h => by
    have := h.le
    simp at this
    subst this
    rfl
  | a :: r, 0, h => by
    have := h.high 0 a rfl (Nat.le_refl _)
    unfold fromI
    rw [List.takeWhile_cons, if_neg (by simp; omega)]
    rfl
  | a :: r, i + 1, h => by
    have h1 := h.low 0 a rfl (by omega)
    have h2 : FromAt r t i := ⟨by have := h.le; simp at this; omega, fun j x hj hlt => h.low (j + 1) x (by simpa using hj) (by omega), fun j x hj hle => h.high (j + 1) x (by simpa using hj) (by omega)⟩
    have h3 := h2.eq
    unfold fromI at h3 ⊢
    rw [List.takeWhile_cons, if_pos (by simpa using h1), List.length_cons, ← h3]
def dropI (t : Int) (r : List HSmp) : Nat := min (fromI t r) (r.length - 1)
def dropRow (t : Int) (r : List HSmp) : List HSmp := r.drop (dropI t r)
def Hd.drop (H : Hd) (t : Int) : Hd := { H with ss := H.ss.map fun s => (s.1, dropRow t s.2) }
theorem dropRow_len (t : Int) (r : List HSmp) : (dropRow t r).length ≤ r.length := by unfold dropRow; rw [List.length_drop]; omega
theorem dropRow_pos (t : Int) {r : List HSmp} (h : r ≠ []) : dropRow t r ≠ [] := by
  have h1 := List.length_pos_iff.2 h
  refine List.length_pos_iff.1 ?_
  unfold dropRow dropI
  rw [List.length_drop]
  omega
theorem Hd.Ok.drop {H : Hd} (h : H.Ok) (t : Int) : (H.drop t).Ok where
  ret := h.ret
  newest := h.newest
  sorted := by
    show List.Pairwise _ (H.ss.map _)
    rw [List.pairwise_map]
    exact h.sorted
  ser := fun s hs => by
    obtain ⟨x, hx, rfl⟩ := List.mem_map.1 hs
    have h1 := h.ser x hx
    exact ⟨h1.right, dropRow_pos t h1.pos, List.Pairwise.sublist (List.drop_sublist _ _) h1.rises, fun y hy => h1.times y (List.mem_of_mem_drop hy)⟩
theorem rowV_drop (r : List HSmp) (k : Nat) : (rowV r).drop (k * 3) = rowV (r.drop k) := by
  induction k generalizing r with
  | zero => simp
  | succ k ih =>
    cases r with
    | nil => simp [rowV]
    | cons a r =>
      rw [List.drop_succ_cons, ← ih r]
      show (smpV a ++ rowV r).drop ((k + 1) * 3) = _
      rw [List.drop_append, List.drop_of_length_le (by simp [smpV]; omega), List.nil_append]
      congr 1
      simp [smpV]; omega
/-- a series' row is laid anew -/
theorem head_set {wx wy w5 : World} {G G' : Nat → Prop} {p g : Nat} {s1 : HS} {v5 : Value} {r' : List HSmp} {k : Nm} (hd : HeadAt wx G p s1) (hm : (k, g) ∈ s1.dir) (hb : Below wx.heap.size wx wy)
    (hown : w5.ownsRow 0 148 3 v5 r'.length (rowV r')) (hgr : wy.grownBy w5 none) (hor : v5.ownBlock = none ∨ v5.ownBlock = some wy.heap.size) (hup : ∀ j, G j → j < wx.heap.size → G' j) (hnew : ∀ j, v5.ownBlock = some j → G' j) :
    HeadAt (w5.setCell ⟨g, 1, none⟩ v5) G' p { s1 with vr := upd s1.vr g v5, row := upd s1.row g r' } := by
  obtain ⟨wz, hwz⟩ : ∃ wz, wz = w5.setCell ⟨g, 1, none⟩ v5 := ⟨_, rfl⟩
  rw [← hwz]
  have hsg := hd.ser _ hm
  dsimp only at hsg
  have hszy := hb.size
  have hsz5 := hgr.size
  have hpg : p ≠ g := Blk.ne_ hd.blk hsg.blk (by decide)
  have hkeep : ∀ k, k < wx.heap.size → k ≠ g → wz.heap[k]? = wx.heap[k]? := fun k hk h2 => by
    rw [hwz]
    exact (Below.heap_setCell w5 ⟨g, 1, none⟩ v5 k h2).trans ((hgr.block k (by omega) (by simp)).trans (hb.block k hk))
  have hbg : Blk wz g 140 #[s1.vl g, v5] := by
    rw [hwz]
    have b1 : Blk w5 g 140 #[s1.vl g, s1.vr g] := (hsg.blk.below hb hsg.blk.lt).grown hgr (by simp)
    exact b1.set_ 1 v5
  have hrowne : ∀ {e : TypeId} {b z m : Nat} {v : Value} {xs : List Value}, wx.ownsRow b e z v m xs → e ≠ 140 → wz.ownsRow b e z v m xs := by
    intro e b z m v xs ho h2
    exact own_blk ho fun j hj => hkeep j (ho.lt j hj).2 fun e => own_blk_ne ho hsg.blk h2 (e ▸ hj)
  have hownz : wz.ownsRow 0 148 3 v5 r'.length (rowV r') := by
    rw [hwz]
    have b1 : Blk w5 g 140 #[s1.vl g, s1.vr g] := (hsg.blk.below hb hsg.blk.lt).grown hgr (by simp)
    exact ownsRow_setCell_other hown (own_blk_ne hown b1 (by decide)) (a := ⟨g, 1, none⟩) v5
  refine ⟨(hkeep p hd.blk.lt hpg).trans hd.blk, hup _ hd.own hd.blk.lt, hd.dir.keep (hkeep _ hd.dir.lt (hd.dir.blk_ne hsg.blk)), hup _ hd.mF hd.dir.lt, fun x hx => ?_, hd.key, hd.inj, fun x hx y hy hxy => ?_⟩
  · have hsx := hd.ser x hx
    by_cases e : x.2 = g
    · rw [e] at hsx ⊢
      refine ⟨?_, hup _ hsx.own hsx.blk.lt, hrowne hsx.labs (by decide), fun k e => hup _ (hsx.labF k e) (hsx.labs.lt k e).2, ?_, ?_⟩
      · show Blk wz g 140 #[s1.vl g, upd s1.vr g v5 g]
        rw [upd_same]; exact hbg
      · show World.ownsRow wz 0 148 3 (upd s1.vr g v5 g) (upd s1.row g _ g).length (rowV (upd s1.row g _ g))
        rw [upd_same, upd_same]; exact hownz
      · show ∀ k, (upd s1.vr g v5 g).ownBlock = some k → _
        rw [upd_same]; exact hnew
    · refine ⟨?_, hup _ hsx.own hsx.blk.lt, hrowne hsx.labs (by decide), fun k e => hup _ (hsx.labF k e) (hsx.labs.lt k e).2, ?_, ?_⟩
      · show Blk wz x.2 140 #[s1.vl x.2, upd s1.vr g v5 x.2]
        rw [upd_ne _ _ e]
        exact (hkeep x.2 hsx.blk.lt e).trans hsx.blk
      · show World.ownsRow wz 0 148 3 (upd s1.vr g v5 x.2) (upd s1.row g _ x.2).length (rowV (upd s1.row g _ x.2))
        rw [upd_ne _ _ e, upd_ne _ _ e]
        exact hrowne hsx.row (by decide)
      · show ∀ k, (upd s1.vr g v5 x.2).ownBlock = some k → _
        rw [upd_ne _ _ e]
        exact fun k e => hup _ (hsx.rowF k e) (hsx.row.lt k e).2
  · show (upd s1.vr g v5 x.2).ownBlock = none ∨ (upd s1.vr g v5 x.2).ownBlock ≠ (upd s1.vr g v5 y.2).ownBlock
    have hax := hd.apart x hx y hy hxy
    by_cases e : x.2 = g
    · have ey : y.2 ≠ g := fun e2 => hxy (e.trans e2.symm)
      rw [e, upd_same, upd_ne _ _ ey]
      rcases hor with h5 | h5
      · exact .inl h5
      · refine .inr fun e2 => ?_
        rw [h5] at e2
        have := ((hd.ser y hy).row.lt _ e2.symm).2
        omega
    · by_cases ey : y.2 = g
      · rw [ey, upd_same, upd_ne _ _ e]
        rcases hor with h5 | h5
        · rcases hax with h6 | h6
          · exact .inl h6
          · cases hx0 : (s1.vr x.2).ownBlock with
            | none => exact .inl rfl
            | some j => exact .inr fun e2 => by rw [h5] at e2; cases e2
        · refine .inr fun e2 => ?_
          rw [h5] at e2
          have := ((hd.ser x hx).row.lt _ e2).2
          omega
      · rw [upd_ne _ _ e, upd_ne _ _ ey]
        exact hax
/-- between two rounds -/
def GrR (F : Nat → Prop) (w : World) (r : Nat) (wr : World) (k : Nat) : Prop := Grs F w wr k ∧ k ≠ r
structure DropI (w : World) (F : Nat → Prop) (p : Nat) (s : HS) (t : Int) (r : Nat) (left : Lit → Bool) (s1 : HS) (wr : World) : Prop where
  hd : HeadAt wr (GrR F w r wr) p s1
  dirE : s1.dir = s.dir
  mE : s1.m = s.m
  labE : s1.lab = s.lab
  retE : s1.ret = s.ret
  newE : s1.newest = s.newest
  rows : ∀ x ∈ s.dir, s1.row x.2 = if left (.string x.1) then s.row x.2 else dropRow t (s.row x.2)
  chg : Chg F w wr
theorem DropI.start {w w0 : World} {F : Nat → Prop} {p : Nat} {s : HS} {t : Int} (h : HeadAt w F p s) (hF : ∀ k, F k → k < w.heap.size) (hg : w.grownBy w0 none) : DropI w F p s t w.heap.size (Maps.has (dirD s.dir)) s w0 where
  hd := h.keep (fun k _ hk => hg.block k hk (by simp)) (fun k hk => ⟨⟨.inl hk, by have := hF k hk; have := hg.size; omega⟩, by have := hF k hk; omega⟩) hg.size
  dirE := rfl
  mE := rfl
  labE := rfl
  retE := rfl
  newE := rfl
  rows := fun x hx => by
    rw [if_pos]
    show Maps.has (dirD s.dir) (.string x.1) = true
    unfold dirD Maps.has
    simp only [List.any_map, List.any_eq_true]
    exact ⟨x, hx, by simp [encE, Lit.sameKey]⟩
  chg := (Chg.refl F w).grown hg fun g h => by cases h
theorem DropI.iter {w wr w1 : World} {F : Nat → Prop} {p : Nat} {s s1 : HS} {t : Int} {r : Nat} {left : Lit → Bool} (h : DropI w F p s t r left s1 wr) (hg : wr.grownBy w1 (some r)) (hr : w.heap.size ≤ r) : DropI w F p s t r left s1 w1 where
  hd := h.hd.keep (fun k hk hlt => hg.block k hlt (by intro e; injection e with e; exact hk.2 e)) (fun k hk => ⟨⟨hk.1.1, by have := hk.1.2; have := hg.size; omega⟩, hk.2⟩) hg.size
  dirE := h.dirE
  mE := h.mE
  labE := h.labE
  retE := h.retE
  newE := h.newE
  rows := h.rows
  chg := h.chg.grown hg fun g e => by cases e; exact .inr hr
theorem DropI.step {w wx wy w5 : World} {F : Nat → Prop} {p g : Nat} {s s1 : HS} {t : Int} {r : Nat} {left : Lit → Bool} {k : Nm} {v5 : Value} (h : DropI w F p s t r left s1 wx) (hm : (k, g) ∈ s.dir) (hleft : left (.string k) = true) (hs : HeadAt w F p s) (hF : ∀ k, F k → k < w.heap.size)
    (hb : Below wx.heap.size wx wy) (hown : w5.ownsRow 0 148 3 v5 (dropRow t (s.row g)).length (rowV (dropRow t (s.row g)))) (hgr : wy.grownBy w5 none) (hor : v5.ownBlock = none ∨ v5.ownBlock = some wy.heap.size) (hr : r < wx.heap.size) :
    DropI w F p s t r (fun z => left z && !z.sameKey (.string k)) { s1 with vr := upd s1.vr g v5, row := upd s1.row g (dropRow t (s.row g)) } (w5.setCell ⟨g, 1, none⟩ v5) := by
  have hsz1 := hb.size
  have hsz5 := hgr.size
  have hszz : (w5.setCell ⟨g, 1, none⟩ v5).heap.size = w5.heap.size := by simp [World.setCell]
  have hgF : F g := (hs.ser _ hm).own
  have hws := h.chg.size
  have h5 : ∀ j, v5.ownBlock = some j → j = wy.heap.size ∧ j < w5.heap.size := fun j hj => by
    refine ⟨?_, (hown.lt j hj).2⟩
    rcases hor with e | e
    · rw [e] at hj; cases hj
    · rw [e] at hj; injection hj with hj; exact hj.symm
  refine ⟨head_set (hd := h.hd) (k := k) (by rw [h.dirE]; exact hm) hb hown hgr hor (fun j hj hlt => ⟨⟨hj.1.1, by rw [hszz]; omega⟩, hj.2⟩) (fun j hj => ?_), h.dirE, h.mE, h.labE, h.retE, h.newE, fun x hx => ?_, ?_⟩
  · obtain ⟨e1, e2⟩ := h5 j hj
    exact ⟨⟨.inr (by omega), by rw [hszz]; exact e2⟩, by omega⟩
  · by_cases e : x.2 = g
    · have e1 : x = (k, g) := dir_once hs.inj hx hm e
      subst e1
      show upd s1.row g _ g = _
      rw [upd_same, if_neg]
      simp [Lit.sameKey]
    · show upd s1.row g _ x.2 = _
      rw [upd_ne _ _ e, h.rows x hx]
      have hk : x.1 ≠ k := fun e1 => e (congrArg Prod.snd (pair_once (f := Prod.fst) hs.dir.tidy hx hm e1))
      have : (left (.string x.1) && !(Lit.string x.1).sameKey (.string k)) = left (.string x.1) := by
        have h1 : (Lit.string x.1).sameKey (.string k) = false := by simp [Lit.sameKey, hk]
        rw [h1]; simp
      simp only [this]
  · exact ((h.chg.below hb hws).grown hgr fun g h => by cases h).setCell (p := ⟨g, 1, none⟩) (.inl hgF) _
theorem DropI.done {w wr : World} {F : Nat → Prop} {p n : Nat} {s s1 : HS} {t : Int} {r : Nat} {left : Lit → Bool} {H : Hd} (h : DropI w F p s t r left s1 wr) (hl : ∀ kl, left kl = false) (ht : Tells s H) (hok : H.Ok) (hn1 : H.ss.length ≤ n) (hn2 : ∀ x ∈ H.ss, x.2.length ≤ n) :
    HdAt wr (Grs F w wr) p n (H.drop t) := by
  refine ⟨s1, h.hd.keep (fun _ _ _ => rfl) (fun k hk => hk.1) (Nat.le_refl _), ⟨h.retE.trans ht.ret, h.newE.trans ht.newest, ?_⟩, hok.drop t, by show (H.ss.map _).length ≤ n; rw [List.length_map]; exact hn1, fun x hx => ?_⟩
  · have e : (s1.dir.map fun x => (s1.lab x.2, s1.row x.2)) = (s.dir.map fun x => (s.lab x.2, s.row x.2)).map fun q => (q.1, dropRow t q.2) := by
      rw [h.dirE, h.labE, List.map_map]
      refine List.map_congr_left fun x hx => ?_
      have := h.rows x hx
      rw [hl] at this
      simp only [Function.comp]
      rw [this]
      rfl
    rw [e]
    exact ht.perm.map _
  · obtain ⟨y, hy, rfl⟩ := List.mem_map.1 hx
    exact Nat.le_trans (dropRow_len t y.2) (hn2 y hy)
end Go.Proofs.YtbeeejpjnniejaaGreatDoor
