/- What a batch is planned as (head.plan), with whatever is done with what is taken. The reader of expressions: a class with one range, and what an expression of just such a class is. The reader of expressions: thing, repeated, chain, either, where the expression is a class of one range. -/
import Derived.Test.YtbeeejpjnniejaaGreatDoorJ06Rx2
namespace Go.Proofs.YtbeeejpjnniejaaGreatDoor
open Go.RowKit Go.Shelf Go.Maps
attribute [-go_sem] Builtin.append_
attribute [local go_sem] run_store_float
structure PlOut (w wr : World) (G0 : Nat → Prop) (H : Hd) (J : List Pt → (Nat → Prop) → World → Prop) (pts : List Pt) (k : Nat) (out nw : Value) (G : Nat → Prop) (E : El) : Prop where
  nwE : nw = .int .i64 (H.take (pts.take k)).2.newest
  outO : wr.ownsRow w.heap.size 32 1 out k (((H.take (pts.take k)).1).map (Value.int .i64))
  endsA : EndsAt wr w.heap.size k E
  relE : EndsRel H (H.take (pts.take k)).2 E
  jj : J (H.taken (pts.take k)) G wr
  gg : ∀ g, G g → G0 g ∨ w.heap.size < g
  neG : ∀ g, out.ownBlock = some g → ¬ G g
  chgW : Chg G0 w wr
  g0 : ∀ j, G0 j → j < w.heap.size
def PlR (w : World) (G0 : Nat → Prop) (H : Hd) (J : List Pt → (Nat → Prop) → World → Prop) (pts : List Pt) (out nw i : Value) (wr : World) : Prop :=
  ∃ (k : Nat) (G : Nat → Prop) (E : El), i = .int .i64 (k : Int) ∧ k ≤ pts.length ∧ PlOut w wr G0 H J pts k out nw G E
def PlanPost (w : World) (G0 : Nat → Prop) (H : Hd) (J : List Pt → (Nat → Prop) → World → Prop) (pts : List Pt) (e : Ending) (w' : World) : Prop :=
  ∃ out G, e = .returned out ∧ w'.ownsRow w.heap.size 32 1 out pts.length (((H.take pts).1).map (Value.int .i64)) ∧ J (H.taken pts) G w' ∧ (∀ g, out.ownBlock = some g → ¬ G g) ∧ (∀ g, G g → G0 g ∨ w.heap.size < g) ∧ Chg G0 w w'
theorem PlOut.final {w wr : World} {G0 : Nat → Prop} {H : Hd} {J : List Pt → (Nat → Prop) → World → Prop} {pts : List Pt} {out nw : Value} {G : Nat → Prop} {E : El} (h : PlOut w wr G0 H J pts pts.length out nw G E) : PlanPost w G0 H J pts (.returned out) wr := by
  have h1 := h.outO
  have h2 := h.jj
  rw [List.take_length] at h1 h2
  exact ⟨out, G, rfl, h1, h2, h.neG, h.gg, h.chgW⟩
def endCells : Option Le → Array Value
  | none => #[.int .i64 0, .float .f64 0, .bool false]
  | some x => #[.int .i64 x.1, .float .f64 x.2, .bool true]
theorem lookV_cells (e : Option Le) : lookV e = .agg (endCells e) := by cases e <;> rfl
theorem lookV_parts (e : Option Le) : ∃ (et : Int) (eb : Nat) (th : Bool), lookV e = .agg #[.int .i64 et, .float .f64 eb, .bool th] ∧ e.isSome = th ∧ (th = true → e = some (et, eb)) ∧ (th = false → e = none ∧ et = 0 ∧ eb = 0) := by
  cases e with
  | none => exact ⟨0, 0, false, rfl, rfl, (fun h => by cases h), fun _ => ⟨rfl, rfl, rfl⟩⟩
  | some x => exact ⟨x.1, x.2, true, rfl, rfl, (fun _ => rfl), fun h => by cases h⟩
/-- behind the search for a series' end -/
def EndIn (w4 : World) (L : Option Le) (v : Value) (wx : World) : Prop := v = .pointer (some ⟨w4.heap.size, 0, none⟩) ∧ Blk wx w4.heap.size 213 (endCells L) ∧ Below w4.heap.size w4 wx
theorem take_ret : ∀ (l : List Pt) (H : Hd), (H.take l).2.ret = H.ret
  | [], _ => rfl
  | p :: r, H => by
    show ((H.take1 p).take r).2.ret = _
    rw [take_ret r]
    unfold Hd.take1
    split <;> rfl
/-- a point that is taken -/
theorem PlOut.took {w wr w6 w8 w9 wa wb : World} {G0 G' Q : Nat → Prop} {H : Hd} {J : List Pt → (Nat → Prop) → World → Prop} {pts : List Pt} {k g B N : Nat} {lb : Array Value} {Ao : Option Addr} {co : Nat} {nw v7 : Value} {G : Nat → Prop} {E : El} {q : Pt}
    (h : PlOut w wr G0 H J pts k (.slice Ao k co) nw G E) (hJ : TakeAt g lb B N Q J) (hB : B ≤ w.heap.size) (hq : pts.take (k + 1) = pts.take k ++ [q]) (hok : (H.take (pts.take k)).2.Ok) (hf : fitP q.1 = true) (hc : (H.take (pts.take k)).2.code q = 0) (hb : Below wr.heap.size wr w6)
    (hg8 : w6.grownBy w8 (some w.heap.size)) (hen : EndsAt w8 w.heap.size (k + 1) (eput E (lbytes q.1) q.2)) (hj9 : J (H.taken (pts.take k) ++ [q]) G' w9) (hc9 : Chg G w8 w9) (hg9 : ∀ j, G' j → G j ∨ w8.heap.size ≤ j) (hba : Below w9.heap.size w9 wa)
    (hown : wb.ownsRow w.heap.size 32 1 v7 (k + 1) (((H.take (pts.take k)).1).map (Value.int .i64) ++ [.int .i64 0])) (hgb : wa.grownBy wb (Value.slice Ao k co).ownBlock) (hor : v7.ownBlock = (Value.slice Ao k co).ownBlock ∨ v7.ownBlock = some wa.heap.size) :
    PlOut w wb G0 H J pts (k + 1) v7 (.int .i64 (max (H.take (pts.take k)).2.newest q.2.1)) G' (eput E (lbytes q.1) q.2) := by
  have h1 : (H.take (pts.take (k + 1))).2 = (H.take (pts.take k)).2.add q := by
    rw [hq, take_snoc]
    show Hd.take1 _ _ = _
    unfold Hd.take1
    rw [hc, if_pos rfl]
  have hlt := hJ.lt _ _ _ h.jj
  have hs := hb.size
  have hs8 := hg8.size
  have hs9 := hc9.size
  have hsa := hba.size
  have hm := h.endsA.lt
  have hgw := fun j (hj : G j) => h.gg j hj
  have hmG : ¬ G w.heap.size := fun hj => by
    rcases hgw _ hj with h0 | h0
    · have := h.g0 _ h0
      omega
    · omega
  have hne7 : ∀ j, (Value.slice Ao k co).ownBlock = some j → ¬ G' j := fun j hj hG => by
    rcases hg9 j hG with h0 | h0
    · exact h.neG j hj h0
    · have := (h.outO.lt j hj).2
      omega
  refine ⟨by rw [h1]; rfl, ?_, ?_, by rw [h1]; exact h.relE.put hok hf, ?_, fun j hj => ?_, fun j hj hG => ?_, ?_, h.g0⟩
  · rw [hq, take_snoc, hc, List.map_append]
    exact hown
  · refine hen.keep ?_
    have h2 : w9.heap[w.heap.size]? = w8.heap[w.heap.size]? := hc9.block _ hen.lt hmG
    have h3 : wa.heap[w.heap.size]? = w9.heap[w.heap.size]? := hba.block _ (by omega)
    exact (hgb.block _ (by omega) (h.endsA.own_ne h.outO).symm).trans (h3.trans h2)
  · rw [hq, taken_snoc, hc, if_pos rfl]
    have hlt9 := hJ.lt _ _ _ hj9
    refine hJ.keep _ _ _ _ hj9 (fun j hj => ?_) (Nat.le_trans hsa hgb.size)
    rcases hj with hj | hj
    · have := (hlt9 j hj).2
      exact (hgb.block _ (by omega) (fun e => hne7 j e.symm hj)).trans (hba.block _ this)
    · exact (hgb.block _ (by omega) (fun e => by have := (h.outO.lt j e.symm).1; omega)).trans (hba.block _ (by omega))
  · rcases hg9 j hj with h0 | h0
    · exact h.gg j h0
    · exact .inr (by omega)
  · rcases hor with e | e
    · exact hne7 j (e ▸ hj) hG
    · rw [e] at hj
      injection hj with hj
      have := (hJ.lt _ _ _ hj9 j hG).2
      omega
  · have e1 := (h.chgW.below hb h.chgW.size).grown hg8 (fun j hj => by cases hj; exact .inr (Nat.le_refl _))
    have e2 := e1.trans hc9 (fun j hj => (h.gg j hj).imp id Nat.le_of_lt)
    exact (e2.below hba e2.size).grown hgb fun j hj => .inr (h.outO.lt j hj).1
theorem own_blk {w w' : World} {base : Nat} {e : TypeId} {size n : Nat} {v : Value} {xs : List Value} (h : w.ownsRow base e size v n xs) (hk : ∀ g, v.ownBlock = some g → w'.heap[g]? = w.heap[g]?) : w'.ownsRow base e size v n xs := by
  refine ⟨h.1, ?_⟩
  rcases h.2 with h1 | ⟨g, cap, cur, rfl, h2, h3, h4⟩
  · exact .inl h1
  · exact .inr ⟨g, cap, cur, rfl, h2, (hk g rfl).trans h3, h4⟩
theorem PlOut.meG {w wr : World} {G0 : Nat → Prop} {H : Hd} {J : List Pt → (Nat → Prop) → World → Prop} {pts : List Pt} {k : Nat} {out nw : Value} {G : Nat → Prop} {E : El} (h : PlOut w wr G0 H J pts k out nw G E) : ¬ G w.heap.size := fun hj => by
  rcases h.gg _ hj with h0 | h0
  · have := h.g0 _ h0
    omega
  · omega
theorem PlOut.jkeep {w wr w6 w8 : World} {G0 Q : Nat → Prop} {H : Hd} {J : List Pt → (Nat → Prop) → World → Prop} {pts : List Pt} {k g B N : Nat} {lb : Array Value} {out nw : Value} {G : Nat → Prop} {E : El}
    (h : PlOut w wr G0 H J pts k out nw G E) (hJ : TakeAt g lb B N Q J) (hB : B ≤ w.heap.size) (hb : Below wr.heap.size wr w6) (hg8 : w6.grownBy w8 (some w.heap.size)) : J (H.taken (pts.take k)) G w8 := by
  have hlt := hJ.lt _ _ _ h.jj
  refine hJ.keep _ _ _ _ h.jj (fun j hj => ?_) (Nat.le_trans hb.size hg8.size)
  have hm := h.endsA.lt
  have hs := hb.size
  rcases hj with hj | hj
  · have h1 := (hlt j hj).2
    exact (hg8.block _ (by omega) (fun e => by injection e with e; subst e; exact h.meG hj)).trans (hb.block _ h1)
  · exact (hg8.block _ (by omega) (fun e => by injection e with e; omega)).trans (hb.block _ (by omega))
/-- a point that isn't taken -/
theorem PlOut.refuse {w wr w3 w7 : World} {G0 Q : Nat → Prop} {H : Hd} {J : List Pt → (Nat → Prop) → World → Prop} {pts : List Pt} {k g B N : Nat} {lb : Array Value} {Ao : Option Addr} {co : Nat} {nw v7 : Value} {G : Nat → Prop} {E : El} {q : Pt} {cd : Int}
    (h : PlOut w wr G0 H J pts k (.slice Ao k co) nw G E) (hJ : TakeAt g lb B N Q J) (hB : B ≤ w.heap.size) (hq : pts.take (k + 1) = pts.take k ++ [q]) (hc : (H.take (pts.take k)).2.code q = cd) (hne : cd ≠ 0) (hb : Below wr.heap.size wr w3)
    (hown : w7.ownsRow w.heap.size 32 1 v7 (k + 1) (((H.take (pts.take k)).1).map (Value.int .i64) ++ [.int .i64 cd])) (hg : w3.grownBy w7 (Value.slice Ao k co).ownBlock) (hor : v7.ownBlock = (Value.slice Ao k co).ownBlock ∨ v7.ownBlock = some w3.heap.size) :
    PlOut w w7 G0 H J pts (k + 1) v7 nw G E := by
  have h1 : (H.take (pts.take (k + 1))).2 = (H.take (pts.take k)).2 := by
    rw [hq, take_snoc]
    show Hd.take1 _ _ = _
    unfold Hd.take1
    rw [hc, if_neg hne]
  have hlt := hJ.lt _ _ _ h.jj
  have hs := hb.size
  refine ⟨by rw [h1]; exact h.nwE, ?_, ?_, by rw [h1]; exact h.relE, ?_, h.gg, fun j hj hG => ?_, ?_, ?_⟩
  · rw [hq, take_snoc, hc, List.map_append]
    exact hown
  · refine (h.endsA.keep ?_).mono (Nat.le_succ _)
    have hm := h.endsA.lt
    exact (hg.block _ (by omega) (h.endsA.own_ne h.outO).symm).trans (hb.block _ hm)
  · rw [hq, taken_snoc, hc, if_neg hne, List.append_nil]
    refine hJ.keep _ _ _ _ h.jj (fun j hj => ?_) (Nat.le_trans hs hg.size)
    rcases hj with hj | hj
    · have := (hlt j hj).2
      exact (hg.block _ (by omega) (fun e => h.neG j e.symm hj)).trans (hb.block _ this)
    · have hm := h.endsA.lt
      exact (hg.block _ (by omega) (fun e => by have := (h.outO.lt j e.symm).1; omega)).trans (hb.block _ (by omega))
  · rcases hor with e | e
    · exact h.neG j (e ▸ hj) hG
    · rw [e] at hj
      injection hj with hj
      have := (hlt j hG).2
      omega
  · exact (h.chgW.below hb h.chgW.size).grown hg fun j hj => .inr (h.outO.lt j hj).1
  · exact h.g0
set_option maxRecDepth 100000 in
set_option maxHeartbeats 12800000 in
theorem plan_any (w : World) (F G0 Q : Nat → Prop) (p N n B g : Nat) (lb : Array Value) (J : List Pt → (Nat → Prop) → World → Prop) (H : Hd) (v : Value) (pts : List Pt)
    (eg : ∀ args w, (callFunc g args).run Tryz.prog w = .ok (.enter g args) w) (hJ : TakeAt g lb B N Q J) (h0 : J [] G0 w) (hh : HdAt w F p n H) (hp : PtsAt w B Q v pts) (hT : Tabs w)
    (hB : 2 < B ∧ B ≤ w.heap.size) (hF : ∀ k, G0 k → ¬ F k) (hN : pts.length ≤ N) (hN2 : N ≤ 100000) (hn : n ≤ 100000) :
    Calls Tryz.prog 62 #[.pointer (some ⟨p, 0, none⟩), v, .func (.func g) #[] lb] w (PlanPost w G0 H J pts) := by
  obtain ⟨j0, hj, hz0, hz1, hz2⟩ := info_parts info32
  have HJ0 := Lib.hid hj
  have HZ0 := Lib.hid hz0
  have HZ1 := Lib.hid hz1
  have HZ2 := Lib.hid hz2
  clear hj hz0 hz1 hz2
  obtain ⟨m, hm⟩ : ∃ m, m = pts.length := ⟨_, rfl⟩
  obtain ⟨A, c, hv⟩ : ∃ A c, v = .slice A m c := by obtain ⟨A, c, vs, e, -⟩ := hp; exact ⟨A, c, by rw [hm]; exact e⟩
  subst hv
  have hhk := hh
  obtain ⟨s, hs, htl, hok, -⟩ := hhk
  have hn1 : s.newest = H.newest := htl.newest
  have c1 : w.cell? ⟨p, 1, none⟩ = some (.int .i64 H.newest) := by rw [← hn1]; exact hs.blk.cell 1
  obtain ⟨nw0, hnw0⟩ : ∃ x, x = H.newest := ⟨_, rfl⟩
  rw [← hnw0] at c1
  have HNW := Lib.hid hnw0
  obtain ⟨w1, hw1⟩ : ∃ w1, w1 = w.alloc (.map #[] 0) := ⟨_, rfl⟩
  have hb1 : Below w.heap.size w w1 := by rw [hw1]; exact (Below.refl _ w).alloc (Nat.le_refl _) _
  have hI : PlR w G0 H J pts (.slice none 0 0) (.int .i64 nw0) (.int .i64 0) w1 := by
    refine ⟨0, G0, [], rfl, Nat.zero_le _, ?_, World.ownsRow_nil _ _ _ _, ?_, EndsRel.start H, hJ.keep _ _ _ _ h0 (fun k hk => hb1.block k (by rcases hk with hk | hk; exact (hJ.lt _ _ _ h0 k hk).2; omega)) hb1.size, fun _ h => .inl h, fun g hg => (by cases hg), Chg.of_below hb1, fun j hj => (hJ.lt _ _ _ h0 j hj).2⟩
    · rw [hnw0]; rfl
    · rw [hw1]; exact ends_made w
  have HI := Lib.hid hI
  have HW1 := Lib.hid hw1
  have HM := Lib.hid hm
  have HJ := Lib.hid hJ
  have HH := Lib.hid hh
  have HP := Lib.hid hp
  have HT := Lib.hid hT
  have HB := Lib.hid hB
  have HF := Lib.hid hF
  have HN1 := Lib.hid hN
  have HG0 := Lib.hid (fun k hk => hJ.lt _ _ _ h0 k hk)
  clear hn1 hs htl hok hI hw1 hm hJ hh hp hT hB hF hN h0 hb1 hnw0
  have hmm := @run_makeMap Tryz.prog
  go_enter Tryz.func62, Tryz.ntmps62
  go_wp2_with fail
  rw [← HW1.out]
  clear hmm c1
  go_loopw [7, 8, 24] (fun out nw i wr => PlR w G0 H J pts out nw i wr) (fun _ _ i _ => m - (intOf i).toNat)
  case atStart => exact HI.out
  case round =>
    obtain ⟨k, G, E, rfl, hk, hpl⟩ := hrel
    have hk2 : k ≤ m := by rw [HM.out]; exact hk
    obtain ⟨Ao, co, ho⟩ := own_slice hpl.outO
    have hnw := hpl.nwE
    obtain ⟨nwz, hnwz⟩ : ∃ z, z = (H.take (pts.take k)).2.newest := ⟨_, rfl⟩
    rw [← hnwz] at hnw
    have HNZ := Lib.hid hnwz
    clear hnwz
    subst ho hnw
    by_cases hlt : k < m
    · have i1 : (k : Int) < (m : Int) := by omega
      have hchg := hpl.chgW
      have hbB : Below B w wr := hchg.toBelow (fun k hk => (HG0.out k hk).1) HB.out.2
      obtain ⟨q, hq⟩ : ∃ q, pts[k]? = some q := ⟨_, List.getElem?_eq_getElem (by have := HM.out; omega)⟩
      obtain ⟨d, c', AL, cL, ev, hd, x0, x1, x2, hla, hsz, hQl⟩ := (HP.out.keep fun p hp => hbB.cell hp).at_ hq
      have HQL := Lib.hid hQl
      clear hQl
      injection ev with ev1 ev2 ev3
      subst ev1 ev3
      have HPL := Lib.hid hpl
      have hk5 : k < 100000 := by have := HN1.out; have := HM.out; omega
      have sk : IntKind.i64.wrap ((k : Int) + 1) = ((k + 1 : Nat) : Int) := (IntWalk.i64_in _ (by have := HN1.out; have := HM.out; omega)).trans (by omega)
      have htk : pts.take (k + 1) = pts.take k ++ [q] := by rw [List.take_add_one, hq]; rfl
      obtain ⟨H', hH'⟩ : ∃ H', H' = (H.take (pts.take k)).2 := ⟨_, rfl⟩
      have hok' : H'.Ok := by rw [hH']; exact HH.out.ok.take _
      have HTK := Lib.hid htk
      have HH' := Lib.hid hH'
      have HOK := Lib.hid hok'
      have HBW := Lib.hid hbB
      have hsw := hchg.size
      have HCH := Lib.hid hchg
      obtain ⟨ql, qt, qb⟩ := q
      dsimp only at x0 x1 x2 hla hsz
      obtain ⟨nL, hnL⟩ : ∃ n, n = ql.length := ⟨_, rfl⟩
      rw [← hnL] at x0 hla
      obtain ⟨w2, hw2⟩ : ∃ w2, w2 = wr.alloc (.cells #[.slice AL nL cL, .int .i64 qt, .float .f64 qb] 57) := ⟨_, rfl⟩
      have hb2 : Below wr.heap.size wr w2 := by rw [hw2]; exact (Below.refl _ wr).alloc (Nat.le_refl _) _
      have hbx : Blk w2 wr.heap.size 57 #[.slice AL nL cL, .int .i64 qt, .float .f64 qb] := by rw [hw2]; exact Blk.new wr 57 _
      have hBr : B ≤ wr.heap.size := Nat.le_trans HB.out.2 hsw
      have hbB2 : Below B w w2 := hbB.trans (hb2.mono hBr)
      have HT2 := Lib.hid (HT.out.below hbB2 HB.out.1)
      have HLA := Lib.hid (hla.below hb2 hBr)
      have HLAR := Lib.hid hla
      have HSZ := Lib.hid hsz
      have HNL := Lib.hid hnL
      have HBX := Lib.hid hbx
      have HB2 := Lib.hid hb2
      have HBR := Lib.hid hBr
      have c0 : w2.cell? ⟨wr.heap.size, 0, none⟩ = some (.slice AL nL cL) := hbx.cell 0
      obtain ⟨rl, hrl⟩ : ∃ b, b = rightL ql := ⟨_, rfl⟩
      have HRL := Lib.hid hrl
      have HR := Lib.hid (show Calls Tryz.prog 120 #[.slice AL nL cL] w2 fun e w' => e = .returned (.bool rl) ∧ Below w2.heap.size w2 w' by
        rw [hrl]
        exact right_any w2 B _ ql HT2.out HLA.out (Nat.le_trans hBr hb2.size) hsz.1 hsz.2)
      have HW2 := Lib.hid hw2
      clear hk ev2 hpl hq htk hH' hok' hchg hbB hla hsz hnL hb2 hbx hBr hbB2 hrl hw2 hd
      go_upto_region 7 with fail
      rw [← HW2.out]
      clear x0 x1 x2
      go_wp2_with fail
      refine HR.out.mono ?_
      rintro e w3 ⟨rfl, hb3⟩
      have hbx3 := HBX.out.below hb3 HBX.out.lt
      have d0 : w3.cell? ⟨wr.heap.size, 0, none⟩ = some (.slice AL nL cL) := hbx3.cell 0
      have HB3 := Lib.hid (HB2.out.trans (hb3.mono HB2.out.size))
      have HBX3 := Lib.hid hbx3
      have HLA3 := Lib.hid (HLA.out.below hb3 (Nat.le_trans HBR.out HB2.out.size))
      clear c0 hb3 hbx3
      by_cases hbad : rl = false ∨ nL = 0
      · rcases hbad with rfl | hz
        case' inr =>
          have i7 : ((nL : Int) == 0) = true := beq_iff_eq.2 (by omega)
          have HRB := Lib.hid (show fitP ql = false by
            have : ql = [] := List.eq_nil_of_length_eq_zero (by have := HNL.out; omega)
            rw [this]; rfl)
          clear hz
          cases rl
        case' inl =>
          have HRB := Lib.hid (show fitP ql = false by unfold fitP; rw [← HRL.out]; rfl)
        all_goals
          have HOU := Lib.hid (own_below HPL.out.outO HB3.out)
          obtain ⟨cs, hcs⟩ : ∃ cs, cs = ((H.take (pts.take k)).1).map (Value.int .i64) := ⟨_, rfl⟩
          rw [← hcs] at HOU
          have HCS := Lib.hid hcs
          have hb3s := HB3.out.size
          clear hcs
          go_wp2_with (at_builtin; go_loud (refine wpList_append_any _ rfl (.tmp 38) (.tmp 39) 44 rfl w.heap.size 32 j0 (.int .i64 0) 1 8 Tryz.underlying44 HJ0.out HZ0.out HZ1.out HZ2.out rfl (by omega) (.slice Ao k co) k cs rfl (HOU.out.alloc _) (w3.heap.size + 1) (some ⟨w3.heap.size, 0, none⟩) 1 1 [.int .i64 2] rfl ⟨rfl, fun _ => ⟨_, rfl, Nat.lt_succ_self _, cells_newL w3 32 _ _ rfl⟩⟩ (by simp [Value.oneCell']) (by simp [maxLen]; omega) (by omega) (by rw [World.size_alloc]; omega) ?_; intro v7 w7 hown7 hgrow7 hor7; obtain ⟨A7, c7, hv7⟩ := own_slice hown7; subst hv7; have HW7 := Lib.hid hown7; have HG7 := Lib.hid hgrow7; have HO7 := Lib.hid hor7; clear hown7 hgrow7 hor7))
          refine ⟨⟨k + 1, G, E, rfl, by have := HM.out; omega, ?_⟩, by simp [intOf]; omega⟩
          refine PlOut.refuse HPL.out HJ.out HB.out.2 HTK.out (cd := 2) ?_ (by decide) (HB3.out.alloc hb3s _) (by rw [← HCS.out]; exact HW7.out) HG7.out HO7.out
          unfold Hd.code
          rw [HRB.out]; rfl
      · obtain rfl : rl = true := by cases rl <;> simp_all
        have hnz : ¬ nL = 0 := fun e => hbad (.inr e)
        have i7 : ((nL : Int) == 0) = false := beq_eq_false_iff_ne.2 (by omega)
        have hfit : fitP ql = true := by
          unfold fitP
          rw [← HRL.out]
          cases ql with
          | nil => exact absurd HNL.out hnz
          | cons a l => rfl
        have HLB := Lib.hid (lbytes_any w3 B _ ql HLA3.out (Nat.le_trans HBR.out HB3.out.size) (fitP_fit hfit))
        have HFIT := Lib.hid hfit
        clear hbad hfit hnz
        go_wp2_with fail
        refine HLB.out.mono ?_
        rintro e w4 ⟨v9, rfl, hown9, hb4⟩
        obtain ⟨A9, c9, hv9⟩ := own_slice hown9
        subst hv9
        obtain ⟨ks, hks⟩ : ∃ ks, ks = keyS ql := ⟨_, rfl⟩
        have hstr := run_str_of_row w4 _ _ _ hown9
        rw [show (⟨(lbytes ql).toArray⟩ : ByteArray) = ks from hks.symm] at hstr
        obtain ⟨ll, hll⟩ : ∃ ll, ll = (lbytes ql).length := ⟨_, rfl⟩
        rw [← hll] at hstr ⊢
        have hkd : ks.data.toList = lbytes ql := by rw [hks]; rfl
        have hksz : ks.size ≤ maxLen := by
          have h1 := lbytes_len (fitP_fit HFIT.out)
          have h2 : ks.size = (lbytes ql).length := by rw [hks]; simp [keyS, ByteArray.size]
          unfold maxLen
          omega
        have HB4 := Lib.hid (HB3.out.trans (hb4.mono HB3.out.size))
        have hbx4 := HBX3.out.below hb4 HBX3.out.lt
        have hc4 : Chg G0 w w4 := HCH.out.below HB4.out hsw
        have h4 := HH.out.far hc4 HF.out
        obtain ⟨s, hs, htl, hok, -, hl2⟩ := h4
        have HL2 := Lib.hid hl2
        clear hl2
        have hen4 : EndsAt w4 w.heap.size k E := HPL.out.endsA.keep (HB4.out.block _ HPL.out.endsA.lt)
        have hel := hen4.look ks hksz
        rw [hkd] at hel
        obtain ⟨f1, f2⟩ := hs.find htl hok HFIT.out
        have y2 : w4.cell? ⟨p, 2, none⟩ = some (.map (some s.m)) := hs.blk.cell 2
        have y2a : ∀ o, (w4.alloc o).cell? ⟨p, 2, none⟩ = some (.map (some s.m)) := fun o => (hs.blk.alloc o).cell 2
        have hrel := HPL.out.relE ql HFIT.out
        rw [← HH'.out] at hrel
        have HKS := Lib.hid hks
        have HKD := Lib.hid hkd
        have HKZ := Lib.hid hksz
        have HLL := Lib.hid hll
        have HBX4 := Lib.hid hbx4
        have HC4 := Lib.hid hc4
        have HS := Lib.hid hs
        have HTL := Lib.hid htl
        have HF1 := Lib.hid f1
        have HF2 := Lib.hid f2
        have HREL := Lib.hid hrel
        have HEN4 := Lib.hid hen4
        clear hks hkd hksz hll hbx4 hc4 hs htl hok hen4 f1 f2 hrel hown9 hb4 d0 HLB
        obtain ⟨et, eb, th, hev, hes, he1, he2⟩ := lookV_parts (eget E (lbytes ql))
        rw [hev, hes] at hel
        obtain ⟨w5, hw5⟩ : ∃ w5, w5 = w4.alloc (.cells #[.int .i64 et, .float .f64 eb, .bool th] 213) := ⟨_, rfl⟩
        have hl5 : (Instr.lookup 124 (.map (some s.m)) (.string ks) false).run Tryz.prog w5 = .ok (ptrV (dget s.dir ks.data.toList)) w5 := DirAt.look124 (HS.out.dir.keep (by rw [hw5]; exact Below.heap_alloc w4 _ _ HS.out.dir.lt)) ks HKZ.out
        rw [HKD.out] at hl5
        have y5 : w5.cell? ⟨p, 2, none⟩ = some (.map (some s.m)) := by rw [hw5]; exact y2a _
        have HW5 := Lib.hid hw5
        have HBL5 := Lib.hid (show Blk w5 w4.heap.size 213 #[.int .i64 et, .float .f64 eb, .bool th] by rw [hw5]; exact Blk.new w4 213 _)
        have HBB5 := Lib.hid (show Below w4.heap.size w4 w5 by rw [hw5]; exact (Below.refl _ w4).alloc (Nat.le_refl _) _)
        have HE1 := Lib.hid he1
        have HE2 := Lib.hid he2
        clear hev hes he1 he2 hw5
        go_upto_region 10 with (fail)
        go_cut [13, 14] from 45 to 50 (fun v13 v14 wx => v13 = .pointer (some ⟨w4.heap.size, 0, none⟩) ∧ v14 = .bool th ∧ wx = w5)
        case first =>
          go_wp2
          go_meet
          exact ⟨rfl, rfl, HW5.out.symm⟩
        obtain ⟨rfl, rfl, hwx⟩ := hcut
        rw [hwx]
        clear hwx hel y2 y2a
        rename_i Kx hKx
        refine hKx _ _ ?_
        clear hKx
        refine wp_seq_k fun K1 hK1 => ?_
        go_cut [13] from 51 to 76 (fun v13 wx => EndIn w4 (H'.last ql) v13 wx)
        case first =>
          cases th with
          | true =>
            have HR2 := Lib.hid (show H'.last ql = some (et, eb) by rw [HREL.out, HE1.out rfl])
            obtain ⟨pv, hpv⟩ : ∃ pv, pv = ptrV (dget s.dir (lbytes ql)) := ⟨_, rfl⟩
            rw [← hpv] at hl5
            clear hpv
            go_wp2
            go_meet
            exact ⟨rfl, by rw [HR2.out]; exact HBL5.out, HBB5.out⟩
          | false =>
            obtain ⟨he, rfl, rfl⟩ := HE2.out rfl
            have HR2 := Lib.hid (show H'.last ql = H.last ql by rw [HREL.out, he])
            clear he
            cases hg : dget s.dir (lbytes ql) with
            | none =>
              rw [hg] at hl5
              have hl6 : (Instr.lookup 124 (.map (some s.m)) (.string ks) false).run Tryz.prog w5 = .ok (.pointer none) w5 := hl5
              have HR3 := Lib.hid (show H'.last ql = none by rw [HR2.out]; unfold Hd.last; rw [HF2.out hg]; rfl)
              clear hl5 hg
              go_wp2
              go_meet
              exact ⟨rfl, by rw [HR3.out]; exact HBL5.out, HBB5.out⟩
            | some gg =>
              rw [hg] at hl5
              have hl6 : (Instr.lookup 124 (.map (some s.m)) (.string ks) false).run Tryz.prog w5 = .ok (.pointer (some ⟨gg, 0, none⟩)) w5 := hl5
              obtain ⟨k1, k2, k3⟩ := HF1.out gg hg
              obtain ⟨sr, hsr, hsr1, hsr2⟩ := findS_mem k2
              have hpos := (HH.out.ok.ser sr hsr).pos
              rw [hsr2] at hpos
              obtain ⟨y, ys, hy⟩ : ∃ y ys, s.row gg = ys ++ [y] := ⟨_, _, (List.dropLast_concat_getLast hpos).symm⟩
              obtain ⟨rn, hrn⟩ : ∃ rn, rn = ys.length := ⟨_, rfl⟩
              have hrl : (s.row gg).length = rn + 1 := by rw [hy, hrn]; simp
              obtain ⟨gr, cr, hvr⟩ := own_succ k3.row (by rw [hrl]; omega)
              have own5 := own_below (own_below k3.row (Below.refl _ w4)) HBB5.out
              have blk5 := k3.blk.below HBB5.out k3.blk.lt
              rw [hvr, hrl] at own5 blk5
              have hgy : (s.row gg)[rn]? = some y := by rw [hy, hrn]; simp
              obtain ⟨g0, g1, g2⟩ := rowV_get (s.row gg) rn y hgy
              have z0 : w5.cell? ⟨gr, rn * 3, none⟩ = some (.int .i64 y.1) := (own5.cellAt (rn * 3) (by omega)).trans g0
              have z1 : w5.cell? ⟨gr, rn * 3 + 1, none⟩ = some (.float .f64 y.2.1) := (own5.cellAt (rn * 3 + 1) (by omega)).trans g1
              have b1 : w5.cell? ⟨gg, 1, none⟩ = some (.slice (some ⟨gr, 0, none⟩) (rn + 1) cr) := blk5.cell 1
              have b10 : w5.cell? ⟨w4.heap.size, 0, none⟩ = some (.int .i64 0) := HBL5.out.cell 0
              have b11 : w5.cell? ⟨w4.heap.size, 1, none⟩ = some (.float .f64 0) := HBL5.out.cell 1
              have b12 : w5.cell? ⟨w4.heap.size, 2, none⟩ = some (.bool false) := HBL5.out.cell 2
              have fz0 := HBL5.out.frozen 0
              have fz1 := HBL5.out.frozen 1
              have fz2 := HBL5.out.frozen 2
              have HR3 := Lib.hid (show H'.last ql = some (y.1, y.2.1) by rw [HR2.out]; unfold Hd.last; rw [k2, hy]; show some (lastOf _) = _; rw [lastOf_snoc])
              obtain ⟨yt, yb, yd⟩ := y
              dsimp only at z0 z1 HR3
              have hrb : rn + 1 ≤ n := by have := HL2.out sr hsr; rw [hsr2, hrl] at this; exact this
              have s1 : IntKind.i64.wrap (rn : Int) = (rn : Int) := IntWalk.i64_in _ (by omega)
              have d3 : (0 : Int) ≤ (rn : Int) := by omega
              have d5 : (rn : Int) < (rn : Int) + 1 := by omega
              clear hl5 hg k1 k2 k3 hsr hsr1 hsr2 hpos hy hrn hrl hvr own5 blk5 hgy g0 g1 g2 hrb
              go_wp2_with fail
              go_region
              all_goals
                go_wp2_with fail
                go_meet
                exact ⟨rfl, by rw [HR3.out]; exact (((HBL5.out.set_ 0 (.int .i64 yt)).set_ 1 (.float .f64 yb)).set_ 2 (.bool true)).drew, (((HBB5.out.setCell (p := ⟨w4.heap.size, 0, none⟩) (Nat.le_refl _) _).setCell (p := ⟨w4.heap.size, 1, none⟩) (Nat.le_refl _) _).setCell (p := ⟨w4.heap.size, 2, none⟩) (Nat.le_refl _) _).drew⟩
        case rest =>
          obtain ⟨rfl, hbl, hbw⟩ := hcut
          obtain ⟨le, hle⟩ : ∃ le, le = H'.last ql := ⟨_, rfl⟩
          rw [← hle] at hbl
          obtain ⟨e1, e2, e3, hev, -⟩ := lookV_parts le
          have hec : endCells le = #[.int .i64 e1, .float .f64 e2, .bool e3] := by have := lookV_cells le; rw [hev] at this; injection this with this; exact this.symm
          rw [hec] at hbl
          refine hK1 _ _ ?_
          have hbxc := HBX4.out.below hbw HBX4.out.lt
          have p0 : wc.cell? ⟨wr.heap.size, 0, none⟩ = some (.slice AL nL cL) := hbxc.cell 0
          have p1 : wc.cell? ⟨wr.heap.size, 1, none⟩ = some (.int .i64 qt) := hbxc.cell 1
          have p2 : wc.cell? ⟨wr.heap.size, 2, none⟩ = some (.float .f64 qb) := hbxc.cell 2
          have b0 : wc.cell? ⟨w4.heap.size, 0, none⟩ = some (.int .i64 e1) := hbl.cell 0
          have b1 : wc.cell? ⟨w4.heap.size, 1, none⟩ = some (.float .f64 e2) := hbl.cell 1
          have b2 : wc.cell? ⟨w4.heap.size, 2, none⟩ = some (.bool e3) := hbl.cell 2
          have hr0 : wc.cell? ⟨p, 0, none⟩ = some (.int .i64 H.ret) := by
            have := (HS.out.blk.below hbw HS.out.blk.lt).cell 0
            rw [← HTL.out.ret]
            exact this
          have hnb := HOK.out.newest
          have hrb := HOK.out.ret
          have hre : H'.ret = H.ret := by rw [HH'.out]; exact take_ret _ _
          rw [hre] at hrb
          have hnz : H'.newest = nwz := by rw [HH'.out]; exact HNZ.out.symm
          rw [hnz] at hnb
          unfold big at hnb
          have hrf := refused_any p H.ret nwz AL nL cL qt qb le wc hr0 hrb (by omega)
          rw [hev] at hrf
          obtain ⟨cd, hcd⟩ : ∃ cd, cd = codeP H.ret nwz le qt qb := ⟨_, rfl⟩
          rw [← hcd] at hrf
          have hcode : (H.take (pts.take k)).2.code (ql, qt, qb) = cd := by
            rw [← HH'.out]
            unfold Hd.code
            rw [HFIT.out, if_pos rfl, hre, hnz, ← hle, hcd]
          have HRF := Lib.hid hrf
          have HCODE := Lib.hid hcode
          have HBC := Lib.hid (HB4.out.trans (hbw.mono HB4.out.size))
          have HBXC := Lib.hid hbxc
          clear hK1 hle hev hec hbl hbw hbxc hr0 hnb hrb hre hnz hrf hcd hcode hl5 y5
          go_wp2_with fail
          refine HRF.out.mono ?_
          rintro e w6 ⟨rfl, hb6⟩
          have HB6 := Lib.hid (HBC.out.trans (hb6.mono HBC.out.size))
          have hbx6 := HBXC.out.below hb6 HBXC.out.lt
          have p1' : w6.cell? ⟨wr.heap.size, 1, none⟩ = some (.int .i64 qt) := hbx6.cell 1
          have p2' : w6.cell? ⟨wr.heap.size, 2, none⟩ = some (.float .f64 qb) := hbx6.cell 2
          have p0' : w6.cell? ⟨wr.heap.size, 0, none⟩ = some (.slice AL nL cL) := hbx6.cell 0
          have HBX6 := Lib.hid hbx6
          obtain ⟨cs, hcs⟩ : ∃ cs, cs = ((H.take (pts.take k)).1).map (Value.int .i64) := ⟨_, rfl⟩
          have hou := own_below HPL.out.outO HB6.out
          rw [← hcs] at hou
          have HOU := Lib.hid hou
          have HCS := Lib.hid hcs
          have hb6s := HB6.out.size
          clear p0 p1 p2 b0 b1 b2 hb6 hbx6 hcs hou
          by_cases hz : cd = 0
          · subst hz
            have HEN6 := Lib.hid (HPL.out.endsA.keep (HB6.out.block _ HPL.out.endsA.lt))
            have hml := HPL.out.endsA.lt
            go_wp2_with (first
              | (at_mapUpdate; go_loud (refine wpList_mapUpdate_own _ rfl _ _ _ 210 rfl 9 213 law9 Tryz.underlying210 endElem w.heap.size k (endsD E) rfl HEN6.out (by simp [maxLen]; omega) _ _ (.string ks.data.toList) rfl rfl (key_nm ks HKZ.out) (endD (qt, qb)) [] rfl ?_; intro w8 hown8 hgrow8; have HO8 := Lib.hid hown8; have HG8 := Lib.hid hgrow8; have hs8 := hgrow8.size; have hbx8 := HBX6.out.grown hgrow8 (by simp; omega); have q0 : w8.cell? ⟨wr.heap.size, 0, none⟩ = some (.slice AL nL cL) := hbx8.cell 0; have q1 : w8.cell? ⟨wr.heap.size, 1, none⟩ = some (.int .i64 qt) := hbx8.cell 1; have q2 : w8.cell? ⟨wr.heap.size, 2, none⟩ = some (.float .f64 qb) := hbx8.cell 2; clear hown8 hgrow8 hbx8 p0' p1' p2')))
            have hJ8 := HPL.out.jkeep HJ.out HB.out.2 HB6.out HG8.out
            have hB8 : B ≤ w8.heap.size := by have := HBR.out; omega
            have hla8 : LabsAt w8 B (.slice AL ql.length cL) ql := by
              rw [← HNL.out]
              exact (HLAR.out.below HB6.out HBR.out).keep fun a ha => World.cell?_of_block (HG8.out.block _ (by have := HBR.out; omega) (fun e => by injection e with e; have := HB.out.2; omega))
            have hlen : (H.taken (pts.take k)).length < N := by
              have h1 := taken_len (pts.take k) H
              have h2 : (pts.take k).length ≤ k := List.length_take_le _ _
              have := HM.out
              have := HN1.out
              omega
            have hcl := HJ.out.call _ G w8 (ql, qt, qb) AL cL hJ8 hlen hB8 hla8 HQL.out HFIT.out
            dsimp only at hcl
            rw [← HKS.out, ← HNL.out] at hcl
            have HCL := Lib.hid hcl
            clear hJ8 hla8 hlen hcl hB8
            refine HCL.out.mono ?_
            rintro e w9 ⟨rfl, G', hj9, hc9, hg9⟩
            have ho8 := HOU.out.kept HG8.out (.inr (HEN6.out.own_ne HOU.out))
            have HO9 := Lib.hid (own_blk ho8 fun j hj => hc9.block _ ((ho8.lt j hj).2) (HPL.out.neG j hj))
            have HJ9 := Lib.hid hj9
            have HC9 := Lib.hid hc9
            have HGG9 := Lib.hid hg9
            have hs9 := hc9.size
            clear ho8 hj9 hc9 hg9 q0 q1 q2 HCL
            go_wp2_with (at_builtin; go_loud (refine wpList_append_any _ rfl (.tmp 100) (.tmp 102) 44 rfl w.heap.size 32 j0 (.int .i64 0) 1 8 Tryz.underlying44 HJ0.out HZ0.out HZ1.out HZ2.out rfl (by omega) (.slice Ao k co) k cs rfl (HO9.out.alloc _) (w9.heap.size + 1) (some ⟨w9.heap.size, 0, none⟩) 1 1 [.int .i64 0] rfl ⟨rfl, fun _ => ⟨_, rfl, Nat.lt_succ_self _, cells_newL w9 32 _ _ rfl⟩⟩ (by simp [Value.oneCell']) (by simp [maxLen]; omega) (by omega) (by rw [World.size_alloc]; omega) ?_; intro v7 w7 hown7 hgrow7 hor7; obtain ⟨A7, c7, hv7⟩ := own_slice hown7; subst hv7; have HW7 := Lib.hid hown7; have HG7 := Lib.hid hgrow7; have HO7 := Lib.hid hor7; clear hown7 hgrow7 hor7))
            have hen8 : EndsAt w8 w.heap.size (k + 1) (eput E (lbytes ql) (qt, qb)) := by
              have := HO8.out
              rw [e_dirD_put, HKD.out] at this
              exact this
            refine ⟨⟨k + 1, G', eput E (lbytes ql) (qt, qb), rfl, by have := HM.out; omega, ?_⟩, by simp [intOf]; omega⟩
            have hfin := PlOut.took HPL.out HJ.out HB.out.2 HTK.out (by rw [← HH'.out]; exact HOK.out) HFIT.out HCODE.out HB6.out HG8.out hen8 HJ9.out HC9.out HGG9.out ((Below.refl _ w9).alloc (Nat.le_refl _) _) (by rw [← HCS.out]; exact HW7.out) HG7.out HO7.out
            rw [← HNZ.out] at hfin
            exact hfin
          · have i8 : (cd == 0) = false := beq_eq_false_iff_ne.2 hz
            have HZ := Lib.hid hz
            clear hz
            go_wp2_with (at_builtin; go_loud (refine wpList_append_any _ rfl (.tmp 100) (.tmp 102) 44 rfl w.heap.size 32 j0 (.int .i64 0) 1 8 Tryz.underlying44 HJ0.out HZ0.out HZ1.out HZ2.out rfl (by omega) (.slice Ao k co) k cs rfl (HOU.out.alloc _) (w6.heap.size + 1) (some ⟨w6.heap.size, 0, none⟩) 1 1 [.int .i64 cd] rfl ⟨rfl, fun _ => ⟨_, rfl, Nat.lt_succ_self _, cells_newL w6 32 _ _ rfl⟩⟩ (by simp [Value.oneCell']) (by simp [maxLen]; omega) (by omega) (by rw [World.size_alloc]; omega) ?_; intro v7 w7 hown7 hgrow7 hor7; obtain ⟨A7, c7, hv7⟩ := own_slice hown7; subst hv7; have HW7 := Lib.hid hown7; have HG7 := Lib.hid hgrow7; have HO7 := Lib.hid hor7; clear hown7 hgrow7 hor7))
            refine ⟨⟨k + 1, G, E, rfl, by have := HM.out; omega, ?_⟩, by simp [intOf]; omega⟩
            exact PlOut.refuse HPL.out HJ.out HB.out.2 HTK.out (cd := cd) HCODE.out HZ.out (HB6.out.alloc hb6s _) (by rw [← HCS.out]; exact HW7.out) HG7.out HO7.out
    · have i1 : ¬ (k : Int) < (m : Int) := by omega
      have hkm : k = pts.length := by have := HM.out; omega
      subst hkm
      have HL := Lib.hid hpl
      clear hk hk2 hlt hpl
      go_wp2
      refine bodyPost_ret (results_tmp rfl _ _ _) rfl ?_
      exact HL.out.final
end Go.Proofs.YtbeeejpjnniejaaGreatDoor
namespace Go.Proofs.YtbeeejpjnniejaaGreatDoor
open Go.RowKit Go.Shelf
attribute [-go_sem] Builtin.append_
/-- behind the place k stands a class of one range -/
structure Rng (s : ByteArray) (k c1 n1 c2 n2 : Nat) : Prop where
  size : s.size ≤ 1000000
  lt1 : k < s.size
  b94 : isB s k 94 = false
  b45 : isB s k 45 = false
  b92 : isB s k 92 = false
  d1 : Lib.decodeGo (s.extract k s.size) = (c1, n1)
  m1 : n1 ≤ 4
  dash : isB s (k + n1) 45 = true
  pre : hasPre (s.extract (k + n1) s.size) ⟨#[45, 93]⟩ = false
  lt2 : k + n1 + 1 < s.size
  e92 : isB s (k + n1 + 1) 92 = false
  d2 : Lib.decodeGo (s.extract (k + n1 + 1) s.size) = (c2, n2)
  m2 : n2 ≤ 4
  le : c1 ≤ c2
  shut : isB s (k + n1 + 1 + n2) 93 = true
/-- a set of one range -/
def SetAt (w : World) (B t : Nat) (c1 c2 : Nat) : Prop := B ≤ t ∧ ∃ v, Blk w t 337 #[.int .i64 1, v, .bool false, .int .i64 0, .int .i64 0, .int .i64 0, .bool false, .bool false, .slice none 0 0] ∧ w.ownsRow B 395 2 v 1 [.int .i32 (c1 : Int), .int .i32 (c2 : Int)]
theorem SetAt.keep {w w' : World} {B t c1 c2 : Nat} (h : SetAt w B t c1 c2) (hk : ∀ j, B ≤ j → j < w.heap.size → w'.heap[j]? = w.heap[j]?) : SetAt w' B t c1 c2 := by
  obtain ⟨h1, v, h2, h3⟩ := h
  exact ⟨h1, v, (hk t h1 h2.lt).trans h2, own_blk h3 fun j hj => hk j (h3.lt j hj).1 (h3.lt j hj).2⟩
theorem is_no (w : World) (p : Nat) (s : ByteArray) (k g : Nat) (b : Int) (h : RdAt w p s k g) (hb : isB s k b = false) :
    Calls Tryz.prog 272 #[.pointer (some ⟨p, 0, none⟩), .int .u8 b] w fun e w' => e = .returned (.bool false) ∧ ∃ q, w' = w.drewN q := by
  have h1 := is_any w p s k g b h
  rw [hb] at h1
  exact h1
theorem is_yes (w : World) (p : Nat) (s : ByteArray) (k g : Nat) (b : Int) (h : RdAt w p s k g) (hb : isB s k b = true) :
    Calls Tryz.prog 272 #[.pointer (some ⟨p, 0, none⟩), .int .u8 b] w fun e w' => e = .returned (.bool true) ∧ ∃ q, w' = w.drewN q := by
  have h1 := is_any w p s k g b h
  rw [hb] at h1
  exact h1
/-- between the rounds over a class -/
def ClR (w : World) (p : Nat) (s : ByteArray) (k g c1 n1 c2 n2 t : Nat) (f : Value) (wr : World) : Prop :=
  (f = .bool true ∧ RdTo w p s k g wr ∧ Blk wr t 337 #[.int .i64 1, .slice none 0 0, .bool false, .int .i64 0, .int .i64 0, .int .i64 0, .bool false, .bool false, .slice none 0 0]) ∨
  (f = .bool false ∧ RdTo w p s (k + n1 + 1 + n2) g wr ∧ SetAt wr w.heap.size t c1 c2)
def mFlag : Value → Nat
  | .bool true => 1
  | _ => 0
set_option maxRecDepth 100000 in
set_option maxHeartbeats 6400000 in
theorem class_any (w : World) (p : Nat) (s : ByteArray) (k g c1 n1 c2 n2 : Nat) (h : RdAt w p s k g) (hT : Tabs w) (hp : 2 < p) (hr : Rng s k c1 n1 c2 n2) :
    Calls Tryz.prog 294 #[.pointer (some ⟨p, 0, none⟩)] w fun e w' => ∃ t, e = .returned (.pointer (some ⟨t, 0, none⟩)) ∧ RdTo w p s (k + n1 + 1 + n2 + 1) g w' ∧ SetAt w' w.heap.size t c1 c2 := by
  obtain ⟨i0, hi, hz0, hz1, hz2⟩ := info_parts info395
  have HI := Lib.hid hi
  have HZ0 := Lib.hid hz0
  have HZ1 := Lib.hid hz1
  have HZ2 := Lib.hid hz2
  clear hi hz0 hz1 hz2
  have HR := Lib.hid hr
  have hpl : p < w.heap.size := h.lt
  obtain ⟨w1, hw1⟩ : ∃ w1, w1 = w.alloc (.cells #[.int .i64 1, .slice none 0 0, .bool false, .int .i64 0, .int .i64 0, .int .i64 0, .bool false, .bool false, .slice none 0 0] 337) := ⟨_, rfl⟩
  have hb1 : Blk w1 w.heap.size 337 #[.int .i64 1, .slice none 0 0, .bool false, .int .i64 0, .int .i64 0, .int .i64 0, .bool false, .bool false, .slice none 0 0] := by rw [hw1]; exact Blk.new w 337 _
  have hr1 : RdTo w p s k g w1 := (RdTo.refl h).below (by rw [hw1]; exact (Below.refl _ w).alloc (Nat.le_refl _) _)
  have HM := Lib.hid (takes_no w1 p s k g 94 hr1.at_ hr.size hr.b94)
  have HT := Lib.hid (fun W (hW : ∃ k2, RdTo w p s k2 g W) => (hT.keep fun b hb => by obtain ⟨k2, hW⟩ := hW; exact hW.keep (by omega) (by omega) : Tabs W))
  have HW1 := Lib.hid hw1
  have HB1 := Lib.hid hb1
  have HR1 := Lib.hid hr1
  clear hw1 hb1 hr1 hT h hr
  go_enter Tryz.func294, Tryz.ntmps294
  go_upto_region 2 with fail
  rw [← HW1.out]
  go_wp2_with fail
  refine HM.out.mono ?_
  rintro e w2 ⟨rfl, h2⟩
  have hne : w.heap.size ≠ p := by omega
  have hb2 : Blk w2 w.heap.size 337 #[.int .i64 1, .slice none 0 0, .bool false, .int .i64 0, .int .i64 0, .int .i64 0, .bool false, .bool false, .slice none 0 0] := (h2.keep HB1.out.lt hne).trans HB1.out
  have t2 : w2.cell? ⟨w.heap.size, 2, none⟩ = some (.bool false) := hb2.cell 2
  have f2 := hb2.frozen 2
  have HB2 := Lib.hid hb2
  have HR2 := Lib.hid (HR1.out.trans h2)
  clear hb2 h2 HM
  go_wp2_with fail
  have hb3 : Blk (w2.setCell ⟨w.heap.size, 2, none⟩ (.bool false)) w.heap.size 337 #[.int .i64 1, .slice none 0 0, .bool false, .int .i64 0, .int .i64 0, .int .i64 0, .bool false, .bool false, .slice none 0 0] := HB2.out.set_ 2 _
  have hr3 : RdTo w p s k g (w2.setCell ⟨w.heap.size, 2, none⟩ (.bool false)) := ⟨Blk.far HR2.out.at_ (p := ⟨w.heap.size, 2, none⟩) (Ne.symm hne) _, Chg.setCell (F := fun b => b = p) HR2.out.chg (p := ⟨w.heap.size, 2, none⟩) (.inr (Nat.le_refl _)) _⟩
  have HB3 := Lib.hid hb3
  have HR3 := Lib.hid hr3
  clear hb3 hr3 t2 f2
  go_loopw [4] (fun f wr => ClR w p s k g c1 n1 c2 n2 w.heap.size f wr) (fun f _ => mFlag f)
  case atStart => exact .inl ⟨rfl, HR3.out, HB3.out⟩
  case round =>
    rcases hrel with ⟨rfl, h3, hb3⟩ | ⟨rfl, h3, hb3⟩
    · have HB3 := Lib.hid hb3
      have HR3 := Lib.hid h3
      have HI1 := Lib.hid (is_no wr p s k g 45 h3.at_ HR.out.b45)
      have HO := Lib.hid (fun W (hW : RdTo w p s k g W) => one_any W p s k g c1 n1 hW.at_ HR.out.size HR.out.lt1 (HT.out W ⟨_, hW⟩) hp HR.out.b92 HR.out.d1 HR.out.m1)
      clear hb3 h3
      go_wp2_with fail
      refine HI1.out.mono ?_
      rintro e w4 ⟨rfl, q4, hw4⟩
      have H4 := Lib.hid (show RdTo w p s k g w4 by rw [hw4]; exact HR3.out.drewN q4)
      have HB4 := Lib.hid (show Blk w4 w.heap.size 337 #[.int .i64 1, .slice none 0 0, .bool false, .int .i64 0, .int .i64 0, .int .i64 0, .bool false, .bool false, .slice none 0 0] by rw [hw4]; exact HB3.out)
      clear hw4 HI1
      go_wp2_with fail
      refine (HO.out w4 H4.out).mono ?_
      rintro e w5 ⟨x, rfl, h5, hx5, hc5⟩
      have hb5 : Blk w5 w.heap.size 337 #[.int .i64 1, .slice none 0 0, .bool false, .int .i64 0, .int .i64 0, .int .i64 0, .bool false, .bool false, .slice none 0 0] := (h5.keep HB4.out.lt hne).trans HB4.out
      have hR5 := H4.out.trans h5
      have hxw : x ≠ w.heap.size := by have := HB4.out.lt; omega
      have hxp : x ≠ p := by have := HB4.out.lt; omega
      have c0 : w5.cell? ⟨p, 0, none⟩ = some (.string s) := hR5.at_.cell 0
      have c1' : w5.cell? ⟨p, 1, none⟩ = some (.int .i64 ((k + n1 : Nat) : Int)) := hR5.at_.cell 1
      have f1' := hR5.at_.frozen 1
      have HI2 := Lib.hid (fun q => is_yes (w5.drewN q) p s (k + n1) g 45 hR5.at_ HR.out.dash)
      have HP := Lib.hid (fun W => show Calls Tryz.prog 93 #[.string (s.extract (k + n1) s.size), .string ⟨#[45, 93]⟩] W fun e w' => e = .returned (.bool false) ∧ w' = W by
        have h1 := hasprefix_any W (s.extract (k + n1) s.size) ⟨#[45, 93]⟩
        rw [HR.out.pre] at h1
        exact h1)
      obtain ⟨k1, hk1⟩ : ∃ k1, k1 = k + n1 := ⟨_, rfl⟩
      rw [← hk1] at c1' HP
      have i1 : (0 : Int) ≤ (k1 : Int) := by omega
      have i2 : (k1 : Int) ≤ (s.size : Int) := by have := HR.out.lt2; omega
      have s1 : IntKind.i64.wrap ((k1 : Int) + 1) = ((k1 + 1 : Nat) : Int) := (IntWalk.i64_in _ (by have := HR.out.size; omega)).trans (by omega)
      have H5 := Lib.hid hR5
      have HB5 := Lib.hid hb5
      have HC5 := Lib.hid hc5
      have HX5 := Lib.hid hx5
      have HK1 := Lib.hid hk1
      clear h5 hb5 hR5 hx5 hc5 HO hk1
      go_upto_region 10 with fail
      go_quiet ((first | (go_at_call 272; exact Calls.quiet_of (HI2.out _)) | (go_at_call 93; exact Calls.quiet_of_same (HP.out _))))
      go_upto_region 14 with fail
      have hr6 : RdTo w p s (k1 + 1) g ((w5.drewN nq).setCell ⟨p, 1, none⟩ (.int .i64 ((k1 : Int) + 1))) := ⟨Blk.set_ (w := w5.drewN nq) H5.out.at_ 1 _, Chg.setCell (F := fun b => b = p) (H5.out.chg.drewN nq) (p := ⟨p, 1, none⟩) (.inl rfl) _⟩
      have hb6 : Blk ((w5.drewN nq).setCell ⟨p, 1, none⟩ (.int .i64 ((k1 : Int) + 1))) w.heap.size 337 #[.int .i64 1, .slice none 0 0, .bool false, .int .i64 0, .int .i64 0, .int .i64 0, .bool false, .bool false, .slice none 0 0] := Blk.far (w := w5.drewN nq) HB5.out (p := ⟨p, 1, none⟩) hne _
      have hc6 : Blk ((w5.drewN nq).setCell ⟨p, 1, none⟩ (.int .i64 ((k1 : Int) + 1))) x 395 #[.int .i32 (c1 : Int), .int .i32 (c1 : Int)] := Blk.far (w := w5.drewN nq) HC5.out (p := ⟨p, 1, none⟩) hxp _
      obtain ⟨w6, hw6⟩ : ∃ w6, w6 = (w5.drewN nq).setCell ⟨p, 1, none⟩ (.int .i64 ((k1 : Int) + 1)) := ⟨_, rfl⟩
      rw [← hw6] at hr6 hb6 hc6 ⊢
      have x6 : w6.cell? ⟨x, 0, none⟩ = some (.int .i32 (c1 : Int)) := hc6.cell 0
      have HL := Lib.hid (last_any w6.drew p s (k1 + 1) g c2 n2 (c1 : Int) hr6.at_ HR.out.size (by rw [HK1.out]; exact HR.out.lt2) (HT.out w6.drew ⟨_, hr6.drew⟩) hp (by rw [HK1.out]; exact HR.out.e92) (by rw [HK1.out]; exact HR.out.d2) HR.out.m2 (by have := HR.out.le; omega))
      have H6 := Lib.hid hr6
      have HB6 := Lib.hid hb6
      have HC6 := Lib.hid hc6
      clear hr6 hb6 hc6 hw6 c0 c1' f1' i1 i2 s1 HI2 HP
      go_region_with ((go_at_call 299; refine HL.out.mono ?_; rintro e w7 ⟨rfl, h7⟩; have hc7 : Blk w7 x 395 #[.int .i32 (c1 : Int), .int .i32 (c1 : Int)] := (h7.keep HC6.out.lt hxp).trans HC6.out; have x7 : w7.cell? ⟨x, 0, none⟩ = some (.int .i32 (c1 : Int)) := hc7.cell 0; have H7 := Lib.hid h7; clear h7 hc7))
      all_goals
        have hb7 : Blk w7 w.heap.size 337 #[.int .i64 1, .slice none 0 0, .bool false, .int .i64 0, .int .i64 0, .int .i64 0, .bool false, .bool false, .slice none 0 0] := (H7.out.keep HB6.out.lt hne).trans HB6.out
        have H8 := Lib.hid ((H6.out.drew.trans H7.out).below ((Below.refl _ w7).alloc (Nat.le_refl _) (.cells #[.int .i32 (c1 : Int), .int .i32 (c2 : Int)] 395)))
        have hb8 := hb7.alloc (.cells #[.int .i32 (c1 : Int), .int .i32 (c2 : Int)] 395)
        obtain ⟨w8, hw8⟩ : ∃ w8, w8 = w7.alloc (.cells #[.int .i32 (c1 : Int), .int .i32 (c2 : Int)] 395) := ⟨_, rfl⟩
        rw [← hw8] at hb8 H8 ⊢
        have t8 : w8.cell? ⟨w.heap.size, 1, none⟩ = some (.slice none 0 0) := hb8.cell 1
        have hs8 : w.heap.size ≤ w8.heap.size := by have := hb8.lt; omega
        have HRD := Lib.hid (show Reads w8 (w7.heap.size + 1) 2 (some ⟨w7.heap.size, 0, none⟩) 1 [.int .i32 (c1 : Int), .int .i32 (c2 : Int)] by rw [hw8]; exact ⟨rfl, fun _ => ⟨_, rfl, Nat.lt_succ_self _, cells_newL w7 395 _ _ rfl⟩⟩)
        have HB8 := Lib.hid hb8
        clear hb7 hb8 hw8 x6 x7 HL
        go_wp2_with (at_builtin; go_loud (refine wpList_append_any _ rfl (.tmp 97) (.tmp 98) 334 rfl w.heap.size 395 i0 (.agg #[.int .i32 0, .int .i32 0]) 2 8 Tryz.underlying334 HI.out HZ0.out HZ1.out HZ2.out rfl (by omega) (.slice none 0 0) 0 [] rfl (World.ownsRow_nil _ _ _ _) (w7.heap.size + 1) (some ⟨w7.heap.size, 0, none⟩) 1 1 [.int .i32 (c1 : Int), .int .i32 (c2 : Int)] rfl HRD.out (by simp [Value.oneCell']) (by simp [maxLen]) (by omega) hs8 ?_; intro v9 w9 hown9 hgrow9 _; rw [Nat.zero_add, List.nil_append] at hown9; obtain ⟨A9, c9, hv9⟩ := own_slice hown9; subst hv9; have hb9 := HB8.out.grown hgrow9 (by intro e; cases e); have e9 : w9.cell? ⟨w.heap.size, 1, none⟩ = some (.slice none 0 0) := hb9.cell 1; have f9 := hb9.frozen 1; have HB9 := Lib.hid hb9; have HO9 := Lib.hid hown9; have HG9 := Lib.hid hgrow9; clear hb9 hown9 hgrow9))
        have hk : k + n1 + 1 + n2 = k1 + 1 + n2 := by rw [HK1.out]
        refine ⟨.inr ⟨rfl, ⟨?_, ?_⟩, Nat.le_refl _, .slice A9 1 c9, HB9.out.set_ 1 _, ownsRow_setCell_other HO9.out (own_blk_ne HO9.out HB9.out (by decide)) (a := ⟨w.heap.size, 1, none⟩) _⟩, by decide⟩
        · rw [hk]
          exact Blk.far (Blk.grown H8.out.at_ HG9.out (by intro e; cases e)) (p := ⟨w.heap.size, 1, none⟩) (Ne.symm hne) _
        · exact Chg.setCell (F := fun b => b = p) (H8.out.chg.grown HG9.out (fun _ e => by cases e)) (p := ⟨w.heap.size, 1, none⟩) (.inr (Nat.le_refl _)) _
    · have HM1 := Lib.hid (takes_yes wr p s (k + n1 + 1 + n2) g 93 h3.at_ HR.out.size HR.out.shut)
      have HS := Lib.hid hb3
      have H3 := Lib.hid h3
      clear h3 hb3
      go_wp2_with fail
      refine HM1.out.mono ?_
      rintro e w4 ⟨rfl, h4⟩
      have H4 := Lib.hid h4
      clear h4 HM1
      go_wp2
      go_ret
      exact ⟨w.heap.size, rfl, H3.out.trans H4.out, HS.out.keep fun j hj hlt => H4.out.keep hlt (by omega)⟩
end Go.Proofs.YtbeeejpjnniejaaGreatDoor
namespace Go.Proofs.YtbeeejpjnniejaaGreatDoor
open Go.RowKit Go.Shelf
attribute [-go_sem] Builtin.append_
/-- the expression is a class of one range, and no more -/
structure Rxp (s : ByteArray) (c1 n1 c2 n2 : Nat) : Prop where
  d0 : Lib.decodeGo (s.extract 0 s.size) = (91, 1)
  rng : Rng s 1 c1 n1 c2 n2
  len : 1 + n1 + 1 + n2 + 1 = s.size
  a124 : isB s 0 124 = false
  a41 : isB s 0 41 = false
theorem isB_end {s : ByteArray} {k : Nat} {b : Int} (h : k = s.size) : isB s k b = false := by
  unfold isB
  rw [dif_neg (by omega)]
theorem own_lower {w : World} {B B2 : Nat} {e : TypeId} {z n : Nat} {v : Value} {xs : List Value} (h : w.ownsRow B e z v n xs) (hB : B2 ≤ B) : w.ownsRow B2 e z v n xs := by
  refine ⟨h.1, ?_⟩
  rcases h.2 with h1 | ⟨g, cap, cur, h1, h2, h3⟩
  · exact .inl h1
  · exact .inr ⟨g, cap, cur, h1, by omega, h3⟩
theorem SetAt.lower {w : World} {B B2 t c1 c2 : Nat} (h : SetAt w B t c1 c2) (hB : B2 ≤ B) : SetAt w B2 t c1 c2 := by
  obtain ⟨a, v, b, c⟩ := h
  exact ⟨Nat.le_trans hB a, v, b, own_lower c hB⟩
theorem SetAt.to {w w' : World} {B t c1 c2 p k g : Nat} {s : ByteArray} (h : SetAt w B t c1 c2) (hr : RdTo w p s k g w') (hp : p < B) : SetAt w' B t c1 c2 := h.keep fun j hj hlt => hr.keep hlt (by omega)
set_option maxRecDepth 100000 in
set_option maxHeartbeats 3200000 in
theorem thing_any (w : World) (p : Nat) (s : ByteArray) (g c1 n1 c2 n2 : Nat) (h : RdAt w p s 0 g) (hT : Tabs w) (hp : 2 < p) (hr : Rxp s c1 n1 c2 n2) :
    Calls Tryz.prog 287 #[.pointer (some ⟨p, 0, none⟩)] w fun e w' => ∃ t, e = .returned (.pointer (some ⟨t, 0, none⟩)) ∧ RdTo w p s s.size g w' ∧ SetAt w' w.heap.size t c1 c2 := by
  have c1' : w.cell? ⟨p, 1, none⟩ = some (.int .i64 ((0 : Nat) : Int)) := h.cell 1
  have HC := Lib.hid (char_any w p s 0 g 91 1 h hr.rng.size (by have := hr.len; omega) hT hp hr.d0 (by omega))
  have HT := Lib.hid (fun W (hW : RdTo w p s 1 g W) => (hT.keep fun b hb => hW.keep (by have := h.lt; omega) (by omega) : Tabs W))
  have HL := Lib.hid (fun W (hW : RdTo w p s 1 g W) => class_any W p s 1 g c1 n1 c2 n2 hW.at_ (HT.out W hW) hp hr.rng)
  have HR := Lib.hid hr
  have hpl : p < w.heap.size := h.lt
  clear h hT hr
  go_enter Tryz.func287, Tryz.ntmps287
  go_wp2_with fail
  refine HC.out.mono ?_
  rintro e w1 ⟨rfl, h1⟩
  have H1 := Lib.hid h1
  clear h1 c1' HC
  go_wp2_with fail
  refine (HL.out w1 H1.out).mono ?_
  rintro e w2 ⟨t, rfl, h2, hs2⟩
  have H2 := Lib.hid h2
  have HS2 := Lib.hid hs2
  clear h2 hs2
  go_wp2
  go_ret
  refine ⟨t, rfl, ?_, ?_⟩
  · have h3 := H1.out.trans H2.out
    rw [HR.out.len] at h3
    exact h3
  · exact HS2.out.lower H1.out.chg.size
set_option maxRecDepth 100000 in
set_option maxHeartbeats 3200000 in
theorem repeated_any (w : World) (p : Nat) (s : ByteArray) (g c1 n1 c2 n2 : Nat) (h : RdAt w p s 0 g) (hT : Tabs w) (hp : 2 < p) (hr : Rxp s c1 n1 c2 n2) :
    Calls Tryz.prog 273 #[.pointer (some ⟨p, 0, none⟩)] w fun e w' => ∃ t, e = .returned (.pointer (some ⟨t, 0, none⟩)) ∧ RdTo w p s s.size g w' ∧ SetAt w' w.heap.size t c1 c2 := by
  have HC := Lib.hid (thing_any w p s g c1 n1 c2 n2 h hT hp hr)
  have HK := Lib.hid (fun W b (hW : RdTo w p s s.size g W) => takes_no W p s s.size g b hW.at_ hr.rng.size (isB_end rfl))
  have hpl : p < w.heap.size := h.lt
  clear h hT hr
  go_enter Tryz.func273, Tryz.ntmps273
  go_wp2_with fail
  refine HC.out.mono ?_
  rintro e w1 ⟨t, rfl, h1, hs1⟩
  have hs1' := hs1
  obtain ⟨htB, v, hb, ho⟩ := hs1'
  have c0 : w1.cell? ⟨t, 0, none⟩ = some (.int .i64 1) := hb.cell 0
  have H1 := Lib.hid h1
  have HS1 := Lib.hid hs1
  clear h1 hs1 hb ho HC
  go_upto_region 6 with fail
  have hb2 : Below w1.heap.size w1 ((w1.alloc (.cells #[.pointer (some ⟨t, 0, none⟩)] 284)).alloc (.cells #[.int .i64 7, .slice none 0 0, .bool false, .int .i64 0, .int .i64 0, .int .i64 0, .bool false, .bool false, .slice (some ⟨w1.heap.size, 0, none⟩) 1 1] 337)) := ((Below.refl _ w1).alloc (Nat.le_refl _) _).alloc (by simp) _
  obtain ⟨w2, hw2⟩ : ∃ w2, w2 = (w1.alloc (.cells #[.pointer (some ⟨t, 0, none⟩)] 284)).alloc (.cells #[.int .i64 7, .slice none 0 0, .bool false, .int .i64 0, .int .i64 0, .int .i64 0, .bool false, .bool false, .slice (some ⟨w1.heap.size, 0, none⟩) 1 1] 337) := ⟨_, rfl⟩
  rw [← hw2] at hb2 ⊢
  have H2 := Lib.hid (H1.out.below hb2)
  have HS2 := Lib.hid (HS1.out.keep fun j _ hlt => hb2.block j hlt)
  have hs2 : w.heap.size ≤ w2.heap.size := H2.out.chg.size
  clear hb2 hw2 c0 htB
  go_wp2_with fail
  refine (HK.out w2 42 H2.out).mono ?_
  rintro e w3 ⟨rfl, h3⟩
  have H3 := Lib.hid (H2.out.trans h3)
  have HS3 := Lib.hid (HS2.out.to h3 hpl)
  clear h3
  go_wp2_with fail
  refine (HK.out w3 43 H3.out).mono ?_
  rintro e w4 ⟨rfl, h4⟩
  have H4 := Lib.hid (H3.out.trans h4)
  have HS4 := Lib.hid (HS3.out.to h4 hpl)
  clear h4
  go_wp2_with fail
  refine (HK.out w4 63 H4.out).mono ?_
  rintro e w5 ⟨rfl, h5⟩
  have H5 := Lib.hid (H4.out.trans h5)
  have HS5 := Lib.hid (HS4.out.to h5 hpl)
  clear h5
  go_wp2_with fail
  refine (HK.out w5 123 H5.out).mono ?_
  rintro e w6 ⟨rfl, h6⟩
  have H6 := Lib.hid (H5.out.trans h6)
  have HS6 := Lib.hid (HS5.out.to h6 hpl)
  clear h6
  go_wp2
  go_ret
  exact ⟨t, rfl, H6.out, HS6.out⟩
theorem info284 : (Tryz.prog.info? 284).map (fun i => (i.zero, i.size, i.bytes)) = some (some (.pointer none), 1, 8) := by kernel_rfl
/-- what a chain of one set of one range is in memory -/
def ChainAt (w : World) (B t c1 c2 : Nat) : Prop := B ≤ t ∧ ∃ v t1, Blk w t 337 #[.int .i64 5, .slice none 0 0, .bool false, .int .i64 0, .int .i64 0, .int .i64 0, .bool false, .bool false, v] ∧ w.ownsRow B 284 1 v 1 [.pointer (some ⟨t1, 0, none⟩)] ∧ SetAt w B t1 c1 c2
theorem ChainAt.keep {w w' : World} {B t c1 c2 : Nat} (h : ChainAt w B t c1 c2) (hk : ∀ j, B ≤ j → j < w.heap.size → w'.heap[j]? = w.heap[j]?) : ChainAt w' B t c1 c2 := by
  obtain ⟨h1, v, t1, h2, h3, h4⟩ := h
  exact ⟨h1, v, t1, (hk t h1 h2.lt).trans h2, own_blk h3 fun j hj => hk j (h3.lt j hj).1 (h3.lt j hj).2, h4.keep hk⟩
/-- between the rounds over a chain -/
def ChR (w : World) (p : Nat) (s : ByteArray) (g c1 c2 : Nat) (l : Value) (wr : World) : Prop :=
  (l = .slice none 0 0 ∧ RdTo w p s 0 g wr) ∨ (∃ t1 A c, l = .slice A 1 c ∧ RdTo w p s s.size g wr ∧ wr.ownsRow w.heap.size 284 1 l 1 [.pointer (some ⟨t1, 0, none⟩)] ∧ SetAt wr w.heap.size t1 c1 c2)
def mLen : Value → Nat
  | .slice _ 0 _ => 1
  | _ => 0
set_option maxRecDepth 100000 in
set_option maxHeartbeats 3200000 in
theorem chain_any (w : World) (p : Nat) (s : ByteArray) (g c1 n1 c2 n2 : Nat) (h : RdAt w p s 0 g) (hT : Tabs w) (hp : 2 < p) (hr : Rxp s c1 n1 c2 n2) :
    Calls Tryz.prog 247 #[.pointer (some ⟨p, 0, none⟩)] w fun e w' => ∃ t, e = .returned (.pointer (some ⟨t, 0, none⟩)) ∧ RdTo w p s s.size g w' ∧ ChainAt w' w.heap.size t c1 c2 := by
  obtain ⟨i0, hi, hz0, hz1, hz2⟩ := info_parts info284
  have HI := Lib.hid hi
  have HZ0 := Lib.hid hz0
  have HZ1 := Lib.hid hz1
  have HZ2 := Lib.hid hz2
  clear hi hz0 hz1 hz2
  have hpl : p < w.heap.size := h.lt
  have HT := Lib.hid (fun W (hW : RdTo w p s 0 g W) => (hT.keep fun b hb => hW.keep (by omega) (by omega) : Tabs W))
  have HC := Lib.hid (fun W (hW : RdTo w p s 0 g W) => repeated_any W p s g c1 n1 c2 n2 hW.at_ (HT.out W hW) hp hr)
  have HB := Lib.hid h
  have HR := Lib.hid hr
  clear h hT hr
  go_enter Tryz.func247, Tryz.ntmps247
  go_wp2_with fail
  go_loopw [3] (fun l wr => ChR w p s g c1 c2 l wr) (fun l _ => mLen l)
  case atStart => exact .inl ⟨rfl, RdTo.refl HB.out⟩
  case round =>
    rcases hrel with ⟨rfl, h1⟩ | ⟨t1, A, c, rfl, h1, ho1, hs1⟩
    · have HM := Lib.hid (more_any wr p s 0 g h1.at_)
      have hd : decide (0 < s.size) = true := by have := HR.out.len; simp; omega
      rw [hd] at HM
      have HI1 := Lib.hid (fun W (hW : RdTo w p s 0 g W) => is_no W p s 0 g 124 hW.at_ HR.out.a124)
      have HI2 := Lib.hid (fun W (hW : RdTo w p s 0 g W) => is_no W p s 0 g 41 hW.at_ HR.out.a41)
      have H1 := Lib.hid h1
      clear h1 hd
      go_wp2_with fail
      refine HM.out.mono ?_
      rintro e w2 ⟨rfl, q2, hw2⟩
      have H2 := Lib.hid (show RdTo w p s 0 g w2 by rw [hw2]; exact H1.out.drewN q2)
      clear hw2
      go_wp2_with fail
      refine (HI1.out w2 H2.out).mono ?_
      rintro e w3 ⟨rfl, q3, hw3⟩
      have H3 := Lib.hid (show RdTo w p s 0 g w3 by rw [hw3]; exact H2.out.drewN q3)
      clear hw3
      go_wp2_with fail
      refine (HI2.out w3 H3.out).mono ?_
      rintro e w4 ⟨rfl, q4, hw4⟩
      have H4 := Lib.hid (show RdTo w p s 0 g w4 by rw [hw4]; exact H3.out.drewN q4)
      clear hw4
      go_wp2_with fail
      refine (HC.out w4 H4.out).mono ?_
      rintro e w5 ⟨t, rfl, h5, hs5⟩
      have hsz : w.heap.size ≤ w5.heap.size := (H4.out.trans h5).chg.size
      have H5 := Lib.hid (H4.out.trans h5)
      have HS5 := Lib.hid (hs5.lower H4.out.chg.size)
      clear h5 hs5
      go_wp2_with (at_builtin; go_loud (refine wpList_append_any _ rfl (.tmp 16) (.tmp 19) 335 rfl w.heap.size 284 i0 (.pointer none) 1 8 Tryz.underlying335 HI.out HZ0.out HZ1.out HZ2.out rfl (by omega) (.slice none 0 0) 0 [] rfl (World.ownsRow_nil _ _ _ _) (w5.heap.size + 1) (some ⟨w5.heap.size, 0, none⟩) 1 1 [.pointer (some ⟨t, 0, none⟩)] rfl ⟨rfl, fun _ => ⟨_, rfl, Nat.lt_succ_self _, cells_newL w5 284 _ _ rfl⟩⟩ (by simp [Value.oneCell']) (by simp [maxLen]) (by omega) (by rw [World.size_alloc]; omega) ?_; intro v9 w9 hown9 hgrow9 _; rw [Nat.zero_add, List.nil_append] at hown9; obtain ⟨A9, c9, hv9⟩ := own_slice hown9; subst hv9; have HO9 := Lib.hid hown9; have HG9 := Lib.hid hgrow9; clear hown9 hgrow9))
      refine ⟨.inr ⟨t, A9, c9, rfl, ?_, HO9.out, ?_⟩, Nat.lt_succ_self 0⟩
      · have h6 := H5.out.below ((Below.refl _ w5).alloc (Nat.le_refl _) (.cells #[.pointer (some ⟨t, 0, none⟩)] 284))
        exact ⟨Blk.grown h6.at_ HG9.out (by intro e; cases e), h6.chg.grown HG9.out (fun _ e => by cases e)⟩
      · exact HS5.out.keep fun j _ hlt => by
          have h7 := HG9.out.block j (by rw [World.size_alloc]; omega) (by intro e; cases e)
          exact h7.trans (Below.heap_alloc _ _ _ hlt)
    · have HM := Lib.hid (more_any wr p s s.size g h1.at_)
      have hd : decide (s.size < s.size) = false := by simp
      rw [hd] at HM
      have H1 := Lib.hid h1
      have HO1 := Lib.hid ho1
      have HS1 := Lib.hid hs1
      clear h1 hd ho1 hs1
      go_wp2_with fail
      refine HM.out.mono ?_
      rintro e w2 ⟨rfl, q2, hw2⟩
      have H2 := Lib.hid (show RdTo w p s s.size g w2 by rw [hw2]; exact H1.out.drewN q2)
      have HO2 := Lib.hid (show w2.ownsRow w.heap.size 284 1 (.slice A 1 c) 1 [.pointer (some ⟨t1, 0, none⟩)] by rw [hw2]; exact HO1.out)
      have HS2 := Lib.hid (show SetAt w2 w.heap.size t1 c1 c2 by rw [hw2]; exact HS1.out)
      clear hw2
      go_wp2
      go_ret
      have hbl := (Below.refl w2.heap.size w2).alloc (Nat.le_refl _) (.cells #[.int .i64 5, .slice none 0 0, .bool false, .int .i64 0, .int .i64 0, .int .i64 0, .bool false, .bool false, .slice A 1 c] 337)
      exact ⟨w2.heap.size, rfl, H2.out.below hbl, H2.out.chg.size, .slice A 1 c, t1, Blk.new w2 337 _, HO2.out.alloc _, HS2.out.keep fun j _ hlt => hbl.block j hlt⟩
end Go.Proofs.YtbeeejpjnniejaaGreatDoor
