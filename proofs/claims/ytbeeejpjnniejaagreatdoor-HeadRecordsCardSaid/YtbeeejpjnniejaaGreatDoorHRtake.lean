/- The document's head: Take (56). -/
import Derived.Test.YtbeeejpjnniejaaGreatDoorHRadd
import Derived.Test.YtbeeejpjnniejaaGreatDoorJ10HCommit
namespace Go.Proofs.YtbeeejpjnniejaaGreatDoor
open Go.RowKit Go.Shelf Go.Maps
attribute [-go_sem] Builtin.append_
theorem take_drop_one {H : Hd} {pts : List Pt} {k : Nat} {q : Pt} (h : pts[k]? = some q) : (H.take (pts.take (k + 1))).2 = ((H.take (pts.take k)).2).take1 q := by
  have e : pts.take (k + 1) = pts.take k ++ [q] := by rw [List.take_add_one, h]; rfl
  rw [e]
  generalize pts.take k = l
  induction l generalizing H with
  | nil => rfl
  | cons a l ih =>
    show ((H.take1 a).take (l ++ [q])).2 = (((H.take1 a).take l).2).take1 q
    exact ih
theorem PtsAt.keepQ {w w' : World} {B : Nat} {Q : Nat → Prop} {v : Value} {pts : List Pt} (h : PtsAt w B Q v pts) (hv : ∀ k, useB v = some k → k < B → w'.heap[k]? = w.heap[k]?) (hb : ∀ k, Q k → k < B → w'.heap[k]? = w.heap[k]?) : PtsAt w' B Q v pts := by
  obtain ⟨A, c, vs, rfl, e2, r, h1⟩ := h
  refine ⟨A, c, vs, rfl, e2, ⟨r.1, fun hn => ?_⟩, fun i x p a b => ⟨(h1 i x p a b).1, (h1 i x p a b).2.1.keepQ fun k hk hB => hb k ((h1 i x p a b).2.2.2 k hk) hB, (h1 i x p a b).2.2⟩⟩
  obtain ⟨ad, rfl, hB, hc⟩ := r.2 hn
  have hu : useB (.slice (some ad) pts.length c) = some ad.block := by
    cases hl : pts.length with
    | zero => omega
    | succ n => rfl
  exact ⟨ad, rfl, hB, fun j u hj => (World.cell?_of_block (by rw [block_of_add]; exact hv _ hu hB)).trans (hc j u hj)⟩
/-- what Take holds in its loop -/
structure TkS (w : World) (F : Nat → Prop) (p n : Nat) (H : Hd) (pts : List Pt) (k : Nat) (out : Value) (G : Nat → Prop) (wr : World) : Prop where
  hd : RHd wr G p (n + k) (H.take (pts.take k)).2
  own : ∃ xs, wr.ownsRow w.heap.size 32 1 out k xs
  gg : ∀ j, G j → (F j ∨ w.heap.size ≤ j) ∧ j < wr.heap.size
  neG : ∀ j, out.ownBlock = some j → ¬ G j
  chg : Chg F w wr
def TkR (w : World) (F : Nat → Prop) (p n : Nat) (H : Hd) (pts : List Pt) (out i : Value) (wr : World) : Prop :=
  ∃ (k : Nat) (G : Nat → Prop), i = .int .i64 (k : Int) ∧ k ≤ pts.length ∧ TkS w F p n H pts k out G wr
theorem TkS.refuse {w wr w3 w7 : World} {F G : Nat → Prop} {p n k : Nat} {H : Hd} {pts : List Pt} {q : Pt} {Ao : Option Addr} {co : Nat} {v7 : Value} {ys : List Value} {o : Obj} (h : TkS w F p n H pts k (.slice Ao k co) G wr) (hq : pts[k]? = some q) (hc : (H.take (pts.take k)).2.code q ≠ 0) (hb : Below wr.heap.size wr w3)
    (hown : w7.ownsRow w.heap.size 32 1 v7 (k + 1) ys) (hg : (w3.alloc o).grownBy w7 (Value.slice Ao k co).ownBlock) (hor : v7.ownBlock = (Value.slice Ao k co).ownBlock ∨ v7.ownBlock = some (w3.alloc o).heap.size) : TkS w F p n H pts (k + 1) v7 G w7 := by
  obtain ⟨xs, ho⟩ := h.own
  have hs := hb.size
  have hsg := hg.size
  rw [World.size_alloc] at hsg
  have hblk : ∀ j, G j → w7.heap[j]? = wr.heap[j]? := fun j hj => by
    have hlt := (h.gg j hj).2
    exact (hg.block j (by rw [World.size_alloc]; omega) (fun e => h.neG j e.symm hj)).trans ((Below.heap_alloc w3 o j (by omega)).trans (hb.block j hlt))
  refine ⟨?_, ⟨ys, hown⟩, fun j hj => ⟨(h.gg j hj).1, by have := (h.gg j hj).2; omega⟩, fun j hj hG => ?_, ?_⟩
  · rw [take_drop_one hq]
    unfold Hd.take1
    rw [if_neg hc]
    exact (h.hd.keep (fun j hj _ => hblk j hj) fun j hj _ => hj).mono (by omega)
  · rcases hor with e | e
    · exact h.neG j (e ▸ hj) hG
    · rw [e, World.size_alloc] at hj
      injection hj with hj
      have := (h.gg j hG).2
      omega
  · have h1 : Below wr.heap.size wr (w3.alloc o) := hb.alloc hs o
    exact (h.chg.below h1 h.chg.size).grown hg fun j hj => .inr (ho.lt j hj).1
theorem TkS.took {w wr w3 w4 w7 : World} {F G : Nat → Prop} {p n k : Nat} {H : Hd} {pts : List Pt} {q : Pt} {Ao : Option Addr} {co : Nat} {v7 : Value} {ys : List Value} {o : Obj} (h : TkS w F p n H pts k (.slice Ao k co) G wr) (hq : pts[k]? = some q) (hc : (H.take (pts.take k)).2.code q = 0) (hb : Below wr.heap.size wr w3)
    (hd : RHd w4 (Grs G w3 w4) p (n + k + 1) ((H.take (pts.take k)).2.add q)) (hch : Chg G w3 w4)
    (hown : w7.ownsRow w.heap.size 32 1 v7 (k + 1) ys) (hg : (w4.alloc o).grownBy w7 (Value.slice Ao k co).ownBlock) (hor : v7.ownBlock = (Value.slice Ao k co).ownBlock ∨ v7.ownBlock = some (w4.alloc o).heap.size) : TkS w F p n H pts (k + 1) v7 (Grs G w3 w4) w7 := by
  obtain ⟨xs, ho⟩ := h.own
  have hs := hb.size
  have hs4 := hch.size
  have hsw := h.chg.size
  have hsg := hg.size
  rw [World.size_alloc] at hsg
  have hne : ∀ j, (Value.slice Ao k co).ownBlock = some j → ¬ Grs G w3 w4 j := fun j hj hG => by
    rcases hG.1 with h1 | h1
    · exact h.neG j hj h1
    · have := (ho.lt j hj).2
      omega
  have hblk : ∀ j, Grs G w3 w4 j → w7.heap[j]? = w4.heap[j]? := fun j hj =>
    (hg.block j (by rw [World.size_alloc]; have := hj.2; omega) (fun e => hne j e.symm hj)).trans (Below.heap_alloc w4 o j hj.2)
  refine ⟨?_, ⟨ys, hown⟩, fun j hj => ⟨?_, by have := hj.2; omega⟩, fun j hj hG => ?_, ?_⟩
  · rw [take_drop_one hq]
    unfold Hd.take1
    rw [if_pos hc]
    exact (hd.keep (fun j hj _ => hblk j hj) fun j hj _ => hj).mono (by omega)
  · rcases hj.1 with h1 | h1
    · exact (h.gg j h1).1
    · exact .inr (by omega)
  · rcases hor with e | e
    · exact hne j (e ▸ hj) hG
    · rw [e, World.size_alloc] at hj
      injection hj with hj
      have := hG.2
      omega
  · have h1 : Chg F w w4 := (h.chg.below hb h.chg.size).trans hch fun j hj => (h.gg j hj).1
    exact (h1.below ((Below.refl _ w4).alloc (Nat.le_refl _) o) h1.size).grown hg fun j hj => .inr (ho.lt j hj).1
set_option maxRecDepth 100000 in
set_option maxHeartbeats 6400000 in
theorem rtake_any (w : World) (F : Nat → Prop) (p n B : Nat) (H : Hd) (v : Value) (pts : List Pt) (h : RHd w F p n H) (hp : PtsAt w B (fun k => ¬ F k) v pts) (hvF : ∀ k, useB v = some k → ¬ F k) (hB : B ≤ w.heap.size) (hF : ∀ k, F k → k < w.heap.size) (hn : n + pts.length ≤ 100000) (hls : ∀ q ∈ pts, q.1.length ≤ 100000) :
    Calls Tryz.prog 56 #[.pointer (some ⟨p, 0, none⟩), v] w fun e w' => (∃ u, e = .returned u) ∧ RHd w' (Grs F w w') p (n + pts.length) (H.take pts).2 ∧ Chg F w w' := by
  obtain ⟨j0, hj, hz0, hz1, hz2⟩ := info_parts info32
  have HJ0 := Lib.hid hj
  have HZ0 := Lib.hid hz0
  have HZ1 := Lib.hid hz1
  have HZ2 := Lib.hid hz2
  clear hj hz0 hz1 hz2
  obtain ⟨m, hm⟩ : ∃ m, m = pts.length := ⟨_, rfl⟩
  obtain ⟨A, c, hv⟩ : ∃ A c, v = .slice A m c := by obtain ⟨A, c, vs, e, -⟩ := hp; exact ⟨A, c, by rw [hm]; exact e⟩
  subst hv
  have HST := Lib.hid (show TkR w F p n H pts (.slice none 0 0) (.int .i64 0) w from ⟨0, F, rfl, Nat.zero_le _, h, ⟨[], World.ownsRow_nil _ _ _ _⟩, fun j hj => ⟨.inl hj, hF j hj⟩, fun j hj => (by cases hj), Chg.refl _ _⟩)
  have HM := Lib.hid hm
  have HP := Lib.hid hp
  have HVF := Lib.hid hvF
  have HB := Lib.hid hB
  have HN := Lib.hid hn
  have HLS := Lib.hid hls
  clear h hp hvF hB hF hn hls hm
  go_enter Tryz.func56, Tryz.ntmps56
  go_wp2_with fail
  go_loopw [5, 6] (fun out i wr => TkR w F p n H pts out i wr) (fun _ i _ => m - (intOf i).toNat)
  case atStart => exact HST.out
  case round =>
    obtain ⟨k, G, rfl, hk, ht⟩ := hrel
    obtain ⟨xs, hown⟩ := ht.own
    obtain ⟨Ao, co, ho⟩ := own_slice hown
    subst ho
    have HT := Lib.hid ht
    have HO := Lib.hid hown
    have hsw : w.heap.size ≤ wr.heap.size := ht.chg.size
    clear ht hown
    by_cases hlt : k < m
    · have i1 : (k : Int) < (m : Int) := by omega
      obtain ⟨q, hq⟩ : ∃ q, pts[k]? = some q := ⟨_, List.getElem?_eq_getElem (by have := HM.out; omega)⟩
      have hpw := HP.out.keepQ (w' := wr) (fun j hj hb => HT.out.chg.block j (by have := HB.out; omega) (HVF.out j hj)) (fun j hj hb => HT.out.chg.block j (by have := HB.out; omega) hj)
      obtain ⟨d, c', AL, cL, ev, hd, x0, x1, x2, hla, hsz, hQl⟩ := hpw.at_ hq
      injection ev with ev1 ev2 ev3
      subst ev1 ev3
      have hlq := HLS.out q (List.mem_of_getElem? hq)
      have hk5 : k < 100000 := by have := HN.out; have := HM.out; omega
      have hnk : n + k ≤ 100000 := by have := HN.out; have := HM.out; omega
      have sk : IntKind.i64.wrap ((k : Int) + 1) = ((k + 1 : Nat) : Int) := (IntWalk.i64_in _ (by omega)).trans (by omega)
      obtain ⟨H', hH'⟩ : ∃ H', H' = (H.take (pts.take k)).2 := ⟨_, rfl⟩
      have hBr : B ≤ wr.heap.size := by have := HB.out; omega
      have HQ := Lib.hid hq
      have HLA := Lib.hid hla
      obtain ⟨ql, qt, qb⟩ := q
      dsimp only at x0 x1 x2 hla hsz hlq
      have hrd : RHd wr G p (n + k) H' := by rw [hH']; exact HT.out.hd
      have hpl := rplan_any wr G p (n + k) B H' AL cL ql qt qb hrd hnk hla hBr hlq hsz.2
      obtain ⟨cd, hcd⟩ : ∃ cd, cd = H'.code (ql, qt, qb) := ⟨_, rfl⟩
      have had : ∀ w3, Below wr.heap.size wr w3 → cd = 0 → Calls Tryz.prog 116 #[.pointer (some ⟨p, 0, none⟩), .slice AL ql.length cL, .int .i64 qt, .float .f64 qb] w3 fun e w' => e = .returned (.tuple #[]) ∧ RHd w' (Grs G w3 w') p (n + k + 1) (H'.add (ql, qt, qb)) ∧ Chg G w3 w' := fun w3 hb3 h0 =>
        radd_any w3 G p (n + k) B H' AL cL ql qt qb (hrd.below hb3) hnk (hla.below hb3 hBr) (by have := hb3.size; omega) hlq (fun j hj => by have := (HT.out.gg j hj).2; have := hb3.size; omega) (hcd.symm.trans h0)
      obtain ⟨nL, hnL⟩ : ∃ n, n = ql.length := ⟨_, rfl⟩
      rw [← hnL] at x0 hpl had
      rw [← hcd] at hpl
      have HPL := Lib.hid hpl
      have HAD := Lib.hid had
      have HCD := Lib.hid hcd
      have HH' := Lib.hid hH'
      have hdB : d.block < wr.heap.size := by omega
      have HX0 := Lib.hid x0
      have HX1 := Lib.hid x1
      have HX2 := Lib.hid x2
      clear hpw hq hla hsz hQl hrd hpl had hcd hH' hnL hd hlq ev2
      go_wp2_with fail
      refine HPL.out.mono ?_
      rintro e w3 ⟨rfl, hb3⟩
      have HB3 := Lib.hid hb3
      have hs3 : wr.heap.size ≤ w3.heap.size := hb3.size
      replace x0 := (hb3.cell (p := d.add (k * 3)) (by rw [block_of_add]; exact hdB)).trans HX0.out
      replace x1 := (hb3.cell (p := ⟨(d.add (k * 3)).block, (d.add (k * 3)).off + 1, none⟩) (by rw [block_of_add]; exact hdB)).trans HX1.out
      replace x2 := (hb3.cell (p := ⟨(d.add (k * 3)).block, (d.add (k * 3)).off + 2, none⟩) (by rw [block_of_add]; exact hdB)).trans HX2.out
      have HO3 := Lib.hid (own_blk HO.out fun j hj => hb3.block j (HO.out.lt j hj).2)
      clear hb3 HPL
      by_cases h0 : cd = 0
      · subst h0
        have HA := Lib.hid (HAD.out w3.drew HB3.out.drew rfl)
        clear HAD
        go_upto_region 7 with fail
        go_still_tail 16, (by kernel_rfl)
        change wpList _ _ _ _ _ w3.drew
        go_wp2_with fail
        refine HA.out.mono ?_
        rintro e w4 ⟨rfl, hd4, hc4⟩
        have HD4 := Lib.hid hd4
        have HC4 := Lib.hid hc4
        have hs4 : w3.heap.size ≤ w4.heap.size := hc4.size
        have HO4 := Lib.hid (own_blk HO3.out fun j hj => hc4.block j (HO3.out.lt j hj).2 (HT.out.neG j hj))
        clear hd4 hc4 x0 x1 x2 HA
        go_wp2_with (at_builtin; go_loud (refine wpList_append_any _ rfl (.tmp 39) (.tmp 41) 44 rfl w.heap.size 32 j0 (.int .i64 0) 1 8 Tryz.underlying44 HJ0.out HZ0.out HZ1.out HZ2.out rfl (by omega) (.slice Ao k co) k xs rfl (HO4.out.alloc _) (w4.heap.size + 1) (some ⟨w4.heap.size, 0, none⟩) 1 1 [.int .i64 0] rfl ⟨rfl, fun _ => ⟨_, rfl, Nat.lt_succ_self _, cells_newL w4 32 _ _ rfl⟩⟩ (by simp [Value.oneCell']) (by simp [maxLen]; omega) (by omega) (by rw [World.size_alloc]; omega) ?_; intro v7 w7 hown7 hgrow7 hor7; obtain ⟨A7, c7, hv7⟩ := own_slice hown7; subst hv7; have HW7 := Lib.hid hown7; have HG7 := Lib.hid hgrow7; have HO7 := Lib.hid hor7; clear hown7 hgrow7 hor7))
        refine ⟨⟨k + 1, _, rfl, by have := HM.out; omega, TkS.took HT.out HQ.out ?_ HB3.out.drew ?_ HC4.out HW7.out HG7.out HO7.out⟩, by simp [intOf]; omega⟩
        · rw [← HH'.out]; exact HCD.out.symm
        · rw [← HH'.out]; exact HD4.out
      · have h0b : (cd == 0) = false := beq_eq_false_iff_ne.2 h0
        clear x0 x1 x2 HAD
        go_wp2_with (at_builtin; go_loud (refine wpList_append_any _ rfl (.tmp 39) (.tmp 41) 44 rfl w.heap.size 32 j0 (.int .i64 0) 1 8 Tryz.underlying44 HJ0.out HZ0.out HZ1.out HZ2.out rfl (by omega) (.slice Ao k co) k xs rfl (HO3.out.alloc _) (w3.heap.size + 1) (some ⟨w3.heap.size, 0, none⟩) 1 1 [.int .i64 cd] rfl ⟨rfl, fun _ => ⟨_, rfl, Nat.lt_succ_self _, cells_newL w3 32 _ _ rfl⟩⟩ (by simp [Value.oneCell']) (by simp [maxLen]; omega) (by omega) (by rw [World.size_alloc]; omega) ?_; intro v7 w7 hown7 hgrow7 hor7; obtain ⟨A7, c7, hv7⟩ := own_slice hown7; subst hv7; have HW7 := Lib.hid hown7; have HG7 := Lib.hid hgrow7; have HO7 := Lib.hid hor7; clear hown7 hgrow7 hor7))
        refine ⟨⟨k + 1, _, rfl, by have := HM.out; omega, TkS.refuse HT.out HQ.out ?_ HB3.out HW7.out HG7.out HO7.out⟩, by simp [intOf]; omega⟩
        rw [← HH'.out, ← HCD.out]
        exact h0
    · have i1 : ¬ (k : Int) < (m : Int) := by omega
      have hkm : k = pts.length := by have := HM.out; omega
      have HK := Lib.hid hkm
      clear hk hkm
      go_wp2
      go_ret
      have hd := HT.out.hd
      rw [HK.out, List.take_length] at hd
      exact ⟨⟨_, rfl⟩, hd.keep (fun _ _ _ => rfl) (fun j hj _ => HT.out.gg j hj), HT.out.chg⟩
end Go.Proofs.YtbeeejpjnniejaaGreatDoor
