/- Select. A matcher of one range: ready, means, all. New, Newest; ready and all at no matcher. A matcher of one range: all; what Select wants of it. The wake-up's head, plainly. -/
import Derived.Test.YtbeeejpjnniejaaGreatDoorJ11HTold
import Derived.Stop.RegionWithIn
import Derived.Test.YtbeeejpjnniejaaGreatDoorJ08Rx6
import Derived.Test.YtbeeejpjnniejaaGreatDoorJ05LSet
namespace Go.Proofs.YtbeeejpjnniejaaGreatDoor
open Go.RowKit Go.Maps Go.Sort Go.Shelf
attribute [local go_sem] Oper.semAt_some
attribute [-go_sem] Builtin.append_
/-- what the matchers are: how ready answers, and what all says of a set -/
def Rdy (w : World) (mv : Value) (code : Int) (mean : List Lbl → Bool) (P : List Lbl → Prop) : Prop :=
  ∀ W, Below w.heap.size w W → Calls Tryz.prog 65 #[mv] W fun e W' => ∃ A n c, e = .returned (.tuple #[.slice A n c, .int .i64 code]) ∧ Below W.heap.size W W' ∧
    (code = 0 → ∀ W2, Below W'.heap.size W' W2 → ∀ v ls, LabsAt W2 W2.heap.size v ls → ls.length ≤ 64 → P ls → Calls Tryz.prog 67 #[.slice A n c, v] W2 fun e W3 => e = .returned (.bool (mean ls)) ∧ Below W2.heap.size W2 W3)
def SelPost (w : World) (code : Int) (ss : List Ser) (e : Ending) (w' : World) : Prop :=
  ∃ v, e = .returned (.tuple #[v, .int .i64 code]) ∧ Below w.heap.size w w' ∧ if code = 0 then ∃ vs : List VV, vs.length = ss.length ∧ w'.ownsRow w.heap.size 40 2 v ss.length (flatV vs) ∧ ∀ (i : Nat) (p : VV) (s : Ser), vs[i]? = some p → ss[i]? = some s → SerOwn w' w.heap.size p s else v = .slice none 0 0
theorem horizon23_any (w : World) (p m : Nat) (H : Hd) (hb : Blk w p 126 #[.int .i64 H.ret, .int .i64 H.newest, .map (some m)]) (hok : H.Ok) : Calls Tryz.prog 23 #[.pointer (some ⟨p, 0, none⟩)] w fun e w' => e = .returned (.int .i64 H.horizon) ∧ w' = w := by
  have c1 : w.cell? ⟨p, 1, none⟩ = some (.int .i64 H.newest) := hb.cell 1
  have HC := Lib.hid (horizon_any p H.ret H.newest w (hb.cell 0) hok.ret (by have := hok.newest; unfold big at this; omega))
  obtain ⟨nw, hnw⟩ : ∃ x, x = H.newest := ⟨_, rfl⟩
  obtain ⟨hz, hhz⟩ : ∃ x, x = horizonP H.ret H.newest := ⟨_, rfl⟩
  have hE : H.horizon = hz := by rw [hhz]; rfl
  rw [hE]
  rw [← hhz, ← hnw] at HC
  rw [← hnw] at c1
  clear hb hok hnw hhz hE
  go_enter Tryz.func23, Tryz.ntmps23
  go_wp2_with fail
  refine HC.out.mono ?_
  rintro e w' ⟨rfl, rfl⟩
  clear HC
  go_wp2
  go_ret
  exact ⟨rfl, rfl⟩
theorem own_low {w : World} {B B2 : Nat} {e : TypeId} {z n : Nat} {v : Value} {xs : List Value} (h : w.ownsRow B e z v n xs) (hB : B2 ≤ B) : w.ownsRow B2 e z v n xs := by
  refine ⟨h.1, ?_⟩
  rcases h.2 with h1 | ⟨g, cap, cur, h1, h2, h3⟩
  · exact .inl h1
  · exact .inr ⟨g, cap, cur, h1, by omega, h3⟩
/-- between two rounds -/
structure SelI (w w2 w5 : World) (F : Nat → Prop) (p : Nat) (a b : Int) (rv : Value) (s : HS) (kb hb : Nat) (l : Dl) (v : Value) (sel : List Ser) (W : World) : Prop where
  hd : HeadAt W F p s
  so : SortKeep hb p kb hb s l v W
  bp : Blk W w.heap.size 25 #[.pointer (some ⟨p, 0, none⟩)]
  ba : Blk W (w.heap.size + 1) 3 #[.int .i64 a]
  bb : Blk W (w.heap.size + 1 + 1) 3 #[.int .i64 b]
  br : Blk W w2.heap.size 130 #[rv]
  out : ∃ (v' : Value) (vs : List VV), Blk W (w2.heap.size + 1) 31 #[v'] ∧ vs.length = sel.length ∧ W.ownsRow w2.heap.size 40 2 v' sel.length (flatV vs) ∧ ∀ (i : Nat) (q : VV) (x : Ser), vs[i]? = some q → sel[i]? = some x → SerOwn W w.heap.size q x
  bel : Below w.heap.size w W
  bel2 : Below w2.heap.size w2 W
  sz : w5.heap.size ≤ W.heap.size
structure SelLo (w w2 w5 : World) (F : Nat → Prop) (kb hb : Nat) : Prop where
  f : ∀ k, F k → k < w5.heap.size
  h1 : w.heap.size + 1 + 1 < w5.heap.size
  h2 : w2.heap.size + 1 < w5.heap.size
  h3 : kb < w5.heap.size
  h4 : hb < w5.heap.size
theorem SelI.other {w w2 w5 : World} {F : Nat → Prop} {p : Nat} {a b : Int} {rv : Value} {s : HS} {kb hb : Nat} {l : Dl} {v : Value} {sel : List Ser} {A B : World} (h : SelI w w2 w5 F p a b rv s kb hb l v sel A) (hl : SelLo w w2 w5 F kb hb) (ho : Other w5.heap.size A B) : SelI w w2 w5 F p a b rv s kb hb l v sel B := by
  have hb' : Below w5.heap.size A B := ho.below (Nat.le_refl _) h.sz
  obtain ⟨l1, l2, l3, l4, l5⟩ := hl
  obtain ⟨v', vs, o1, o2, o3, o4⟩ := h.out
  exact ⟨h.hd.keep (fun k hk _ => hb'.block k (l1 k hk)) (fun _ h => h) hb'.size,
    ⟨⟨h.so.so.kB.below hb' l4, h.so.so.hB.below hb' l5, ho.own h.so.so.keys, h.so.so.perm, h.so.so.rises, h.so.so.lo⟩, h.so.dir.keep (hb'.block _ (l1 _ h.hd.mF)), (hb'.cell (p := ⟨p, 2, none⟩) (l1 _ h.hd.own)).trans h.so.mp⟩,
    h.bp.below hb' (by omega), h.ba.below hb' (by omega), h.bb.below hb' l2, h.br.below hb' (by omega), ⟨v', vs, o1.below hb' l3, o2, ho.own o3, fun i q x h1 h2 => ⟨ho.own (o4 i q x h1 h2).1, ho.own (o4 i q x h1 h2).2⟩⟩,
    h.bel.trans (hb'.mono (by omega)), h.bel2.trans (hb'.mono (by omega)), Nat.le_trans h.sz hb'.size⟩
theorem SelI.step {w w2 w5 : World} {F : Nat → Prop} {p : Nat} {a b : Int} {rv : Value} {s : HS} {kb hb : Nat} {l : Dl} {v : Value} {sel : List Ser} {A W7 : World} {v1 v8 : Value} {vs : List VV} {q : VV} {x : Ser}
    (h : SelI w w2 w5 F p a b rv s kb hb l v sel A) (hF : ∀ k, F k → k < w.heap.size) (hw2 : w.heap.size ≤ w2.heap.size) (hb1 : Blk A (w2.heap.size + 1) 31 #[v1]) (ho : A.ownsRow w2.heap.size 40 2 v1 sel.length (flatV vs)) (hlen : vs.length = sel.length)
    (he : ∀ (i : Nat) (q : VV) (x : Ser), vs[i]? = some q → sel[i]? = some x → SerOwn A w.heap.size q x) (hq : SerOwn A w.heap.size q x) (hg : A.grownBy W7 v1.ownBlock) (ho7 : W7.ownsRow w2.heap.size 40 2 v8 (sel.length + 1) (flatV vs ++ [q.1, q.2])) :
    SelI w w2 w5 F p a b rv s kb hb l v (sel ++ [x]) (W7.setCell ⟨w2.heap.size + 1, 0, none⟩ v8) := by
  have hown : ∀ g, v1.ownBlock = some g → w2.heap.size ≤ g := fun g e => (ho.lt g e).1
  have hk : ∀ k, k < w2.heap.size → k < A.heap.size → (W7.setCell ⟨w2.heap.size + 1, 0, none⟩ v8).heap[k]? = A.heap[k]? := fun k h1 h2 =>
    (Below.heap_setCell W7 ⟨w2.heap.size + 1, 0, none⟩ v8 k (by show k ≠ w2.heap.size + 1; omega)).trans (hg.block k h2 fun e => by have := hown k e.symm; omega)
  have hs : A.heap.size ≤ (W7.setCell ⟨w2.heap.size + 1, 0, none⟩ v8).heap.size := by
    have h1 := hg.size
    simp only [World.setCell, Array.size_modify]
    exact h1
  have blk : ∀ {g : Nat} {t : TypeId} {cs : Array Value}, Blk A g t cs → 40 ≠ t → t ≠ 31 → Blk (W7.setCell ⟨w2.heap.size + 1, 0, none⟩ v8) g t cs := fun hB h1 h2 =>
    (hB.grown hg (own_blk_ne ho hB h1).symm).far (p := ⟨w2.heap.size + 1, 0, none⟩) (Blk.ne_ hB hb1 h2) v8
  have own : ∀ {B e z n : Nat} {v : Value} {xs : List Value}, A.ownsRow B e z v n xs → e ≠ 40 → e ≠ 31 → (W7.setCell ⟨w2.heap.size + 1, 0, none⟩ v8).ownsRow B e z v n xs := fun hO h1 h2 =>
    ownsRow_setCell_other (hO.kept hg (own_ne2 hO ho h1)) (own_blk_ne hO hb1 h2) (a := ⟨w2.heap.size + 1, 0, none⟩) v8
  have hbel : ∀ B, B ≤ w2.heap.size → B ≤ A.heap.size → Below B A (W7.setCell ⟨w2.heap.size + 1, 0, none⟩ v8) := fun B h1 h2 => ⟨hg.os, hg.tape, hg.output, hs, fun k hk' => hk k (by omega) (by omega)⟩
  have hA := h.bel2.size
  refine ⟨h.hd.keep (fun k hk1 hk2 => hk k (by have := hF k hk1; omega) hk2) (fun _ h => h) hs,
    ⟨⟨blk h.so.so.kB (by decide) (by decide), blk h.so.so.hB (by decide) (by decide), own h.so.so.keys (by decide) (by decide), h.so.so.perm, h.so.so.rises, h.so.so.lo⟩, h.so.dir.keep (hk _ (by have := hF _ h.hd.mF; omega) h.so.dir.lt), (World.cell?_of_block (a := ⟨p, 2, none⟩) (hk p (by have := hF _ h.hd.own; omega) h.hd.blk.lt)).trans h.so.mp⟩,
    blk h.bp (by decide) (by decide), blk h.ba (by decide) (by decide), blk h.bb (by decide) (by decide), blk h.br (by decide) (by decide), ⟨v8, vs ++ [q], (hb1.grown hg (own_blk_ne ho hb1 (by decide)).symm).set_ 0 v8, by simp [hlen], ?_, ?_⟩, h.bel.trans (hbel _ hw2 h.bel.size), h.bel2.trans (hbel _ (Nat.le_refl _) hA), Nat.le_trans h.sz hs⟩
  · have h1 := ownsRow_setCell_other ho7 (own_blk_ne ho7 (hb1.grown hg (own_blk_ne ho hb1 (by decide)).symm) (by decide)) (a := ⟨w2.heap.size + 1, 0, none⟩) v8
    have e : flatV (vs ++ [q]) = flatV vs ++ [q.1, q.2] := by unfold flatV; rw [flat2_append]; rfl
    rw [e, List.length_append]
    exact h1
  · intro i q' x' h1 h2
    have hkeep : ∀ {q : VV} {x : Ser}, SerOwn A w.heap.size q x → SerOwn (W7.setCell ⟨w2.heap.size + 1, 0, none⟩ v8) w.heap.size q x := fun hS => ⟨own hS.1 (by decide) (by decide), own hS.2 (by decide) (by decide)⟩
    by_cases hi : i < sel.length
    · rw [List.getElem?_append_left (by omega)] at h1 h2
      exact hkeep (he i q' x' h1 h2)
    · rw [List.getElem?_append_right (by omega)] at h1 h2
      have hi0 : i - sel.length = 0 := by
        rcases Nat.eq_zero_or_pos (i - sel.length) with h0 | h0
        · exact h0
        · rw [List.getElem?_eq_none (by simp; omega)] at h2
          cases h2
      rw [hlen, hi0] at h1
      rw [hi0] at h2
      simp at h1 h2
      subst h1 h2
      exact hkeep hq
set_option maxRecDepth 100000 in
set_option maxHeartbeats 6400000 in
theorem select_any (w : World) (F : Nat → Prop) (p n : Nat) (H : Hd) (mv : Value) (code : Int) (mean : List Lbl → Bool) (a b : Int) (hh : HdAt w F p n H) (P : List Lbl → Prop) (hR : Rdy w mv code mean P) (hP : ∀ x ∈ H.ss, P x.1) (hn : n ≤ 100000) (hF : ∀ k, F k → k < w.heap.size) :
    Calls Tryz.prog 17 #[.pointer (some ⟨p, 0, none⟩), mv, .int .i64 a, .int .i64 b] w (SelPost w code (H.sel mean a b)) := by
  obtain ⟨j0, hj, hy0, hy1, hy2⟩ := info_parts info40
  have HJ := Lib.hid hj
  have HY0 := Lib.hid hy0
  have HY1 := Lib.hid hy1
  have HY2 := Lib.hid hy2
  clear hj hy0 hy1 hy2
  obtain ⟨w1, hw1⟩ : ∃ w1, w1 = ((w.alloc (.cells #[.pointer (some ⟨p, 0, none⟩)] 25)).alloc (.cells #[.int .i64 a] 3)).alloc (.cells #[.int .i64 b] 3) := ⟨_, rfl⟩
  have hs1 : w1.heap.size = w.heap.size + 3 := by rw [hw1]; simp
  have hb1 : Below w.heap.size w w1 := by rw [hw1]; exact (((Below.refl _ w).alloc (Nat.le_refl _) _).alloc (by simp) _).alloc (by simp; omega) _
  have HR := Lib.hid (hR w1 hb1)
  have HW1 := Lib.hid hw1
  have HH := Lib.hid hh
  have HF := Lib.hid hF
  have HPP := Lib.hid hP
  clear hR hh hF hw1 hP
  refine (callsIn_wide (n := 9)).1 ?_
  refine callsIn_of_wp_marks Tryz.func17 rfl trivial ?_ rfl
  simp only [Tryz.ntmps17, List.size_toArray, List.length_cons, List.length_nil, Nat.reduceAdd, Nat.reduceSub, Array.replicate_succ, Array.replicate_zero, List.push_toArray, List.append_toArray, List.nil_append, List.cons_append]
  gi_upto_region 1 with fail
  rw [← HW1.out]
  gi_wp2_with fail
  refine ⟨trivial, (callsIn_wide.2 HR.out).mono ?_⟩
  rintro e w2 ⟨A, nr, cr, rfl, hb2, hall⟩
  have HB2 := Lib.hid hb2
  have HALL := Lib.hid hall
  clear hb2 hall HR
  by_cases hc : code = 0
  · subst hc
    obtain ⟨w4, hw4⟩ : ∃ w4, w4 = (w2.alloc (.cells #[.slice A nr cr] 130)).alloc (.cells #[.slice none 0 0] 31) := ⟨_, rfl⟩
    have hb24 : Below w2.heap.size w2 w4 := by rw [hw4]; exact ((Below.refl _ w2).alloc (Nat.le_refl _) _).alloc (by simp) _
    have hb4 : Below w.heap.size w w4 := hb1.trans ((HB2.out.trans (hb24.mono HB2.out.size)).mono hb1.size)
    have bp1 : Blk w1 w.heap.size 25 #[.pointer (some ⟨p, 0, none⟩)] := by rw [HW1.out]; exact ((Blk.new w 25 _).alloc _).alloc _
    have ba1 : Blk w1 (w.heap.size + 1) 3 #[.int .i64 a] := by
      rw [HW1.out]
      have := (Blk.new (w.alloc (.cells #[.pointer (some ⟨p, 0, none⟩)] 25)) 3 #[.int .i64 a]).alloc (.cells #[.int .i64 b] 3)
      rwa [World.size_alloc] at this
    have bb1 : Blk w1 (w.heap.size + 1 + 1) 3 #[.int .i64 b] := by
      rw [HW1.out]
      have := Blk.new ((w.alloc (.cells #[.pointer (some ⟨p, 0, none⟩)] 25)).alloc (.cells #[.int .i64 a] 3)) 3 #[.int .i64 b]
      rwa [World.size_alloc, World.size_alloc] at this
    have hb14 : Below w1.heap.size w1 w4 := HB2.out.trans (hb24.mono HB2.out.size)
    have bp4 := bp1.below hb14 bp1.lt
    have ba4 := ba1.below hb14 ba1.lt
    have bb4 := bb1.below hb14 bb1.lt
    have br4 : Blk w4 w2.heap.size 130 #[.slice A nr cr] := by rw [hw4]; exact (Blk.new w2 130 _).alloc _
    have bo4 : Blk w4 (w2.heap.size + 1) 31 #[.slice none 0 0] := by
      rw [hw4]
      have := Blk.new (w2.alloc (.cells #[.slice A nr cr] 130)) 31 #[.slice none 0 0]
      rwa [World.size_alloc] at this
    have q4 : w4.cell? ⟨w.heap.size, 0, none⟩ = some (.pointer (some ⟨p, 0, none⟩)) := bp4.cell 0
    obtain ⟨s, hs, htl, hok, hl1, hl2⟩ := HH.out
    have hs4 : HeadAt w4 F p s := hs.keep (fun k _ hk => hb4.block k hk) (fun _ h => h) hb4.size
    have hfit : ∀ x ∈ s.dir, fitP (s.lab x.2) = true := fun x hx => (hok.ser _ (htl.perm.mem_iff.1 (List.mem_map.2 ⟨x, hx, rfl⟩))).right
    have hdl : s.dir.length ≤ 100000 := by
      have h1 := htl.perm.length_eq
      rw [List.length_map] at h1
      omega
    have HSO := Lib.hid (sorted_any w4 F p s hs4 hfit hdl)
    have HW4 := Lib.hid hw4
    have HB24 := Lib.hid hb24
    have HB4 := Lib.hid hb4
    have HBP := Lib.hid bp4
    have HBA := Lib.hid ba4
    have HBB := Lib.hid bb4
    have HBR := Lib.hid br4
    have HBO := Lib.hid bo4
    have HS4 := Lib.hid hs4
    have HTL := Lib.hid htl
    have HOK := Lib.hid hok
    have HFIT := Lib.hid hfit
    have HL2 := Lib.hid hl2
    clear hw4 hb24 hb4 hb14 bp1 ba1 bb1 bp4 ba4 bb4 br4 bo4 hs htl hok hs4 hfit hl2
    gi_upto_region 5 with fail
    rw [← HW4.out]
    gi_wp2_with fail
    refine ⟨trivial, (callsIn_wide.2 HSO.out).mono ?_⟩
    rintro e w5 ⟨kb, v, l, rfl, hso, hb5⟩
    dsimp only
    have HSA := Lib.hid hso
    have HB5 := Lib.hid hb5
    clear hso hb5 q4
    gi_wp2_with fail
    have hlo : SelLo w w2 w5 F kb w4.heap.size := by
      have e1 := HB2.out.size
      have e2 := HB24.out.size
      have e3 := HB5.out.size
      have e4 := HBO.out.lt
      have e5 := HSA.out.kB.lt
      have e6 := HSA.out.hB.lt
      exact ⟨fun k hk => by have := HF.out k hk; omega, by omega, by omega, e5, e6⟩
    have hI0 : SelI w w2 w5 F p a b (.slice A nr cr) s kb w4.heap.size l v [] w5 := by
      have hb5 := HB5.out
      exact ⟨HS4.out.keep (fun k hk _ => hb5.block k (by have := HF.out k hk; have := HB4.out.size; omega)) (fun _ h => h) hb5.size, ⟨HSA.out, HS4.out.dir.keep (hb5.block _ HS4.out.dir.lt), (HS4.out.blk.below hb5 HS4.out.blk.lt).cell 2⟩,
        HBP.out.below hb5 HBP.out.lt, HBA.out.below hb5 HBA.out.lt, HBB.out.below hb5 HBB.out.lt, HBR.out.below hb5 HBR.out.lt, ⟨.slice none 0 0, [], HBO.out.below hb5 HBO.out.lt, rfl, World.ownsRow_nil _ _ _ _, fun i q x h => by simp at h⟩,
        HB4.out.trans (hb5.mono HB4.out.size), HB24.out.trans (hb5.mono HB24.out.size), Nat.le_refl _⟩
    have hkl : ∀ x ∈ s.dir, x.1.length ≤ 1000000 := fun x hx => by
      have h1 := lbytes_len (fitP_fit (HFIT.out x hx))
      rw [← HS4.out.key x hx] at h1
      omega
    have hll : l.length ≤ 100000 := by rw [HSA.out.perm.length_eq]; exact hdl
    have HLO := Lib.hid hlo
    have HI0 := Lib.hid hI0
    clear hlo hI0
    refine wpIn_rangeFunc_l rfl (by omega) (gf := 128) (lb := #[.pointer (some ⟨kb, 0, none⟩), .pointer (some ⟨w4.heap.size, 0, none⟩)]) rfl trivial (enters_of Tryz.func128 (by kernel_rfl) rfl)
      (sorted_seq _ w4.heap.size p kb w4.heap.size s l v hll hkl) (fun k => rfl) (fun A B h hb => trivial) trivial
      (fun k W => SelI w w2 w5 F p a b (.slice A nr cr) s kb w4.heap.size l v ((l.take k).filterMap fun x : Nm × Nat => selS mean (max a H.horizon) b (s.lab x.2, s.row x.2)) W) (fun _ _ => False) (fun k W h => h.so) (fun k A' B' h ho => h.other HLO.out ho) (fun _ _ _ h _ => h.elim) HI0.out
      (fun k a' _ => a' = { tmps := #[.pointer (some ⟨p, 0, none⟩), mv, .int .i64 a, .int .i64 b, .pointer (some ⟨w.heap.size, 0, none⟩), undef, .pointer (some ⟨w.heap.size + 1, 0, none⟩), .pointer (some ⟨w.heap.size + 1 + 1, 0, none⟩), .slice none 0 0, .int .i64 0, .pointer (some ⟨w2.heap.size, 0, none⟩), .int .i64 0, .pointer (some ⟨w2.heap.size + 1, 0, none⟩), undef, .pointer (some ⟨(entAt l k).2, 0, none⟩), undef, .tuple #[.slice A nr cr, .int .i64 0], mv, .tuple #[.slice A nr cr, .int .i64 0], .slice A nr cr, .int .i64 0, .int .i64 0, .bool false, undef, .pointer (some ⟨p, 0, none⟩), .func (.func 128) #[] #[.pointer (some ⟨kb, 0, none⟩), .pointer (some ⟨w4.heap.size, 0, none⟩)], nmV (entAt l k).1, .pointer (some ⟨(entAt l k).2, 0, none⟩), undef, undef, undef, undef, undef, undef, undef, undef, undef, undef, undef, undef, undef, undef, undef, undef, undef, undef, undef, undef, undef, undef, undef], defers := [] })
      (fun _ _ _ _ h _ _ _ _ => h) ?assign ?body ?done (fun _ _ h => h.elim)
    case assign =>
      intro l' k W K hI hk hK
      obtain ⟨kx, hkx⟩ : ∃ x, x = nmV (entAt l k).1 := ⟨_, rfl⟩
      obtain ⟨gx, hgx⟩ : ∃ x, x = (entAt l k).2 := ⟨_, rfl⟩
      have HK := hK _ _ (Below.refl _ W) rfl
      rw [← hkx, ← hgx] at HK
      unfold entArgs
      rw [← hkx, ← hgx]
      clear hK hkx hgx hI
      gi_wp2
      exact HK
    case body =>
      rintro l' k a' W hl' ⟨r, hr⟩ hI rfl hk
      obtain ⟨x, hx⟩ : ∃ x, l[k]? = some x := ⟨_, List.getElem?_eq_getElem hk⟩
      rw [entAt_of hx]
      have hxm : x ∈ s.dir := HSA.out.perm.mem_iff.1 (List.mem_of_getElem? hx)
      have hsg := hI.hd.ser x hxm
      have c10 : W.cell? ⟨w2.heap.size, 0, none⟩ = some (.slice A nr cr) := hI.br.cell 0
      have cx0 : W.cell? ⟨x.2, 0, none⟩ = some (s.vl x.2) := hsg.blk.cell 0
      have hnl : (s.lab x.2).length ≤ 64 := (fitP_fit (HFIT.out x hxm)).1
      obtain ⟨mn, hmn⟩ : ∃ mn, mn = mean (s.lab x.2) := ⟨_, rfl⟩
      have HM := Lib.hid (show Calls Tryz.prog 67 #[.slice A nr cr, s.vl x.2] W.drew fun e W3 => e = .returned (.bool mn) ∧ Below W.drew.heap.size W.drew W3 by
        rw [hmn]
        exact HALL.out trivial W.drew hI.bel2.drew (s.vl x.2) (s.lab x.2) (labs_of_own (w := W.drew) hsg.labs) hnl (HPP.out (s.lab x.2, s.row x.2) (HTL.out.perm.mem_iff.1 (List.mem_map.2 ⟨x, hxm, rfl⟩))))
      have HI := Lib.hid hI
      have HSG := Lib.hid hsg
      have HX := Lib.hid hx
      have HMN := Lib.hid hmn
      have HXM := Lib.hid hxm
      obtain ⟨vl, hvl⟩ : ∃ z, z = s.vl x.2 := ⟨_, rfl⟩
      rw [← hvl] at cx0 HM
      have HVL := Lib.hid hvl
      obtain ⟨g, hg⟩ : ∃ z, z = x.2 := ⟨_, rfl⟩
      have HGX := Lib.hid hg
      rw [← hg] at cx0 ⊢
      obtain ⟨kx, hkx⟩ : ∃ z, z = nmV x.1 := ⟨_, rfl⟩
      rw [← hkx]
      clear hI hsg hx hmn hnl hvl hg hkx hxm
      gi_wp2_with fail
      gi_cut [34] from 28 (fun s34 wx => s34 = .bool (!mn) ∧ Below W.heap.size W wx)
      case first =>
        gi_region_with ((refine ⟨trivial, ?_⟩; gi_at_call 67; refine (CallsIn.inRound l' (callsIn_wide.2 HM.out)).mono ?_; rintro e W3 ⟨rfl, hb3⟩; have HB3 := Lib.hid hb3; clear hb3))
        all_goals
          gi_wp2
          gi_meet
          exact ⟨rfl, (Below.refl _ W).drew.trans HB3.out⟩
      case rest =>
        obtain ⟨rfl, hbw⟩ := hcut
        have hstep : (l.take (k + 1)).filterMap (fun x : Nm × Nat => selS mean (max a H.horizon) b (s.lab x.2, s.row x.2)) = (l.take k).filterMap (fun x : Nm × Nat => selS mean (max a H.horizon) b (s.lab x.2, s.row x.2)) ++ (selS mean (max a H.horizon) b (s.lab x.2, s.row x.2)).toList := by
          rw [List.take_add_one, HX.out, List.filterMap_append]
          simp [List.filterMap]
          cases selS mean (max a H.horizon) b (s.lab x.2, s.row x.2) <;> rfl
        obtain ⟨sel, hsel⟩ : ∃ z, z = (l.take k).filterMap (fun x : Nm × Nat => selS mean (max a H.horizon) b (s.lab x.2, s.row x.2)) := ⟨_, rfl⟩
        have HIc := HI.out.other HLO.out (Other.of_below _ hbw)
        rw [← hsel] at HIc hstep
        have HIW := Lib.hid HIc
        have HBW := Lib.hid hbw
        have HST := Lib.hid hstep
        have HSEL := Lib.hid hsel
        clear HIc hbw hstep hsel c10 cx0
        cases mn with
        | false =>
          gi_wp2_with fail
          refine ⟨keeps_below HBW.out, ?_⟩
          have e : selS mean (max a H.horizon) b (s.lab x.2, s.row x.2) = none := by unfold selS; dsimp only; rw [← HMN.out]; rfl
          dsimp only
          rw [HST.out, e]
          simpa using HIW.out
        | true =>
          have c6 : wc.cell? ⟨w.heap.size + 1, 0, none⟩ = some (.int .i64 a) := HIW.out.ba.cell 0
          have c7 : wc.cell? ⟨w.heap.size + 1 + 1, 0, none⟩ = some (.int .i64 b) := HIW.out.bb.cell 0
          have c4 : wc.cell? ⟨w.heap.size, 0, none⟩ = some (.pointer (some ⟨p, 0, none⟩)) := HIW.out.bp.cell 0
          obtain ⟨hz, hhz⟩ : ∃ z, z = H.horizon := ⟨_, rfl⟩
          obtain ⟨sp, hsp⟩ : ∃ z, z = selP (s.row x.2) (max a hz) b := ⟨_, rfl⟩
          have hinS : (s.lab x.2, s.row x.2) ∈ H.ss := HTL.out.perm.mem_iff.1 (List.mem_map.2 ⟨x, HXM.out, rfl⟩)
          have H23 : ∀ W2, Below wc.heap.size wc W2 → Calls Tryz.prog 23 #[.pointer (some ⟨p, 0, none⟩)] W2 fun e w' => e = .returned (.int .i64 hz) ∧ w' = W2 := fun W2 hW2 => by
            have h1 := HIW.out.hd.blk.below hW2 HIW.out.hd.blk.lt
            rw [HTL.out.ret, HTL.out.newest] at h1
            rw [hhz]
            exact horizon23_any W2 p s.m H h1 HOK.out
          have H68 : ∀ W2, Below wc.heap.size wc W2 → Calls Tryz.prog 68 #[.pointer (some ⟨g, 0, none⟩), .int .i64 (max a hz), .int .i64 b] W2 (ToldPost W2 (s.lab x.2) sp) := fun W2 hW2 => by
            have hsg2 := HIW.out.hd.ser x HXM.out
            have h1 := hsg2.blk.below hW2 hsg2.blk.lt
            have h2 := own_blk hsg2.labs fun j hj => hW2.block j (hsg2.labs.lt j hj).2
            have h3 := own_blk hsg2.row fun j hj => hW2.block j (hsg2.row.lt j hj).2
            rw [hsp, HGX.out]
            exact told_any W2 x.2 0 _ _ _ _ _ _ h1 (labs_of_own h2) h3 (by have := HL2.out _ hinS; dsimp only at this; omega) (fitP_fit (HFIT.out x HXM.out)).1 (HOK.out.ser _ hinS).rises
          have H23' := Lib.hid H23
          have H68' := Lib.hid H68
          have HHZ := Lib.hid hhz
          have HSP := Lib.hid hsp
          clear H23 H68 hhz hsp hinS
          have hq3 : w.heap.size + 1 + 1 < wc.heap.size := HIW.out.bb.lt
          have hq2 : w.heap.size + 1 < wc.heap.size := by omega
          have hq1 : w.heap.size < wc.heap.size := by omega
          gi_upto_region 8 with fail
          gi_cut [15] from 35 (fun s15 wx => ∃ g15 vl2 vs2, s15 = .pointer (some ⟨g15, 0, none⟩) ∧ Blk wx g15 40 #[vl2, vs2] ∧ SerOwn wx w.heap.size (vl2, vs2) (s.lab x.2, sp) ∧ Below wc.heap.size wc wx)
          case first =>
            clear HW1 HH HF HB2 HALL HSO HW4 HB24 HB4 HBP HBA HBB HBR HBO HS4 HTL HOK HFIT HL2 HSA HB5 HLO HI0 HM HI HSG HX HMN HXM HVL HGX HIW HBW HST HSEL HHZ HSP hs1 hb1 hkl hll hdl hl1
            refine wpIn_region_C (fun W => Below wc.heap.size wc W) (by kernel_rfl) ?_
            refine wpAnyC_take (i := 0) (.pointer (some ⟨g, 0, none⟩)) (fun _ => trivial) rfl (by kernel_rfl) (by kernel_rfl) (by kernel_rfl) (by kernel_rfl) (fun _ _ _ h => h) (Below.refl _ wc).drew (by rfl) (fun W hC => by go_simp) ?_
            refine wpAnyC_take (i := 1) (.int .i64 a) (fun _ => trivial) rfl (by kernel_rfl) (by kernel_rfl) (by kernel_rfl) (by kernel_rfl) (fun _ _ _ h => h) (Below.refl _ wc).drew (by rfl) (fun W hC => by have c6' := (hC.cell (p := ⟨w.heap.size + 1, 0, none⟩) hq2).trans c6; go_simp) ?_
            refine wpAnyC_take (i := 2) (.pointer (some ⟨p, 0, none⟩)) (fun _ => trivial) rfl (by kernel_rfl) (by kernel_rfl) (by kernel_rfl) (by kernel_rfl) (fun _ _ _ h => h) (Below.refl _ wc).drew (by rfl) (fun W hC => by have c4' := (hC.cell (p := ⟨w.heap.size, 0, none⟩) hq1).trans c4; go_simp) ?_
            refine wpAnyC_call (i := 3) (.int .i64 hz) 23 #[.pointer (some ⟨p, 0, none⟩)] (fun _ => trivial) rfl rfl (by kernel_rfl) (by kernel_rfl) (by kernel_rfl) (by kernel_rfl) (fun _ _ _ h => h) (Below.refl _ wc).drew (by rfl) (fun W hC => by go_simp) (fun W hC => CallsIn.inRound l' (callsIn_wide.2 (H23'.out W hC))) ?_
            refine wpAnyC_take (i := 4) (.int .i64 (max a hz)) (fun _ => trivial) rfl (by kernel_rfl) (by kernel_rfl) (by kernel_rfl) (by kernel_rfl) (fun _ _ _ h => h) (Below.refl _ wc).drew (by rfl) (fun W hC => by go_simp) ?_
            refine wpAnyC_take (i := 5) (.int .i64 b) (fun _ => trivial) rfl (by kernel_rfl) (by kernel_rfl) (by kernel_rfl) (by kernel_rfl) (fun _ _ _ h => h) (Below.refl _ wc).drew (by rfl) (fun W hC => by have c7' := (hC.cell (p := ⟨w.heap.size + 1 + 1, 0, none⟩) hq3).trans c7; go_simp) ?_
            refine wpAnyC_ready (rs := [6, 7]) (by kernel_rfl) (by simp) ?_
            refine AllReadyC.cons rfl (fun K hK => ?_) (AllReadyC.cons rfl (fun K hK => ?_) AllReadyC.nil)
            · go_simp
              refine ⟨trivial, (CallsIn.inRound l' (callsIn_wide.2 (H68'.out _ (Below.refl _ wc).drew))).mono ?_⟩
              rintro e W3 ⟨vl2, vs2, rfl, ho3, hb3⟩
              obtain ⟨Al, cl, e1⟩ := own_slice ho3.1
              obtain ⟨As, cs, e2⟩ := own_slice ho3.2
              dsimp only at e1 e2
              subst e1 e2
              have hbw3 : Below wc.heap.size wc W3 := Below.trans (Below.refl _ wc).drew (hb3.mono (by first | exact Nat.le_refl _ | exact Nat.le_succ _ | simp))
              have HO3 := Lib.hid ho3
              have HB3 := Lib.hid hb3
              clear ho3 hb3
              dsimp only
              refine hK _ _ ⟨hbw3, ?_⟩
              clear hK K
              refine wpAnyC_ready (rs := [7]) (by kernel_rfl) (by simp) ?_
              refine AllReadyC.cons rfl (fun K hK => ?_) AllReadyC.nil
              go_simp
              refine hK _ _ ⟨hbw3.alloc hbw3.size _, ?_⟩
              clear hK K
              refine wpAnyC_ready (rs := [8]) (by kernel_rfl) (by simp) ?_
              refine AllReadyC.cons rfl (fun K hK => ?_) AllReadyC.nil
              go_simp
              refine hK _ _ ⟨hbw3.alloc hbw3.size _, ?_⟩
              clear hK K
              refine wpAnyC_done (by kernel_rfl) ?_ _
              gi_wp2
              gi_meet
              exact ⟨W3.heap.size, _, _, rfl, Blk.new W3 40 _, ⟨own_low (HO3.out.1.alloc _) (Nat.le_of_lt hq1), own_low (HO3.out.2.alloc _) (Nat.le_of_lt hq1)⟩, hbw3.alloc hbw3.size _⟩
            · go_simp
              refine hK _ _ ⟨(Below.refl _ wc).drew.alloc (Nat.le_refl _) _, ?_⟩
              clear hK K
              have hb0 : Below wc.heap.size wc (wc.drew.alloc (.cells #[.slice none 0 0, .slice none 0 0] 40)) := (Below.refl _ wc).drew.alloc (Nat.le_refl _) _
              refine wpAnyC_ready (rs := [6]) (by kernel_rfl) (by simp) ?_
              refine AllReadyC.cons rfl (fun K hK => ?_) AllReadyC.nil
              go_simp
              refine ⟨trivial, (CallsIn.inRound l' (callsIn_wide.2 (H68'.out _ hb0))).mono ?_⟩
              rintro e W3 ⟨vl2, vs2, rfl, ho3, hb3⟩
              obtain ⟨Al, cl, e1⟩ := own_slice ho3.1
              obtain ⟨As, cs, e2⟩ := own_slice ho3.2
              dsimp only at e1 e2
              subst e1 e2
              have hbw3 : Below wc.heap.size wc W3 := Below.trans hb0 (hb3.mono (by first | exact Nat.le_refl _ | exact Nat.le_succ _ | simp))
              have HO3 := Lib.hid ho3
              have HB3 := Lib.hid hb3
              clear ho3 hb3
              dsimp only
              refine hK _ _ ⟨hbw3, ?_⟩
              clear hK K
              refine wpAnyC_ready (rs := [8]) (by kernel_rfl) (by simp) ?_
              refine AllReadyC.cons rfl (fun K hK => ?_) AllReadyC.nil
              have bx3 : Blk W3 wc.heap.size 40 #[.slice none 0 0, .slice none 0 0] := (Blk.new wc.drew 40 #[.slice none 0 0, .slice none 0 0]).below HB3.out (by rw [World.size_alloc]; exact Nat.lt_succ_self _)
              have x30 : W3.cell? ⟨wc.heap.size, 0, none⟩ = some (.slice none 0 0) := bx3.cell 0
              have x31 : W3.cell? ⟨wc.heap.size, 1, none⟩ = some (.slice none 0 0) := bx3.cell 1
              have x32 := bx3.frozen 0
              have x33 := bx3.frozen 1
              have HBX3 := Lib.hid bx3
              clear bx3
              go_simp
              have hb6 : Below wc.heap.size wc ((W3.setCell ⟨wc.heap.size, 0, none⟩ (.slice Al (s.lab x.2).length cl)).setCell ⟨wc.heap.size, 1, none⟩ (.slice As sp.length cs)) := (hbw3.setCell (p := ⟨wc.heap.size, 0, none⟩) (Nat.le_refl _) _).setCell (p := ⟨wc.heap.size, 1, none⟩) (Nat.le_refl _) _
              refine hK _ _ ⟨hb6, ?_⟩
              clear hK K
              refine wpAnyC_done (by kernel_rfl) ?_ _
              gi_wp2
              gi_meet
              have y1 := HBX3.out.set_ 0 (.slice Al (s.lab x.2).length cl)
              have o1 := ownsRow_setCell_other HO3.out.1 (own_blk_ne HO3.out.1 HBX3.out (by decide)) (a := ⟨wc.heap.size, 0, none⟩) (.slice Al (s.lab x.2).length cl)
              have o2 := ownsRow_setCell_other HO3.out.2 (own_blk_ne HO3.out.2 HBX3.out (by decide)) (a := ⟨wc.heap.size, 0, none⟩) (.slice Al (s.lab x.2).length cl)
              have p1 := ownsRow_setCell_other o1 (own_blk_ne o1 y1 (by decide)) (a := ⟨wc.heap.size, 1, none⟩) (.slice As sp.length cs)
              have p2 := ownsRow_setCell_other o2 (own_blk_ne o2 y1 (by decide)) (a := ⟨wc.heap.size, 1, none⟩) (.slice As sp.length cs)
              exact ⟨wc.heap.size, _, _, rfl, y1.set_ 1 _, ⟨own_low p1 (by show w.heap.size ≤ (wc.alloc _).heap.size; rw [World.size_alloc]; omega), own_low p2 (by show w.heap.size ≤ (wc.alloc _).heap.size; rw [World.size_alloc]; omega)⟩, hb6⟩
          case rest =>
            obtain ⟨g15, vl2, vs2, rfl, hb15, ho15, hbw2⟩ := hcut
            have hI2 := HIW.out.other HLO.out (Other.of_below _ hbw2)
            have hbW2 := HBW.out.trans (hbw2.mono HBW.out.size)
            obtain ⟨Al, cl, e1⟩ := own_slice ho15.1
            obtain ⟨As, cs, e2⟩ := own_slice ho15.2
            dsimp only at e1 e2
            subst e1 e2
            obtain ⟨m, hm⟩ : ∃ m, m = sp.length := ⟨_, rfl⟩
            rw [← hm] at hb15
            have z0 : wc.cell? ⟨g15, 0, none⟩ = some (.slice Al (s.lab x.2).length cl) := hb15.cell 0
            have z1 : wc.cell? ⟨g15, 1, none⟩ = some (.slice As m cs) := hb15.cell 1
            obtain ⟨v', vs, ob, ol, oo, oe⟩ := hI2.out
            obtain ⟨A', c', e3⟩ := own_slice oo
            subst e3
            obtain ⟨sn, hsn⟩ : ∃ sn, sn = sel.length := ⟨_, rfl⟩
            rw [← hsn] at ob oo ol
            have u0 : wc.cell? ⟨w2.heap.size + 1, 0, none⟩ = some (.slice A' sn c') := ob.cell 0
            have hsl : sn ≤ 100000 := by
              rw [hsn, HSEL.out]
              have h1 := List.length_filterMap_le (fun x : Nm × Nat => selS mean (max a H.horizon) b (s.lab x.2, s.row x.2)) (l.take k)
              rw [List.length_take] at h1
              omega
            have HI2 := Lib.hid hI2
            have HBW2 := Lib.hid hbW2
            have HO15 := Lib.hid ho15
            have HB15 := Lib.hid hb15
            have HM2 := Lib.hid hm
            have HOB := Lib.hid ob
            have HOL := Lib.hid ol
            have HOO := Lib.hid oo
            have HOE := Lib.hid oe
            have HSN := Lib.hid hsn
            clear hI2 hbW2 ho15 hb15 hbw2 hm ob ol oo oe hsn
            by_cases h0 : 0 < m
            · have i0 : (0 : Int) < (m : Int) := by omega
              have hw2s : w.heap.size ≤ w2.heap.size := by have := HB2.out.size; omega
              have hwcs : w2.heap.size ≤ wc.heap.size := HI2.out.bel2.size
              gi_wp2_with (gi_at_builtin; go_loud (refine wpListIn_append_any _ rfl (.tmp 46) (.tmp 48) 31 rfl w2.heap.size 40 j0 (.agg #[.slice none 0 0, .slice none 0 0]) 2 48 Tryz.underlying31 HJ.out HY0.out HY1.out HY2.out rfl (by omega) (.slice A' sn c') sn (flatV vs) rfl (HOO.out.alloc _) (wc.heap.size + 1) (some ⟨wc.heap.size, 0, none⟩) 1 1 [.slice Al (s.lab x.2).length cl, .slice As m cs] rfl ⟨rfl, fun _ => ⟨_, rfl, Nat.lt_succ_self _, cells_newL wc 40 _ _ rfl⟩⟩ (by simp [Value.oneCell']) (by simp [maxLen]; omega) (by omega) (by rw [World.size_alloc]; omega) ?_; intro v7 w7 hown7 hgrow7 _; obtain ⟨A7, c7, hv7⟩ := own_slice hown7; subst hv7; have b6 := HOB.out.alloc (.cells #[.slice Al (s.lab x.2).length cl, .slice As m cs] 40); have b7 := b6.grown hgrow7 (own_blk_ne (HOO.out.alloc _) b6 (by decide)).symm; have e7 : w7.cell? ⟨w2.heap.size + 1, 0, none⟩ = some (.slice A' sn c') := b7.cell 0; have z7 := b7.frozen 0; have HW7 := Lib.hid hown7; have HG7 := Lib.hid hgrow7; have HB7 := Lib.hid b7; have HB6 := Lib.hid b6; clear hown7 hgrow7 b7 b6))
              have hA : Below wc.heap.size wc (wc.alloc (.cells #[.slice Al (s.lab x.2).length cl, .slice As m cs] 40)) := (Below.refl _ wc).alloc (Nat.le_refl _) _
              have hIA := HI2.out.other HLO.out (Other.of_below _ hA)
              have hst := SelI.step (x := (s.lab x.2, sp)) (q := (.slice Al (s.lab x.2).length cl, .slice As m cs)) (vs := vs) hIA HF.out hw2s HB6.out (by rw [← HSN.out]; exact HOO.out.alloc _) (by rw [← HSN.out]; exact HOL.out)
                (fun i q y h1 h2 => ⟨(HOE.out i q y h1 h2).1.alloc _, (HOE.out i q y h1 h2).2.alloc _⟩) (by rw [HM2.out]; exact ⟨HO15.out.1.alloc _, HO15.out.2.alloc _⟩) HG7.out (by rw [← HSN.out]; exact HW7.out)
              refine ⟨(((keeps_below HBW2.out).trans (keeps_below hA)).trans (own_keeps (HOO.out.alloc _) HG7.out)).trans (keeps_set (g := w2.heap.size + 1) (t := 31) (cs := #[]) 0 _), ?_⟩
              · have e : selS mean (max a H.horizon) b (s.lab x.2, s.row x.2) = some (s.lab x.2, sp) := by
                  unfold selS
                  dsimp only
                  rw [← HMN.out, ← HHZ.out, ← HSP.out]
                  have : sp.isEmpty = false := by
                    cases hsp : sp with
                    | nil => rw [hsp] at HM2; have := HM2.out; simp at this; omega
                    | cons => rfl
                  rw [this]
                  rfl
                dsimp only
                rw [HST.out, e]
                exact hst
            · have i0 : ¬ (0 : Int) < (m : Int) := by omega
              gi_wp2_with fail
              refine ⟨keeps_below HBW2.out, ?_⟩
              have e : selS mean (max a H.horizon) b (s.lab x.2, s.row x.2) = none := by
                unfold selS
                dsimp only
                rw [← HHZ.out, ← HSP.out]
                have : sp = [] := List.eq_nil_of_length_eq_zero (by have := HM2.out; omega)
                rw [this]
                simp
              dsimp only
              rw [HST.out, e]
              simpa using HI2.out
    case done =>
      intro W hI hd
      have hI2 := hI
      rw [List.take_length] at hI2
      have hfm : l.filterMap (fun x : Nm × Nat => selS mean (max a H.horizon) b (s.lab x.2, s.row x.2)) = H.sel mean a b := by
        have h1 : l.map (fun x : Nm × Nat => (s.lab x.2, s.row x.2)) = H.ss := by
          refine List.Perm.eq_of_pairwise (le := fun x y : HSer => cmpL x.1 y.1 < 0) (fun x y _ _ h1 h2 => ?_) ?_ HOK.out.sorted ((HSA.out.perm.map _).trans HTL.out.perm)
          · have := cmpL_three.anti x.1 y.1
            omega
          · rw [List.pairwise_map]
            exact HSA.out.rises
        unfold Hd.sel
        rw [← h1, List.filterMap_map]
        rfl
      rw [hfm] at hI2
      obtain ⟨v', vs, ob, ol, oo, oe⟩ := hI2.out
      have e0 : W.cell? ⟨w2.heap.size + 1, 0, none⟩ = some v' := ob.cell 0
      obtain ⟨A', c', e3⟩ := own_slice oo
      obtain ⟨sn, hsn⟩ : ∃ sn, sn = (H.sel mean a b).length := ⟨_, rfl⟩
      rw [← hsn] at e3
      subst e3
      have HD := Lib.hid hd
      have HI2 := Lib.hid hI2
      have HOL := Lib.hid ol
      have HOO := Lib.hid oo
      have HOE := Lib.hid oe
      have HSN := Lib.hid hsn
      clear hd hI hI2 ob ol oo oe hsn hfm
      gi_wp2
      refine ⟨by simp, .inl ⟨_, _, rfl, run_takeDeferred HD.out, ?_⟩⟩
      refine ⟨_, results_tmp2 rfl _ _ _, ?_⟩
      have ho := Other.put (B := w5.heap.size) (Nat.le_refl _) HD.out rfl (.deferred none)
      refine ⟨.slice A' sn c', rfl, HI2.out.bel.trans (ho.below (by have := HLO.out.h1; omega) HI2.out.bel.size), ?_⟩
      rw [if_pos rfl]
      refine ⟨vs, HOL.out, ?_, fun i q x h1 h2 => ⟨ho.own (HOE.out i q x h1 h2).1, ho.own (HOE.out i q x h1 h2).2⟩⟩
      exact own_low (B := w2.heap.size) (ho.own HOO.out) (by have := HB2.out.size; omega)
  · have i1 : ¬ code = 0 := hc
    gi_wp2_with fail
    refine ⟨_, results_tmp2 rfl _ _ _, ?_⟩
    refine ⟨.slice none 0 0, rfl, ?_, ?_⟩
    · exact (hb1.trans (HB2.out.mono hb1.size)).alloc (Nat.le_trans hb1.size HB2.out.size) _
    · rw [if_neg hc]
end Go.Proofs.YtbeeejpjnniejaaGreatDoor
namespace Go.Proofs.YtbeeejpjnniejaaGreatDoor
open Go.RowKit Go.Shelf
attribute [-go_sem] Builtin.append_
theorem info218 : (Tryz.prog.info? 218).map (fun i => (i.zero, i.size, i.bytes)) = some (some (.agg #[.int .i64 0, .string ⟨#[]⟩, .string ⟨#[]⟩, .pointer none]), 4, 48) := by kernel_rfl
set_option maxRecDepth 100000 in
set_option maxHeartbeats 3200000 in
theorem match_one (w : World) (B pg c1 c2 c : Nat) (s : ByteArray) (hT : Tabs w) (h : ProgAt w B pg c1 c2) (h1 : c1 ≤ c) (h2 : c ≤ c2) (hs : s.size = 1) (hd : Lib.decodeGo s = (c, 1)) :
    Calls Tryz.prog 177 #[.pointer (some ⟨pg, 0, none⟩), .string s] w fun e w' => e = .returned (.bool true) ∧ Below w.heap.size w w' := by
  have HC := Lib.hid (run_one w B pg c1 c2 c s hT h h1 h2 hs hd)
  clear hT h h1 h2 hs hd
  go_enter Tryz.func177, Tryz.ntmps177
  go_wp2_with fail
  refine HC.out.mono ?_
  rintro e w1 ⟨v, rfl, hb⟩
  have HB := Lib.hid hb
  clear hb HC
  go_wp2
  go_ret
  exact ⟨rfl, HB.out⟩
set_option maxRecDepth 100000 in
set_option maxHeartbeats 400000 in
theorem means_one (w : World) (B BL pg c1 c2 c : Nat) (v : Value) (ls : List Lbl) (nm ex : ByteArray) (hT : Tabs w) (h : ProgAt w B pg c1 c2) (hl : LabsAt w BL v ls) (hB : BL ≤ w.heap.size) (hn : ls.length ≤ 64) (h1 : c1 ≤ c) (h2 : c ≤ c2) (hs : (getL nm ls).size = 1) (hd : Lib.decodeGo (getL nm ls) = (c, 1)) :
    Calls Tryz.prog 129 #[.agg #[.int .i64 3, .string nm, .string ex, .pointer (some ⟨pg, 0, none⟩)], v] w fun e w' => e = .returned (.bool true) ∧ Below w.heap.size w w' := by
  obtain ⟨A, cv, rfl, hrl⟩ := id hl
  obtain ⟨nL, hnL⟩ : ∃ n, n = ls.length := ⟨_, rfl⟩
  rw [← hnL] at hl ⊢
  obtain ⟨w1, hw1⟩ : ∃ w1, w1 = w.alloc (.cells #[.int .i64 3, .string nm, .string ex, .pointer (some ⟨pg, 0, none⟩)] 218) := ⟨_, rfl⟩
  have hb1 : Below w.heap.size w w1 := by rw [hw1]; exact (Below.refl _ w).alloc (Nat.le_refl _) _
  have hx1 : Blk w1 w.heap.size 218 #[.int .i64 3, .string nm, .string ex, .pointer (some ⟨pg, 0, none⟩)] := by rw [hw1]; exact Blk.new w 218 _
  have y0 : w1.cell? ⟨w.heap.size, 0, none⟩ = some (.int .i64 3) := hx1.cell 0
  have y1 : w1.cell? ⟨w.heap.size, 1, none⟩ = some (.string nm) := hx1.cell 1
  have y3 : w1.cell? ⟨w.heap.size, 3, none⟩ = some (.pointer (some ⟨pg, 0, none⟩)) := hx1.cell 3
  have HG := Lib.hid (get_any w1.drew BL (.slice A nL cv) ls nm (hl.below hb1.drew hB) (Nat.le_trans hB hb1.size) (by omega))
  have HM := Lib.hid (fun W (hW : Below w1.heap.size w1 W) => match_one W B pg c1 c2 c (getL nm ls) ((hT.below_ hb1).below_ hW) ((h.keep fun j _ hlt => hb1.block j hlt).keep fun j _ hlt => hW.block j hlt) h1 h2 hs hd)
  have HX := Lib.hid hx1
  have HB1 := Lib.hid hb1
  have HW1 := Lib.hid hw1
  clear hT h hl hrl hb1 hx1 hw1 hs hd hnL
  go_enter Tryz.func129, Tryz.ntmps129
  go_upto_region 1 with fail
  rw [← HW1.out]
  go_upto_region 2 with fail
  have hlt : w.heap.size < w1.heap.size := HX.out.lt
  refine (wpIn_wide (n := 9)).1 (wpIn_region_C (fun W => Below w1.heap.size w1 W) (by kernel_rfl) ?_)
  refine wpAnyC_take (i := 0) (.pointer (some ⟨w.heap.size, 3, none⟩)) (fun _ => trivial) rfl (by kernel_rfl) (by kernel_rfl) (by kernel_rfl) (by kernel_rfl) (fun _ _ _ h => h) (Below.refl _ w1).drew (by rfl) (fun W hC => by go_simp) ?_
  refine wpAnyC_take (i := 1) (.pointer (some ⟨pg, 0, none⟩)) (fun _ => trivial) rfl (by kernel_rfl) (by kernel_rfl) (by kernel_rfl) (by kernel_rfl) (fun _ _ _ h => h) (Below.refl _ w1).drew (by rfl) (fun W hC => by have cc := (hC.cell (p := ⟨w.heap.size, 3, none⟩) hlt).trans y3; go_simp) ?_
  refine wpAnyC_take (i := 2) (.slice A nL cv) (fun _ => trivial) rfl (by kernel_rfl) (by kernel_rfl) (by kernel_rfl) (by kernel_rfl) (fun _ _ _ h => h) (Below.refl _ w1).drew (by rfl) (fun W hC => by go_simp) ?_
  refine wpAnyC_take (i := 3) (.pointer (some ⟨w.heap.size, 0, none⟩)) (fun _ => trivial) rfl (by kernel_rfl) (by kernel_rfl) (by kernel_rfl) (by kernel_rfl) (fun _ _ _ h => h) (Below.refl _ w1).drew (by rfl) (fun W hC => by go_simp) ?_
  refine wpAnyC_take (i := 4) (.pointer (some ⟨w.heap.size, 1, none⟩)) (fun _ => trivial) rfl (by kernel_rfl) (by kernel_rfl) (by kernel_rfl) (by kernel_rfl) (fun _ _ _ h => h) (Below.refl _ w1).drew (by rfl) (fun W hC => by go_simp) ?_
  refine wpAnyC_take (i := 5) (.string nm) (fun _ => trivial) rfl (by kernel_rfl) (by kernel_rfl) (by kernel_rfl) (by kernel_rfl) (fun _ _ _ h => h) (Below.refl _ w1).drew (by rfl) (fun W hC => by have cc := (hC.cell (p := ⟨w.heap.size, 1, none⟩) hlt).trans y1; go_simp) ?_
  refine wpAnyC_take (i := 8) (.pointer (some ⟨w.heap.size, 0, none⟩)) (fun _ => trivial) rfl (by kernel_rfl) (by kernel_rfl) (by kernel_rfl) (by kernel_rfl) (fun _ _ _ h => h) (Below.refl _ w1).drew (by rfl) (fun W hC => by go_simp) ?_
  refine wpAnyC_take (i := 9) (.pointer (some ⟨w.heap.size, 0, none⟩)) (fun _ => trivial) rfl (by kernel_rfl) (by kernel_rfl) (by kernel_rfl) (by kernel_rfl) (fun _ _ _ h => h) (Below.refl _ w1).drew (by rfl) (fun W hC => by go_simp) ?_
  refine wpAnyC_take (i := 10) (.int .i64 3) (fun _ => trivial) rfl (by kernel_rfl) (by kernel_rfl) (by kernel_rfl) (by kernel_rfl) (fun _ _ _ h => h) (Below.refl _ w1).drew (by rfl) (fun W hC => by have cc := (hC.cell (p := ⟨w.heap.size, 0, none⟩) hlt).trans y0; go_simp) ?_
  refine wpAnyC_take (i := 11) (.bool true) (fun _ => trivial) rfl (by kernel_rfl) (by kernel_rfl) (by kernel_rfl) (by kernel_rfl) (fun _ _ _ h => h) (Below.refl _ w1).drew (by rfl) (fun W hC => by go_simp) ?_
  refine wpAnyC_ready (rs := [6]) (by kernel_rfl) (by simp) ?_
  refine AllReadyC.cons rfl (fun K hK => ?_) AllReadyC.nil
  go_simp
  refine ⟨trivial, (callsIn_wide.2 HG.out).mono ?_⟩
  rintro e w2 ⟨rfl, hb2⟩
  have hb2' : Below w1.heap.size w1 w2 := (Below.refl _ w1).drew.trans hb2
  dsimp only
  refine hK _ _ ⟨hb2', ?_⟩
  clear hK K
  refine wpAnyC_ready (rs := [7]) (by kernel_rfl) (by simp) ?_
  refine AllReadyC.cons rfl (fun K hK => ?_) AllReadyC.nil
  go_simp
  refine ⟨trivial, (callsIn_wide.2 (HM.out _ hb2')).mono ?_⟩
  rintro e w3 ⟨rfl, hb3⟩
  have hb3' : Below w1.heap.size w1 w3 := hb2'.trans (hb3.mono hb2'.size)
  dsimp only
  refine hK _ _ ⟨hb3', ?_⟩
  clear hK K
  refine wpAnyC_ready (rs := [12]) (by kernel_rfl) (by simp) ?_
  refine AllReadyC.cons rfl (fun K hK => ?_) AllReadyC.nil
  go_simp
  refine hK _ _ ⟨hb3', ?_⟩
  clear hK K
  refine wpAnyC_ready (rs := [13]) (by kernel_rfl) (by simp) ?_
  refine AllReadyC.cons rfl (fun K hK => ?_) AllReadyC.nil
  go_simp
  refine hK _ _ ⟨hb3', ?_⟩
  clear hK K
  refine wpAnyC_done (by kernel_rfl) ?_ _
  go_wp2
  go_ret
  exact ⟨rfl, HB1.out.trans (hb3'.mono HB1.out.size)⟩

set_option maxRecDepth 100000 in
set_option maxHeartbeats 1600000 in
theorem ready_one (w : World) (B c cap c1 n1 c2 n2 : Nat) (A : Option Addr) (nm ex : ByteArray) (hr : Reads w B 3 A 1 [.int .i64 3, .string nm, .string ex]) (hB : B ≤ w.heap.size) (hT : Tabs w) (hx : Rxp ex c1 n1 c2 n2) (h256 : ex.size ≤ 256) :
    Calls Tryz.prog 65 #[.slice A 1 cap] w fun e w' => ∃ A' c' pg, e = .returned (.tuple #[.slice A' 1 c', .int .i64 0]) ∧ Below w.heap.size w w' ∧ w'.ownsRow w.heap.size 218 4 (.slice A' 1 c') 1 [.int .i64 3, .string nm, .string ex, .pointer (some ⟨pg, 0, none⟩)] ∧ ProgAt w' w.heap.size pg c1 c2 := by
  obtain ⟨j0, hj, hy0, hy1, hy2⟩ := info_parts info218
  have HJ := Lib.hid hj
  have HY0 := Lib.hid hy0
  have HY1 := Lib.hid hy1
  have HY2 := Lib.hid hy2
  clear hj hy0 hy1 hy2
  obtain ⟨d, rfl, hdB, hc⟩ := hr.2 (by omega)
  have x0 := hc 0 _ rfl
  have x1 := hc 1 _ rfl
  have x2 := hc 2 _ rfl
  have ed : d.add 0 = d := by unfold Addr.add; simp
  have ed1 : d.add 1 = ⟨d.block, d.off + 1, none⟩ := by unfold Addr.add; simp
  have ed2 : d.add 2 = ⟨d.block, d.off + 2, none⟩ := by unfold Addr.add; simp
  rw [ed] at x0
  rw [ed1] at x1
  rw [ed2] at x2
  clear hc ed ed1 ed2 hr
  obtain ⟨w1, hw1⟩ : ∃ w1, w1 = w.alloc (.cells #[.int .i64 3, .string nm, .string ex] 24) := ⟨_, rfl⟩
  have hb1 : Below w.heap.size w w1 := by rw [hw1]; exact (Below.refl _ w).alloc (Nat.le_refl _) _
  have hx1 : Blk w1 w.heap.size 24 #[.int .i64 3, .string nm, .string ex] := by rw [hw1]; exact Blk.new w 24 _
  have y0 : w1.cell? ⟨w.heap.size, 0, none⟩ = some (.int .i64 3) := hx1.cell 0
  have y1 : w1.cell? ⟨w.heap.size, 1, none⟩ = some (.string nm) := hx1.cell 1
  have y2 : w1.cell? ⟨w.heap.size, 2, none⟩ = some (.string ex) := hx1.cell 2
  obtain ⟨w2, hw2⟩ : ∃ w2, w2 = w1.alloc (.cells #[.int .i64 3, .string nm, .string ex, .pointer none] 218) := ⟨_, rfl⟩
  have hb2 : Below w1.heap.size w1 w2 := by rw [hw2]; exact (Below.refl _ w1).alloc (Nat.le_refl _) _
  have hx2 : Blk w2 w.heap.size 24 #[.int .i64 3, .string nm, .string ex] := hx1.below hb2 hx1.lt
  have hm2 : Blk w2 w1.heap.size 218 #[.int .i64 3, .string nm, .string ex, .pointer none] := by rw [hw2]; exact Blk.new w1 218 _
  have z0 : w2.cell? ⟨w.heap.size, 0, none⟩ = some (.int .i64 3) := hx2.cell 0
  have z2 : w2.cell? ⟨w.heap.size, 2, none⟩ = some (.string ex) := hx2.cell 2
  have hb02 := hb1.trans (hb2.mono hb1.size)
  have HC := Lib.hid (compile_any w2 ex c1 n1 c2 n2 (hT.below_ hb02) hx h256)
  have HM2 := Lib.hid hm2
  have HB2 := Lib.hid hb02
  have HW1 := Lib.hid hw1
  have HW2 := Lib.hid hw2
  have hs2 : w.heap.size ≤ w2.heap.size := hb02.size
  have hs1 : w.heap.size ≤ w1.heap.size := hb1.size
  clear hw1 hw2 hb1 hb2 hb02 hx1 hx2 hm2 hT hx
  go_enter Tryz.func65, Tryz.ntmps65
  go_wp2_with fail
  go_loopw [4, 5, 14] (fun a b i wr => (a = .slice none 0 0 ∧ b = .int .i64 0 ∧ i = .int .i64 0 ∧ wr = w) ∨ (∃ A' c' pg, a = .slice A' 1 c' ∧ b = .int .i64 0 ∧ i = .int .i64 1 ∧ Below w.heap.size w wr ∧ wr.ownsRow w.heap.size 218 4 (.slice A' 1 c') 1 [.int .i64 3, .string nm, .string ex, .pointer (some ⟨pg, 0, none⟩)] ∧ ProgAt wr w.heap.size pg c1 c2)) (fun _ _ i _ => 1 - (intOf i).toNat)
  case atStart => exact .inl ⟨rfl, rfl, rfl, rfl⟩
  case round =>
    rcases hrel with ⟨rfl, rfl, rfl, hww⟩ | ⟨A', c', pg, rfl, rfl, rfl, hb, ho, hp⟩
    · subst hww
      go_upto_region 6 with fail
      rw [← HW1.out]
      go_upto_region 7 with fail
      rw [← HW2.out]
      go_wp2_with fail
      refine HC.out.mono ?_
      rintro e w3 ⟨pg, rfl, hb3, hp3⟩
      have hm3 := HM2.out.below hb3 HM2.out.lt
      have m3 : w3.cell? ⟨w1.heap.size, 3, none⟩ = some (.pointer none) := hm3.cell 3
      have f3 := hm3.frozen 3
      have hm4 := hm3.set_ 3 (.pointer (some ⟨pg, 0, none⟩))
      obtain ⟨w4, hw4⟩ : ∃ w4, w4 = w3.setCell ⟨w1.heap.size, 3, none⟩ (.pointer (some ⟨pg, 0, none⟩)) := ⟨_, rfl⟩
      have hb4 : Below wr.heap.size wr w4 := by rw [hw4]; exact (HB2.out.trans (hb3.mono hs2)).setCell (p := ⟨w1.heap.size, 3, none⟩) hs1 _
      have hp4 : ProgAt w4 wr.heap.size pg c1 c2 := by
        rw [hw4]
        obtain ⟨u1, u2, t1, u3, u4, u5, u6, u7, u8⟩ := hp3
        have hfar : ∀ j, w2.heap.size ≤ j → (w3.setCell ⟨w1.heap.size, 3, none⟩ (.pointer (some ⟨pg, 0, none⟩))).heap[j]? = w3.heap[j]? := fun j hj => Below.heap_setCell _ _ _ _ (by show j ≠ w1.heap.size; have := HM2.out.lt; omega)
        exact ⟨Nat.le_trans hs2 u1, u2, t1, (hfar _ u1).trans u3, own_lower (own_blk u4 fun j hj => hfar j (u4.lt j hj).1) hs2, (SetAt.keep ⟨u5, u6, u7, u8⟩ fun j hj _ => hfar j hj).lower hs2⟩
      have g0 : w4.cell? ⟨w1.heap.size, 0, none⟩ = some (.int .i64 3) := by rw [hw4]; exact hm4.cell 0
      have g1 : w4.cell? ⟨w1.heap.size, 1, none⟩ = some (.string nm) := by rw [hw4]; exact hm4.cell 1
      have g2 : w4.cell? ⟨w1.heap.size, 2, none⟩ = some (.string ex) := by rw [hw4]; exact hm4.cell 2
      have g3 : w4.cell? ⟨w1.heap.size, 3, none⟩ = some (.pointer (some ⟨pg, 0, none⟩)) := by rw [hw4]; exact hm4.cell 3
      have HW4 := Lib.hid hw4
      have HB4 := Lib.hid hb4
      have HP4 := Lib.hid hp4
      have hs4 := hb4.size
      clear hm3 hm4 hw4 hb4 hp4 hb3 hp3 HC
      go_upto_region 17 with fail
      rw [← HW4.out]
      clear m3 f3
      go_wp2_with (at_builtin; go_loud (refine wpList_append_any _ rfl (.tmp 39) (.tmp 41) 130 rfl wr.heap.size 218 j0 (.agg #[.int .i64 0, .string ⟨#[]⟩, .string ⟨#[]⟩, .pointer none]) 4 48 Tryz.underlying130 HJ.out HY0.out HY1.out HY2.out rfl (by omega) (.slice none 0 0) 0 [] rfl (World.ownsRow_nil _ _ _ _) (w4.heap.size + 1) (some ⟨w4.heap.size, 0, none⟩) 1 1 [.int .i64 3, .string nm, .string ex, .pointer (some ⟨pg, 0, none⟩)] rfl ⟨rfl, fun _ => ⟨_, rfl, Nat.lt_succ_self _, cells_newL w4 218 _ _ rfl⟩⟩ (by simp [Value.oneCell']) (by simp [maxLen]) (by omega) (by rw [World.size_alloc]; omega) ?_; intro v9 w9 hown9 hgrow9 _; rw [Nat.zero_add, List.nil_append] at hown9; obtain ⟨A9, c9, hv9⟩ := own_slice hown9; subst hv9; have HO9 := Lib.hid hown9; have HG9 := Lib.hid hgrow9; clear hown9 hgrow9))
      have hb9 : Below w4.heap.size w4 w9 := by
        have h1 := below_of_only HG9.out
        exact ((Below.refl _ w4).alloc (Nat.le_refl _) _).trans (h1.mono (by rw [World.size_alloc]; omega))
      exact ⟨.inr ⟨A9, c9, pg, rfl, rfl, rfl, HB4.out.trans (hb9.mono hs4), HO9.out, HP4.out.keep fun j _ hlt => hb9.block j hlt⟩, Nat.lt_succ_self 0⟩
    · have HB := Lib.hid hb
      have HO := Lib.hid ho
      have HP := Lib.hid hp
      clear hb ho hp x0 x1 x2 y0 y1 y2 z0 z2
      go_wp2
      go_ret2
      exact ⟨A', c', pg, rfl, HB.out, HO.out, HP.out⟩
end Go.Proofs.YtbeeejpjnniejaaGreatDoor
namespace Go.Proofs.YtbeeejpjnniejaaGreatDoor
open Go.RowKit Go.Shelf Go.Maps
def emptyH (ret : Int) (m : Nat) : HS := { ret := ret, newest := - big - 1, m := m, dir := [], vl := fun _ => .slice none 0 0, vr := fun _ => .slice none 0 0, lab := fun _ => [], row := fun _ => [] }
theorem emptyH_at (w : World) (F : Nat → Prop) (p m : Nat) (ret : Int) (hF : ∀ k, k = p ∨ k = m → F k)
    (h1 : Blk w p 126 #[.int .i64 ret, .int .i64 (- big - 1), .map (some m)]) (h2 : DirAt w m 0 []) : HeadAt w F p (emptyH ret m) where
  blk := h1
  own := hF _ (.inl rfl)
  dir := h2
  mF := hF _ (.inr rfl)
  ser := fun x hx => by cases hx
  key := fun x hx => by cases hx
  inj := List.Pairwise.nil
  apart := fun x hx => by cases hx
theorem empty_ok (r : Int) (hr : r ≤ 9223372036854775807) : (Hd.empty r).Ok where
  ret := by unfold Hd.empty; dsimp only; omega
  newest := by unfold Hd.empty big; dsimp only; omega
  sorted := List.Pairwise.nil
  ser := fun s hs => by cases hs
set_option maxRecDepth 100000 in
set_option maxHeartbeats 1600000 in
theorem new_any (r : Int) (w : World) (hr : r ≤ 9223372036854775807) : Calls Tryz.prog 13 #[.int .i64 r] w fun e w' => ∃ p, e = .returned (.pointer (some ⟨p, 0, none⟩)) ∧ HdAt w' (fun k => w.heap.size ≤ k ∧ k < w'.heap.size) p 0 (Hd.empty r) ∧ Below w.heap.size w w' := by
  have hmm := @run_makeMap Tryz.prog
  obtain ⟨mx, hmx⟩ : ∃ x, x = max r 0 := ⟨_, rfl⟩
  go_enter Tryz.func13, Tryz.ntmps13
  go_wp2
  go_ret
  rw [← hmx]
  obtain ⟨w1, hw1⟩ : ∃ w1, w.alloc (.map #[] 0) = w1 := ⟨_, rfl⟩
  have s1 : w1.heap.size = w.heap.size + 1 := by rw [← hw1]; simp
  have d1 : DirAt w1 w.heap.size 0 [] := by rw [← hw1]; exact dir_made w
  have b1 : Below w.heap.size w w1 := by rw [← hw1]; exact (Below.refl _ w).alloc (Nat.le_refl _) _
  rw [hw1]
  refine ⟨w1.heap.size, ?_, ⟨emptyH mx w.heap.size, emptyH_at _ _ _ _ _ ?_ ?_ (d1.keep (Below.heap_alloc _ _ _ d1.lt)), ⟨?_, rfl, List.Perm.refl _⟩, empty_ok r hr, Nat.le_refl _, fun x hx => by cases hx⟩, ?_⟩
  · rw [s1]; rfl
  · rintro k (rfl | rfl) <;> (rw [World.size_alloc]; omega)
  · exact Blk.new w1 126 _
  · show mx = max r 0
    exact hmx
  · exact b1.alloc (by omega) _
theorem newest_any (w : World) (p : Nat) (nw : Int) (c1 : w.cell? ⟨p, 1, none⟩ = some (.int .i64 nw)) : Calls Tryz.prog 26 #[.pointer (some ⟨p, 0, none⟩)] w fun e w' => e = .returned (.int .i64 nw) ∧ w' = w := by
  go_enter Tryz.func26, Tryz.ntmps26
  go_wp2
  go_ret
  exact ⟨rfl, rfl⟩
theorem ready_nil (w : World) : Calls Tryz.prog 65 #[.slice none 0 0] w fun e w' => e = .returned (.tuple #[.slice none 0 0, .int .i64 0]) ∧ w' = w := by
  go_enter Tryz.func65, Tryz.ntmps65
  go_wp2_with fail
  go_loopw [4, 5, 14] (fun a b i wr => a = .slice none 0 0 ∧ b = .int .i64 0 ∧ i = .int .i64 0 ∧ wr = w) (fun _ _ _ _ => 0)
  case atStart => exact ⟨rfl, rfl, rfl, rfl⟩
  case round =>
    obtain ⟨rfl, rfl, rfl, rfl⟩ := hrel
    go_wp2
    go_ret2
    exact ⟨rfl, rfl⟩
theorem all_nil (w : World) (v : Value) : Calls Tryz.prog 67 #[.slice none 0 0, v] w fun e w' => e = .returned (.bool true) ∧ w' = w := by
  go_enter Tryz.func67, Tryz.ntmps67
  go_wp2_with fail
  go_loopw [9] (fun i wr => i = .int .i64 0 ∧ wr = w) (fun _ _ => 0)
  case atStart => exact ⟨rfl, rfl⟩
  case round =>
    obtain ⟨rfl, rfl⟩ := hrel
    go_wp2
    refine bodyPost_ret (results_tmp rfl _ _ _) rfl ?_
    exact ⟨rfl, rfl⟩
end Go.Proofs.YtbeeejpjnniejaaGreatDoor
namespace Go.Proofs.YtbeeejpjnniejaaGreatDoor
open Go.RowKit Go.Shelf
set_option maxRecDepth 100000 in
set_option maxHeartbeats 1600000 in
theorem all_one (w : World) (B0 B BL pg c1 c2 c c' : Nat) (A' : Option Addr) (v : Value) (ls : List Lbl) (nm ex : ByteArray) (hT : Tabs w) (ho : w.ownsRow B0 218 4 (.slice A' 1 c') 1 [.int .i64 3, .string nm, .string ex, .pointer (some ⟨pg, 0, none⟩)]) (h : ProgAt w B pg c1 c2) (hl : LabsAt w BL v ls) (hB : BL ≤ w.heap.size) (hn : ls.length ≤ 64) (h1 : c1 ≤ c) (h2 : c ≤ c2) (hs : (getL nm ls).size = 1) (hd : Lib.decodeGo (getL nm ls) = (c, 1)) :
    Calls Tryz.prog 67 #[.slice A' 1 c', v] w fun e w' => e = .returned (.bool true) ∧ Below w.heap.size w w' := by
  obtain ⟨d, rfl, -, hc⟩ := (Reads.of_own ho).2 (by omega)
  have x0 := hc 0 _ rfl
  have x1 := hc 1 _ rfl
  have x2 := hc 2 _ rfl
  have x3 := hc 3 _ rfl
  have ed : d.add 0 = d := by unfold Addr.add; simp
  have ed1 : d.add 1 = ⟨d.block, d.off + 1, none⟩ := by unfold Addr.add; simp
  have ed2 : d.add 2 = ⟨d.block, d.off + 2, none⟩ := by unfold Addr.add; simp
  have ed3 : d.add 3 = ⟨d.block, d.off + 3, none⟩ := by unfold Addr.add; simp
  rw [ed] at x0
  rw [ed1] at x1
  rw [ed2] at x2
  rw [ed3] at x3
  obtain ⟨w1, hw1⟩ : ∃ w1, w1 = w.alloc (.cells #[.int .i64 3, .string nm, .string ex, .pointer (some ⟨pg, 0, none⟩)] 218) := ⟨_, rfl⟩
  have hb1 : Below w.heap.size w w1 := by rw [hw1]; exact (Below.refl _ w).alloc (Nat.le_refl _) _
  have hx1 : Blk w1 w.heap.size 218 #[.int .i64 3, .string nm, .string ex, .pointer (some ⟨pg, 0, none⟩)] := by rw [hw1]; exact Blk.new w 218 _
  have y0 : w1.cell? ⟨w.heap.size, 0, none⟩ = some (.int .i64 3) := hx1.cell 0
  have y1 : w1.cell? ⟨w.heap.size, 1, none⟩ = some (.string nm) := hx1.cell 1
  have y2 : w1.cell? ⟨w.heap.size, 2, none⟩ = some (.string ex) := hx1.cell 2
  have y3 : w1.cell? ⟨w.heap.size, 3, none⟩ = some (.pointer (some ⟨pg, 0, none⟩)) := hx1.cell 3
  have HM := Lib.hid (means_one w1 B BL pg c1 c2 c v ls nm ex (hT.below_ hb1) (h.keep fun j _ hlt => hb1.block j hlt) (hl.below hb1 hB) (Nat.le_trans hB hb1.size) hn h1 h2 hs hd)
  have HB1 := Lib.hid hb1
  have HW1 := Lib.hid hw1
  clear hT ho h hl hc ed ed1 ed2 ed3 hw1 hb1 hx1 hs hd
  go_enter Tryz.func67, Tryz.ntmps67
  go_wp2_with fail
  go_loopw [9] (fun i wr => (i = .int .i64 0 ∧ wr = w) ∨ (i = .int .i64 1 ∧ Below w.heap.size w wr)) (fun i _ => 1 - (intOf i).toNat)
  case atStart => exact .inl ⟨rfl, rfl⟩
  case round =>
    rcases hrel with ⟨rfl, hww⟩ | ⟨rfl, hb⟩
    · subst hww
      go_upto_region 4 with fail
      rw [← HW1.out]
      go_wp2_with fail
      refine HM.out.mono ?_
      rintro e w2 ⟨rfl, hb2⟩
      have HB2 := Lib.hid (HB1.out.trans (hb2.mono HB1.out.size))
      clear hb2 HM
      go_wp2
      exact ⟨.inr ⟨rfl, HB2.out⟩, Nat.lt_succ_self 0⟩
    · have HB := Lib.hid hb
      clear hb x0 x1 x2 x3 y0 y1 y2 y3
      go_wp2
      go_ret
      exact ⟨rfl, HB.out⟩
/-- no matcher: all is meant -/
theorem rdy_nil (w : World) : Rdy w (.slice none 0 0) 0 (fun _ => true) (fun _ => True) := fun W _ =>
  (ready_nil W).mono fun e w' ⟨he, hw⟩ => ⟨none, 0, 0, he, by rw [hw]; exact Below.refl _ _, fun _ W2 _ v ls _ _ _ => (all_nil W2 v).mono fun e w' ⟨he, hw⟩ => ⟨he, by rw [hw]; exact Below.refl _ _⟩⟩
/-- one matcher of one range: at labels that it means -/
theorem rdy_one (w : World) (B cap c1 n1 c2 n2 c : Nat) (A : Option Addr) (nm ex : ByteArray) (hr : Reads w B 3 A 1 [.int .i64 3, .string nm, .string ex]) (hB : B ≤ w.heap.size) (hT : Tabs w) (hx : Rxp ex c1 n1 c2 n2) (h256 : ex.size ≤ 256) (h1 : c1 ≤ c) (h2 : c ≤ c2) :
    Rdy w (.slice A 1 cap) 0 (fun _ => true) (fun ls => (getL nm ls).size = 1 ∧ Lib.decodeGo (getL nm ls) = (c, 1)) := fun W hW => by
  refine (ready_one W B 0 cap c1 n1 c2 n2 A nm ex (hr.keep fun p hp => hW.cell (by omega)) (Nat.le_trans hB hW.size) (hT.below_ hW) hx h256).mono ?_
  rintro e w' ⟨A', c', pg, rfl, hb, ho, hp⟩
  refine ⟨A', 1, c', rfl, hb, fun _ W2 hW2 v ls hl hn hP => ?_⟩
  exact all_one W2 W.heap.size W.heap.size W2.heap.size pg c1 c2 c c' A' v ls nm ex (((hT.below_ hW).below_ hb).below_ hW2) (own_blk ho fun j hj => hW2.block j (ho.lt j hj).2) (hp.keep fun j _ hlt => hW2.block j hlt) hl (Nat.le_refl _) hn h1 h2 hP.1 hP.2
end Go.Proofs.YtbeeejpjnniejaaGreatDoor
namespace Go.Proofs.YtbeeejpjnniejaaGreatDoor
open Go.RowKit Go.Shelf
abbrev ex0 : ByteArray := ⟨#[91, 48, 45, 57, 93]⟩
abbrev la : ByteArray := ⟨#[97]⟩
abbrev l1 : ByteArray := ⟨#[49]⟩
theorem rng0 : Rng ex0 1 48 1 57 1 where
  size := by decide
  lt1 := by decide
  b94 := by kernel_rfl
  b45 := by kernel_rfl
  b92 := by kernel_rfl
  d1 := by kernel_rfl
  m1 := by omega
  dash := by kernel_rfl
  pre := by kernel_rfl
  lt2 := by decide
  e92 := by kernel_rfl
  d2 := by kernel_rfl
  m2 := by omega
  le := by omega
  shut := by kernel_rfl
theorem rxp0 : Rxp ex0 48 1 57 1 where
  d0 := by kernel_rfl
  rng := rng0
  len := by decide
  a124 := by kernel_rfl
  a41 := by kernel_rfl
def lab1 : List Lbl := [(la, l1)]
def pt1 : Pt := (lab1, 10, 4607182418800017408)
def H1 : Hd := ⟨1000, 10, [(lab1, [(10, 4607182418800017408, false)])]⟩
theorem fit1 : fitP lab1 = true := by kernel_rfl
theorem take1 : (Hd.empty 1000).take [pt1] = ([0], H1) := by kernel_rfl
theorem taken1 : (Hd.empty 1000).taken [pt1] = [pt1] := by kernel_rfl
theorem take2 : H1.take [pt1] = ([16], H1) := by kernel_rfl
theorem taken2 : H1.taken [pt1] = [] := by kernel_rfl
theorem sel1 : H1.sel (fun _ => true) 0 100 = [(lab1, [(10, 4607182418800017408)])] := by kernel_rfl
theorem get1 : getL la lab1 = l1 := by kernel_rfl
theorem dec1 : Lib.decodeGo l1 = (49, 1) := by kernel_rfl
end Go.Proofs.YtbeeejpjnniejaaGreatDoor
