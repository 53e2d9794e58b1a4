/- The law of the merge's stops (3): the two cuts. -/
import Derived.StillTailTactics
import Derived.Test.YtnglejopbpnknaaJ14AnyInv
namespace Go.Proofs.Ytnglejopbpnknaa
open Go.RowKit Go.Shelf
theorem run_store_func (P : Program) (w : World) (a : Addr) (m : Mode) (f : Fn) (xs cs : Array Value) : (store a (.func f xs cs) m).run P w = stored P w a (.func f xs cs) m := run_store P w a _ m rfl
attribute [local go_sem] run_store_func Oper.semAt_some
attribute [local simp] wide_fn
theorem below_al {w W : World} (h : Below w.heap.size w W) (o : Obj) : Below w.heap.size w (W.alloc o) := h.alloc h.size o
/-- behind the two cuts -/
def AftCuts (w2 wx : World) (B : Nat) (z1 z2 : Int) (s3 s4 s5 s6 : Value) : Prop :=
  ∃ ssA ssB g5 g6, CutAt wx B s3 ssA ∧ CutAt wx B s4 ssB ∧ s5 = .pointer (some ⟨g5, 0, none⟩) ∧ s6 = .pointer (some ⟨g6, 0, none⟩) ∧ Blk wx g5 3 #[.int .i64 z1] ∧ Blk wx g6 3 #[.int .i64 z2] ∧ Below w2.heap.size w2 wx
/-- while the two cuts are laid, in whatever order: what is known of what is listed -/
structure R1 (w2 W : World) (B : Nat) (vA vB : Value) (z1 z2 : Int) (L : Nat → Prop) (s3 s4 s5 s6 s13 s14 s15 s16 s17 s18 s19 s20 s21 s22 : Value) : Prop where
  base : Below w2.heap.size w2 W
  f0 : L 0 → s13 = .pointer (some ⟨B, 0, none⟩)
  f1 : L 1 → s14 = vA
  f2 : L 2 → ∃ ss, CutAt W B s15 ss
  f3 : L 3 → s16 = .pointer (some ⟨B, 1, none⟩)
  f4 : L 4 → s17 = vB
  f5 : L 5 → ∃ ss, CutAt W B s18 ss
  f6 : L 6 → s19 = .pointer (some ⟨B, 2, none⟩)
  f7 : L 7 → s20 = .int .i64 z1
  f8 : L 8 → s21 = .pointer (some ⟨B, 3, none⟩)
  f9 : L 9 → s22 = .int .i64 z2
  f10 : L 10 → ∃ (g : Nat) (v : Int), s5 = .pointer (some ⟨g, 0, none⟩) ∧ Blk W g 3 #[.int .i64 v] ∧ w2.heap.size ≤ g ∧ (L 14 → v = z1)
  f11 : L 11 → ∃ (g : Nat) (v : Int), s6 = .pointer (some ⟨g, 0, none⟩) ∧ Blk W g 3 #[.int .i64 v] ∧ w2.heap.size ≤ g ∧ (L 15 → v = z2)
  f12 : L 12 → ∃ ss, CutAt W B s3 ss
  f13 : L 13 → ∃ ss, CutAt W B s4 ss
  g14 : L 14 → L 10
  g15 : L 15 → L 11
  fne : L 10 → L 11 → s5 ≠ s6
theorem R1.call {w2 W W' : World} {B : Nat} {vA vB : Value} {z1 z2 : Int} {L : Nat → Prop} {s3 s4 s5 s6 s13 s14 s15 s16 s17 s18 s19 s20 s21 s22 : Value} (h : R1 w2 W B vA vB z1 z2 L s3 s4 s5 s6 s13 s14 s15 s16 s17 s18 s19 s20 s21 s22) (hb : Below W.heap.size W W') : R1 w2 W' B vA vB z1 z2 L s3 s4 s5 s6 s13 s14 s15 s16 s17 s18 s19 s20 s21 s22 where
  base := h.base.trans (hb.mono h.base.size)
  f0 := h.f0
  f1 := h.f1
  f2 := fun k => (h.f2 k).elim fun ss c => ⟨ss, c.call hb⟩
  f3 := h.f3
  f4 := h.f4
  f5 := fun k => (h.f5 k).elim fun ss c => ⟨ss, c.call hb⟩
  f6 := h.f6
  f7 := h.f7
  f8 := h.f8
  f9 := h.f9
  f10 := fun k => let ⟨g, v, e, hg, hl, hv⟩ := h.f10 k; ⟨g, v, e, hg.below hb hg.lt, hl, hv⟩
  f11 := fun k => let ⟨g, v, e, hg, hl, hv⟩ := h.f11 k; ⟨g, v, e, hg.below hb hg.lt, hl, hv⟩
  f12 := fun k => (h.f12 k).elim fun ss c => ⟨ss, c.call hb⟩
  f13 := fun k => (h.f13 k).elim fun ss c => ⟨ss, c.call hb⟩
  g14 := h.g14
  g15 := h.g15
  fne := h.fne
set_option maxRecDepth 100000 in
set_option maxHeartbeats 25600000 in
theorem law_any (w : World) (vA vB : Value) (z1 z2 : Int) (hA : SersIn w w.heap.size vA) (hB : SersIn w w.heap.size vB) (h1 : -9223372036854775808 ≤ z1 ∧ z1 ≤ 9223372036854775807) (h2 : -9223372036854775808 ≤ z2 ∧ z2 ≤ 9223372036854775807) :
    Calls Try.prog 3 #[.agg #[vA, vB, .int .i64 z1, .int .i64 z2]] w fun e w' => e = .returned (.bool true) ∧ Below w.heap.size w w' := by
  have HA := Lib.hid hA
  have HB := Lib.hid hB
  obtain ⟨A1, n1, c1, -, -, rfl, -⟩ := hA
  obtain ⟨A2, n2, c2, -, -, rfl, -⟩ := hB
  obtain ⟨w2, hw2⟩ : ∃ w2, w2 = (w.alloc (.cells #[.slice A1 n1 c1, .slice A2 n2 c2, .int .i64 z1, .int .i64 z2] 24)).alloc (.cells #[.bool false] 4) := ⟨_, rfl⟩
  have hb2 : Below w.heap.size w w2 := by rw [hw2]; exact ((Below.refl _ _).alloc (Nat.le_refl _) _).alloc (by simp) _
  have hs2 : w2.heap.size = w.heap.size + 2 := by rw [hw2]; simp
  have p0 : Blk w2 w.heap.size 24 #[.slice A1 n1 c1, .slice A2 n2 c2, .int .i64 z1, .int .i64 z2] := by rw [hw2]; exact (Blk.new w 24 _).alloc _
  have r0 : Blk w2 (w.heap.size + 1) 4 #[.bool false] := by
    have := Blk.new (w.alloc (.cells #[.slice A1 n1 c1, .slice A2 n2 c2, .int .i64 z1, .int .i64 z2] 24)) 4 #[.bool false]
    rw [hw2]; rwa [World.size_alloc] at this
  have HB2 := Lib.hid hb2
  have HS2 := Lib.hid hs2
  have HP0 := Lib.hid p0
  have HR0 := Lib.hid r0
  have HW2 := Lib.hid hw2
  have H1 := Lib.hid h1
  have H2 := Lib.hid h2
  clear hb2 p0 r0 hw2 h1 h2 hs2
  refine (callsIn_wide (n := 9)).1 ?_
  refine callsIn_of_wp_marks Try.func3 rfl trivial ?_ rfl
  simp only [Try.ntmps3, List.size_toArray, List.length_cons, List.length_nil, Nat.reduceAdd, Nat.reduceSub, Array.replicate_succ, Array.replicate_zero, List.push_toArray, List.append_toArray, List.nil_append, List.cons_append]
  refine wpIn_wide.2 ?_
  go_upto_region 1 with fail
  rw [← HW2.out]
  go_cut [3, 4, 5, 6] from 13 to 22 (fun s3 s4 s5 s6 wx => AftCuts w2 wx w.heap.size z1 z2 s3 s4 s5 s6)
  case first =>
    have hz : w.heap.size ≤ w2.heap.size := HB2.out.size
    have HCA := Lib.hid (show ∀ W : World, Below w2.heap.size w2 W → Calls Try.prog 6 #[.slice A1 n1 c1] W fun e w' => ∃ v' ss, e = .returned v' ∧ CutAt w' w.heap.size v' ss ∧ Below w2.heap.size w2 w' ∧ Below W.heap.size W w' from fun W h => (cut_any W w.heap.size _ (HA.out.below (HB2.out.trans (h.mono hz)) (Nat.le_refl _)) (Nat.le_trans hz h.size)).mono fun e w' ⟨v', ss, a, b, c⟩ => ⟨v', ss, a, b, h.trans (c.mono h.size), c⟩)
    have HCB := Lib.hid (show ∀ W : World, Below w2.heap.size w2 W → Calls Try.prog 6 #[.slice A2 n2 c2] W fun e w' => ∃ v' ss, e = .returned v' ∧ CutAt w' w.heap.size v' ss ∧ Below w2.heap.size w2 w' ∧ Below W.heap.size W w' from fun W h => (cut_any W w.heap.size _ (HB.out.below (HB2.out.trans (h.mono hz)) (Nat.le_refl _)) (Nat.le_trans hz h.size)).mono fun e w' ⟨v', ss, a, b, c⟩ => ⟨v', ss, a, b, h.trans (c.mono h.size), c⟩)
    clear hz
    rename_i J1 K1 hJ1 hK1
    refine wp_region_inv (by kernel_rfl) (by kernel_rfl) (fun listed a W => ∃ s3 s4 s5 s6 s13 s14 s15 s16 s17 s18 s19 s20 s21 s22, a = { tmps := #[.agg #[.slice A1 n1 c1, .slice A2 n2 c2, .int .i64 z1, .int .i64 z2], .pointer (some ⟨w.heap.size, 0, none⟩), .pointer (some ⟨w.heap.size + 1, 0, none⟩), s3, s4, s5, s6, undef, undef, undef, undef, undef, undef, s13, s14, s15, s16, s17, s18, s19, s20, s21, s22, undef, undef, undef, undef, undef, undef, undef, undef, undef, undef, undef, undef, undef, undef, undef, undef, undef, undef, undef, undef, undef, undef, undef, undef, undef, undef, undef, undef, undef, undef, undef, undef, undef, undef, undef, undef, undef, undef, undef, undef, undef, undef, undef, undef, undef, undef, undef, undef, undef, undef, undef, undef, undef, undef, undef, undef, undef, undef, undef, undef, undef, undef, undef, undef, undef, undef, undef, undef, undef, undef, undef, undef, undef, undef], defers := [] } ∧ R1 w2 W w.heap.size (.slice A1 n1 c1) (.slice A2 n2 c2) z1 z2 (Lis listed) s3 s4 s5 s6 s13 s14 s15 s16 s17 s18 s19 s20 s21 s22) ?h0 ?step ?done
    case h0 =>
      have hn : ∀ i : Nat, ¬ Lis (Array.replicate 16 false) i := fun i h => by
        unfold Lis at h
        rw [Array.getD_eq_getD_getElem?, Array.getElem?_replicate] at h
        split at h <;> simp at h
      refine ⟨_, _, _, _, _, _, _, _, _, _, _, _, _, _, rfl,
            ⟨⟨rfl, rfl, rfl, Nat.le_refl _, fun i hi => rfl⟩, fun k => absurd k (hn _), fun k => absurd k (hn _), fun k => absurd k (hn _), fun k => absurd k (hn _), fun k => absurd k (hn _), fun k => absurd k (hn _), fun k => absurd k (hn _), fun k => absurd k (hn _), fun k => absurd k (hn _), fun k => absurd k (hn _), fun k => absurd k (hn _), fun k => absurd k (hn _), fun k => absurd k (hn _), fun k => absurd k (hn _), fun k => absurd k (hn _), fun k => absurd k (hn _), fun k => absurd k (hn _)⟩⟩
    case done =>
      rintro listed a W hall ⟨s3, s4, s5, s6, s13, s14, s15, s16, s17, s18, s19, s20, s21, s22, rfl, hR⟩
      refine hK1 _ _ ?_
      obtain ⟨ssA, hcA⟩ := hR.f12 (hall 12 (by decide))
      obtain ⟨ssB, hcB⟩ := hR.f13 (hall 13 (by decide))
      obtain ⟨g5, v5, e5, hg5, -, hv5⟩ := hR.f10 (hall 10 (by decide))
      obtain ⟨g6, v6, e6, hg6, -, hv6⟩ := hR.f11 (hall 11 (by decide))
      obtain rfl := hv5 (hall 14 (by decide))
      obtain rfl := hv6 (hall 15 (by decide))
      exact hJ1 _ _ ⟨_, _, _, _, _, _, _, _, _, _, _, _, _, _, ⟨ssA, ssB, g5, g6, hcA, hcB, e5, e6, hg5, hg6, hR.base⟩, rfl⟩
    case step =>
      rintro listed a W i o ⟨s3, s4, s5, s6, s13, s14, s15, s16, s17, s18, s19, s20, s21, s22, rfl, hR⟩ ho hu hw
      match i, ho, hu with
      | 0, ho, hu =>
        have ho' := ho
        simp only [List.getElem?_toArray, List.getElem?_cons_succ, List.getElem?_cons_zero, Option.some.injEq] at ho'
        subst ho'
        refine wpOp_hid ho rfl fun K hK => ?_
        go_simp
        refine hK _ _ ⟨_, _, _, _, _, _, _, _, _, _, _, _, _, _, rfl,
            ⟨hR.base,
            fun _ => rfl,
            fun k => hR.f1 (lis_of k (by decide)),
            fun k => hR.f2 (lis_of k (by decide)),
            fun k => hR.f3 (lis_of k (by decide)),
            fun k => hR.f4 (lis_of k (by decide)),
            fun k => hR.f5 (lis_of k (by decide)),
            fun k => hR.f6 (lis_of k (by decide)),
            fun k => hR.f7 (lis_of k (by decide)),
            fun k => hR.f8 (lis_of k (by decide)),
            fun k => hR.f9 (lis_of k (by decide)),
            fun k => let ⟨g, v, e, hg, hl, hv⟩ := hR.f10 (lis_of k (by decide)); ⟨g, v, e, hg, hl, fun k => hv (lis_of k (by decide))⟩,
            fun k => let ⟨g, v, e, hg, hl, hv⟩ := hR.f11 (lis_of k (by decide)); ⟨g, v, e, hg, hl, fun k => hv (lis_of k (by decide))⟩,
            fun k => hR.f12 (lis_of k (by decide)),
            fun k => hR.f13 (lis_of k (by decide)),
            fun k => lis_set (by decide) (hR.g14 (lis_of k (by decide))),
            fun k => lis_set (by decide) (hR.g15 (lis_of k (by decide))),
            fun k k2 => hR.fne (lis_of k (by decide)) (lis_of k2 (by decide))⟩⟩
      | 1, ho, hu =>
        have ho' := ho
        simp only [List.getElem?_toArray, List.getElem?_cons_succ, List.getElem?_cons_zero, Option.some.injEq] at ho'
        subst ho'
        refine wpOp_hid ho rfl fun K hK => ?_
        have d0 : Lis listed 0 := hw ⟨0, .data⟩ (by simp) rfl
        obtain rfl := hR.f0 d0
        have e0 := (HP0.out.below hR.base HP0.out.lt).cell 0
        dsimp at e0
        go_simp
        refine hK _ _ ⟨_, _, _, _, _, _, _, _, _, _, _, _, _, _, rfl,
            ⟨hR.base,
            fun k => hR.f0 (lis_of k (by decide)),
            fun _ => rfl,
            fun k => hR.f2 (lis_of k (by decide)),
            fun k => hR.f3 (lis_of k (by decide)),
            fun k => hR.f4 (lis_of k (by decide)),
            fun k => hR.f5 (lis_of k (by decide)),
            fun k => hR.f6 (lis_of k (by decide)),
            fun k => hR.f7 (lis_of k (by decide)),
            fun k => hR.f8 (lis_of k (by decide)),
            fun k => hR.f9 (lis_of k (by decide)),
            fun k => let ⟨g, v, e, hg, hl, hv⟩ := hR.f10 (lis_of k (by decide)); ⟨g, v, e, hg, hl, fun k => hv (lis_of k (by decide))⟩,
            fun k => let ⟨g, v, e, hg, hl, hv⟩ := hR.f11 (lis_of k (by decide)); ⟨g, v, e, hg, hl, fun k => hv (lis_of k (by decide))⟩,
            fun k => hR.f12 (lis_of k (by decide)),
            fun k => hR.f13 (lis_of k (by decide)),
            fun k => lis_set (by decide) (hR.g14 (lis_of k (by decide))),
            fun k => lis_set (by decide) (hR.g15 (lis_of k (by decide))),
            fun k k2 => hR.fne (lis_of k (by decide)) (lis_of k2 (by decide))⟩⟩
      | 2, ho, hu =>
        have ho' := ho
        simp only [List.getElem?_toArray, List.getElem?_cons_succ, List.getElem?_cons_zero, Option.some.injEq] at ho'
        subst ho'
        refine wpOp_hid ho rfl fun K hK => ?_
        have d1 : Lis listed 1 := hw ⟨1, .data⟩ (by simp) rfl
        obtain rfl := hR.f1 d1
        go_simp
        refine (HCA.out W hR.base).mono ?_
        rintro e W' ⟨v', ss, rfl, hc, -, hbW⟩
        have hR2 := hR.call hbW
        refine hK _ _ ⟨_, _, _, _, _, _, _, _, _, _, _, _, _, _, rfl,
            ⟨hR2.base,
            fun k => hR2.f0 (lis_of k (by decide)),
            fun k => hR2.f1 (lis_of k (by decide)),
            fun _ => ⟨ss, hc⟩,
            fun k => hR2.f3 (lis_of k (by decide)),
            fun k => hR2.f4 (lis_of k (by decide)),
            fun k => hR2.f5 (lis_of k (by decide)),
            fun k => hR2.f6 (lis_of k (by decide)),
            fun k => hR2.f7 (lis_of k (by decide)),
            fun k => hR2.f8 (lis_of k (by decide)),
            fun k => hR2.f9 (lis_of k (by decide)),
            fun k => let ⟨g, v, e, hg, hl, hv⟩ := hR2.f10 (lis_of k (by decide)); ⟨g, v, e, hg, hl, fun k => hv (lis_of k (by decide))⟩,
            fun k => let ⟨g, v, e, hg, hl, hv⟩ := hR2.f11 (lis_of k (by decide)); ⟨g, v, e, hg, hl, fun k => hv (lis_of k (by decide))⟩,
            fun k => hR2.f12 (lis_of k (by decide)),
            fun k => hR2.f13 (lis_of k (by decide)),
            fun k => lis_set (by decide) (hR2.g14 (lis_of k (by decide))),
            fun k => lis_set (by decide) (hR2.g15 (lis_of k (by decide))),
            fun k k2 => hR2.fne (lis_of k (by decide)) (lis_of k2 (by decide))⟩⟩
      | 3, ho, hu =>
        have ho' := ho
        simp only [List.getElem?_toArray, List.getElem?_cons_succ, List.getElem?_cons_zero, Option.some.injEq] at ho'
        subst ho'
        refine wpOp_hid ho rfl fun K hK => ?_
        go_simp
        refine hK _ _ ⟨_, _, _, _, _, _, _, _, _, _, _, _, _, _, rfl,
            ⟨hR.base,
            fun k => hR.f0 (lis_of k (by decide)),
            fun k => hR.f1 (lis_of k (by decide)),
            fun k => hR.f2 (lis_of k (by decide)),
            fun _ => rfl,
            fun k => hR.f4 (lis_of k (by decide)),
            fun k => hR.f5 (lis_of k (by decide)),
            fun k => hR.f6 (lis_of k (by decide)),
            fun k => hR.f7 (lis_of k (by decide)),
            fun k => hR.f8 (lis_of k (by decide)),
            fun k => hR.f9 (lis_of k (by decide)),
            fun k => let ⟨g, v, e, hg, hl, hv⟩ := hR.f10 (lis_of k (by decide)); ⟨g, v, e, hg, hl, fun k => hv (lis_of k (by decide))⟩,
            fun k => let ⟨g, v, e, hg, hl, hv⟩ := hR.f11 (lis_of k (by decide)); ⟨g, v, e, hg, hl, fun k => hv (lis_of k (by decide))⟩,
            fun k => hR.f12 (lis_of k (by decide)),
            fun k => hR.f13 (lis_of k (by decide)),
            fun k => lis_set (by decide) (hR.g14 (lis_of k (by decide))),
            fun k => lis_set (by decide) (hR.g15 (lis_of k (by decide))),
            fun k k2 => hR.fne (lis_of k (by decide)) (lis_of k2 (by decide))⟩⟩
      | 4, ho, hu =>
        have ho' := ho
        simp only [List.getElem?_toArray, List.getElem?_cons_succ, List.getElem?_cons_zero, Option.some.injEq] at ho'
        subst ho'
        refine wpOp_hid ho rfl fun K hK => ?_
        have d3 : Lis listed 3 := hw ⟨3, .data⟩ (by simp) rfl
        obtain rfl := hR.f3 d3
        have e0 := (HP0.out.below hR.base HP0.out.lt).cell 1
        dsimp at e0
        go_simp
        refine hK _ _ ⟨_, _, _, _, _, _, _, _, _, _, _, _, _, _, rfl,
            ⟨hR.base,
            fun k => hR.f0 (lis_of k (by decide)),
            fun k => hR.f1 (lis_of k (by decide)),
            fun k => hR.f2 (lis_of k (by decide)),
            fun k => hR.f3 (lis_of k (by decide)),
            fun _ => rfl,
            fun k => hR.f5 (lis_of k (by decide)),
            fun k => hR.f6 (lis_of k (by decide)),
            fun k => hR.f7 (lis_of k (by decide)),
            fun k => hR.f8 (lis_of k (by decide)),
            fun k => hR.f9 (lis_of k (by decide)),
            fun k => let ⟨g, v, e, hg, hl, hv⟩ := hR.f10 (lis_of k (by decide)); ⟨g, v, e, hg, hl, fun k => hv (lis_of k (by decide))⟩,
            fun k => let ⟨g, v, e, hg, hl, hv⟩ := hR.f11 (lis_of k (by decide)); ⟨g, v, e, hg, hl, fun k => hv (lis_of k (by decide))⟩,
            fun k => hR.f12 (lis_of k (by decide)),
            fun k => hR.f13 (lis_of k (by decide)),
            fun k => lis_set (by decide) (hR.g14 (lis_of k (by decide))),
            fun k => lis_set (by decide) (hR.g15 (lis_of k (by decide))),
            fun k k2 => hR.fne (lis_of k (by decide)) (lis_of k2 (by decide))⟩⟩
      | 5, ho, hu =>
        have ho' := ho
        simp only [List.getElem?_toArray, List.getElem?_cons_succ, List.getElem?_cons_zero, Option.some.injEq] at ho'
        subst ho'
        refine wpOp_hid ho rfl fun K hK => ?_
        have d4 : Lis listed 4 := hw ⟨4, .data⟩ (by simp) rfl
        obtain rfl := hR.f4 d4
        go_simp
        refine (HCB.out W hR.base).mono ?_
        rintro e W' ⟨v', ss, rfl, hc, -, hbW⟩
        have hR2 := hR.call hbW
        refine hK _ _ ⟨_, _, _, _, _, _, _, _, _, _, _, _, _, _, rfl,
            ⟨hR2.base,
            fun k => hR2.f0 (lis_of k (by decide)),
            fun k => hR2.f1 (lis_of k (by decide)),
            fun k => hR2.f2 (lis_of k (by decide)),
            fun k => hR2.f3 (lis_of k (by decide)),
            fun k => hR2.f4 (lis_of k (by decide)),
            fun _ => ⟨ss, hc⟩,
            fun k => hR2.f6 (lis_of k (by decide)),
            fun k => hR2.f7 (lis_of k (by decide)),
            fun k => hR2.f8 (lis_of k (by decide)),
            fun k => hR2.f9 (lis_of k (by decide)),
            fun k => let ⟨g, v, e, hg, hl, hv⟩ := hR2.f10 (lis_of k (by decide)); ⟨g, v, e, hg, hl, fun k => hv (lis_of k (by decide))⟩,
            fun k => let ⟨g, v, e, hg, hl, hv⟩ := hR2.f11 (lis_of k (by decide)); ⟨g, v, e, hg, hl, fun k => hv (lis_of k (by decide))⟩,
            fun k => hR2.f12 (lis_of k (by decide)),
            fun k => hR2.f13 (lis_of k (by decide)),
            fun k => lis_set (by decide) (hR2.g14 (lis_of k (by decide))),
            fun k => lis_set (by decide) (hR2.g15 (lis_of k (by decide))),
            fun k k2 => hR2.fne (lis_of k (by decide)) (lis_of k2 (by decide))⟩⟩
      | 6, ho, hu =>
        have ho' := ho
        simp only [List.getElem?_toArray, List.getElem?_cons_succ, List.getElem?_cons_zero, Option.some.injEq] at ho'
        subst ho'
        refine wpOp_hid ho rfl fun K hK => ?_
        go_simp
        refine hK _ _ ⟨_, _, _, _, _, _, _, _, _, _, _, _, _, _, rfl,
            ⟨hR.base,
            fun k => hR.f0 (lis_of k (by decide)),
            fun k => hR.f1 (lis_of k (by decide)),
            fun k => hR.f2 (lis_of k (by decide)),
            fun k => hR.f3 (lis_of k (by decide)),
            fun k => hR.f4 (lis_of k (by decide)),
            fun k => hR.f5 (lis_of k (by decide)),
            fun _ => rfl,
            fun k => hR.f7 (lis_of k (by decide)),
            fun k => hR.f8 (lis_of k (by decide)),
            fun k => hR.f9 (lis_of k (by decide)),
            fun k => let ⟨g, v, e, hg, hl, hv⟩ := hR.f10 (lis_of k (by decide)); ⟨g, v, e, hg, hl, fun k => hv (lis_of k (by decide))⟩,
            fun k => let ⟨g, v, e, hg, hl, hv⟩ := hR.f11 (lis_of k (by decide)); ⟨g, v, e, hg, hl, fun k => hv (lis_of k (by decide))⟩,
            fun k => hR.f12 (lis_of k (by decide)),
            fun k => hR.f13 (lis_of k (by decide)),
            fun k => lis_set (by decide) (hR.g14 (lis_of k (by decide))),
            fun k => lis_set (by decide) (hR.g15 (lis_of k (by decide))),
            fun k k2 => hR.fne (lis_of k (by decide)) (lis_of k2 (by decide))⟩⟩
      | 7, ho, hu =>
        have ho' := ho
        simp only [List.getElem?_toArray, List.getElem?_cons_succ, List.getElem?_cons_zero, Option.some.injEq] at ho'
        subst ho'
        refine wpOp_hid ho rfl fun K hK => ?_
        have d6 : Lis listed 6 := hw ⟨6, .data⟩ (by simp) rfl
        obtain rfl := hR.f6 d6
        have e0 := (HP0.out.below hR.base HP0.out.lt).cell 2
        dsimp at e0
        go_simp
        refine hK _ _ ⟨_, _, _, _, _, _, _, _, _, _, _, _, _, _, rfl,
            ⟨hR.base,
            fun k => hR.f0 (lis_of k (by decide)),
            fun k => hR.f1 (lis_of k (by decide)),
            fun k => hR.f2 (lis_of k (by decide)),
            fun k => hR.f3 (lis_of k (by decide)),
            fun k => hR.f4 (lis_of k (by decide)),
            fun k => hR.f5 (lis_of k (by decide)),
            fun k => hR.f6 (lis_of k (by decide)),
            fun _ => rfl,
            fun k => hR.f8 (lis_of k (by decide)),
            fun k => hR.f9 (lis_of k (by decide)),
            fun k => let ⟨g, v, e, hg, hl, hv⟩ := hR.f10 (lis_of k (by decide)); ⟨g, v, e, hg, hl, fun k => hv (lis_of k (by decide))⟩,
            fun k => let ⟨g, v, e, hg, hl, hv⟩ := hR.f11 (lis_of k (by decide)); ⟨g, v, e, hg, hl, fun k => hv (lis_of k (by decide))⟩,
            fun k => hR.f12 (lis_of k (by decide)),
            fun k => hR.f13 (lis_of k (by decide)),
            fun k => lis_set (by decide) (hR.g14 (lis_of k (by decide))),
            fun k => lis_set (by decide) (hR.g15 (lis_of k (by decide))),
            fun k k2 => hR.fne (lis_of k (by decide)) (lis_of k2 (by decide))⟩⟩
      | 8, ho, hu =>
        have ho' := ho
        simp only [List.getElem?_toArray, List.getElem?_cons_succ, List.getElem?_cons_zero, Option.some.injEq] at ho'
        subst ho'
        refine wpOp_hid ho rfl fun K hK => ?_
        go_simp
        refine hK _ _ ⟨_, _, _, _, _, _, _, _, _, _, _, _, _, _, rfl,
            ⟨hR.base,
            fun k => hR.f0 (lis_of k (by decide)),
            fun k => hR.f1 (lis_of k (by decide)),
            fun k => hR.f2 (lis_of k (by decide)),
            fun k => hR.f3 (lis_of k (by decide)),
            fun k => hR.f4 (lis_of k (by decide)),
            fun k => hR.f5 (lis_of k (by decide)),
            fun k => hR.f6 (lis_of k (by decide)),
            fun k => hR.f7 (lis_of k (by decide)),
            fun _ => rfl,
            fun k => hR.f9 (lis_of k (by decide)),
            fun k => let ⟨g, v, e, hg, hl, hv⟩ := hR.f10 (lis_of k (by decide)); ⟨g, v, e, hg, hl, fun k => hv (lis_of k (by decide))⟩,
            fun k => let ⟨g, v, e, hg, hl, hv⟩ := hR.f11 (lis_of k (by decide)); ⟨g, v, e, hg, hl, fun k => hv (lis_of k (by decide))⟩,
            fun k => hR.f12 (lis_of k (by decide)),
            fun k => hR.f13 (lis_of k (by decide)),
            fun k => lis_set (by decide) (hR.g14 (lis_of k (by decide))),
            fun k => lis_set (by decide) (hR.g15 (lis_of k (by decide))),
            fun k k2 => hR.fne (lis_of k (by decide)) (lis_of k2 (by decide))⟩⟩
      | 9, ho, hu =>
        have ho' := ho
        simp only [List.getElem?_toArray, List.getElem?_cons_succ, List.getElem?_cons_zero, Option.some.injEq] at ho'
        subst ho'
        refine wpOp_hid ho rfl fun K hK => ?_
        have d8 : Lis listed 8 := hw ⟨8, .data⟩ (by simp) rfl
        obtain rfl := hR.f8 d8
        have e0 := (HP0.out.below hR.base HP0.out.lt).cell 3
        dsimp at e0
        go_simp
        refine hK _ _ ⟨_, _, _, _, _, _, _, _, _, _, _, _, _, _, rfl,
            ⟨hR.base,
            fun k => hR.f0 (lis_of k (by decide)),
            fun k => hR.f1 (lis_of k (by decide)),
            fun k => hR.f2 (lis_of k (by decide)),
            fun k => hR.f3 (lis_of k (by decide)),
            fun k => hR.f4 (lis_of k (by decide)),
            fun k => hR.f5 (lis_of k (by decide)),
            fun k => hR.f6 (lis_of k (by decide)),
            fun k => hR.f7 (lis_of k (by decide)),
            fun k => hR.f8 (lis_of k (by decide)),
            fun _ => rfl,
            fun k => let ⟨g, v, e, hg, hl, hv⟩ := hR.f10 (lis_of k (by decide)); ⟨g, v, e, hg, hl, fun k => hv (lis_of k (by decide))⟩,
            fun k => let ⟨g, v, e, hg, hl, hv⟩ := hR.f11 (lis_of k (by decide)); ⟨g, v, e, hg, hl, fun k => hv (lis_of k (by decide))⟩,
            fun k => hR.f12 (lis_of k (by decide)),
            fun k => hR.f13 (lis_of k (by decide)),
            fun k => lis_set (by decide) (hR.g14 (lis_of k (by decide))),
            fun k => lis_set (by decide) (hR.g15 (lis_of k (by decide))),
            fun k k2 => hR.fne (lis_of k (by decide)) (lis_of k2 (by decide))⟩⟩
      | 10, ho, hu =>
        have ho' := ho
        simp only [List.getElem?_toArray, List.getElem?_cons_succ, List.getElem?_cons_zero, Option.some.injEq] at ho'
        subst ho'
        refine wpOp_hid ho rfl fun K hK => ?_
        have hR2 := hR.call ((Below.refl _ W).alloc (Nat.le_refl _) (.cells #[.int .i64 0] 3))
        go_simp
        refine hK _ _ ⟨_, _, _, _, _, _, _, _, _, _, _, _, _, _, rfl,
            ⟨hR2.base,
            fun k => hR2.f0 (lis_of k (by decide)),
            fun k => hR2.f1 (lis_of k (by decide)),
            fun k => hR2.f2 (lis_of k (by decide)),
            fun k => hR2.f3 (lis_of k (by decide)),
            fun k => hR2.f4 (lis_of k (by decide)),
            fun k => hR2.f5 (lis_of k (by decide)),
            fun k => hR2.f6 (lis_of k (by decide)),
            fun k => hR2.f7 (lis_of k (by decide)),
            fun k => hR2.f8 (lis_of k (by decide)),
            fun k => hR2.f9 (lis_of k (by decide)),
            fun _ => ⟨W.heap.size, 0, rfl, Blk.new W 3 _, hR.base.size, fun k => absurd (hR.g14 (lis_of k (by decide))) (lis_not hu)⟩,
            fun k => let ⟨g, v, e, hg, hl, hv⟩ := hR2.f11 (lis_of k (by decide)); ⟨g, v, e, hg, hl, fun k => hv (lis_of k (by decide))⟩,
            fun k => hR2.f12 (lis_of k (by decide)),
            fun k => hR2.f13 (lis_of k (by decide)),
            fun k => absurd (hR2.g14 (lis_of k (by decide))) (lis_not hu),
            fun k => lis_set (by decide) (hR2.g15 (lis_of k (by decide))),
            fun _ k => by obtain ⟨g, v, e, hg, -⟩ := hR.f11 (lis_of k (by decide)); rw [e]; intro h; injection h with h; injection h with h; injection h with h; have := hg.lt; omega⟩⟩
      | 11, ho, hu =>
        have ho' := ho
        simp only [List.getElem?_toArray, List.getElem?_cons_succ, List.getElem?_cons_zero, Option.some.injEq] at ho'
        subst ho'
        refine wpOp_hid ho rfl fun K hK => ?_
        have hR2 := hR.call ((Below.refl _ W).alloc (Nat.le_refl _) (.cells #[.int .i64 0] 3))
        go_simp
        refine hK _ _ ⟨_, _, _, _, _, _, _, _, _, _, _, _, _, _, rfl,
            ⟨hR2.base,
            fun k => hR2.f0 (lis_of k (by decide)),
            fun k => hR2.f1 (lis_of k (by decide)),
            fun k => hR2.f2 (lis_of k (by decide)),
            fun k => hR2.f3 (lis_of k (by decide)),
            fun k => hR2.f4 (lis_of k (by decide)),
            fun k => hR2.f5 (lis_of k (by decide)),
            fun k => hR2.f6 (lis_of k (by decide)),
            fun k => hR2.f7 (lis_of k (by decide)),
            fun k => hR2.f8 (lis_of k (by decide)),
            fun k => hR2.f9 (lis_of k (by decide)),
            fun k => let ⟨g, v, e, hg, hl, hv⟩ := hR2.f10 (lis_of k (by decide)); ⟨g, v, e, hg, hl, fun k => hv (lis_of k (by decide))⟩,
            fun _ => ⟨W.heap.size, 0, rfl, Blk.new W 3 _, hR.base.size, fun k => absurd (hR.g15 (lis_of k (by decide))) (lis_not hu)⟩,
            fun k => hR2.f12 (lis_of k (by decide)),
            fun k => hR2.f13 (lis_of k (by decide)),
            fun k => lis_set (by decide) (hR2.g14 (lis_of k (by decide))),
            fun k => absurd (hR2.g15 (lis_of k (by decide))) (lis_not hu),
            fun k _ => by obtain ⟨g, v, e, hg, -⟩ := hR.f10 (lis_of k (by decide)); rw [e]; intro h; injection h with h; injection h with h; injection h with h; have := hg.lt; omega⟩⟩
      | 12, ho, hu =>
        have ho' := ho
        simp only [List.getElem?_toArray, List.getElem?_cons_succ, List.getElem?_cons_zero, Option.some.injEq] at ho'
        subst ho'
        refine wpOp_hid ho rfl fun K hK => ?_
        have d2 : Lis listed 2 := hw ⟨2, .data⟩ (by simp) rfl
        go_simp
        refine hK _ _ ⟨_, _, _, _, _, _, _, _, _, _, _, _, _, _, rfl,
            ⟨hR.base,
            fun k => hR.f0 (lis_of k (by decide)),
            fun k => hR.f1 (lis_of k (by decide)),
            fun k => hR.f2 (lis_of k (by decide)),
            fun k => hR.f3 (lis_of k (by decide)),
            fun k => hR.f4 (lis_of k (by decide)),
            fun k => hR.f5 (lis_of k (by decide)),
            fun k => hR.f6 (lis_of k (by decide)),
            fun k => hR.f7 (lis_of k (by decide)),
            fun k => hR.f8 (lis_of k (by decide)),
            fun k => hR.f9 (lis_of k (by decide)),
            fun k => let ⟨g, v, e, hg, hl, hv⟩ := hR.f10 (lis_of k (by decide)); ⟨g, v, e, hg, hl, fun k => hv (lis_of k (by decide))⟩,
            fun k => let ⟨g, v, e, hg, hl, hv⟩ := hR.f11 (lis_of k (by decide)); ⟨g, v, e, hg, hl, fun k => hv (lis_of k (by decide))⟩,
            fun _ => hR.f2 d2,
            fun k => hR.f13 (lis_of k (by decide)),
            fun k => lis_set (by decide) (hR.g14 (lis_of k (by decide))),
            fun k => lis_set (by decide) (hR.g15 (lis_of k (by decide))),
            fun k k2 => hR.fne (lis_of k (by decide)) (lis_of k2 (by decide))⟩⟩
      | 13, ho, hu =>
        have ho' := ho
        simp only [List.getElem?_toArray, List.getElem?_cons_succ, List.getElem?_cons_zero, Option.some.injEq] at ho'
        subst ho'
        refine wpOp_hid ho rfl fun K hK => ?_
        have d5 : Lis listed 5 := hw ⟨5, .data⟩ (by simp) rfl
        go_simp
        refine hK _ _ ⟨_, _, _, _, _, _, _, _, _, _, _, _, _, _, rfl,
            ⟨hR.base,
            fun k => hR.f0 (lis_of k (by decide)),
            fun k => hR.f1 (lis_of k (by decide)),
            fun k => hR.f2 (lis_of k (by decide)),
            fun k => hR.f3 (lis_of k (by decide)),
            fun k => hR.f4 (lis_of k (by decide)),
            fun k => hR.f5 (lis_of k (by decide)),
            fun k => hR.f6 (lis_of k (by decide)),
            fun k => hR.f7 (lis_of k (by decide)),
            fun k => hR.f8 (lis_of k (by decide)),
            fun k => hR.f9 (lis_of k (by decide)),
            fun k => let ⟨g, v, e, hg, hl, hv⟩ := hR.f10 (lis_of k (by decide)); ⟨g, v, e, hg, hl, fun k => hv (lis_of k (by decide))⟩,
            fun k => let ⟨g, v, e, hg, hl, hv⟩ := hR.f11 (lis_of k (by decide)); ⟨g, v, e, hg, hl, fun k => hv (lis_of k (by decide))⟩,
            fun k => hR.f12 (lis_of k (by decide)),
            fun _ => hR.f5 d5,
            fun k => lis_set (by decide) (hR.g14 (lis_of k (by decide))),
            fun k => lis_set (by decide) (hR.g15 (lis_of k (by decide))),
            fun k k2 => hR.fne (lis_of k (by decide)) (lis_of k2 (by decide))⟩⟩
      | 14, ho, hu =>
        have ho' := ho
        simp only [List.getElem?_toArray, List.getElem?_cons_succ, List.getElem?_cons_zero, Option.some.injEq] at ho'
        subst ho'
        refine wpOp_hid ho rfl fun K hK => ?_
        have d10 : Lis listed 10 := hw ⟨10, .data⟩ (by simp) rfl
        have d7 : Lis listed 7 := hw ⟨7, .data⟩ (by simp) rfl
        obtain rfl := hR.f7 d7
        obtain ⟨g, v, e, hg, hl, -⟩ := hR.f10 d10
        subst e
        have e0 : W.cell? ⟨g, 0, none⟩ = some (.int .i64 v) := hg.cell 0
        have e1 := hg.frozen 0
        have hBg : w.heap.size ≤ g := Nat.le_trans HB2.out.size hl
        have hbs : Below w2.heap.size w2 (W.setCell ⟨g, 0, none⟩ (.int .i64 z1)) := hR.base.setCell (p := ⟨g, 0, none⟩) hl _
        have hgs : Blk (W.setCell ⟨g, 0, none⟩ (.int .i64 z1)) g 3 #[.int .i64 z1] := hg.set_ 0 _
        go_simp
        refine hK _ _ ⟨_, _, _, _, _, _, _, _, _, _, _, _, _, _, rfl,
            ⟨hbs,
            fun k => hR.f0 (lis_of k (by decide)),
            fun k => hR.f1 (lis_of k (by decide)),
            fun k => (hR.f2 (lis_of k (by decide))).elim fun ss c => ⟨ss, c.st hg hBg _⟩,
            fun k => hR.f3 (lis_of k (by decide)),
            fun k => hR.f4 (lis_of k (by decide)),
            fun k => (hR.f5 (lis_of k (by decide))).elim fun ss c => ⟨ss, c.st hg hBg _⟩,
            fun k => hR.f6 (lis_of k (by decide)),
            fun k => hR.f7 (lis_of k (by decide)),
            fun k => hR.f8 (lis_of k (by decide)),
            fun k => hR.f9 (lis_of k (by decide)),
            fun _ => ⟨g, z1, rfl, hgs, hl, fun _ => rfl⟩,
            fun k => by
              obtain ⟨g', v', e', hg', hl', hv'⟩ := hR.f11 (lis_of k (by decide))
              refine ⟨g', v', e', hg'.far (fun h => ?_) _, hl', fun k => hv' (lis_of k (by decide))⟩
              exact hR.fne d10 (lis_of k (by decide)) (by rw [e']; exact congrArg (fun x => Value.pointer (some ⟨x, 0, none⟩)) h.symm),
            fun k => (hR.f12 (lis_of k (by decide))).elim fun ss c => ⟨ss, c.st hg hBg _⟩,
            fun k => (hR.f13 (lis_of k (by decide))).elim fun ss c => ⟨ss, c.st hg hBg _⟩,
            fun _ => lis_set (by decide) d10,
            fun k => lis_set (by decide) (hR.g15 (lis_of k (by decide))),
            fun k k2 => hR.fne (lis_of k (by decide)) (lis_of k2 (by decide))⟩⟩
      | 15, ho, hu =>
        have ho' := ho
        simp only [List.getElem?_toArray, List.getElem?_cons_succ, List.getElem?_cons_zero, Option.some.injEq] at ho'
        subst ho'
        refine wpOp_hid ho rfl fun K hK => ?_
        have d11 : Lis listed 11 := hw ⟨11, .data⟩ (by simp) rfl
        have d9 : Lis listed 9 := hw ⟨9, .data⟩ (by simp) rfl
        obtain rfl := hR.f9 d9
        obtain ⟨g, v, e, hg, hl, -⟩ := hR.f11 d11
        subst e
        have e0 : W.cell? ⟨g, 0, none⟩ = some (.int .i64 v) := hg.cell 0
        have e1 := hg.frozen 0
        have hBg : w.heap.size ≤ g := Nat.le_trans HB2.out.size hl
        have hbs : Below w2.heap.size w2 (W.setCell ⟨g, 0, none⟩ (.int .i64 z2)) := hR.base.setCell (p := ⟨g, 0, none⟩) hl _
        have hgs : Blk (W.setCell ⟨g, 0, none⟩ (.int .i64 z2)) g 3 #[.int .i64 z2] := hg.set_ 0 _
        go_simp
        refine hK _ _ ⟨_, _, _, _, _, _, _, _, _, _, _, _, _, _, rfl,
            ⟨hbs,
            fun k => hR.f0 (lis_of k (by decide)),
            fun k => hR.f1 (lis_of k (by decide)),
            fun k => (hR.f2 (lis_of k (by decide))).elim fun ss c => ⟨ss, c.st hg hBg _⟩,
            fun k => hR.f3 (lis_of k (by decide)),
            fun k => hR.f4 (lis_of k (by decide)),
            fun k => (hR.f5 (lis_of k (by decide))).elim fun ss c => ⟨ss, c.st hg hBg _⟩,
            fun k => hR.f6 (lis_of k (by decide)),
            fun k => hR.f7 (lis_of k (by decide)),
            fun k => hR.f8 (lis_of k (by decide)),
            fun k => hR.f9 (lis_of k (by decide)),
            fun k => by
              obtain ⟨g', v', e', hg', hl', hv'⟩ := hR.f10 (lis_of k (by decide))
              refine ⟨g', v', e', hg'.far (fun h => ?_) _, hl', fun k => hv' (lis_of k (by decide))⟩
              exact hR.fne (lis_of k (by decide)) d11 (by rw [e']; exact congrArg (fun x => Value.pointer (some ⟨x, 0, none⟩)) h),
            fun _ => ⟨g, z2, rfl, hgs, hl, fun _ => rfl⟩,
            fun k => (hR.f12 (lis_of k (by decide))).elim fun ss c => ⟨ss, c.st hg hBg _⟩,
            fun k => (hR.f13 (lis_of k (by decide))).elim fun ss c => ⟨ss, c.st hg hBg _⟩,
            fun k => lis_set (by decide) (hR.g14 (lis_of k (by decide))),
            fun _ => lis_set (by decide) d11,
            fun k k2 => hR.fne (lis_of k (by decide)) (lis_of k2 (by decide))⟩⟩
      | i + 16, ho, hu =>
        simp at ho
  case rest =>
    obtain ⟨ssA, ssB, g5, g6, hcA, hcB, rfl, rfl, hg5, hg6, hb⟩ := hcut
    obtain ⟨w3, hw3⟩ : ∃ w3, w3 = wc := ⟨_, rfl⟩
    subst hw3
    obtain ⟨hrA, hlA, hfA⟩ := hcA.rd
    obtain ⟨hrB, hlB, hfB⟩ := hcB.rd
    obtain ⟨AA, cA, vsA, eA, -⟩ := id hrA
    obtain ⟨AB, cB, vsB, eB, -⟩ := id hrB
    subst eA eB
    obtain ⟨nA, hnA⟩ : ∃ n, n = ssA.length := ⟨_, rfl⟩
    obtain ⟨nB, hnB⟩ : ∃ n, n = ssB.length := ⟨_, rfl⟩
    rw [← hnA] at hrA ⊢
    rw [← hnB] at hrB ⊢
    obtain ⟨all, hall⟩ : ∃ all, all = [ssA, ssB].flatten := ⟨_, rfl⟩
    have hsmall : ∀ ss ∈ [ssA, ssB], Small ss := fun ss hss s hs => by
      simp only [List.mem_cons, List.not_mem_nil, or_false] at hss
      rcases hss with rfl | rfl
      · obtain ⟨a, b⟩ := hfA s hs; exact ⟨by omega, by omega⟩
      · obtain ⟨a, b⟩ := hfB s hs; exact ⟨by omega, by omega⟩
    have hfl : [ssA, ssB].flatten.length ≤ 24 := by simp; omega
    have htot : ([ssA, ssB].flatten.flatMap Prod.snd).length ≤ 1000 := by
      have : ∀ l : List Ser, (∀ s ∈ l, s.2.length ≤ 40) → (l.flatMap Prod.snd).length ≤ 40 * l.length := fun l => by
        induction l with
        | nil => intro _; simp
        | cons a l ih =>
          intro h
          have h1 := ih fun s hs => h s (List.mem_cons_of_mem _ hs)
          have h2 := h a List.mem_cons_self
          rw [List.flatMap_cons, List.length_append, List.length_cons]
          omega
      have := this [ssA, ssB].flatten (fun s hs => by
        obtain ⟨ss, h1, h2⟩ := List.mem_flatten.1 hs
        simp only [List.mem_cons, List.not_mem_nil, or_false] at h1
        rcases h1 with rfl | rfl
        · exact (hfA s h2).2
        · exact (hfB s h2).2)
      omega
    have lists : ∀ W : World, Below w3.heap.size w3 W → ListsRd (W.alloc (.cells #[.slice AA nA cA, .slice AB nB cB] 22)) (W.alloc (.cells #[.slice AA nA cA, .slice AB nB cB] 22)).heap.size (.slice (some ⟨W.heap.size, 0, none⟩) 2 2) [ssA, ssB] := fun W hW => by
      have hb1 := below_al hW (.cells #[.slice AA nA cA, .slice AB nB cB] 22)
      refine ⟨some ⟨W.heap.size, 0, none⟩, 2, [.slice AA nA cA, .slice AB nB cB], rfl, rfl, ⟨rfl, fun _ => ⟨_, rfl, by simp, cells_newL W 22 _ _ rfl⟩⟩, fun i u ss hu hs => ?_⟩
      match i with
      | 0 => simp at hu hs; subst hu hs; exact (hrA.below hb1 (Nat.le_refl _)).more hb1.size
      | 1 => simp at hu hs; subst hu hs; exact (hrB.below hb1 (Nat.le_refl _)).more hb1.size
      | i + 2 => simp at hu
    have HLS := Lib.hid lists
    have HSM := Lib.hid hsmall
    have HFL := Lib.hid hfl
    have HTOT := Lib.hid htot
    have HG5 := Lib.hid hg5
    have HG6 := Lib.hid hg6
    have HB3 := Lib.hid hb
    have HALL := Lib.hid hall
    clear hcA hcB hrA hrB hlA hlB hfA hfB hnA hnB hsmall hfl htot hg5 hg6 hb lists hall
    obtain ⟨wm, hwm⟩ : ∃ wm, wm = w3.alloc (.cells #[.slice AA nA cA, .slice AB nB cB] 22) := ⟨_, rfl⟩
    have HWM := Lib.hid hwm
    have HL1 := Lib.hid (show ListsRd wm wm.heap.size (.slice (some ⟨w3.heap.size, 0, none⟩) 2 2) [ssA, ssB] by rw [hwm]; exact HLS.out w3 (Below.refl _ _))
    have HBM := Lib.hid (show Below w3.heap.size w3 wm by rw [hwm]; exact below_al (Below.refl _ _) _)
    clear hwm
    go_wp2_with fail
    rw [← HWM.out]
    refine (rmerge_any wm _ [ssA, ssB] HL1.out HSM.out (by have := HFL.out; omega) (by simp) (by have := HTOT.out; omega)).mono ?_
    rintro e w4 ⟨vO, rfl, hout, hb4⟩
    obtain ⟨AO, cO, hvO⟩ : ∃ AO cO, vO = .slice AO (mergeP all).length cO := by
      obtain ⟨vs, -, h, -⟩ := hout
      rw [← HALL.out] at h
      exact own_slice h
    subst hvO
    have hB4 := HBM.out.trans (hb4.mono HBM.out.size)
    obtain ⟨w5, hw5⟩ : ∃ w5, w5 = w4.alloc (.cells #[.slice AO (mergeP all).length cO] 22) := ⟨_, rfl⟩
    obtain ⟨g7, hg7⟩ : ∃ g, g = w4.heap.size := ⟨_, rfl⟩
    have hB5 : Below w3.heap.size w3 w5 := by rw [hw5]; exact below_al hB4 _
    have h45 : Below w4.heap.size w4 w5 := by rw [hw5]; exact below_al (Below.refl _ _) _
    have hBl7 : Blk w5 g7 22 #[.slice AO (mergeP all).length cO] := by rw [hw5, hg7]; exact Blk.new w4 22 _
    have hOut5 := hout.below h45 hb4.size
    obtain ⟨w6, hw6⟩ : ∃ w6, w6 = w5.alloc (.cells #[.slice AA nA cA, .slice AB nB cB] 22) := ⟨_, rfl⟩
    have hB6 : Below w3.heap.size w3 w6 := by rw [hw6]; exact below_al hB5 _
    have h56 : Below w5.heap.size w5 w6 := by rw [hw6]; exact below_al (Below.refl _ _) _
    have hs5 : w5.heap.size = g7 + 1 := by rw [hw5, hg7]; simp
    have HL2 := Lib.hid (show ListsRd w6 w6.heap.size (.slice (some ⟨g7 + 1, 0, none⟩) 2 2) [ssA, ssB] by rw [hw6, ← hs5]; exact HLS.out w5 hB5)
    have HS5 := Lib.hid hs5
    have HB6 := Lib.hid hB6
    have H56 := Lib.hid h56
    have HBL7 := Lib.hid hBl7
    have HOUT5 := Lib.hid hOut5
    have HW5 := Lib.hid hw5
    have HW6 := Lib.hid hw6
    have HG7 := Lib.hid hg7
    have HBMS := Lib.hid (show wm.heap.size ≤ w5.heap.size from Nat.le_trans hb4.size h45.size)
    clear hs5 hout hb4 hB4 hw5 hg7 hB5 h45 hBl7 hOut5 hw6 hB6 h56
    go_wp2_with fail
    rw [← HW5.out, ← HG7.out]
    rw [← HW6.out]
    refine (merge_any w6 _ [ssA, ssB] HL2.out HSM.out (by have := HFL.out; omega) (by simp)).mono ?_
    rintro e w7 ⟨rfl, ⟨L, hAs, hAl, hBox⟩, hb7⟩
    rw [← HALL.out] at hAl
    obtain ⟨T, hT⟩ : ∃ T, T = w6.heap.size := ⟨_, rfl⟩
    rw [← hT] at hBox ⊢
    have hB7 := HB6.out.trans (hb7.mono HB6.out.size)
    obtain ⟨w8, hw8⟩ : ∃ w8, w8 = w7.alloc (.cells #[.func (.func 26) #[] #[.pointer (some ⟨T, 0, none⟩)]] 29) := ⟨_, rfl⟩
    obtain ⟨g8, hg8⟩ : ∃ g, g = w7.heap.size := ⟨_, rfl⟩
    have h78 : Below w7.heap.size w7 w8 := by rw [hw8]; exact below_al (Below.refl _ _) _
    have hBl8 : Blk w8 g8 29 #[.func (.func 26) #[] #[.pointer (some ⟨T, 0, none⟩)]] := by rw [hw8, hg8]; exact Blk.new w7 29 _
    obtain ⟨w9, hw9⟩ : ∃ w9, w9 = w8.alloc (.cells #[.int .i64 0] 3) := ⟨_, rfl⟩
    obtain ⟨g9, hg9⟩ : ∃ g, g = w8.heap.size := ⟨_, rfl⟩
    have h89 : Below w8.heap.size w8 w9 := by rw [hw9]; exact below_al (Below.refl _ _) _
    have hBl9 : Blk w9 g9 3 #[.int .i64 0] := by rw [hw9, hg9]; exact Blk.new w8 3 _
    have h79 := h78.trans (h89.mono h78.size)
    have h67 : Below w5.heap.size w5 w7 := H56.out.trans (hb7.mono H56.out.size)
    have h59 := h67.trans (h79.mono h67.size)
    have hB8 := hB7.trans (h78.mono hB7.size)
    have h58 := h67.trans (h78.mono h67.size)
    have hme : mergeP all = grp L := (merge_eq hAs hAl).symm
    have HLD := Lib.hid (show Held w8 wm.heap.size (w.heap.size + 1) g5 g6 g7 g8 T z1 z2 AO cO (mergeP all).length (grp L) L from ⟨(HR0.out.below HB3.out HR0.out.lt).below hB8 (Nat.lt_of_lt_of_le HR0.out.lt HB3.out.size), HG5.out.below hB8 HG5.out.lt, HG6.out.below hB8 HG6.out.lt, HBL7.out.below h58 HBL7.out.lt, hBl8, by rw [← hme]; have := HOUT5.out.below h58 HBMS.out; rwa [← HALL.out] at this, hBox.below h78, Nat.le_trans HBMS.out h58.size⟩)
    have HBW8 := Lib.hid (HB2.out.trans ((HB3.out.trans (hB8.mono HB3.out.size)).mono HB2.out.size))
    have HLL := Lib.hid (show L.length ≤ 24 by rw [← alike_len ltS_rank _ _ _ (Nat.le_refl _) hAl, HALL.out]; exact HFL.out)
    have HB9 := Lib.hid (hB7.trans (h79.mono hB7.size))
    have HBX9 := Lib.hid (hBox.below h79)
    have HOUT9 := Lib.hid (HOUT5.out.below h59 HBMS.out)
    have HBL79 := Lib.hid (HBL7.out.below h59 HBL7.out.lt)
    have HBL89 := Lib.hid (hBl8.below h89 hBl8.lt)
    have HBL99 := Lib.hid hBl9
    have HW8 := Lib.hid hw8
    have HW9 := Lib.hid hw9
    have HG8 := Lib.hid hg8
    have HG9 := Lib.hid hg9
    have HT := Lib.hid hT
    have HSRT := Lib.hid (show mergeP all = grp L from (merge_eq hAs hAl).symm)
    have HSML := Lib.hid (show Small L from fun s hs => by
      have := (Alike.symm hAl).mem ltS_rank hs
      rw [HALL.out] at this
      obtain ⟨ss, h1, h2⟩ := List.mem_flatten.1 this
      exact HSM.out ss h1 s h2)
    have hfn := fun W => func_nil W (.func 26) #[] #[.pointer (some ⟨T, 0, none⟩)]
    have k8 : w8.cell? ⟨g8, 0, none⟩ = some (.func (.func 26) #[] #[.pointer (some ⟨T, 0, none⟩)]) := hBl8.cell 0
    have k9 : w9.cell? ⟨g8, 0, none⟩ = some (.func (.func 26) #[] #[.pointer (some ⟨T, 0, none⟩)]) := (hBl8.below h89 hBl8.lt).cell 0
    clear hme hB8 h58 hT hB7 hw8 hg8 h78 hBl8 hw9 hg9 h89 hBl9 h79 h67 h59 hb7 hBox hAs hAl
    go_upto_region 4 with fail
    rw [← HW8.out, ← HG8.out]
    go_upto_region 7 with fail
    rw [← HW9.out, ← HG9.out]
    go_wp2_with fail
    clear hfn k8
    rename_i Kc hKc
    have HKC := Lib.hid hKc
    clear hKc
    have hs9 : w9.heap.size = g9 + 1 := by rw [HW9.out, HG9.out]; simp
    have hg98 : g9 = w8.heap.size := HG9.out
    have HSR := Lib.hid (show w.heap.size + 1 < g9 by rw [hg98]; exact HLD.out.ret.lt)
    have HI0 := Lib.hid (show LI w8 g9 0 w9 from ⟨by rw [HW9.out]; exact below_al (Below.refl _ _) _, HBL99.out⟩)
    have HSEQ := Lib.hid (fun n => iter_seq n w8 T L HLD.out.box HSML.out (Nat.le_trans (flat_le L HSML.out) (by have := HLL.out; omega)) (by have := HLL.out; omega))
    obtain ⟨N, hN⟩ : ∃ N, N = (mergeP all).length := ⟨_, rfl⟩
    rw [← hN] at HLD ⊢
    have hNg : N = (grp L).length := by rw [hN, HSRT.out]
    have hN24 : N ≤ 24 := by rw [hNg]; exact Nat.le_trans (grp_le L) HLL.out
    have HNG := Lib.hid hNg
    clear hN hNg HOUT9 HOUT5 HBL7 HBL79 HBL89 HBX9 HW5 HW6 HG7 HW8 HG8 HL1 HL2 HWM HBM HLS HS5 HB6 H56 HBMS HB9 HG5 HG6 k9
    have under : ∀ k A B, LI w8 g9 k A → Below w9.heap.size A B → LI w8 g9 k B := fun k A B h hb => h.under (by omega) (by omega) hb
    have HS9 := Lib.hid hs9
    have HUN := Lib.hid under
    clear under hs9 hg98
    refine (wpIn_wide (n := 9)).1 ?_
    refine with_act (fun a8 ha8 => ?_)
    have hend : ∀ (V : World) (n : Nat), LI w8 g9 n V → (n = N ∨ (n : Int) = z1 % 12) → V.heap[w9.heap.size]? = some (.deferred (some [])) → Kc { a8 with defers := { target := .collected w9.heap.size, args := #[] } :: a8.defers } V := by
      intro V n hI hn hdf
      refine HKC.out _ _ ?_
      rw [ha8]
      have hH := HLD.out.below hI.1
      have y9 : V.cell? ⟨g9, 0, none⟩ = some (.int .i64 (n : Int)) := hI.2.cell 0
      have y7 : V.cell? ⟨g7, 0, none⟩ = some (.slice AO N cO) := hH.b7.cell 0
      have y5 : V.cell? ⟨g5, 0, none⟩ = some (.int .i64 z1) := hH.b5.cell 0
      have HH := Lib.hid hH
      have HV := Lib.hid hI
      have HDF := Lib.hid hdf
      have HN := Lib.hid hn
      have HWT := Lib.hid (fun W => within11_any z1 12 W (by omega) (by omega) H1.out.1 H1.out.2)
      clear hH hI hdf hn ha8
      by_cases hq : n = N
      case' pos =>
        have q1 : ((n : Int) == (N : Int)) = true := by simp [hq]
        have q2 : decide ((n : Int) = (N : Int)) = true := decide_eq_true (by omega)
        have q3 : decide (n = N) = true := decide_eq_true hq
        have q4 : (n == N) = true := by simpa using hq
        go_wp2_with fail
      case' neg =>
        have q1 : ((n : Int) == (N : Int)) = false := by simp; omega
        have q2 : decide ((n : Int) = (N : Int)) = false := decide_eq_false (by omega)
        have q3 : decide (n = N) = false := decide_eq_false hq
        have q4 : (n == N) = false := by simpa using hq
        have q5 : (n : Int) = z1 % 12 := HN.out.elim (fun h => absurd h hq) id
        have HQ5 := Lib.hid q5
        have q6 : ((n : Int) == z1 % 12) = true := by simp [q5]
        have q7 : decide ((n : Int) = z1 % 12) = true := decide_eq_true q5
        clear q5
        go_wp2_with fail
      case' pos =>
        go_still_tail 11, (by kernel_rfl)
      case' neg =>
        go_still_tail 11, (by kernel_rfl)
        still_call (HWT.out V.drew)
        repeat still_step
        refine wpStill_nil ?_
      all_goals
        change wpList _ _ _ _ _ V.drew
        go_wp2_with fail
        refine (wakes_any V.drew).mono ?_
        rintro e V1 ⟨rfl, hb1⟩
        have hb1' : Below V.heap.size V V1 := ⟨hb1.os, hb1.tape, hb1.output, hb1.size, hb1.block⟩
        have hR2 := HH.out.ret.below hb1' HH.out.ret.lt
        have x4 : V1.cell? ⟨w.heap.size + 1, 0, none⟩ = some (.bool false) := hR2.cell 0
        have z4 := hR2.frozen 0
        have HB1 := Lib.hid hb1'
        have HR2 := Lib.hid hR2
        clear hb1 hb1' hR2 y9 y7 y5 q1 q2 q3 q4
        try clear q6 q7
        clear hq
        go_wp2
        obtain ⟨Wf, hWf⟩ : ∃ Wf, Wf = V1.setCell ⟨w.heap.size + 1, 0, none⟩ (.bool true) := ⟨_, rfl⟩
        have hrf : Blk Wf (w.heap.size + 1) 4 #[.bool true] := by rw [hWf]; exact HR2.out.set_ 0 _
        have hdl : w9.heap.size < V.heap.size := (Array.getElem?_eq_some_iff.1 HDF.out).1
        have hsr := HSR.out
        have hs9 := HS9.out
        have hdf : Wf.heap[w9.heap.size]? = some (.deferred (some [])) := by
          rw [hWf]
          exact (Below.heap_setCell _ _ _ _ (by show w9.heap.size ≠ w.heap.size + 1; omega)).trans ((HB1.out.block _ hdl).trans HDF.out)
        have hbV : Below w.heap.size w V1 := by
          have h1 := HBW8.out.trans (HV.out.1.mono HBW8.out.size)
          exact h1.trans (HB1.out.mono h1.size)
        have hbf : Below w.heap.size w Wf := by rw [hWf]; exact hbV.setCell (p := ⟨w.heap.size + 1, 0, none⟩) (by show w.heap.size ≤ w.heap.size + 1; omega) _
        rw [← hWf]
        have hg9 : Wf.grownBy (Wf.putObj w9.heap.size (.deferred none)) (some w9.heap.size) := grownBy_putObj' Wf _ _
        have hcell : (Wf.putObj w9.heap.size (.deferred none)).cell? ⟨w.heap.size + 1, 0, none⟩ = some (.bool true) := (World.cell?_of_block (hg9.block (w.heap.size + 1) hrf.lt (by simp; omega))).trans (hrf.cell 0)
        have hfin := hbf.grown hg9 (Nat.le_trans hbf.size (Nat.le_refl _)) (fun k hk => by cases hk; omega)
        refine ⟨by simp, .inl ⟨_, _, rfl, run_takeDeferred hdf, ?_⟩⟩
        refine ⟨.bool true, ?_, rfl, hfin⟩
        simp [results, go_sem, hcell]
    refine wpIn_rangeFunc_m (gf := 26) (lb := #[.pointer (some ⟨T, 0, none⟩)]) (Ph := PhM L) (N := (grp L).length) (w0 := w8) rfl (by omega) (by rw [ha8]; rfl) trivial (enters_of Try.func26 (by kernel_rfl) rfl) (HSEQ.out _) rfl
      (fun k V => LI w8 g9 k V) (fun c V => c = .exit 0 ∧ ∃ k : Nat, LI w8 g9 k V ∧ (k : Int) = z1 % 12)
      (fun k A h => h.1) (fun k A B h hb => HUN.out k A B h hb) (fun c A B h hb => ⟨h.1, h.2.elim fun k h => ⟨k, HUN.out k A B h.1 hb, h.2⟩⟩)
      (fun k x A B h hb => h.cells hb) HI0.out (AsM a8 34 10 L) (fun k x a' A B h hk => h.cells hk) ?assign ?body ?done ?stop
    case done =>
      intro V hI hdf
      exact hend V _ hI (.inl HNG.out.symm) hdf
    case stop =>
      rintro c V ⟨rfl, k, hI, hk⟩ hdf
      have := hend V _ hI (.inr hk) hdf
      gi_wp2
      exact this
    case assign =>
      rintro l k ⟨x1, x2⟩ V K' hI ⟨s, hs, hL1, hS1⟩ hK'
      obtain ⟨A3, c3, e1, -⟩ := id hL1
      obtain ⟨A4, c4, e2, -⟩ := id hS1
      dsimp only at e1 e2 hL1 hS1 hK'
      subst e1 e2
      rw [ha8] at hK' ⊢
      simp only [List.setIfInBounds_toArray, List.set_cons_succ, List.set_cons_zero] at hK' ⊢
      clear hend
      obtain ⟨b1, hb1⟩ : ∃ b1, b1 = V.heap.size := ⟨_, rfl⟩
      gi_wp2
      refine hK' _ _ ((Below.refl _ V).alloc (Nat.le_refl _) _) ⟨V.heap.size, s, rfl, hs, ?_, ?_, ?_⟩
      · exact (Blk.new V 34 _).cell 0
      · exact (Blk.new V 34 _).cell 1
      · exact SerRd.more ⟨hL1.below ((Below.refl _ V).alloc (Nat.le_refl _) _) (Nat.le_refl _), hS1.below ((Below.refl _ V).alloc (Nat.le_refl _) _) (Nat.le_refl _)⟩ (by simp)
    case body =>
      rintro l k ⟨x1, x2⟩ a' V hl ⟨rl, hrl⟩ hI ⟨b, s, rfl, hs, c0, c1, hL1, hS1⟩ hk
      rw [ha8]
      simp only [List.setIfInBounds_toArray, List.set_cons_succ, List.set_cons_zero]
      clear hend ha8
      obtain ⟨sm1, sm2⟩ := grp_small HSML.out HLL.out hs
      have hH := HLD.out.below hI.1
      obtain ⟨g, AL, cL, AS, cS, hAO, d0, d1, hL2, hS2⟩ := hH.out.at_ HNG.out hs hH.size
      obtain ⟨A3, c3, e1, -⟩ := id hL1
      obtain ⟨A4, c4, e2, -⟩ := id hS1
      dsimp only at e1 e2 c0 c1 hL1 hS1
      subst hAO e1 e2
      obtain ⟨nL, hnL⟩ : ∃ n, n = s.1.length := ⟨_, rfl⟩
      obtain ⟨nS, hnS⟩ : ∃ n, n = s.2.length := ⟨_, rfl⟩
      rw [← hnL] at c0 d0 hL1 hL2
      rw [← hnS] at c1 d1 hS1 hS2
      have y9 : V.cell? ⟨g9, 0, none⟩ = some (.int .i64 (k : Int)) := hI.2.cell 0
      have y7 : V.cell? ⟨g7, 0, none⟩ = some (.slice (some ⟨g, 0, none⟩) N cO) := hH.b7.cell 0
      have hkN : k < N := by rw [HNG.out]; exact hk
      have hge : decide ((N : Int) ≤ (k : Int)) = false := decide_eq_false (by omega)
      have hge2 : decide (N ≤ k) = false := decide_eq_false (by omega)
      have HKL := Lib.hid (fun q => klabels_any (V.drewN q) _ _ _ _ s.1 hL1 hL2 (by omega))
      have HKS := Lib.hid (fun q => ksamples_any (V.drewN q) _ _ _ _ s.2 hS1 hS2 (by omega))
      have HV := Lib.hid hI
      have HH := Lib.hid hH
      have HRL := Lib.hid hrl
      clear hI hH hrl hL1 hL2 hS1 hS2 hs hnL hnS sm1 sm2
      gi_wp2_with fail
      refine wpIn_region_quiet_r (by kernel_rfl) (by kernel_rfl) (by kernel_rfl) ?_
      repeat (gi_big_quiet_step ((first
        | (gi_at_call 9; exact callsIn_quiet (CallsIn.inRound l (callsIn_wide.2 (HKL.out _))))
        | (gi_at_call 10; exact callsIn_quiet (CallsIn.inRound l (callsIn_wide.2 (HKS.out _)))))))
      refine wpQuietIn_nil ?_
      intro _ hw'
      obtain ⟨nq1, hw''⟩ := hw'
      subst hw''
      clear c0 c1 d0 d1 y7 hge hge2
      have z9 : V.frozen? ⟨g9, 0, none⟩ = false := HV.out.2.frozen 0
      obtain ⟨V2, hV2⟩ : ∃ V2, V2 = (V.drewN nq1).setCell ⟨g9, 0, none⟩ (.int .i64 ((k : Int) + 1)) := ⟨_, rfl⟩
      have hI2 : LI w8 g9 (k + 1) V2 := by
        rw [hV2]
        refine ⟨(below_drewN HV.out.1 nq1).setCell (p := ⟨g9, 0, none⟩) (Nat.le_of_eq HG9.out.symm) _, ?_⟩
        have := (HV.out.2.drewN nq1).set_ 0 (.int .i64 ((k : Int) + 1))
        rw [show ((k + 1 : Nat) : Int) = (k : Int) + 1 by omega]
        exact this
      have hH2 := HLD.out.below hI2.1
      have hs2 : V.heap.size ≤ V2.heap.size := by rw [hV2]; simp [World.setCell]
      have HK2 := Lib.hid (show KeepsFrom w9.heap.size V V2 by rw [hV2]; exact (KeepsFrom.of_grownBy (only_of_below (below_drewN (Below.refl _ V) nq1) none) (fun j e => by cases e)).trans (keeps_set 0 _ (by have := HS9.out; omega)))
      have y9' : V2.cell? ⟨g9, 0, none⟩ = some (.int .i64 ((k : Int) + 1)) := by rw [hI2.2.cell 0]; simp
      have y5 : V2.cell? ⟨g5, 0, none⟩ = some (.int .i64 z1) := hH2.b5.cell 0
      have HRL2 := Lib.hid (show V2.heap[l]? = some (.loop rl) from HK2.out.same _ _ hl HRL.out rfl)
      have HI2 := Lib.hid hI2
      have HH2 := Lib.hid hH2
      have HV2 := Lib.hid hV2
      have HSV := Lib.hid hs2
      have HWT := Lib.hid (fun q => within11_any z1 12 (V2.drewN q) (by omega) (by omega) H1.out.1 H1.out.2)
      clear hI2 hH2 hV2 hs2
      gi_wp2_with fail
      rw [← HV2.out]
      clear y9 z9
      by_cases hbr : (k : Int) + 1 = z1 % 12
      case' pos =>
        have q1 : ((k : Int) + 1 == z1 % 12) = true := by simpa using hbr
        have q2 : decide ((k : Int) + 1 = z1 % 12) = true := decide_eq_true hbr
      case' neg =>
        have q1 : ((k : Int) + 1 == z1 % 12) = false := by simpa using hbr
        have q2 : decide ((k : Int) + 1 = z1 % 12) = false := decide_eq_false hbr
      all_goals
        refine wpIn_region_quiet_r (by kernel_rfl) (by kernel_rfl) (by kernel_rfl) ?_
        repeat (gi_big_quiet_step ((gi_at_call 11; exact CallsIn.quiet_of_same (CallsIn.inRound l (callsIn_wide.2 (HWT.out _))))))
        refine wpQuietIn_nil ?_
        intro _ hw'
        obtain ⟨nq2, hw''⟩ := hw'
        subst hw''
      case pos =>
        gi_wp2
        refine ⟨HK2.out.trans (keeps_below (below_drewN (Below.refl _ V2) nq2)), rfl, k + 1, ?_, by omega⟩
        exact ⟨below_drewN HI2.out.1 nq2, HI2.out.2.drewN nq2⟩
      case neg =>
        obtain ⟨V3, hV3⟩ : ∃ V3, V3 = V2.drewN nq2 := ⟨_, rfl⟩
        rw [← hV3]
        obtain ⟨V4, hV4⟩ : ∃ V4, V4 = V3.alloc (.cells #[.int .i64 0] 3) := ⟨_, rfl⟩
        obtain ⟨gc, hgc⟩ : ∃ gc, gc = V3.heap.size := ⟨_, rfl⟩
        have hb23 : Below V2.heap.size V2 V3 := by rw [hV3]; exact below_drewN (Below.refl _ V2) nq2
        have hb34 : Below V3.heap.size V3 V4 := by rw [hV4]; exact below_al (Below.refl _ _) _
        have hI3 : LI w8 g9 (k + 1) V3 := by rw [hV3]; exact ⟨below_drewN HI2.out.1 nq2, HI2.out.2.drewN nq2⟩
        have hH3 := HLD.out.below hI3.1
        have hcb : Blk V4 gc 3 #[.int .i64 0] := by rw [hV4, hgc]; exact Blk.new V3 3 _
        have y8 : (V3.alloc (.cells #[.int .i64 0] 3)).cell? ⟨g8, 0, none⟩ = some (.func (.func 26) #[] #[.pointer (some ⟨T, 0, none⟩)]) := (hH3.below (below_al (Below.refl _ _) _)).b8.cell 0
        have HB23 := Lib.hid hb23
        have HB34 := Lib.hid hb34
        have HI3 := Lib.hid hI3
        have HH3 := Lib.hid hH3
        have HCB := Lib.hid hcb
        have HV4 := Lib.hid hV4
        have HGC := Lib.hid hgc
        have HRL4 := Lib.hid (show V4.heap[l]? = some (.loop rl) from (hb34.block l (by have := (Array.getElem?_eq_some_iff.1 HRL2.out).1; have := hb23.size; omega)).trans ((hb23.block l (Array.getElem?_eq_some_iff.1 HRL2.out).1).trans HRL2.out))
        have HSEQ3 := Lib.hid (fun n => (iter_seq n V3 T L hH3.box HSML.out (Nat.le_trans (flat_le L HSML.out) (by have := HLL.out; omega)) (by have := HLL.out; omega)).inRound l)
        clear hV3 hV4 hgc hb23 hb34 hI3 hH3 hcb
        gi_wp2_with fail
        rw [← HV4.out, ← HGC.out]
        clear y8 y9' y5 q1 q2 hbr HKL HKS HWT HV HRL HV2
        have hend2 : ∀ (W : World) (j : Nat), LI V3 gc j W → KeepsFrom w9.heap.size V W ∧ LI w8 g9 (k + 1) W := fun W j hW => ⟨HK2.out.trans ((keeps_below HB23.out).trans (keeps_below hW.1)), HI3.out.1.trans (hW.1.mono HI3.out.1.size), HI3.out.2.below hW.1 HI3.out.2.lt⟩
        have HEND2 := Lib.hid hend2
        have hgc4 : gc < V4.heap.size := HCB.out.lt
        have HCB4 := Lib.hid hgc4
        have HUN2 := Lib.hid (show ∀ k A B, LI V3 gc k A → Below V4.heap.size A B → LI V3 gc k B from fun k A B h hb => h.under HB34.out.size hgc4 hb)
        have HI0' := Lib.hid (show LI V3 gc 0 V4 from ⟨HB34.out, HCB.out⟩)
        clear hend2 hgc4 HI0
        refine with_act (fun a9 ha9 => ?_)
        refine wpIn_rangeFunc_mN (l₀ := l) (r₀ := rl) (gf := 26) (lb := #[.pointer (some ⟨T, 0, none⟩)]) (Ph := PhM L) (N := (grp L).length) (w0 := V3) rfl HRL4.out (by omega) (by rw [ha9]; rfl) trivial (enters_of Try.func26 (by kernel_rfl) rfl) (HSEQ3.out _) rfl
          (fun j W => LI V3 gc j W) (fun c W => c = .exit 2 ∧ ∃ j : Nat, LI V3 gc j W)
          (fun j A h => h.1) (fun j A B h hb => HUN2.out j A B h hb) (fun c A B h hb => ⟨h.1, h.2.elim fun j h => ⟨j, HUN2.out j A B h hb⟩⟩)
          (fun j x A B h hb => h.cells hb) HI0'.out (AsM a9 68 12 L) (fun j x a' A B h hk => h.cells hk) ?assign2 ?body2 ?done2 ?stop2
        case done2 =>
          intro W hW
          exact HEND2.out W _ hW
        case stop2 =>
          rintro c W ⟨rfl, j, hW⟩
          have := HEND2.out W _ hW
          gi_wp2
          exact this
        case assign2 =>
          rintro l2 j ⟨x1, x2⟩ W K' hI ⟨s2, hs2, hL1, hS1⟩ hK'
          obtain ⟨A5, c5, e1, -⟩ := id hL1
          obtain ⟨A6, c6, e2, -⟩ := id hS1
          dsimp only at e1 e2 hL1 hS1 hK'
          subst e1 e2
          rw [ha9] at hK' ⊢
          simp only [List.setIfInBounds_toArray, List.set_cons_succ, List.set_cons_zero] at hK' ⊢
          gi_wp2
          refine hK' _ _ ((Below.refl _ W).alloc (Nat.le_refl _) _) ⟨W.heap.size, s2, rfl, hs2, ?_, ?_, ?_⟩
          · exact (Blk.new W 34 _).cell 0
          · exact (Blk.new W 34 _).cell 1
          · exact SerRd.more ⟨hL1.below ((Below.refl _ W).alloc (Nat.le_refl _) _) (Nat.le_refl _), hS1.below ((Below.refl _ W).alloc (Nat.le_refl _) _) (Nat.le_refl _)⟩ (by simp)
        case body2 =>
          rintro l2 j ⟨x1, x2⟩ a' W hl2 - hI ⟨b2, s2, rfl, hs2, c0, c1, hL1, hS1⟩ hj
          rw [ha9]
          simp only [List.setIfInBounds_toArray, List.set_cons_succ, List.set_cons_zero]
          clear ha9 c1
          obtain ⟨sm1, sm2⟩ := grp_small HSML.out HLL.out hs2
          have hH := HH3.out.below hI.1
          obtain ⟨g', AL2, cL2, AS2, cS2, hAO, d0, d1, hL2, hS2⟩ := hH.out.at_ HNG.out hs2 hH.size
          injection hAO with hAO
          injection hAO with hAO
          subst hAO
          obtain ⟨A5, c5, e1, -⟩ := id hL1
          obtain ⟨A6, c6, e2, -⟩ := id hS1
          dsimp only at e1 e2 c0 hL1 hS1
          subst e1 e2
          obtain ⟨n2, hn2⟩ : ∃ n, n = s2.1.length := ⟨_, rfl⟩
          rw [← hn2] at c0 d0 hL1 hL2
          have yc : W.cell? ⟨gc, 0, none⟩ = some (.int .i64 (j : Int)) := hI.2.cell 0
          have y7 : W.cell? ⟨g7, 0, none⟩ = some (.slice (some ⟨g, 0, none⟩) N cO) := hH.b7.cell 0
          have hjN : j < N := by rw [HNG.out]; exact hj
          have HKL2 := Lib.hid (fun q => klabels_any (W.drewN q) _ _ _ _ s2.1 hL1 hL2 (by omega))
          have HW := Lib.hid hI
          clear hI hH hL1 hL2 hS1 hS2 hs2 hn2 sm1 sm2 d1
          gi_wp2_with fail
          refine wpIn_region_quiet_r (by kernel_rfl) (by kernel_rfl) (by kernel_rfl) ?_
          repeat (gi_big_quiet_step ((gi_at_call 9; exact callsIn_quiet (CallsIn.inRound l2 (CallsIn.inRound l (callsIn_wide.2 (HKL2.out _)))))))
          refine wpQuietIn_nil ?_
          intro _ hw'
          obtain ⟨nq3, hw''⟩ := hw'
          subst hw''
          clear c0 d0 y7
          have zc : W.frozen? ⟨gc, 0, none⟩ = false := HW.out.2.frozen 0
          obtain ⟨W2, hW2⟩ : ∃ W2, W2 = (W.drewN nq3).setCell ⟨gc, 0, none⟩ (.int .i64 ((j : Int) + 1)) := ⟨_, rfl⟩
          have hI2 : LI V3 gc (j + 1) W2 := by
            rw [hW2]
            refine ⟨(below_drewN HW.out.1 nq3).setCell (p := ⟨gc, 0, none⟩) (Nat.le_of_eq HGC.out.symm) _, ?_⟩
            have := (HW.out.2.drewN nq3).set_ 0 (.int .i64 ((j : Int) + 1))
            rw [show ((j + 1 : Nat) : Int) = (j : Int) + 1 by omega]
            exact this
          have hH2 := HH3.out.below hI2.1
          have HKW := Lib.hid (show KeepsFrom V4.heap.size W W2 by rw [hW2]; exact (KeepsFrom.of_grownBy (only_of_below (below_drewN (Below.refl _ W) nq3) none) (fun j e => by cases e)).trans (keeps_set 0 _ HCB4.out))
          have yc' : W2.cell? ⟨gc, 0, none⟩ = some (.int .i64 ((j : Int) + 1)) := by rw [hI2.2.cell 0]; simp
          have y6 : W2.cell? ⟨g6, 0, none⟩ = some (.int .i64 z2) := hH2.b6.cell 0
          have HJ2 := Lib.hid hI2
          have HW2' := Lib.hid hW2
          have HWT := Lib.hid (fun q => within11_any z2 8 (W2.drewN q) (by omega) (by omega) H2.out.1 H2.out.2)
          clear hI2 hH2 hW2
          gi_wp2_with fail
          rw [← HW2'.out]
          clear yc zc
          have hpost : ∀ q, KeepsFrom V4.heap.size W (W2.drewN q) ∧ LI V3 gc (j + 1) (W2.drewN q) := fun q => ⟨HKW.out.trans (keeps_below (below_drewN (Below.refl _ W2) q)), below_drewN HJ2.out.1 q, HJ2.out.2.drewN q⟩
          have HPOST := Lib.hid hpost
          clear hpost
          by_cases hbr : z2 % 8 < (j : Int) + 1
          case' pos =>
            have q1 : decide ((j : Int) + 1 > z2 % 8) = true := decide_eq_true hbr
            have q2 : decide (z2 % 8 < (j : Int) + 1) = true := decide_eq_true hbr
          case' neg =>
            have q1 : decide ((j : Int) + 1 > z2 % 8) = false := decide_eq_false hbr
            have q2 : decide (z2 % 8 < (j : Int) + 1) = false := decide_eq_false hbr
          all_goals
            refine wpIn_region_quiet_r (by kernel_rfl) (by kernel_rfl) (by kernel_rfl) ?_
            repeat (gi_big_quiet_step ((gi_at_call 11; exact CallsIn.quiet_of_same (CallsIn.inRound l2 (CallsIn.inRound l (callsIn_wide.2 (HWT.out _)))))))
            refine wpQuietIn_nil ?_
            intro _ hw'
            obtain ⟨nq4, hw''⟩ := hw'
            subst hw''
            gi_wp2
            obtain ⟨f1, f2⟩ := HPOST.out nq4
            first
              | exact ⟨f1, f2⟩
              | exact ⟨f1, rfl, j + 1, f2⟩
end Go.Proofs.Ytnglejopbpnknaa
