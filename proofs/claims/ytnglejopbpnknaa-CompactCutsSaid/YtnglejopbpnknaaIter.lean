/- The walk of the iterator that Merge hands back, at wakes' two lists: one series, once. -/
import Derived.RangeFuncNested
import Derived.Scope
import Derived.WalkMore
import Derived.RangeFuncBound
import Derived.RangeFuncCalls
import Derived.RangeFuncLeaves
import Derived.Shelf.RegionOpen
import Derived.WalkKit
import Derived.OwnWalkIn
import Derived.TacticsInMore
import Derived.LoopNIn
import Derived.LoopIn
import Derived.Sort.QuietIn
import Derived.Sort.CutIn
import Derived.Deep.CutBlock
import Derived.Test.YtnglejopbpnknaaCls
namespace Go.Proofs.Ytnglejopbpnknaa
open Go.RowKit Go.Shelf
attribute [local go_sem] run_store_float

theorem wpIn_last {F : Fence} {rm : Nat} {P : Program} {s : Code} {Q : Exit → Act → World → Prop} {a : Act} {w : World}
    (h : ∀ K : Act → World → Prop, (∀ a w, Q .normal a w → K a w) → s.wpIn F rm P (Exit.then K Q) a w) : s.wpIn F rm P Q a w :=
  wpIn_mono (h (Q .normal) (fun _ _ h => h)) (by intro e a w h; cases e <;> exact h)

/-- two samples, as wakes looks for them -/
structure Smp2 (w : World) (g : Nat) : Prop where
  a0 : w.cell? ⟨g, 0, none⟩ = some (.int .i64 1)
  a1 : w.cell? ⟨g, 1, none⟩ = some (.float .f64 4607182418800017408)
  a2 : w.cell? ⟨g, 2, none⟩ = some (.int .i64 2)
  a3 : w.cell? ⟨g, 3, none⟩ = some (.float .f64 4611686018427387904)
  lt : g < w.heap.size
def smpM : List Value := [.int .i64 1, .float .f64 4607182418800017408, .int .i64 2, .float .f64 4611686018427387904]
theorem Smp2.reads {w : World} {g : Nat} (h : Smp2 w g) : Reads w w.heap.size 2 (some ⟨g, 0, none⟩) 2 smpM :=
  reads_of rfl h.lt (fun j u hu => by
    match j with
    | 0 => cases hu; exact h.a0
    | 1 => cases hu; exact h.a1
    | 2 => cases hu; exact h.a2
    | 3 => cases hu; exact h.a3
    | j + 4 => cases hu)

/-- what is handed to yield: a series of one label and two samples, whose blocks are new -/
structure Out (W W1 : World) (gl cl gs cs : Nat) : Prop where
  below : Below W.heap.size W W1
  lab : LblAt W1 gl xA yA
  smp : Smp2 W1 gs
  ll : W.heap.size ≤ gl
  ls : W.heap.size ≤ gs

/-- behind the inner loop -/
structure Mid2 (W wx : World) (one gl cl gs cs : Nat) : Prop where
  below : Below W.heap.size W wx
  blk : Blk wx one 34 #[.slice (some ⟨gl, 0, none⟩) 1 cl, .slice (some ⟨gs, 0, none⟩) 3 cs]
  one_ : W.heap.size ≤ one
  lab : wx.ownsRow (W.heap.size + 2) 61 2 (.slice (some ⟨gl, 0, none⟩) 1 cl) 1 lblV
  smp : wx.ownsRow (W.heap.size + 2) 51 2 (.slice (some ⟨gs, 0, none⟩) 3 cs) 3 (smp1 ++ smp2)

theorem Mid2.three {W wx : World} {one gl cl gs cs : Nat} (h : Mid2 W wx one gl cl gs cs) : ThreeT wx gs 1 1 2 4607182418800017408 4621256167635550208 4611686018427387904 :=
  ⟨by rw [h.smp.cellAt 0 (by omega)]; rfl, by rw [h.smp.cellAt 1 (by omega)]; rfl, by rw [h.smp.cellAt 2 (by omega)]; rfl, by rw [h.smp.cellAt 3 (by omega)]; rfl, by rw [h.smp.cellAt 4 (by omega)]; rfl, by rw [h.smp.cellAt 5 (by omega)]; rfl, (h.smp.lt gs rfl).2⟩

theorem Mid2.drewN {W wx : World} {one gl cl gs cs : Nat} (h : Mid2 W wx one gl cl gs cs) (k : Nat) : Mid2 W (wx.drewN k) one gl cl gs cs :=
  ⟨below_drewN h.below k, h.blk.drewN k, h.one_, h.lab, h.smp⟩
theorem Mid2.below_ {W wx wy : World} {one gl cl gs cs : Nat} (h : Mid2 W wx one gl cl gs cs) (hb : Below wx.heap.size wx wy) : Mid2 W wy one gl cl gs cs :=
  ⟨h.below.trans (hb.mono h.below.size), h.blk.below hb h.blk.lt, h.one_, h.lab.kept (only_of_below hb none) (by simp [Value.ownBlock]), h.smp.kept (only_of_below hb none) (by simp [Value.ownBlock])⟩
theorem own_frozen {w : World} {b g : Nat} {t : TypeId} {z n c : Nat} {xs : List Value} (h : w.ownsRow b t z (.slice (some ⟨g, 0, none⟩) n c) n xs) (i : Nat) : w.frozen? ⟨g, i, none⟩ = false := by
  rcases h.2 with ⟨h1, _⟩ | ⟨g', cap, cur, h1, _, hh, _⟩
  · cases h1
  · cases h1
    exact Blk.frozen hh i
theorem own_cap {w : World} {b g : Nat} {t : TypeId} {z n c : Nat} {xs : List Value} (h : w.ownsRow b t z (.slice (some ⟨g, 0, none⟩) n c) n xs) : n ≤ c := by
  rcases h.2 with ⟨h1, _⟩ | ⟨g', cap, cur, h1, _, _, hc, _⟩
  · cases h1
  · cases h1
    exact hc

set_option maxRecDepth 100000 in
set_option maxHeartbeats 3200000 in
theorem iter_one (n l T gB cB gL cL gS cS gL2 cL2 gS2 cS2 : Nat) (W : World) (h : MergedAt W T gB cB gL cL gS cS gL2 cL2 gS2 cS2) (J Jx : World → Prop)
    (hY : ∀ gl cl gs cs W1, Out W W1 gl cl gs cs → YieldAt Fence.wide (n - 1) Try.prog l #[.agg #[.slice (some ⟨gl, 0, none⟩) 1 cl, .slice (some ⟨gs, 0, none⟩) 2 cs]] W1 fun e W' =>
      (e = .returned (.bool true) ∧ J W' ∧ W'.heap[T]? = W1.heap[T]?) ∨ (e = .returned (.bool false) ∧ Jx W')) :
    CallsIn Fence.wide n Try.prog 26 #[.func (.yield l) #[] #[], .pointer (some ⟨T, 0, none⟩)] W fun e W' => (∃ u, e = .returned u) ∧ (J W' ∨ Jx W') := by
  obtain ⟨j0, hj, hy0, hy1, hy2⟩ := info_parts info51
  have x0 : W.cell? ⟨T, 0, none⟩ = some (.slice (some ⟨gB, 0, none⟩) 2 cB) := h.box.cell 0
  have ht := h.two
  have y0 := ht.a0
  have y1 := ht.a1
  have y2 := ht.a2
  have y3 := ht.a3
  have hl0 := ht.b0.2.2
  have H := Lib.hid h
  have HT := Lib.hid ht
  have HY := Lib.hid hY
  have HJ := Lib.hid hj
  have HZ0 := Lib.hid hy0
  have HZ1 := Lib.hid hy1
  have HZ2 := Lib.hid hy2
  clear h ht hY hj hy0 hy1 hy2
  refine callsIn_of_wp Try.func26 rfl trivial ?_ rfl
  simp only [Try.ntmps26, List.size_toArray, List.length_cons, List.length_nil, Nat.reduceAdd, Nat.reduceSub, Array.replicate_succ, Array.replicate_zero, List.push_toArray, List.append_toArray, List.nil_append, List.cons_append]
  refine wpIn_wide.2 (wp_scope_straight ?_)
  go_wp2_with fail
  go_step3
  go_wp2_with fail
  refine wp_loop_rounds 3 ?_
  rw [rounds_succ]
  go_wp2_with fail
  refine (copied_any (some ⟨gL, 0, none⟩) (some ⟨gS, 0, none⟩) 1 cL 1 cS lblV smp1 W ?_ ?_ lblV_one smp1_one (by omega) (by omega)).mono ?_
  case refine_1 => exact HT.out.b0.reads
  case refine_2 =>
    obtain ⟨b, _, os1⟩ := H.out.s0
    exact Reads.of_own os1
  rintro e w2 ⟨vL, vS, rfl, hoL, hoS, hb2⟩
  obtain ⟨gl, cl, hvL⟩ := own_succ hoL (by omega)
  subst hvL
  obtain ⟨gs, cs, hvS⟩ := own_succ hoS (by omega)
  subst hvS
  have HOL := Lib.hid hoL
  have HOS := Lib.hid hoS
  have HB2 := Lib.hid hb2
  clear hoL hoS hb2
  go_upto_block 2 with fail
  obtain ⟨w3, hw3⟩ : ∃ w3, w2.alloc (.cells #[.slice (some ⟨gl, 0, none⟩) 1 cl, .slice (some ⟨gs, 0, none⟩) 1 cs] 34) = w3 := ⟨_, rfl⟩
  have hs3 : w3.heap.size = w2.heap.size + 1 := by rw [← hw3]; simp
  have hb3 : Below w2.heap.size w2 w3 := by rw [← hw3]; exact (Below.refl _ w2).alloc (Nat.le_refl _) _
  have hbw : Below W.heap.size W w3 := HB2.out.trans (hb3.mono HB2.out.size)
  have bO : Blk w3 w2.heap.size 34 #[.slice (some ⟨gl, 0, none⟩) 1 cl, .slice (some ⟨gs, 0, none⟩) 1 cs] := by rw [← hw3]; exact Blk.new w2 34 _
  have oL3 : w3.ownsRow (W.heap.size + 2) 61 2 (.slice (some ⟨gl, 0, none⟩) 1 cl) 1 lblV := by rw [← hw3]; exact HOL.out.alloc _
  have oS3 : w3.ownsRow (W.heap.size + 2) 51 2 (.slice (some ⟨gs, 0, none⟩) 1 cs) 1 smp1 := by rw [← hw3]; exact HOS.out.alloc _
  have M3 := H.out.below hbw
  rw [hw3]
  have hWs := HB2.out.size
  have HBW := Lib.hid hbw
  have HO := Lib.hid bO
  have HOL3 := Lib.hid oL3
  have HOS3 := Lib.hid oS3
  have HM3 := Lib.hid M3
  have HT3 := Lib.hid M3.two
  clear hw3 hb3 hbw bO oL3 oS3 M3 x0 y0 y1 y2 y3 HOL HOS HB2
  go_cut [3] from 16 to 41 (fun s3 wx => s3 = .int .i64 2 ∧ ∃ gs cs, Mid2 W wx w2.heap.size gl cl gs cs)
  case first =>
    go_wp2_with fail
    refine wp_loop_rounds 2 ?_
    rw [rounds_succ]
    go_wp2_with fail
    have k0 : ∀ s : Cls w3, s.val.cell? ⟨T, 0, none⟩ = some (.slice (some ⟨gB, 0, none⟩) 2 cB) := fun s => (HM3.out.box.below s.2 HM3.out.box.lt).cell 0
    have k1 : ∀ s : Cls w3, s.val.cell? ⟨gB, 2, none⟩ = some (.slice (some ⟨gL2, 0, none⟩) 1 cL2) := fun s => (s.2.cell (p := ⟨gB, 2, none⟩) HT3.out.lt).trans HT3.out.a2
    have k2 : ∀ s : Cls w3, s.val.cell? ⟨w2.heap.size, 0, none⟩ = some (.slice (some ⟨gl, 0, none⟩) 1 cl) := fun s => (HO.out.below s.2 HO.out.lt).cell 0
    have HC := Lib.hid (fun s : Cls w3 => lcompare_one gL2 gl cL2 cl xA yA s.val (HT3.out.b1.below s.2 HT3.out.b1.2.2) ((lbl_of_own HOL3.out).below s.2 (lbl_of_own HOL3.out).2.2))
    refine wp_region_cls (by kernel_rfl) (by kernel_rfl) ?_
    repeat (go_big_quiet_step ((go_at_call 25; exact Cls.call (HC.out _))))
    refine wpQuiet_nil ?_
    rintro _ ⟨s, rfl⟩
    go_wp2_with fail
    obtain ⟨w4, hb4⟩ := s
    dsimp only
    have M4 := HM3.out.below hb4
    have bO4 := HO.out.below hb4 HO.out.lt
    have T4 := HT3.out.below hb4
    have oL4 := HOL3.out.kept (only_of_below hb4 none) (by simp [Value.ownBlock])
    have oS4 := HOS3.out.kept (only_of_below hb4 none) (by simp [Value.ownBlock])
    have c0 : w4.cell? ⟨T, 0, none⟩ = some (.slice (some ⟨gB, 0, none⟩) 2 cB) := M4.box.cell 0
    have c1 : w4.cell? ⟨gB, 3, none⟩ = some (.slice (some ⟨gS2, 0, none⟩) 2 cS2) := T4.a3
    have c2 : w4.cell? ⟨w2.heap.size, 1, none⟩ = some (.slice (some ⟨gs, 0, none⟩) 1 cs) := bO4.cell 1
    have f2 := bO4.frozen 1
    have hR : Reads w4 w4.heap.size 2 (some ⟨gS2, 0, none⟩) 2 smp2 := by
      obtain ⟨b, _, os1⟩ := M4.s1
      exact Reads.of_own os1
    have HB4 := Lib.hid (HBW.out.trans (hb4.mono HBW.out.size))
    have HR := Lib.hid hR
    have HO4 := Lib.hid bO4
    have HOL4 := Lib.hid oL4
    have HOS4 := Lib.hid oS4
    have hlS := (HOS4.out.lt gs rfl)
    have hl4 := hb4.size
    clear M4 bO4 T4 oL4 oS4 hR hb4 HC k0 k1 k2
    refine wp_last fun K hK => ?_
    go_cut [] from 33 to 40 (fun wx => ∃ gs cs, Mid2 W wx w2.heap.size gl cl gs cs)
    case first =>
      go_region_law (first
        | (refine step_append_any w4.drew (by rfl) (.tmp 34) (.tmp 39) 32 (by rfl) (W.heap.size + 2) 51 j0 (.agg #[.int .i64 0, .float .f64 0]) 2 16 Try.underlying32 HJ.out HZ0.out HZ1.out HZ2.out rfl (by omega) (.slice (some ⟨gs, 0, none⟩) 1 cs) 1 smp1 (by rfl) (show World.ownsRow w4.drew _ _ _ _ _ _ from HOS4.out) w4.heap.size (some ⟨gS2, 0, none⟩) 2 cS2 smp2 (by rfl) HR.out.drew smp2_one (by simp [maxLen]) (by omega) (by show W.heap.size + 2 ≤ w4.heap.size; omega) ?_; intro vA x1 hownA hgrowA _; obtain ⟨gs2, cs2, hvA⟩ := own_succ hownA (by omega); subst hvA; have bTx := HO4.out.drew.grown hgrowA (own_blk_ne HOS4.out HO4.out (by decide)).symm; have e0 : x1.cell? ⟨w2.heap.size, 1, none⟩ = some (.slice (some ⟨gs, 0, none⟩) 1 cs) := bTx.cell 1; have z0 := bTx.frozen 1; have HOA := Lib.hid hownA; have HGA := Lib.hid hgrowA; have BTX := Lib.hid bTx; clear hownA hgrowA bTx))
      all_goals
        have hx1 := HGA.out.size
        have hx1' : w4.heap.size ≤ x1.heap.size := hx1
        go_wp2_with fail
        go_meet
        have oL5 := (show World.ownsRow w4.drew (W.heap.size + 2) 61 2 (.slice (some ⟨gl, 0, none⟩) 1 cl) 1 lblV from HOL4.out).kept HGA.out (own_own_ne HOL4.out HOS4.out (by decide))
        refine ⟨gs2, cs2, ?_, BTX.out.set_ 1 _, hWs, ownsRow_setCell_other oL5 (own_blk_ne oL5 BTX.out (by decide)) _, ownsRow_setCell_other HOA.out (own_blk_ne HOA.out BTX.out (by decide)) _⟩
        exact (HB4.out.drew.grown HGA.out HB4.out.size (fun k hk => by cases hk; have := hlS.1; show W.heap.size ≤ gs; omega)).setCell (p := ⟨w2.heap.size, 1, none⟩) hWs _
    obtain ⟨gs2, cs2, hcut⟩ := hcut
    have bO5 := hcut.blk
    have k0 : wc.cell? ⟨T, 0, none⟩ = some (.slice (some ⟨gB, 0, none⟩) 2 cB) := (H.out.box.below hcut.below H.out.box.lt).cell 0
    have HM5 := Lib.hid hcut
    clear hcut bO5 c0 c1 c2 f2 HR HO4 HOL4 HOS4
    refine hK _ _ ?_
    go_wp2_with fail
    rw [rounds_succ]
    go_wp2_with fail
    go_quiet (fail)
    go_wp2_with fail
    go_meet
    exact ⟨rfl, gs2, cs2, HM5.out.drewN _⟩
  obtain ⟨rfl, gs2, cs2, hcut⟩ := hcut
  have c1 : wc.cell? ⟨w2.heap.size, 1, none⟩ = some (.slice (some ⟨gs2, 0, none⟩) 3 cs2) := hcut.blk.cell 1
  have HM := Lib.hid hcut
  have HTH := Lib.hid hcut.three
  clear hcut HOL3 HOS3 HO HT3 HM3 HBW
  go_wp2_with fail
  refine (sort_three gs2 cs2 1 1 2 _ _ _ wc HTH.out (by decide) (by decide)).mono ?_
  rintro e w6 ⟨rfl, hb6⟩
  have HM6 := Lib.hid (HM.out.below_ hb6)
  have HTH6 := Lib.hid (HTH.out.below hb6)
  have c2 : w6.cell? ⟨w2.heap.size, 1, none⟩ = some (.slice (some ⟨gs2, 0, none⟩) 3 cs2) := HM6.out.blk.cell 1
  clear c1 HM HTH hb6
  go_wp2_with fail
  refine (uniq_three gs2 cs2 1 2 _ _ _ w6 HTH6.out (own_frozen HM6.out.smp) (by decide) (own_cap HM6.out.smp)).mono ?_
  rintro e w7 ⟨rfl, ⟨d0, d1, d2, d3⟩, hg7⟩
  have bO7 := HM6.out.blk.grown hg7 (fun e => by have := own_blk_ne HM6.out.smp HM6.out.blk (by decide); simp [Value.ownBlock] at this e; omega)
  have hcell : w7.cell? ⟨w2.heap.size, 1, none⟩ = some (.slice (some ⟨gs2, 0, none⟩) 3 cs2) := bO7.cell 1
  have hfr := bO7.frozen 1
  have hne : gs2 ≠ w2.heap.size := fun e => own_blk_ne HM6.out.smp HM6.out.blk (by decide) (by rw [← e]; rfl)
  have hls := HM6.out.smp.lt gs2 rfl
  have hll := HM6.out.lab.lt gl rfl
  have hb7 : Below W.heap.size W w7 := HM6.out.below.grown hg7 HM6.out.below.size (fun k hk => by cases hk; omega)
  have hO : Out W (w7.setCell ⟨w2.heap.size, 1, none⟩ (.slice (some ⟨gs2, 0, none⟩) 2 cs2)) gl cl gs2 cs2 := by
    have hls7 := Nat.lt_of_lt_of_le hls.2 hg7.size
    have hgl : gl ≠ gs2 := fun e => by
      have := own_own_ne HM6.out.lab HM6.out.smp (by decide)
      subst e
      simp [Value.ownBlock] at this
    have hlab := (lbl_of_own HM6.out.lab)
    have hbl := (hg7.block gl hll.2 (by simpa using hgl))
    have hlo : gl ≠ w2.heap.size := fun e => own_blk_ne HM6.out.lab HM6.out.blk (by decide) (by rw [← e]; rfl)
    refine ⟨hb7.setCell (p := ⟨w2.heap.size, 1, none⟩) hWs _, ?_, ?_, by omega, by omega⟩
    · have hf := fun i => (World.cell?_of_block (a := ⟨gl, i, none⟩) (Below.heap_setCell w7 ⟨w2.heap.size, 1, none⟩ (.slice (some ⟨gs2, 0, none⟩) 2 cs2) gl hlo)).trans (World.cell?_of_block (a := ⟨gl, i, none⟩) hbl)
      exact ⟨(hf 0).trans hlab.1, (hf 1).trans hlab.2.1, by have := hg7.size; simp [World.setCell]; omega⟩
    · have hf := fun i => (World.cell?_of_block (a := ⟨gs2, i, none⟩) (Below.heap_setCell w7 ⟨w2.heap.size, 1, none⟩ (.slice (some ⟨gs2, 0, none⟩) 2 cs2) gs2 hne))
      exact ⟨(hf 0).trans d0, (hf 1).trans d1, (hf 2).trans d2, (hf 3).trans d3, by simp [World.setCell]; omega⟩
  obtain ⟨w8, hw8⟩ : ∃ w8, w7.setCell ⟨w2.heap.size, 1, none⟩ (.slice (some ⟨gs2, 0, none⟩) 2 cs2) = w8 := ⟨_, rfl⟩
  have bO8 : Blk w8 w2.heap.size 34 #[.slice (some ⟨gl, 0, none⟩) 1 cl, .slice (some ⟨gs2, 0, none⟩) 2 cs2] := by rw [← hw8]; exact bO7.set_ 1 _
  rw [hw8] at hO
  obtain ⟨fn, tmps, assign, body, hy, hRd⟩ := HY.out gl cl gs2 cs2 w8 hO
  have e0 : w8.cell? ⟨w2.heap.size, 0, none⟩ = some (.slice (some ⟨gl, 0, none⟩) 1 cl) := bO8.cell 0
  have e1 : w8.cell? ⟨w2.heap.size, 1, none⟩ = some (.slice (some ⟨gs2, 0, none⟩) 2 cs2) := bO8.cell 1
  have k0 : w8.cell? ⟨T, 0, none⟩ = some (.slice (some ⟨gB, 0, none⟩) 2 cB) := (H.out.box.below hO.below H.out.box.lt).cell 0
  have HRd := Lib.hid hRd
  clear bO7 hne hls hll hb7 hO bO8 hRd c2 HM6 HTH6 d0 d1 d2 d3 hg7
  go_upto_region 9 with (fail)
  clear hw8 hcell hfr
  refine (wpIn_wide (n := n)).1 ?_
  gi_wp2
  refine ⟨(fun h => by cases h), HRd.out.mono ?_⟩
  rintro e W3 (⟨rfl, hJ3, hk3⟩ | ⟨rfl, hJx3⟩)
  · have k3 : W3.cell? ⟨T, 0, none⟩ = some (.slice (some ⟨gB, 0, none⟩) 2 cB) := (World.cell?_of_block (a := ⟨T, 0, none⟩) hk3).trans k0
    have HJ3 := Lib.hid hJ3
    clear hJ3 hk3 k0 e0 e1 hy HRd
    gi_wp2
    go_wp2_with fail
    rw [rounds_succ]
    go_wp2_with fail
    rw [Exit.noGoto_normal]
    refine bodyPost_end (results_none rfl _ _ _) rfl ?_
    exact ⟨⟨_, rfl⟩, .inl HJ3.out⟩
  · clear hy HRd
    gi_wp2
    go_wp2_with fail
    rw [Exit.noGoto_normal]
    refine bodyPost_end (results_none rfl _ _ _) rfl ?_
    exact ⟨⟨_, rfl⟩, .inr hJx3⟩
end Go.Proofs.Ytnglejopbpnknaa
