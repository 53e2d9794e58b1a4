/- The walk of compact.Merge at the two lists that the law's wakes lays. -/
import Derived.Test.YtnglejopbpnknaaStep
import Derived.Deep.RegionLaw
import Derived.Shelf.Abstract
namespace Go.Proofs.Ytnglejopbpnknaa
open Go.RowKit Go.Shelf
attribute [local go_sem] run_store_float

theorem own_own_ne {w : World} {b1 b2 : Nat} {e1 e2 : TypeId} {z1 z2 n1 n2 : Nat} {v1 v2 : Value} {x1 x2 : List Value} (h1 : w.ownsRow b1 e1 z1 v1 n1 x1) (h2 : w.ownsRow b2 e2 z2 v2 n2 x2) (hne : e1 ≠ e2) :
    v1.ownBlock = none ∨ v1.ownBlock ≠ v2.ownBlock := by
  rcases h1.2 with ⟨rfl, _⟩ | ⟨g, cap, cur, rfl, _, hh, _⟩
  · exact .inl rfl
  · right
    intro e
    rcases h2.2 with ⟨rfl, _⟩ | ⟨g', cap', cur', rfl, _, hh', _⟩
    · simp [Value.ownBlock] at e
    · have : g = g' := by simpa [Value.ownBlock] using e
      subst this
      rw [hh] at hh'
      injection hh' with hh'
      injection hh' with _ ht
      exact hne ht

def xA : ByteArray := { data := #[97] }
def yA : ByteArray := { data := #[49] }

/-- what wakes hands to Merge -/
structure In2 (w : World) (gm ga gb la sa lb sb : Nat) : Prop where
  m0 : w.cell? ⟨gm, 0, none⟩ = some (.slice (some ⟨ga, 0, none⟩) 1 1)
  m1 : w.cell? ⟨gm, 1, none⟩ = some (.slice (some ⟨gb, 0, none⟩) 1 1)
  a0 : w.cell? ⟨ga, 0, none⟩ = some (.slice (some ⟨la, 0, none⟩) 1 1)
  a1 : w.cell? ⟨ga, 1, none⟩ = some (.slice (some ⟨sa, 0, none⟩) 1 1)
  b0 : w.cell? ⟨gb, 0, none⟩ = some (.slice (some ⟨lb, 0, none⟩) 1 1)
  b1 : w.cell? ⟨gb, 1, none⟩ = some (.slice (some ⟨sb, 0, none⟩) 2 2)
  l0 : LblAt w la xA yA
  l1 : LblAt w lb xA yA
  s0 : w.cell? ⟨sa, 0, none⟩ = some (.int .i64 1)
  s1 : w.cell? ⟨sa, 1, none⟩ = some (.float .f64 4607182418800017408)
  r0 : w.cell? ⟨sb, 0, none⟩ = some (.int .i64 1)
  r1 : w.cell? ⟨sb, 1, none⟩ = some (.float .f64 4621256167635550208)
  r2 : w.cell? ⟨sb, 2, none⟩ = some (.int .i64 2)
  r3 : w.cell? ⟨sb, 3, none⟩ = some (.float .f64 4611686018427387904)
  lt : gm < w.heap.size ∧ ga < w.heap.size ∧ gb < w.heap.size ∧ sa < w.heap.size ∧ sb < w.heap.size

theorem In2.below {w w' : World} {gm ga gb la sa lb sb : Nat} (h : In2 w gm ga gb la sa lb sb) (hb : Below w.heap.size w w') : In2 w' gm ga gb la sa lb sb := by
  obtain ⟨q1, q2, q3, q4, q5⟩ := h.lt
  have hs := hb.size
  exact ⟨(hb.cell (p := ⟨gm, 0, none⟩) q1).trans h.m0, (hb.cell (p := ⟨gm, 1, none⟩) q1).trans h.m1, (hb.cell (p := ⟨ga, 0, none⟩) q2).trans h.a0, (hb.cell (p := ⟨ga, 1, none⟩) q2).trans h.a1,
    (hb.cell (p := ⟨gb, 0, none⟩) q3).trans h.b0, (hb.cell (p := ⟨gb, 1, none⟩) q3).trans h.b1, h.l0.below hb h.l0.2.2, h.l1.below hb h.l1.2.2,
    (hb.cell (p := ⟨sa, 0, none⟩) q4).trans h.s0, (hb.cell (p := ⟨sa, 1, none⟩) q4).trans h.s1,
    (hb.cell (p := ⟨sb, 0, none⟩) q5).trans h.r0, (hb.cell (p := ⟨sb, 1, none⟩) q5).trans h.r1, (hb.cell (p := ⟨sb, 2, none⟩) q5).trans h.r2, (hb.cell (p := ⟨sb, 3, none⟩) q5).trans h.r3,
    by omega, by omega, by omega, by omega, by omega⟩

def lblV : List Value := [.string xA, .string yA]
def smp1 : List Value := [.int .i64 1, .float .f64 4607182418800017408]
def smp2 : List Value := [.int .i64 1, .float .f64 4621256167635550208, .int .i64 2, .float .f64 4611686018427387904]

theorem reads_of {w : World} {g n size : Nat} {xs : List Value} (hl : xs.length = n * size) (hg : g < w.heap.size) (h : ∀ j u, xs[j]? = some u → w.cell? ⟨g, j, none⟩ = some u) : Reads w w.heap.size size (some ⟨g, 0, none⟩) n xs := by
  refine ⟨hl, fun _ => ⟨_, rfl, hg, fun j u hu => ?_⟩⟩
  have e : (⟨g, 0, none⟩ : Addr).add j = ⟨g, j, none⟩ := by unfold Addr.add; split <;> simp_all
  rw [e]
  exact h j u hu
theorem LblAt.reads {w : World} {g : Nat} (h : LblAt w g xA yA) : Reads w w.heap.size 2 (some ⟨g, 0, none⟩) 1 lblV :=
  reads_of rfl h.2.2 (fun j u hu => by
    match j with
    | 0 => cases hu; exact h.1
    | 1 => cases hu; exact h.2.1
    | j + 2 => cases hu)
theorem In2.reads1 {w : World} {gm ga gb la sa lb sb : Nat} (h : In2 w gm ga gb la sa lb sb) : Reads w w.heap.size 2 (some ⟨sa, 0, none⟩) 1 smp1 :=
  reads_of rfl h.lt.2.2.2.1 (fun j u hu => by
    match j with
    | 0 => cases hu; exact h.s0
    | 1 => cases hu; exact h.s1
    | j + 2 => cases hu)
theorem In2.reads2 {w : World} {gm ga gb la sa lb sb : Nat} (h : In2 w gm ga gb la sa lb sb) : Reads w w.heap.size 2 (some ⟨sb, 0, none⟩) 2 smp2 :=
  reads_of rfl h.lt.2.2.2.2 (fun j u hu => by
    match j with
    | 0 => cases hu; exact h.r0
    | 1 => cases hu; exact h.r1
    | 2 => cases hu; exact h.r2
    | 3 => cases hu; exact h.r3
    | j + 4 => cases hu)

theorem cells_newL (w : World) (t : TypeId) (cs : Array Value) (xs : List Value) (hx : cs.toList = xs) : ∀ (j : Nat) (u : Value), xs[j]? = some u → (w.alloc (.cells cs t)).cell? ((⟨w.heap.size, 0, none⟩ : Addr).add j) = some u := by
  intro j u hu
  have h := (Blk.new w t cs).cell j
  have e : (⟨w.heap.size, 0, none⟩ : Addr).add j = ⟨w.heap.size, j, none⟩ := by unfold Addr.add; split <;> simp_all
  rw [e, h, ← hu, ← hx]
  simp

/-- what Merge leaves at wakes' lists: the box (block T), the list of two series, their labels and samples -/
structure MergedAt (w : World) (T gB cB gL cL gS cS gL2 cL2 gS2 cS2 : Nat) : Prop where
  box : Blk w T 22 #[.slice (some ⟨gB, 0, none⟩) 2 cB]
  all_ : ∃ b, T + 1 ≤ b ∧ w.ownsRow b 34 2 (.slice (some ⟨gB, 0, none⟩) 2 cB) 2 [.slice (some ⟨gL, 0, none⟩) 1 cL, .slice (some ⟨gS, 0, none⟩) 1 cS, .slice (some ⟨gL2, 0, none⟩) 1 cL2, .slice (some ⟨gS2, 0, none⟩) 2 cS2]
  l0 : ∃ b, T + 1 ≤ b ∧ w.ownsRow b 61 2 (.slice (some ⟨gL, 0, none⟩) 1 cL) 1 lblV
  s0 : ∃ b, T + 1 ≤ b ∧ w.ownsRow b 51 2 (.slice (some ⟨gS, 0, none⟩) 1 cS) 1 smp1
  l1 : ∃ b, T + 1 ≤ b ∧ w.ownsRow b 61 2 (.slice (some ⟨gL2, 0, none⟩) 1 cL2) 1 lblV
  s1 : ∃ b, T + 1 ≤ b ∧ w.ownsRow b 51 2 (.slice (some ⟨gS2, 0, none⟩) 2 cS2) 2 smp2

theorem own_below {w w' : World} {T : Nat} {e : TypeId} {size n : Nat} {v : Value} {xs : List Value} (h : ∃ b, T + 1 ≤ b ∧ w.ownsRow b e size v n xs) (hb : Below w.heap.size w w') : ∃ b, T + 1 ≤ b ∧ w'.ownsRow b e size v n xs := by
  obtain ⟨b, hT, ho⟩ := h
  exact ⟨b, hT, ho.kept (only_of_below hb none) (by cases v.ownBlock <;> simp)⟩
theorem MergedAt.below {w w' : World} {T gB cB gL cL gS cS gL2 cL2 gS2 cS2 : Nat} (h : MergedAt w T gB cB gL cL gS cS gL2 cL2 gS2 cS2) (hb : Below w.heap.size w w') : MergedAt w' T gB cB gL cL gS cS gL2 cL2 gS2 cS2 :=
  ⟨h.box.below hb h.box.lt, own_below h.all_ hb, own_below h.l0 hb, own_below h.s0 hb, own_below h.l1 hb, own_below h.s1 hb⟩
theorem lbl_of_own {w : World} {b g c : Nat} (h : w.ownsRow b 61 2 (.slice (some ⟨g, 0, none⟩) 1 c) 1 lblV) : LblAt w g xA yA :=
  ⟨by rw [h.cellAt 0 (by omega)]; rfl, by rw [h.cellAt 1 (by omega)]; rfl, (h.lt g rfl).2⟩
theorem MergedAt.two {w : World} {T gB cB gL cL gS cS gL2 cL2 gS2 cS2 : Nat} (h : MergedAt w T gB cB gL cL gS cS gL2 cL2 gS2 cS2) : TwoS w gB gL cL gL2 cL2 (.slice (some ⟨gS, 0, none⟩) 1 cS) (.slice (some ⟨gS2, 0, none⟩) 2 cS2) xA yA := by
  obtain ⟨b, _, ha⟩ := h.all_
  obtain ⟨b0, _, h0⟩ := h.l0
  obtain ⟨b1, _, h1⟩ := h.l1
  exact ⟨by rw [ha.cellAt 0 (by omega)]; rfl, by rw [ha.cellAt 1 (by omega)]; rfl, by rw [ha.cellAt 2 (by omega)]; rfl, by rw [ha.cellAt 3 (by omega)]; rfl, (ha.lt gB rfl).2, lbl_of_own h0, lbl_of_own h1⟩

theorem enters22 : ∀ args w, (callFunc 22 args).run Try.prog w = .ok (.enter 22 args) w := enters_of Try.func22 (by kernel_rfl) rfl
theorem lblV_one : ∀ u ∈ lblV, u.oneCell' = true := by decide
theorem smp1_one : ∀ u ∈ smp1, u.oneCell' = true := by decide
theorem smp2_one : ∀ u ∈ smp2, u.oneCell' = true := by decide


theorem wp_last {P : Program} {s : Code} {Q : Exit → Act → World → Prop} {a : Act} {w : World}
    (h : ∀ K : Act → World → Prop, (∀ a w, Q .normal a w → K a w) → s.wp P (Exit.then K Q) a w) : s.wp P Q a w :=
  wp_mono (h (Q .normal) (fun _ _ h => h)) (by intro e a w h; cases e <;> exact h)

/-- behind the first list -/
structure Mid1 (w w3 : World) (gA cA gL cL gS cS : Nat) : Prop where
  box : Blk w3 w.heap.size 22 #[.slice (some ⟨gA, 0, none⟩) 1 cA]
  all_ : ∃ b, w.heap.size + 1 ≤ b ∧ w3.ownsRow b 34 2 (.slice (some ⟨gA, 0, none⟩) 1 cA) 1 [.slice (some ⟨gL, 0, none⟩) 1 cL, .slice (some ⟨gS, 0, none⟩) 1 cS]
  l0 : ∃ b, w.heap.size + 1 ≤ b ∧ w3.ownsRow b 61 2 (.slice (some ⟨gL, 0, none⟩) 1 cL) 1 lblV
  s0 : ∃ b, w.heap.size + 1 ≤ b ∧ w3.ownsRow b 51 2 (.slice (some ⟨gS, 0, none⟩) 1 cS) 1 smp1
  below : Below w.heap.size w w3
  size : w.heap.size + 2 ≤ w3.heap.size

set_option maxRecDepth 100000 in
set_option maxHeartbeats 3200000 in
theorem merge_two (gm ga gb la sa lb sb : Nat) (w : World) (h : In2 w gm ga gb la sa lb sb) :
    Calls Try.prog 8 #[.slice (some ⟨gm, 0, none⟩) 2 2] w fun e w' => e = .returned (.func (.func 26) #[] #[.pointer (some ⟨w.heap.size, 0, none⟩)]) ∧ (∃ gB cB gL cL gS cS gL2 cL2 gS2 cS2, MergedAt w' w.heap.size gB cB gL cL gS cS gL2 cL2 gS2 cS2) ∧ Below w.heap.size w w' := by
  obtain ⟨i0, hi, hz0, hz1, hz2⟩ := info_parts info34
  have HI := Lib.hid hi
  have HZ0 := Lib.hid hz0
  have HZ1 := Lib.hid hz1
  have HZ2 := Lib.hid hz2
  have H := Lib.hid h
  have m0 := h.m0
  have m1 := h.m1
  clear h hi hz0 hz1 hz2
  go_enter Try.func8, Try.ntmps8
  go_wp2_with fail
  obtain ⟨w1, hw1⟩ : ∃ w1, w.alloc (.cells #[.slice none 0 0] 22) = w1 := ⟨_, rfl⟩
  have b1 : Blk w1 w.heap.size 22 #[.slice none 0 0] := by rw [← hw1]; exact Blk.new w 22 _
  have hb1 : Below w.heap.size w w1 := by rw [← hw1]; exact (Below.refl _ w).alloc (Nat.le_refl _) _
  have hs1 : w1.heap.size = w.heap.size + 1 := by rw [← hw1]; simp
  rw [hw1]
  have H1 := Lib.hid (H.out.below hb1)
  have n0 := H1.out.m0
  have n1 := H1.out.m1
  have p0 := H1.out.a0
  have p1 := H1.out.a1
  have HB1 := Lib.hid hb1
  have HBx := Lib.hid b1
  clear hw1 m0 m1 b1 hb1
  refine wp_loop_rounds 3 ?_
  rw [rounds_succ]
  go_wp2_with fail
  refine wp_loop_rounds 2 ?_
  rw [rounds_succ]
  go_wp2_with fail
  obtain ⟨w2, hw2⟩ : ∃ w2, w1.alloc (.cells #[.slice (some ⟨la, 0, none⟩) 1 1, .slice (some ⟨sa, 0, none⟩) 1 1] 34) = w2 := ⟨_, rfl⟩
  have c0 : w2.cell? ⟨w.heap.size, 0, none⟩ = some (.slice none 0 0) := by rw [← hw2]; exact (HBx.out.alloc _).cell 0
  have f0 : w2.frozen? ⟨w.heap.size, 0, none⟩ = false := by rw [← hw2]; exact (HBx.out.alloc _).frozen 0
  have bT2 : Blk w2 w.heap.size 22 #[.slice none 0 0] := by rw [← hw2]; exact HBx.out.alloc _
  have bQ : Blk w2 w1.heap.size 34 #[.slice (some ⟨la, 0, none⟩) 1 1, .slice (some ⟨sa, 0, none⟩) 1 1] := by rw [← hw2]; exact Blk.new w1 34 _
  have hb2 : Below w1.heap.size w1 w2 := by rw [← hw2]; exact (Below.refl _ w1).alloc (Nat.le_refl _) _
  have hs2 : w2.heap.size = w.heap.size + 2 := by rw [← hw2]; simp; omega
  rw [hs1] at bQ
  rw [hw2]
  have q0 : w2.cell? ⟨w.heap.size + 1, 0, none⟩ = some (.slice (some ⟨la, 0, none⟩) 1 1) := bQ.cell 0
  have q1 : w2.cell? ⟨w.heap.size + 1, 1, none⟩ = some (.slice (some ⟨sa, 0, none⟩) 1 1) := bQ.cell 1
  have H2 := Lib.hid (H1.out.below hb2)
  have HB2 := Lib.hid (HB1.out.trans (hb2.mono HB1.out.size))
  have BT2 := Lib.hid bT2
  clear hw2 bT2 bQ hb2 n0 n1 p0 p1 hs1 HBx
  refine wp_last fun K hK => ?_
  go_cut [] from 17 to 24 (fun wx => ∃ gA cA gL cL gS cS, Mid1 w wx gA cA gL cL gS cS)
  case first =>
    go_region_law (first
      | (refine step_call1 (by rfl) 22 (.tmp 21) #[34] (by rfl) enters22 (.agg #[.slice (some ⟨la, 0, none⟩) 1 1, .slice (some ⟨sa, 0, none⟩) 1 1]) (by rfl) ?_; refine (copied_any (some ⟨la, 0, none⟩) (some ⟨sa, 0, none⟩) 1 1 1 1 lblV smp1 w2.drew H2.out.l0.reads.drew H2.out.reads1.drew lblV_one smp1_one (by omega) (by omega)).mono ?_; rintro e u ⟨vL, vS, rfl, hoL, hoS, hb3⟩; obtain ⟨gL, cL, hvL⟩ := own_succ hoL (by omega); subst hvL; obtain ⟨gS, cS, hvS⟩ := own_succ hoS (by omega); subst hvS; refine ⟨_, rfl, ?_⟩; have hb3' : Below w2.heap.size w2 u := ((Below.refl w2.heap.size w2).drew).trans hb3; have hu := hb3'.size; have bTu := BT2.out.below hb3' (by omega); have d0 : u.cell? ⟨w.heap.size, 0, none⟩ = some (.slice none 0 0) := bTu.cell 0; have k0 : ∀ o, (u.alloc o).cell? ⟨w.heap.size, 0, none⟩ = some (.slice none 0 0) := (fun o => (bTu.alloc o).cell 0); have BTu := Lib.hid bTu; have HOL := Lib.hid hoL; have HOS := Lib.hid hoS; have HBU := Lib.hid hb3'; clear hoL hoS hb3 hb3' bTu)
      | (refine step_append_any (u.alloc (.cells #[.slice (some ⟨gL, 0, none⟩) 1 cL, .slice (some ⟨gS, 0, none⟩) 1 cS] 34)) (by rfl) (.tmp 20) (.tmp 23) 22 (by rfl) (w.heap.size + 1) 34 i0 (.agg #[.slice none 0 0, .slice none 0 0]) 2 48 Try.underlying22 HI.out HZ0.out HZ1.out HZ2.out rfl (by omega) (.slice none 0 0) 0 [] (by rfl) (World.ownsRow_nil _ _ _ _) (u.heap.size + 1) (some ⟨u.heap.size, 0, none⟩) 1 1 [.slice (some ⟨gL, 0, none⟩) 1 cL, .slice (some ⟨gS, 0, none⟩) 1 cS] (by rfl) ⟨rfl, fun _ => ⟨_, rfl, Nat.lt_succ_self _, cells_newL u 34 _ _ rfl⟩⟩ (by simp [Value.oneCell']) (by simp [maxLen]) (by omega) (by rw [World.size_alloc]; omega) ?_; intro vA x1 hownA hgrowA _; obtain ⟨gA, cA, hvA⟩ := own_succ hownA (by omega); subst hvA; have bTx := (BTu.out.alloc (.cells #[.slice (some ⟨gL, 0, none⟩) 1 cL, .slice (some ⟨gS, 0, none⟩) 1 cS] 34)).grown hgrowA (by simp [Value.ownBlock]); have e0 : x1.cell? ⟨w.heap.size, 0, none⟩ = some (.slice none 0 0) := bTx.cell 0; have z0 := bTx.frozen 0; have HOA := Lib.hid hownA; have HGA := Lib.hid hgrowA; have BTX := Lib.hid bTx; clear hownA hgrowA bTx))
    all_goals
      have hx1 := HGA.out.size
      rw [World.size_alloc] at hx1
      go_wp2_with fail
      go_meet
      refine ⟨gA, cA, gL, cL, gS, cS, ?_⟩
      have hb3 : Below w.heap.size w (x1.setCell ⟨w.heap.size, 0, none⟩ (.slice (some ⟨gA, 0, none⟩) 1 cA)) := by
        have g1 := (HB2.out.trans (HBU.out.mono HB2.out.size)).alloc (by omega) (.cells #[.slice (some ⟨gL, 0, none⟩) 1 cL, .slice (some ⟨gS, 0, none⟩) 1 cS] 34)
        exact (g1.grown HGA.out g1.size (fun k hk => by simp [Value.ownBlock] at hk)).setCell (p := ⟨w.heap.size, 0, none⟩) (Nat.le_refl _) _
      exact ⟨BTX.out.set_ 0 _, ⟨_, by omega, ownsRow_setCell_below HOA.out (by simp) _⟩,
        ⟨w2.drew.heap.size + 2, by show w.heap.size + 1 ≤ w2.heap.size + 2; omega, ownsRow_setCell_below ((HOL.out.alloc _).kept (show World.grownBy _ x1 none from HGA.out) (by simp [Value.ownBlock])) (by show w.heap.size < w2.heap.size + 2; omega) _⟩,
        ⟨w2.drew.heap.size + 2, by show w.heap.size + 1 ≤ w2.heap.size + 2; omega, ownsRow_setCell_below ((HOS.out.alloc _).kept (show World.grownBy _ x1 none from HGA.out) (by simp [Value.ownBlock])) (by show w.heap.size < w2.heap.size + 2; omega) _⟩,
        hb3, by simp [World.setCell]; omega⟩
  refine hK _ _ ?_
  obtain ⟨gA, cA, gL, cL, gS, cS, hcut⟩ := hcut
  have H3 := Lib.hid (H.out.below hcut.below)
  have HM1 := Lib.hid hcut
  have n0 := H3.out.m0
  have n1 := H3.out.m1
  have p0 := H3.out.b0
  have p1 := H3.out.b1
  clear hcut c0 f0 q0 q1
  obtain ⟨wb, hwb⟩ : ∃ wb, wb = wc := ⟨_, rfl⟩
  subst hwb
  go_wp2_with fail
  rw [rounds_succ]
  go_wp2_with fail
  rw [rounds_succ]
  go_wp2_with fail
  refine wp_loop_rounds 2 ?_
  rw [rounds_succ]
  go_wp2_with fail
  obtain ⟨w4, hw4⟩ : ∃ w4, wb.alloc (.cells #[.slice (some ⟨lb, 0, none⟩) 1 1, .slice (some ⟨sb, 0, none⟩) 2 2] 34) = w4 := ⟨_, rfl⟩
  have bT4 : Blk w4 w.heap.size 22 #[.slice (some ⟨gA, 0, none⟩) 1 cA] := by rw [← hw4]; exact HM1.out.box.alloc _
  have c0 : w4.cell? ⟨w.heap.size, 0, none⟩ = some (.slice (some ⟨gA, 0, none⟩) 1 cA) := bT4.cell 0
  have f0 := bT4.frozen 0
  have bQ : Blk w4 wb.heap.size 34 #[.slice (some ⟨lb, 0, none⟩) 1 1, .slice (some ⟨sb, 0, none⟩) 2 2] := by rw [← hw4]; exact Blk.new wb 34 _
  have hb4 : Below wb.heap.size wb w4 := by rw [← hw4]; exact (Below.refl _ wb).alloc (Nat.le_refl _) _
  have hs4 : w4.heap.size = wb.heap.size + 1 := by rw [← hw4]; simp
  have hs3 := HM1.out.size
  have HB3 := Lib.hid HM1.out.below
  have HM2 := Lib.hid (show ∃ bA bL bS, w.heap.size + 1 ≤ bA ∧ w.heap.size + 1 ≤ bL ∧ w.heap.size + 1 ≤ bS ∧ w4.ownsRow bA 34 2 (.slice (some ⟨gA, 0, none⟩) 1 cA) 1 [.slice (some ⟨gL, 0, none⟩) 1 cL, .slice (some ⟨gS, 0, none⟩) 1 cS] ∧ w4.ownsRow bL 61 2 (.slice (some ⟨gL, 0, none⟩) 1 cL) 1 lblV ∧ w4.ownsRow bS 51 2 (.slice (some ⟨gS, 0, none⟩) 1 cS) 1 smp1 by
    obtain ⟨bA, qA, oA⟩ := HM1.out.all_
    obtain ⟨bL, qL, oL⟩ := HM1.out.l0
    obtain ⟨bS, qS, oS⟩ := HM1.out.s0
    rw [← hw4]
    exact ⟨bA, bL, bS, qA, qL, qS, oA.alloc _, oL.alloc _, oS.alloc _⟩)
  rw [hw4]
  have q0 : w4.cell? ⟨wb.heap.size, 0, none⟩ = some (.slice (some ⟨lb, 0, none⟩) 1 1) := bQ.cell 0
  have q1 : w4.cell? ⟨wb.heap.size, 1, none⟩ = some (.slice (some ⟨sb, 0, none⟩) 2 2) := bQ.cell 1
  have H4 := Lib.hid (H3.out.below hb4)
  have HB4 := Lib.hid (HB3.out.trans (hb4.mono HB3.out.size))
  have BT4 := Lib.hid bT4
  clear hw4 bT4 bQ hb4 n0 n1 p0 p1 HB3 H3 HM1
  obtain ⟨bA, bL, bS, qA, qL, qS, HMr⟩ := HM2.out
  have HOA4 := Lib.hid HMr.1
  have HOL4 := Lib.hid HMr.2.1
  have HOS4 := Lib.hid HMr.2.2
  clear HMr HM2
  have hlA := HOA4.out.lt gA rfl
  refine wp_last fun K2 hK2 => ?_
  go_cut [] from 17 to 24 (fun wx => ∃ gB cB gL cL gS cS gL2 cL2 gS2 cS2, MergedAt wx w.heap.size gB cB gL cL gS cS gL2 cL2 gS2 cS2 ∧ Below w.heap.size w wx)
  case first =>
    go_region_law (first
      | (refine step_call1 (by rfl) 22 (.tmp 21) #[34] (by rfl) enters22 (.agg #[.slice (some ⟨lb, 0, none⟩) 1 1, .slice (some ⟨sb, 0, none⟩) 2 2]) (by rfl) ?_; refine (copied_any (some ⟨lb, 0, none⟩) (some ⟨sb, 0, none⟩) 1 1 2 2 lblV smp2 w4.drew H4.out.l1.reads.drew H4.out.reads2.drew lblV_one smp2_one (by omega) (by omega)).mono ?_; rintro e u2 ⟨vL, vS, rfl, hoL, hoS, hb3⟩; obtain ⟨gL2, cL2, hvL⟩ := own_succ hoL (by omega); subst hvL; obtain ⟨gS2, cS2, hvS⟩ := own_succ hoS (by omega); subst hvS; refine ⟨_, rfl, ?_⟩; have hb3' : Below w4.heap.size w4 u2 := ((Below.refl w4.heap.size w4).drew).trans hb3; have hu2 := hb3'.size; have bTu := BT4.out.below hb3' (by omega); have d0 : u2.cell? ⟨w.heap.size, 0, none⟩ = some (.slice (some ⟨gA, 0, none⟩) 1 cA) := bTu.cell 0; have k0 : ∀ o, (u2.alloc o).cell? ⟨w.heap.size, 0, none⟩ = some (.slice (some ⟨gA, 0, none⟩) 1 cA) := (fun o => (bTu.alloc o).cell 0); have BTu := Lib.hid bTu; have HOAu := Lib.hid (HOA4.out.kept (only_of_below hb3' none) (by simp [Value.ownBlock])); have HOLu := Lib.hid (HOL4.out.kept (only_of_below hb3' none) (by simp [Value.ownBlock])); have HOSu := Lib.hid (HOS4.out.kept (only_of_below hb3' none) (by simp [Value.ownBlock])); have HOL := Lib.hid hoL; have HOS := Lib.hid hoS; have HBU := Lib.hid hb3'; clear hoL hoS hb3 hb3' bTu)
      | (refine step_append_any (u2.alloc (.cells #[.slice (some ⟨gL2, 0, none⟩) 1 cL2, .slice (some ⟨gS2, 0, none⟩) 2 cS2] 34)) (by rfl) (.tmp 20) (.tmp 23) 22 (by rfl) (bA) 34 i0 (.agg #[.slice none 0 0, .slice none 0 0]) 2 48 Try.underlying22 HI.out HZ0.out HZ1.out HZ2.out rfl (by omega) (.slice (some ⟨gA, 0, none⟩) 1 cA) 1 [.slice (some ⟨gL, 0, none⟩) 1 cL, .slice (some ⟨gS, 0, none⟩) 1 cS] (by rfl) (HOAu.out.alloc _) (u2.heap.size + 1) (some ⟨u2.heap.size, 0, none⟩) 1 1 [.slice (some ⟨gL2, 0, none⟩) 1 cL2, .slice (some ⟨gS2, 0, none⟩) 2 cS2] (by rfl) ⟨rfl, fun _ => ⟨_, rfl, Nat.lt_succ_self _, cells_newL u2 34 _ _ rfl⟩⟩ (by simp [Value.oneCell']) (by simp [maxLen]) (by omega) (by rw [World.size_alloc]; omega) ?_; intro vA x2 hownA hgrowA _; obtain ⟨gB, cB, hvA⟩ := own_succ hownA (by omega); subst hvA; have bTx := (BTu.out.alloc (.cells #[.slice (some ⟨gL2, 0, none⟩) 1 cL2, .slice (some ⟨gS2, 0, none⟩) 2 cS2] 34)).grown hgrowA (own_blk_ne HOAu.out BTu.out (by decide)).symm; have e0 : x2.cell? ⟨w.heap.size, 0, none⟩ = some (.slice (some ⟨gA, 0, none⟩) 1 cA) := bTx.cell 0; have z0 := bTx.frozen 0; have HOA := Lib.hid hownA; have HGA2 := Lib.hid hgrowA; have BTX := Lib.hid bTx; clear hownA hgrowA bTx))
    all_goals
      have hx2 := HGA2.out.size
      rw [World.size_alloc] at hx2
      go_wp2_with fail
      go_meet
      refine ⟨gB, cB, gL, cL, gS, cS, gL2, cL2, gS2, cS2, ⟨BTX.out.set_ 0 _, ⟨bA, qA, ownsRow_setCell_below HOA.out (show w.heap.size < bA from qA) _⟩,
        ⟨bL, qL, ownsRow_setCell_below ((HOLu.out.alloc _).kept HGA2.out (own_own_ne HOLu.out HOAu.out (by decide))) (by show w.heap.size < bL; omega) _⟩,
        ⟨bS, qS, ownsRow_setCell_below ((HOSu.out.alloc _).kept HGA2.out (own_own_ne HOSu.out HOAu.out (by decide))) (by show w.heap.size < bS; omega) _⟩,
        ⟨w4.drew.heap.size + 2, by show w.heap.size + 1 ≤ w4.heap.size + 2; omega, ownsRow_setCell_below ((HOL.out.alloc _).kept HGA2.out (own_own_ne HOL.out HOAu.out (by decide))) (by show w.heap.size < w4.heap.size + 2; omega) _⟩,
        ⟨w4.drew.heap.size + 2, by show w.heap.size + 1 ≤ w4.heap.size + 2; omega, ownsRow_setCell_below ((HOS.out.alloc _).kept HGA2.out (own_own_ne HOS.out HOAu.out (by decide))) (by show w.heap.size < w4.heap.size + 2; omega) _⟩⟩, ?_⟩
      have g0 := HB4.out.trans (HBU.out.mono HB4.out.size)
      have g1 := g0.alloc g0.size (.cells #[.slice (some ⟨gL2, 0, none⟩) 1 cL2, .slice (some ⟨gS2, 0, none⟩) 2 cS2] 34)
      exact (g1.grown HGA2.out g1.size (fun k hk => by have := (HOAu.out.lt k hk).1; omega)).setCell (p := ⟨w.heap.size, 0, none⟩) (Nat.le_refl _) _
  refine hK2 _ _ ?_
  obtain ⟨gB, cB, gL, cL, gS, cS, gL2, cL2, gS2, cS2, hM5, hB5⟩ := hcut
  have HM := Lib.hid hM5
  have HB5 := Lib.hid hB5
  have y0 : wc.cell? ⟨w.heap.size, 0, none⟩ = some (.slice (some ⟨gB, 0, none⟩) 2 cB) := hM5.box.cell 0
  clear hM5 hB5 c0 f0 q0 q1 HOA4 HOL4 HOS4 BT4 HB4 H4
  go_wp2_with fail
  rw [rounds_succ]
  go_wp2_with fail
  rw [rounds_succ]
  go_wp2_with fail
  refine (sort_two gB cB gL cL gL2 cL2 _ _ xA yA _ HM.out.two).mono ?_
  rintro e w6 ⟨rfl, hb6⟩
  have HM6 := Lib.hid (HM.out.below hb6)
  have HB6 := Lib.hid (HB5.out.trans (hb6.mono HB5.out.size))
  clear hb6 y0
  go_wp2
  go_ret
  exact ⟨rfl, ⟨_, _, _, _, _, _, _, _, _, _, HM6.out⟩, HB6.out⟩
end Go.Proofs.Ytnglejopbpnknaa
