/- The walk of compact.Merge at the two lists that the law's wakes lays. A region that draws its order and whose callees may make memory of their own: one walk in the order of the text, over the class of worlds that grew from one. The walk of the iterator that Merge hands back, at wakes' two lists: one series, once. A range over a function whose iterator yields once (the value is new; the assignment lays one block). After the kit's law for iterators that read memory. The walk of Collect over the iterator that Merge hands back, at wakes' two lists. -/
import Derived.Test.YtnglejopbpnknaaJ00Lib
import Derived.Deep.RegionLaw
import Derived.Shelf.Abstract
import Derived.BigQuiet
import Derived.RangeFuncNested
import Derived.Scope
import Derived.WalkMore
import Derived.RangeFuncBound
import Derived.RangeFuncCalls
import Derived.RangeFuncLeaves
import Derived.Shelf.RegionOpen
import Derived.WalkKit
import Derived.OwnWalkIn
import Derived.TacticsInMore
import Derived.LoopNIn
import Derived.LoopIn
import Derived.Sort.QuietIn
import Derived.Sort.CutIn
import Derived.Deep.CutBlock
import Derived.RangeFuncKeeps
import Derived.Stop.RegionWithIn
namespace Go.Proofs.Ytnglejopbpnknaa
open Go.RowKit Go.Shelf
attribute [local go_sem] run_store_float0

theorem own_own_ne {w : World} {b1 b2 : Nat} {e1 e2 : TypeId} {z1 z2 n1 n2 : Nat} {v1 v2 : Value} {x1 x2 : List Value} (h1 : w.ownsRow b1 e1 z1 v1 n1 x1) (h2 : w.ownsRow b2 e2 z2 v2 n2 x2) (hne : e1 ≠ e2) :
    v1.ownBlock = none ∨ v1.ownBlock ≠ v2.ownBlock := by
  rcases h1.2 with ⟨rfl, _⟩ | ⟨g, cap, cur, rfl, _, hh, _⟩
  · exact .inl rfl
  · right
    intro e
    rcases h2.2 with ⟨rfl, _⟩ | ⟨g', cap', cur', rfl, _, hh', _⟩
    · simp [Value.ownBlock] at e
    · have : g = g' := by simpa [Value.ownBlock] using e
      subst this
      rw [hh] at hh'
      injection hh' with hh'
      injection hh' with _ ht
      exact hne ht

def xA : ByteArray := { data := #[97] }
def yA : ByteArray := { data := #[49] }

/-- what wakes hands to Merge -/
structure In2 (w : World) (gm ga gb la sa lb sb : Nat) : Prop where
  m0 : w.cell? ⟨gm, 0, none⟩ = some (.slice (some ⟨ga, 0, none⟩) 1 1)
  m1 : w.cell? ⟨gm, 1, none⟩ = some (.slice (some ⟨gb, 0, none⟩) 1 1)
  a0 : w.cell? ⟨ga, 0, none⟩ = some (.slice (some ⟨la, 0, none⟩) 1 1)
  a1 : w.cell? ⟨ga, 1, none⟩ = some (.slice (some ⟨sa, 0, none⟩) 1 1)
  b0 : w.cell? ⟨gb, 0, none⟩ = some (.slice (some ⟨lb, 0, none⟩) 1 1)
  b1 : w.cell? ⟨gb, 1, none⟩ = some (.slice (some ⟨sb, 0, none⟩) 2 2)
  l0 : LblAt w la xA yA
  l1 : LblAt w lb xA yA
  s0 : w.cell? ⟨sa, 0, none⟩ = some (.int .i64 1)
  s1 : w.cell? ⟨sa, 1, none⟩ = some (.float .f64 4607182418800017408)
  r0 : w.cell? ⟨sb, 0, none⟩ = some (.int .i64 1)
  r1 : w.cell? ⟨sb, 1, none⟩ = some (.float .f64 4621256167635550208)
  r2 : w.cell? ⟨sb, 2, none⟩ = some (.int .i64 2)
  r3 : w.cell? ⟨sb, 3, none⟩ = some (.float .f64 4611686018427387904)
  lt : gm < w.heap.size ∧ ga < w.heap.size ∧ gb < w.heap.size ∧ sa < w.heap.size ∧ sb < w.heap.size

theorem In2.below {w w' : World} {gm ga gb la sa lb sb : Nat} (h : In2 w gm ga gb la sa lb sb) (hb : Below w.heap.size w w') : In2 w' gm ga gb la sa lb sb := by
  obtain ⟨q1, q2, q3, q4, q5⟩ := h.lt
  have hs := hb.size
  exact ⟨(hb.cell (p := ⟨gm, 0, none⟩) q1).trans h.m0, (hb.cell (p := ⟨gm, 1, none⟩) q1).trans h.m1, (hb.cell (p := ⟨ga, 0, none⟩) q2).trans h.a0, (hb.cell (p := ⟨ga, 1, none⟩) q2).trans h.a1,
    (hb.cell (p := ⟨gb, 0, none⟩) q3).trans h.b0, (hb.cell (p := ⟨gb, 1, none⟩) q3).trans h.b1, h.l0.below hb h.l0.2.2, h.l1.below hb h.l1.2.2,
    (hb.cell (p := ⟨sa, 0, none⟩) q4).trans h.s0, (hb.cell (p := ⟨sa, 1, none⟩) q4).trans h.s1,
    (hb.cell (p := ⟨sb, 0, none⟩) q5).trans h.r0, (hb.cell (p := ⟨sb, 1, none⟩) q5).trans h.r1, (hb.cell (p := ⟨sb, 2, none⟩) q5).trans h.r2, (hb.cell (p := ⟨sb, 3, none⟩) q5).trans h.r3,
    by omega, by omega, by omega, by omega, by omega⟩

def lblV : List Value := [.string xA, .string yA]
def smp1 : List Value := [.int .i64 1, .float .f64 4607182418800017408]
def smp2 : List Value := [.int .i64 1, .float .f64 4621256167635550208, .int .i64 2, .float .f64 4611686018427387904]

theorem reads_of {w : World} {g n size : Nat} {xs : List Value} (hl : xs.length = n * size) (hg : g < w.heap.size) (h : ∀ j u, xs[j]? = some u → w.cell? ⟨g, j, none⟩ = some u) : Reads w w.heap.size size (some ⟨g, 0, none⟩) n xs := by
  refine ⟨hl, fun _ => ⟨_, rfl, hg, fun j u hu => ?_⟩⟩
  have e : (⟨g, 0, none⟩ : Addr).add j = ⟨g, j, none⟩ := by unfold Addr.add; split <;> simp_all
  rw [e]
  exact h j u hu
theorem LblAt.reads {w : World} {g : Nat} (h : LblAt w g xA yA) : Reads w w.heap.size 2 (some ⟨g, 0, none⟩) 1 lblV :=
  reads_of rfl h.2.2 (fun j u hu => by
    match j with
    | 0 => cases hu; exact h.1
    | 1 => cases hu; exact h.2.1
    | j + 2 => cases hu)
theorem In2.reads1 {w : World} {gm ga gb la sa lb sb : Nat} (h : In2 w gm ga gb la sa lb sb) : Reads w w.heap.size 2 (some ⟨sa, 0, none⟩) 1 smp1 :=
  reads_of rfl h.lt.2.2.2.1 (fun j u hu => by
    match j with
    | 0 => cases hu; exact h.s0
    | 1 => cases hu; exact h.s1
    | j + 2 => cases hu)
theorem In2.reads2 {w : World} {gm ga gb la sa lb sb : Nat} (h : In2 w gm ga gb la sa lb sb) : Reads w w.heap.size 2 (some ⟨sb, 0, none⟩) 2 smp2 :=
  reads_of rfl h.lt.2.2.2.2 (fun j u hu => by
    match j with
    | 0 => cases hu; exact h.r0
    | 1 => cases hu; exact h.r1
    | 2 => cases hu; exact h.r2
    | 3 => cases hu; exact h.r3
    | j + 4 => cases hu)

theorem cells_newL (w : World) (t : TypeId) (cs : Array Value) (xs : List Value) (hx : cs.toList = xs) : ∀ (j : Nat) (u : Value), xs[j]? = some u → (w.alloc (.cells cs t)).cell? ((⟨w.heap.size, 0, none⟩ : Addr).add j) = some u := by
  intro j u hu
  have h := (Blk.new w t cs).cell j
  have e : (⟨w.heap.size, 0, none⟩ : Addr).add j = ⟨w.heap.size, j, none⟩ := by unfold Addr.add; split <;> simp_all
  rw [e, h, ← hu, ← hx]
  simp

/-- what Merge leaves at wakes' lists: the box (block T), the list of two series, their labels and samples -/
structure MergedAt (w : World) (T gB cB gL cL gS cS gL2 cL2 gS2 cS2 : Nat) : Prop where
  box : Blk w T 22 #[.slice (some ⟨gB, 0, none⟩) 2 cB]
  all_ : ∃ b, T + 1 ≤ b ∧ w.ownsRow b 34 2 (.slice (some ⟨gB, 0, none⟩) 2 cB) 2 [.slice (some ⟨gL, 0, none⟩) 1 cL, .slice (some ⟨gS, 0, none⟩) 1 cS, .slice (some ⟨gL2, 0, none⟩) 1 cL2, .slice (some ⟨gS2, 0, none⟩) 2 cS2]
  l0 : ∃ b, T + 1 ≤ b ∧ w.ownsRow b 61 2 (.slice (some ⟨gL, 0, none⟩) 1 cL) 1 lblV
  s0 : ∃ b, T + 1 ≤ b ∧ w.ownsRow b 51 2 (.slice (some ⟨gS, 0, none⟩) 1 cS) 1 smp1
  l1 : ∃ b, T + 1 ≤ b ∧ w.ownsRow b 61 2 (.slice (some ⟨gL2, 0, none⟩) 1 cL2) 1 lblV
  s1 : ∃ b, T + 1 ≤ b ∧ w.ownsRow b 51 2 (.slice (some ⟨gS2, 0, none⟩) 2 cS2) 2 smp2

theorem own_below {w w' : World} {T : Nat} {e : TypeId} {size n : Nat} {v : Value} {xs : List Value} (h : ∃ b, T + 1 ≤ b ∧ w.ownsRow b e size v n xs) (hb : Below w.heap.size w w') : ∃ b, T + 1 ≤ b ∧ w'.ownsRow b e size v n xs := by
  obtain ⟨b, hT, ho⟩ := h
  exact ⟨b, hT, ho.kept (only_of_below hb none) (by cases v.ownBlock <;> simp)⟩
theorem MergedAt.below {w w' : World} {T gB cB gL cL gS cS gL2 cL2 gS2 cS2 : Nat} (h : MergedAt w T gB cB gL cL gS cS gL2 cL2 gS2 cS2) (hb : Below w.heap.size w w') : MergedAt w' T gB cB gL cL gS cS gL2 cL2 gS2 cS2 :=
  ⟨h.box.below hb h.box.lt, own_below h.all_ hb, own_below h.l0 hb, own_below h.s0 hb, own_below h.l1 hb, own_below h.s1 hb⟩
theorem lbl_of_own {w : World} {b g c : Nat} (h : w.ownsRow b 61 2 (.slice (some ⟨g, 0, none⟩) 1 c) 1 lblV) : LblAt w g xA yA :=
  ⟨by rw [h.cellAt 0 (by omega)]; rfl, by rw [h.cellAt 1 (by omega)]; rfl, (h.lt g rfl).2⟩
theorem MergedAt.two {w : World} {T gB cB gL cL gS cS gL2 cL2 gS2 cS2 : Nat} (h : MergedAt w T gB cB gL cL gS cS gL2 cL2 gS2 cS2) : TwoS w gB gL cL gL2 cL2 (.slice (some ⟨gS, 0, none⟩) 1 cS) (.slice (some ⟨gS2, 0, none⟩) 2 cS2) xA yA := by
  obtain ⟨b, _, ha⟩ := h.all_
  obtain ⟨b0, _, h0⟩ := h.l0
  obtain ⟨b1, _, h1⟩ := h.l1
  exact ⟨by rw [ha.cellAt 0 (by omega)]; rfl, by rw [ha.cellAt 1 (by omega)]; rfl, by rw [ha.cellAt 2 (by omega)]; rfl, by rw [ha.cellAt 3 (by omega)]; rfl, (ha.lt gB rfl).2, lbl_of_own h0, lbl_of_own h1⟩

theorem enters22 : ∀ args w, (callFunc 22 args).run Try.prog w = .ok (.enter 22 args) w := enters_of Try.func22 (by kernel_rfl) rfl
theorem lblV_one : ∀ u ∈ lblV, u.oneCell' = true := by decide
theorem smp1_one : ∀ u ∈ smp1, u.oneCell' = true := by decide
theorem smp2_one : ∀ u ∈ smp2, u.oneCell' = true := by decide


theorem wp_last {P : Program} {s : Code} {Q : Exit → Act → World → Prop} {a : Act} {w : World}
    (h : ∀ K : Act → World → Prop, (∀ a w, Q .normal a w → K a w) → s.wp P (Exit.then K Q) a w) : s.wp P Q a w :=
  wp_mono (h (Q .normal) (fun _ _ h => h)) (by intro e a w h; cases e <;> exact h)

/-- behind the first list -/
structure Mid1 (w w3 : World) (gA cA gL cL gS cS : Nat) : Prop where
  box : Blk w3 w.heap.size 22 #[.slice (some ⟨gA, 0, none⟩) 1 cA]
  all_ : ∃ b, w.heap.size + 1 ≤ b ∧ w3.ownsRow b 34 2 (.slice (some ⟨gA, 0, none⟩) 1 cA) 1 [.slice (some ⟨gL, 0, none⟩) 1 cL, .slice (some ⟨gS, 0, none⟩) 1 cS]
  l0 : ∃ b, w.heap.size + 1 ≤ b ∧ w3.ownsRow b 61 2 (.slice (some ⟨gL, 0, none⟩) 1 cL) 1 lblV
  s0 : ∃ b, w.heap.size + 1 ≤ b ∧ w3.ownsRow b 51 2 (.slice (some ⟨gS, 0, none⟩) 1 cS) 1 smp1
  below : Below w.heap.size w w3
  size : w.heap.size + 2 ≤ w3.heap.size

set_option maxRecDepth 100000 in
set_option maxHeartbeats 3200000 in
theorem merge_two (gm ga gb la sa lb sb : Nat) (w : World) (h : In2 w gm ga gb la sa lb sb) :
    Calls Try.prog 8 #[.slice (some ⟨gm, 0, none⟩) 2 2] w fun e w' => e = .returned (.func (.func 26) #[] #[.pointer (some ⟨w.heap.size, 0, none⟩)]) ∧ (∃ gB cB gL cL gS cS gL2 cL2 gS2 cS2, MergedAt w' w.heap.size gB cB gL cL gS cS gL2 cL2 gS2 cS2) ∧ Below w.heap.size w w' := by
  obtain ⟨i0, hi, hz0, hz1, hz2⟩ := info_parts info34
  have HI := Lib.hid hi
  have HZ0 := Lib.hid hz0
  have HZ1 := Lib.hid hz1
  have HZ2 := Lib.hid hz2
  have H := Lib.hid h
  have m0 := h.m0
  have m1 := h.m1
  clear h hi hz0 hz1 hz2
  go_enter Try.func8, Try.ntmps8
  go_wp2_with fail
  obtain ⟨w1, hw1⟩ : ∃ w1, w.alloc (.cells #[.slice none 0 0] 22) = w1 := ⟨_, rfl⟩
  have b1 : Blk w1 w.heap.size 22 #[.slice none 0 0] := by rw [← hw1]; exact Blk.new w 22 _
  have hb1 : Below w.heap.size w w1 := by rw [← hw1]; exact (Below.refl _ w).alloc (Nat.le_refl _) _
  have hs1 : w1.heap.size = w.heap.size + 1 := by rw [← hw1]; simp
  rw [hw1]
  have H1 := Lib.hid (H.out.below hb1)
  have n0 := H1.out.m0
  have n1 := H1.out.m1
  have p0 := H1.out.a0
  have p1 := H1.out.a1
  have HB1 := Lib.hid hb1
  have HBx := Lib.hid b1
  clear hw1 m0 m1 b1 hb1
  refine wp_loop_rounds 3 ?_
  rw [rounds_succ]
  go_wp2_with fail
  refine wp_loop_rounds 2 ?_
  rw [rounds_succ]
  go_wp2_with fail
  obtain ⟨w2, hw2⟩ : ∃ w2, w1.alloc (.cells #[.slice (some ⟨la, 0, none⟩) 1 1, .slice (some ⟨sa, 0, none⟩) 1 1] 34) = w2 := ⟨_, rfl⟩
  have c0 : w2.cell? ⟨w.heap.size, 0, none⟩ = some (.slice none 0 0) := by rw [← hw2]; exact (HBx.out.alloc _).cell 0
  have f0 : w2.frozen? ⟨w.heap.size, 0, none⟩ = false := by rw [← hw2]; exact (HBx.out.alloc _).frozen 0
  have bT2 : Blk w2 w.heap.size 22 #[.slice none 0 0] := by rw [← hw2]; exact HBx.out.alloc _
  have bQ : Blk w2 w1.heap.size 34 #[.slice (some ⟨la, 0, none⟩) 1 1, .slice (some ⟨sa, 0, none⟩) 1 1] := by rw [← hw2]; exact Blk.new w1 34 _
  have hb2 : Below w1.heap.size w1 w2 := by rw [← hw2]; exact (Below.refl _ w1).alloc (Nat.le_refl _) _
  have hs2 : w2.heap.size = w.heap.size + 2 := by rw [← hw2]; simp; omega
  rw [hs1] at bQ
  rw [hw2]
  have q0 : w2.cell? ⟨w.heap.size + 1, 0, none⟩ = some (.slice (some ⟨la, 0, none⟩) 1 1) := bQ.cell 0
  have q1 : w2.cell? ⟨w.heap.size + 1, 1, none⟩ = some (.slice (some ⟨sa, 0, none⟩) 1 1) := bQ.cell 1
  have H2 := Lib.hid (H1.out.below hb2)
  have HB2 := Lib.hid (HB1.out.trans (hb2.mono HB1.out.size))
  have BT2 := Lib.hid bT2
  clear hw2 bT2 bQ hb2 n0 n1 p0 p1 hs1 HBx
  refine wp_last fun K hK => ?_
  go_cut [] from 17 to 24 (fun wx => ∃ gA cA gL cL gS cS, Mid1 w wx gA cA gL cL gS cS)
  case first =>
    go_region_law (first
      | (refine step_call1 (by rfl) 22 (.tmp 21) #[34] (by rfl) enters22 (.agg #[.slice (some ⟨la, 0, none⟩) 1 1, .slice (some ⟨sa, 0, none⟩) 1 1]) (by rfl) ?_; refine (copied_any (some ⟨la, 0, none⟩) (some ⟨sa, 0, none⟩) 1 1 1 1 lblV smp1 w2.drew H2.out.l0.reads.drew H2.out.reads1.drew lblV_one smp1_one (by omega) (by omega)).mono ?_; rintro e u ⟨vL, vS, rfl, hoL, hoS, hb3⟩; obtain ⟨gL, cL, hvL⟩ := own_succ hoL (by omega); subst hvL; obtain ⟨gS, cS, hvS⟩ := own_succ hoS (by omega); subst hvS; refine ⟨_, rfl, ?_⟩; have hb3' : Below w2.heap.size w2 u := ((Below.refl w2.heap.size w2).drew).trans hb3; have hu := hb3'.size; have bTu := BT2.out.below hb3' (by omega); have d0 : u.cell? ⟨w.heap.size, 0, none⟩ = some (.slice none 0 0) := bTu.cell 0; have k0 : ∀ o, (u.alloc o).cell? ⟨w.heap.size, 0, none⟩ = some (.slice none 0 0) := (fun o => (bTu.alloc o).cell 0); have BTu := Lib.hid bTu; have HOL := Lib.hid hoL; have HOS := Lib.hid hoS; have HBU := Lib.hid hb3'; clear hoL hoS hb3 hb3' bTu)
      | (refine step_append_any (u.alloc (.cells #[.slice (some ⟨gL, 0, none⟩) 1 cL, .slice (some ⟨gS, 0, none⟩) 1 cS] 34)) (by rfl) (.tmp 20) (.tmp 23) 22 (by rfl) (w.heap.size + 1) 34 i0 (.agg #[.slice none 0 0, .slice none 0 0]) 2 48 Try.underlying22 HI.out HZ0.out HZ1.out HZ2.out rfl (by omega) (.slice none 0 0) 0 [] (by rfl) (World.ownsRow_nil _ _ _ _) (u.heap.size + 1) (some ⟨u.heap.size, 0, none⟩) 1 1 [.slice (some ⟨gL, 0, none⟩) 1 cL, .slice (some ⟨gS, 0, none⟩) 1 cS] (by rfl) ⟨rfl, fun _ => ⟨_, rfl, Nat.lt_succ_self _, cells_newL u 34 _ _ rfl⟩⟩ (by simp [Value.oneCell']) (by simp [maxLen]) (by omega) (by rw [World.size_alloc]; omega) ?_; intro vA x1 hownA hgrowA _; obtain ⟨gA, cA, hvA⟩ := own_succ hownA (by omega); subst hvA; have bTx := (BTu.out.alloc (.cells #[.slice (some ⟨gL, 0, none⟩) 1 cL, .slice (some ⟨gS, 0, none⟩) 1 cS] 34)).grown hgrowA (by simp [Value.ownBlock]); have e0 : x1.cell? ⟨w.heap.size, 0, none⟩ = some (.slice none 0 0) := bTx.cell 0; have z0 := bTx.frozen 0; have HOA := Lib.hid hownA; have HGA := Lib.hid hgrowA; have BTX := Lib.hid bTx; clear hownA hgrowA bTx))
    all_goals
      have hx1 := HGA.out.size
      rw [World.size_alloc] at hx1
      go_wp2_with fail
      go_meet
      refine ⟨gA, cA, gL, cL, gS, cS, ?_⟩
      have hb3 : Below w.heap.size w (x1.setCell ⟨w.heap.size, 0, none⟩ (.slice (some ⟨gA, 0, none⟩) 1 cA)) := by
        have g1 := (HB2.out.trans (HBU.out.mono HB2.out.size)).alloc (by omega) (.cells #[.slice (some ⟨gL, 0, none⟩) 1 cL, .slice (some ⟨gS, 0, none⟩) 1 cS] 34)
        exact (g1.grown HGA.out g1.size (fun k hk => by simp [Value.ownBlock] at hk)).setCell (p := ⟨w.heap.size, 0, none⟩) (Nat.le_refl _) _
      exact ⟨BTX.out.set_ 0 _, ⟨_, by omega, ownsRow_setCell_below HOA.out (by simp) _⟩,
        ⟨w2.drew.heap.size + 2, by show w.heap.size + 1 ≤ w2.heap.size + 2; omega, ownsRow_setCell_below ((HOL.out.alloc _).kept (show World.grownBy _ x1 none from HGA.out) (by simp [Value.ownBlock])) (by show w.heap.size < w2.heap.size + 2; omega) _⟩,
        ⟨w2.drew.heap.size + 2, by show w.heap.size + 1 ≤ w2.heap.size + 2; omega, ownsRow_setCell_below ((HOS.out.alloc _).kept (show World.grownBy _ x1 none from HGA.out) (by simp [Value.ownBlock])) (by show w.heap.size < w2.heap.size + 2; omega) _⟩,
        hb3, by simp [World.setCell]; omega⟩
  refine hK _ _ ?_
  obtain ⟨gA, cA, gL, cL, gS, cS, hcut⟩ := hcut
  have H3 := Lib.hid (H.out.below hcut.below)
  have HM1 := Lib.hid hcut
  have n0 := H3.out.m0
  have n1 := H3.out.m1
  have p0 := H3.out.b0
  have p1 := H3.out.b1
  clear hcut c0 f0 q0 q1
  obtain ⟨wb, hwb⟩ : ∃ wb, wb = wc := ⟨_, rfl⟩
  subst hwb
  go_wp2_with fail
  rw [rounds_succ]
  go_wp2_with fail
  rw [rounds_succ]
  go_wp2_with fail
  refine wp_loop_rounds 2 ?_
  rw [rounds_succ]
  go_wp2_with fail
  obtain ⟨w4, hw4⟩ : ∃ w4, wb.alloc (.cells #[.slice (some ⟨lb, 0, none⟩) 1 1, .slice (some ⟨sb, 0, none⟩) 2 2] 34) = w4 := ⟨_, rfl⟩
  have bT4 : Blk w4 w.heap.size 22 #[.slice (some ⟨gA, 0, none⟩) 1 cA] := by rw [← hw4]; exact HM1.out.box.alloc _
  have c0 : w4.cell? ⟨w.heap.size, 0, none⟩ = some (.slice (some ⟨gA, 0, none⟩) 1 cA) := bT4.cell 0
  have f0 := bT4.frozen 0
  have bQ : Blk w4 wb.heap.size 34 #[.slice (some ⟨lb, 0, none⟩) 1 1, .slice (some ⟨sb, 0, none⟩) 2 2] := by rw [← hw4]; exact Blk.new wb 34 _
  have hb4 : Below wb.heap.size wb w4 := by rw [← hw4]; exact (Below.refl _ wb).alloc (Nat.le_refl _) _
  have hs4 : w4.heap.size = wb.heap.size + 1 := by rw [← hw4]; simp
  have hs3 := HM1.out.size
  have HB3 := Lib.hid HM1.out.below
  have HM2 := Lib.hid (show ∃ bA bL bS, w.heap.size + 1 ≤ bA ∧ w.heap.size + 1 ≤ bL ∧ w.heap.size + 1 ≤ bS ∧ w4.ownsRow bA 34 2 (.slice (some ⟨gA, 0, none⟩) 1 cA) 1 [.slice (some ⟨gL, 0, none⟩) 1 cL, .slice (some ⟨gS, 0, none⟩) 1 cS] ∧ w4.ownsRow bL 61 2 (.slice (some ⟨gL, 0, none⟩) 1 cL) 1 lblV ∧ w4.ownsRow bS 51 2 (.slice (some ⟨gS, 0, none⟩) 1 cS) 1 smp1 by
    obtain ⟨bA, qA, oA⟩ := HM1.out.all_
    obtain ⟨bL, qL, oL⟩ := HM1.out.l0
    obtain ⟨bS, qS, oS⟩ := HM1.out.s0
    rw [← hw4]
    exact ⟨bA, bL, bS, qA, qL, qS, oA.alloc _, oL.alloc _, oS.alloc _⟩)
  rw [hw4]
  have q0 : w4.cell? ⟨wb.heap.size, 0, none⟩ = some (.slice (some ⟨lb, 0, none⟩) 1 1) := bQ.cell 0
  have q1 : w4.cell? ⟨wb.heap.size, 1, none⟩ = some (.slice (some ⟨sb, 0, none⟩) 2 2) := bQ.cell 1
  have H4 := Lib.hid (H3.out.below hb4)
  have HB4 := Lib.hid (HB3.out.trans (hb4.mono HB3.out.size))
  have BT4 := Lib.hid bT4
  clear hw4 bT4 bQ hb4 n0 n1 p0 p1 HB3 H3 HM1
  obtain ⟨bA, bL, bS, qA, qL, qS, HMr⟩ := HM2.out
  have HOA4 := Lib.hid HMr.1
  have HOL4 := Lib.hid HMr.2.1
  have HOS4 := Lib.hid HMr.2.2
  clear HMr HM2
  have hlA := HOA4.out.lt gA rfl
  refine wp_last fun K2 hK2 => ?_
  go_cut [] from 17 to 24 (fun wx => ∃ gB cB gL cL gS cS gL2 cL2 gS2 cS2, MergedAt wx w.heap.size gB cB gL cL gS cS gL2 cL2 gS2 cS2 ∧ Below w.heap.size w wx)
  case first =>
    go_region_law (first
      | (refine step_call1 (by rfl) 22 (.tmp 21) #[34] (by rfl) enters22 (.agg #[.slice (some ⟨lb, 0, none⟩) 1 1, .slice (some ⟨sb, 0, none⟩) 2 2]) (by rfl) ?_; refine (copied_any (some ⟨lb, 0, none⟩) (some ⟨sb, 0, none⟩) 1 1 2 2 lblV smp2 w4.drew H4.out.l1.reads.drew H4.out.reads2.drew lblV_one smp2_one (by omega) (by omega)).mono ?_; rintro e u2 ⟨vL, vS, rfl, hoL, hoS, hb3⟩; obtain ⟨gL2, cL2, hvL⟩ := own_succ hoL (by omega); subst hvL; obtain ⟨gS2, cS2, hvS⟩ := own_succ hoS (by omega); subst hvS; refine ⟨_, rfl, ?_⟩; have hb3' : Below w4.heap.size w4 u2 := ((Below.refl w4.heap.size w4).drew).trans hb3; have hu2 := hb3'.size; have bTu := BT4.out.below hb3' (by omega); have d0 : u2.cell? ⟨w.heap.size, 0, none⟩ = some (.slice (some ⟨gA, 0, none⟩) 1 cA) := bTu.cell 0; have k0 : ∀ o, (u2.alloc o).cell? ⟨w.heap.size, 0, none⟩ = some (.slice (some ⟨gA, 0, none⟩) 1 cA) := (fun o => (bTu.alloc o).cell 0); have BTu := Lib.hid bTu; have HOAu := Lib.hid (HOA4.out.kept (only_of_below hb3' none) (by simp [Value.ownBlock])); have HOLu := Lib.hid (HOL4.out.kept (only_of_below hb3' none) (by simp [Value.ownBlock])); have HOSu := Lib.hid (HOS4.out.kept (only_of_below hb3' none) (by simp [Value.ownBlock])); have HOL := Lib.hid hoL; have HOS := Lib.hid hoS; have HBU := Lib.hid hb3'; clear hoL hoS hb3 hb3' bTu)
      | (refine step_append_any (u2.alloc (.cells #[.slice (some ⟨gL2, 0, none⟩) 1 cL2, .slice (some ⟨gS2, 0, none⟩) 2 cS2] 34)) (by rfl) (.tmp 20) (.tmp 23) 22 (by rfl) (bA) 34 i0 (.agg #[.slice none 0 0, .slice none 0 0]) 2 48 Try.underlying22 HI.out HZ0.out HZ1.out HZ2.out rfl (by omega) (.slice (some ⟨gA, 0, none⟩) 1 cA) 1 [.slice (some ⟨gL, 0, none⟩) 1 cL, .slice (some ⟨gS, 0, none⟩) 1 cS] (by rfl) (HOAu.out.alloc _) (u2.heap.size + 1) (some ⟨u2.heap.size, 0, none⟩) 1 1 [.slice (some ⟨gL2, 0, none⟩) 1 cL2, .slice (some ⟨gS2, 0, none⟩) 2 cS2] (by rfl) ⟨rfl, fun _ => ⟨_, rfl, Nat.lt_succ_self _, cells_newL u2 34 _ _ rfl⟩⟩ (by simp [Value.oneCell']) (by simp [maxLen]) (by omega) (by rw [World.size_alloc]; omega) ?_; intro vA x2 hownA hgrowA _; obtain ⟨gB, cB, hvA⟩ := own_succ hownA (by omega); subst hvA; have bTx := (BTu.out.alloc (.cells #[.slice (some ⟨gL2, 0, none⟩) 1 cL2, .slice (some ⟨gS2, 0, none⟩) 2 cS2] 34)).grown hgrowA (own_blk_ne HOAu.out BTu.out (by decide)).symm; have e0 : x2.cell? ⟨w.heap.size, 0, none⟩ = some (.slice (some ⟨gA, 0, none⟩) 1 cA) := bTx.cell 0; have z0 := bTx.frozen 0; have HOA := Lib.hid hownA; have HGA2 := Lib.hid hgrowA; have BTX := Lib.hid bTx; clear hownA hgrowA bTx))
    all_goals
      have hx2 := HGA2.out.size
      rw [World.size_alloc] at hx2
      go_wp2_with fail
      go_meet
      refine ⟨gB, cB, gL, cL, gS, cS, gL2, cL2, gS2, cS2, ⟨BTX.out.set_ 0 _, ⟨bA, qA, ownsRow_setCell_below HOA.out (show w.heap.size < bA from qA) _⟩,
        ⟨bL, qL, ownsRow_setCell_below ((HOLu.out.alloc _).kept HGA2.out (own_own_ne HOLu.out HOAu.out (by decide))) (by show w.heap.size < bL; omega) _⟩,
        ⟨bS, qS, ownsRow_setCell_below ((HOSu.out.alloc _).kept HGA2.out (own_own_ne HOSu.out HOAu.out (by decide))) (by show w.heap.size < bS; omega) _⟩,
        ⟨w4.drew.heap.size + 2, by show w.heap.size + 1 ≤ w4.heap.size + 2; omega, ownsRow_setCell_below ((HOL.out.alloc _).kept HGA2.out (own_own_ne HOL.out HOAu.out (by decide))) (by show w.heap.size < w4.heap.size + 2; omega) _⟩,
        ⟨w4.drew.heap.size + 2, by show w.heap.size + 1 ≤ w4.heap.size + 2; omega, ownsRow_setCell_below ((HOS.out.alloc _).kept HGA2.out (own_own_ne HOS.out HOAu.out (by decide))) (by show w.heap.size < w4.heap.size + 2; omega) _⟩⟩, ?_⟩
      have g0 := HB4.out.trans (HBU.out.mono HB4.out.size)
      have g1 := g0.alloc g0.size (.cells #[.slice (some ⟨gL2, 0, none⟩) 1 cL2, .slice (some ⟨gS2, 0, none⟩) 2 cS2] 34)
      exact (g1.grown HGA2.out g1.size (fun k hk => by have := (HOAu.out.lt k hk).1; omega)).setCell (p := ⟨w.heap.size, 0, none⟩) (Nat.le_refl _) _
  refine hK2 _ _ ?_
  obtain ⟨gB, cB, gL, cL, gS, cS, gL2, cL2, gS2, cS2, hM5, hB5⟩ := hcut
  have HM := Lib.hid hM5
  have HB5 := Lib.hid hB5
  have y0 : wc.cell? ⟨w.heap.size, 0, none⟩ = some (.slice (some ⟨gB, 0, none⟩) 2 cB) := hM5.box.cell 0
  clear hM5 hB5 c0 f0 q0 q1 HOA4 HOL4 HOS4 BT4 HB4 H4
  go_wp2_with fail
  rw [rounds_succ]
  go_wp2_with fail
  rw [rounds_succ]
  go_wp2_with fail
  refine (sort_two gB cB gL cL gL2 cL2 _ _ xA yA _ HM.out.two).mono ?_
  rintro e w6 ⟨rfl, hb6⟩
  have HM6 := Lib.hid (HM.out.below hb6)
  have HB6 := Lib.hid (HB5.out.trans (hb6.mono HB5.out.size))
  clear hb6 y0
  go_wp2
  go_ret
  exact ⟨rfl, ⟨_, _, _, _, _, _, _, _, _, _, HM6.out⟩, HB6.out⟩
end Go.Proofs.Ytnglejopbpnknaa
namespace Go.Proofs.Ytnglejopbpnknaa
open Go.RowKit Go.Shelf

/-- the worlds that have grown from w: below its heap's end nothing has turned -/
def Cls (w : World) : Type := { w' : World // Below w.heap.size w w' }
instance Cls.some (w : World) : Nonempty (Cls w) := ⟨⟨w, Below.refl _ w⟩⟩

theorem wp_region_cls {P : Program} {id : Nat} {Q : Exit → Act → World → Prop} {a : Act} {w : World} {l : List Oper} (hm : P.follows .mixedOrders = true) (hB : Region.lexB .any l.toArray = true)
    (h : wpQuiet P l.toArray (fun w' => ∃ s : Cls w, w' = s.val) (fun a' => ∀ w', (∃ s : Cls w, w' = s.val) → Q .normal a' w') l a) : (Code.region id l.toArray true).wp P Q a w :=
  wp_region_quiet (C := fun w' => ∃ s : Cls w, w' = s.val) hm hB ⟨⟨_, (Below.refl _ w).drew⟩, rfl⟩ (by simpa using h)

theorem Cls.call {P : Program} {f : FuncId} {args : Array Value} {w : World} {s : Cls w} {v : Value} (h : Calls P f args s.val fun e w' => e = .returned v ∧ Below s.val.heap.size s.val w') :
    Calls P f args s.val fun e w'' => e = .returned v ∧ ∃ s : Cls w, w'' = s.val :=
  h.mono fun _ w' ⟨he, hb⟩ => ⟨he, ⟨w', s.2.trans (hb.mono s.2.size)⟩, rfl⟩
end Go.Proofs.Ytnglejopbpnknaa
namespace Go.Proofs.Ytnglejopbpnknaa
open Go.RowKit Go.Shelf
attribute [local go_sem] run_store_float0

theorem wpIn_last {F : Fence} {rm : Nat} {P : Program} {s : Code} {Q : Exit → Act → World → Prop} {a : Act} {w : World}
    (h : ∀ K : Act → World → Prop, (∀ a w, Q .normal a w → K a w) → s.wpIn F rm P (Exit.then K Q) a w) : s.wpIn F rm P Q a w :=
  wpIn_mono (h (Q .normal) (fun _ _ h => h)) (by intro e a w h; cases e <;> exact h)

/-- two samples, as wakes looks for them -/
structure Smp2 (w : World) (g : Nat) : Prop where
  a0 : w.cell? ⟨g, 0, none⟩ = some (.int .i64 1)
  a1 : w.cell? ⟨g, 1, none⟩ = some (.float .f64 4607182418800017408)
  a2 : w.cell? ⟨g, 2, none⟩ = some (.int .i64 2)
  a3 : w.cell? ⟨g, 3, none⟩ = some (.float .f64 4611686018427387904)
  lt : g < w.heap.size
def smpM : List Value := [.int .i64 1, .float .f64 4607182418800017408, .int .i64 2, .float .f64 4611686018427387904]
theorem Smp2.reads {w : World} {g : Nat} (h : Smp2 w g) : Reads w w.heap.size 2 (some ⟨g, 0, none⟩) 2 smpM :=
  reads_of rfl h.lt (fun j u hu => by
    match j with
    | 0 => cases hu; exact h.a0
    | 1 => cases hu; exact h.a1
    | 2 => cases hu; exact h.a2
    | 3 => cases hu; exact h.a3
    | j + 4 => cases hu)

/-- what is handed to yield: a series of one label and two samples, whose blocks are new -/
structure Out (W W1 : World) (gl cl gs cs : Nat) : Prop where
  below : Below W.heap.size W W1
  lab : LblAt W1 gl xA yA
  smp : Smp2 W1 gs
  ll : W.heap.size ≤ gl
  ls : W.heap.size ≤ gs

/-- behind the inner loop -/
structure Mid2 (W wx : World) (one gl cl gs cs : Nat) : Prop where
  below : Below W.heap.size W wx
  blk : Blk wx one 34 #[.slice (some ⟨gl, 0, none⟩) 1 cl, .slice (some ⟨gs, 0, none⟩) 3 cs]
  one_ : W.heap.size ≤ one
  lab : wx.ownsRow (W.heap.size + 2) 61 2 (.slice (some ⟨gl, 0, none⟩) 1 cl) 1 lblV
  smp : wx.ownsRow (W.heap.size + 2) 51 2 (.slice (some ⟨gs, 0, none⟩) 3 cs) 3 (smp1 ++ smp2)

theorem Mid2.three {W wx : World} {one gl cl gs cs : Nat} (h : Mid2 W wx one gl cl gs cs) : ThreeT wx gs 1 1 2 4607182418800017408 4621256167635550208 4611686018427387904 :=
  ⟨by rw [h.smp.cellAt 0 (by omega)]; rfl, by rw [h.smp.cellAt 1 (by omega)]; rfl, by rw [h.smp.cellAt 2 (by omega)]; rfl, by rw [h.smp.cellAt 3 (by omega)]; rfl, by rw [h.smp.cellAt 4 (by omega)]; rfl, by rw [h.smp.cellAt 5 (by omega)]; rfl, (h.smp.lt gs rfl).2⟩

theorem Mid2.drewN {W wx : World} {one gl cl gs cs : Nat} (h : Mid2 W wx one gl cl gs cs) (k : Nat) : Mid2 W (wx.drewN k) one gl cl gs cs :=
  ⟨below_drewN h.below k, h.blk.drewN k, h.one_, h.lab, h.smp⟩
theorem Mid2.below_ {W wx wy : World} {one gl cl gs cs : Nat} (h : Mid2 W wx one gl cl gs cs) (hb : Below wx.heap.size wx wy) : Mid2 W wy one gl cl gs cs :=
  ⟨h.below.trans (hb.mono h.below.size), h.blk.below hb h.blk.lt, h.one_, h.lab.kept (only_of_below hb none) (by simp [Value.ownBlock]), h.smp.kept (only_of_below hb none) (by simp [Value.ownBlock])⟩
theorem own_frozen {w : World} {b g : Nat} {t : TypeId} {z n c : Nat} {xs : List Value} (h : w.ownsRow b t z (.slice (some ⟨g, 0, none⟩) n c) n xs) (i : Nat) : w.frozen? ⟨g, i, none⟩ = false := by
  rcases h.2 with ⟨h1, _⟩ | ⟨g', cap, cur, h1, _, hh, _⟩
  · cases h1
  · cases h1
    exact Blk.frozen hh i
theorem own_cap {w : World} {b g : Nat} {t : TypeId} {z n c : Nat} {xs : List Value} (h : w.ownsRow b t z (.slice (some ⟨g, 0, none⟩) n c) n xs) : n ≤ c := by
  rcases h.2 with ⟨h1, _⟩ | ⟨g', cap, cur, h1, _, _, hc, _⟩
  · cases h1
  · cases h1
    exact hc

set_option maxRecDepth 100000 in
set_option maxHeartbeats 3200000 in
theorem iter_one (n l T gB cB gL cL gS cS gL2 cL2 gS2 cS2 : Nat) (W : World) (h : MergedAt W T gB cB gL cL gS cS gL2 cL2 gS2 cS2) (J Jx : World → Prop)
    (hY : ∀ gl cl gs cs W1, Out W W1 gl cl gs cs → YieldAt Fence.wide (n - 1) Try.prog l #[.agg #[.slice (some ⟨gl, 0, none⟩) 1 cl, .slice (some ⟨gs, 0, none⟩) 2 cs]] W1 fun e W' =>
      (e = .returned (.bool true) ∧ J W' ∧ W'.heap[T]? = W1.heap[T]?) ∨ (e = .returned (.bool false) ∧ Jx W')) :
    CallsIn Fence.wide n Try.prog 26 #[.func (.yield l) #[] #[], .pointer (some ⟨T, 0, none⟩)] W fun e W' => (∃ u, e = .returned u) ∧ (J W' ∨ Jx W') := by
  obtain ⟨j0, hj, hy0, hy1, hy2⟩ := info_parts info51
  have x0 : W.cell? ⟨T, 0, none⟩ = some (.slice (some ⟨gB, 0, none⟩) 2 cB) := h.box.cell 0
  have ht := h.two
  have y0 := ht.a0
  have y1 := ht.a1
  have y2 := ht.a2
  have y3 := ht.a3
  have hl0 := ht.b0.2.2
  have H := Lib.hid h
  have HT := Lib.hid ht
  have HY := Lib.hid hY
  have HJ := Lib.hid hj
  have HZ0 := Lib.hid hy0
  have HZ1 := Lib.hid hy1
  have HZ2 := Lib.hid hy2
  clear h ht hY hj hy0 hy1 hy2
  refine callsIn_of_wp Try.func26 rfl trivial ?_ rfl
  simp only [Try.ntmps26, List.size_toArray, List.length_cons, List.length_nil, Nat.reduceAdd, Nat.reduceSub, Array.replicate_succ, Array.replicate_zero, List.push_toArray, List.append_toArray, List.nil_append, List.cons_append]
  refine wpIn_wide.2 (wp_scope_straight ?_)
  go_wp2_with fail
  go_step3
  go_wp2_with fail
  refine wp_loop_rounds 3 ?_
  rw [rounds_succ]
  go_wp2_with fail
  refine (copied_any (some ⟨gL, 0, none⟩) (some ⟨gS, 0, none⟩) 1 cL 1 cS lblV smp1 W ?_ ?_ lblV_one smp1_one (by omega) (by omega)).mono ?_
  case refine_1 => exact HT.out.b0.reads
  case refine_2 =>
    obtain ⟨b, _, os1⟩ := H.out.s0
    exact Reads.of_own os1
  rintro e w2 ⟨vL, vS, rfl, hoL, hoS, hb2⟩
  obtain ⟨gl, cl, hvL⟩ := own_succ hoL (by omega)
  subst hvL
  obtain ⟨gs, cs, hvS⟩ := own_succ hoS (by omega)
  subst hvS
  have HOL := Lib.hid hoL
  have HOS := Lib.hid hoS
  have HB2 := Lib.hid hb2
  clear hoL hoS hb2
  go_upto_block 2 with fail
  obtain ⟨w3, hw3⟩ : ∃ w3, w2.alloc (.cells #[.slice (some ⟨gl, 0, none⟩) 1 cl, .slice (some ⟨gs, 0, none⟩) 1 cs] 34) = w3 := ⟨_, rfl⟩
  have hs3 : w3.heap.size = w2.heap.size + 1 := by rw [← hw3]; simp
  have hb3 : Below w2.heap.size w2 w3 := by rw [← hw3]; exact (Below.refl _ w2).alloc (Nat.le_refl _) _
  have hbw : Below W.heap.size W w3 := HB2.out.trans (hb3.mono HB2.out.size)
  have bO : Blk w3 w2.heap.size 34 #[.slice (some ⟨gl, 0, none⟩) 1 cl, .slice (some ⟨gs, 0, none⟩) 1 cs] := by rw [← hw3]; exact Blk.new w2 34 _
  have oL3 : w3.ownsRow (W.heap.size + 2) 61 2 (.slice (some ⟨gl, 0, none⟩) 1 cl) 1 lblV := by rw [← hw3]; exact HOL.out.alloc _
  have oS3 : w3.ownsRow (W.heap.size + 2) 51 2 (.slice (some ⟨gs, 0, none⟩) 1 cs) 1 smp1 := by rw [← hw3]; exact HOS.out.alloc _
  have M3 := H.out.below hbw
  rw [hw3]
  have hWs := HB2.out.size
  have HBW := Lib.hid hbw
  have HO := Lib.hid bO
  have HOL3 := Lib.hid oL3
  have HOS3 := Lib.hid oS3
  have HM3 := Lib.hid M3
  have HT3 := Lib.hid M3.two
  clear hw3 hb3 hbw bO oL3 oS3 M3 x0 y0 y1 y2 y3 HOL HOS HB2
  go_cut [3] from 16 to 41 (fun s3 wx => s3 = .int .i64 2 ∧ ∃ gs cs, Mid2 W wx w2.heap.size gl cl gs cs)
  case first =>
    go_wp2_with fail
    refine wp_loop_rounds 2 ?_
    rw [rounds_succ]
    go_wp2_with fail
    have k0 : ∀ s : Cls w3, s.val.cell? ⟨T, 0, none⟩ = some (.slice (some ⟨gB, 0, none⟩) 2 cB) := fun s => (HM3.out.box.below s.2 HM3.out.box.lt).cell 0
    have k1 : ∀ s : Cls w3, s.val.cell? ⟨gB, 2, none⟩ = some (.slice (some ⟨gL2, 0, none⟩) 1 cL2) := fun s => (s.2.cell (p := ⟨gB, 2, none⟩) HT3.out.lt).trans HT3.out.a2
    have k2 : ∀ s : Cls w3, s.val.cell? ⟨w2.heap.size, 0, none⟩ = some (.slice (some ⟨gl, 0, none⟩) 1 cl) := fun s => (HO.out.below s.2 HO.out.lt).cell 0
    have HC := Lib.hid (fun s : Cls w3 => lcompare_one gL2 gl cL2 cl xA yA s.val (HT3.out.b1.below s.2 HT3.out.b1.2.2) ((lbl_of_own HOL3.out).below s.2 (lbl_of_own HOL3.out).2.2))
    refine wp_region_cls (by kernel_rfl) (by kernel_rfl) ?_
    repeat (go_big_quiet_step ((go_at_call 25; exact Cls.call (HC.out _))))
    refine wpQuiet_nil ?_
    rintro _ ⟨s, rfl⟩
    go_wp2_with fail
    obtain ⟨w4, hb4⟩ := s
    dsimp only
    have M4 := HM3.out.below hb4
    have bO4 := HO.out.below hb4 HO.out.lt
    have T4 := HT3.out.below hb4
    have oL4 := HOL3.out.kept (only_of_below hb4 none) (by simp [Value.ownBlock])
    have oS4 := HOS3.out.kept (only_of_below hb4 none) (by simp [Value.ownBlock])
    have c0 : w4.cell? ⟨T, 0, none⟩ = some (.slice (some ⟨gB, 0, none⟩) 2 cB) := M4.box.cell 0
    have c1 : w4.cell? ⟨gB, 3, none⟩ = some (.slice (some ⟨gS2, 0, none⟩) 2 cS2) := T4.a3
    have c2 : w4.cell? ⟨w2.heap.size, 1, none⟩ = some (.slice (some ⟨gs, 0, none⟩) 1 cs) := bO4.cell 1
    have f2 := bO4.frozen 1
    have hR : Reads w4 w4.heap.size 2 (some ⟨gS2, 0, none⟩) 2 smp2 := by
      obtain ⟨b, _, os1⟩ := M4.s1
      exact Reads.of_own os1
    have HB4 := Lib.hid (HBW.out.trans (hb4.mono HBW.out.size))
    have HR := Lib.hid hR
    have HO4 := Lib.hid bO4
    have HOL4 := Lib.hid oL4
    have HOS4 := Lib.hid oS4
    have hlS := (HOS4.out.lt gs rfl)
    have hl4 := hb4.size
    clear M4 bO4 T4 oL4 oS4 hR hb4 HC k0 k1 k2
    refine wp_last fun K hK => ?_
    go_cut [] from 33 to 40 (fun wx => ∃ gs cs, Mid2 W wx w2.heap.size gl cl gs cs)
    case first =>
      go_region_law (first
        | (refine step_append_any w4.drew (by rfl) (.tmp 34) (.tmp 39) 32 (by rfl) (W.heap.size + 2) 51 j0 (.agg #[.int .i64 0, .float .f64 0]) 2 16 Try.underlying32 HJ.out HZ0.out HZ1.out HZ2.out rfl (by omega) (.slice (some ⟨gs, 0, none⟩) 1 cs) 1 smp1 (by rfl) (show World.ownsRow w4.drew _ _ _ _ _ _ from HOS4.out) w4.heap.size (some ⟨gS2, 0, none⟩) 2 cS2 smp2 (by rfl) HR.out.drew smp2_one (by simp [maxLen]) (by omega) (by show W.heap.size + 2 ≤ w4.heap.size; omega) ?_; intro vA x1 hownA hgrowA _; obtain ⟨gs2, cs2, hvA⟩ := own_succ hownA (by omega); subst hvA; have bTx := HO4.out.drew.grown hgrowA (own_blk_ne HOS4.out HO4.out (by decide)).symm; have e0 : x1.cell? ⟨w2.heap.size, 1, none⟩ = some (.slice (some ⟨gs, 0, none⟩) 1 cs) := bTx.cell 1; have z0 := bTx.frozen 1; have HOA := Lib.hid hownA; have HGA := Lib.hid hgrowA; have BTX := Lib.hid bTx; clear hownA hgrowA bTx))
      all_goals
        have hx1 := HGA.out.size
        have hx1' : w4.heap.size ≤ x1.heap.size := hx1
        go_wp2_with fail
        go_meet
        have oL5 := (show World.ownsRow w4.drew (W.heap.size + 2) 61 2 (.slice (some ⟨gl, 0, none⟩) 1 cl) 1 lblV from HOL4.out).kept HGA.out (own_own_ne HOL4.out HOS4.out (by decide))
        refine ⟨gs2, cs2, ?_, BTX.out.set_ 1 _, hWs, ownsRow_setCell_other oL5 (own_blk_ne oL5 BTX.out (by decide)) _, ownsRow_setCell_other HOA.out (own_blk_ne HOA.out BTX.out (by decide)) _⟩
        exact (HB4.out.drew.grown HGA.out HB4.out.size (fun k hk => by cases hk; have := hlS.1; show W.heap.size ≤ gs; omega)).setCell (p := ⟨w2.heap.size, 1, none⟩) hWs _
    obtain ⟨gs2, cs2, hcut⟩ := hcut
    have bO5 := hcut.blk
    have k0 : wc.cell? ⟨T, 0, none⟩ = some (.slice (some ⟨gB, 0, none⟩) 2 cB) := (H.out.box.below hcut.below H.out.box.lt).cell 0
    have HM5 := Lib.hid hcut
    clear hcut bO5 c0 c1 c2 f2 HR HO4 HOL4 HOS4
    refine hK _ _ ?_
    go_wp2_with fail
    rw [rounds_succ]
    go_wp2_with fail
    go_quiet (fail)
    go_wp2_with fail
    go_meet
    exact ⟨rfl, gs2, cs2, HM5.out.drewN _⟩
  obtain ⟨rfl, gs2, cs2, hcut⟩ := hcut
  have c1 : wc.cell? ⟨w2.heap.size, 1, none⟩ = some (.slice (some ⟨gs2, 0, none⟩) 3 cs2) := hcut.blk.cell 1
  have HM := Lib.hid hcut
  have HTH := Lib.hid hcut.three
  clear hcut HOL3 HOS3 HO HT3 HM3 HBW
  go_wp2_with fail
  refine (sort_three gs2 cs2 1 1 2 _ _ _ wc HTH.out (by decide) (by decide)).mono ?_
  rintro e w6 ⟨rfl, hb6⟩
  have HM6 := Lib.hid (HM.out.below_ hb6)
  have HTH6 := Lib.hid (HTH.out.below hb6)
  have c2 : w6.cell? ⟨w2.heap.size, 1, none⟩ = some (.slice (some ⟨gs2, 0, none⟩) 3 cs2) := HM6.out.blk.cell 1
  clear c1 HM HTH hb6
  go_wp2_with fail
  refine (uniq_three gs2 cs2 1 2 _ _ _ w6 HTH6.out (own_frozen HM6.out.smp) (by decide) (own_cap HM6.out.smp)).mono ?_
  rintro e w7 ⟨rfl, ⟨d0, d1, d2, d3⟩, hg7⟩
  have bO7 := HM6.out.blk.grown hg7 (fun e => by have := own_blk_ne HM6.out.smp HM6.out.blk (by decide); simp [Value.ownBlock] at this e; omega)
  have hcell : w7.cell? ⟨w2.heap.size, 1, none⟩ = some (.slice (some ⟨gs2, 0, none⟩) 3 cs2) := bO7.cell 1
  have hfr := bO7.frozen 1
  have hne : gs2 ≠ w2.heap.size := fun e => own_blk_ne HM6.out.smp HM6.out.blk (by decide) (by rw [← e]; rfl)
  have hls := HM6.out.smp.lt gs2 rfl
  have hll := HM6.out.lab.lt gl rfl
  have hb7 : Below W.heap.size W w7 := HM6.out.below.grown hg7 HM6.out.below.size (fun k hk => by cases hk; omega)
  have hO : Out W (w7.setCell ⟨w2.heap.size, 1, none⟩ (.slice (some ⟨gs2, 0, none⟩) 2 cs2)) gl cl gs2 cs2 := by
    have hls7 := Nat.lt_of_lt_of_le hls.2 hg7.size
    have hgl : gl ≠ gs2 := fun e => by
      have := own_own_ne HM6.out.lab HM6.out.smp (by decide)
      subst e
      simp [Value.ownBlock] at this
    have hlab := (lbl_of_own HM6.out.lab)
    have hbl := (hg7.block gl hll.2 (by simpa using hgl))
    have hlo : gl ≠ w2.heap.size := fun e => own_blk_ne HM6.out.lab HM6.out.blk (by decide) (by rw [← e]; rfl)
    refine ⟨hb7.setCell (p := ⟨w2.heap.size, 1, none⟩) hWs _, ?_, ?_, by omega, by omega⟩
    · have hf := fun i => (World.cell?_of_block (a := ⟨gl, i, none⟩) (Below.heap_setCell w7 ⟨w2.heap.size, 1, none⟩ (.slice (some ⟨gs2, 0, none⟩) 2 cs2) gl hlo)).trans (World.cell?_of_block (a := ⟨gl, i, none⟩) hbl)
      exact ⟨(hf 0).trans hlab.1, (hf 1).trans hlab.2.1, by have := hg7.size; simp [World.setCell]; omega⟩
    · have hf := fun i => (World.cell?_of_block (a := ⟨gs2, i, none⟩) (Below.heap_setCell w7 ⟨w2.heap.size, 1, none⟩ (.slice (some ⟨gs2, 0, none⟩) 2 cs2) gs2 hne))
      exact ⟨(hf 0).trans d0, (hf 1).trans d1, (hf 2).trans d2, (hf 3).trans d3, by simp [World.setCell]; omega⟩
  obtain ⟨w8, hw8⟩ : ∃ w8, w7.setCell ⟨w2.heap.size, 1, none⟩ (.slice (some ⟨gs2, 0, none⟩) 2 cs2) = w8 := ⟨_, rfl⟩
  have bO8 : Blk w8 w2.heap.size 34 #[.slice (some ⟨gl, 0, none⟩) 1 cl, .slice (some ⟨gs2, 0, none⟩) 2 cs2] := by rw [← hw8]; exact bO7.set_ 1 _
  rw [hw8] at hO
  obtain ⟨fn, tmps, assign, body, hy, hRd⟩ := HY.out gl cl gs2 cs2 w8 hO
  have e0 : w8.cell? ⟨w2.heap.size, 0, none⟩ = some (.slice (some ⟨gl, 0, none⟩) 1 cl) := bO8.cell 0
  have e1 : w8.cell? ⟨w2.heap.size, 1, none⟩ = some (.slice (some ⟨gs2, 0, none⟩) 2 cs2) := bO8.cell 1
  have k0 : w8.cell? ⟨T, 0, none⟩ = some (.slice (some ⟨gB, 0, none⟩) 2 cB) := (H.out.box.below hO.below H.out.box.lt).cell 0
  have HRd := Lib.hid hRd
  clear bO7 hne hls hll hb7 hO bO8 hRd c2 HM6 HTH6 d0 d1 d2 d3 hg7
  go_upto_region 9 with (fail)
  clear hw8 hcell hfr
  refine (wpIn_wide (n := n)).1 ?_
  gi_wp2
  refine ⟨(fun h => by cases h), HRd.out.mono ?_⟩
  rintro e W3 (⟨rfl, hJ3, hk3⟩ | ⟨rfl, hJx3⟩)
  · have k3 : W3.cell? ⟨T, 0, none⟩ = some (.slice (some ⟨gB, 0, none⟩) 2 cB) := (World.cell?_of_block (a := ⟨T, 0, none⟩) hk3).trans k0
    have HJ3 := Lib.hid hJ3
    clear hJ3 hk3 k0 e0 e1 hy HRd
    gi_wp2
    go_wp2_with fail
    rw [rounds_succ]
    go_wp2_with fail
    rw [Exit.noGoto_normal]
    refine bodyPost_end (results_none rfl _ _ _) rfl ?_
    exact ⟨⟨_, rfl⟩, .inl HJ3.out⟩
  · clear hy HRd
    gi_wp2
    go_wp2_with fail
    rw [Exit.noGoto_normal]
    refine bodyPost_end (results_none rfl _ _ _) rfl ?_
    exact ⟨⟨_, rfl⟩, .inr hJx3⟩
end Go.Proofs.Ytnglejopbpnknaa
namespace Go.Proofs.Ytnglejopbpnknaa
open Go.RowKit

/-- how the body of the round may be left: off its end -/
def ownPost1 (K : Nat → Prop) (I : World → Prop) (W : World) : Exit → Act → World → Prop
  | .normal, _, W' => (∀ k, K k → W'.heap[k]? = W.heap[k]?) ∧ I W'
  | .ret, _, _ => False
  | .exit _, _, _ => False
  | .goto _, _, _ => False
  | .panic _, _, _ => False
  | .outgrown, _, _ => False

variable {F : Fence} {n : Nat} {P : Program}

theorem wpIn_rangeFunc_1 {g : Operand} {ps : Array Tmp} {assign body : Code} {Q : Exit → Act → World → Prop} {a : Act} {w : World}
    (hro : F.round = none) (h1 : 1 ≤ n) {gf : Nat} {lb : Array Value} (hg : a.eval g = .func (.func gf) #[] lb) (hFg : F.fn gf) (eg : ∀ args w, (callFunc gf args).run P w = .ok (.enter gf args) w)
    (C : World → Array Value → World → Prop) (keep : Nat) (hkeep : keep < w.heap.size)
    (hseq : ∀ (l : Nat) (J Jx : World → Prop) (W : World), Below w.heap.size w W →
      (∀ args W1, C W args W1 → YieldAt F (n - 1 - 1) P l args W1 fun e W' => (e = .returned (.bool true) ∧ J W' ∧ W'.heap[keep]? = W1.heap[keep]?) ∨ (e = .returned (.bool false) ∧ Jx W')) →
      CallsIn F (n - 1) P gf (#[.func (.yield l) #[] #[]] ++ lb) W fun e W' => (∃ v, e = .returned v) ∧ (J W' ∨ Jx W'))
    (hC : ∀ W args W1, C W args W1 → args.size = ps.size ∧ Below W.heap.size W W1)
    (I : World → Prop) (hI : ∀ A B, I A → A.grownBy B (some (w.heap.size + 1)) → I B)
    (a₁ : Array Value → World → Act) (o : Array Value → Obj)
    (hassign : ∀ (l : Nat) (W W1 : World) (args : Array Value) (K : Act → World → Prop), C W args W1 → K (a₁ args W1) (W1.alloc (o args)) →
      assign.wpIn (F.inRound l) (n - 1 - 1) P (Exit.then K (fun _ _ _ => False)) { tmps := (ps.zip args).foldl (fun t (p, v) => t.setIfInBounds p v) a.tmps, defers := [] } W1)
    (hbody : ∀ (l : Nat) (W W1 W3 : World) (args : Array Value), C W args W1 → Below w.heap.size w W → W.heap.size = w.heap.size + 2 → (W1.alloc (o args)).grownBy W3 (some (w.heap.size + 1)) →
      body.wpIn (F.inRound l) (n - 1 - 1) P (ownPost1 (fun k => k = w.heap.size ∨ k = w.heap.size + 1 ∨ k = keep) I W3) (a₁ args W1) W3)
    (hdone : ∀ (W : World), I W → W.heap[w.heap.size]? = some (.deferred (some [])) → Q .normal { a with defers := { target := .collected w.heap.size, args := #[] } :: a.defers } W) :
    (Code.rangeFunc g ps assign body).wpIn F n P Q a w := by
  refine wpIn_rangeFunc ?_
  intro fn hfn
  rw [hro]
  obtain ⟨rec, hrec⟩ : ∃ rec : LoopState → Option Code → Loop, rec = fun st pe => { state := st, pending := pe, fn, tmps := a.tmps, params := ps, assign, body, defers := w.heap.size } := ⟨_, rfl⟩
  obtain ⟨W1, hW1⟩ : ∃ W1, (w.alloc (.deferred (some []))).alloc (.loop (rec .ready none)) = W1 := ⟨_, rfl⟩
  have hsz : W1.heap.size = w.heap.size + 2 := by rw [← hW1]; simp
  have hL1 : W1.heap[w.heap.size + 1]? = some (.loop (rec .ready none)) := by
    rw [← hW1]; have := World.alloc_heap_new (w.alloc (.deferred (some []))) (.loop (rec .ready none)); rwa [World.size_alloc] at this
  have hK1 : W1.heap[w.heap.size]? = some (.deferred (some [])) := by
    rw [← hW1]; exact (Below.heap_alloc _ _ _ (by simp)).trans (World.alloc_heap_new w _)
  have hb1 : Below w.heap.size w W1 := by
    rw [← hW1]; exact ((Below.refl _ w).alloc (Nat.le_refl _) _).alloc (by simp) _
  have hput : ∀ (W : World) (o : Obj), W.grownBy (W.putObj (w.heap.size + 1) o) (some (w.heap.size + 1)) := fun W o => grownBy_putObj' W _ o
  refine ⟨w.heap.size + 1, [{ target := .collected w.heap.size, args := #[] }], W1, { target := .fn (.func gf) lb, args := #[.func (.yield (w.heap.size + 1)) #[] #[]] }, W1, gf,
    #[.func (.yield (w.heap.size + 1)) #[] #[]] ++ lb, W1, ?_, ?_, ?_, ?_, fun _ => h1, ?_⟩
  · rw [← hW1, hrec]; exact run_enterLoop_outer _ _ _ _ _
  · simp only [resolve, hg]
    simp [go_sem]
  · intro f' hf'; simp [Target.leads] at hf'; subst hf'; exact hFg
  · simp [invoke, go_sem, eg]
  · refine (hseq (w.heap.size + 1)
      (fun W => I W ∧ W.heap[w.heap.size + 1]? = some (.loop (rec .ready none)) ∧ W.heap[w.heap.size]? = some (.deferred (some [])))
      (fun _ => False) W1 hb1 ?_).mono ?_
    · intro args W hc
      obtain ⟨hps, hbW⟩ := hC W1 args W hc
      have hl : W.heap[w.heap.size + 1]? = some (.loop (rec .ready none)) := (hbW.block _ (by omega)).trans hL1
      have hk : W.heap[w.heap.size]? = some (.deferred (some [])) := (hbW.block _ (by omega)).trans hK1
      have hlt : w.heap.size + 1 < W.heap.size := (Array.getElem?_eq_some_iff.1 hl).1
      have hy := run_yield (P := P) (args := args) hl (by rw [hrec]; exact hps)
      rw [hrec] at hy
      obtain ⟨Wa, hWa⟩ : ∃ Wa, W.alloc (o args) = Wa := ⟨_, rfl⟩
      have hla : Wa.heap[w.heap.size + 1]? = some (.loop (rec .ready none)) := by rw [← hWa]; exact (Below.heap_alloc W _ _ hlt).trans hl
      have hka : Wa.heap[w.heap.size]? = some (.deferred (some [])) := by rw [← hWa]; exact (Below.heap_alloc W _ _ (by omega)).trans hk
      have hkpa : Wa.heap[keep]? = W.heap[keep]? := by rw [← hWa]; exact Below.heap_alloc W _ _ (by omega)
      have hlta : w.heap.size + 1 < Wa.heap.size := (Array.getElem?_eq_some_iff.1 hla).1
      refine ⟨fn, _, assign, body, hy, roundIn_of_wpIn hfn (hassign _ W1 W args _ hc ?_)⟩
      rw [hWa]
      refine ⟨_, run_beginRound hla (by rw [hrec]), ?_⟩
      obtain ⟨W2, hW2⟩ : ∃ W2, Wa.putObj (w.heap.size + 1) (.loop { rec .ready none with state := .busy }) = W2 := ⟨_, rfl⟩
      have hl2 : W2.heap[w.heap.size + 1]? = some (.loop { rec .ready none with state := .busy }) := by rw [← hW2]; exact World.putObj_heap_same hlta
      have hg2 : Wa.grownBy W2 (some (w.heap.size + 1)) := by rw [← hW2]; exact hput _ _
      have hk2 : W2.heap[w.heap.size]? = some (.deferred (some [])) := (hg2.block _ (by omega) (by simp)).trans hka
      have hkp2 : W2.heap[keep]? = W.heap[keep]? := (hg2.block _ (by omega) (by simp; omega)).trans hkpa
      rw [hW2]
      refine wpIn_mono (hbody _ W1 W W2 args hc hb1 hsz (by rw [hWa]; exact hg2)) ?_
      rintro e a3 W3 hp
      cases e with
      | normal =>
        obtain ⟨hk3, hi3⟩ := hp
        have hl3 := (hk3 (w.heap.size + 1) (.inr (.inl rfl))).trans hl2
        have h03 := (hk3 w.heap.size (.inl rfl)).trans hk2
        have hkp3 := (hk3 keep (.inr (.inr rfl))).trans hkp2
        have hr := run_endRound (P := P) none hl3
        rw [hrec] at hr
        refine ⟨_, _, hr, .inl ⟨rfl, ⟨hI _ _ hi3 (hput _ _), ?_, (World.putObj_heap_other (by omega)).trans h03⟩, (World.putObj_heap_other (by omega)).trans hkp3⟩⟩
        rw [hrec]; exact World.putObj_heap_same (Array.getElem?_eq_some_iff.1 hl3).1
      | ret => exact hp.elim
      | exit id => exact hp.elim
      | goto t => exact hp.elim
      | panic ch => exact hp.elim
      | outgrown => exact hp.elim
    · rintro e W2 ⟨⟨v, rfl⟩, (⟨hi, hl, hk⟩ | hx)⟩
      · exact ⟨none, _, by have := run_endLoop (P := P) hl (by rw [hrec]; simp); rw [hrec] at this; exact this, hdone _ (hI _ _ hi (hput _ _)) ((World.putObj_heap_other (by omega)).trans hk)⟩
      · exact hx.elim
end Go.Proofs.Ytnglejopbpnknaa
namespace Go.Proofs.Ytnglejopbpnknaa
open Go.RowKit Go.Shelf
attribute [local go_sem] Oper.semAt_some run_store_float0
attribute [-go_sem] Builtin.append_

/-- what Collect hands back -/
structure ColAt (w0 w : World) (g c gl cl gs cs : Nat) : Prop where
  box : Blk w w0.heap.size 22 #[.slice (some ⟨g, 0, none⟩) 1 c]
  all_ : w.ownsRow (w0.heap.size + 3) 34 2 (.slice (some ⟨g, 0, none⟩) 1 c) 1 [.slice (some ⟨gl, 0, none⟩) 1 cl, .slice (some ⟨gs, 0, none⟩) 2 cs]
  smp : w.ownsRow (w0.heap.size + 3) 51 2 (.slice (some ⟨gs, 0, none⟩) 2 cs) 2 smpM
  below : Below w0.heap.size w0 w

theorem ColAt.grown {w0 w w' : World} {g c gl cl gs cs r : Nat} (h : ColAt w0 w g c gl cl gs cs) (hg : w.grownBy w' (some r)) (h1 : w0.heap.size < r) (h2 : r < w0.heap.size + 3) : ColAt w0 w' g c gl cl gs cs :=
  ⟨h.box.grown hg (by simp; omega), h.all_.kept hg (.inr (by have := (h.all_.lt g rfl).1; simp [Value.ownBlock]; omega)), h.smp.kept hg (.inr (by have := (h.smp.lt gs rfl).1; simp [Value.ownBlock]; omega)), h.below.grown hg h.below.size (fun k hk => by cases hk; omega)⟩
theorem own_lower {w : World} {b b' : Nat} {e : TypeId} {z n : Nat} {v : Value} {xs : List Value} (h : w.ownsRow b e z v n xs) (hb : b' ≤ b) : w.ownsRow b' e z v n xs :=
  ⟨h.1, h.2.imp id fun ⟨g, c, cur, a, b, r⟩ => ⟨g, c, cur, a, by omega, r⟩⟩
/-- the cells of the struct that yield is handed -/
def cellsOf (args : Array Value) : Array Value := match args[0]? with | some (Value.agg cs) => cs | _ => #[]
theorem smpM_one : ∀ u ∈ smpM, u.oneCell' = true := by decide

def ItC (W : World) (args : Array Value) (W1 : World) : Prop := ∃ gl cl gs cs, args = #[.agg #[.slice (some ⟨gl, 0, none⟩) 1 cl, .slice (some ⟨gs, 0, none⟩) 2 cs]] ∧ Out W W1 gl cl gs cs

set_option maxRecDepth 100000 in
set_option maxHeartbeats 3200000 in
theorem collect_one (T gB cB gL cL gS cS gL2 cL2 gS2 cS2 : Nat) (w : World) (h : MergedAt w T gB cB gL cL gS cS gL2 cL2 gS2 cS2) :
    Calls Try.prog 33 #[.func (.func 26) #[] #[.pointer (some ⟨T, 0, none⟩)]] w fun e w' => ∃ g c gl cl gs cs, e = .returned (.slice (some ⟨g, 0, none⟩) 1 c) ∧ ColAt w w' g c gl cl gs cs := by
  have hTl := h.box.lt
  have H := Lib.hid h
  clear h
  refine (callsIn_wide (n := 9)).1 ?_
  refine callsIn_of_wp_marks Try.func33 rfl trivial ?_ rfl
  simp only [Try.ntmps33, List.size_toArray, List.length_cons, List.length_nil, Nat.reduceAdd, Nat.reduceSub, Array.replicate_succ, Array.replicate_zero, List.push_toArray, List.append_toArray, List.nil_append, List.cons_append]
  gi_wp2_with fail
  obtain ⟨w2, hw2⟩ : ∃ w2, w.alloc (.cells #[.slice none 0 0] 22) = w2 := ⟨_, rfl⟩
  have hs2 : w2.heap.size = w.heap.size + 1 := by rw [← hw2]; simp
  have bX : Blk w2 w.heap.size 22 #[.slice none 0 0] := by rw [← hw2]; exact Blk.new w 22 _
  have hb2 : Below w.heap.size w w2 := by rw [← hw2]; exact (Below.refl _ w).alloc (Nat.le_refl _) _
  rw [hw2]
  have HX := Lib.hid bX
  have HB := Lib.hid hb2
  have H2 := Lib.hid (H.out.below hb2)
  clear hw2 bX hb2
  rename_i K hKK
  have hdone : ∀ W : World, (∃ g c gl cl gs cs, ColAt w W g c gl cl gs cs) → W.heap[w2.heap.size]? = some (.deferred (some [])) → K
      { tmps := #[.func (.func 26) #[] #[.pointer (some ⟨T, 0, none⟩)], undef, .slice none 0 0, .pointer (some ⟨w.heap.size, 0, none⟩), undef, .func (.func 26) #[] #[.pointer (some ⟨T, 0, none⟩)], undef, undef, undef, undef, undef, undef, undef], defers := [{ target := .collected w2.heap.size, args := #[] }] } W := by
    rintro W ⟨g, c, gl, cl, gs, cs, hc⟩ hdf
    refine hKK _ _ ?_
    clear hKK
    have x0 : W.cell? ⟨w.heap.size, 0, none⟩ = some (.slice (some ⟨g, 0, none⟩) 1 c) := hc.box.cell 0
    have HC := Lib.hid hc
    have HDF := Lib.hid hdf
    clear hc hdf
    gi_wp2
    refine ⟨by simp, .inl ⟨_, _, rfl, run_takeDeferred HDF.out, ?_⟩⟩
    refine ⟨_, results_tmp rfl _ _ _, g, c, gl, cl, gs, cs, rfl, HC.out.grown (grownBy_putObj' W w2.heap.size _) (by omega) (by omega)⟩
  clear hKK
  refine wpIn_rangeFunc_1 rfl (by omega) (gf := 26) (lb := #[.pointer (some ⟨T, 0, none⟩)]) rfl trivial (enters_of Try.func26 (by kernel_rfl) rfl) ItC T (by omega)
    (fun l J Jx W hbW hy => iter_one _ l T gB cB gL cL gS cS gL2 cL2 gS2 cS2 W (H2.out.below hbW) J Jx (fun gl cl gs cs W1 hO => hy _ W1 ⟨gl, cl, gs, cs, rfl, hO⟩))
    (fun W args W1 hc => by obtain ⟨gl, cl, gs, cs, rfl, hO⟩ := hc; exact ⟨rfl, hO.below⟩)
    (fun W => ∃ g c gl cl gs cs, ColAt w W g c gl cl gs cs) (fun A B hA hg => by obtain ⟨g, c, gl, cl, gs, cs, hA⟩ := hA; exact ⟨g, c, gl, cl, gs, cs, hA.grown hg (by omega) (by omega)⟩)
    (fun args W1 => { tmps := #[.func (.func 26) #[] #[.pointer (some ⟨T, 0, none⟩)], undef, .slice none 0 0, .pointer (some ⟨w.heap.size, 0, none⟩), .pointer (some ⟨W1.heap.size, 0, none⟩), .func (.func 26) #[] #[.pointer (some ⟨T, 0, none⟩)], args[0]?.getD undef, undef, undef, undef, undef, undef, undef], defers := [] })
    (fun args => .cells (cellsOf args) 34) ?assign ?body (fun W hI hd => hdone W hI hd)
  case assign =>
    intro l W W1 args K' hC hK'
    obtain ⟨gl, cl, gs, cs, rfl, hO⟩ := hC
    clear hO hdone
    have hK2 : K' { tmps := #[.func (.func 26) #[] #[.pointer (some ⟨T, 0, none⟩)], undef, .slice none 0 0, .pointer (some ⟨w.heap.size, 0, none⟩), .pointer (some ⟨W1.heap.size, 0, none⟩), .func (.func 26) #[] #[.pointer (some ⟨T, 0, none⟩)],
      .agg #[.slice (some ⟨gl, 0, none⟩) 1 cl, .slice (some ⟨gs, 0, none⟩) 2 cs], undef, undef, undef, undef, undef, undef], defers := [] } (W1.alloc (.cells #[.slice (some ⟨gl, 0, none⟩) 1 cl, .slice (some ⟨gs, 0, none⟩) 2 cs] 34)) := hK'
    clear hK'
    gi_wp2
    exact hK2
  case body =>
    intro l W W1 W3 args hC hbW hsW hg
    clear hdone
    obtain ⟨gl, cl, gs, cs, rfl, hO⟩ := hC
    have hll := hO.ll
    have hls := hO.ls
    have hlb := hO.lab.2.2
    have hsb := hO.smp.lt
    have bX := ((HX.out.below hbW HX.out.lt).below hO.below (by have := HX.out.lt; omega)).alloc (.cells #[.slice (some ⟨gl, 0, none⟩) 1 cl, .slice (some ⟨gs, 0, none⟩) 2 cs] 34)
    have bO := Blk.new W1 34 #[.slice (some ⟨gl, 0, none⟩) 1 cl, .slice (some ⟨gs, 0, none⟩) 2 cs]
    obtain ⟨Wa, hWa⟩ : ∃ Wa, W1.alloc (.cells #[.slice (some ⟨gl, 0, none⟩) 1 cl, .slice (some ⟨gs, 0, none⟩) 2 cs] 34) = Wa := ⟨_, rfl⟩
    have hga : Wa.grownBy W3 (some (w2.heap.size + 1)) := by rw [← hWa]; exact hg
    rw [hWa] at bX bO
    have hba : Below W1.heap.size W1 Wa := by rw [← hWa]; exact (Below.refl _ W1).alloc (Nat.le_refl _) _
    have hsa := hba.size
    have hWs := hO.below.size
    have bX3 : Blk W3 w.heap.size 22 #[.slice none 0 0] := bX.grown hga (by simp; omega)
    have bO3 : Blk W3 W1.heap.size 34 #[.slice (some ⟨gl, 0, none⟩) 1 cl, .slice (some ⟨gs, 0, none⟩) 2 cs] := bO.grown hga (by simp; omega)
    have hs3 := hga.size
    have hl3 : W3.heap[gl]? = W1.heap[gl]? := (hga.block gl (by omega) (by simp; omega)).trans (hba.block gl hlb)
    have hq3 : W3.heap[gs]? = W1.heap[gs]? := (hga.block gs (by omega) (by simp; omega)).trans (hba.block gs hsb)
    have hL3 : LblAt W3 gl xA yA := ⟨(World.cell?_of_block (a := ⟨gl, 0, none⟩) hl3).trans hO.lab.1, (World.cell?_of_block (a := ⟨gl, 1, none⟩) hl3).trans hO.lab.2.1, by omega⟩
    have hS3 : Smp2 W3 gs := ⟨(World.cell?_of_block (a := ⟨gs, 0, none⟩) hq3).trans hO.smp.a0, (World.cell?_of_block (a := ⟨gs, 1, none⟩) hq3).trans hO.smp.a1, (World.cell?_of_block (a := ⟨gs, 2, none⟩) hq3).trans hO.smp.a2, (World.cell?_of_block (a := ⟨gs, 3, none⟩) hq3).trans hO.smp.a3, by omega⟩
    have hb3 : Below w.heap.size w W3 := ((HB.out.trans (hbW.mono HB.out.size)).trans (hO.below.mono (by omega))).trans ((hba.mono (by omega)).grown hga (by omega) (fun k hk => by cases hk; omega))
    have x0 : W3.cell? ⟨w.heap.size, 0, none⟩ = some (.slice none 0 0) := bX3.cell 0
    have f0 := bX3.frozen 0
    have o0 : W3.cell? ⟨W1.heap.size, 0, none⟩ = some (.slice (some ⟨gl, 0, none⟩) 1 cl) := bO3.cell 0
    have o1 : W3.cell? ⟨W1.heap.size, 1, none⟩ = some (.slice (some ⟨gs, 0, none⟩) 2 cs) := bO3.cell 1
    have HL3 := Lib.hid hL3
    have HS3 := Lib.hid hS3
    have HX3 := Lib.hid bX3
    have HB3 := Lib.hid hb3
    have hz : W1.heap.size < W3.heap.size := bO3.lt
    have hz2 : w.heap.size + 3 ≤ W1.heap.size := by omega
    clear hWa hga bX bO hba bX3 bO3 hl3 hq3 hL3 hS3 hb3 hO hg hbW
    change Code.wpIn _ _ _ _ _ { tmps := #[.func (.func 26) #[] #[.pointer (some ⟨T, 0, none⟩)], undef, .slice none 0 0, .pointer (some ⟨w.heap.size, 0, none⟩), .pointer (some ⟨W1.heap.size, 0, none⟩), .func (.func 26) #[] #[.pointer (some ⟨T, 0, none⟩)],
      .agg #[.slice (some ⟨gl, 0, none⟩) 1 cl, .slice (some ⟨gs, 0, none⟩) 2 cs], undef, undef, undef, undef, undef, undef], defers := [] } _
    obtain ⟨i0, hi, hz0, hz1, hz2'⟩ := info_parts info34
    have HI := Lib.hid hi
    have HZ0 := Lib.hid hz0
    have HZ1 := Lib.hid hz1
    have HZ2 := Lib.hid hz2'
    clear hi hz0 hz1 hz2'
    gi_wp2_with fail
    gi_region_with (refine ⟨trivial, (CallsIn.inRound l (callsIn_wide.2 (copied_any (some ⟨gl, 0, none⟩) (some ⟨gs, 0, none⟩) 1 cl 2 cs lblV smpM W3.drew HL3.out.reads.drew HS3.out.reads.drew lblV_one smpM_one (by omega) (by omega)))).mono ?_⟩; rintro e u ⟨vL, vS, rfl, hoL, hoS, hb4⟩; obtain ⟨gl2, cl2, hvL⟩ := own_succ hoL (by omega); subst hvL; obtain ⟨gs2, cs2, hvS⟩ := own_succ hoS (by omega); subst hvS; have hb4' : Below W3.heap.size W3 u := ((Below.refl W3.heap.size W3).drew).trans hb4; have hsu := hb4'.size; have bXu := (HX3.out.below hb4' HX3.out.lt).alloc (.cells #[.slice (some ⟨gl2, 0, none⟩) 1 cl2, .slice (some ⟨gs2, 0, none⟩) 2 cs2] 34); obtain ⟨vA, x1, hrun, hown, hgrow, -⟩ := run_append_any (P := Try.prog) (w := u.alloc (.cells #[.slice (some ⟨gl2, 0, none⟩) 1 cl2, .slice (some ⟨gs2, 0, none⟩) 2 cs2] 34)) (w.heap.size + 3) 22 22 34 i0 (.agg #[.slice none 0 0, .slice none 0 0]) 2 48 Try.underlying22 HI.out HZ0.out HZ1.out HZ2.out rfl (by omega) (.slice none 0 0) 0 [] (World.ownsRow_nil _ _ _ _) (u.heap.size + 1) (some ⟨u.heap.size, 0, none⟩) 1 1 [.slice (some ⟨gl2, 0, none⟩) 1 cl2, .slice (some ⟨gs2, 0, none⟩) 2 cs2] ⟨rfl, fun _ => ⟨_, rfl, Nat.lt_succ_self _, cells_newL u 34 _ _ rfl⟩⟩ (by simp [Value.oneCell']) (by simp [maxLen]) (by omega) (by rw [World.size_alloc]; omega); obtain ⟨gA, cA, hvA⟩ := own_succ hown (by omega); subst hvA; have bXx := bXu.grown hgrow (by simp [Value.ownBlock]); have d0 : u.cell? ⟨w.heap.size, 0, none⟩ = some (.slice none 0 0) := (HX3.out.below hb4' HX3.out.lt).cell 0; have k0 : ∀ o, (u.alloc o).cell? ⟨w.heap.size, 0, none⟩ = some (.slice none 0 0) := (fun o => ((HX3.out.below hb4' HX3.out.lt).alloc o).cell 0); have e0 : x1.cell? ⟨w.heap.size, 0, none⟩ = some (.slice none 0 0) := bXx.cell 0; have z0 := bXx.frozen 0; have HBX := Lib.hid bXx; have HOA := Lib.hid hown; have HGA := Lib.hid hgrow; have HOS := Lib.hid hoS; have HB4 := Lib.hid hb4'; clear bXx hown hgrow hoS hoL hb4 hb4' bXu)
    all_goals
      clear hrun d0 k0 e0 z0
      have hx1 := HGA.out.size
      rw [World.size_alloc] at hx1
      refine ⟨fun k hk => ?_, gA, cA, gl2, cl2, gs2, cs2, HBX.out.set_ 0 _, ownsRow_setCell_below HOA.out (show w.heap.size < w.heap.size + 3 by omega) _, ownsRow_setCell_below (((own_lower HOS.out (by show w.heap.size + 3 ≤ W3.heap.size + 2; omega)).alloc _).kept HGA.out (.inr (by simp [Value.ownBlock]))) (show w.heap.size < w.heap.size + 3 by omega) _, ?_⟩
      · have hk1 : k ≠ w.heap.size ∧ k < W3.heap.size := by
          rcases hk with rfl | rfl | rfl <;> omega
        exact (Below.heap_setCell _ _ _ k hk1.1).trans ((HGA.out.block k (by rw [World.size_alloc]; omega) (by simp [Value.ownBlock])).trans ((Below.heap_alloc _ _ k (by omega)).trans (HB4.out.block k hk1.2)))
      · have g0 := HB3.out.trans (HB4.out.mono HB3.out.size)
        have g1 := g0.alloc g0.size (.cells #[.slice (some ⟨gl2, 0, none⟩) 1 cl2, .slice (some ⟨gs2, 0, none⟩) 2 cs2] 34)
        exact (g1.grown HGA.out g1.size (fun k hk => by simp [Value.ownBlock] at hk)).setCell (p := ⟨w.heap.size, 0, none⟩) (Nat.le_refl _) _
end Go.Proofs.Ytnglejopbpnknaa
