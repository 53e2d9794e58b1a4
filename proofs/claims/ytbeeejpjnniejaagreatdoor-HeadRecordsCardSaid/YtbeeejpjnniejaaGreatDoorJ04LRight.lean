/- The program's test of one label (labels.right), exactly: it is the document's. A range over a function whose iterator tells known values: outermost, and within a round of another. Printed by gen_range.py. Append onto a row of the call's own inside a fence, from any source and from a string; bytes as values. The iterator over a row of labels (labels.All): it tells each label's name and value. What a row of labels is written as (labels.Bytes): its count, and of each text how long it is, and its bytes. A region that draws its order and whose callees may make memory of their own: one walk in the order of the text, over the class of worlds that grew from one. -/
import Derived.Test.YtbeeejpjnniejaaGreatDoorJ01Keep
import Derived.Test.YtbeeejpjnniejaaGreatDoorJ02Utf
import Derived.Test.YtbeeejpjnniejaaGreatDoorShelf
import Derived.RangeFuncNested
import Derived.RangeFuncKeeps
import Derived.RangeFuncBound
import Derived.RangeFuncCalls
import Derived.RangeFuncLeaves
import Derived.Shelf.RegionOpen
import Derived.OwnWalkIn
import Derived.TacticsInMore
import Derived.LoopNIn
import Derived.LoopIn
import Derived.Deep.CutBlock
import Derived.Sort.CutIn
import Derived.Test.YtbeeejpjnniejaaGreatDoorJ00Lib
import Derived.Lib.AppendStr
import Derived.Laws.BitsAllLaws
import Derived.BigQuiet
namespace Go.Proofs.YtbeeejpjnniejaaGreatDoor
open Go.RowKit
/-- the library's tables on UTF-8 lie as their texts lay them -/
def Tabs (w : World) : Prop := Lib.Utf8Tabs 1 2 w
theorem Tabs.keep {w w' : World} (h : Tabs w) (hb : ∀ k, k < 3 → w'.heap[k]? = w.heap[k]?) : Tabs w' :=
  ⟨fun c hc => (World.cell?_of_block (a := ⟨1, c, none⟩) (hb 1 (by omega))).trans (h.1 c hc), fun i hi => ⟨(World.cell?_of_block (a := ⟨2, 2 * i, none⟩) (hb 2 (by omega))).trans (h.2 i hi).1, (World.cell?_of_block (a := ⟨2, 2 * i + 1, none⟩) (hb 2 (by omega))).trans (h.2 i hi).2⟩⟩
theorem Tabs.lt {w : World} (h : Tabs w) : 2 < w.heap.size := World.block_lt_of_cell? w _ (h.2 0 (by omega)).1
theorem Tabs.below {w w' : World} {B : Nat} (h : Tabs w) (hb : Below B w w') (hB : 2 < B) : Tabs w' := h.keep fun k hk => hb.block k (by omega)
theorem Tabs.below_ {w w' : World} (h : Tabs w) (hb : Below w.heap.size w w') : Tabs w' := h.below hb h.lt
theorem Tabs.alloc {w : World} (h : Tabs w) (o : Obj) : Tabs (w.alloc o) := h.below_ ((Below.refl _ w).alloc (Nat.le_refl _) o)
theorem validstr_any (s : ByteArray) (w : World) (hs : s.size ≤ 9223372036854775807) (hT : Tabs w) :
    Calls Tryz.prog 212 #[.string s] w fun e w' => e = .returned (.bool (validB s)) ∧ Below w.heap.size w w' := by
  rw [← validD_eq]
  exact Tryz.utf8_ValidString s w hs hT
set_option maxHeartbeats 1600000 in
theorem lright_any (x y : ByteArray) (w : World) (hT : Tabs w) (hx : x.size ≤ 9223372036854775807) (hy : y.size ≤ 9223372036854775807) : Calls Tryz.prog 166 #[.agg #[.string x, .string y]] w fun e w' => e = .returned (.bool (fairB x y)) ∧ Below w.heap.size w w' := by
  obtain ⟨b1, hb1⟩ : ∃ b, b = wordB x false := ⟨_, rfl⟩
  obtain ⟨b2, hb2⟩ : ∃ b, b = validB y := ⟨_, rfl⟩
  obtain ⟨b3, hb3⟩ : ∃ b, b = wordB y true := ⟨_, rfl⟩
  have C1 := Lib.hid (fun w => show Calls Tryz.prog 211 #[.string x] w fun e w' => e = .returned (.bool b1) ∧ w = w' by rw [hb1]; exact rightname_any x w hx)
  have C2 := Lib.hid (fun w (h : Tabs w) => show Calls Tryz.prog 212 #[.string y] w fun e w' => e = .returned (.bool b2) ∧ Below w.heap.size w w' by rw [hb2]; exact validstr_any y w hy h)
  have C3 := Lib.hid (fun w => show Calls Tryz.prog 213 #[.string y] w fun e w' => e = .returned (.bool b3) ∧ w = w' by rw [hb3]; exact rightmetric_any y w hy)
  have HF := Lib.hid (show fairB x y = ((b1 && (decide (y.size ≤ 1024) && b2)) && ((!(x.toList == nameL) || y.toList == []) || b3)) by rw [hb1, hb2, hb3]; rfl)
  have HT := Lib.hid hT
  clear hb1 hb2 hb3 hT
  go_enter Tryz.func166, Tryz.ntmps166
  go_wp2_with fail
  obtain ⟨w2, hw2⟩ : ∃ w2, w2 = w.alloc (.cells #[.string x, .string y] 55) := ⟨_, rfl⟩
  have hb : Below w.heap.size w w2 := by rw [hw2]; exact (Below.refl _ w).alloc (Nat.le_refl _) _
  have b0 : Blk w2 w.heap.size 55 #[.string x, .string y] := by rw [hw2]; exact Blk.new w 55 _
  have c0 : w2.cell? ⟨w.heap.size, 0, none⟩ = some (.string x) := b0.cell 0
  have c1 : w2.cell? ⟨w.heap.size, 1, none⟩ = some (.string y) := b0.cell 1
  rw [← hw2]
  have HT2 := Lib.hid (HT.out.below_ hb)
  have HB := Lib.hid hb
  have HB0 := Lib.hid b0
  clear hw2 hb b0
  refine (C1.out w2).mono ?_
  rintro e w' ⟨rfl, rfl⟩
  cases b1 with
  | false =>
    go_wp2
    go_ret
    exact ⟨by rw [HF.out]; rfl, HB.out⟩
  | true =>
    by_cases h : y.size ≤ 1024
    · have i1 : ¬ (1024 : Int) < (y.size : Int) := by omega
      have HY := Lib.hid (decide_eq_true h)
      clear h
      go_wp2_with fail
      refine (C2.out w2 HT2.out).mono ?_
      rintro e w3 ⟨rfl, hb3⟩
      have b3' := HB0.out.below hb3 HB0.out.lt
      have d0 : w3.cell? ⟨w.heap.size, 0, none⟩ = some (.string x) := b3'.cell 0
      have d1 : w3.cell? ⟨w.heap.size, 1, none⟩ = some (.string y) := b3'.cell 1
      have HB3 := Lib.hid (HB.out.trans (hb3.mono HB.out.size))
      clear c0 c1 hb3 b3'
      cases b2 with
      | false =>
        go_wp2
        go_ret
        exact ⟨by rw [HF.out, HY.out]; rfl, HB3.out⟩
      | true =>
        cases e1 : x.toList == [95, 95, 110, 97, 109, 101, 95, 95] with
        | false =>
          have e1n : (x.toList != [95, 95, 110, 97, 109, 101, 95, 95]) = true := by unfold bne; rw [e1]; rfl
          have HF2 := Lib.hid (show fairB x y = true by rw [HF.out, HY.out]; rw [e1]; rfl)
          go_wp2
          go_ret
          exact ⟨by rw [HF2.out]; rfl, HB3.out⟩
        | true =>
          have e1n : (x.toList != [95, 95, 110, 97, 109, 101, 95, 95]) = false := by unfold bne; rw [e1]; rfl
          cases e2 : y.toList == [] with
          | true =>
            have HF2 := Lib.hid (show fairB x y = true by rw [HF.out, HY.out]; rw [e1, e2]; rfl)
            go_wp2
            go_ret
            exact ⟨by rw [HF2.out]; rfl, HB3.out⟩
          | false =>
            have HF2 := Lib.hid (show fairB x y = b3 by rw [HF.out, HY.out]; rw [e1, e2]; simp)
            go_wp2_with (go_at_call 213; refine (C3.out _).mono ?_; rintro e w' ⟨rfl, rfl⟩)
            go_ret
            exact ⟨by rw [HF2.out]; rfl, HB3.out⟩
    · have i1 : (1024 : Int) < (y.size : Int) := by omega
      have HY := Lib.hid (decide_eq_false h)
      clear h
      go_wp2
      go_ret
      exact ⟨by rw [HF.out, HY.out]; rfl, HB.out⟩
end Go.Proofs.YtbeeejpjnniejaaGreatDoor
namespace Go.Proofs.YtbeeejpjnniejaaGreatDoor
open Go.RowKit

/-- the iterator's contract: it tells N known values, one by one, as far as it is asked; Kp: what every round must keep for it; K0: what it asks where it begins -/
def SeqL (F : Fence) (n : Nat) (P : Program) (g : Nat) (lb : Array Value) (args : Nat → Array Value) (N : Nat) (K0 Kp : World → Prop) : Prop :=
  ∀ (l : Nat) (J : Nat → World → Prop) (Jx : World → Prop) (W : World),
    (∀ k A, J k A → Kp A) →
    (∀ k A B, J k A → Below A.heap.size A B → J k B) →
    (∀ k W1, J k W1 → k < N → YieldAt F (n - 1) P l (args k) W1 fun e W' => (e = .returned (.bool true) ∧ J (k + 1) W') ∨ (e = .returned (.bool false) ∧ Jx W')) →
    K0 W → J 0 W →
    CallsIn F n P g (#[.func (.yield l) #[] #[]] ++ lb) W fun e W' => (∃ v, e = .returned v) ∧ (J N W' ∨ Jx W')
theorem SeqL.inRound {F : Fence} {n : Nat} {P : Program} {g : Nat} {lb : Array Value} {args : Nat → Array Value} {N : Nat} {K0 Kp : World → Prop} (l : Nat) (h : SeqL F n P g lb args N K0 Kp) : SeqL (F.inRound l) n P g lb args N K0 Kp := h
/-- new blocks, or a turn of one from B on that is no cells -/
def Other (B : Nat) (A W : World) : Prop := ∃ row, A.grownBy W row ∧ ∀ l, row = some l → B ≤ l ∧ ∃ o, A.heap[l]? = some o ∧ o.isCells = false
theorem Other.of_below {A W : World} (B : Nat) (h : Below A.heap.size A W) : Other B A W := ⟨none, only_of_below h none, fun l e => by cases e⟩
theorem Other.put {A : World} {B l : Nat} {o : Obj} (hB : B ≤ l) (h : A.heap[l]? = some o) (hc : o.isCells = false) (o' : Obj) : Other B A (A.putObj l o') :=
  ⟨some l, grownBy_putObj' A l o', fun k e => by cases e; exact ⟨hB, o, h, hc⟩⟩
theorem Other.below {A W : World} {B B' : Nat} (h : Other B A W) (hB : B' ≤ B) (hA : B' ≤ A.heap.size) : Below B' A W := by
  obtain ⟨row, h1, h2⟩ := h
  exact ⟨h1.os, h1.tape, h1.output, h1.size, fun k hk => h1.block k (by omega) (fun e => by have := (h2 k e.symm).1; omega)⟩
theorem Other.own {A W : World} {B : Nat} (h : Other B A W) {base : Nat} {e : TypeId} {size n : Nat} {v : Value} {xs : List Value} (ho : A.ownsRow base e size v n xs) : W.ownsRow base e size v n xs := by
  obtain ⟨row, h1, h2⟩ := h
  refine ho.kept h1 ?_
  rcases ho.2 with ⟨rfl, _⟩ | ⟨g, cap, cur, rfl, _, hh, _⟩
  · exact .inl rfl
  · refine .inr fun hv => ?_
    obtain ⟨_, o, ho, hc⟩ := h2 g hv.symm
    rw [hh] at ho
    cases ho
    cases hc
theorem Other.blk {A W : World} {B : Nat} (h : Other B A W) {g : Nat} {t : TypeId} {cs : Array Value} (hb : Blk A g t cs) : Blk W g t cs := by
  obtain ⟨row, h1, h2⟩ := h
  refine hb.grown h1 (fun e => ?_)
  obtain ⟨_, o, ho, hc⟩ := h2 g e.symm
  unfold Blk at hb
  rw [hb] at ho
  cases ho
  cases hc
/-- how the body of a round may be left -/
def postM (B : Nat) (I : Nat → World → Prop) (Ix : Code → World → Prop) (k : Nat) (W : World) : Exit → Act → World → Prop
  | .normal, _, W' => KeepsFrom B W W' ∧ I k W'
  | .ret, _, W' => KeepsFrom B W W' ∧ Ix .ret W'
  | .exit id, _, W' => KeepsFrom B W W' ∧ Ix (.exit id) W'
  | .goto t, _, W' => KeepsFrom B W W' ∧ Ix (.goto t) W'
  | .panic _, _, _ => False
  | .outgrown, _, _ => False

variable {F : Fence} {n : Nat} {P : Program}
theorem below_put {B l : Nat} (W : World) (o : Obj) (h : B ≤ l) : Below B W (W.putObj l o) :=
  ⟨rfl, rfl, rfl, by simp, fun k hk => World.putObj_heap_other (by omega)⟩

theorem wpIn_rangeFunc_l {g : Operand} {ps : Array Tmp} {assign body : Code} {Q : Exit → Act → World → Prop} {a : Act} {w : World}
    (hro : F.round = none) (h1 : 1 ≤ n) {gf : Nat} {lb : Array Value} (hg : a.eval g = .func (.func gf) #[] lb) (hFg : F.fn gf) (eg : ∀ args w, (callFunc gf args).run P w = .ok (.enter gf args) w)
    {args : Nat → Array Value} {N : Nat} {K0 Kp : World → Prop} (hseq : SeqL F (n - 1) P gf lb args N K0 Kp) (hps : ∀ k, (args k).size = ps.size) (hK0 : ∀ A B, K0 A → Below A.heap.size A B → K0 B) (hk0 : K0 w)
    (I : Nat → World → Prop) (Ix : Code → World → Prop) (hIw : ∀ k A, I k A → Kp A)
    (hI : ∀ k A B, I k A → Other w.heap.size A B → I k B) (hIx : ∀ c A B, Ix c A → Other w.heap.size A B → Ix c B)
    (h0 : I 0 w)
    (As : Nat → Act → World → Prop) (hAs : ∀ k a' A B, As k a' A → (∀ l, w.heap.size ≤ l → (∃ r, A.heap[l]? = some (.loop r)) → A.grownBy B (some l) → As k a' B))
    (hassign : ∀ (l k : Nat) (W : World) (K : Act → World → Prop), I k W → k < N → (∀ a' W', Below W.heap.size W W' → As k a' W' → K a' W') →
      assign.wpIn (F.inRound l) (n - 1 - 1) P (Exit.then K (fun _ _ _ => False)) { tmps := (ps.zip (args k)).foldl (fun t (p, v) => t.setIfInBounds p v) a.tmps, defers := [] } W)
    (hbody : ∀ (l k : Nat) (a' : Act) (W : World), w.heap.size ≤ l → (∃ r, W.heap[l]? = some (.loop r)) → I k W → As k a' W → k < N →
      body.wpIn (F.inRound l) (n - 1 - 1) P (postM w.heap.size I Ix (k + 1) W) a' W)
    (hdone : ∀ (W : World), I N W → W.heap[w.heap.size]? = some (.deferred (some [])) → Q .normal { a with defers := { target := .collected w.heap.size, args := #[] } :: a.defers } W)
    (hstop : ∀ (c : Code) (W : World), Ix c W → W.heap[w.heap.size]? = some (.deferred (some [])) → c.wpIn F n P Q { a with defers := { target := .collected w.heap.size, args := #[] } :: a.defers } W) :
    (Code.rangeFunc g ps assign body).wpIn F n P Q a w := by
  refine wpIn_rangeFunc ?_
  intro fn hfn
  rw [hro]
  obtain ⟨rec, hrec⟩ : ∃ rec : LoopState → Option Code → Loop, rec = fun st pe => { state := st, pending := pe, fn, tmps := a.tmps, params := ps, assign, body, defers := w.heap.size } := ⟨_, rfl⟩
  obtain ⟨W1, hW1⟩ : ∃ W1, (w.alloc (.deferred (some []))).alloc (.loop (rec .ready none)) = W1 := ⟨_, rfl⟩
  have hL1 : W1.heap[w.heap.size + 1]? = some (.loop (rec .ready none)) := by
    rw [← hW1]; have := World.alloc_heap_new (w.alloc (.deferred (some []))) (.loop (rec .ready none)); rwa [World.size_alloc] at this
  have hK1 : W1.heap[w.heap.size]? = some (.deferred (some [])) := by
    rw [← hW1]; exact (Below.heap_alloc _ _ _ (by simp)).trans (World.alloc_heap_new w _)
  have hb1 : Below w.heap.size w W1 := by
    rw [← hW1]; exact ((Below.refl _ w).alloc (Nat.le_refl _) _).alloc (by simp) _
  refine ⟨w.heap.size + 1, [{ target := .collected w.heap.size, args := #[] }], W1, { target := .fn (.func gf) lb, args := #[.func (.yield (w.heap.size + 1)) #[] #[]] }, W1, gf,
    #[.func (.yield (w.heap.size + 1)) #[] #[]] ++ lb, W1, ?_, ?_, ?_, ?_, fun _ => h1, ?_⟩
  · rw [← hW1, hrec]; exact run_enterLoop_outer _ _ _ _ _
  · simp only [resolve, hg]
    simp [go_sem]
  · intro f' hf'; simp [Target.leads] at hf'; subst hf'; exact hFg
  · simp [invoke, go_sem, eg]
  · refine (hseq (w.heap.size + 1)
      (fun k W => I k W ∧ W.heap[w.heap.size + 1]? = some (.loop (rec .ready none)) ∧ W.heap[w.heap.size]? = some (.deferred (some [])))
      (fun W => ∃ c, Ix c W ∧ W.heap[w.heap.size + 1]? = some (.loop (rec .done (some c))) ∧ W.heap[w.heap.size]? = some (.deferred (some [])))
      W1 (fun k A h => hIw k A h.1)
      (fun k A B hs hb' => by
        have hlt := (Array.getElem?_eq_some_iff.1 hs.2.1).1
        exact ⟨hI k A B hs.1 (Other.of_below _ hb'), (hb'.block _ hlt).trans hs.2.1, (hb'.block _ (by omega)).trans hs.2.2⟩)
      ?_ (hK0 w W1 hk0 hb1) ⟨hI 0 w W1 h0 (Other.of_below _ hb1), hL1, hK1⟩).mono ?_
    · rintro k W ⟨hi, hl, hk⟩ hkN
      have hy := run_yield (P := P) (args := args k) hl (by rw [hrec]; exact hps k)
      rw [hrec] at hy
      refine ⟨fn, _, assign, body, hy, roundIn_of_wpIn hfn (hassign _ k W _ hi hkN ?_)⟩
      intro a' Wa hba hax
      have hltW : w.heap.size + 1 < W.heap.size := (Array.getElem?_eq_some_iff.1 hl).1
      replace hi := hI k W Wa hi (Other.of_below _ hba)
      replace hk := (hba.block _ (show w.heap.size < W.heap.size by omega)).trans hk
      replace hl := (hba.block _ hltW).trans hl
      have hlt : w.heap.size + 1 < Wa.heap.size := (Array.getElem?_eq_some_iff.1 hl).1
      refine ⟨_, run_beginRound hl (by rw [hrec]), ?_⟩
      obtain ⟨W2, hW2⟩ : ∃ W2, Wa.putObj (w.heap.size + 1) (.loop { rec .ready none with state := .busy }) = W2 := ⟨_, rfl⟩
      have hl2 : W2.heap[w.heap.size + 1]? = some (.loop { rec .ready none with state := .busy }) := by rw [← hW2]; exact World.putObj_heap_same hlt
      have hb2 : Other w.heap.size Wa W2 := by rw [← hW2]; exact Other.put (by omega) hl rfl _
      have hk2 : W2.heap[w.heap.size]? = some (.deferred (some [])) := by rw [← hW2]; exact (World.putObj_heap_other (by omega)).trans hk
      have hg2 : Wa.grownBy W2 (some (w.heap.size + 1)) := by rw [← hW2]; exact grownBy_putObj' Wa _ _
      rw [hW2]
      refine wpIn_mono (hbody _ k a' W2 (by omega) ⟨_, hl2⟩ (hI _ _ _ hi hb2) (hAs _ _ _ _ hax (w.heap.size + 1) (by omega) ⟨_, hl⟩ hg2) hkN) ?_
      have fin : ∀ (jump : Option Code) (W3 : World), KeepsFrom w.heap.size W2 W3 →
          ∃ W4, (Instr.endRound (w.heap.size + 1) jump).run P W3 = .ok (.bool jump.isNone) W4 ∧ Other w.heap.size W3 W4 ∧
          W4.heap[w.heap.size + 1]? = some (.loop (rec (if jump.isNone then .ready else .done) jump)) ∧ W4.heap[w.heap.size]? = some (.deferred (some [])) := fun jump W3 hk3 => by
        have hl3 := hk3.same _ _ (by omega) hl2 rfl
        have h03 := hk3.same _ _ (Nat.le_refl _) hk2 rfl
        have := run_endRound (P := P) jump hl3
        rw [hrec] at this
        refine ⟨_, this, Other.put (by omega) hl3 rfl _, ?_, (World.putObj_heap_other (by omega)).trans h03⟩
        rw [hrec]; exact World.putObj_heap_same (Array.getElem?_eq_some_iff.1 hl3).1
      rintro e a3 W3 hp
      cases e with
      | normal =>
        obtain ⟨hk3, hi3⟩ := hp
        obtain ⟨W4, hr, hg4, hl4, h04⟩ := fin none W3 hk3
        exact ⟨_, _, hr, .inl ⟨rfl, hI _ _ _ hi3 hg4, hl4, h04⟩⟩
      | ret =>
        obtain ⟨hk3, hi3⟩ := hp
        obtain ⟨W4, hr, hg4, hl4, h04⟩ := fin (some .ret) W3 hk3
        exact ⟨_, _, hr, .inr ⟨rfl, .ret, hIx _ _ _ hi3 hg4, hl4, h04⟩⟩
      | exit id =>
        obtain ⟨hk3, hi3⟩ := hp
        obtain ⟨W4, hr, hg4, hl4, h04⟩ := fin (some (.exit id)) W3 hk3
        exact ⟨_, _, hr, .inr ⟨rfl, .exit id, hIx _ _ _ hi3 hg4, hl4, h04⟩⟩
      | goto t =>
        obtain ⟨hk3, hi3⟩ := hp
        obtain ⟨W4, hr, hg4, hl4, h04⟩ := fin (some (.goto t)) W3 hk3
        exact ⟨_, _, hr, .inr ⟨rfl, .goto t, hIx _ _ _ hi3 hg4, hl4, h04⟩⟩
      | panic ch => exact hp.elim
      | outgrown => exact hp.elim
    · rintro e W2 ⟨⟨v, rfl⟩, (⟨hi, hl, hk⟩ | ⟨c, hi, hl, hk⟩)⟩
      · exact ⟨none, _, by have := run_endLoop (P := P) hl (by rw [hrec]; simp); rw [hrec] at this; exact this, hdone _ (hI _ _ _ hi (Other.put (by omega) hl rfl _)) ((World.putObj_heap_other (by omega)).trans hk)⟩
      · exact ⟨some c, _, by have := run_endLoop (P := P) hl (by rw [hrec]; simp); rw [hrec] at this; exact this, hstop c _ (hIx _ _ _ hi (Other.put (by omega) hl rfl _)) ((World.putObj_heap_other (by omega)).trans hk)⟩

/-- the same within a round of loop l₀ -/
theorem wpIn_rangeFunc_lN {g : Operand} {ps : Array Tmp} {assign body : Code} {Q : Exit → Act → World → Prop} {a : Act} {w : World}
    {l₀ : Nat} {r₀ : Loop} (hro : F.round = some l₀) (hl₀ : w.heap[l₀]? = some (.loop r₀)) (h1 : 1 ≤ n) {gf : Nat} {lb : Array Value} (hg : a.eval g = .func (.func gf) #[] lb) (hFg : F.fn gf) (eg : ∀ args w, (callFunc gf args).run P w = .ok (.enter gf args) w)
    {args : Nat → Array Value} {N : Nat} {K0 Kp : World → Prop} (hseq : SeqL F (n - 1) P gf lb args N K0 Kp) (hps : ∀ k, (args k).size = ps.size) (hK0 : ∀ A B, K0 A → Below A.heap.size A B → K0 B) (hk0 : K0 w)
    (I : Nat → World → Prop) (Ix : Code → World → Prop) (hIw : ∀ k A, I k A → Kp A)
    (hI : ∀ k A B, I k A → Other w.heap.size A B → I k B) (hIx : ∀ c A B, Ix c A → Other w.heap.size A B → Ix c B)
    (h0 : I 0 w)
    (As : Nat → Act → World → Prop) (hAs : ∀ k a' A B, As k a' A → (∀ l, w.heap.size ≤ l → (∃ r, A.heap[l]? = some (.loop r)) → A.grownBy B (some l) → As k a' B))
    (hassign : ∀ (l k : Nat) (W : World) (K : Act → World → Prop), I k W → k < N → (∀ a' W', Below W.heap.size W W' → As k a' W' → K a' W') →
      assign.wpIn (F.inRound l) (n - 1 - 1) P (Exit.then K (fun _ _ _ => False)) { tmps := (ps.zip (args k)).foldl (fun t (p, v) => t.setIfInBounds p v) a.tmps, defers := [] } W)
    (hbody : ∀ (l k : Nat) (a' : Act) (W : World), w.heap.size ≤ l → (∃ r, W.heap[l]? = some (.loop r)) → I k W → As k a' W → k < N →
      body.wpIn (F.inRound l) (n - 1 - 1) P (postM w.heap.size I Ix (k + 1) W) a' W)
    (hdone : ∀ (W : World), I N W → Q .normal a W)
    (hstop : ∀ (c : Code) (W : World), Ix c W → c.wpIn F n P Q a W) :
    (Code.rangeFunc g ps assign body).wpIn F n P Q a w := by
  refine wpIn_rangeFunc ?_
  intro fn hfn
  rw [hro]
  obtain ⟨rec, hrec⟩ : ∃ rec : LoopState → Option Code → Loop, rec = fun st pe => { state := st, pending := pe, fn, tmps := a.tmps, params := ps, assign, body, defers := r₀.defers } := ⟨_, rfl⟩
  obtain ⟨W1, hW1⟩ : ∃ W1, w.alloc (.loop (rec .ready none)) = W1 := ⟨_, rfl⟩
  have hL1 : W1.heap[w.heap.size]? = some (.loop (rec .ready none)) := by rw [← hW1]; exact World.alloc_heap_new w _
  have hb1 : Below w.heap.size w W1 := by rw [← hW1]; exact (Below.refl _ w).alloc (Nat.le_refl _) _
  refine ⟨w.heap.size, [], W1, { target := .fn (.func gf) lb, args := #[.func (.yield w.heap.size) #[] #[]] }, W1, gf,
    #[.func (.yield w.heap.size) #[] #[]] ++ lb, W1, ?_, ?_, ?_, ?_, fun _ => h1, ?_⟩
  · rw [← hW1, hrec]; exact run_enterLoop_inner hl₀ _ _ _ _ _
  · simp only [resolve, hg]
    simp [go_sem]
  · intro f' hf'; simp [Target.leads] at hf'; subst hf'; exact hFg
  · simp [invoke, go_sem, eg]
  · refine (hseq w.heap.size
      (fun k W => I k W ∧ W.heap[w.heap.size]? = some (.loop (rec .ready none)))
      (fun W => ∃ c, Ix c W ∧ W.heap[w.heap.size]? = some (.loop (rec .done (some c))))
      W1 (fun k A h => hIw k A h.1)
      (fun k A B hs hb' => by
        have hlt := (Array.getElem?_eq_some_iff.1 hs.2).1
        exact ⟨hI k A B hs.1 (Other.of_below _ hb'), (hb'.block _ hlt).trans hs.2⟩)
      ?_ (hK0 w W1 hk0 hb1) ⟨hI 0 w W1 h0 (Other.of_below _ hb1), hL1⟩).mono ?_
    · rintro k W ⟨hi, hl⟩ hkN
      have hy := run_yield (P := P) (args := args k) hl (by rw [hrec]; exact hps k)
      rw [hrec] at hy
      refine ⟨fn, _, assign, body, hy, roundIn_of_wpIn hfn (hassign _ k W _ hi hkN ?_)⟩
      intro a' Wa hba hax
      have hltW : w.heap.size < W.heap.size := (Array.getElem?_eq_some_iff.1 hl).1
      replace hi := hI k W Wa hi (Other.of_below _ hba)
      replace hl := (hba.block _ hltW).trans hl
      have hlt : w.heap.size < Wa.heap.size := (Array.getElem?_eq_some_iff.1 hl).1
      refine ⟨_, run_beginRound hl (by rw [hrec]), ?_⟩
      obtain ⟨W2, hW2⟩ : ∃ W2, Wa.putObj w.heap.size (.loop { rec .ready none with state := .busy }) = W2 := ⟨_, rfl⟩
      have hl2 : W2.heap[w.heap.size]? = some (.loop { rec .ready none with state := .busy }) := by rw [← hW2]; exact World.putObj_heap_same hlt
      have hb2 : Other w.heap.size Wa W2 := by rw [← hW2]; exact Other.put (Nat.le_refl _) hl rfl _
      have hg2 : Wa.grownBy W2 (some w.heap.size) := by rw [← hW2]; exact grownBy_putObj' Wa _ _
      rw [hW2]
      refine wpIn_mono (hbody _ k a' W2 (Nat.le_refl _) ⟨_, hl2⟩ (hI _ _ _ hi hb2) (hAs _ _ _ _ hax w.heap.size (Nat.le_refl _) ⟨_, hl⟩ hg2) hkN) ?_
      have fin : ∀ (jump : Option Code) (W3 : World), KeepsFrom w.heap.size W2 W3 →
          ∃ W4, (Instr.endRound w.heap.size jump).run P W3 = .ok (.bool jump.isNone) W4 ∧ Other w.heap.size W3 W4 ∧
          W4.heap[w.heap.size]? = some (.loop (rec (if jump.isNone then .ready else .done) jump)) := fun jump W3 hk3 => by
        have hl3 := hk3.same _ _ (Nat.le_refl _) hl2 rfl
        have := run_endRound (P := P) jump hl3
        rw [hrec] at this
        refine ⟨_, this, Other.put (Nat.le_refl _) hl3 rfl _, ?_⟩
        rw [hrec]; exact World.putObj_heap_same (Array.getElem?_eq_some_iff.1 hl3).1
      rintro e a3 W3 hp
      cases e with
      | normal =>
        obtain ⟨hk3, hi3⟩ := hp
        obtain ⟨W4, hr, hg4, hl4⟩ := fin none W3 hk3
        exact ⟨_, _, hr, .inl ⟨rfl, hI _ _ _ hi3 hg4, hl4⟩⟩
      | ret =>
        obtain ⟨hk3, hi3⟩ := hp
        obtain ⟨W4, hr, hg4, hl4⟩ := fin (some .ret) W3 hk3
        exact ⟨_, _, hr, .inr ⟨rfl, .ret, hIx _ _ _ hi3 hg4, hl4⟩⟩
      | exit id =>
        obtain ⟨hk3, hi3⟩ := hp
        obtain ⟨W4, hr, hg4, hl4⟩ := fin (some (.exit id)) W3 hk3
        exact ⟨_, _, hr, .inr ⟨rfl, .exit id, hIx _ _ _ hi3 hg4, hl4⟩⟩
      | goto t =>
        obtain ⟨hk3, hi3⟩ := hp
        obtain ⟨W4, hr, hg4, hl4⟩ := fin (some (.goto t)) W3 hk3
        exact ⟨_, _, hr, .inr ⟨rfl, .goto t, hIx _ _ _ hi3 hg4, hl4⟩⟩
      | panic ch => exact hp.elim
      | outgrown => exact hp.elim
    · rintro e W2 ⟨⟨v, rfl⟩, (⟨hi, hl⟩ | ⟨c, hi, hl⟩)⟩
      · exact ⟨none, _, by have := run_endLoop (P := P) hl (by rw [hrec]; simp); rw [hrec] at this; exact this, hdone _ (hI _ _ _ hi (Other.put (Nat.le_refl _) hl rfl _))⟩
      · exact ⟨some c, _, by have := run_endLoop (P := P) hl (by rw [hrec]; simp); rw [hrec] at this; exact this, hstop c _ (hIx _ _ _ hi (Other.put (Nat.le_refl _) hl rfl _))⟩
end Go.Proofs.YtbeeejpjnniejaaGreatDoor
namespace Go.Proofs.YtbeeejpjnniejaaGreatDoor
open Go.RowKit
def bytesV (l : List UInt8) : List Value := l.map fun b => .int .u8 (b.toNat : Int)
theorem bytesV_length (l : List UInt8) : (bytesV l).length = l.length := by simp [bytesV]
theorem bytesV_append (l m : List UInt8) : bytesV (l ++ m) = bytesV l ++ bytesV m := by simp [bytesV]
theorem bytesV_one (l : List UInt8) : ∀ u ∈ bytesV l, u.oneCell' = true := by
  intro u hu
  obtain ⟨b, -, rfl⟩ := List.mem_map.1 hu
  rfl
theorem info5 : (Tryz.prog.info? 5).map (fun i => (i.zero, i.size, i.bytes)) = some (some (.int .u8 0), 1, 1) := by kernel_rfl
theorem cells_newL (w : World) (t : TypeId) (cs : Array Value) (xs : List Value) (hx : cs.toList = xs) : ∀ (j : Nat) (u : Value), xs[j]? = some u → (w.alloc (.cells cs t)).cell? ((⟨w.heap.size, 0, none⟩ : Addr).add j) = some u := by
  intro j u hu
  have h := (Blk.new w t cs).cell j
  have e : (⟨w.heap.size, 0, none⟩ : Addr).add j = ⟨w.heap.size, j, none⟩ := by unfold Addr.add; split <;> simp_all
  rw [e, h, ← hu, ← hx]
  simp
/-- a row laid just now is owned -/
theorem own_new (w : World) (base : Nat) (e : TypeId) (size n : Nat) (cs : Array Value) (xs : List Value) (hx : cs.toList = xs) (hl : xs.length = n * size) (hb : base ≤ w.heap.size) (hm : n ≤ maxLen) : (w.alloc (.cells cs e)).ownsRow base e size (.slice (some ⟨w.heap.size, 0, none⟩) n n) n xs := by
  have hc : cs.size = n * size := by rw [← hl, ← hx]; simp
  exact ⟨hl, .inr ⟨w.heap.size, n, cs, rfl, hb, heap_alloc_new w _, Nat.le_refl _, hm, hc, by rw [hx, ← hl, List.take_length]⟩⟩
section
variable {F : Fence} {fn : Nat} {P : Program} (w : World)
theorem wpListIn_append_any {ops : Array Oper} {rest : List Oper} {o : Oper} {a : Act} {Q : Exit → Act → World → Prop} (hgd : o.guard = none) (s x : Operand) (t : TypeId)
    (ho : o.op = .call { callee := .builtin .append, args := #[s, x], argTypes := #[t, t] })
    (base : Nat) (e : TypeId) (i : TypeInfo) (z : Value) (size bytes : Nat) (ht : P.underlying t = some (.slice e)) (hi : P.info? e = some i) (hz : i.zero = some z)
    (hsize : i.size = size) (hby : i.bytes = bytes) (hzs : z.cells.size = size) (hsz : 0 < size)
    (v : Value) (n : Nat) (xs : List Value) (hs : a.eval s = v) (hown : w.ownsRow base e size v n xs)
    (B : Nat) (A : Option Addr) (m c : Nat) (news : List Value) (hx : a.eval x = .slice A m c) (hr : Reads w B size A m news) (h1 : ∀ u ∈ news, u.oneCell' = true)
    (h63 : n + m ≤ maxLen) (hbytes : (n + m) * bytes ≤ 140737488355328) (hbase : base ≤ w.heap.size)
    (h : ∀ v' w', w'.ownsRow base e size v' (n + m) (xs ++ news) → w.grownBy w' v.ownBlock → (v'.ownBlock = v.ownBlock ∨ v'.ownBlock = some w.heap.size) → wpListIn F fn P ops Q rest (a.put o.dst v') w') : wpListIn F fn P ops Q (o :: rest) a w := by
  refine wpListIn_plain hgd fun K hK => ?_
  obtain ⟨v', w', hrun, h2, h3, h4⟩ := run_append_any (P := P) w base t o.type e i z size bytes ht hi hz hsize hby hzs hsz v n xs hown B A m c news hr h1 h63 hbytes hbase
  unfold Oper.wpIn
  refine ⟨?_, ?_⟩
  · simp [Oper.about, ho, resolve, Target.leads, Sem.run_pure]
  · rw [Oper.semAt_plain F _ _ (by rw [ho]; intro c hc'; cases hc')]
    simp [execOp, ho, resolve, invoke, builtin, hs, hx, hrun, Result.andThen]
    exact hK _ _ (h v' w' h2 h3 h4)
theorem wpListIn_append_str {ops : Array Oper} {rest : List Oper} {o : Oper} {a : Act} {Q : Exit → Act → World → Prop} (hgd : o.guard = none) (sl x : Operand) (t u : TypeId)
    (ho : o.op = .call { callee := .builtin .append, args := #[sl, x], argTypes := #[t, u] })
    (base : Nat) (e : TypeId) (i : TypeInfo) (ht : P.underlying t = some (.slice e)) (hu : P.underlying u = some .string) (hi : P.info? e = some i) (hz : i.zero = some (.int .u8 0))
    (hsize : i.size = 1) (hby : i.bytes = 1)
    (v : Value) (n : Nat) (xs : List Value) (hs : a.eval sl = v) (hown : w.ownsRow base e 1 v n xs) (s : ByteArray) (hx : a.eval x = .string s)
    (h63 : n + s.size ≤ maxLen) (hbytes : n + s.size ≤ 140737488355328) (hbase : base ≤ w.heap.size)
    (h : ∀ v' w', w'.ownsRow base e 1 v' (n + s.size) (xs ++ bytesV s.data.toList) → w.grownBy w' v.ownBlock → wpListIn F fn P ops Q rest (a.put o.dst v') w') : wpListIn F fn P ops Q (o :: rest) a w := by
  refine wpListIn_plain hgd fun K hK => ?_
  obtain ⟨v', w', hr, h2, h3, h4⟩ := Lib.run_append_own_string (P := P) w base t u o.type e i ht hu hi hz hsize hby v n xs hown s h63 hbytes hbase
  unfold Oper.wpIn
  refine ⟨?_, ?_⟩
  · simp [Oper.about, ho, resolve, Target.leads, Sem.run_pure]
  · rw [Oper.semAt_plain F _ _ (by rw [ho]; intro c hc'; cases hc')]
    simp [execOp, ho, resolve, invoke, builtin, hs, hx, hr, Result.andThen]
    exact hK _ _ (h v' w' h2 h3)
theorem wpList_append_str {ops : Array Oper} {rest : List Oper} {o : Oper} {a : Act} {Q : Exit → Act → World → Prop} (hgd : o.guard = none) (sl x : Operand) (t u : TypeId)
    (ho : o.op = .call { callee := .builtin .append, args := #[sl, x], argTypes := #[t, u] })
    (base : Nat) (e : TypeId) (i : TypeInfo) (ht : P.underlying t = some (.slice e)) (hu : P.underlying u = some .string) (hi : P.info? e = some i) (hz : i.zero = some (.int .u8 0))
    (hsize : i.size = 1) (hby : i.bytes = 1)
    (v : Value) (n : Nat) (xs : List Value) (hs : a.eval sl = v) (hown : w.ownsRow base e 1 v n xs) (s : ByteArray) (hx : a.eval x = .string s)
    (h63 : n + s.size ≤ maxLen) (hbytes : n + s.size ≤ 140737488355328) (hbase : base ≤ w.heap.size)
    (h : ∀ v' w', w'.ownsRow base e 1 v' (n + s.size) (xs ++ bytesV s.data.toList) → w.grownBy w' v.ownBlock → wpList P ops Q rest (a.put o.dst v') w') : wpList P ops Q (o :: rest) a w :=
  Lib.wpList_append_own_string w hgd sl x t u ho base e i ht hu hi hz hsize hby v n xs hs hown s hx h63 hbytes hbase fun v' w' h1 h2 _ => h v' w' h1 h2
end
/-- what a block of another type keeps -/
theorem own_far {w w' : World} {base : Nat} {e : TypeId} {size n : Nat} {v : Value} {xs : List Value} {g : Nat} {t : TypeId} {cs : Array Value} (h : w.ownsRow base e size v n xs) (hg : Blk w g t cs) (hne : e ≠ t) (hr : w.grownBy w' (some g)) : w'.ownsRow base e size v n xs := h.kept hr (.inr (own_blk_ne h hg hne))
theorem own_below {w w' : World} {base : Nat} {e : TypeId} {size n : Nat} {v : Value} {xs : List Value} (h : w.ownsRow base e size v n xs) (hb : Below w.heap.size w w') : w'.ownsRow base e size v n xs := h.kept (only_of_below hb none) (by cases v.ownBlock <;> simp)
end Go.Proofs.YtbeeejpjnniejaaGreatDoor
namespace Go.Proofs.YtbeeejpjnniejaaGreatDoor
open Go.RowKit Go.Shelf
attribute [local go_sem] Oper.semAt_some
def lblAt (ls : List Lbl) (k : Nat) : Lbl := ls[k]?.getD (⟨#[]⟩, ⟨#[]⟩)
theorem lblAt_of {ls : List Lbl} {k : Nat} {p : Lbl} (h : ls[k]? = some p) : lblAt ls k = p := by unfold lblAt; rw [h]; rfl
def lblArgs (ls : List Lbl) (k : Nat) : Array Value := #[.string (lblAt ls k).1, .string (lblAt ls k).2]
def AllR (J : Nat → World → Prop) (n : Nat) (i : Value) (wr : World) : Prop := ∃ k : Nat, i = .int .i64 (k : Int) ∧ k ≤ n ∧ J k wr
set_option maxRecDepth 100000 in
set_option maxHeartbeats 1600000 in
theorem all_seq (n B T : Nat) (v : Value) (ls : List Lbl) (hl : ls.length ≤ 100000) :
    SeqL Fence.wide n Tryz.prog 214 #[.pointer (some ⟨T, 0, none⟩)] (lblArgs ls) ls.length (fun W => W.cell? ⟨T, 0, none⟩ = some v) (fun W => LabsAt W B v ls ∧ B ≤ W.heap.size) := by
  intro l J Jx W hJw hJb hY x0 hJ0
  obtain ⟨⟨A, c, rfl, _⟩, _⟩ := hJw 0 W hJ0
  obtain ⟨m, hm⟩ : ∃ m, m = ls.length := ⟨_, rfl⟩
  rw [← hm] at hl x0 hY hJw ⊢
  have HM := Lib.hid hm
  have HJW := Lib.hid hJw
  have HJB := Lib.hid hJb
  have HY := Lib.hid hY
  have HI := Lib.hid (show AllR J m (.int .i64 0) W from ⟨0, rfl, Nat.zero_le _, hJ0⟩)
  clear hm hJw hJb hY hJ0
  refine callsIn_of_wp Tryz.func214 rfl trivial ?_ rfl
  simp only [Tryz.ntmps214, List.size_toArray, List.length_cons, List.length_nil, Nat.reduceAdd, Nat.reduceSub, Array.replicate_succ, Array.replicate_zero, List.push_toArray, List.append_toArray, List.nil_append, List.cons_append]
  refine wpIn_wide.2 ?_
  go_wp2_with fail
  go_loopw [7] (fun i wr => AllR J m i wr) (fun i _ => m - (intOf i).toNat)
  case atStart => exact HI.out
  case round =>
    obtain ⟨k, rfl, hk, hJk⟩ := hrel
    have hb := HJW.out k wr hJk
    have HJK := Lib.hid hJk
    by_cases hlt : k < m
    · have i1 : (k : Int) < (m : Int) := by omega
      have sk : IntKind.i64.wrap ((k : Int) + 1) = ((k + 1 : Nat) : Int) := (IntWalk.i64_in _ (by omega)).trans (by omega)
      obtain ⟨p, hp⟩ : ∃ p, ls[k]? = some p := ⟨_, List.getElem?_eq_getElem (by have := HM.out; omega)⟩
      obtain ⟨⟨A', c', e', hr⟩, hB⟩ := hb
      injection e' with e1 e2 e3
      subst e1 e3
      obtain ⟨d, rfl, hd, x1, x2⟩ := hr.two hp
      have hla := lblAt_of hp
      obtain ⟨p1, p2⟩ := p
      dsimp only at x1 x2
      obtain ⟨w2, hw2⟩ : ∃ w2, w2 = wr.alloc (.cells #[.string p1, .string p2] 55) := ⟨_, rfl⟩
      have hb2 : Below wr.heap.size wr w2 := by rw [hw2]; exact (Below.refl _ wr).alloc (Nat.le_refl _) _
      obtain ⟨fn, tmps, assign, body, hy, hRd⟩ := HY.out k w2 (HJB.out k wr w2 HJK.out hb2) hlt
      have ha : lblArgs ls k = #[.string p1, .string p2] := by unfold lblArgs; rw [hla]
      rw [ha] at hy
      have HW2 := Lib.hid hw2
      have HRD := Lib.hid hRd
      clear hp hr e2 hd hla hJk hb2 ha hB hw2 hRd
      go_upto_region 3 with (fail)
      rw [← HW2.out]
      have hbk : Blk w2 wr.heap.size 55 #[.string p1, .string p2] := by rw [HW2.out]; exact Blk.new wr 55 _
      have c0 : w2.cell? ⟨wr.heap.size, 0, none⟩ = some (.string p1) := hbk.cell 0
      have c1 : w2.cell? ⟨wr.heap.size, 1, none⟩ = some (.string p2) := hbk.cell 1
      clear hbk
      refine (wpIn_wide (n := n)).1 ?_
      gi_wp2
      refine ⟨(fun h => by cases h), HRD.out.mono ?_⟩
      rintro e W3 (⟨rfl, hJ3⟩ | ⟨rfl, hJx3⟩)
      · have HJ3 := Lib.hid hJ3
        clear hJ3 c0 c1 hy HRD x1 x2
        gi_wp2
        go_wp2_with fail
        exact ⟨⟨k + 1, rfl, by omega, HJ3.out⟩, by simp [intOf]; omega⟩
      · have HJX := Lib.hid hJx3
        clear hy HRD hJx3 c0 c1 x1 x2
        gi_wp2
        go_wp2_with fail
        refine bodyPost_ret (results_none rfl _ _ _) rfl ?_
        exact ⟨⟨_, rfl⟩, .inr HJX.out⟩
    · have i1 : ¬ (k : Int) < (m : Int) := by omega
      obtain rfl : k = m := by omega
      clear hb hJk
      go_wp2_with fail
      refine bodyPost_end (results_none rfl _ _ _) rfl ?_
      exact ⟨⟨_, rfl⟩, .inl HJK.out⟩
end Go.Proofs.YtbeeejpjnniejaaGreatDoor
namespace Go.Proofs.YtbeeejpjnniejaaGreatDoor
open Go.RowKit Go.Shelf
attribute [local go_sem] Oper.semAt_some
attribute [-go_sem] Builtin.append_
def txtB (s : ByteArray) : List UInt8 := UInt8.ofNat (s.size / 256) :: UInt8.ofNat s.size :: s.data.toList
def labB (p : Lbl) : List UInt8 := txtB p.1 ++ txtB p.2
def lbytes (ls : List Lbl) : List UInt8 := UInt8.ofNat ls.length :: ls.flatMap labB
theorem txtB_len (s : ByteArray) : (txtB s).length = s.size + 2 := by simp [txtB]
def lbk (ls : List Lbl) (k : Nat) : List UInt8 := UInt8.ofNat ls.length :: (ls.take k).flatMap labB
/-- few and short labels -/
def LFit (ls : List Lbl) : Prop := ls.length ≤ 64 ∧ ∀ p ∈ ls, p.1.size ≤ 1024 ∧ p.2.size ≤ 1024
theorem lbytes_le {ls : List Lbl} (h : LFit ls) (k : Nat) : (lbytes (ls.take k)).length ≤ 1 + 2052 * k := by
  have : ∀ l : List Lbl, (∀ p ∈ l, p.1.size ≤ 1024 ∧ p.2.size ≤ 1024) → (l.flatMap labB).length ≤ 2052 * l.length := by
    intro l hl
    induction l with
    | nil => simp
    | cons a l ih =>
      have h1 := hl a (by simp)
      have h2 := ih fun p hp => hl p (by simp [hp])
      rw [List.flatMap_cons, List.length_append, labB, List.length_append, txtB_len, txtB_len, List.length_cons]
      omega
  have h1 := this (ls.take k) fun p hp => h.2 p (List.mem_of_mem_take hp)
  have h2 : (ls.take k).length ≤ k := List.length_take_le _ _
  unfold lbytes
  simp only [List.length_cons]
  have := Nat.mul_le_mul_left 2052 h2
  omega
theorem own_keeps {w w' : World} {base B : Nat} {e : TypeId} {size n : Nat} {v : Value} {xs : List Value} (h : w.ownsRow base e size v n xs) (hg : w.grownBy w' v.ownBlock) : KeepsFrom B w w' :=
  (KeepsOthers.of_grownBy hg (fun j o ej ho => by
    rcases h.2 with ⟨rfl, _⟩ | ⟨g, cap, cur, rfl, _, hh, _⟩
    · cases ej
    · cases ej
      rw [hh] at ho
      cases ho
      rfl)).from B
theorem keeps_set {B g : Nat} {W : World} {t : TypeId} {cs : Array Value} (i : Nat) (u : Value) : KeepsFrom B W (W.setCell ⟨g, i, none⟩ u) := (KeepsOthers.setCell W _ _).from B
theorem keeps_below {B : Nat} {W W' : World} (h : Below W.heap.size W W') : KeepsFrom B W W' :=
  KeepsFrom.of_grownBy (only_of_below h none) (fun j e => by cases e)
theorem all_any (A : Option Addr) (n c : Nat) (w : World) : Calls Tryz.prog 167 #[.slice A n c] w fun e w' => e = .returned (.func (.func 214) #[] #[.pointer (some ⟨w.heap.size, 0, none⟩)]) ∧ w.alloc (.cells #[.slice A n c] 37) = w' := by
  go_enter Tryz.func167, Tryz.ntmps167
  go_wp2
  go_ret
  exact ⟨rfl, rfl⟩
/-- the row that is being written, in its box -/
structure WrAt (w0 W : World) (B : Nat) (v : Value) (ls : List Lbl) (xs : List UInt8) : Prop where
  box : ∃ A c, Blk W (w0.heap.size + 1) 90 #[.slice A xs.length c] ∧ W.ownsRow w0.heap.size 5 1 (.slice A xs.length c) xs.length (bytesV xs)
  lab : LabsAt W B v ls ∧ B ≤ W.heap.size
  below : Below w0.heap.size w0 W
theorem WrAt.next {w0 W W' : World} {B : Nat} {v : Value} {ls : List Lbl} {xs : List UInt8} (h : WrAt w0 W B v ls xs) (hB : B ≤ w0.heap.size) (hb : Below W.heap.size W W') : WrAt w0 W' B v ls xs := by
  obtain ⟨⟨A, c, h1, h2⟩, ⟨h3, h4⟩, h5⟩ := h
  exact ⟨⟨A, c, h1.below hb h1.lt, own_below h2 hb⟩, ⟨h3.below hb h4, Nat.le_trans h4 hb.size⟩, h5.trans (hb.mono h5.size)⟩
def bytesP (w : World) (ls : List Lbl) (e : Ending) (w' : World) : Prop := ∃ v', e = .returned v' ∧ w'.ownsRow w.heap.size 5 1 v' (lbytes ls).length (bytesV (lbytes ls)) ∧ Below w.heap.size w w'
set_option maxRecDepth 100000 in
set_option maxHeartbeats 3200000 in
theorem lbytes_any (w : World) (B : Nat) (v : Value) (ls : List Lbl) (h : LabsAt w B v ls) (hB : B ≤ w.heap.size) (hf : LFit ls) : Calls Tryz.prog 121 #[v] w (bytesP w ls) := by
  obtain ⟨A, c, rfl, hr⟩ := h
  obtain ⟨n, hn⟩ : ∃ n, n = ls.length := ⟨_, rfl⟩
  have hn64 : n ≤ 64 := by rw [hn]; exact hf.1
  rw [← hn] at hr ⊢
  have sc : (n : Int) % 256 = (n : Int) := by omega
  obtain ⟨i0, hi, hz0, hz1, hz2⟩ := info_parts info5
  have HI5 := Lib.hid hi
  have HZ0 := Lib.hid hz0
  have HZ1 := Lib.hid hz1
  have HZ2 := Lib.hid hz2
  clear hi hz0 hz1 hz2
  have HF := Lib.hid hf
  have HN := Lib.hid hn
  have HR := Lib.hid hr
  have HBB := Lib.hid hB
  clear hf hn hr hB
  refine (callsIn_wide (n := 9)).1 ?_
  refine callsIn_of_wp_marks Tryz.func121 rfl trivial ?_ rfl
  simp only [Tryz.ntmps121, List.size_toArray, List.length_cons, List.length_nil, Nat.reduceAdd, Nat.reduceSub, Array.replicate_succ, Array.replicate_zero, List.push_toArray, List.append_toArray, List.nil_append, List.cons_append]
  gi_wp2_with fail
  refine ⟨trivial, (callsIn_wide.2 (all_any A n c _)).mono ?_⟩
  rintro e w2 ⟨rfl, hw⟩
  dsimp only
  have e3 : ((w.alloc (.cells #[.int .u8 (n : Int)] 5)).alloc (.cells #[.slice (some ⟨w.heap.size, 0, none⟩) 1 1] 90)).heap.size = w.heap.size + 2 := by simp
  rw [e3]
  clear e3
  have hs2 : w2.heap.size = w.heap.size + 3 := by rw [← hw]; simp
  have hb2 : Below w.heap.size w w2 := by rw [← hw]; exact (((Below.refl _ w).alloc (Nat.le_refl _) _).alloc (by simp) _).alloc (by simp; omega) _
  have hK2 : w2.cell? ⟨w.heap.size + 2, 0, none⟩ = some (.slice A n c) := by
    rw [← hw]
    have := (Blk.new ((w.alloc (.cells #[.int .u8 (n : Int)] 5)).alloc (.cells #[.slice (some ⟨w.heap.size, 0, none⟩) 1 1] 90)) 37 #[.slice A n c]).cell 0
    simpa using this
  have hI0 : WrAt w w2 B (.slice A n c) ls (lbk ls 0) := by
    have e1 : UInt8.ofNat ls.length :: [] = lbk ls 0 := by simp [lbk]
    have e2 : ((UInt8.ofNat n).toNat : Int) = (n : Int) := by simp; omega
    refine ⟨⟨some ⟨w.heap.size, 0, none⟩, 1, ?_, ?_⟩, ⟨⟨A, c, by rw [HN.out], by rw [← HN.out]; exact HR.out.keep fun p hp => hb2.cell (by have := HBB.out; omega)⟩, by rw [hs2]; have := HBB.out; omega⟩, hb2⟩
    · rw [← e1, ← hw]
      have := (Blk.new (w.alloc (.cells #[.int .u8 (n : Int)] 5)) 90 #[.slice (some ⟨w.heap.size, 0, none⟩) 1 1]).alloc (.cells #[.slice A n c] 37)
      rwa [World.size_alloc] at this
    · rw [← e1, ← HN.out]
      have h1 := ((own_new w w.heap.size 5 1 1 #[.int .u8 (n : Int)] [.int .u8 (n : Int)] rfl rfl (Nat.le_refl _) (by simp [maxLen])).alloc (.cells #[.slice (some ⟨w.heap.size, 0, none⟩) 1 1] 90)).alloc (.cells #[.slice A n c] 37)
      rw [hw] at h1
      have e4 : bytesV [UInt8.ofNat n] = [.int .u8 (n : Int)] := by unfold bytesV; simp only [List.map_cons, List.map_nil]; rw [e2]
      rw [e4]
      exact h1
  have HI0 := Lib.hid hI0
  have HK2 := Lib.hid hK2
  have HS2 := Lib.hid hs2
  clear hw hI0 hK2 hs2
  gi_wp2_with fail
  refine wpIn_rangeFunc_l rfl (by omega) (gf := 214) (lb := #[.pointer (some ⟨w.heap.size + 2, 0, none⟩)]) rfl trivial (enters_of Tryz.func214 (by kernel_rfl) rfl)
    (all_seq _ B (w.heap.size + 2) (.slice A n c) ls (by have := HN.out; omega)) (fun k => rfl) (fun A B h hb => (hb.cell (p := ⟨w.heap.size + 2, 0, none⟩) (World.block_lt_of_cell? A _ h)).trans h) HK2.out
    (fun k W => WrAt w W B (.slice A n c) ls (lbk ls k)) (fun _ _ => False) (fun k W h => h.lab) ?hI (fun _ _ _ h _ => h.elim) HI0.out
    (fun k a' _ => a' = { tmps := #[.slice A n c, undef, .slice none 0 0, .pointer (some ⟨w.heap.size + 1, 0, none⟩), .string (lblAt ls k).1, .string (lblAt ls k).2, undef, undef, .slice A n c, .int .i64 (n : Int), .int .u8 (n : Int), .slice (some ⟨w.heap.size, 0, none⟩) 1 1, .slice A n c, .func (.func 214) #[] #[.pointer (some ⟨w.heap.size + 2, 0, none⟩)], .string (lblAt ls k).1, .string (lblAt ls k).2, undef, undef, undef, undef, undef, undef, undef, undef, undef, undef, undef, undef, undef, undef, undef, undef, undef, undef, undef, undef, undef], defers := [] })
    (fun _ _ _ _ h _ _ _ _ => h) ?assign ?body ?done (fun _ _ h => h.elim)
  case hI =>
    rintro k A' B' ⟨⟨Ax, cx, h1, h2⟩, ⟨h3, h4⟩, h5⟩ hb
    have hs2 := HS2.out
    have hbw := HBB.out
    have hbb : Below w.heap.size A' B' := hb.below (by omega) h5.size
    exact ⟨⟨Ax, cx, hb.blk h1, hb.own h2⟩, ⟨h3.below hbb hbw, Nat.le_trans h4 hbb.size⟩, h5.trans hbb⟩
  case assign =>
    intro l k W K hI hk hK
    obtain ⟨x1, hx1⟩ : ∃ x, x = (lblAt ls k).1 := ⟨_, rfl⟩
    obtain ⟨x2, hx2⟩ : ∃ x, x = (lblAt ls k).2 := ⟨_, rfl⟩
    have HK := hK _ _ (Below.refl _ W) rfl
    rw [← hx1, ← hx2] at HK
    unfold lblArgs
    rw [← hx1, ← hx2]
    clear hK hx1 hx2 hI
    gi_wp2
    exact HK
  case body =>
    rintro l k a' W hl ⟨r, hr⟩ hI rfl hk
    obtain ⟨p, hp⟩ : ∃ p, ls[k]? = some p := ⟨_, List.getElem?_eq_getElem hk⟩
    rw [lblAt_of hp]
    obtain ⟨p1, p2⟩ := p
    have hsz := HF.out.2 _ (List.mem_of_getElem? hp)
    have hkl := lbytes_le HF.out k
    have hn := HN.out
    have hx : lbk ls (k + 1) = lbk ls k ++ (txtB p1 ++ txtB p2) := by
      unfold lbk
      rw [List.take_add_one, hp]
      simp [labB]
    have HX := Lib.hid hx
    have HI := Lib.hid hI
    obtain ⟨lk, hlk⟩ : ∃ x, x = lbk ls k := ⟨_, rfl⟩
    have hll : lk.length ≤ 1 + 2052 * k := by rw [hlk]; have e : (lbk ls k).length = (lbytes (ls.take k)).length := by simp [lbk, lbytes]
                                              omega
    have HLK := Lib.hid hlk
    have hk64 : k < 64 := by omega
    dsimp only at hsz
    obtain ⟨q1, q2⟩ := hsz
    clear hp hx hI hlk hkl hn
    change Code.wpIn _ _ _ _ _ { tmps := #[.slice A n c, undef, .slice none 0 0, .pointer (some ⟨w.heap.size + 1, 0, none⟩), .string p1, .string p2, undef, undef, .slice A n c, .int .i64 (n : Int), .int .u8 (n : Int), .slice (some ⟨w.heap.size, 0, none⟩) 1 1, .slice A n c, .func (.func 214) #[] #[.pointer (some ⟨w.heap.size + 2, 0, none⟩)], .string p1, .string p2, undef, undef, undef, undef, undef, undef, undef, undef, undef, undef, undef, undef, undef, undef, undef, undef, undef, undef, undef, undef, undef], defers := [] } _
    gi_wp2_with fail
    gi_loopw [19] (fun i wr => ∃ j : Nat, i = .int .i64 (j : Int) ∧ j ≤ 2 ∧ KeepsFrom w2.heap.size W wr ∧ WrAt w wr B (.slice A n c) ls (lk ++ (if j = 0 then [] else if j = 1 then txtB p1 else txtB p1 ++ txtB p2))) (fun i _ => 2 - (intOf i).toNat)
    case atStart => exact ⟨0, rfl, by omega, KeepsFrom.refl _ _, by rw [HLK.out]; simpa using HI.out⟩
    case round =>
      obtain ⟨j, rfl, hj, hkf, hw⟩ := hrel
      obtain ⟨s, hs⟩ : ∃ s, s = if j = 0 then p1 else p2 := ⟨_, rfl⟩
      have hss : s.size ≤ 1024 := by rw [hs]; split <;> assumption
      obtain ⟨x, hx⟩ : ∃ x, x = lk ++ (if j = 0 then [] else if j = 1 then txtB p1 else txtB p1 ++ txtB p2) := ⟨_, rfl⟩
      have hxl : x.length ≤ lk.length + 2100 := by
        rw [hx, List.length_append]
        have h1 := txtB_len p1
        split
        · simp
        · split <;> (try rw [List.length_append, txtB_len p2]) <;> omega
      rw [← hx] at hw
      have HXX := Lib.hid hx
      have HKF := Lib.hid hkf
      have HW := Lib.hid hw
      obtain ⟨⟨A1, c1, hbx, hown⟩, hlab, hbel⟩ := hw
      clear hkf hx
      by_cases hj2 : j < 2
      · have i1 : (j : Int) < 2 := by omega
        have e0 : wr.cell? ⟨w.heap.size + 1, 0, none⟩ = some (.slice A1 x.length c1) := hbx.cell 0
        have z0 := hbx.frozen 0
        have hidx : ∀ w, (Instr.index 283 (.agg #[.string p1, .string p2]) (.int .i64 (j : Int))).run Tryz.prog w = .ok (.string s) w := by
          intro w
          rw [hs]
          obtain rfl | rfl : j = 0 ∨ j = 1 := by omega
          · rfl
          · rfl
        have HS := Lib.hid hs
        clear hs
        obtain ⟨m, hm⟩ : ∃ m, m = x.length := ⟨_, rfl⟩
        rw [← hm] at e0 hown hbx hxl
        have HM := Lib.hid hm
        have HOWN := Lib.hid hown
        have HBX := Lib.hid hbx
        have hsw := hbel.size
        have HBE := Lib.hid hbel
        have HLA := Lib.hid hlab
        clear hm hown hbx hbel hlab
        have m1 : ((s.size : Int) / 256) % 256 = (s.size : Int) / 256 := by omega
        gi_wp2_with (first
          | (gi_at_builtin; refine wpListIn_append_any _ rfl (.tmp 22) (.tmp 30) 90 rfl w.heap.size 5 i0 (.int .u8 0) 1 1 Tryz.underlying90 HI5.out HZ0.out HZ1.out HZ2.out rfl (by omega) (.slice A1 m c1) m (bytesV x) rfl (HOWN.out.alloc _) (wr.heap.size + 1) (some ⟨wr.heap.size, 0, none⟩) 2 2 [.int .u8 ((s.size : Int) / 256), .int .u8 ((s.size : Int) % 256)] rfl ⟨rfl, fun _ => ⟨_, rfl, Nat.lt_succ_self _, cells_newL wr 5 _ _ rfl⟩⟩ (by simp [Value.oneCell']) (by simp [maxLen]; omega) (by omega) (by rw [World.size_alloc]; omega) ?_; intro v7 w7 hown7 hgrow7 _; obtain ⟨A7, c7, hv7⟩ := own_slice hown7; subst hv7; have HW7 := Lib.hid hown7; have HG7 := Lib.hid hgrow7; have b6 := HBX.out.alloc (.cells #[.int .u8 ((s.size : Int) / 256), .int .u8 ((s.size : Int) % 256)] 5); have b7 := b6.grown hgrow7 (own_blk_ne (HOWN.out.alloc _) b6 (by decide)).symm; clear b6; have e7 : w7.cell? ⟨w.heap.size + 1, 0, none⟩ = some (.slice A1 m c1) := b7.cell 0; have z7 := b7.frozen 0; have HB7 := Lib.hid b7; clear hown7 hgrow7 b7)
          | (gi_at_builtin; refine wpListIn_append_str _ rfl (.tmp 32) (.tmp 33) 90 9 rfl w.heap.size 5 i0 Tryz.underlying90 Tryz.underlying9 HI5.out HZ0.out HZ1.out HZ2.out (.slice A7 (m + 2) c7) (m + 2) (bytesV x ++ [.int .u8 ((s.size : Int) / 256), .int .u8 ((s.size : Int) % 256)]) rfl (ownsRow_setCell_other HW7.out (own_blk_ne HW7.out HB7.out (by decide)) _) s rfl (by simp [maxLen]; omega) (by omega) (by have := HG7.out.size; rw [World.size_alloc] at this; simp [World.setCell]; omega) ?_; intro v9 w9 hown9 hgrow9; obtain ⟨A9, c9, hv9⟩ := own_slice hown9; subst hv9; have HW9 := Lib.hid hown9; have HG9 := Lib.hid hgrow9; have b8 := HB7.out.set_ 0 (.slice A7 (m + 2) c7); have o8 := ownsRow_setCell_other HW7.out (own_blk_ne HW7.out HB7.out (by decide)) (a := ⟨w.heap.size + 1, 0, none⟩) (.slice A7 (m + 2) c7); have b9 := b8.grown hgrow9 (own_blk_ne o8 b8 (by decide)).symm; clear b8 o8; have e9 : w9.cell? ⟨w.heap.size + 1, 0, none⟩ = some (.slice A7 (m + 2) c7) := b9.cell 0; have z9 := b9.frozen 0; have HB9 := Lib.hid b9; clear hown9 hgrow9 b9))
        have g1 : Below w.heap.size w w9 := by
          have h1 := (HBE.out.alloc HBE.out.size (.cells #[.int .u8 ((s.size : Int) / 256), .int .u8 ((s.size : Int) % 256)] 5)).grown HG7.out (by rw [World.size_alloc]; omega) (fun g hg => (HOWN.out.lt g hg).1)
          have h2 := h1.setCell (p := ⟨w.heap.size + 1, 0, none⟩) (Nat.le_succ _) (.slice A7 (m + 2) c7)
          exact h2.grown HG9.out h2.size (fun g hg => (HW7.out.lt g hg).1)
        have g2 : KeepsFrom w2.heap.size W w9 := by
          have h1 := HKF.out.trans (keeps_below ((Below.refl _ wr).alloc (Nat.le_refl _) (.cells #[.int .u8 ((s.size : Int) / 256), .int .u8 ((s.size : Int) % 256)] 5)))
          have h2 := h1.trans (own_keeps (HOWN.out.alloc _) HG7.out)
          have h3 := h2.trans ((KeepsOthers.setCell w7 ⟨w.heap.size + 1, 0, none⟩ (.slice A7 (m + 2) c7)).from _)
          exact h3.trans (own_keeps (ownsRow_setCell_other HW7.out (own_blk_ne HW7.out HB7.out (by decide)) _) HG9.out)
        refine ⟨⟨j + 1, rfl, by omega, g2.trans ((KeepsOthers.setCell w9 ⟨w.heap.size + 1, 0, none⟩ (.slice A9 (m + 2 + s.size) c9)).from _), ?_⟩, by simp [intOf]; omega⟩
        have hxe : lk ++ (if j + 1 = 0 then [] else if j + 1 = 1 then txtB p1 else txtB p1 ++ txtB p2) = x ++ txtB s := by
          rw [HXX.out, HS.out]
          obtain rfl | rfl : j = 0 ∨ j = 1 := by omega
          · simp
          · simp
        have hle : (x ++ txtB s).length = m + 2 + s.size := by rw [List.length_append, txtB_len, ← HM.out]; omega
        have hv : bytesV x ++ [.int .u8 ((s.size : Int) / 256), .int .u8 ((s.size : Int) % 256)] ++ bytesV s.data.toList = bytesV (x ++ txtB s) := by
          rw [bytesV_append]
          unfold txtB
          simp only [bytesV, List.map_cons, List.append_assoc, List.cons_append, List.nil_append, List.append_cancel_left_eq, List.cons.injEq, and_true]
          refine ⟨?_, ?_⟩
          · simp; omega
          · simp
        have o9 := HW9.out
        rw [hv, ← hle] at o9
        have b9 := HB9.out.set_ 0 (.slice A9 (m + 2 + s.size) c9)
        obtain ⟨l1, l2⟩ := HLA.out
        have hbig : wr.heap.size ≤ w9.heap.size := by
          have h1 := HG7.out.size
          have h2 := HG9.out.size
          rw [World.size_alloc] at h1
          simp [World.setCell] at h2
          omega
        rw [hxe]
        have hkeep : ∀ p : Addr, p.block < B → (w9.setCell ⟨w.heap.size + 1, 0, none⟩ (.slice A9 (m + 2 + s.size) c9)).cell? p = wr.cell? p := fun p hp => by
          have hBw := HBB.out
          have e1 := (g1.setCell (p := ⟨w.heap.size + 1, 0, none⟩) (Nat.le_succ _) (.slice A9 (m + 2 + s.size) c9)).cell (p := p) (by omega)
          exact e1.trans (HBE.out.cell (by omega)).symm
        refine ⟨⟨A9, c9, ?_, ?_⟩, ⟨?_, by simp [World.setCell]; omega⟩, g1.setCell (p := ⟨w.heap.size + 1, 0, none⟩) (Nat.le_succ _) _⟩
        · rw [hle]; exact b9
        · have := ownsRow_setCell_other o9 (own_blk_ne o9 HB9.out (by decide)) (a := ⟨w.heap.size + 1, 0, none⟩) (.slice A9 (m + 2 + s.size) c9)
          rw [hle] at this ⊢
          exact this
        · obtain ⟨A', c', e', r'⟩ := l1
          exact ⟨A', c', e', r'.keep hkeep⟩
      · have i1 : ¬ (j : Int) < 2 := by omega
        gi_wp2_with fail
        obtain rfl : j = 2 := by omega
        refine ⟨HKF.out, ?_⟩
        show WrAt w wr B (.slice A n c) ls (lbk ls (k + 1))
        rw [HX.out, ← HLK.out]
        have := HW.out
        rw [HXX.out] at this
        exact this
  case done =>
    intro W hI hd
    obtain ⟨⟨A1, c1, hbx, hown⟩, hlab, hbel⟩ := hI
    obtain ⟨x, hx⟩ : ∃ x, x = lbk ls ls.length := ⟨_, rfl⟩
    rw [← hx] at hbx hown
    have hx2 : x = lbytes ls := by rw [hx]; simp [lbk, lbytes]
    have e0 : W.cell? ⟨w.heap.size + 1, 0, none⟩ = some (.slice A1 x.length c1) := hbx.cell 0
    have HD := Lib.hid hd
    have HO := Lib.hid hown
    have HX := Lib.hid hx2
    have HBE := Lib.hid hbel
    clear hd hown hx hx2 hbx hlab hbel
    gi_wp2
    refine ⟨by simp, .inl ⟨_, _, rfl, run_takeDeferred HD.out, ?_⟩⟩
    refine ⟨_, results_tmp rfl _ _ _, _, rfl, ?_, ?_⟩
    · rw [← HX.out]
      exact (Other.put (Nat.le_refl _) HD.out rfl _).own HO.out
    · exact HBE.out.trans ((Other.put (Nat.le_refl _) HD.out rfl _).below (by have := HS2.out; omega) HBE.out.size)
end Go.Proofs.YtbeeejpjnniejaaGreatDoor
namespace Go.Proofs.YtbeeejpjnniejaaGreatDoor
open Go.RowKit

/-- the worlds that have grown from w: below its heap's end nothing has turned -/
def Cls (w : World) : Type := { w' : World // Below w.heap.size w w' }
instance Cls.some (w : World) : Nonempty (Cls w) := ⟨⟨w, Below.refl _ w⟩⟩

theorem wp_region_cls {P : Program} {id : Nat} {Q : Exit → Act → World → Prop} {a : Act} {w : World} {l : List Oper} (hm : P.follows .mixedOrders = true) (hB : Region.lexB .any l.toArray = true)
    (h : wpQuiet P l.toArray (fun w' => ∃ s : Cls w, w' = s.val) (fun a' => ∀ w', (∃ s : Cls w, w' = s.val) → Q .normal a' w') l a) : (Code.region id l.toArray true).wp P Q a w :=
  wp_region_quiet (C := fun w' => ∃ s : Cls w, w' = s.val) hm hB ⟨⟨_, (Below.refl _ w).drew⟩, rfl⟩ (by simpa using h)

theorem Cls.call {P : Program} {f : FuncId} {args : Array Value} {w : World} {s : Cls w} {v : Value} (h : Calls P f args s.val fun e w' => e = .returned v ∧ Below s.val.heap.size s.val w') :
    Calls P f args s.val fun e w'' => e = .returned v ∧ ∃ s : Cls w, w'' = s.val :=
  h.mono fun _ w' ⟨he, hb⟩ => ⟨he, ⟨w', s.2.trans (hb.mono s.2.size)⟩, rfl⟩
end Go.Proofs.YtbeeejpjnniejaaGreatDoor
