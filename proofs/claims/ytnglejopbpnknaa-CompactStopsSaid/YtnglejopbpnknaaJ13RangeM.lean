/- A range over a function whose iterator makes what it tells: the hearer is told what the memory holds; outermost, and within a round of another. The iterator that Merge hands back: it tells the merged series one by one. A region that draws its order and only reads, in a round of a range over a function. After the kit's law outside rounds. What the law of the merge's stops (3) holds while it ranges. -/
import Derived.RangeFuncNested
import Derived.RangeFuncKeeps
import Derived.Test.YtnglejopbpnknaaJ05InsSmp
import Derived.Test.YtnglejopbpnknaaJ12Sym3Smp
import Derived.Test.YtnglejopbpnknaaJ01Merge
import Derived.Sort.QuietIn
import Derived.OwnWalkIn
import Derived.Test.YtnglejopbpnknaaJ00Lib
import Derived.Test.YtnglejopbpnknaaJ08RPut
import Derived.Test.YtnglejopbpnknaaJ10RMerge
import Derived.Test.YtnglejopbpnknaaJ02Floor
namespace Go.Proofs.Ytnglejopbpnknaa
open Go.RowKit

/-- what was in a cell is there -/
structure CellsKept (A B : World) : Prop where
  size : A.heap.size ≤ B.heap.size
  cell : ∀ p v, A.cell? p = some v → B.cell? p = some v
theorem CellsKept.refl (A : World) : CellsKept A A := ⟨Nat.le_refl _, fun _ _ h => h⟩
theorem CellsKept.trans {A B C : World} (h : CellsKept A B) (k : CellsKept B C) : CellsKept A C := ⟨Nat.le_trans h.size k.size, fun p v e => k.cell p v (h.cell p v e)⟩
theorem CellsKept.of_below {A B : World} (h : Below A.heap.size A B) : CellsKept A B := ⟨h.size, fun p v e => (h.cell (World.block_lt_of_cell? A p e)).trans e⟩
theorem CellsKept.putObj {A : World} {l : Nat} {r : Loop} (h : A.heap[l]? = some (.loop r)) (o : Obj) : CellsKept A (A.putObj l o) := by
  refine ⟨by simp, fun p v e => ?_⟩
  have hne : p.block ≠ l := fun e2 => by
    subst e2
    simp [World.cell?, h] at e
  exact (World.cell?_of_block (World.putObj_heap_other hne)).trans e
/-- the iterator's contract: it tells N values, one by one, as far as it is asked -/
def SeqM (F : Fence) (n : Nat) (P : Program) (g : Nat) (lb : Array Value) (Ph : Nat → VV → World → Prop) (N : Nat) (w0 : World) : Prop :=
  ∀ (l : Nat) (J : Nat → World → Prop) (Jx : World → Prop) (W : World),
    (∀ k A, J k A → Below w0.heap.size w0 A) →
    (∀ k A B, J k A → Below A.heap.size A B → J k B) →
    (∀ k x W1, J k W1 → Ph k x W1 → k < N → YieldAt F (n - 1) P l #[.agg #[x.1, x.2]] W1 fun e W' => (e = .returned (.bool true) ∧ J (k + 1) W') ∨ (e = .returned (.bool false) ∧ Jx W')) →
    J 0 W →
    CallsIn F n P g (#[.func (.yield l) #[] #[]] ++ lb) W fun e W' => (∃ v, e = .returned v) ∧ (J N W' ∨ Jx W')
theorem SeqM.inRound {F : Fence} {n : Nat} {P : Program} {g : Nat} {lb : Array Value} {Ph : Nat → VV → World → Prop} {N : Nat} {w0 : World} (l : Nat) (h : SeqM F n P g lb Ph N w0) : SeqM (F.inRound l) n P g lb Ph N w0 := h
/-- how the body of a round may be left -/
def postM (B : Nat) (I : Nat → World → Prop) (Ix : Code → World → Prop) (k : Nat) (W : World) : Exit → Act → World → Prop
  | .normal, _, W' => KeepsFrom B W W' ∧ I k W'
  | .ret, _, W' => KeepsFrom B W W' ∧ Ix .ret W'
  | .exit id, _, W' => KeepsFrom B W W' ∧ Ix (.exit id) W'
  | .goto t, _, W' => KeepsFrom B W W' ∧ Ix (.goto t) W'
  | .panic _, _, _ => False
  | .outgrown, _, _ => False

variable {F : Fence} {n : Nat} {P : Program}
theorem below_put {B l : Nat} (W : World) (o : Obj) (h : B ≤ l) : Below B W (W.putObj l o) :=
  ⟨rfl, rfl, rfl, by simp, fun k hk => World.putObj_heap_other (by omega)⟩

theorem wpIn_rangeFunc_m {g : Operand} {ps : Array Tmp} {assign body : Code} {Q : Exit → Act → World → Prop} {a : Act} {w : World}
    (hro : F.round = none) (h1 : 1 ≤ n) {gf : Nat} {lb : Array Value} (hg : a.eval g = .func (.func gf) #[] lb) (hFg : F.fn gf) (eg : ∀ args w, (callFunc gf args).run P w = .ok (.enter gf args) w)
    {Ph : Nat → VV → World → Prop} {N : Nat} {w0 : World} (hseq : SeqM F (n - 1) P gf lb Ph N w0) (hps : ps.size = 1)
    (I : Nat → World → Prop) (Ix : Code → World → Prop) (hIw : ∀ k A, I k A → Below w0.heap.size w0 A)
    (hI : ∀ k A B, I k A → Below w.heap.size A B → I k B) (hIx : ∀ c A B, Ix c A → Below w.heap.size A B → Ix c B)
    (hPh : ∀ k x A B, Ph k x A → CellsKept A B → Ph k x B) (h0 : I 0 w)
    (As : Nat → VV → Act → World → Prop) (hAs : ∀ k x a' A B, As k x a' A → CellsKept A B → As k x a' B)
    (hassign : ∀ (l k : Nat) (x : VV) (W : World) (K : Act → World → Prop), I k W → Ph k x W → (∀ a' W', Below W.heap.size W W' → As k x a' W' → K a' W') →
      assign.wpIn (F.inRound l) (n - 1 - 1) P (Exit.then K (fun _ _ _ => False)) { tmps := (ps.zip #[.agg #[x.1, x.2]]).foldl (fun t (p, v) => t.setIfInBounds p v) a.tmps, defers := [] } W)
    (hbody : ∀ (l k : Nat) (x : VV) (a' : Act) (W : World), w.heap.size ≤ l → (∃ r, W.heap[l]? = some (.loop r)) → I k W → As k x a' W → k < N →
      body.wpIn (F.inRound l) (n - 1 - 1) P (postM w.heap.size I Ix (k + 1) W) a' W)
    (hdone : ∀ (W : World), I N W → W.heap[w.heap.size]? = some (.deferred (some [])) → Q .normal { a with defers := { target := .collected w.heap.size, args := #[] } :: a.defers } W)
    (hstop : ∀ (c : Code) (W : World), Ix c W → W.heap[w.heap.size]? = some (.deferred (some [])) → c.wpIn F n P Q { a with defers := { target := .collected w.heap.size, args := #[] } :: a.defers } W) :
    (Code.rangeFunc g ps assign body).wpIn F n P Q a w := by
  refine wpIn_rangeFunc ?_
  intro fn hfn
  rw [hro]
  obtain ⟨rec, hrec⟩ : ∃ rec : LoopState → Option Code → Loop, rec = fun st pe => { state := st, pending := pe, fn, tmps := a.tmps, params := ps, assign, body, defers := w.heap.size } := ⟨_, rfl⟩
  obtain ⟨W1, hW1⟩ : ∃ W1, (w.alloc (.deferred (some []))).alloc (.loop (rec .ready none)) = W1 := ⟨_, rfl⟩
  have hL1 : W1.heap[w.heap.size + 1]? = some (.loop (rec .ready none)) := by
    rw [← hW1]; have := World.alloc_heap_new (w.alloc (.deferred (some []))) (.loop (rec .ready none)); rwa [World.size_alloc] at this
  have hK1 : W1.heap[w.heap.size]? = some (.deferred (some [])) := by
    rw [← hW1]; exact (Below.heap_alloc _ _ _ (by simp)).trans (World.alloc_heap_new w _)
  have hb1 : Below w.heap.size w W1 := by
    rw [← hW1]; exact ((Below.refl _ w).alloc (Nat.le_refl _) _).alloc (by simp) _
  refine ⟨w.heap.size + 1, [{ target := .collected w.heap.size, args := #[] }], W1, { target := .fn (.func gf) lb, args := #[.func (.yield (w.heap.size + 1)) #[] #[]] }, W1, gf,
    #[.func (.yield (w.heap.size + 1)) #[] #[]] ++ lb, W1, ?_, ?_, ?_, ?_, fun _ => h1, ?_⟩
  · rw [← hW1, hrec]; exact run_enterLoop_outer _ _ _ _ _
  · simp only [resolve, hg]
    simp [go_sem]
  · intro f' hf'; simp [Target.leads] at hf'; subst hf'; exact hFg
  · simp [invoke, go_sem, eg]
  · refine (hseq (w.heap.size + 1)
      (fun k W => I k W ∧ W.heap[w.heap.size + 1]? = some (.loop (rec .ready none)) ∧ W.heap[w.heap.size]? = some (.deferred (some [])))
      (fun W => ∃ c, Ix c W ∧ W.heap[w.heap.size + 1]? = some (.loop (rec .done (some c))) ∧ W.heap[w.heap.size]? = some (.deferred (some [])))
      W1 (fun k A h => hIw k A h.1)
      (fun k A B hs hb' => by
        have hlt := (Array.getElem?_eq_some_iff.1 hs.2.1).1
        exact ⟨hI k A B hs.1 (hb'.mono (by omega)), (hb'.block _ hlt).trans hs.2.1, (hb'.block _ (by omega)).trans hs.2.2⟩)
      ?_ ⟨hI 0 w W1 h0 hb1, hL1, hK1⟩).mono ?_
    · rintro k x W ⟨hi, hl, hk⟩ hpre hkN
      have hy := run_yield (P := P) (args := #[.agg #[x.1, x.2]]) hl (by rw [hrec]; exact hps.symm)
      rw [hrec] at hy
      refine ⟨fn, _, assign, body, hy, roundIn_of_wpIn hfn (hassign _ k x W _ hi hpre ?_)⟩
      intro a' Wa hba hax
      have hltW : w.heap.size + 1 < W.heap.size := (Array.getElem?_eq_some_iff.1 hl).1
      replace hi := hI k W Wa hi (hba.mono (by omega))
      replace hk := (hba.block _ (show w.heap.size < W.heap.size by omega)).trans hk
      replace hl := (hba.block _ hltW).trans hl
      have hlt : w.heap.size + 1 < Wa.heap.size := (Array.getElem?_eq_some_iff.1 hl).1
      refine ⟨_, run_beginRound hl (by rw [hrec]), ?_⟩
      obtain ⟨W2, hW2⟩ : ∃ W2, Wa.putObj (w.heap.size + 1) (.loop { rec .ready none with state := .busy }) = W2 := ⟨_, rfl⟩
      have hl2 : W2.heap[w.heap.size + 1]? = some (.loop { rec .ready none with state := .busy }) := by rw [← hW2]; exact World.putObj_heap_same hlt
      have hb2 : Below w.heap.size Wa W2 := by rw [← hW2]; exact below_put _ _ (by omega)
      have hk2 : W2.heap[w.heap.size]? = some (.deferred (some [])) := by rw [← hW2]; exact (World.putObj_heap_other (by omega)).trans hk
      have hc2 : CellsKept Wa W2 := by rw [← hW2]; exact CellsKept.putObj hl _
      rw [hW2]
      refine wpIn_mono (hbody _ k x a' W2 (by omega) ⟨_, hl2⟩ (hI _ _ _ hi hb2) (hAs _ _ _ _ _ hax hc2) hkN) ?_
      have fin : ∀ (jump : Option Code) (W3 : World), KeepsFrom w.heap.size W2 W3 →
          ∃ W4, (Instr.endRound (w.heap.size + 1) jump).run P W3 = .ok (.bool jump.isNone) W4 ∧ Below w.heap.size W3 W4 ∧
          W4.heap[w.heap.size + 1]? = some (.loop (rec (if jump.isNone then .ready else .done) jump)) ∧ W4.heap[w.heap.size]? = some (.deferred (some [])) := fun jump W3 hk3 => by
        have hl3 := hk3.same _ _ (by omega) hl2 rfl
        have h03 := hk3.same _ _ (Nat.le_refl _) hk2 rfl
        have := run_endRound (P := P) jump hl3
        rw [hrec] at this
        refine ⟨_, this, below_put _ _ (by omega), ?_, (World.putObj_heap_other (by omega)).trans h03⟩
        rw [hrec]; exact World.putObj_heap_same (Array.getElem?_eq_some_iff.1 hl3).1
      rintro e a3 W3 hp
      cases e with
      | normal =>
        obtain ⟨hk3, hi3⟩ := hp
        obtain ⟨W4, hr, hg4, hl4, h04⟩ := fin none W3 hk3
        exact ⟨_, _, hr, .inl ⟨rfl, hI _ _ _ hi3 hg4, hl4, h04⟩⟩
      | ret =>
        obtain ⟨hk3, hi3⟩ := hp
        obtain ⟨W4, hr, hg4, hl4, h04⟩ := fin (some .ret) W3 hk3
        exact ⟨_, _, hr, .inr ⟨rfl, .ret, hIx _ _ _ hi3 hg4, hl4, h04⟩⟩
      | exit id =>
        obtain ⟨hk3, hi3⟩ := hp
        obtain ⟨W4, hr, hg4, hl4, h04⟩ := fin (some (.exit id)) W3 hk3
        exact ⟨_, _, hr, .inr ⟨rfl, .exit id, hIx _ _ _ hi3 hg4, hl4, h04⟩⟩
      | goto t =>
        obtain ⟨hk3, hi3⟩ := hp
        obtain ⟨W4, hr, hg4, hl4, h04⟩ := fin (some (.goto t)) W3 hk3
        exact ⟨_, _, hr, .inr ⟨rfl, .goto t, hIx _ _ _ hi3 hg4, hl4, h04⟩⟩
      | panic ch => exact hp.elim
      | outgrown => exact hp.elim
    · rintro e W2 ⟨⟨v, rfl⟩, (⟨hi, hl, hk⟩ | ⟨c, hi, hl, hk⟩)⟩
      · exact ⟨none, _, by have := run_endLoop (P := P) hl (by rw [hrec]; simp); rw [hrec] at this; exact this, hdone _ (hI _ _ _ hi (below_put _ _ (by omega))) ((World.putObj_heap_other (by omega)).trans hk)⟩
      · exact ⟨some c, _, by have := run_endLoop (P := P) hl (by rw [hrec]; simp); rw [hrec] at this; exact this, hstop c _ (hIx _ _ _ hi (below_put _ _ (by omega))) ((World.putObj_heap_other (by omega)).trans hk)⟩

/-- the same within a round of loop l₀ -/
theorem wpIn_rangeFunc_mN {g : Operand} {ps : Array Tmp} {assign body : Code} {Q : Exit → Act → World → Prop} {a : Act} {w : World}
    {l₀ : Nat} {r₀ : Loop} (hro : F.round = some l₀) (hl₀ : w.heap[l₀]? = some (.loop r₀)) (h1 : 1 ≤ n) {gf : Nat} {lb : Array Value} (hg : a.eval g = .func (.func gf) #[] lb) (hFg : F.fn gf) (eg : ∀ args w, (callFunc gf args).run P w = .ok (.enter gf args) w)
    {Ph : Nat → VV → World → Prop} {N : Nat} {w0 : World} (hseq : SeqM F (n - 1) P gf lb Ph N w0) (hps : ps.size = 1)
    (I : Nat → World → Prop) (Ix : Code → World → Prop) (hIw : ∀ k A, I k A → Below w0.heap.size w0 A)
    (hI : ∀ k A B, I k A → Below w.heap.size A B → I k B) (hIx : ∀ c A B, Ix c A → Below w.heap.size A B → Ix c B)
    (hPh : ∀ k x A B, Ph k x A → CellsKept A B → Ph k x B) (h0 : I 0 w)
    (As : Nat → VV → Act → World → Prop) (hAs : ∀ k x a' A B, As k x a' A → CellsKept A B → As k x a' B)
    (hassign : ∀ (l k : Nat) (x : VV) (W : World) (K : Act → World → Prop), I k W → Ph k x W → (∀ a' W', Below W.heap.size W W' → As k x a' W' → K a' W') →
      assign.wpIn (F.inRound l) (n - 1 - 1) P (Exit.then K (fun _ _ _ => False)) { tmps := (ps.zip #[.agg #[x.1, x.2]]).foldl (fun t (p, v) => t.setIfInBounds p v) a.tmps, defers := [] } W)
    (hbody : ∀ (l k : Nat) (x : VV) (a' : Act) (W : World), w.heap.size ≤ l → (∃ r, W.heap[l]? = some (.loop r)) → I k W → As k x a' W → k < N →
      body.wpIn (F.inRound l) (n - 1 - 1) P (postM w.heap.size I Ix (k + 1) W) a' W)
    (hdone : ∀ (W : World), I N W → Q .normal a W)
    (hstop : ∀ (c : Code) (W : World), Ix c W → c.wpIn F n P Q a W) :
    (Code.rangeFunc g ps assign body).wpIn F n P Q a w := by
  refine wpIn_rangeFunc ?_
  intro fn hfn
  rw [hro]
  obtain ⟨rec, hrec⟩ : ∃ rec : LoopState → Option Code → Loop, rec = fun st pe => { state := st, pending := pe, fn, tmps := a.tmps, params := ps, assign, body, defers := r₀.defers } := ⟨_, rfl⟩
  obtain ⟨W1, hW1⟩ : ∃ W1, w.alloc (.loop (rec .ready none)) = W1 := ⟨_, rfl⟩
  have hL1 : W1.heap[w.heap.size]? = some (.loop (rec .ready none)) := by rw [← hW1]; exact World.alloc_heap_new w _
  have hb1 : Below w.heap.size w W1 := by rw [← hW1]; exact (Below.refl _ w).alloc (Nat.le_refl _) _
  refine ⟨w.heap.size, [], W1, { target := .fn (.func gf) lb, args := #[.func (.yield w.heap.size) #[] #[]] }, W1, gf,
    #[.func (.yield w.heap.size) #[] #[]] ++ lb, W1, ?_, ?_, ?_, ?_, fun _ => h1, ?_⟩
  · rw [← hW1, hrec]; exact run_enterLoop_inner hl₀ _ _ _ _ _
  · simp only [resolve, hg]
    simp [go_sem]
  · intro f' hf'; simp [Target.leads] at hf'; subst hf'; exact hFg
  · simp [invoke, go_sem, eg]
  · refine (hseq w.heap.size
      (fun k W => I k W ∧ W.heap[w.heap.size]? = some (.loop (rec .ready none)))
      (fun W => ∃ c, Ix c W ∧ W.heap[w.heap.size]? = some (.loop (rec .done (some c))))
      W1 (fun k A h => hIw k A h.1)
      (fun k A B hs hb' => by
        have hlt := (Array.getElem?_eq_some_iff.1 hs.2).1
        exact ⟨hI k A B hs.1 (hb'.mono (by omega)), (hb'.block _ hlt).trans hs.2⟩)
      ?_ ⟨hI 0 w W1 h0 hb1, hL1⟩).mono ?_
    · rintro k x W ⟨hi, hl⟩ hpre hkN
      have hy := run_yield (P := P) (args := #[.agg #[x.1, x.2]]) hl (by rw [hrec]; exact hps.symm)
      rw [hrec] at hy
      refine ⟨fn, _, assign, body, hy, roundIn_of_wpIn hfn (hassign _ k x W _ hi hpre ?_)⟩
      intro a' Wa hba hax
      have hltW : w.heap.size < W.heap.size := (Array.getElem?_eq_some_iff.1 hl).1
      replace hi := hI k W Wa hi (hba.mono (by omega))
      replace hl := (hba.block _ hltW).trans hl
      have hlt : w.heap.size < Wa.heap.size := (Array.getElem?_eq_some_iff.1 hl).1
      refine ⟨_, run_beginRound hl (by rw [hrec]), ?_⟩
      obtain ⟨W2, hW2⟩ : ∃ W2, Wa.putObj w.heap.size (.loop { rec .ready none with state := .busy }) = W2 := ⟨_, rfl⟩
      have hl2 : W2.heap[w.heap.size]? = some (.loop { rec .ready none with state := .busy }) := by rw [← hW2]; exact World.putObj_heap_same hlt
      have hb2 : Below w.heap.size Wa W2 := by rw [← hW2]; exact below_put _ _ (Nat.le_refl _)
      have hc2 : CellsKept Wa W2 := by rw [← hW2]; exact CellsKept.putObj hl _
      rw [hW2]
      refine wpIn_mono (hbody _ k x a' W2 (Nat.le_refl _) ⟨_, hl2⟩ (hI _ _ _ hi hb2) (hAs _ _ _ _ _ hax hc2) hkN) ?_
      have fin : ∀ (jump : Option Code) (W3 : World), KeepsFrom w.heap.size W2 W3 →
          ∃ W4, (Instr.endRound w.heap.size jump).run P W3 = .ok (.bool jump.isNone) W4 ∧ Below w.heap.size W3 W4 ∧
          W4.heap[w.heap.size]? = some (.loop (rec (if jump.isNone then .ready else .done) jump)) := fun jump W3 hk3 => by
        have hl3 := hk3.same _ _ (Nat.le_refl _) hl2 rfl
        have := run_endRound (P := P) jump hl3
        rw [hrec] at this
        refine ⟨_, this, below_put _ _ (Nat.le_refl _), ?_⟩
        rw [hrec]; exact World.putObj_heap_same (Array.getElem?_eq_some_iff.1 hl3).1
      rintro e a3 W3 hp
      cases e with
      | normal =>
        obtain ⟨hk3, hi3⟩ := hp
        obtain ⟨W4, hr, hg4, hl4⟩ := fin none W3 hk3
        exact ⟨_, _, hr, .inl ⟨rfl, hI _ _ _ hi3 hg4, hl4⟩⟩
      | ret =>
        obtain ⟨hk3, hi3⟩ := hp
        obtain ⟨W4, hr, hg4, hl4⟩ := fin (some .ret) W3 hk3
        exact ⟨_, _, hr, .inr ⟨rfl, .ret, hIx _ _ _ hi3 hg4, hl4⟩⟩
      | exit id =>
        obtain ⟨hk3, hi3⟩ := hp
        obtain ⟨W4, hr, hg4, hl4⟩ := fin (some (.exit id)) W3 hk3
        exact ⟨_, _, hr, .inr ⟨rfl, .exit id, hIx _ _ _ hi3 hg4, hl4⟩⟩
      | goto t =>
        obtain ⟨hk3, hi3⟩ := hp
        obtain ⟨W4, hr, hg4, hl4⟩ := fin (some (.goto t)) W3 hk3
        exact ⟨_, _, hr, .inr ⟨rfl, .goto t, hIx _ _ _ hi3 hg4, hl4⟩⟩
      | panic ch => exact hp.elim
      | outgrown => exact hp.elim
    · rintro e W2 ⟨⟨v, rfl⟩, (⟨hi, hl⟩ | ⟨c, hi, hl⟩)⟩
      · exact ⟨none, _, by have := run_endLoop (P := P) hl (by rw [hrec]; simp); rw [hrec] at this; exact this, hdone _ (hI _ _ _ hi (below_put _ _ (Nat.le_refl _)))⟩
      · exact ⟨some c, _, by have := run_endLoop (P := P) hl (by rw [hrec]; simp); rw [hrec] at this; exact this, hstop c _ (hIx _ _ _ hi (below_put _ _ (Nat.le_refl _)))⟩
end Go.Proofs.Ytnglejopbpnknaa
namespace Go.Proofs.Ytnglejopbpnknaa
open Go.RowKit Go.Shelf
theorem drop_step {L : List Ser} {i : Nat} {s : Ser} {l : List Ser} (h : L.drop i = s :: l) : L.drop (i + 1) = l := by
  have := congrArg (List.drop 1) h
  rwa [List.drop_drop] at this
theorem take_drop_while (s : Ser) (l : List Ser) : l.drop (l.takeWhile (same s)).length = l.dropWhile (same s) := by
  have := List.takeWhile_append_dropWhile (p := same s) (l := l)
  conv => lhs; arg 2; rw [← this]
  rw [List.drop_append_of_le_length (Nat.le_refl _), List.drop_length, List.nil_append]
theorem grp_step {L : List Ser} {i k : Nat} {s : Ser} {l : List Ser} (h : L.drop i = s :: l) (h1 : k + (grp (L.drop i)).length = (grp L).length) (h2 : ∀ j, (grp L)[k + j]? = (grp (L.drop i))[j]?) :
    (grp L)[k]? = some (s.1, putAll [] ((s :: l.takeWhile (same s)).flatMap Prod.snd)) ∧ k < (grp L).length ∧ k + 1 + (grp (L.drop (i + 1 + (l.takeWhile (same s)).length))).length = (grp L).length ∧ ∀ j, (grp L)[k + 1 + j]? = (grp (L.drop (i + 1 + (l.takeWhile (same s)).length)))[j]? := by
  have e : L.drop (i + 1 + (l.takeWhile (same s)).length) = l.dropWhile (same s) := by
    rw [← List.drop_drop, drop_step h, take_drop_while]
  rw [h, grp_cons] at h1 h2
  rw [e]
  simp only [List.length_cons] at h1
  refine ⟨h2 0, by omega, by omega, fun j => ?_⟩
  have := h2 (j + 1)
  rw [List.getElem?_cons_succ] at this
  rw [← this]
  congr 1; omega
theorem tot_le {L : List Ser} {i : Nat} {s : Ser} {l : List Ser} (h : L.drop i = s :: l) (j : Nat) : ((s :: (l.takeWhile (same s)).take j).flatMap Prod.snd).length ≤ (L.flatMap Prod.snd).length := by
  have h1 : (s :: (l.takeWhile (same s)).take j).Sublist L := by
    refine List.Sublist.trans ?_ (List.drop_sublist i L)
    rw [h]
    exact List.Sublist.cons_cons s ((List.take_sublist _ _).trans (List.takeWhile_sublist _))
  have : ∀ {a b : List Ser}, a.Sublist b → (a.flatMap Prod.snd).length ≤ (b.flatMap Prod.snd).length := fun {a b} hs => by
    induction hs with
    | slnil => exact Nat.le_refl _
    | cons x _ ih => rw [List.flatMap_cons, List.length_append]; omega
    | cons_cons x _ ih => rw [List.flatMap_cons, List.flatMap_cons, List.length_append, List.length_append]; omega
  exact this h1
theorem tw_get {L : List Ser} {i : Nat} {s : Ser} {l : List Ser} (h : L.drop i = s :: l) {j : Nat} (hj : j < (l.takeWhile (same s)).length) :
    ∃ t, L[i + 1 + j]? = some t ∧ (l.takeWhile (same s))[j]? = some t ∧ cmpL t.1 s.1 = 0 := by
  have e := List.getElem?_eq_getElem hj
  refine ⟨_, ?_, e, ?_⟩
  · have h1 : l[j]? = (l.takeWhile (same s))[j]? := by
      have := List.takeWhile_append_dropWhile (p := same s) (l := l)
      conv => lhs; rw [← this]
      rw [List.getElem?_append_left hj]
    rw [← e, ← h1, ← drop_step h, List.getElem?_drop]
  · exact of_decide_eq_true (show decide (cmpL _ s.1 = 0) = true from take_imp (List.mem_of_getElem? e))
theorem tw_end {L : List Ser} {i : Nat} {s : Ser} {l : List Ser} (h : L.drop i = s :: l) {t : Ser} (ht : L[i + 1 + (l.takeWhile (same s)).length]? = some t) : cmpL t.1 s.1 ≠ 0 := by
  have e : L[i + 1 + (l.takeWhile (same s)).length]? = (l.dropWhile (same s))[0]? := by
    have hl := drop_step h
    subst hl
    rw [← take_drop_while, List.getElem?_drop, List.getElem?_drop]
    exact congrArg (fun k => L[k]?) (by omega)
  rw [e] at ht
  have := List.head?_dropWhile_not (p := same s) (l := l)
  rw [List.head?_eq_getElem?, ht] at this
  simpa [same] using this
theorem take_flat {T : List Ser} {s t : Ser} {j : Nat} (h : T[j]? = some t) : (s :: T.take (j + 1)).flatMap Prod.snd = (s :: T.take j).flatMap Prod.snd ++ t.2 := by
  rw [take_one T h, ← List.cons_append, List.flatMap_append]
  simp
/-- within a round: the series that is made -/
def MidG (W wx : World) (one : Nat) (s : Ser) (xs : List Smp) : Prop :=
  ∃ vL vS, Below W.heap.size W wx ∧ Blk wx one 34 #[vL, vS] ∧ W.heap.size ≤ one ∧ wx.ownsRow W.heap.size 61 2 vL s.1.length (flatL s.1) ∧ wx.ownsRow W.heap.size 51 2 vS xs.length (flatS xs)
theorem MidG.below_ {W wx wy : World} {one : Nat} {s : Ser} {xs : List Smp} (h : MidG W wx one s xs) (hb : Below wx.heap.size wx wy) : MidG W wy one s xs := by
  obtain ⟨vL, vS, h1, h2, h3, h4, h5⟩ := h
  exact ⟨vL, vS, h1.trans (hb.mono h1.size), h2.below hb h2.lt, h3, h4.kept (only_of_below hb none) (by cases vL.ownBlock <;> simp), h5.kept (only_of_below hb none) (by cases vS.ownBlock <;> simp)⟩
def ItR (J : Nat → World → Prop) (L : List Ser) (i : Value) (wr : World) : Prop :=
  ∃ i0 k : Nat, i = .int .i64 (i0 : Int) ∧ i0 ≤ L.length ∧ k + (grp (L.drop i0)).length = (grp L).length ∧ (∀ j, (grp L)[k + j]? = (grp (L.drop i0))[j]?) ∧ J k wr
def InR (W : World) (one : Nat) (s : Ser) (T : List Ser) (i0 : Nat) (i : Value) (wr : World) : Prop :=
  ∃ j : Nat, i = .int .i64 ((i0 + 1 + j : Nat) : Int) ∧ j ≤ T.length ∧ MidG W wr one s ((s :: T.take j).flatMap Prod.snd)
def PhM (L : List Ser) (k : Nat) (x : VV) (W : World) : Prop := ∃ s, (grp L)[k]? = some s ∧ SerRd W W.heap.size x s
set_option maxRecDepth 100000 in
set_option maxHeartbeats 6400000 in
theorem iter_seq (n : Nat) (w0 : World) (T : Nat) (L : List Ser) (h : BoxAt w0 T L) (hsm : Small L) (htot : (L.flatMap Prod.snd).length ≤ 100000) (hl : L.length ≤ 10000) :
    SeqM Fence.wide n Try.prog 26 #[.pointer (some ⟨T, 0, none⟩)] (PhM L) (grp L).length w0 := by
  intro l J Jx W hJw hJb hY hJ0
  obtain ⟨j0, hj, hy0, hy1, hy2⟩ := info_parts info51
  have H := Lib.hid h
  have HSM := Lib.hid hsm
  have HTOT := Lib.hid htot
  have HJW := Lib.hid hJw
  have HJB := Lib.hid hJb
  have HY := Lib.hid hY
  have HJ := Lib.hid hj
  have HZ0 := Lib.hid hy0
  have HZ1 := Lib.hid hy1
  have HZ2 := Lib.hid hy2
  obtain ⟨nL, hnL⟩ : ∃ n, n = L.length := ⟨_, rfl⟩
  rw [← hnL] at hl
  have HN := Lib.hid hnL
  have HI := Lib.hid (show ItR J L (.int .i64 0) W from ⟨0, 0, rfl, Nat.zero_le _, by simp, fun j => by simp, hJ0⟩)
  clear h hsm htot hJw hJb hY hj hy0 hy1 hy2 hJ0 hnL
  refine callsIn_of_wp Try.func26 rfl trivial ?_ rfl
  simp only [Try.ntmps26, List.size_toArray, List.length_cons, List.length_nil, Nat.reduceAdd, Nat.reduceSub, Array.replicate_succ, Array.replicate_zero, List.push_toArray, List.append_toArray, List.nil_append, List.cons_append]
  refine wpIn_wide.2 (wp_scope_straight ?_)
  go_wp2_with fail
  go_step3
  go_wp2_with fail
  go_loopw [3] (fun i wr => ItR J L i wr) (fun i _ => nL - (intOf i).toNat)
  case atStart => exact HI.out
  case round =>
    obtain ⟨i0, k, rfl, hi0, hk1, hk2, hJk⟩ := hrel
    obtain ⟨wo, hwo⟩ : ∃ wo, wo = wr := ⟨_, rfl⟩
    subst hwo
    have hb0 := HJW.out k wo hJk
    obtain ⟨o, c, vs, hblk, hvs, hrow, hown⟩ := H.out.below hb0
    rw [← HN.out] at hi0 hblk hvs hrow
    have x0 : wo.cell? ⟨T, 0, none⟩ = some (.slice o nL c) := hblk.cell 0
    have HJK := Lib.hid hJk
    have HBL := Lib.hid hblk
    have HVS := Lib.hid hvs
    have HOWN := Lib.hid hown
    have HK1 := Lib.hid hk1
    have HK2 := Lib.hid hk2
    have HROW := Lib.hid hrow
    clear hb0 hblk hvs hown hk1 hk2 hJk hrow
    by_cases hlt : i0 < nL
    · have i1 : (i0 : Int) < (nL : Int) := by omega
      obtain ⟨g, rfl, hgT, hr34⟩ := HROW.out (by omega)
      obtain ⟨s, hs⟩ : ∃ s, L[i0]? = some s := ⟨_, List.getElem?_eq_getElem (by have := HN.out; omega)⟩
      obtain ⟨p, hp⟩ : ∃ p, vs[i0]? = some p := ⟨_, List.getElem?_eq_getElem (by have := HVS.out; omega)⟩
      have hdrop : L.drop i0 = s :: L.drop (i0 + 1) := by
        obtain ⟨h8, h9⟩ := List.getElem?_eq_some_iff.1 hs
        rw [List.drop_eq_getElem_cons h8, h9]
      have hso := HOWN.out i0 p s hp hs
      obtain ⟨A1, c1, A2, c2, rfl⟩ := hso.slices
      have x1 := hr34.fst hp
      have x2 := hr34.snd hp
      dsimp only at x1 x2
      obtain ⟨bL, bS⟩ := HSM.out s (List.mem_of_getElem? hs)
      obtain ⟨⟨AL, cL, eL, hrL⟩, AS, cS, eS, hrS⟩ := hso.rd
      injection eL with eL1 _ eL2
      injection eS with eS1 _ eS2
      subst eL1 eL2 eS1 eS2
      have HRL := Lib.hid hrL
      have HRS := Lib.hid hrS
      have HDR := Lib.hid hdrop
      have HR34 := Lib.hid hr34
      obtain ⟨n1, hn1⟩ : ∃ n, n = s.1.length := ⟨_, rfl⟩
      obtain ⟨n2, hn2⟩ : ∃ n, n = s.2.length := ⟨_, rfl⟩
      rw [← hn1] at HRL bL x1
      rw [← hn2] at HRS bS x2
      have HN1 := Lib.hid hn1
      have HN2 := Lib.hid hn2
      clear hs hp hdrop hso hr34 hrL hrS hn1 hn2
      go_wp2_with fail
      refine (copied_any A1 A2 n1 c1 n2 c2 (flatL s.1) (flatS s.2) wo HRL.out HRS.out (flatL_one _) (flatS_one _) (by omega) (by omega)).mono ?_
      rintro e w2 ⟨vL, vS, rfl, hoL, hoS, hb2⟩
      obtain ⟨gl, cl, hvL⟩ := own_slice hoL
      subst hvL
      obtain ⟨gs, cs, hvS⟩ := own_slice hoS
      subst hvS
      obtain ⟨w3, hw3⟩ : ∃ w3, w3 = w2.alloc (.cells #[.slice gl n1 cl, .slice gs n2 cs] 34) := ⟨_, rfl⟩
      obtain ⟨one, hone⟩ : ∃ one, one = w2.heap.size := ⟨_, rfl⟩
      have hm3 : MidG wo w3 one s ((s :: ((L.drop (i0 + 1)).takeWhile (same s)).take 0).flatMap Prod.snd) := by
        have hb3 : Below w2.heap.size w2 w3 := by rw [hw3]; exact (Below.refl _ w2).alloc (Nat.le_refl _) _
        refine ⟨.slice gl n1 cl, .slice gs n2 cs, hb2.trans (hb3.mono hb2.size), ?_, by rw [hone]; exact hb2.size, ?_, ?_⟩
        · rw [hone, hw3]; exact Blk.new w2 34 _
        · rw [← HN1.out, hw3]; exact (own_less hoL (by omega)).alloc _
        · have e0 : (s :: ((L.drop (i0 + 1)).takeWhile (same s)).take 0).flatMap Prod.snd = s.2 := by simp
          rw [e0, ← HN2.out, hw3]; exact (own_less hoS (by omega)).alloc _
      obtain ⟨TT, hTT⟩ : ∃ TT, TT = (L.drop (i0 + 1)).takeWhile (same s) := ⟨_, rfl⟩
      rw [← hTT] at hm3
      have si : IntKind.i64.wrap ((i0 : Int) + 1) = ((i0 + 1 : Nat) : Int) := (IntWalk.i64_in _ (by omega)).trans (by omega)
      have HI2 := Lib.hid (show InR wo one s TT i0 (.int .i64 ((i0 + 1 : Nat) : Int)) w3 from ⟨0, rfl, Nat.zero_le _, hm3⟩)
      have HTT := Lib.hid hTT
      have HW3 := Lib.hid hw3
      have HONE := Lib.hid hone
      have hlL : i0 + 1 + TT.length ≤ nL := by
        rw [hTT]
        have h1 := congrArg List.length HDR.out
        rw [List.length_drop, List.length_cons] at h1
        have h2 := (List.takeWhile_sublist (same s) (l := L.drop (i0 + 1))).length_le
        have := HN.out
        omega
      clear hoL hoS hb2 hw3 hone hTT hm3 x0 x1 x2
      go_wp2_with fail
      clear si
      rw [← HW3.out, ← HONE.out]
      go_loopw [3] (fun i wx => InR wo one s TT i0 i wx) (fun i _ => i0 + 1 + TT.length - (intOf i).toNat)
      case atStart => exact HI2.out
      case round =>
        obtain ⟨j, rfl, hj, vL2, vS2, hbx, hbo, hone2, hoL2, hoS2⟩ := hrel
        obtain ⟨gl2, cl2, hv⟩ := own_slice hoL2
        subst hv
        obtain ⟨gs2, cs2, hv⟩ := own_slice hoS2
        subst hv
        obtain ⟨xs, hxs⟩ : ∃ xs, xs = (s :: TT.take j).flatMap Prod.snd := ⟨_, rfl⟩
        obtain ⟨m, hm⟩ : ∃ m, m = xs.length := ⟨_, rfl⟩
        rw [← hxs, ← hm] at hoS2 hbo
        rw [← HN1.out] at hoL2 hbo
        obtain ⟨i1, hi1⟩ : ∃ i1, i1 = i0 + 1 + j := ⟨_, rfl⟩
        rw [← hi1]
        have hblk := HBL.out.below hbx HBL.out.lt
        have hr34 := HR34.out.below hbx
        have k0 : ∀ st : Cls wr, st.val.cell? ⟨T, 0, none⟩ = some (.slice (some ⟨g, 0, none⟩) nL c) := fun st => (hblk.below st.2 hblk.lt).cell 0
        have k2 : ∀ st : Cls wr, st.val.cell? ⟨one, 0, none⟩ = some (.slice gl2 n1 cl2) := fun st => (hbo.below st.2 hbo.lt).cell 0
        have hmt : m ≤ 100000 := by
          have h1 := tot_le HDR.out j
          rw [← HTT.out, ← hxs, ← hm] at h1
          have := HTOT.out
          omega
        have HMX := Lib.hid (show MidG wo wr one s xs from ⟨.slice gl2 n1 cl2, .slice gs2 m cs2, hbx, hbo, hone2, by rw [← HN1.out]; exact hoL2, by rw [← hm]; exact hoS2⟩)
        have HHM := Lib.hid hm
        have HXS := Lib.hid hxs
        have HII := Lib.hid hi1
        by_cases hjT : j < TT.length
        · have hin : i1 < nL := by omega
          have i3 : decide ((i1 : Int) < (nL : Int)) = true := decide_eq_true (by omega)
          have i4 : (i1 : Int) < (nL : Int) := by omega
          obtain ⟨t, ht1, ht2, ht3⟩ := tw_get HDR.out (j := j) (by rw [← HTT.out]; exact hjT)
          rw [← HTT.out] at ht2
          rw [← hi1] at ht1
          obtain ⟨p, hp⟩ : ∃ p, vs[i1]? = some p := ⟨_, List.getElem?_eq_getElem (by have := HVS.out; omega)⟩
          have hso := (HOWN.out i1 p t hp ht1).below hbx
          obtain ⟨A3, c3, A4, c4, rfl⟩ := hso.slices
          obtain ⟨bL3, bS3⟩ := HSM.out t (List.mem_of_getElem? ht1)
          have k1 : ∀ st : Cls wr, st.val.cell? ⟨g, i1 * 2, none⟩ = some (.slice A3 t.1.length c3) := fun st => (hr34.below st.2).fst hp
          have HC := Lib.hid (fun st : Cls wr => show Calls Try.prog 25 #[.slice A3 t.1.length c3, .slice gl2 n1 cl2] st.val fun e w' => e = .returned (.int .i64 0) ∧ Below st.val.heap.size st.val w' by
            have h1 := (hso.below st.2).rd.1
            have hL3 : st.val.ownsRow wo.heap.size 61 2 (.slice gl2 n1 cl2) s.1.length (flatL s.1) := by rw [← HN1.out]; exact hoL2.kept (only_of_below st.2 none) (by cases (Value.slice gl2 n1 cl2).ownBlock <;> simp)
            have h2 : LabsAt st.val st.val.heap.size (.slice gl2 n1 cl2) s.1 := by rw [HN1.out] at hL3 ⊢; exact ⟨_, _, rfl, Reads.of_own hL3⟩
            have := lcompare_any st.val _ _ t.1 s.1 h1 h2 (by omega) (by rw [← HN1.out]; omega)
            rw [ht3] at this
            exact this)
          have HSO := Lib.hid hso
          have HP := Lib.hid hp
          have HT1 := Lib.hid ht2
          have HBO := Lib.hid hbo
          have HBX := Lib.hid hbx
          have HOL := Lib.hid hoL2
          have HOS := Lib.hid hoS2
          have HBK := Lib.hid hblk
          have HR4 := Lib.hid hr34
          have d4 : (0 : Int) ≤ (i1 : Int) := by omega
          clear hbx hbo hoL2 hoS2 hxs hm hi1 hblk hr34 ht1 ht2 ht3 hp hso
          go_wp2_with fail
          refine wp_region_cls (by kernel_rfl) (by kernel_rfl) ?_
          repeat (go_big_quiet_step ((go_at_call 25; exact Cls.call (HC.out _))))
          refine wpQuiet_nil ?_
          rintro _ ⟨st, rfl⟩
          go_wp2_with fail
          obtain ⟨w4, hb4⟩ := st
          dsimp only
          have bO4 := HBO.out.below hb4 HBO.out.lt
          have c0 : w4.cell? ⟨T, 0, none⟩ = some (.slice (some ⟨g, 0, none⟩) nL c) := (HBK.out.below hb4 HBK.out.lt).cell 0
          have c1 : w4.cell? ⟨g, i1 * 2 + 1, none⟩ = some (.slice A4 t.2.length c4) := (HR4.out.below hb4).snd HP.out
          have c2 : w4.cell? ⟨one, 1, none⟩ = some (.slice gs2 m cs2) := bO4.cell 1
          have f2 := bO4.frozen 1
          have oL4 := HOL.out.kept (only_of_below hb4 none) (by cases (Value.slice gl2 n1 cl2).ownBlock <;> simp)
          have oS4 := HOS.out.kept (only_of_below hb4 none) (by cases (Value.slice gs2 m cs2).ownBlock <;> simp)
          have hR : Reads w4 w4.heap.size 2 A4 t.2.length (flatS t.2) := by
            obtain ⟨-, A, c', e, hr⟩ := (HSO.out.below hb4).rd
            injection e with e1 _ e2
            subst e1 e2
            exact hr
          obtain ⟨n4, hn4⟩ : ∃ n, n = t.2.length := ⟨_, rfl⟩
          rw [← hn4] at hR c1 bS3
          have HB4 := Lib.hid (HBX.out.trans (hb4.mono HBX.out.size))
          have HR2 := Lib.hid hR
          have HO4 := Lib.hid bO4
          have HOL4 := Lib.hid oL4
          have HOS4 := Lib.hid oS4
          have HN4 := Lib.hid hn4
          have hl4 := hb4.size
          have hlx := HBX.out.size
          have si : IntKind.i64.wrap ((i1 : Int) + 1) = ((i1 + 1 : Nat) : Int) := (IntWalk.i64_in _ (by omega)).trans (by omega)
          clear bO4 oL4 oS4 hR hb4 HC k0 k1 k2 hn4
          go_region_law (first
            | (refine step_append_any w4.drew (by rfl) (.tmp 34) (.tmp 39) 32 (by rfl) wo.heap.size 51 j0 (.agg #[.int .i64 0, .float .f64 0]) 2 16 Try.underlying32 HJ.out HZ0.out HZ1.out HZ2.out rfl (by omega) (.slice gs2 m cs2) m (flatS xs) (by rfl) (show World.ownsRow w4.drew _ _ _ _ _ _ from HOS4.out) w4.heap.size A4 n4 c4 (flatS t.2) (by rfl) HR2.out.drew (flatS_one _) (by simp [maxLen]; omega) (by omega) (by show wo.heap.size ≤ w4.heap.size; omega) ?_; intro vA x1 hownA hgrowA _; obtain ⟨gs3, cs3, hvA⟩ := own_slice hownA; subst hvA; have bTx := HO4.out.drew.grown hgrowA (own_blk_ne HOS4.out HO4.out (by decide)).symm; have e0 : x1.cell? ⟨one, 1, none⟩ = some (.slice gs2 m cs2) := bTx.cell 1; have z0 := bTx.frozen 1; have HOA := Lib.hid hownA; have HGA := Lib.hid hgrowA; have BTX := Lib.hid bTx; clear hownA hgrowA bTx))
          all_goals
            have hx1 := HGA.out.size
            have hx1' : w4.heap.size ≤ x1.heap.size := hx1
            go_wp2
            refine ⟨⟨j + 1, congrArg (Value.int .i64) (by have := HII.out; omega), hjT, .slice gl2 n1 cl2, .slice gs3 (m + n4) cs3, ?_, ?_, hone2, ?_, ?_⟩, by have := HII.out; simp [intOf]; omega⟩
            · exact (HB4.out.drew.grown HGA.out HB4.out.size (fun k hk => (HOS4.out.lt k hk).1)).setCell (p := ⟨one, 1, none⟩) hone2 _
            · exact BTX.out.set_ 1 _
            · rw [← HN1.out]
              have oL5 := (show World.ownsRow w4.drew wo.heap.size 61 2 (.slice gl2 n1 cl2) n1 (flatL s.1) from HOL4.out).kept HGA.out (own_own_ne HOL4.out HOS4.out (by decide))
              exact ownsRow_setCell_other oL5 (own_blk_ne oL5 BTX.out (by decide)) _
            · rw [take_flat HT1.out, ← HXS.out]
              have := ownsRow_setCell_other HOA.out (own_blk_ne HOA.out BTX.out (by decide)) (.slice gs3 (m + n4) cs3) (a := ⟨one, 1, none⟩)
              rw [List.length_append, ← HHM.out, ← HN4.out]
              show World.ownsRow _ _ _ _ _ _ (flat2 _ _ (xs ++ t.2))
              rw [flat2_append]
              exact this
        · have hjT2 : j = TT.length := by omega
          have HMZ := Lib.hid (show MidG wo wr one s ((s :: TT).flatMap Prod.snd) by
            have := HMX.out
            rw [HXS.out, hjT2, List.take_length] at this
            exact this)
          by_cases hin : i1 < nL
          case' pos =>
            have i3 : decide ((i1 : Int) < (nL : Int)) = true := decide_eq_true (by omega)
            have i4 : (i1 : Int) < (nL : Int) := by omega
            obtain ⟨t, ht1⟩ : ∃ t, L[i1]? = some t := ⟨_, List.getElem?_eq_getElem (by have := HN.out; omega)⟩
            have ht3 : cmpL t.1 s.1 ≠ 0 := tw_end HDR.out (by rw [← HTT.out, ← hjT2, ← hi1]; exact ht1)
            obtain ⟨p, hp⟩ : ∃ p, vs[i1]? = some p := ⟨_, List.getElem?_eq_getElem (by have := HVS.out; omega)⟩
            have hso := (HOWN.out i1 p t hp ht1).below hbx
            obtain ⟨A3, c3, A4, c4, rfl⟩ := hso.slices
            obtain ⟨bL3, bS3⟩ := HSM.out t (List.mem_of_getElem? ht1)
            have k1 : ∀ st : Cls wr, st.val.cell? ⟨g, i1 * 2, none⟩ = some (.slice A3 t.1.length c3) := fun st => (hr34.below st.2).fst hp
            obtain ⟨qq, hqq⟩ : ∃ qq, qq = cmpL t.1 s.1 := ⟨_, rfl⟩
            have hq0 : (qq == 0) = false := beq_eq_false_iff_ne.2 (by rw [hqq]; exact ht3)
            have HC := Lib.hid (fun st : Cls wr => show Calls Try.prog 25 #[.slice A3 t.1.length c3, .slice gl2 n1 cl2] st.val fun e w' => e = .returned (.int .i64 qq) ∧ Below st.val.heap.size st.val w' by
              have h1 := (hso.below st.2).rd.1
              have hL3 : st.val.ownsRow wo.heap.size 61 2 (.slice gl2 n1 cl2) s.1.length (flatL s.1) := by rw [← HN1.out]; exact hoL2.kept (only_of_below st.2 none) (by cases (Value.slice gl2 n1 cl2).ownBlock <;> simp)
              have h2 : LabsAt st.val st.val.heap.size (.slice gl2 n1 cl2) s.1 := by rw [HN1.out] at hL3 ⊢; exact ⟨_, _, rfl, Reads.of_own hL3⟩
              have := lcompare_any st.val _ _ t.1 s.1 h1 h2 (by omega) (by rw [← HN1.out]; omega)
              rw [← hqq] at this
              exact this)
            have d4 : (0 : Int) ≤ (i1 : Int) := by omega
            clear hbx hbo hoL2 hoS2 hxs hm hi1 hblk hr34 ht1 ht3 hp hso hqq hjT2
            go_wp2_with fail
            refine wp_region_cls (by kernel_rfl) (by kernel_rfl) ?_
            repeat (go_big_quiet_step ((go_at_call 25; exact Cls.call (HC.out _))))
            refine wpQuiet_nil ?_
            rintro _ ⟨st, rfl⟩
            obtain ⟨w5, hb5⟩ := st
            dsimp only
            obtain ⟨vL5, vS5, h51, h52, h53, h54, h55⟩ := HMZ.out.below_ hb5
            clear HC k0 k1 k2 HMZ HMX hb5
          case' neg =>
            have i3 : decide ((i1 : Int) < (nL : Int)) = false := decide_eq_false (by omega)
            have i4 : ¬ (i1 : Int) < (nL : Int) := by omega
            clear hbx hbo hoL2 hoS2 hxs hm hi1 hblk hr34 hjT2
            go_wp2_with fail
            refine wp_region_cls (by kernel_rfl) (by kernel_rfl) ?_
            repeat (go_big_quiet_step (fail))
            refine wpQuiet_nil ?_
            rintro _ ⟨st, rfl⟩
            obtain ⟨w5, hb5⟩ := st
            dsimp only
            obtain ⟨vL5, vS5, h51, h52, h53, h54, h55⟩ := HMZ.out.below_ hb5
            clear k0 k2 HMZ HMX hb5
          all_goals
            obtain ⟨hg1, hg2, hg3, hg4⟩ := grp_step HDR.out HK1.out HK2.out
            rw [← HTT.out] at hg1 hg3 hg4
            obtain ⟨ys, hys⟩ : ∃ ys, ys = (s :: TT).flatMap Prod.snd := ⟨_, rfl⟩
            rw [← hys] at h55 hg1
            have hyl : ys.length ≤ 100000 := by
              have h1 := tot_le HDR.out TT.length
              rw [← HTT.out, List.take_length, ← hys] at h1
              have := HTOT.out
              omega
            obtain ⟨gl5, cl5, hv⟩ := own_slice h54
            subst hv
            obtain ⟨gs5, cs5, hv⟩ := own_slice h55
            subst hv
            have hne := own_own_ne h54 h55 (by decide)
            have hno1 := own_blk_ne h54 h52 (by decide)
            have hno2 := own_blk_ne h55 h52 (by decide)
            have hlo := fun k hk => (h55.lt k hk).1
            have c5 : w5.cell? ⟨one, 1, none⟩ = some (.slice gs5 ys.length cs5) := h52.cell 1
            have HSV := Lib.hid (sortv w5 _ _ ys h55 hyl)
            have HNE := Lib.hid hne
            have HNO1 := Lib.hid hno1
            have HNO2 := Lib.hid hno2
            have HLO := Lib.hid hlo
            have H51 := Lib.hid h51
            have H52 := Lib.hid h52
            have H54 := Lib.hid h54
            have HG1 := Lib.hid hg1
            have HG2 := Lib.hid hg2
            have HG3 := Lib.hid hg3
            have HG4 := Lib.hid hg4
            clear hg1 hg2 hg3 hg4 hys h51 h52 h54 h55 hne hno1 hno2 hlo
            go_wp2_with fail
            refine HSV.out.mono ?_
            rintro e w6 ⟨rfl, hso6, hg6⟩
            have hb6 := H52.out.grown hg6 (fun e => HNO2.out e.symm)
            have c6 : w6.cell? ⟨one, 1, none⟩ = some (.slice gs5 ys.length cs5) := hb6.cell 1
            have HUV := Lib.hid (uniqv w6 _ ys hso6 hyl)
            have HG6 := Lib.hid hg6
            have HB6 := Lib.hid hb6
            clear c5 hso6 hg6 hb6
            go_wp2_with fail
            refine HUV.out.mono ?_
            rintro e w7 ⟨⟨v7, rfl, hrv7, hob7, o7, n7, c7, rfl⟩, hg7⟩
            have hb7 := HB6.out.grown hg7 (fun e => HNO2.out e.symm)
            have d7 : w7.cell? ⟨one, 1, none⟩ = some (.slice gs5 ys.length cs5) := hb7.cell 1
            have f7 := hb7.frozen 1
            obtain ⟨w8, hw8⟩ : ∃ w8, w8 = w7.setCell ⟨one, 1, none⟩ (.slice o7 n7 c7) := ⟨_, rfl⟩
            have b8 : Blk w8 one 34 #[.slice gl5 s.1.length cl5, .slice o7 n7 c7] := by rw [hw8]; exact hb7.set_ 1 _
            have hbel : Below wo.heap.size wo w8 := by
              rw [hw8]
              have h1 := H51.out.grown HG6.out H51.out.size HLO.out
              exact (h1.grown hg7 h1.size HLO.out).setCell (p := ⟨one, 1, none⟩) hone2 _
            have hL8 : w8.ownsRow wo.heap.size 61 2 (.slice gl5 s.1.length cl5) s.1.length (flatL s.1) := by
              rw [hw8]
              exact ownsRow_setCell_other ((H54.out.kept HG6.out HNE.out).kept hg7 HNE.out) HNO1.out _
            have hR8 : RowV w8 (.slice o7 n7 c7) (putAll [] ys) := hrv7.keep fun k hk => by
              rw [hw8]
              exact Below.heap_setCell w7 ⟨one, 1, none⟩ _ k (fun e => HNO2.out (by rw [← hob7, hk, e]))
            have hph : PhM L k (.slice gl5 s.1.length cl5, .slice o7 n7 c7) w8 := ⟨_, HG1.out, ⟨_, _, rfl, Reads.of_own hL8⟩, hR8.rd⟩
            obtain ⟨fn, tmps, assign, body, hy, hRd⟩ := HY.out k _ w8 (HJB.out k wo w8 HJK.out hbel) hph HG2.out
            have e0 : w8.cell? ⟨one, 0, none⟩ = some (.slice gl5 s.1.length cl5) := b8.cell 0
            have e1 : w8.cell? ⟨one, 1, none⟩ = some (.slice o7 n7 c7) := b8.cell 1
            have HRd := Lib.hid hRd
            have HW8 := Lib.hid hw8
            clear hrv7 hob7 hg7 hb7 hw8 b8 hbel hL8 hR8 hph hRd c6
            go_upto_region 9 with (fail)
            rw [← HW8.out]
            clear d7 f7
            refine (wpIn_wide (n := n)).1 ?_
            gi_wp2
            refine ⟨(fun h => by cases h), HRd.out.mono ?_⟩
            rintro e W3 (⟨rfl, hJ3⟩ | ⟨rfl, hJx3⟩)
            · have HJ3 := Lib.hid hJ3
              clear hJ3 e0 e1 hy HRd
              gi_wp2
              go_wp2_with fail
              have hj9 : j = TT.length := by omega
              have hi9 : i1 = i0 + 1 + TT.length := by have := HII.out; omega
              exact ⟨⟨i1, k + 1, rfl, by have := HN.out; omega, by rw [hi9]; exact HG3.out, by rw [hi9]; exact HG4.out, HJ3.out⟩, by simp [intOf]; omega⟩
            · have HJX := Lib.hid hJx3
              clear hy HRd hJx3
              gi_wp2
              go_wp2_with fail
              rw [Exit.noGoto_normal]
              refine bodyPost_end (results_none rfl _ _ _) rfl ?_
              exact ⟨⟨_, rfl⟩, .inr HJX.out⟩
    · have i1 : ¬ (i0 : Int) < (nL : Int) := by omega
      have hkN : k = (grp L).length := by
        have := HK1.out
        rw [List.drop_of_length_le (by have := HN.out; omega)] at this
        exact this
      have HF := Lib.hid (show J (grp L).length wo by rw [← hkN]; exact HJK.out)
      clear hkN
      go_wp2_with fail
      refine bodyPost_end (results_none rfl _ _ _) rfl ?_
      exact ⟨⟨_, rfl⟩, .inl HF.out⟩
end Go.Proofs.Ytnglejopbpnknaa
namespace Go.Proofs.Ytnglejopbpnknaa
open Go.RowKit

def noDefer (o : Oper) : Bool := match o.op with
  | .defer _ => false
  | _ => true
theorem noDefer_spec {o : Oper} (h : noDefer o = true) : ∀ c, o.op ≠ .defer c := fun c e => by
  unfold noDefer at h
  rw [e] at h
  cases h
section
variable {F : Fence} {n : Nat} {P : Program} {ops : Array Oper} {md : Region.Mode} {C : World → Prop}
theorem wpIn_of_quiet_r {o : Oper} {a : Act} {K : Act → Prop} {K' : Act → World → Prop} {Q' : Exit → Act → World → Prop} {w : World} (hnd : noDefer o = true) (hw : C w) (h : ∀ a w', C w' → K a → K' a w')
    (ha : o.askedIn F P a C) (hh : o.quietIn F n P a C K) : o.wpIn F n P a w K' Q' := by
  obtain ⟨v, h1, h2⟩ := hh
  have h3 := h1 w hw
  unfold Oper.quietAtIn at h3
  unfold Oper.wpIn
  refine ⟨ha w hw, ?_⟩
  rw [Oper.semAt_plain F _ _ (noDefer_spec hnd)]
  generalize (execOp a.eval o).run P w = r at *
  cases r with
  | ok x w' =>
    cases x <;> simp only [Oper.quietUponIn] at h3 <;> simp only [Oper.uponIn]
    case value u =>
      obtain ⟨e1, e2⟩ := h3
      rw [e1, e2]
      exact h _ _ hw h2
    case skip =>
      obtain ⟨e1, e2⟩ := h3
      rw [e1, ← e2]
      exact h _ _ hw h2
    case enter f args =>
      obtain ⟨e1, hd, hc⟩ := h3
      rw [e1]
      exact ⟨hd, hc.mono fun e w'' ⟨he, hw''⟩ => by subst he; exact h _ _ hw'' h2⟩
  | halt x w' => simp only [Oper.quietUponIn] at h3
theorem wpOpIn_of_qOpIn_r {i : Nat} {a : Act} {K : Act → Prop} {K' : Act → World → Prop} {Q' : Exit → Act → World → Prop} {w : World} (hnd : ∀ (j : Nat) (o : Oper), ops[j]? = some o → noDefer o = true) (hC : C w) (h : ∀ a w', C w' → K a → K' a w')
    (hh : qOpIn F n P ops C i K a) : wpOpIn F n P ops Q' i K' a w := by
  unfold qOpIn at hh
  unfold wpOpIn
  split
  · rename_i ho; simp only [ho] at hh; exact h _ _ hC hh
  · rename_i o ho
    simp only [ho] at hh
    obtain ⟨ha, hh⟩ := hh
    split
    · rename_i hw; simp only [hw, if_true] at hh; exact wpIn_of_quiet_r (hnd i o ho) hC h ha hh
    · rename_i hw; simp only [hw] at hh; exact ⟨ha w hC, h _ _ hC hh⟩
theorem wpAnyIn_of_quiet_r {Q : Act → Prop} {Q' : Exit → Act → World → Prop} (hnd : ∀ (j : Nat) (o : Oper), ops[j]? = some o → noDefer o = true) (hQ : ∀ a w, C w → Q a → Q' .normal a w) : ∀ (fuel : Nat) (listed : Array Bool) (a : Act) (w : World), C w →
    wpAnyQIn F n P md ops C Q fuel listed a → wpAnyIn F n P md ops Q' fuel listed a w
  | 0, _, _, _, hw, h => ⟨h.1, hQ _ _ hw h.2⟩
  | fuel + 1, _, _, _, hw, h => ⟨fun h0 => hQ _ _ hw (h.1 h0), fun i hi => wpOpIn_of_qOpIn_r hnd hw (fun a' w' hw' => wpAnyIn_of_quiet_r hnd hQ fuel _ a' w' hw') (h.2 i hi)⟩
theorem wpIn_region_quiet_r {id : Nat} {Q : Exit → Act → World → Prop} {a : Act} {w : World} {l : List Oper} (hd : l.all noDefer = true) (hm : P.follows .mixedOrders = true) (hB : Region.lexB .any l.toArray = true)
    (h : wpQuietIn F n P l.toArray (fun w' => ∃ n, w' = w.drewN n) (fun a' => ∀ w', (∃ n, w' = w.drewN n) → Q .normal a' w') l a) : (Code.region id l.toArray true).wpIn F n P Q a w := by
  simp only [Region.lexB, Bool.and_eq_true] at hB
  have hnd : ∀ (j : Nat) (o : Oper), l.toArray[j]? = some o → noDefer o = true := fun j o ho => by
    rw [List.getElem?_toArray] at ho
    exact List.all_eq_true.1 hd o (List.mem_of_getElem? ho)
  refine wpIn_region_any hm (wpAnyIn_of_quiet_r (C := fun w' => ∃ n, w' = w.drewN n) (Q := fun a' => ∀ w', (∃ n, w' = w.drewN n) → Q .normal a' w') hnd (fun _ w' hw' h => h w' hw') _ _ _ _ ⟨1, rfl⟩ ?_)
  have := wpAnyQIn_lex (F := F) (n := n) (C := fun w' => ∃ n, w' = w.drewN n) (md := .any) hB.1 l 0 (Array.replicate l.toArray.size false) a (by simp) (by simpa using hB.2) (by simpa using h)
  simpa using this
end
end Go.Proofs.Ytnglejopbpnknaa
namespace Go.Proofs.Ytnglejopbpnknaa
open Go.RowKit Go.Shelf
theorem Reads.cells {A B : World} {B0 sz n : Nat} {ad : Option Addr} {xs : List Value} (h : Reads A B0 sz ad n xs) (hk : CellsKept A B) : Reads B B0 sz ad n xs :=
  ⟨h.1, fun hn => by
    obtain ⟨a, e, hb, hc⟩ := h.2 hn
    exact ⟨a, e, hb, fun j u hu => hk.cell _ _ (hc j u hu)⟩⟩
theorem SerRd.cells {A B : World} {B0 : Nat} {p : VV} {s : Ser} (h : SerRd A B0 p s) (hk : CellsKept A B) : SerRd B B0 p s := by
  obtain ⟨⟨A1, c1, e1, r1⟩, A2, c2, e2, r2⟩ := h
  exact ⟨⟨A1, c1, e1, r1.cells hk⟩, A2, c2, e2, r2.cells hk⟩
theorem PhM.cells {L : List Ser} {k : Nat} {x : VV} {A B : World} (h : PhM L k x A) (hk : CellsKept A B) : PhM L k x B := by
  obtain ⟨s, h1, h2⟩ := h
  exact ⟨s, h1, (h2.cells hk).more hk.size⟩
theorem wide_fn (f : FuncId) : Fence.wide.fn f := trivial
theorem with_act {F : Fence} {n : Nat} {P : Program} {c : Code} {Q : Exit → Act → World → Prop} {a : Act} {w : World} (h : ∀ a', a' = a → c.wpIn F n P Q a' w) : c.wpIn F n P Q a w := h a rfl
/-- what lies while it ranges -/
structure Held (V : World) (B R g5 g6 g7 g8 T : Nat) (z1 z2 : Int) (AO : Option Addr) (cO N : Nat) (want L : List Ser) : Prop where
  ret : Blk V R 4 #[.bool false]
  b5 : Blk V g5 3 #[.int .i64 z1]
  b6 : Blk V g6 3 #[.int .i64 z2]
  b7 : Blk V g7 22 #[.slice AO N cO]
  b8 : Blk V g8 29 #[.func (.func 26) #[] #[.pointer (some ⟨T, 0, none⟩)]]
  out : OutAt V B (.slice AO N cO) want
  box : BoxAt V T L
  size : B ≤ V.heap.size
theorem Held.below {V W : World} {B R g5 g6 g7 g8 T : Nat} {z1 z2 : Int} {AO : Option Addr} {cO N : Nat} {want L : List Ser} (h : Held V B R g5 g6 g7 g8 T z1 z2 AO cO N want L) (hb : Below V.heap.size V W) : Held W B R g5 g6 g7 g8 T z1 z2 AO cO N want L :=
  ⟨h.ret.below hb h.ret.lt, h.b5.below hb h.b5.lt, h.b6.below hb h.b6.lt, h.b7.below hb h.b7.lt, h.b8.below hb h.b8.lt, h.out.below hb h.size, h.box.below hb, Nat.le_trans h.size hb.size⟩
theorem Held.drewN {V : World} {B R g5 g6 g7 g8 T : Nat} {z1 z2 : Int} {AO : Option Addr} {cO N : Nat} {want L : List Ser} (h : Held V B R g5 g6 g7 g8 T z1 z2 AO cO N want L) (q : Nat) : Held (V.drewN q) B R g5 g6 g7 g8 T z1 z2 AO cO N want L :=
  h.below (below_drewN (Below.refl _ V) q)
/-- what one series of the wanted list looks like in memory -/
theorem OutAt.at_ {w : World} {B N : Nat} {A : Option Addr} {c : Nat} {out : List Ser} {k : Nat} {s : Ser} (h : OutAt w B (.slice A N c) out) (hN : N = out.length) (hs : out[k]? = some s) (hB : B ≤ w.heap.size) :
    ∃ g AL cL AS cS, A = some ⟨g, 0, none⟩ ∧ w.cell? ⟨g, k * 2, none⟩ = some (.slice AL s.1.length cL) ∧ w.cell? ⟨g, k * 2 + 1, none⟩ = some (.slice AS s.2.length cS) ∧ LabsAt w w.heap.size (.slice AL s.1.length cL) s.1 ∧ SmpsRd w w.heap.size (.slice AS s.2.length cS) s.2 := by
  subst hN
  obtain ⟨vs, h1, h2, h3⟩ := h
  have hlt := (List.getElem?_eq_some_iff.1 hs).1
  have hv : vs[k]? = some vs[k] := List.getElem?_eq_getElem (by omega)
  obtain ⟨k1, k2⟩ := h3 k _ s hv hs
  obtain ⟨d, hA, -, x1, x2⟩ := (Reads.of_own h2).two hv
  obtain ⟨g, cap, hfm, -⟩ := h2.form (by omega)
  injection hfm with e1 e2 e3
  obtain ⟨AL, cL, e4, r4⟩ := id k1
  obtain ⟨AS, cS, e5⟩ := own_slice k2
  rw [e4] at x1 k1
  rw [e5] at x2 k2
  subst e1
  injection hA with hA
  subst hA
  refine ⟨g, AL, cL, AS, cS, rfl, ?_, ?_, k1.more hB, AS, cS, rfl, Reads.of_own k2⟩
  · rw [← x1]; congr 1; unfold Addr.add; split <;> simp_all
  · rw [← x2]; congr 1; unfold Addr.add; split <;> simp_all
theorem keeps_set {B g : Nat} {W : World} (i : Nat) (u : Value) (hg : g < B) : KeepsFrom B W (W.setCell ⟨g, i, none⟩ u) :=
  ⟨by simp [World.setCell], fun k o hB hk _ => (Below.heap_setCell W ⟨g, i, none⟩ u k (by show k ≠ g; omega)).trans hk⟩
theorem keeps_below {B : Nat} {W W' : World} (h : Below W.heap.size W W') : KeepsFrom B W W' :=
  KeepsFrom.of_grownBy (only_of_below h none) (fun j e => by cases e)
theorem filter_swap {α : Type} (p q : α → Bool) (l : List α) : (l.filter p).filter q = (l.filter q).filter p := by
  rw [List.filter_filter, List.filter_filter]
  exact congrArg (fun f => List.filter f l) (funext fun a => Bool.and_comm _ _)
theorem filter_len {α : Type} (p : α → Bool) : ∀ l : List α, (l.filter p).length + (l.filter fun a => !p a).length = l.length
  | [] => rfl
  | a :: l => by
    have := filter_len p l
    cases h : p a <;> simp [h] <;> omega
theorem alike_len {α : Type} {lt : α → α → Bool} (hr : Rank lt) : ∀ (n : Nat) (l m : List α), l.length ≤ n → Alike lt l m → l.length = m.length
  | 0, [], m, _, h => by rw [Alike.nil hr h]
  | n + 1, [], m, _, h => by rw [Alike.nil hr h]
  | n + 1, x :: l, m, hn, h => by
    have e1 := h x
    have h2 : Alike lt ((x :: l).filter fun a => !eqv lt x a) (m.filter fun a => !eqv lt x a) := fun y => by
      rw [filter_swap _ (eqv lt y), filter_swap _ (eqv lt y), h y]
    have hx : ((x :: l).filter (eqv lt x)).length ≠ 0 := by simp [hr.refl x]
    have k1 := filter_len (eqv lt x) (x :: l)
    have k2 := filter_len (eqv lt x) m
    have := alike_len hr n _ _ (by simp only [List.length_cons] at hn k1; omega) h2
    rw [e1] at k1
    omega
theorem grpF_le : ∀ (n : Nat) (l : List Ser), (grpF n l).length ≤ l.length
  | 0, l => by simp [grpF]
  | n + 1, [] => by simp [grpF]
  | n + 1, s :: l => by
    have h1 := grpF_le n (l.dropWhile (same s))
    have h2 := (List.dropWhile_sublist (same s) (l := l)).length_le
    show _ + 1 ≤ _
    simp only [List.length_cons]
    omega
theorem grp_le (l : List Ser) : (grp l).length ≤ l.length := grpF_le _ _
theorem flat_le : ∀ l : List Ser, Small l → (l.flatMap Prod.snd).length ≤ 1000 * l.length
  | [], _ => by simp
  | a :: l, h => by
    have h1 := flat_le l fun s hs => h s (List.mem_cons_of_mem _ hs)
    have h2 := (h a List.mem_cons_self).2
    rw [List.flatMap_cons, List.length_append, List.length_cons]
    omega
/-- behind some rounds: the counter -/
def LI (w8 : World) (g : Nat) (n : Nat) (V : World) : Prop := Below w8.heap.size w8 V ∧ Blk V g 3 #[.int .i64 (n : Int)]
theorem LI.under {w8 : World} {g n : Nat} {A B : World} {X : Nat} (h : LI w8 g n A) (hX : w8.heap.size ≤ X) (hg : g < X) (hb : Below X A B) : LI w8 g n B := ⟨h.1.trans (hb.mono hX), h.2.below hb hg⟩
/-- what the assigning code leaves -/
def AsM (a8 : Act) (i j : Nat) (L : List Ser) (k : Nat) (x : VV) (a' : Act) (W : World) : Prop :=
  ∃ b s, a' = { a8 with tmps := (a8.tmps.setIfInBounds i (.agg #[x.1, x.2])).setIfInBounds j (.pointer (some ⟨b, 0, none⟩)) } ∧ (grp L)[k]? = some s ∧ W.cell? ⟨b, 0, none⟩ = some x.1 ∧ W.cell? ⟨b, 1, none⟩ = some x.2 ∧ SerRd W W.heap.size x s
theorem AsM.cells {a8 : Act} {i j : Nat} {L : List Ser} {k : Nat} {x : VV} {a' : Act} {A B : World} (h : AsM a8 i j L k x a' A) (hk : CellsKept A B) : AsM a8 i j L k x a' B := by
  obtain ⟨b, s, h1, h2, h3, h4, h5⟩ := h
  exact ⟨b, s, h1, h2, hk.cell _ _ h3, hk.cell _ _ h4, (h5.cells hk).more hk.size⟩
theorem sub_flat {a b : List Ser} (hs : a.Sublist b) : (a.flatMap Prod.snd).length ≤ (b.flatMap Prod.snd).length := by
  induction hs with
  | slnil => exact Nat.le_refl _
  | cons x _ ih => rw [List.flatMap_cons, List.length_append]; omega
  | cons_cons x _ ih => rw [List.flatMap_cons, List.flatMap_cons, List.length_append, List.length_append]; omega
theorem grpF_small : ∀ (n : Nat) (l : List Ser) (y : Ser), y ∈ grpF n l → y.2.length ≤ (l.flatMap Prod.snd).length
  | 0, _, y, h => by simp [grpF] at h
  | n + 1, [], y, h => by simp [grpF] at h
  | n + 1, s :: l, y, h => by
    rcases List.mem_cons.1 h with rfl | h
    · have h1 := putAll_len ((s :: l.takeWhile (same s)).flatMap Prod.snd) []
      have h2 := sub_flat (List.Sublist.cons_cons s (List.takeWhile_sublist (same s) (l := l)))
      show (putAll [] _).length ≤ _
      simp only [List.length_nil] at h1
      omega
    · have h1 := grpF_small n _ y h
      have h2 := sub_flat ((List.dropWhile_sublist (same s) (l := l)).cons s)
      omega
theorem grp_small {L : List Ser} (hs : Small L) (hl : L.length ≤ 24) {k : Nat} {y : Ser} (h : (grp L)[k]? = some y) : y.1.length ≤ 1000 ∧ y.2.length ≤ 24000 := by
  have hm := List.mem_of_getElem? h
  obtain ⟨x, hx, e⟩ := grpF_key _ L y hm
  have h1 := grpF_small _ L y hm
  have h2 := flat_le L hs
  exact ⟨e ▸ (hs x hx).1, by omega⟩
theorem callsIn_quiet {F : Fence} {n : Nat} {P : Program} {f : FuncId} {args : Array Value} {w : World} {k : Nat} {v : Value}
    (h : CallsIn F n P f args (w.drewN k) fun e w' => e = .returned v ∧ ∃ q, w' = (w.drewN k).drewN q) : CallsIn F n P f args (w.drewN k) fun e w'' => e = .returned v ∧ ∃ m, w'' = w.drewN m :=
  h.mono fun _ _ ⟨he, q, hq⟩ => ⟨he, k + q, by rw [hq, World.drewN_drewN]⟩
end Go.Proofs.Ytnglejopbpnknaa
