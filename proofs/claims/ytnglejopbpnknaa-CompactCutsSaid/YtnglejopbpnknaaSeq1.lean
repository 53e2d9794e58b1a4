/- A range over a function whose iterator yields once (the value is new; the assignment lays one block). After the kit's law for iterators that read memory. -/
import Derived.RangeFuncKeeps
import Derived.Test.YtnglejopbpnknaaLib
namespace Go.Proofs.Ytnglejopbpnknaa
open Go.RowKit

/-- how the body of the round may be left: off its end -/
def ownPost1 (K : Nat → Prop) (I : World → Prop) (W : World) : Exit → Act → World → Prop
  | .normal, _, W' => (∀ k, K k → W'.heap[k]? = W.heap[k]?) ∧ I W'
  | .ret, _, _ => False
  | .exit _, _, _ => False
  | .goto _, _, _ => False
  | .panic _, _, _ => False
  | .outgrown, _, _ => False

variable {F : Fence} {n : Nat} {P : Program}

theorem wpIn_rangeFunc_1 {g : Operand} {ps : Array Tmp} {assign body : Code} {Q : Exit → Act → World → Prop} {a : Act} {w : World}
    (hro : F.round = none) (h1 : 1 ≤ n) {gf : Nat} {lb : Array Value} (hg : a.eval g = .func (.func gf) #[] lb) (hFg : F.fn gf) (eg : ∀ args w, (callFunc gf args).run P w = .ok (.enter gf args) w)
    (C : World → Array Value → World → Prop) (keep : Nat) (hkeep : keep < w.heap.size)
    (hseq : ∀ (l : Nat) (J Jx : World → Prop) (W : World), Below w.heap.size w W →
      (∀ args W1, C W args W1 → YieldAt F (n - 1 - 1) P l args W1 fun e W' => (e = .returned (.bool true) ∧ J W' ∧ W'.heap[keep]? = W1.heap[keep]?) ∨ (e = .returned (.bool false) ∧ Jx W')) →
      CallsIn F (n - 1) P gf (#[.func (.yield l) #[] #[]] ++ lb) W fun e W' => (∃ v, e = .returned v) ∧ (J W' ∨ Jx W'))
    (hC : ∀ W args W1, C W args W1 → args.size = ps.size ∧ Below W.heap.size W W1)
    (I : World → Prop) (hI : ∀ A B, I A → A.grownBy B (some (w.heap.size + 1)) → I B)
    (a₁ : Array Value → World → Act) (o : Array Value → Obj)
    (hassign : ∀ (l : Nat) (W W1 : World) (args : Array Value) (K : Act → World → Prop), C W args W1 → K (a₁ args W1) (W1.alloc (o args)) →
      assign.wpIn (F.inRound l) (n - 1 - 1) P (Exit.then K (fun _ _ _ => False)) { tmps := (ps.zip args).foldl (fun t (p, v) => t.setIfInBounds p v) a.tmps, defers := [] } W1)
    (hbody : ∀ (l : Nat) (W W1 W3 : World) (args : Array Value), C W args W1 → Below w.heap.size w W → W.heap.size = w.heap.size + 2 → (W1.alloc (o args)).grownBy W3 (some (w.heap.size + 1)) →
      body.wpIn (F.inRound l) (n - 1 - 1) P (ownPost1 (fun k => k = w.heap.size ∨ k = w.heap.size + 1 ∨ k = keep) I W3) (a₁ args W1) W3)
    (hdone : ∀ (W : World), I W → W.heap[w.heap.size]? = some (.deferred (some [])) → Q .normal { a with defers := { target := .collected w.heap.size, args := #[] } :: a.defers } W) :
    (Code.rangeFunc g ps assign body).wpIn F n P Q a w := by
  refine wpIn_rangeFunc ?_
  intro fn hfn
  rw [hro]
  obtain ⟨rec, hrec⟩ : ∃ rec : LoopState → Option Code → Loop, rec = fun st pe => { state := st, pending := pe, fn, tmps := a.tmps, params := ps, assign, body, defers := w.heap.size } := ⟨_, rfl⟩
  obtain ⟨W1, hW1⟩ : ∃ W1, (w.alloc (.deferred (some []))).alloc (.loop (rec .ready none)) = W1 := ⟨_, rfl⟩
  have hsz : W1.heap.size = w.heap.size + 2 := by rw [← hW1]; simp
  have hL1 : W1.heap[w.heap.size + 1]? = some (.loop (rec .ready none)) := by
    rw [← hW1]; have := World.alloc_heap_new (w.alloc (.deferred (some []))) (.loop (rec .ready none)); rwa [World.size_alloc] at this
  have hK1 : W1.heap[w.heap.size]? = some (.deferred (some [])) := by
    rw [← hW1]; exact (Below.heap_alloc _ _ _ (by simp)).trans (World.alloc_heap_new w _)
  have hb1 : Below w.heap.size w W1 := by
    rw [← hW1]; exact ((Below.refl _ w).alloc (Nat.le_refl _) _).alloc (by simp) _
  have hput : ∀ (W : World) (o : Obj), W.grownBy (W.putObj (w.heap.size + 1) o) (some (w.heap.size + 1)) := fun W o => grownBy_putObj' W _ o
  refine ⟨w.heap.size + 1, [{ target := .collected w.heap.size, args := #[] }], W1, { target := .fn (.func gf) lb, args := #[.func (.yield (w.heap.size + 1)) #[] #[]] }, W1, gf,
    #[.func (.yield (w.heap.size + 1)) #[] #[]] ++ lb, W1, ?_, ?_, ?_, ?_, fun _ => h1, ?_⟩
  · rw [← hW1, hrec]; exact run_enterLoop_outer _ _ _ _ _
  · simp only [resolve, hg]
    simp [go_sem]
  · intro f' hf'; simp [Target.leads] at hf'; subst hf'; exact hFg
  · simp [invoke, go_sem, eg]
  · refine (hseq (w.heap.size + 1)
      (fun W => I W ∧ W.heap[w.heap.size + 1]? = some (.loop (rec .ready none)) ∧ W.heap[w.heap.size]? = some (.deferred (some [])))
      (fun _ => False) W1 hb1 ?_).mono ?_
    · intro args W hc
      obtain ⟨hps, hbW⟩ := hC W1 args W hc
      have hl : W.heap[w.heap.size + 1]? = some (.loop (rec .ready none)) := (hbW.block _ (by omega)).trans hL1
      have hk : W.heap[w.heap.size]? = some (.deferred (some [])) := (hbW.block _ (by omega)).trans hK1
      have hlt : w.heap.size + 1 < W.heap.size := (Array.getElem?_eq_some_iff.1 hl).1
      have hy := run_yield (P := P) (args := args) hl (by rw [hrec]; exact hps)
      rw [hrec] at hy
      obtain ⟨Wa, hWa⟩ : ∃ Wa, W.alloc (o args) = Wa := ⟨_, rfl⟩
      have hla : Wa.heap[w.heap.size + 1]? = some (.loop (rec .ready none)) := by rw [← hWa]; exact (Below.heap_alloc W _ _ hlt).trans hl
      have hka : Wa.heap[w.heap.size]? = some (.deferred (some [])) := by rw [← hWa]; exact (Below.heap_alloc W _ _ (by omega)).trans hk
      have hkpa : Wa.heap[keep]? = W.heap[keep]? := by rw [← hWa]; exact Below.heap_alloc W _ _ (by omega)
      have hlta : w.heap.size + 1 < Wa.heap.size := (Array.getElem?_eq_some_iff.1 hla).1
      refine ⟨fn, _, assign, body, hy, roundIn_of_wpIn hfn (hassign _ W1 W args _ hc ?_)⟩
      rw [hWa]
      refine ⟨_, run_beginRound hla (by rw [hrec]), ?_⟩
      obtain ⟨W2, hW2⟩ : ∃ W2, Wa.putObj (w.heap.size + 1) (.loop { rec .ready none with state := .busy }) = W2 := ⟨_, rfl⟩
      have hl2 : W2.heap[w.heap.size + 1]? = some (.loop { rec .ready none with state := .busy }) := by rw [← hW2]; exact World.putObj_heap_same hlta
      have hg2 : Wa.grownBy W2 (some (w.heap.size + 1)) := by rw [← hW2]; exact hput _ _
      have hk2 : W2.heap[w.heap.size]? = some (.deferred (some [])) := (hg2.block _ (by omega) (by simp)).trans hka
      have hkp2 : W2.heap[keep]? = W.heap[keep]? := (hg2.block _ (by omega) (by simp; omega)).trans hkpa
      rw [hW2]
      refine wpIn_mono (hbody _ W1 W W2 args hc hb1 hsz (by rw [hWa]; exact hg2)) ?_
      rintro e a3 W3 hp
      cases e with
      | normal =>
        obtain ⟨hk3, hi3⟩ := hp
        have hl3 := (hk3 (w.heap.size + 1) (.inr (.inl rfl))).trans hl2
        have h03 := (hk3 w.heap.size (.inl rfl)).trans hk2
        have hkp3 := (hk3 keep (.inr (.inr rfl))).trans hkp2
        have hr := run_endRound (P := P) none hl3
        rw [hrec] at hr
        refine ⟨_, _, hr, .inl ⟨rfl, ⟨hI _ _ hi3 (hput _ _), ?_, (World.putObj_heap_other (by omega)).trans h03⟩, (World.putObj_heap_other (by omega)).trans hkp3⟩⟩
        rw [hrec]; exact World.putObj_heap_same (Array.getElem?_eq_some_iff.1 hl3).1
      | ret => exact hp.elim
      | exit id => exact hp.elim
      | goto t => exact hp.elim
      | panic ch => exact hp.elim
      | outgrown => exact hp.elim
    · rintro e W2 ⟨⟨v, rfl⟩, (⟨hi, hl, hk⟩ | hx)⟩
      · exact ⟨none, _, by have := run_endLoop (P := P) hl (by rw [hrec]; simp); rw [hrec] at this; exact this, hdone _ (hI _ _ hi (hput _ _)) ((World.putObj_heap_other (by omega)).trans hk)⟩
      · exact hx.elim
end Go.Proofs.Ytnglejopbpnknaa
