/- A range over a function whose iterator keeps a state of its own in one block X of cells. After the kit's law for iterators that read memory. The walk of told's iterator (118), over well-formed records; that of told (85). Laws for a region in a round that draws its order and appends; told (85). -/
import Derived.RangeFuncKeeps
import Derived.Test.YtfchnpdgnhoffaaGreatDoorJ00Lib
import Derived.RangeFuncNested
import Derived.RangeFuncBound
import Derived.RangeFuncCalls
import Derived.RangeFuncLeaves
import Derived.Shelf.Abstract
import Derived.Shelf.RegionOpen
import Derived.OwnWalkIn
import Derived.TacticsInMore
import Derived.LoopNIn
import Derived.LoopIn
import Derived.Sort.QuietIn
import Derived.Test.YtfchnpdgnhoffaaGreatDoorJ09WPlain
namespace Go.Proofs.YtfchnpdgnhoffaaGreatDoor
open Go.RowKit

/-- the iterator's contract: X is its own block; 'keep': the blocks that it reads between two rounds -/
def SeqD {α : Type} (F : Fence) (n : Nat) (P : Program) (g : Nat) (lb : Array Value) (encs : α → Array Value) (X : Nat) (keep : Nat → Prop) (xs : List α) (w0 : World) : Prop :=
  ∀ (l : Nat) (J Jx : List α → World → Prop) (W : World), Below w0.heap.size w0 W →
    (∀ s A B, J s A → A.grownBy B (some X) → J s B) →
    (∀ pre x W1, J pre W1 → pre ++ [x] <+: xs → W.heap.size ≤ W1.heap.size → YieldAt F (n - 1) P l (encs x) W1 fun e W' =>
      (e = .returned (.bool true) ∧ J (pre ++ [x]) W' ∧ W1.heap.size ≤ W'.heap.size ∧ ∀ k, k = X ∨ keep k → W'.heap[k]? = W1.heap[k]?) ∨ (e = .returned (.bool false) ∧ Jx (pre ++ [x]) W')) →
    J [] W →
    CallsIn F n P g (#[.func (.yield l) #[] #[]] ++ lb) W fun e W' => (∃ v, e = .returned v) ∧ (J xs W' ∨ ∃ pre, pre <+: xs ∧ Jx pre W')

/-- how the body of a round may be left -/
def ownPostD {α : Type} (K : Nat → Prop) (I : List α → World → Prop) (Ix : Code → List α → World → Prop) (xs : List α) (W : World) : Exit → Act → World → Prop
  | .normal, _, W' => W.heap.size ≤ W'.heap.size ∧ (∀ k, K k → W'.heap[k]? = W.heap[k]?) ∧ I xs W'
  | .ret, _, W' => W.heap.size ≤ W'.heap.size ∧ (∀ k, K k → W'.heap[k]? = W.heap[k]?) ∧ Ix .ret xs W'
  | .exit id, _, W' => W.heap.size ≤ W'.heap.size ∧ (∀ k, K k → W'.heap[k]? = W.heap[k]?) ∧ Ix (.exit id) xs W'
  | .goto t, _, W' => W.heap.size ≤ W'.heap.size ∧ (∀ k, K k → W'.heap[k]? = W.heap[k]?) ∧ Ix (.goto t) xs W'
  | .panic _, _, _ => False
  | .outgrown, _, _ => False

variable {F : Fence} {n : Nat} {P : Program}

theorem wpIn_rangeFunc_d {α : Type} {g : Operand} {ps : Array Tmp} {assign body : Code} {Q : Exit → Act → World → Prop} {a : Act} {w : World}
    (hro : F.round = none) (h1 : 1 ≤ n) {gf : Nat} {lb : Array Value} (hg : a.eval g = .func (.func gf) #[] lb) (hFg : F.fn gf) (eg : ∀ args w, (callFunc gf args).run P w = .ok (.enter gf args) w)
    {encs : α → Array Value} {X : Nat} {keep : Nat → Prop} {xs : List α} {w0 : World} (hseq : SeqD F (n - 1) P gf lb encs X keep xs w0) (hb0 : Below w0.heap.size w0 w) (hkeep : ∀ k, k = X ∨ keep k → k < w.heap.size) (hps : ∀ x, (encs x).size = ps.size)
    (I : List α → World → Prop) (Ix : Code → List α → World → Prop)
    (hI : ∀ s A B r, I s A → A.grownBy B (some r) → r = X ∨ (w.heap.size ≤ r ∧ r ≤ w.heap.size + 1) → I s B)
    (hIx : ∀ c s A B r, Ix c s A → A.grownBy B (some r) → r = X ∨ (w.heap.size ≤ r ∧ r ≤ w.heap.size + 1) → Ix c s B)
    (h0 : I [] w) (a₁ : α → Act)
    (hassign : ∀ (l : Nat) (x : α) (W : World) (K : Act → World → Prop), K (a₁ x) W →
      assign.wpIn (F.inRound l) (n - 1 - 1) P (Exit.then K (fun _ _ _ => False)) { tmps := (ps.zip (encs x)).foldl (fun t (p, v) => t.setIfInBounds p v) a.tmps, defers := [] } W)
    (hbody : ∀ (l : Nat) (pre : List α) (x : α) (W : World), I pre W → pre ++ [x] <+: xs → w.heap.size + 2 ≤ W.heap.size →
      body.wpIn (F.inRound l) (n - 1 - 1) P (ownPostD (fun k => (w.heap.size ≤ k ∧ k ≤ w.heap.size + 1) ∨ k = X ∨ keep k) I Ix (pre ++ [x]) W) (a₁ x) W)
    (hdone : ∀ (W : World), I xs W → W.heap[w.heap.size]? = some (.deferred (some [])) → Q .normal { a with defers := { target := .collected w.heap.size, args := #[] } :: a.defers } W)
    (hstop : ∀ (c : Code) (pre : List α) (W : World), pre <+: xs → Ix c pre W → W.heap[w.heap.size]? = some (.deferred (some [])) → c.wpIn F n P Q { a with defers := { target := .collected w.heap.size, args := #[] } :: a.defers } W) :
    (Code.rangeFunc g ps assign body).wpIn F n P Q a w := by
  refine wpIn_rangeFunc ?_
  intro fn hfn
  rw [hro]
  obtain ⟨rec, hrec⟩ : ∃ rec : LoopState → Option Code → Loop, rec = fun st pe => { state := st, pending := pe, fn, tmps := a.tmps, params := ps, assign, body, defers := w.heap.size } := ⟨_, rfl⟩
  obtain ⟨W1, hW1⟩ : ∃ W1, (w.alloc (.deferred (some []))).alloc (.loop (rec .ready none)) = W1 := ⟨_, rfl⟩
  have hsz : W1.heap.size = w.heap.size + 2 := by rw [← hW1]; simp
  have hL1 : W1.heap[w.heap.size + 1]? = some (.loop (rec .ready none)) := by
    rw [← hW1]; have := World.alloc_heap_new (w.alloc (.deferred (some []))) (.loop (rec .ready none)); rwa [World.size_alloc] at this
  have hK1 : W1.heap[w.heap.size]? = some (.deferred (some [])) := by
    rw [← hW1]; exact (Below.heap_alloc _ _ _ (by simp)).trans (World.alloc_heap_new w _)
  have hI1 : I [] W1 := by
    refine hI [] w W1 w.heap.size h0 ?_ (.inr ⟨Nat.le_refl _, by omega⟩)
    rw [← hW1]
    exact only_alloc (only_alloc (only_refl _ _) _) _
  have hb1 : Below w0.heap.size w0 W1 := by
    rw [← hW1]; exact hb0.trans ((((Below.refl _ w).alloc (Nat.le_refl _) _).alloc (by simp) _).mono hb0.size)
  have hput : ∀ (W : World) (o : Obj), W.grownBy (W.putObj (w.heap.size + 1) o) (some (w.heap.size + 1)) := fun W o => grownBy_putObj' W _ o
  refine ⟨w.heap.size + 1, [{ target := .collected w.heap.size, args := #[] }], W1, { target := .fn (.func gf) lb, args := #[.func (.yield (w.heap.size + 1)) #[] #[]] }, W1, gf,
    #[.func (.yield (w.heap.size + 1)) #[] #[]] ++ lb, W1, ?_, ?_, ?_, ?_, fun _ => h1, ?_⟩
  · rw [← hW1, hrec]; exact run_enterLoop_outer _ _ _ _ _
  · simp only [resolve, hg]
    simp [go_sem]
  · intro f' hf'; simp [Target.leads] at hf'; subst hf'; exact hFg
  · simp [invoke, go_sem, eg]
  · refine (hseq (w.heap.size + 1)
      (fun pre W => I pre W ∧ W.heap[w.heap.size + 1]? = some (.loop (rec .ready none)) ∧ W.heap[w.heap.size]? = some (.deferred (some [])))
      (fun pre W => ∃ c, Ix c pre W ∧ W.heap[w.heap.size + 1]? = some (.loop (rec .done (some c))) ∧ W.heap[w.heap.size]? = some (.deferred (some [])))
      W1 hb1
      (fun s A B hs hg' => ⟨hI s A B _ hs.1 hg' (.inl rfl),
        (hg'.block _ (Array.getElem?_eq_some_iff.1 hs.2.1).1 (by have := hkeep X (.inl rfl); simp; omega)).trans hs.2.1, (hg'.block _ (Array.getElem?_eq_some_iff.1 hs.2.2).1 (by have := hkeep X (.inl rfl); simp; omega)).trans hs.2.2⟩)
      ?_ ⟨hI1, hL1, hK1⟩).mono ?_
    · rintro pre x W ⟨hi, hl, hk⟩ hpre hbig
      have hlt : w.heap.size + 1 < W.heap.size := (Array.getElem?_eq_some_iff.1 hl).1
      have hy := run_yield (P := P) (args := encs x) hl (by rw [hrec]; exact hps x)
      rw [hrec] at hy
      refine ⟨fn, _, assign, body, hy, roundIn_of_wpIn hfn (hassign _ x W _ ⟨_, run_beginRound hl (by rw [hrec]), ?_⟩)⟩
      obtain ⟨W2, hW2⟩ : ∃ W2, W.putObj (w.heap.size + 1) (.loop { rec .ready none with state := .busy }) = W2 := ⟨_, rfl⟩
      have hl2 : W2.heap[w.heap.size + 1]? = some (.loop { rec .ready none with state := .busy }) := by rw [← hW2]; exact World.putObj_heap_same hlt
      have hg2 : W.grownBy W2 (some (w.heap.size + 1)) := by rw [← hW2]; exact hput _ _
      have hk2 : W2.heap[w.heap.size]? = some (.deferred (some [])) := (hg2.block _ (by omega) (by simp)).trans hk
      rw [hW2]
      refine wpIn_mono (hbody _ pre x W2 (hI _ _ _ _ hi hg2 (.inr ⟨by omega, by omega⟩)) hpre (by have := hg2.size; omega)) ?_
      have fin : ∀ (jump : Option Code) (W3 : World), W2.heap.size ≤ W3.heap.size → (∀ k, (w.heap.size ≤ k ∧ k ≤ w.heap.size + 1) ∨ k = X ∨ keep k → W3.heap[k]? = W2.heap[k]?) →
          ∃ W4, (Instr.endRound (w.heap.size + 1) jump).run P W3 = .ok (.bool jump.isNone) W4 ∧ W3.grownBy W4 (some (w.heap.size + 1)) ∧
          W4.heap[w.heap.size + 1]? = some (.loop (rec (if jump.isNone then .ready else .done) jump)) ∧ W4.heap[w.heap.size]? = some (.deferred (some [])) ∧
          (∀ k, k = X ∨ keep k → W4.heap[k]? = W.heap[k]?) ∧ W.heap.size ≤ W4.heap.size := fun jump W3 hs3 hk3 => by
        have hl3 := (hk3 (w.heap.size + 1) (.inl ⟨by omega, by omega⟩)).trans hl2
        have h03 := (hk3 w.heap.size (.inl ⟨by omega, by omega⟩)).trans hk2
        have := run_endRound (P := P) jump hl3
        rw [hrec] at this
        refine ⟨_, this, grownBy_putObj' _ _ _, ?_, (World.putObj_heap_other (by omega)).trans h03, fun k hk' => ?_, ?_⟩
        · rw [hrec]; exact World.putObj_heap_same (Array.getElem?_eq_some_iff.1 hl3).1
        · have hlk := hkeep k hk'
          have hne : k ≠ w.heap.size + 1 := by omega
          exact (World.putObj_heap_other hne).trans ((hk3 k (.inr hk')).trans (hg2.block k (by omega) (by simpa using hne)))
        · have := (grownBy_putObj' W3 (w.heap.size + 1) (.loop ((fun st pe => ({ state := st, pending := pe, fn, tmps := a.tmps, params := ps, assign, body, defers := w.heap.size } : Loop)) (if jump.isNone then .ready else .done) jump))).size
          exact Nat.le_trans hg2.size (Nat.le_trans hs3 this)
      rintro e a3 W3 hp
      cases e with
      | normal =>
        obtain ⟨hs3, hk3, hi3⟩ := hp
        obtain ⟨W4, hr, hg4, hl4, h04, hke, hsz4⟩ := fin none W3 hs3 hk3
        exact ⟨_, _, hr, .inl ⟨rfl, ⟨hI _ _ _ _ hi3 hg4 (.inr ⟨by omega, by omega⟩), hl4, h04⟩, hsz4, hke⟩⟩
      | ret =>
        obtain ⟨hs3, hk3, hi3⟩ := hp
        obtain ⟨W4, hr, hg4, hl4, h04, hke, hsz4⟩ := fin (some .ret) W3 hs3 hk3
        exact ⟨_, _, hr, .inr ⟨rfl, .ret, hIx _ _ _ _ _ hi3 hg4 (.inr ⟨by omega, by omega⟩), hl4, h04⟩⟩
      | exit id =>
        obtain ⟨hs3, hk3, hi3⟩ := hp
        obtain ⟨W4, hr, hg4, hl4, h04, hke, hsz4⟩ := fin (some (.exit id)) W3 hs3 hk3
        exact ⟨_, _, hr, .inr ⟨rfl, .exit id, hIx _ _ _ _ _ hi3 hg4 (.inr ⟨by omega, by omega⟩), hl4, h04⟩⟩
      | goto t =>
        obtain ⟨hs3, hk3, hi3⟩ := hp
        obtain ⟨W4, hr, hg4, hl4, h04, hke, hsz4⟩ := fin (some (.goto t)) W3 hs3 hk3
        exact ⟨_, _, hr, .inr ⟨rfl, .goto t, hIx _ _ _ _ _ hi3 hg4 (.inr ⟨by omega, by omega⟩), hl4, h04⟩⟩
      | panic ch => exact hp.elim
      | outgrown => exact hp.elim
    · rintro e W2 ⟨⟨v, rfl⟩, (⟨hi, hl, hk⟩ | ⟨pre, hSp, c, hi, hl, hk⟩)⟩
      · exact ⟨none, _, by have := run_endLoop (P := P) hl (by rw [hrec]; simp); rw [hrec] at this; exact this, hdone _ (hI _ _ _ _ hi (hput _ _) (.inr ⟨by omega, by omega⟩)) ((World.putObj_heap_other (by omega)).trans hk)⟩
      · exact ⟨some c, _, by have := run_endLoop (P := P) hl (by rw [hrec]; simp); rw [hrec] at this; exact this, hstop c pre _ hSp (hIx _ _ _ _ _ hi (hput _ _) (.inr ⟨by omega, by omega⟩)) ((World.putObj_heap_other (by omega)).trans hk)⟩

end Go.Proofs.YtfchnpdgnhoffaaGreatDoor
namespace Go.Proofs.YtfchnpdgnhoffaaGreatDoor
open Go.RowKit Go.Shelf Go.Maps

/-- block g holds the bytes bs from place o on -/
def RawAt (w : World) (g o : Nat) (bs : List UInt8) : Prop := g < w.heap.size ∧ ∀ (j : Nat) (u : Value), (bytesV bs)[j]? = some u → w.cell? ⟨g, o + j, none⟩ = some u
theorem add_at (g o j : Nat) : (⟨g, o, none⟩ : Addr).add j = ⟨g, o + j, none⟩ := by unfold Addr.add; split <;> simp_all
theorem RawAt.reads {w : World} {g o : Nat} {bs : List UInt8} (h : RawAt w g o bs) : Reads w w.heap.size 1 (some ⟨g, o, none⟩) bs.length (bytesV bs) :=
  ⟨by rw [bytesV_length]; omega, fun _ => ⟨_, rfl, h.1, fun j u hu => by rw [add_at]; exact h.2 j u hu⟩⟩
theorem RawAt.drop {w : World} {g o : Nat} {a b : List UInt8} (h : RawAt w g o (a ++ b)) : RawAt w g (o + a.length) b :=
  ⟨h.1, fun j u hu => by
    have := h.2 (a.length + j) u (by rw [bytesV_app, List.getElem?_append_right (by rw [bytesV_length]; omega), bytesV_length, Nat.add_sub_cancel_left]; exact hu)
    rwa [← Nat.add_assoc] at this⟩
theorem RawAt.take {w : World} {g o : Nat} {a b : List UInt8} (h : RawAt w g o (a ++ b)) : RawAt w g o a :=
  ⟨h.1, fun j u hu => h.2 j u (by rw [bytesV_app, List.getElem?_append_left (List.getElem?_eq_some_iff.1 hu).1]; exact hu)⟩
theorem RawAt.keep {w w' : World} {g o : Nat} {bs : List UInt8} (h : RawAt w g o bs) (hk : w'.heap[g]? = w.heap[g]?) (hs : w.heap.size ≤ w'.heap.size) : RawAt w' g o bs :=
  ⟨Nat.lt_of_lt_of_le h.1 hs, fun j u hu => (World.cell?_of_block hk).trans (h.2 j u hu)⟩

/-- the records with the places where they stand -/
def partsT (o : Nat) : List Rec → List (Nat × Rec)
  | [] => []
  | b :: r => (o + 4, b) :: partsT (o + 4 + b.length) r
def encT (g C : Nat) (x : Nat × Rec) : Array Value := #[.slice (some ⟨g, x.1, none⟩) x.2.length (C - x.1), .bool true]
def boxLen (X : Nat) (w : World) : Nat := match w.cell? ⟨X, 0, none⟩ with
  | some (.slice _ n _) => n
  | _ => 0
theorem recsL_cons (b : Rec) (r : List Rec) : recsL (b :: r) = fourL b.length ++ (b ++ recsL r) := by
  show (fourL b.length ++ b) ++ recsL r = _
  rw [List.append_assoc]
def ToldR (J : List (Nat × Rec) → World → Prop) (g C X : Nat) (all : List (Nat × Rec)) (W wr : World) : Prop :=
  ∃ (pre : List (Nat × Rec)) (o : Nat) (r : List Rec), all = pre ++ partsT o r ∧ Blk wr X 25 #[.slice (some ⟨g, o, none⟩) (recsL r).length (C - o)] ∧ RawAt wr g o (recsL r) ∧ o + (recsL r).length < C ∧ J pre wr ∧ W.heap.size ≤ wr.heap.size ∧ (∀ b ∈ r, b.length ≤ 1000000)
theorem wide_fn (f : FuncId) : Fence.wide.fn f := trivial
attribute [local simp] wide_fn
theorem callsIn_quiet {F : Fence} {n : Nat} {P : Program} {f : FuncId} {args : Array Value} {w : World} {k : Nat} {v : Value}
    (h : CallsIn F n P f args (w.drewN k) fun e w' => e = .returned v ∧ ∃ q, w' = (w.drewN k).drewN q) : CallsIn F n P f args (w.drewN k) fun e w'' => e = .returned v ∧ ∃ m, w'' = w.drewN m :=
  h.mono fun _ _ ⟨he, q, hq⟩ => ⟨he, k + q, by rw [hq, World.drewN_drewN]⟩
set_option maxRecDepth 100000 in
set_option maxHeartbeats 3200000 in
theorem told_seq (n : Nat) (l : List Rec) (o0 g C X : Nat) (w0 : World) (hX : Blk w0 X 25 #[.slice (some ⟨g, o0, none⟩) (recsL l).length (C - o0)]) (hraw : RawAt w0 g o0 (recsL l)) (hC : o0 + (recsL l).length < C) (hC2 : C ≤ maxLen) (hl : ∀ b ∈ l, b.length ≤ 1000000) (hgX : g ≠ X) :
    SeqD Fence.wide n Tryz.prog 118 #[.pointer (some ⟨X, 0, none⟩)] (encT g C) X (fun k => k = g) (partsT o0 l) w0 := by
  intro lp J Jx W hbW hJ hY h0
  obtain ⟨all, hal⟩ : ∃ all, all = partsT o0 l := ⟨_, rfl⟩
  rw [← hal] at hY ⊢
  have hst : ToldR J g C X all W W := ⟨[], o0, l, hal, hX.below hbW hX.lt, hraw.keep (hbW.block g hraw.1) hbW.size, hC, h0, Nat.le_refl _, hl⟩
  have HST := Lib.hid hst
  have HJ := Lib.hid hJ
  have HY := Lib.hid hY
  clear hst hJ hY hal hX hraw h0 hbW hC hl
  refine callsIn_of_wp Tryz.func118 rfl trivial ?_ rfl
  simp only [Tryz.ntmps118, List.size_toArray, List.length_cons, List.length_nil, Nat.reduceAdd, Nat.reduceSub, Array.replicate_succ, Array.replicate_zero, List.push_toArray, List.append_toArray, List.nil_append, List.cons_append]
  gi_wp2_with fail
  gi_loopw [3] (fun _ wr => ToldR J g C X all W wr) (fun _ wr => boxLen X wr)
  case atStart => exact HST.out
  case round =>
    obtain ⟨pre, o, r, hal, hX, hraw, hC, hj, hsz, hl⟩ := hrel
    have x0 : wr.cell? ⟨X, 0, none⟩ = some (.slice (some ⟨g, o, none⟩) (recsL r).length (C - o)) := hX.cell 0
    have xf := hX.frozen 0
    have HJ1 := Lib.hid hj
    have HX := Lib.hid hX
    have HR := Lib.hid hraw
    have HAL := Lib.hid hal
    have HL := Lib.hid hl
    clear hj hX hraw hal hl
    cases r with
    | nil =>
      have e0 : (recsL ([] : List Rec)).length = 0 := rfl
      rw [e0] at x0
      gi_wp2
      go_end0
      refine ⟨⟨_, rfl⟩, .inl ?_⟩
      have e := HAL.out
      rw [show partsT o [] = [] from rfl, List.append_nil] at e
      rw [e]
      exact HJ1.out
    | cons b r =>
      obtain ⟨q, hq⟩ : ∃ q, q = b.length := ⟨_, rfl⟩
      obtain ⟨M, hM⟩ : ∃ M, M = (recsL r).length := ⟨_, rfl⟩
      obtain ⟨L, hL⟩ : ∃ L, L = (recsL (b :: r)).length := ⟨_, rfl⟩
      have hql : q ≤ 1000000 := by rw [hq]; exact HL.out b List.mem_cons_self
      have hLe : L = 4 + q + M := by rw [hL, recsL_cons, List.length_append, List.length_append, fourL_len, hq, hM]; omega
      have hrd : ∀ w', (∃ k, w' = wr.drewN k) → Reads w' wr.heap.size 1 (some ⟨g, o, none⟩) L (bytesV (fourL q ++ (b ++ recsL r))) := by
        rintro w' ⟨k, rfl⟩
        have h := HR.out.reads
        rw [← hL, recsL_cons, ← hq] at h
        exact h.drewN k
      rw [← hL] at x0 hC
      have c0 : decide ((0 : Int) < (L : Int)) = true := by simp; omega
      have c1 : decide ((L : Int) < 4) = false := by simp; omega
      have c2 : decide ((L : Int) - 4 < (q : Int)) = false := by simp; omega
      have HRD := Lib.hid hrd
      have HQ := Lib.hid hq
      have HM := Lib.hid hM
      have HLE := Lib.hid hLe
      have h4 : 4 ≤ L := by omega
      have h5 : L ≤ 9223372036854775807 := by have : maxLen = 9223372036854775807 := rfl; omega
      have h6 : 4 + q ≤ L := by omega
      have HLL := Lib.hid hL
      clear hrd hq hM hL hLe
      gi_wp2_with fail
      gi_quiet ((refine ⟨(fun h => by cases h), ?_⟩; gi_at_call 84; exact CallsIn.quiet_of (callsIn_wide.2 (unfour_any (some ⟨g, o, none⟩) wr.heap.size L (C - o) q _ _ (by omega) (HRD.out _ ⟨_, rfl⟩)))))
      have hx1 := HX.out.drewN nq
      have x1 : (wr.drewN nq).cell? ⟨X, 0, none⟩ = some (.slice (some ⟨g, o, none⟩) L (C - o)) := by rw [← HLL.out] at hx1; exact hx1.cell 0
      have hcap : 4 + q < C - o := by omega
      have hcap2 : 4 < C - o := by omega
      have hlt : o < C := by omega
      clear hx1
      gi_wp2_with fail

      refine ⟨(fun h => by cases h), (callsIn_wide.2 (unfour_any (some ⟨g, o, none⟩) wr.heap.size L (C - o) q _ _ (by omega) (HRD.out _ ⟨_, rfl⟩))).mono ?_⟩
      rintro e w2 ⟨rfl, q2, rfl⟩
      rw [World.drewN_drewN]
      have e1 : encT g C (o + 4, b) = #[.slice (some ⟨g, o + 4, none⟩) q (C - o - 4), .bool true] := by
        unfold encT
        rw [← HQ.out, show C - o - 4 = C - (o + 4) by omega]
      have hpre : pre ++ [(o + 4, b)] <+: all := ⟨partsT (o + 4 + b.length) r, by rw [HAL.out, List.append_assoc]; rfl⟩
      have hj2 : J pre (wr.drewN (nq + q2)) := HJ.out _ _ _ HJ1.out (only_drewN (only_refl wr _) _)
      obtain ⟨fn, tmps, assign, body, hy, hRd⟩ := HY.out pre (o + 4, b) _ hj2 hpre hsz
      rw [e1] at hy
      have HP := Lib.hid hpre
      have x2 : (wr.drewN (nq + q2)).cell? ⟨X, 0, none⟩ = some (.slice (some ⟨g, o, none⟩) L (C - o)) := x0
      clear hpre hj2 e1 x1
      gi_wp2
      refine ⟨(fun h => by cases h), hRd.mono ?_⟩
      rintro e W3 (⟨rfl, hJ3, hs3, hk3⟩ | ⟨rfl, hJx3⟩)
      · have hX3 : Blk W3 X 25 #[.slice (some ⟨g, o, none⟩) L (C - o)] := by rw [HLL.out]; exact (hk3 X (.inl rfl)).trans HX.out
        have x3 : W3.cell? ⟨X, 0, none⟩ = some (.slice (some ⟨g, o, none⟩) L (C - o)) := hX3.cell 0
        have xf3 := hX3.frozen 0
        have HX3 := Lib.hid hX3
        have hR3 : RawAt W3 g o (recsL (b :: r)) := HR.out.keep (hk3 g (.inr rfl)) hs3
        have HR3 := Lib.hid hR3
        have HJ3 := Lib.hid hJ3
        have hsz3 : W.heap.size ≤ W3.heap.size := Nat.le_trans hsz hs3
        clear hX3 hR3 hJ3 hk3 hRd hy
        gi_wp2
        have hb9 := HX3.out.set_ 0 (.slice (some ⟨g, o + (4 + q), none⟩) (L - (4 + q)) (C - o - (4 + q)))
        have e9 : L - (4 + q) = (recsL r).length := by have := HLE.out; have := HM.out; omega
        rw [e9, show C - o - (4 + q) = C - (o + (4 + q)) by omega] at hb9 ⊢
        have hg9 : W3.grownBy (W3.setCell ⟨X, 0, none⟩ (.slice (some ⟨g, o + (4 + q), none⟩) (recsL r).length (C - (o + (4 + q))))) (some X) := only_setCell (only_refl _ _) (.inl rfl) _
        have hr9 : RawAt W3 g (o + (4 + q)) (recsL r) := by
          have h := HR3.out
          rw [recsL_cons, ← List.append_assoc] at h
          have h2 := h.drop
          rw [List.length_append, fourL_len, ← HQ.out] at h2
          exact h2
        refine ⟨⟨pre ++ [(o + 4, b)], o + (4 + q), r, ?_, hb9, hr9.keep (hg9.block g hr9.1 (by simp; exact hgX)) hg9.size, by omega, HJ.out _ _ _ HJ3.out hg9, Nat.le_trans hsz3 hg9.size, fun b2 h2 => HL.out b2 (List.mem_cons_of_mem _ h2)⟩, ?_⟩
        · rw [HAL.out, List.append_assoc, HQ.out, ← Nat.add_assoc]
          rfl
        · unfold boxLen
          rw [hb9.cell 0, HX.out.cell 0]
          show (recsL r).length < (recsL (b :: r)).length
          rw [← HLL.out]
          omega
      · clear hRd hy
        gi_wp2
        refine bodyPost_ret (results_none rfl _ _ _) rfl ?_
        exact ⟨⟨_, rfl⟩, .inr ⟨_, HP.out, hJx3⟩⟩
end Go.Proofs.YtfchnpdgnhoffaaGreatDoor
namespace Go.Proofs.YtfchnpdgnhoffaaGreatDoor
open Go.RowKit Go.Shelf Go.Maps

section
variable {P : Program} (w : World)
theorem step_append_in {F : Fence} {n0 : Nat} (hF : ∀ f, F.fn f) {ops : Array Oper} {o : Oper} {a : Act} {K : Act → World → Prop} {Q : Exit → Act → World → Prop} {E : Prop} (hgd : o.guard = none) (s x : Operand) (t : TypeId)
    (ho : o.op = .call { callee := .builtin .append, args := #[s, x], argTypes := #[t, t] })
    (base : Nat) (e : TypeId) (i : TypeInfo) (z : Value) (size bytes : Nat) (ht : P.underlying t = some (.slice e)) (hi : P.info? e = some i) (hz : i.zero = some z)
    (hsize : i.size = size) (hby : i.bytes = bytes) (hzs : z.cells.size = size) (hsz : 0 < size)
    (v : Value) (n : Nat) (xs : List Value) (hs : a.eval s = v) (hown : w.ownsRow base e size v n xs)
    (B : Nat) (A : Option Addr) (m c : Nat) (news : List Value) (hx : a.eval x = .slice A m c) (hr : Reads w B size A m news) (h1 : ∀ u ∈ news, u.oneCell' = true)
    (h63 : n + m ≤ maxLen) (hbytes : (n + m) * bytes ≤ 140737488355328) (hbase : base ≤ w.heap.size)
    (h : ∀ v' w', w'.ownsRow base e size v' (n + m) (xs ++ news) → w.grownBy w' v.ownBlock → (v'.ownBlock = v.ownBlock ∨ v'.ownBlock = some w.heap.size) → K (a.put o.dst v') w') :
    if Region.wanted o (yielded ops a.tmps) = true then Oper.wpIn F n0 P o a w K Q else E := by
  have hw : Region.wanted o (yielded ops a.tmps) = true := by simp [Region.wanted, hgd]
  rw [if_pos hw]
  obtain ⟨v', w', hrun, h2, h3, h4⟩ := run_append_any (P := P) w base t o.type e i z size bytes ht hi hz hsize hby hzs hsz v n xs hown B A m c news hr h1 h63 hbytes hbase
  refine ⟨fun f _ => hF f, ?_⟩
  rw [Oper.semAt_eq _ _ _ (fun c hc => by rw [ho] at hc; cases hc)]
  unfold execOp
  simp only [ho, resolve, invoke, builtin, Sem.run_bind, Sem.run_pure, Result.andThen_ok, List.map_toArray, List.map_cons, List.map_nil, hs, hx, hrun]
  exact h v' w' h2 h3 h4
end
theorem wpIn_region_cls {F : Fence} {n : Nat} {P : Program} {id : Nat} {Q : Exit → Act → World → Prop} {a : Act} {w : World} {l : List Oper} (hro : F.round = none) (hm : P.follows .mixedOrders = true) (hB : Region.lexB .any l.toArray = true)
    (h : wpQuietIn F n P l.toArray (fun w' => ∃ s : Cls w, w' = s.val) (fun a' => ∀ w', (∃ s : Cls w, w' = s.val) → Q .normal a' w') l a) : (Code.region id l.toArray true).wpIn F n P Q a w :=
  wpIn_region_quiet (C := fun w' => ∃ s : Cls w, w' = s.val) hro hm hB ⟨⟨_, (Below.refl _ w).drew⟩, rfl⟩ (by simpa using h)
theorem Cls.callIn {n : Nat} {P : Program} {f : FuncId} {args : Array Value} {w : World} {s : Cls w} {v : Value} (h : Calls P f args s.val fun e w' => e = .returned v ∧ Below s.val.heap.size s.val w') :
    CallsIn Fence.wide n P f args s.val fun e w'' => e = .returned v ∧ ∃ s : Cls w, w'' = s.val := callsIn_wide.2 (Cls.call h)
/-- the law, where two values come and are laid in the slots s1 and s2 -/
theorem wpIn_rangeFunc_two {F : Fence} {n : Nat} {P : Program} {α : Type} {g : Operand} {p q s1 s2 : Nat} {assign body : Code} {Q : Exit → Act → World → Prop} {a : Act} {w : World}
    (hro : F.round = none) (h1 : 1 ≤ n) {gf : Nat} {lb : Array Value} (hg : a.eval g = .func (.func gf) #[] lb) (hFg : F.fn gf) (eg : ∀ args w, (callFunc gf args).run P w = .ok (.enter gf args) w)
    {u v : α → Value} {X : Nat} {keep : Nat → Prop} {xs : List α} {w0 : World} (hseq : SeqD F (n - 1) P gf lb (fun x => #[u x, v x]) X keep xs w0) (hb0 : Below w0.heap.size w0 w) (hkeep : ∀ k, k = X ∨ keep k → k < w.heap.size)
    (I : List α → World → Prop)
    (hI : ∀ s A B r, I s A → A.grownBy B (some r) → r = X ∨ (w.heap.size ≤ r ∧ r ≤ w.heap.size + 1) → I s B)
    (h0 : I [] w)
    (hassign : ∀ (l : Nat) (x : α) (W : World) (K : Act → World → Prop), K { tmps := (((a.tmps.setIfInBounds p (u x)).setIfInBounds q (v x)).setIfInBounds s1 (u x)).setIfInBounds s2 (v x), defers := [] } W →
      assign.wpIn (F.inRound l) (n - 1 - 1) P (Exit.then K (fun _ _ _ => False)) { tmps := (a.tmps.setIfInBounds p (u x)).setIfInBounds q (v x), defers := [] } W)
    (hbody : ∀ (l : Nat) (pre : List α) (x : α) (W : World), I pre W → pre ++ [x] <+: xs → w.heap.size + 2 ≤ W.heap.size →
      body.wpIn (F.inRound l) (n - 1 - 1) P (ownPostD (fun k => (w.heap.size ≤ k ∧ k ≤ w.heap.size + 1) ∨ k = X ∨ keep k) I (fun _ _ _ => False) (pre ++ [x]) W) { tmps := (((a.tmps.setIfInBounds p (u x)).setIfInBounds q (v x)).setIfInBounds s1 (u x)).setIfInBounds s2 (v x), defers := [] } W)
    (hdone : ∀ (W : World), I xs W → W.heap[w.heap.size]? = some (.deferred (some [])) → Q .normal { a with defers := { target := .collected w.heap.size, args := #[] } :: a.defers } W) :
    (Code.rangeFunc g #[p, q] assign body).wpIn F n P Q a w :=
  wpIn_rangeFunc_d hro h1 hg hFg eg hseq hb0 hkeep (fun _ => rfl) I (fun _ _ _ => False) hI (fun _ _ _ _ _ h => h.elim) h0 (fun x => { tmps := (((a.tmps.setIfInBounds p (u x)).setIfInBounds q (v x)).setIfInBounds s1 (u x)).setIfInBounds s2 (v x), defers := [] })
    (fun l x W K h => by simpa using hassign l x W K h) hbody hdone (fun _ _ _ _ h => h.elim)
set_option maxRecDepth 100000 in
theorem told_any (A : Option Addr) (m c : Nat) (w : World) : Calls Tryz.prog 85 #[.slice A m c] w fun e w' => e = .returned (.func (.func 118) #[] #[.pointer (some ⟨w.heap.size, 0, none⟩)]) ∧ w' = w.alloc (.cells #[.slice A m c] 25) := by
  go_enter Tryz.func85, Tryz.ntmps85
  go_wp2
  go_ret
  exact ⟨rfl, rfl⟩
theorem partsT_map : ∀ (l : List Rec) (o : Nat), (partsT o l).map (·.2) = l
  | [], _ => rfl
  | b :: r, o => by
    show b :: (partsT (o + 4 + b.length) r).map (·.2) = b :: r
    rw [partsT_map r]
theorem partsT_raw {w : World} {g : Nat} : ∀ (l : List Rec) (o : Nat), RawAt w g o (recsL l) → ∀ x ∈ partsT o l, RawAt w g x.1 x.2
  | [], _, _, x, hx => by cases hx
  | b :: r, o, h, x, hx => by
    rw [recsL_cons] at h
    have h1 := h.drop
    rw [fourL_len] at h1
    rcases List.mem_cons.1 hx with rfl | hx
    · exact h1.take
    · exact partsT_raw r _ h1.drop x hx
theorem rec_le : ∀ (l : List Rec) (b : Rec), b ∈ l → b.length + 4 ≤ (recsL l).length
  | [], _, h => by cases h
  | a :: l, b, h => by
    rw [recsL_cons, List.length_append, List.length_append, fourL_len]
    rcases List.mem_cons.1 h with rfl | h
    · omega
    · have := rec_le l b h; omega
theorem recs_len : ∀ (l : List Rec), l.length ≤ (recsL l).length
  | [] => Nat.le_refl _
  | a :: l => by
    rw [recsL_cons, List.length_append, List.length_append, fourL_len, List.length_cons]
    have := recs_len l
    omega
theorem results_tct {fn : Func} {t p u : Tmp} {ty : TypeId} (h : fn.results = #[.tmp t, .cell p ty, .tmp u]) (tmps : Array Value) (P : Program) (w : World) (ad : Addr) (v : Value) (hp : tmps.getD p undef = .pointer (some ad)) (hl : (loadVar ty ad).run P w = .ok v w) :
    (results fn tmps).run P w = .ok (.tuple #[tmps.getD t undef, v, tmps.getD u undef]) w := by
  have hp' : tmps[p]?.getD undef = .pointer (some ad) := by simpa using hp
  simp [results, h, hp', asAddr, hl]
theorem loadVar_slice (w : World) (ad : Addr) (v : Value) (h : w.cell? ad = some v) : (loadVar 29 ad).run Tryz.prog w = .ok v w := by
  simp [loadVar, go_sem, h]
/-- between two rounds of unentry -/
def UnI (w : World) (R Lb D : Nat) (M : Nat) (pre : List (Nat × Rec)) (W : World) : Prop :=
  ∃ v, Blk W R 29 #[v] ∧ RecsN W (D + 2) v (pre.map (·.2)) ∧ Blk W Lb 3 #[.int .i64 ((M : Int) - ((recsL (pre.map (·.2))).length : Int))] ∧ Below w.heap.size w W
theorem UnI.step {w A B : World} {R Lb D M r : Nat} {pre : List (Nat × Rec)} (h : UnI w R Lb D M pre A) (hg : A.grownBy B (some r)) (h1 : w.heap.size ≤ r) (h2 : r ≠ R) (h3 : r ≠ Lb) (h4 : r < D + 2) : UnI w R Lb D M pre B := by
  obtain ⟨v, hx, ⟨vs, ho, hv⟩, hl, hb⟩ := h
  refine ⟨v, hx.grown hg (by simpa using Ne.symm h2), ⟨vs, own_keep ho fun k hk hlt => hg.block k hlt (by have := (ho.lt k hk).1; simp; omega), hv.1, fun i u b e1 e2 => ?_⟩, hl.grown hg (by simpa using Ne.symm h3), hb.grown hg hb.size (fun k hk => by cases hk; exact h1)⟩
  have hu := hv.2 i u b e1 e2
  exact own_keep hu fun k hk hlt => hg.block k hlt (by have := (hu.lt k hk).1; simp; omega)
end Go.Proofs.YtfchnpdgnhoffaaGreatDoor
