/- All (25) and its iterator (44). A region that draws its order and only reads, in a round of a range over a function. After the kit's law outside rounds. The walk of same (15). The statements' arguments: things that are to happen; WalKeeps (6). -/
import Derived.RangeFuncNested
import Derived.RangeFuncBound
import Derived.RangeFuncCalls
import Derived.RangeFuncLeaves
import Derived.Shelf.Abstract
import Derived.Shelf.RegionOpen
import Derived.OwnWalkIn
import Derived.TacticsInMore
import Derived.LoopNIn
import Derived.LoopIn
import Derived.Sort.QuietIn
import Derived.Test.YtfchnpdgnhoffaaGreatDoorJ17WDoesC
import Derived.Test.YtfchnpdgnhoffaaGreatDoorJ13WFind
import Derived.Test.YtfchnpdgnhoffaaGreatDoorJ00Lib
import Derived.Test.YtfchnpdgnhoffaaGreatDoorJ15WCheck
namespace Go.Proofs.YtfchnpdgnhoffaaGreatDoor
open Go.RowKit Go.Shelf Go.Maps

attribute [local simp] wide_fn
theorem all_any (w : World) (lp : Nat) : Calls Tryz.prog 25 #[.pointer (some ⟨lp, 0, none⟩)] w fun e w' => e = .returned (.func (.func 44) #[] #[.pointer (some ⟨w.heap.size, 0, none⟩)]) ∧ w' = w.alloc (.cells #[.pointer (some ⟨lp, 0, none⟩)] 28) := by
  go_enter Tryz.func25, Tryz.ntmps25
  go_wp2
  go_ret
  exact ⟨rfl, rfl⟩
/-- what is told: a number, and bytes of the hearer's own -/
def encA (x : Nat × Value) : Array Value := #[.int .i64 (x.1 : Int), x.2]
def PhA (c : List Rec) (base : Nat) (pre : List (Nat × Value)) (x : Nat × Value) (W : World) : Prop := x.1 = pre.length ∧ ∃ b, c[pre.length]? = some b ∧ W.ownsRow base 5 1 x.2 b.length (bytesV b)
theorem PhA.keep {c : List Rec} (b : Nat) (pre : List (Nat × Value)) (x : Nat × Value) (A B : World) (r : Nat) (h : PhA c b pre x A) (hg : A.grownBy B (some r)) (hr : r < b) : PhA c b pre x B := by
  obtain ⟨h1, y, h2, h3⟩ := h
  exact ⟨h1, y, h2, own_keep h3 fun k hk hlt => hg.block k hlt fun e => by injection e with e; have := (h3.lt k hk).1; omega⟩
/-- the law of the range, where the number and the bytes are laid in the slots s1 and s2 -/
theorem wpIn_rangeFunc_e2 {F : Fence} {n : Nat} {P : Program} {g : Operand} {p q s1 s2 : Nat} {assign body : Code} {Q : Exit → Act → World → Prop} {a : Act} {w : World} {c : List Rec}
    (hro : F.round = none) (h1 : 1 ≤ n) {gf : Nat} {lb : Array Value} (hg : a.eval g = .func (.func gf) #[] lb) (hFg : F.fn gf) (eg : ∀ args w, (callFunc gf args).run P w = .ok (.enter gf args) w)
    {w0 : World} (hseq : SeqE F (n - 1) P gf lb encA (PhA c) c.length w0) (hb0 : Below w0.heap.size w0 w)
    (I : List (Nat × Value) → World → Prop) (Ix : Code → List (Nat × Value) → World → Prop)
    (hIb : ∀ s A B, I s A → Below A.heap.size A B → I s B)
    (hI : ∀ s A B r, I s A → A.grownBy B (some r) → (w.heap.size ≤ r ∧ r ≤ w.heap.size + 1) → I s B)
    (hIx : ∀ c s A B r, Ix c s A → A.grownBy B (some r) → (w.heap.size ≤ r ∧ r ≤ w.heap.size + 1) → Ix c s B)
    (h0 : I [] w)
    (hassign : ∀ (l : Nat) (x : Nat × Value) (W : World) (K : Act → World → Prop), K { tmps := (((a.tmps.setIfInBounds p (.int .i64 (x.1 : Int))).setIfInBounds q x.2).setIfInBounds s1 (.int .i64 (x.1 : Int))).setIfInBounds s2 x.2, defers := [] } W →
      assign.wpIn (F.inRound l) (n - 1 - 1) P (Exit.then K (fun _ _ _ => False)) { tmps := (a.tmps.setIfInBounds p (.int .i64 (x.1 : Int))).setIfInBounds q x.2, defers := [] } W)
    (hbody : ∀ (l : Nat) (pre : List (Nat × Value)) (x : Nat × Value) (W : World), I pre W → PhA c (w.heap.size + 2) pre x W → w.heap.size + 2 ≤ W.heap.size →
      body.wpIn (F.inRound l) (n - 1 - 1) P (ownPostE (fun k => w.heap.size ≤ k ∧ k ≤ w.heap.size + 1) x.2 I Ix (pre ++ [x]) W) { tmps := (((a.tmps.setIfInBounds p (.int .i64 (x.1 : Int))).setIfInBounds q x.2).setIfInBounds s1 (.int .i64 (x.1 : Int))).setIfInBounds s2 x.2, defers := [] } W)
    (hdone : ∀ (xs : List (Nat × Value)) (W : World), xs.length = c.length → I xs W → W.heap[w.heap.size]? = some (.deferred (some [])) → Q .normal { a with defers := { target := .collected w.heap.size, args := #[] } :: a.defers } W)
    (hstop : ∀ (c : Code) (pre : List (Nat × Value)) (W : World), Ix c pre W → W.heap[w.heap.size]? = some (.deferred (some [])) → c.wpIn F n P Q { a with defers := { target := .collected w.heap.size, args := #[] } :: a.defers } W) :
    (Code.rangeFunc g #[p, q] assign body).wpIn F n P Q a w :=
  wpIn_rangeFunc_e hro h1 hg hFg eg hseq hb0 (fun _ => rfl) PhA.keep I Ix hIb hI hIx h0 (fun x => { tmps := (((a.tmps.setIfInBounds p (.int .i64 (x.1 : Int))).setIfInBounds q x.2).setIfInBounds s1 (.int .i64 (x.1 : Int))).setIfInBounds s2 x.2, defers := [] })
    (fun l x W K h => by simpa [encA] using hassign l x W K h) hbody hdone hstop
def AllR (J : List (Nat × Value) → World → Prop) (W : World) (c : List Rec) (v : Value) (vs : List Value) (i : Value) (wr : World) : Prop :=
  ∃ (pre : List (Nat × Value)), pre.length ≤ c.length ∧ i = .int .i64 (pre.length : Int) ∧ J pre wr ∧ wr.ownsRow W.heap.size 25 1 v c.length vs ∧
    (∀ (j : Nat) (u : Value) (b : Rec), pre.length ≤ j → vs[j]? = some u → c[j]? = some b → wr.ownsRow W.heap.size 5 1 u b.length (bytesV b)) ∧ W.heap.size ≤ wr.heap.size
set_option maxRecDepth 100000 in
set_option maxHeartbeats 3200000 in
theorem all_seq (n : Nat) (w0 : World) (F : Nat → Prop) (lp p m X : Nat) (x : PS) (c : List Rec) (last : Nat) (fl : Bool) (h : LogAt w0 F lp p m x c last fl) (hX : Blk w0 X 28 #[.pointer (some ⟨lp, 0, none⟩)]) (hc : Sm c) :
    SeqE Fence.wide n Tryz.prog 44 #[.pointer (some ⟨X, 0, none⟩)] encA (PhA c) c.length w0 := by
  intro l J Jx W hbW hJ hY h0
  obtain ⟨Fd, G, vc, l1, l2, l3, l4⟩ := h.below hbW
  have hr := l3.read
  obtain ⟨Ac, dc, hvc⟩ : ∃ A d, vc = .slice A c.length d := by obtain ⟨A, d, vs, e, -⟩ := hr; exact ⟨A, d, e⟩
  subst hvc
  have x0 : W.cell? ⟨X, 0, none⟩ = some (.pointer (some ⟨lp, 0, none⟩)) := (hX.below hbW hX.lt).cell 0
  have x1 : W.cell? ⟨lp, 1, none⟩ = some (.slice Ac c.length dc) := l2.cell 1
  have HR := Lib.hid hr
  have HJ := Lib.hid hJ
  have HY := Lib.hid hY
  have H0 := Lib.hid h0
  have HC := Lib.hid hc
  obtain ⟨nc, hnc⟩ : ∃ nc, nc = c.length := ⟨_, rfl⟩
  have hcl : nc ≤ 2000 := by rw [hnc]; exact hc.1
  have HN := Lib.hid hnc
  rw [← hnc] at x1
  clear hr hJ hY h0 hc hnc h hX l1 l2 l3 l4 hbW
  refine callsIn_of_wp Tryz.func44 rfl trivial ?_ rfl
  simp only [Tryz.ntmps44, List.size_toArray, List.length_cons, List.length_nil, Nat.reduceAdd, Nat.reduceSub, Array.replicate_succ, Array.replicate_zero, List.push_toArray, List.append_toArray, List.nil_append, List.cons_append]
  gi_wp2_with fail
  refine ⟨(fun h => by cases h), (callsIn_wide.2 (copied2_any (.slice Ac nc dc) c _ W (by rw [HN.out]; exact HR.out) (by rw [← HN.out]; omega) (fun b hb => Nat.le_trans (HC.out.2 b hb) (by decide)))).mono ?_⟩
  rintro e w1 ⟨v1, rfl, ⟨vs, ho, hv, hap⟩, hb1⟩
  rw [← HN.out] at ho
  obtain ⟨A1, d1, hve⟩ := own_slice ho
  subst hve
  have hvl : vs.length = nc := by have := ho.1; omega
  have HVL := Lib.hid hvl
  have HAP := Lib.hid hap
  have HO := Lib.hid ho
  have HV := Lib.hid hv
  have HB1 := Lib.hid hb1
  clear ho hv hap hb1 hvl x0 x1
  gi_wp2_with fail
  gi_loopw [11] (fun i wr => AllR J W c (.slice A1 nc d1) vs i wr) (fun i _ => nc - (intOf i).toNat)
  case atStart => exact ⟨[], Nat.zero_le _, rfl, HJ.out _ _ _ H0.out HB1.out, by rw [← HN.out]; exact HO.out, fun j u b _ e1 e2 => HV.out.2 j u b e1 e2, HB1.out.size⟩
  case round =>
    obtain ⟨pre, hp, rfl, hj, ho, hrest, hsz⟩ := hrel
    obtain ⟨j, hjp⟩ : ∃ j, j = pre.length := ⟨_, rfl⟩
    have HJP := Lib.hid hjp
    rw [← HN.out] at hp ho
    rw [← hjp] at hp hrest ⊢
    have HJ1 := Lib.hid hj
    have HO1 := Lib.hid ho
    have HRE := Lib.hid hrest
    clear hj ho hrest hjp
    by_cases hlt : j < nc
    · have hjv : j < vs.length := by rw [HVL.out]; exact hlt
      have hjc : j < c.length := by rw [← HN.out]; exact hlt
      obtain ⟨b, hb⟩ : ∃ b, b = c[j] := ⟨_, rfl⟩
      have hjb : c[j]? = some b := by rw [hb]; exact List.getElem?_eq_getElem hjc
      have hou := HRE.out j vs[j] b (Nat.le_refl _) (List.getElem?_eq_getElem hjv) hjb
      obtain ⟨Ab, db, hue⟩ := own_slice hou
      have hoe : vs[j]? = some (.slice Ab b.length db) := by rw [List.getElem?_eq_getElem hjv, hue]
      rw [hue] at hou
      obtain ⟨ad, hA, hg, hcell⟩ := (Reads.of_own HO1.out).2 (by omega)
      subst hA
      have d0 : wr.cell? (ad.add j) = some (.slice Ab b.length db) := hcell j _ hoe
      have hph : PhA c W.heap.size pre (j, .slice Ab b.length db) wr := ⟨HJP.out, b, by rw [← HJP.out]; exact hjb, hou⟩
      obtain ⟨fn, tmps, assign, body, hy, hRd⟩ := HY.out pre (j, .slice Ab b.length db) wr HJ1.out hph hsz
      rw [show encA (j, .slice Ab b.length db) = #[.int .i64 (j : Int), .slice Ab b.length db] from rfl] at hy
      have HOE := Lib.hid hoe
      clear hou hcell hph hue hjb hb hoe
      gi_wp2
      refine ⟨(fun h => by cases h), hRd.mono ?_⟩
      rintro e W3 (⟨rfl, hJ3, hs3, hk3⟩ | ⟨rfl, hJx3⟩)
      · have HJ3 := Lib.hid hJ3
        have HK3 := Lib.hid hk3
        clear hJ3 hk3 hRd hy
        gi_wp2
        refine ⟨⟨pre ++ [(j, .slice Ab b.length db)], by rw [List.length_append, ← HJP.out, ← HN.out]; exact hlt, by rw [List.length_append, ← HJP.out]; go_num, HJ3.out, ?_, fun i u y hi e1 e2 => ?_, Nat.le_trans hsz hs3⟩, by simp [intOf]; omega⟩
        · rw [← HN.out]
          exact own_keep HO1.out fun k e _ => HK3.out k (.inl (IsT.of_own HO1.out e))
        · rw [List.length_append, ← HJP.out] at hi
          have hi : j + 1 ≤ i := hi
          have h9 := HRE.out i u y (by omega) e1 e2
          refine own_keep h9 fun k e _ => HK3.out k (.inr ⟨IsT.of_own h9 e, fun e9 => ?_⟩)
          have hiv := (List.getElem?_eq_some_iff.1 e1).1
          have hpw := List.pairwise_iff_getElem.1 HAP.out j i hjv hiv (by omega) k (by
            have e8 := HOE.out
            rw [List.getElem?_eq_getElem hjv] at e8
            injection e8 with e8
            rw [e8]; exact e9)
          rw [List.getElem?_eq_getElem hiv] at e1
          injection e1 with e1
          rw [e1] at hpw
          exact hpw e
      · clear hRd hy
        gi_wp2
        refine bodyPost_ret (results_none rfl _ _ _) rfl ?_
        exact ⟨⟨_, rfl⟩, .inr ⟨_, hJx3⟩⟩
    · obtain rfl : j = nc := by omega
      gi_wp2
      go_end0
      exact ⟨⟨_, rfl⟩, .inl ⟨pre, by rw [← HJP.out, HN.out], HJ1.out⟩⟩
end Go.Proofs.YtfchnpdgnhoffaaGreatDoor
namespace Go.Proofs.YtfchnpdgnhoffaaGreatDoor
open Go.RowKit

def noDefer (o : Oper) : Bool := match o.op with
  | .defer _ => false
  | _ => true
theorem noDefer_spec {o : Oper} (h : noDefer o = true) : ∀ c, o.op ≠ .defer c := fun c e => by
  unfold noDefer at h
  rw [e] at h
  cases h
section
variable {F : Fence} {n : Nat} {P : Program} {ops : Array Oper} {md : Region.Mode} {C : World → Prop}
theorem wpIn_of_quiet_r {o : Oper} {a : Act} {K : Act → Prop} {K' : Act → World → Prop} {Q' : Exit → Act → World → Prop} {w : World} (hnd : noDefer o = true) (hw : C w) (h : ∀ a w', C w' → K a → K' a w')
    (ha : o.askedIn F P a C) (hh : o.quietIn F n P a C K) : o.wpIn F n P a w K' Q' := by
  obtain ⟨v, h1, h2⟩ := hh
  have h3 := h1 w hw
  unfold Oper.quietAtIn at h3
  unfold Oper.wpIn
  refine ⟨ha w hw, ?_⟩
  rw [Oper.semAt_plain F _ _ (noDefer_spec hnd)]
  generalize (execOp a.eval o).run P w = r at *
  cases r with
  | ok x w' =>
    cases x <;> simp only [Oper.quietUponIn] at h3 <;> simp only [Oper.uponIn]
    case value u =>
      obtain ⟨e1, e2⟩ := h3
      rw [e1, e2]
      exact h _ _ hw h2
    case skip =>
      obtain ⟨e1, e2⟩ := h3
      rw [e1, ← e2]
      exact h _ _ hw h2
    case enter f args =>
      obtain ⟨e1, hd, hc⟩ := h3
      rw [e1]
      exact ⟨hd, hc.mono fun e w'' ⟨he, hw''⟩ => by subst he; exact h _ _ hw'' h2⟩
  | halt x w' => simp only [Oper.quietUponIn] at h3
theorem wpOpIn_of_qOpIn_r {i : Nat} {a : Act} {K : Act → Prop} {K' : Act → World → Prop} {Q' : Exit → Act → World → Prop} {w : World} (hnd : ∀ (j : Nat) (o : Oper), ops[j]? = some o → noDefer o = true) (hC : C w) (h : ∀ a w', C w' → K a → K' a w')
    (hh : qOpIn F n P ops C i K a) : wpOpIn F n P ops Q' i K' a w := by
  unfold qOpIn at hh
  unfold wpOpIn
  split
  · rename_i ho; simp only [ho] at hh; exact h _ _ hC hh
  · rename_i o ho
    simp only [ho] at hh
    obtain ⟨ha, hh⟩ := hh
    split
    · rename_i hw; simp only [hw, if_true] at hh; exact wpIn_of_quiet_r (hnd i o ho) hC h ha hh
    · rename_i hw; simp only [hw] at hh; exact ⟨ha w hC, h _ _ hC hh⟩
theorem wpAnyIn_of_quiet_r {Q : Act → Prop} {Q' : Exit → Act → World → Prop} (hnd : ∀ (j : Nat) (o : Oper), ops[j]? = some o → noDefer o = true) (hQ : ∀ a w, C w → Q a → Q' .normal a w) : ∀ (fuel : Nat) (listed : Array Bool) (a : Act) (w : World), C w →
    wpAnyQIn F n P md ops C Q fuel listed a → wpAnyIn F n P md ops Q' fuel listed a w
  | 0, _, _, _, hw, h => ⟨h.1, hQ _ _ hw h.2⟩
  | fuel + 1, _, _, _, hw, h => ⟨fun h0 => hQ _ _ hw (h.1 h0), fun i hi => wpOpIn_of_qOpIn_r hnd hw (fun a' w' hw' => wpAnyIn_of_quiet_r hnd hQ fuel _ a' w' hw') (h.2 i hi)⟩
theorem wpIn_region_quiet_r {id : Nat} {Q : Exit → Act → World → Prop} {a : Act} {w : World} {l : List Oper} (hd : l.all noDefer = true) (hm : P.follows .mixedOrders = true) (hB : Region.lexB .any l.toArray = true)
    (h : wpQuietIn F n P l.toArray (fun w' => ∃ n, w' = w.drewN n) (fun a' => ∀ w', (∃ n, w' = w.drewN n) → Q .normal a' w') l a) : (Code.region id l.toArray true).wpIn F n P Q a w := by
  simp only [Region.lexB, Bool.and_eq_true] at hB
  have hnd : ∀ (j : Nat) (o : Oper), l.toArray[j]? = some o → noDefer o = true := fun j o ho => by
    rw [List.getElem?_toArray] at ho
    exact List.all_eq_true.1 hd o (List.mem_of_getElem? ho)
  refine wpIn_region_any hm (wpAnyIn_of_quiet_r (C := fun w' => ∃ n, w' = w.drewN n) (Q := fun a' => ∀ w', (∃ n, w' = w.drewN n) → Q .normal a' w') hnd (fun _ w' hw' h => h w' hw') _ _ _ _ ⟨1, rfl⟩ ?_)
  have := wpAnyQIn_lex (F := F) (n := n) (C := fun w' => ∃ n, w' = w.drewN n) (md := .any) hB.1 l 0 (Array.replicate l.toArray.size false) a (by simp) (by simpa using hB.2) (by simpa using h)
  simpa using this
end
end Go.Proofs.YtfchnpdgnhoffaaGreatDoor
namespace Go.Proofs.YtfchnpdgnhoffaaGreatDoor
open Go.RowKit Go.Shelf Go.Maps
attribute [local simp] wide_fn
attribute [local go_sem] Oper.semAt_some

def SumR (w : World) (c : List Rec) (s i : Value) (wr : World) : Prop := ∃ k : Nat, k ≤ c.length ∧ s = .int .i64 (sumL (c.take k) : Int) ∧ i = .int .i64 k ∧ wr = w
/-- behind some rounds of the range -/
structure SamI (w : World) (wp kb n : Nat) (W : World) : Prop where
  below : Below w.heap.size w W
  p : Blk W w.heap.size 23 #[.pointer (some ⟨wp, 0, none⟩)]
  r : Blk W (w.heap.size + 1) 4 #[.bool false]
  k : Blk W kb 3 #[.int .i64 (n : Int)]
theorem SamI.under {w : World} {wp kb n : Nat} {A B : World} (h : SamI w wp kb n A) (hb : Below A.heap.size A B) : SamI w wp kb n B :=
  ⟨h.below.trans (hb.mono h.below.size), h.p.below hb h.p.lt, h.r.below hb h.r.lt, h.k.below hb h.k.lt⟩
theorem SamI.grown {w : World} {wp kb n : Nat} {A B : World} {r : Nat} (h : SamI w wp kb n A) (hg : A.grownBy B (some r)) (hr : w.heap.size + 1 < r) (hk : r ≠ kb) : SamI w wp kb n B :=
  ⟨h.below.grown hg h.below.size (fun k e => by injection e with e; omega), h.p.grown hg (by simp; omega), h.r.grown hg (by simp; omega), h.k.grown hg (by simp; omega)⟩
set_option maxRecDepth 100000 in
set_option maxHeartbeats 12800000 in
theorem same_any (w : World) (F G : Nat → Prop) (wp n : Nat) (s : LS) (lp p : Nat) (Fl : Nat → Prop) (vc vm vs : Value) (h : WSt w F G wp n s s lp p Fl vc vm vs) (hc : Sm s.c) :
    Calls Tryz.prog 15 #[.pointer (some ⟨wp, 0, none⟩)] w fun e w' => e = .returned (.bool true) ∧ Below w.heap.size w w' := by
  obtain ⟨A0, d0, us, hvc, hd0, hR0, hG0, hr0⟩ := id h.cont
  subst hvc
  obtain ⟨c, hce⟩ : ∃ c, c = s.c := ⟨_, rfl⟩
  rw [← hce] at hd0 hR0 hr0 hc
  obtain ⟨nc, hnc⟩ : ∃ nc, nc = c.length := ⟨_, rfl⟩
  have hul : us.length = nc := by have := hR0.1; omega
  have hcl : nc ≤ 2000 := by rw [hnc]; exact hc.1
  have HCE := Lib.hid hce
  have HNC := Lib.hid hnc
  have HUL := Lib.hid hul
  have HC := Lib.hid hc
  have HR := Lib.hid (show Reads w w.heap.size 1 A0 nc us by rw [hnc]; exact hR0)
  have HRR := Lib.hid hr0
  obtain ⟨wA, hwA⟩ : ∃ wA, wA = (w.alloc (.cells #[.pointer (some ⟨wp, 0, none⟩)] 23)).alloc (.cells #[.bool false] 4) := ⟨_, rfl⟩
  have HWA := Lib.hid hwA
  have hbA : Below w.heap.size w wA := by rw [hwA]; exact ((Below.refl _ _).alloc (Nat.le_refl _) _).alloc (by simp) _
  have b1 : Blk wA w.heap.size 23 #[.pointer (some ⟨wp, 0, none⟩)] := by rw [hwA]; exact (Blk.new w 23 _).alloc _
  have b2 := Blk.new (w.alloc (.cells #[.pointer (some ⟨wp, 0, none⟩)] 23)) 4 #[.bool false]
  rw [← hwA, World.size_alloc] at b2
  have hsA : wA.heap.size = w.heap.size + 2 := by rw [hwA]; simp
  have hA := h.below hbA
  have HA := Lib.hid hA
  have HBA := Lib.hid hbA
  have HB1 := Lib.hid b1
  have HB2 := Lib.hid b2
  have f1 : wA.cell? ⟨w.heap.size, 0, none⟩ = some (.pointer (some ⟨wp, 0, none⟩)) := b1.cell 0
  have c1 : wA.cell? ⟨wp, 1, none⟩ = some (.pointer (some ⟨lp, 0, none⟩)) := hA.blk.cell 1
  have c2 : wA.cell? ⟨wp, 2, none⟩ = some (.slice A0 nc d0) := by rw [hnc, hce]; exact hA.blk.cell 2
  have H := Lib.hid h
  clear hce hnc hul hc hR0 hr0 hwA hbA b1 b2 hA h hd0 hG0
  refine (callsIn_wide (n := 9)).1 ?_
  refine callsIn_of_wp_marks Tryz.func15 rfl trivial ?_ rfl
  simp only [Tryz.ntmps15, List.size_toArray, List.length_cons, List.length_nil, Nat.reduceAdd, Nat.reduceSub, Array.replicate_succ, Array.replicate_zero, List.push_toArray, List.append_toArray, List.nil_append, List.cons_append]
  refine wpIn_wide.2 ?_
  go_upto_region 1 with fail
  rw [← HWA.out]
  go_wp2_with fail
  go_loopw [3, 4] (fun s i wr => SumR wA c s i wr) (fun _ i _ => nc - (intOf i).toNat)
  case atStart => exact ⟨0, Nat.zero_le _, rfl, rfl, rfl⟩
  case round =>
    obtain ⟨wx, hwx⟩ : ∃ wx, wx = wr := ⟨_, rfl⟩
    subst hwx
    obtain ⟨k, hk, rfl, rfl, hw⟩ := hrel
    subst hw
    have hk : k ≤ nc := by rw [HNC.out]; exact hk
    by_cases hlt : k < nc
    · obtain ⟨ad, hA, hg, hcell⟩ := HR.out.2 (by omega)
      subst hA
      have hkc : k < c.length := by rw [← HNC.out]; exact hlt
      have hku : k < us.length := by rw [HUL.out]; exact hlt
      obtain ⟨b, hb⟩ : ∃ b, b = c[k] := ⟨_, rfl⟩
      obtain ⟨A2, c3, hu, -⟩ := HRR.out k us[k] b (List.getElem?_eq_getElem hku) (by rw [hb]; exact List.getElem?_eq_getElem hkc)
      have e0 : wx.cell? (ad.add k) = some (.slice A2 b.length c3) := (HBA.out.cell (p := ad.add k) (by rw [block_of_add]; exact hg)).trans (hcell k _ (by rw [List.getElem?_eq_getElem hku, hu]))
      have hbl : b.length ≤ 50000 := HC.out.2 b (by rw [hb]; exact List.getElem_mem _)
      have hTK : c.take (k + 1) = c.take k ++ [b] := by rw [hb]; exact List.take_succ_eq_append_getElem hkc
      have hs := sumL_le (c.take k) fun y hy => HC.out.2 y (List.take_subset _ _ hy)
      have hs2 : sumL (c.take (k + 1)) = sumL (c.take k) + b.length := by rw [hTK, sumL_snoc]
      rw [List.length_take] at hs
      obtain ⟨q, hq⟩ : ∃ q, q = sumL (c.take k) := ⟨_, rfl⟩
      rw [← hq] at hs hs2 ⊢
      have hql : q ≤ 100000000 := by omega
      have HS2 := Lib.hid hs2
      clear hb hu hcell hTK hs hs2 hq
      go_wp2
      refine ⟨⟨k + 1, by rw [← HNC.out]; omega, by rw [HS2.out]; go_num, by go_num, rfl⟩, by simp [intOf]; omega⟩
    · obtain rfl : k = nc := by omega
      have hk2 : c.take k = c := by rw [HNC.out, List.take_length]
      rw [hk2]
      clear hk2
      obtain ⟨q, hq⟩ : ∃ q, q = sumL c := ⟨_, rfl⟩
      rw [← hq]
      have HCO := Lib.hid (show ∀ z, Calls Tryz.prog 23 #[.pointer (some ⟨lp, 0, none⟩)] (wx.drewN z) fun e w' => e = .returned (.int .i64 (k : Int)) ∧ w' = wx.drewN z from fun z => by rw [HNC.out, HCE.out]; exact count_any (HA.out.drewN z).log)
      have HBY := Lib.hid (show ∀ z, Calls Tryz.prog 31 #[.pointer (some ⟨lp, 0, none⟩)] (wx.drewN z) fun e w' => e = .returned (.int .i64 (q : Int)) ∧ w' = wx.drewN z from fun z => by rw [hq, HCE.out]; exact bytes_any (HA.out.drewN z).log (by rw [← HCE.out]; exact HC.out))
      clear hq
      go_wp2_with fail
      go_quiet ((first | (go_at_call 23; exact Calls.quiet_of_same (HCO.out _)) | (go_at_call 31; exact Calls.quiet_of_same (HBY.out _))))
      go_wp2_with fail
      refine (all_any _ lp).mono ?_
      rintro e w4 ⟨rfl, hw4⟩
      have hnf : ∀ (X : Value) (W : World), (binOp BinOp.eql 58 (.func (.func 44) #[] #[X]) .nilFunc).run Tryz.prog W = .ok (.bool false) W := fun _ _ => rfl
      go_wp2_with fail
      obtain ⟨w7, hw7⟩ : ∃ w7, w7 = w4.alloc (.cells #[.int .i64 0] 3) := ⟨_, rfl⟩
      rw [hw4] at hw7
      rw [← hw7]
      have hb7 : Below w.heap.size w w7 := by
        rw [hw7]
        exact ((below_drewN HBA.out nq).alloc (by show w.heap.size ≤ wx.heap.size; omega) _).alloc (by rw [World.size_alloc]; show w.heap.size ≤ wx.heap.size + 1; omega) _
      have hs7 : w7.heap.size = w.heap.size + 4 := by rw [hw7]; simp; omega
      have hX := Blk.new (wx.drewN nq) 28 #[.pointer (some ⟨lp, 0, none⟩)]
      have hX7 : Blk w7 (w.heap.size + 2) 28 #[.pointer (some ⟨lp, 0, none⟩)] := by rw [hw7, ← hsA]; exact hX.alloc _
      have hS7 : SamI w wp (w.heap.size + 2 + 1) 0 w7 := by
        refine ⟨hb7, ?_, ?_, ?_⟩
        · rw [hw7]; exact ((HB1.out.drewN nq).alloc _).alloc _
        · rw [hw7]; exact ((HB2.out.drewN nq).alloc _).alloc _
        · have := Blk.new ((wx.drewN nq).alloc (.cells #[.pointer (some ⟨lp, 0, none⟩)] 28)) 3 #[.int .i64 0]
          rw [World.size_alloc] at this
          rw [hw7, show w.heap.size + 2 + 1 = wx.heap.size + 1 by omega]
          exact this
      have HSEQ := Lib.hid (all_seq 8 w7 Fl lp p n (w.heap.size + 2) s.x s.c s.last s.fl ((H.out.below hb7).log) hX7 (by rw [← HCE.out]; exact HC.out))
      have HS7 := Lib.hid hS7
      clear hw7 hw4 hb7 hX hX7 hS7 hnf f1 c1 c2
      refine (wpIn_wide (n := 9)).1 ?_
      refine wpIn_rangeFunc_e2 (s1 := 7) (s2 := 8) (gf := 44) (c := s.c) (lb := #[.pointer (some ⟨w.heap.size + 2, 0, none⟩)]) rfl (by omega) rfl trivial (enters_of Tryz.func44 (by kernel_rfl) rfl) HSEQ.out (Below.refl _ _)
        (fun pre V => SamI w wp (w.heap.size + 2 + 1) pre.length V) (fun _ _ _ => False)
        (fun _ A B h hb => h.under hb) (fun _ A B r h hg hr => h.grown hg (by omega) (by omega)) (fun _ _ _ _ _ h _ _ => h.elim) HS7.out ?assign ?body ?done ?stop
      case assign =>
        intro l x V K' hK'
        simp only [List.setIfInBounds_toArray, List.set_cons_succ, List.set_cons_zero] at hK' ⊢
        gi_wp2
        exact hK'
      case stop =>
        intro _ _ _ h
        exact h.elim
      case body =>
        rintro l pre ⟨xi, xu⟩ V hI ⟨hx1, b, hb, hub⟩ hbig
        change xi = pre.length at hx1
        simp only [List.setIfInBounds_toArray, List.set_cons_succ, List.set_cons_zero]
        obtain ⟨j, hj⟩ : ∃ j, j = pre.length := ⟨_, rfl⟩
        rw [← hj] at hx1 hb hI
        subst hx1
        rw [← HCE.out] at hb
        have hjc : xi < c.length := (List.getElem?_eq_some_iff.1 hb).1
        have hjk : xi < k := by rw [HNC.out]; exact hjc
        obtain ⟨ad, hA, hg, hcell⟩ := HR.out.2 (by omega)
        subst hA
        have hju : xi < us.length := by rw [HUL.out]; exact hjk
        obtain ⟨A2, c3, hu, -, hR2, -⟩ := HRR.out xi us[xi] b (List.getElem?_eq_getElem hju) hb
        have e0 : V.cell? (ad.add xi) = some (.slice A2 b.length c3) := (hI.below.cell (p := ad.add xi) (by rw [block_of_add]; exact hg)).trans (hcell xi _ (by rw [List.getElem?_eq_getElem hju, hu]))
        obtain ⟨Au, du, hxu⟩ := own_slice hub
        subst hxu
        have j1 : ∀ q, (convert 25 9 (.slice Au b.length du)).run Tryz.prog (V.drewN q) = .ok (.string ⟨b.toArray⟩) (V.drewN q) := fun q => run_str_reads du ((Reads.of_own hub).drewN q)
        have j2 : ∀ q, (convert 25 9 (.slice A2 b.length c3)).run Tryz.prog (V.drewN q) = .ok (.string ⟨b.toArray⟩) (V.drewN q) := fun q => run_str_reads c3 ((hR2.below hI.below).drewN q)
        have y1 : V.cell? ⟨w.heap.size, 0, none⟩ = some (.pointer (some ⟨wp, 0, none⟩)) := hI.p.cell 0
        have y2 : V.cell? ⟨wp, 2, none⟩ = some (.slice (some ad) k d0) := by rw [HNC.out, HCE.out]; exact (H.out.blk.below hI.below H.out.blk.lt).cell 2
        have y3 : V.cell? ⟨w.heap.size + 2 + 1, 0, none⟩ = some (.int .i64 (xi : Int)) := hI.k.cell 0
        have y4 := hI.k.frozen 0
        have hge : decide ((k : Int) ≤ (xi : Int)) = false := decide_eq_false (by omega)
        have hge2 : decide (k ≤ xi) = false := decide_eq_false (by omega)
        have HI := Lib.hid hI
        have HJ := Lib.hid hj
        clear hI hj hb hub hcell hu hR2
        gi_wp2_with fail
        refine wpIn_region_quiet_r (by kernel_rfl) (by kernel_rfl) (by kernel_rfl) ?_
        repeat (gi_big_quiet_step (fail))
        refine wpQuietIn_nil ?_
        intro _ hw'
        obtain ⟨nq2, hw''⟩ := hw'
        subst hw''
        gi_wp2
        have hk9 : ∀ r, r ≠ w.heap.size + 2 + 1 → ((V.drewN nq2).setCell ⟨w.heap.size + 2 + 1, 0, none⟩ (.int .i64 ((xi : Int) + 1))).heap[r]? = V.heap[r]? := fun r hr => Below.heap_setCell _ _ _ _ hr
        refine ⟨by simp [World.setCell], fun r hr => hk9 r (by omega), fun r hr => hk9 r ?_, ?_⟩
        · rcases hr with hr | ⟨hr, -⟩
          · exact hr.ne (IsT.of_blk HI.out.k) (by decide)
          · exact hr.ne (IsT.of_blk HI.out.k) (by decide)
        · show SamI w wp (w.heap.size + 2 + 1) (pre ++ [(xi, Value.slice Au b.length du)]).length _
          rw [List.length_append, ← HJ.out]
          refine ⟨(below_drewN HI.out.below nq2).setCell (p := ⟨w.heap.size + 2 + 1, 0, none⟩) (by show w.heap.size ≤ w.heap.size + 2 + 1; omega) _, (hk9 _ (by omega)).trans HI.out.p, (hk9 _ (by omega)).trans HI.out.r, ?_⟩
          exact (HI.out.k.drewN nq2).set_ 0 _
      case done =>
        intro xs V hxs hI hdf
        rename_i Kc hKc
        show Kc _ _
        refine hKc _ _ ?_
        clear hKc
        rw [hxs, ← HCE.out, ← HNC.out] at hI
        have y1 : V.cell? ⟨w.heap.size, 0, none⟩ = some (.pointer (some ⟨wp, 0, none⟩)) := hI.p.cell 0
        have y2 : V.cell? ⟨wp, 2, none⟩ = some (.slice A0 k d0) := by rw [HNC.out, HCE.out]; exact (H.out.blk.below hI.below H.out.blk.lt).cell 2
        have y3 : V.cell? ⟨w.heap.size + 2 + 1, 0, none⟩ = some (.int .i64 (k : Int)) := hI.k.cell 0
        have y4 : V.cell? ⟨w.heap.size + 1, 0, none⟩ = some (.bool false) := hI.r.cell 0
        have y5 := hI.r.frozen 0
        have HI := Lib.hid hI
        have HDF := Lib.hid hdf
        clear hI hdf
        go_wp2_with fail
        go_region
        all_goals
          go_wp2
          obtain ⟨Wf, hWf⟩ : ∃ Wf, Wf = (V.setCell ⟨w.heap.size + 1, 0, none⟩ (.bool true)).drew := ⟨_, rfl⟩
          have hrf : Blk Wf (w.heap.size + 1) 4 #[.bool true] := by rw [hWf]; exact (HI.out.r.set_ 0 _).drew
          have hdf : Wf.heap[w.heap.size + 4]? = some (.deferred (some [])) := by
            rw [hWf]
            refine (Below.heap_setCell _ _ _ _ (by show w.heap.size + 4 ≠ w.heap.size + 1; omega)).trans ?_
            have := HDF.out
            rwa [hs7] at this
          have hbf : Below w.heap.size w Wf := by rw [hWf]; exact (HI.out.below.setCell (p := ⟨w.heap.size + 1, 0, none⟩) (by show w.heap.size ≤ w.heap.size + 1; omega) _).drew
          rw [← hWf]
          have hg9 : Wf.grownBy (Wf.putObj (w.heap.size + 4) (.deferred none)) (some (w.heap.size + 4)) := grownBy_putObj' Wf _ _
          have hcell : (Wf.putObj (w.heap.size + 4) (.deferred none)).cell? ⟨w.heap.size + 1, 0, none⟩ = some (.bool true) := (World.cell?_of_block (hg9.block (w.heap.size + 1) hrf.lt (by simp))).trans (hrf.cell 0)
          refine ⟨by simp, .inl ⟨_, _, rfl, run_takeDeferred hdf, ?_⟩⟩
          refine ⟨.bool true, ?_, rfl, hbf.grown hg9 hbf.size (fun k hk => by cases hk; omega)⟩
          simp [results, go_sem, hcell]
end Go.Proofs.YtfchnpdgnhoffaaGreatDoor
namespace Go.Proofs.YtfchnpdgnhoffaaGreatDoor
open Go.RowKit Go.Shelf Go.Maps

structure OpAt (W : World) (d : Addr) (i : Nat) (o : OpL) (vr vrs vcu : Value) : Prop where
  c0 : W.cell? (d.add (i * 6)) = some (.int .i64 o.do_)
  c1 : W.cell? (d.add (i * 6 + 1)) = some (.int .i64 o.n)
  c2 : W.cell? (d.add (i * 6 + 2)) = some (.int .i64 o.k)
  c3 : W.cell? (d.add (i * 6 + 3)) = some vr
  c4 : W.cell? (d.add (i * 6 + 4)) = some vrs
  c5 : W.cell? (d.add (i * 6 + 5)) = some vcu
  val : OpVal W (fun y => y < W.heap.size) o vr vrs vcu
def OpsAt (W : World) (A : Option Addr) (n : Nat) : Prop := ∀ i, i < n → ∃ d, A = some d ∧ d.block < W.heap.size ∧ ∃ o vr vrs vcu, OpAt W d i o vr vrs vcu
theorem OpVal.below {w w' : World} {H : Nat → Prop} {o : OpL} {vr vrs vcu : Value} (h : OpVal w H o vr vrs vcu) (hb : Below w.heap.size w w') : OpVal w' H o vr vrs vcu :=
  ⟨h.rec_.below hb, h.recs.below hb, by obtain ⟨A, c, e, hc, hR⟩ := h.cuts; exact ⟨A, c, e, hc, (hR.below hb).more hb.size⟩, h.rL, h.rsL, h.rbL, h.i1, h.i2⟩
/-- behind some of the things -/
def KeepR (w : World) (wp m : Nat) (i : Value) (wr : World) : Prop :=
  ∃ (k : Nat) (s : LS) (F : Nat → Prop), k ≤ m ∧ k ≤ 60 ∧ i = .int .i64 k ∧ WAt wr F wp (107 * k) s ∧ s.Ok k ∧ Below w.heap.size w wr ∧ ∀ y, F y → w.heap.size ≤ y
set_option maxRecDepth 100000 in
set_option maxHeartbeats 12800000 in
theorem keeps_any (w : World) (hS : SynW w) (A : Option Addr) (n c : Nat) (hO : OpsAt w A n) (hn : n ≤ maxLen) : Calls Tryz.prog 6 #[.slice A n c] w fun e w' => e = .returned (.bool true) ∧ Below w.heap.size w w' := by
  have HO := Lib.hid hO
  have HS := Lib.hid hS
  have h0w := hS.lt
  unfold maxLen at hn
  clear hO hS
  go_enter Tryz.func6, Tryz.ntmps6
  go_wp2_with fail
  refine (begun_any w HS.out).mono ?_
  rintro e w1 ⟨wp, rfl, hwp, hat, hb1⟩
  have HAT := Lib.hid hat
  have HB1 := Lib.hid hb1
  clear hat hb1
  go_wp2_with fail
  go_loopw [4] (fun i wr => KeepR w wp n i wr) (fun i _ => n - (intOf i).toNat)
  case atStart => exact ⟨0, _, _, Nat.zero_le _, Nat.zero_le _, rfl, HAT.out, ls0_ok, HB1.out, fun y hy => hy.1⟩
  case round =>
    obtain ⟨k, s, F, hk, hk60, rfl, hat, hok, hb, hF⟩ := hrel
    have HA := Lib.hid hat
    have HK := Lib.hid hok
    have HB := Lib.hid hb
    have HF := Lib.hid hF
    have hsz := hb.size
    by_cases hlt : k < n ∧ k < 60
    · obtain ⟨hl1, hl2⟩ := hlt
      obtain ⟨d, rfl, hdl, o, vr, vrs, vcu, hop⟩ := HO.out k hl1
      have hadd : ∀ j, j ≠ 0 → d.add (k * 6 + j) = ⟨(d.add (k * 6)).block, (d.add (k * 6)).off + j, none⟩ := fun j hj => by
        rw [← add_of_add]
        generalize d.add (k * 6) = b
        unfold Addr.add
        rw [if_neg hj]
      have hcell : ∀ j v, w.cell? (d.add (k * 6 + j)) = some v → wr.cell? (d.add (k * 6 + j)) = some v := fun j v h => (hb.cell (by rw [block_of_add]; exact hdl)).trans h
      obtain ⟨Ar, dr, hvr, -⟩ := id hop.val.rec_
      obtain ⟨Ac, mc, dc, hvrs⟩ := recs_slice hop.val.recs
      obtain ⟨Au, du, hvcu, -⟩ := id hop.val.cuts
      subst hvr hvrs hvcu
      have x0 := hcell 0 _ hop.c0
      have x1 := hcell 1 _ hop.c1
      have x2 := hcell 2 _ hop.c2
      have x3 := hcell 3 _ hop.c3
      have x4 := hcell 4 _ hop.c4
      have x5 := hcell 5 _ hop.c5
      rw [Nat.add_zero] at x0
      rw [hadd 1 (by omega)] at x1
      rw [hadd 2 (by omega)] at x2
      rw [hadd 3 (by omega)] at x3
      rw [hadd 4 (by omega)] at x4
      rw [hadd 5 (by omega)] at x5
      have HV := Lib.hid (hop.val.below hb)
      clear hadd hcell hop hdl hat hok hb hF
      go_wp2_with fail
      refine (does_any wr F _ wp k s o _ _ _ HA.out (by omega) HK.out HV.out (fun y hy hf => by have := HF.out y hf; omega)).mono ?_
      rintro e w2 ⟨rfl, s2, ⟨F2, hF2, hat2, hc2⟩, hok2, -⟩
      have hs2 := hc2.size
      have hb2 := HB.out.trans (hc2.toBelow (B := w.heap.size) HF.out hsz)
      have hF3 : ∀ y, F2 y → w.heap.size ≤ y := fun y hy => (hF2 y hy).elim (fun h => HF.out y h) fun h => by omega
      have HA2 := Lib.hid hat2
      have HK2 := Lib.hid hok2
      have HB2 := Lib.hid hb2
      have HF2 := Lib.hid hF3
      obtain ⟨G2, lp2, p2, Fl2, vc2, vm2, vs2, hw2⟩ := hat2
      have HW2 := Lib.hid hw2
      clear hF2 hc2 hok2 hb2 hF3 hw2 x0 x1 x2 x3 x4 x5
      go_wp2_with fail
      refine (same_any w2 _ _ wp _ s2 lp2 p2 _ _ _ _ HW2.out (HK2.out.cS.sm (by omega))).mono ?_
      rintro e w3 ⟨rfl, hb3⟩
      have HB3 := Lib.hid hb3
      clear hb3
      go_wp2
      refine ⟨⟨k + 1, s2, F2, by omega, by omega, by go_num, HA2.out.below HB3.out, HK2.out, HB2.out.trans (HB3.out.mono HB2.out.size), HF2.out⟩, by simp [intOf]; omega⟩
    · have hend : (k < n → ¬ k < 60) := fun h1 h2 => hlt ⟨h1, h2⟩
      clear hlt
      obtain ⟨G, lp, p, Fl, vc, vm, vs, hw⟩ := hat
      have c0 : wr.cell? ⟨wp, 0, none⟩ = some (.pointer (some ⟨p, 0, none⟩)) := hw.blk.cell 0
      obtain ⟨Fd, hdk, hfd, hgo⟩ := hw.disked (n' := 107 * k + 1) (b := { s with x := s.x.crash [] })
      have HW := Lib.hid hw
      have HDK := Lib.hid hdk
      have HFD := Lib.hid hfd
      have HGO := Lib.hid hgo
      by_cases h1 : k < n
      case' pos =>
        have h2 := hend h1
        clear hend
      case' neg =>
        clear hend
      all_goals
        clear hok hb hF hw hdk hfd hgo
        go_wp2_with fail
        refine (dk_crash wr Fd p (107 * k) s.x none 0 0 [] rfl HDK.out (by omega) ⟨rfl, fun h => absurd h (by decide)⟩ (Nat.le_refl _)).mono ?_
        rintro e w2 ⟨rfl, hd2, hc2⟩
        have hnd : ND (s.x.crash []).dir := hd2.rdir.1.names
        obtain ⟨t, tx, tok, tst, tsp, tmay, tfl, tc, tfree⟩ := LS.crash HK.out (by omega) [] hnd
        have h2w := HGO.out w2 hd2 hc2 (by first | exact rfl | exact trivial) (by first | exact rfl | exact trivial) (by first | exact rfl | exact trivial)
        have hs2 := hc2.size
        have hc2F : Chg F wr w2 := hc2.weak fun y hy => HW.out.sub y (HFD.out y hy)
        have hb2 := HB.out.trans (hc2F.toBelow (B := w.heap.size) HF.out hsz)
        have HB2 := Lib.hid hb2
        have H2W := Lib.hid h2w
        have HT := Lib.hid tok
        have HTO := Lib.hid (show Opens ({ s with x := s.x.crash [] } : LS) t from ⟨tx, tmay, tfl⟩)
        have HTC := Lib.hid tc
        clear hd2 hc2 hnd tx tok tst tsp tmay tfl tc tfree h2w hc2F hb2 c0
        go_wp2_with fail
        refine (opened_any w2 _ _ wp (107 * k + 1) (k + 1) _ s t lp p _ vc vm vs H2W.out (by omega) HT.out (by omega) HTO.out true (HK.out.cS.mono (by omega)) (fun l hl => (HK.out.mS l hl).mono (by omega)) (by have := HK.out.mL; omega) (HTC.out.imp id fun h => ⟨rfl, h⟩)).mono ?_
        rintro e w3 ⟨rfl, ⟨F3, hF3, -, hc3⟩⟩
        have hb3 := HB2.out.trans (hc3.toBelow (B := w.heap.size) (fun y hy => hy.elim (HF.out y) fun h => by omega) (by omega))
        have HB3 := Lib.hid hb3
        clear hF3 hc3 hb3
        go_wp2_with fail
        refine (wakes_any w3 (HS.out.below HB3.out h0w)).mono ?_
        rintro e w4 ⟨rfl, hb4⟩
        have HB4 := Lib.hid hb4
        clear hb4
        go_wp2
        go_ret
        exact ⟨rfl, HB3.out.trans (HB4.out.mono HB3.out.size)⟩
end Go.Proofs.YtfchnpdgnhoffaaGreatDoor
