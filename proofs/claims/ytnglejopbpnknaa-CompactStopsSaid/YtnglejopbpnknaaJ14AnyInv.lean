/- A region that draws its order, by an invariant: each operation that may come up keeps it. -/
import Derived.Orders
import Derived.Tactics
import Derived.Test.YtnglejopbpnknaaJ13RangeM
namespace Go.Proofs.Ytnglejopbpnknaa
open Go.RowKit
/-- all that an operation waits for stands ahead of it -/
def backB (ops : Array Oper) : Bool := (List.range ops.size).all fun i => ((ops[i]?).map fun o => o.after.all fun e => !Region.binds .any e || decide (e.on < i)).getD true
theorem backB_spec {ops : Array Oper} (h : backB ops = true) {i : Nat} {o : Oper} (hi : ops[i]? = some o) : ∀ e ∈ o.after, Region.binds .any e = true → e.on < i := by
  have hlt : i < ops.size := (Array.getElem?_eq_some_iff.1 hi).1
  have h1 := List.all_eq_true.1 h i (List.mem_range.2 hlt)
  rw [hi] at h1
  simp only [Option.map_some, Option.getD_some, Array.all_eq_true_iff_forall_mem, Bool.or_eq_true, Bool.not_eq_true', decide_eq_true_eq] at h1
  intro e he hb
  rcases h1 e he with h | h
  · rw [hb] at h; cases h
  · exact h
def left (listed : Array Bool) : Nat := listed.toList.countP (fun b => !b)
theorem left_list : ∀ (l : List Bool) (i : Nat), l[i]? = some false → (l.set i true).countP (fun b => !b) + 1 = l.countP (fun b => !b)
  | [], i, h => by simp at h
  | b :: l, 0, h => by simp at h; subst h; simp
  | b :: l, i + 1, h => by
    have := left_list l i (by simpa using h)
    rw [List.set_cons_succ, List.countP_cons, List.countP_cons]
    omega
theorem left_set {listed : Array Bool} {i : Nat} (h : listed.getD i true = false) : left (listed.setIfInBounds i true) + 1 = left listed := by
  have hlt : listed[i]? = some false := by
    rcases Nat.lt_or_ge i listed.size with h' | h'
    · simp [h'] at h ⊢; exact h
    · simp [Array.getElem?_eq_none h'] at h
  unfold left
  rw [Array.toList_setIfInBounds]
  exact left_list _ _ (by simpa using hlt)
theorem all_listed {ops : Array Oper} (hb : backB ops = true) {listed : Array Bool} (hs : listed.size = ops.size) (h : Region.ready .any ops listed = []) : ∀ n i, i ≤ n → i < ops.size → listed.getD i false = true := by
  intro n
  induction n using Nat.strongRecOn with
  | ind n ih =>
    intro i hin hi
    have hl : i < listed.size := by omega
    cases e : listed[i] with
    | true => simp [hl, e]
    | false =>
      exfalso
      have : i ∈ Region.ready .any ops listed := mem_ready.2 ⟨by simp [hl, e], ops[i], by simp [hi], fun d hd hbd => by
        have hlt := backB_spec hb (show ops[i]? = some ops[i] by simp [hi]) d hd hbd
        exact ih (n - 1) (by omega) d.on (by omega) (by omega)⟩
      rw [h] at this
      cases this
theorem left_none {listed : Array Bool} (h : left listed = 0) {ops : Array Oper} : Region.ready .any ops listed = [] := by
  apply List.eq_nil_iff_forall_not_mem.2
  intro i hi
  have := left_set (mem_ready.1 hi).1
  omega
section
variable {P : Program} {ops : Array Oper} {Q : Exit → Act → World → Prop}
theorem wpOp_plain {i : Nat} {o : Oper} {K : Act → World → Prop} {a : Act} {w : World} (ho : ops[i]? = some o) (hg : o.guard = none) (h : o.wp P a w K Q) : wpOp P ops Q i K a w := by
  unfold wpOp
  simp only [ho]
  rw [if_pos (by simp [Region.wanted, hg])]
  exact .inl h
theorem wpAny_inv (hb : backB ops = true) (Inv : Array Bool → Act → World → Prop)
    (hstep : ∀ (listed : Array Bool) (a : Act) (w : World) (i : Nat) (o : Oper), Inv listed a w → ops[i]? = some o → listed.getD i true = false → (∀ e ∈ o.after, Region.binds .any e = true → listed.getD e.on false = true) → wpOp P ops Q i (fun a' w' => Inv (listed.setIfInBounds i true) a' w') a w)
    (hdone : ∀ (listed : Array Bool) (a : Act) (w : World), (∀ i < ops.size, listed.getD i false = true) → Inv listed a w → Q .normal a w) :
    ∀ (fuel : Nat) (listed : Array Bool) (a : Act) (w : World), listed.size = ops.size → left listed ≤ fuel → Inv listed a w → wpAny P .any ops Q fuel listed a w
  | 0, listed, a, w, hs, hl, hI => by
    have hr := left_none (ops := ops) (listed := listed) (by omega)
    exact ⟨hr, hdone listed a w (fun i hi => all_listed hb hs hr i i (Nat.le_refl _) hi) hI⟩
  | fuel + 1, listed, a, w, hs, hl, hI => by
    refine ⟨fun hr => hdone listed a w (fun i hi => all_listed hb hs hr i i (Nat.le_refl _) hi) hI, fun i hi => ?_⟩
    obtain ⟨h1, o, h2, h3⟩ := mem_ready.1 hi
    refine wpOp_mono (fun a' w' h' => wpAny_inv hb Inv hstep hdone fuel _ a' w' (by simpa using hs) ?_ h') (hstep listed a w i o hI h2 h1 h3)
    have := left_set h1
    omega
theorem wp_region_inv {id : Nat} {a : Act} {w : World} (hm : P.follows .mixedOrders = true) (hb : backB ops = true) (Inv : Array Bool → Act → World → Prop) (h0 : Inv (Array.replicate ops.size false) a w.drew)
    (hstep : ∀ (listed : Array Bool) (a : Act) (w : World) (i : Nat) (o : Oper), Inv listed a w → ops[i]? = some o → listed.getD i true = false → (∀ e ∈ o.after, Region.binds .any e = true → listed.getD e.on false = true) → wpOp P ops Q i (fun a' w' => Inv (listed.setIfInBounds i true) a' w') a w)
    (hdone : ∀ (listed : Array Bool) (a : Act) (w : World), (∀ i < ops.size, listed.getD i false = true) → Inv listed a w → Q .normal a w) : (Code.region id ops true).wp P Q a w := by
  refine wp_region_any hm (wpAny_inv hb Inv hstep hdone _ _ _ _ (by simp) ?_ h0)
  have : ∀ n : Nat, (List.replicate n false).countP (fun b => !b) ≤ n := fun n => by simpa using List.countP_le_length (p := fun b => !b) (l := List.replicate n false)
  unfold left
  simpa using this ops.size
theorem wpOp_hid {i : Nat} {o : Oper} {K : Act → World → Prop} {a : Act} {w : World} (ho : ops[i]? = some o) (hg : o.guard = none) (h : ∀ K' : Act → World → Prop, (∀ a' w', K a' w' → K' a' w') → o.wp P a w K' Q) : wpOp P ops Q i K a w := wpOp_plain ho hg (h K fun _ _ h => h)
end
/-- what is listed -/
abbrev Lis (listed : Array Bool) (i : Nat) : Prop := listed.getD i false = true
theorem lis_of {listed : Array Bool} {i j : Nat} (h : Lis (listed.setIfInBounds i true) j) (hne : i ≠ j) : Lis listed j := by
  unfold Lis at h ⊢
  rwa [getD_set_ne false hne] at h
theorem lis_not {listed : Array Bool} {i : Nat} (h : listed.getD i true = false) : ¬ Lis listed i := by
  intro k
  unfold Lis at k
  rcases Nat.lt_or_ge i listed.size with h' | h'
  · simp [h'] at h k; rw [h] at k; cases k
  · simp [Array.getElem?_eq_none h'] at h
theorem lis_set {listed : Array Bool} {i j : Nat} (hne : i ≠ j) (h : Lis listed j) : Lis (listed.setIfInBounds i true) j := by
  unfold Lis at h ⊢
  rwa [getD_set_ne false hne]
end Go.Proofs.Ytnglejopbpnknaa
