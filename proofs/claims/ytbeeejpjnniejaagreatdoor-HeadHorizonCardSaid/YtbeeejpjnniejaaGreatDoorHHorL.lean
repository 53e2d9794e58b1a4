/- Law HeadHorizon, plainly: a head of one series. -/
import Derived.Test.YtbeeejpjnniejaaGreatDoorHDropW
import Derived.Test.YtbeeejpjnniejaaGreatDoorJ11HTold
namespace Go.Proofs.YtbeeejpjnniejaaGreatDoor
open Go.RowKit Go.Shelf Go.Maps
def lblA : List Lbl := [(⟨#[97]⟩, ⟨#[49]⟩)]
def onesB : Nat := 4607182418800017408
theorem fitA : fitP lblA = true := by kernel_rfl
theorem cmpA : cmpL lblA lblA = 0 := cmpL_three.self _
def smpA (t : Int) : HSmp := (t, onesB, false)
def ptA (t : Int) : Pt := (lblA, t, onesB)
/-- times that rise, from 1 on -/
structure TimesOk (ts : List Int) (t : Int) : Prop where
  rises : ts.Pairwise (· < ·)
  lo : ∀ x ∈ ts, 1 ≤ x ∧ x ≤ t
  last : ts ≠ [] → ts.getLast? = some t
theorem TimesOk.snoc {ts : List Int} {t t' : Int} (h : TimesOk ts t) (ht : t < t') (h0 : 0 ≤ t) : TimesOk (ts ++ [t']) t' where
  rises := by
    rw [List.pairwise_append]
    refine ⟨h.rises, List.pairwise_singleton _ _, fun a ha b hb => ?_⟩
    have := (h.lo a ha).2
    rw [List.mem_singleton] at hb
    omega
  lo := fun x hx => by
    rcases List.mem_append.1 hx with h1 | h1
    · have := h.lo x h1; omega
    · rw [List.mem_singleton] at h1; omega
  last := fun _ => by simp
structure HorI (ret : Int) (ts : List Int) (t : Int) (H : Hd) : Prop where
  retE : H.ret = ret
  newE : H.newest = if ts = [] then - big - 1 else t
  ss : (ts = [] ∧ H.ss = []) ∨ ∃ d, d < ts.length ∧ H.ss = [(lblA, (ts.drop d).map smpA)] ∧ ∀ x ∈ ts.take d, x < t - ret
theorem HorI.start (r : Int) (h : 0 ≤ r) : HorI r [] 0 (Hd.empty r) where
  retE := by show max r 0 = r; omega
  newE := rfl
  ss := .inl ⟨rfl, rfl⟩
theorem HorI.hz {ret t : Int} {ts : List Int} {H : Hd} (h : HorI ret ts t H) (hr : 0 ≤ ret ∧ ret ≤ 1000) (hn : ts ≠ []) (ht : 1 ≤ t) : H.horizon = t - ret := by
  unfold Hd.horizon horizonP
  rw [h.newE, if_neg hn, h.retE, if_neg (by unfold big; omega)]
theorem HorI.code {ret t t' : Int} {ts : List Int} {H : Hd} (h : HorI ret ts t H) (ho : TimesOk ts t) (hr : 0 ≤ ret ∧ ret ≤ 1000) (h0 : 0 ≤ t) (ht : t < t') (hb : t' ≤ 100000) : H.code (ptA t') = 0 := by
  unfold Hd.code
  rw [if_pos (show fitP (ptA t').1 = true from fitA)]
  unfold codeP
  rw [if_neg (show ¬ ((ptA t').2.1 < - big ∨ big < (ptA t').2.1) by unfold ptA big; dsimp only; omega)]
  rcases h.ss with ⟨e, h1⟩ | ⟨d, hd, h1, -⟩
  · have hl : H.last (ptA t').1 = none := by unfold Hd.last; rw [h1]; rfl
    have hz : horizonP H.ret H.newest = - big - 1 := by
      unfold horizonP
      rw [h.newE, if_pos e, h.retE]
      split
      · rfl
      · omega
    rw [hl, hz, if_neg]
    unfold ptA big
    dsimp only
    rintro (h2 | ⟨x, h2, -⟩)
    · omega
    · cases h2
  · have hne : ts ≠ [] := by intro e; rw [e] at hd; simp at hd
    have hpos : 1 ≤ t := by
      have h2 := ho.last hne
      exact (ho.lo t (List.mem_of_getLast? h2)).1
    have hz := h.hz hr hne hpos
    unfold Hd.horizon at hz
    have hl : H.last (ptA t').1 = some (t, onesB) := by
      unfold Hd.last
      rw [h1]
      show Option.map lastOf (findS lblA [(lblA, (ts.drop d).map smpA)]) = _
      unfold findS
      rw [if_pos cmpA]
      have h2 := ho.last hne
      have h3 : (ts.drop d).getLast? = some t := by
        rw [List.getLast?_drop, if_neg (by omega), h2]
      show some (lastOf _) = _
      unfold lastOf
      rw [List.getLast?_map, h3]
      rfl
    rw [hl, hz, if_neg]
    · show (if t < (ptA t').2.1 then (0 : Int) else _) = 0
      rw [if_pos (show t < (ptA t').2.1 from ht)]
    · unfold ptA
      dsimp only
      rintro (h2 | ⟨x, h2, h3⟩)
      · omega
      · injection h2 with h2
        rw [← h2] at h3
        dsimp only at h3
        omega
theorem HorI.add {ret t t' : Int} {ts : List Int} {H : Hd} (h : HorI ret ts t H) (ho : TimesOk ts t) (h0 : 0 ≤ t) (ht : t < t') : HorI ret (ts ++ [t']) t' (H.add (ptA t')) where
  retE := h.retE
  newE := by
    rw [if_neg (by simp)]
    show max H.newest t' = t'
    rw [h.newE]
    split
    · unfold big; omega
    · omega
  ss := by
    right
    show ∃ d, d < _ ∧ addS lblA (smpA t') H.ss = _ ∧ _
    rcases h.ss with ⟨e, h1⟩ | ⟨d, hd, h1, h2⟩
    · refine ⟨0, by simp, ?_, by simp⟩
      rw [h1, e]
      rfl
    · refine ⟨d, by simp; omega, ?_, fun x hx => ?_⟩
      · rw [h1]
        unfold addS
        rw [if_pos cmpA]
        dsimp only
        rw [List.drop_append_of_le_length (by omega), List.map_append]
        rfl
      · rw [List.take_append_of_le_length (by omega)] at hx
        have := h2 x hx
        omega
theorem HorI.take {ret t t' : Int} {ts : List Int} {H : Hd} (h : HorI ret ts t H) (ho : TimesOk ts t) (hr : 0 ≤ ret ∧ ret ≤ 1000) (h0 : 0 ≤ t) (ht : t < t') (hb : t' ≤ 100000) : H.taken [ptA t'] = [ptA t'] ∧ HorI ret (ts ++ [t']) t' (H.take [ptA t']).2 := by
  have hc := h.code ho hr h0 ht hb
  unfold Hd.taken Hd.take
  rw [if_pos hc]
  refine ⟨rfl, ?_⟩
  show HorI _ _ _ (H.take1 (ptA t'))
  unfold Hd.take1
  rw [if_pos hc]
  exact h.add ho h0 ht
theorem takeWhile_low {t : Int} : ∀ {r : List HSmp} {k : Nat}, k ≤ fromI t r → ∀ x ∈ r.take k, x.1 < t
  | [], k, _, x, hx => by simp at hx
  | a :: r, 0, _, x, hx => by simp at hx
  | a :: r, k + 1, h, x, hx => by
    unfold fromI at h
    rw [List.takeWhile_cons] at h
    split at h
    · rename_i hc
      rw [List.take_succ_cons] at hx
      rcases List.mem_cons.1 hx with h1 | h1
      · rw [h1]; simpa using hc
      · rw [List.length_cons] at h
        exact takeWhile_low (k := k) (show k ≤ fromI t r by unfold fromI; omega) x h1
    · simp at h
theorem HorI.drop {ret t b : Int} {ts : List Int} {H : Hd} (h : HorI ret ts t H) (hb : b ≤ t - ret) : HorI ret ts t (H.drop b) where
  retE := h.retE
  newE := h.newE
  ss := by
    rcases h.ss with ⟨e, h1⟩ | ⟨d, hd, h1, h2⟩
    · refine .inl ⟨e, ?_⟩
      show H.ss.map _ = []
      rw [h1]; rfl
    · refine .inr ⟨d + dropI b ((ts.drop d).map smpA), ?_, ?_, fun x hx => ?_⟩
      · have : dropI b ((ts.drop d).map smpA) ≤ ((ts.drop d).map smpA).length - 1 := Nat.min_le_right _ _
        simp only [List.length_map, List.length_drop] at this
        omega
      · show H.ss.map _ = _
        rw [h1]
        show [(lblA, dropRow b ((ts.drop d).map smpA))] = _
        unfold dropRow
        rw [← List.map_drop, List.drop_drop]
      · rw [List.take_add] at hx
        rcases List.mem_append.1 hx with h3 | h3
        · exact h2 x h3
        · have h4 : smpA x ∈ ((ts.drop d).map smpA).take (dropI b ((ts.drop d).map smpA)) := by
            rw [← List.map_take]
            exact List.mem_map.2 ⟨x, h3, rfl⟩
          have h5 := takeWhile_low (Nat.min_le_left _ _) _ h4
          have h6 : x < b := h5
          omega
theorem HorI.sel {ret t : Int} {ts : List Int} {H : Hd} (h : HorI ret ts t H) (ho : TimesOk ts t) (hr : 0 ≤ ret ∧ ret ≤ 1000) (hn : ts ≠ []) (hb : t ≤ 100000) :
    H.sel (fun _ => true) (-9007199254740992) 9007199254740992 = [(lblA, (ts.filter fun x => decide (t - ret ≤ x)).map fun x => (x, onesB))] := by
  have h2 := ho.last hn
  have hmem := List.mem_of_getLast? h2
  have hpos : 1 ≤ t := (ho.lo t hmem).1
  have hz := h.hz hr hn hpos
  rcases h.ss with ⟨e, -⟩ | ⟨d, hd, h1, h3⟩
  · exact absurd e hn
  · have hsel : selP ((ts.drop d).map smpA) (t - ret) 9007199254740992 = (ts.filter fun x => decide (t - ret ≤ x)).map fun x => (x, onesB) := by
      unfold selP
      rw [List.filter_map, List.map_map]
      have e1 : ts.filter (fun x => decide (t - ret ≤ x)) = (ts.drop d).filter fun x => decide (t - ret ≤ x) := by
        conv => lhs; rw [← List.take_append_drop d ts]
        rw [List.filter_append]
        have : (ts.take d).filter (fun x => decide (t - ret ≤ x)) = [] := by
          rw [List.filter_eq_nil_iff]
          intro x hx
          have := h3 x hx
          simp; omega
        rw [this, List.nil_append]
      rw [e1]
      have e2 : (ts.drop d).filter ((fun x : HSmp => decide (t - ret ≤ x.1) && decide (x.1 ≤ 9007199254740992) && !x.2.2) ∘ smpA) = (ts.drop d).filter fun x => decide (t - ret ≤ x) := by
        refine List.filter_congr fun x hx => ?_
        have := (ho.lo x (List.mem_of_mem_drop hx)).2
        have h4 : x ≤ 9007199254740992 := by omega
        simp [smpA, h4]
        exact decide_eq_decide.2 Iff.rfl
      rw [e2]
      rfl
    unfold Hd.sel
    rw [h1, hz]
    have em : max (-9007199254740992) (t - ret) = t - ret := by omega
    rw [em]
    have hne : (selP ((ts.drop d).map smpA) (t - ret) 9007199254740992).isEmpty = false := by
      rw [hsel, List.isEmpty_eq_false_iff]
      intro e
      have h5 : (t, onesB) ∈ (ts.filter fun x => decide (t - ret ≤ x)).map fun x => (x, onesB) := List.mem_map.2 ⟨t, List.mem_filter.2 ⟨hmem, by simp; omega⟩, rfl⟩
      rw [e] at h5
      cases h5
    simp only [List.filterMap_cons, List.filterMap_nil, selS, hne, Bool.not_false, Bool.and_self, if_true]
    rw [hsel]
/-- how many of the first k are kept -/
def cnt (p : Int → Bool) (ts : List Int) (k : Nat) : Nat := ((ts.take k).filter p).length
theorem cnt_all (p : Int → Bool) (ts : List Int) : cnt p ts ts.length = (ts.filter p).length := by unfold cnt; rw [List.take_length]
theorem cnt_succ {p : Int → Bool} {ts : List Int} {k : Nat} {x : Int} (h : ts[k]? = some x) : cnt p ts (k + 1) = cnt p ts k + if p x then 1 else 0 := by
  obtain ⟨h1, h2⟩ := List.getElem?_eq_some_iff.1 h
  unfold cnt
  rw [List.take_add_one, h, List.filter_append, List.length_append]
  cases hp : p x <;> simp [hp]
theorem cnt_get {p : Int → Bool} {ts : List Int} {k : Nat} {x : Int} (h : ts[k]? = some x) (hp : p x = true) : (ts.filter p)[cnt p ts k]? = some x := by
  obtain ⟨h1, h2⟩ := List.getElem?_eq_some_iff.1 h
  have e : ts = ts.take k ++ x :: ts.drop (k + 1) := by rw [← h2, List.getElem_cons_drop, List.take_append_drop]
  have e2 : ts.filter p = (ts.take k).filter p ++ x :: (ts.drop (k + 1)).filter p := by
    conv => lhs; rw [e]
    rw [List.filter_append, List.filter_cons_of_pos hp]
  rw [e2]
  unfold cnt
  rw [List.getElem?_append_right (Nat.le_refl _), Nat.sub_self]
  rfl
theorem cnt_le (p : Int → Bool) (ts : List Int) (k : Nat) : cnt p ts k ≤ k := by
  unfold cnt
  have := List.length_filter_le p (ts.take k)
  rw [List.length_take] at this
  omega
end Go.Proofs.YtbeeejpjnniejaaGreatDoor
