/- The walk of (*Disk).Used. -/
import Derived.Maps.RangeWalk
import Derived.Test.YtfeglchngekedaaCreate
namespace Go.Proofs.Ytfeglchngekedaa
open Go.RowKit Go.Shelf Go.Maps

def usedS (s : DS) : Nat := (s.names.map fun x => (s.bytes x.2).length).sum
/-- what of it is still to come -/
def restS (f : Nat → Nat) (l : Dl) (left : Lit → Bool) : Nat := ((l.filter fun x => left (.string x.1)).map fun x => f x.2).sum
theorem restS_none (f : Nat → Nat) (l : Dl) (left : Lit → Bool) (h : ∀ k, left k = false) : restS f l left = 0 := by
  unfold restS
  rw [List.filter_eq_nil_iff.2 (fun x _ => by rw [h]; simp)]
  rfl
theorem restS_strike (f : Nat → Nat) : ∀ (l : Dl) (left : Lit → Bool) (s : Nm) (g : Nat), l.Pairwise (fun x y => x.1 ≠ y.1) → dget l s = some g → left (.string s) = true →
    restS f l left = f g + restS f l (fun z => left z && !z.sameKey (.string s))
  | [], _, _, _, _, h, _ => by cases h
  | x :: l, left, s, g, hp, h, hl => by
    rw [List.pairwise_cons] at hp
    by_cases e : x.1 = s
    · have hg : x.2 = g := by
        unfold dget at h
        rw [List.find?_cons_of_pos (by simp [e])] at h
        exact Option.some.inj h
      have hr : l.filter (fun x => left (.string x.1)) = l.filter (fun x => left (.string x.1) && !(Lit.string x.1).sameKey (.string s)) := by
        apply List.filter_congr
        intro y hy
        have : y.1 ≠ s := fun e2 => hp.1 y hy (e.trans e2.symm)
        simp [Lit.sameKey, this]
      unfold restS
      rw [List.filter_cons_of_pos (by rw [e]; exact hl), List.filter_cons_of_neg (by simp [Lit.sameKey, e]), ← hr]
      simp [hg]
    · have hd : dget l s = some g := by
        unfold dget at h ⊢
        rw [List.find?_cons_of_neg (by simp [e])] at h
        exact h
      have ih := restS_strike f l left s g hp.2 hd hl
      have hsk : (!(Lit.string x.1).sameKey (.string s)) = true := by simp [Lit.sameKey, e]
      unfold restS at ih ⊢
      cases hx : left (.string x.1)
      · rw [List.filter_cons_of_neg (by simp [hx]), List.filter_cons_of_neg (by simp [hx])]
        exact ih
      · rw [List.filter_cons_of_pos (p := fun x : Nm × Nat => left (.string x.1)) hx, List.filter_cons_of_pos (by simp only [hx, hsk, Bool.and_true])]
        simp only [List.map_cons, List.sum_cons]
        dsimp only at ih
        omega
theorem has_dirD (l : Dl) (s : Nm) : Maps.has (dirD l) (.string s) = (dget l s).isSome := by
  unfold dirD dget
  rw [Maps.has_eq]
  rw [List.any_map]
  have e : ((fun p : Lit × DataW Unit => p.1.sameKey (.string s)) ∘ encE) = fun x : Nm × Nat => x.1 == s := rfl
  rw [e, Option.isSome_map, List.isSome_find?]
theorem restS_all (f : Nat → Nat) (l : Dl) : restS f l (Maps.has (dirD l)) = (l.map fun x => f x.2).sum := by
  unfold restS
  rw [List.filter_eq_self.2]
  intro x hx
  rw [has_dirD]
  cases h : dget l x.1 with
  | some g => rfl
  | none => exact absurd rfl (dget_none.1 h x hx)

theorem inv_key (key : Value) (kl : Lit) (h : keyOf Try.prog 9 key = some kl) : ∃ x : ByteArray, key = .string x := by
  obtain ⟨s, e, _⟩ := WideMaps.string_of_keyOf Try.underlying9 h
  exact ⟨s, e⟩
theorem inv_ptr (v : Value) (y : DataW Unit × List MemPlace) (h : ptrElem v = some y) : ∃ c : Option Addr, v = .pointer c := by
  unfold ptrElem at h
  split at h
  · exact ⟨_, rfl⟩
  · exact ⟨_, rfl⟩
  · cases h

def UsedR (w : World) (s : DS) (acc : Value) (wr : World) : Prop :=
  ∃ (left : Lit → Bool) (cnt a : Nat), acc = .int .i64 (a : Int) ∧ wr.ranges Try.prog 9 ptrElem s.mn w.heap.size s.names.length (dirD s.names) left cnt ∧ a + restS (fun g => (s.bytes g).length) s.names left = usedS s ∧ Below w.heap.size w wr

theorem sum_le (l : List Nat) (B : Nat) (h : ∀ x ∈ l, x ≤ B) : l.sum ≤ l.length * B := by
  induction l with
  | nil => simp
  | cons a l ih =>
    have h1 := h a (by simp)
    have h2 := ih (fun x hx => h x (by simp [hx]))
    simp only [List.sum_cons, List.length_cons, Nat.succ_mul]
    omega
theorem used_le {w : World} {F : Nat → Prop} {p : Nat} {s : DS} (h : DiskAt w F p s) (ho : s.ops ≤ 1000000) : usedS s ≤ 1000000000000000 := by
  have h1 := sum_le (s.names.map fun x => (s.bytes x.2).length) (1000 * s.ops) (by
    intro n hn
    obtain ⟨x, hx, rfl⟩ := List.mem_map.1 hn
    exact (h.file x.2 (.inl ⟨x, hx, rfl⟩)).len)
  rw [List.length_map] at h1
  have h2 := h.namesL
  have h3 : s.names.length * (1000 * s.ops) ≤ 1000000 * (1000 * 1000000) := Nat.mul_le_mul (by omega) (by omega)
  unfold usedS
  omega

set_option maxRecDepth 100000 in
set_option maxHeartbeats 3200000 in
theorem used_any (w : World) (F : Nat → Prop) (p : Nat) (s : DS) (h : DiskAt w F p s) (ho : s.ops ≤ 1000000) :
    Calls Try.prog 26 #[.pointer (some ⟨p, 0, none⟩)] w fun e w' => e = .returned (.int .i64 (usedS s : Int)) ∧ Below w.heap.size w w' := by
  have hul := used_le h ho
  have hp := h.lt
  have hml := h.names.lt
  obtain ⟨-, -, c2, -, -, -, -, -⟩ := h.cells
  have H := Lib.hid h
  clear h
  go_enter Try.func26, Try.ntmps26
  go_wp2_with (at_range; refine wpList_range_own _ rfl _ 64 rfl 9 71 law9 Try.underlying64 ptrElem s.mn s.names.length (dirD s.names) rfl H.out.names ?_; intro w0 hrg0 hg0 hs0)
  go_frame
  have HR0 := Lib.hid hrg0
  have HG0 := Lib.hid hg0
  clear hrg0 hg0
  go_loopw [3] (fun acc wr => UsedR w s acc wr) (fun _ wr => wr.rangeLeft s.mn w.heap.size)
  case atStart => exact ⟨_, _, 0, rfl, HR0.out, by rw [restS_all]; simp [usedS], below_of_only HG0.out⟩
  case round =>
    obtain ⟨left, cnt, a, rfl, hrg, hsum, hb⟩ := hrel
    have HRG := Lib.hid hrg
    have HSUM := Lib.hid hsum
    have HB := Lib.hid hb
    have ha : a ≤ usedS s := by omega
    clear hrg hsum hb HR0 HG0
    go_wp2_with (at_next; refine wpList_next_ranges _ rfl _ rfl 9 law9 ptrElem Value.string Value.pointer inv_key inv_ptr s.mn w.heap.size s.names.length (dirD s.names) left cnt rfl HRG.out ?_ ?_)
    · intro _ hl0
      have HL0 := Lib.hid hl0
      clear hl0
      go_wp2
      go_ret
      refine ⟨?_, HB.out⟩
      have := HSUM.out
      rw [restS_none _ _ _ HL0.out] at this
      show Ending.returned (.int .i64 (a : Int)) = _
      rw [show a = usedS s by omega]
    · intro x c kl y1 y2 w1 cnt1 hkey hlx hR hat hrg1 hlt hg1 hs1 hen
      obtain ⟨x', e1, rfl, -⟩ := WideMaps.string_of_keyOf Try.underlying9 hkey
      obtain rfl : x = x' := by injection e1
      obtain ⟨g, hdg⟩ : ∃ g, dget s.names x.data.toList = some g := by
        cases hd : dget s.names x.data.toList with
        | some g => exact ⟨g, rfl⟩
        | none =>
          have h1 := hat .nil
          have h2 := hat (.lit (.bool true))
          rw [dirD_at, hd] at h1 h2
          rw [← h2] at h1
          cases h1
      have hc : c = some ⟨g, 0, none⟩ := by
        have h1 := hat .nil
        rw [dirD_at, hdg] at h1
        subst h1
        have := ptrElem_some hR
        injection this
      subst hc
      have hfile := H.out.file g (.inl ⟨_, dget_mem hdg, rfl⟩)
      have hgl := hfile.blk.lt
      have hb1 : Below w.heap.size w w1 := HB.out.grown hg1 HB.out.size (fun k hk => by cases hk; exact Nat.le_refl _)
      obtain ⟨A0, d0, hraw⟩ := own_slice hfile.row
      have q0 : w1.cell? ⟨g, 0, none⟩ = some (.slice A0 (s.bytes g).length d0) := by
        have := (hfile.blk.below hb1 hgl).cell 0
        rw [this]
        show some (s.raw g) = _
        rw [hraw]
      have hst := restS_strike (fun g => (s.bytes g).length) s.names left x.data.toList g H.out.names.tidy hdg hlx
      have hsm := HSUM.out
      have HRG1 := Lib.hid hrg1
      have HB1 := Lib.hid hb1
      have HST := Lib.hid (show a + (s.bytes g).length + restS (fun g => (s.bytes g).length) s.names (fun z => left z && !z.sameKey (.string x.data.toList)) = usedS s by omega)
      have hlen : a + (s.bytes g).length ≤ usedS s := by have := HST.out; omega
      clear hst hsm hkey hR hat hrg1 hb1 hfile hdg hlx hg1 hraw
      go_wp2
      refine ⟨⟨_, cnt1, a + (s.bytes g).length, by go_num, HRG1.out, HST.out, HB1.out⟩, ?_⟩
      rw [HRG1.out.left_eq, HRG.out.left_eq]
      exact hlt
end Go.Proofs.Ytfeglchngekedaa
