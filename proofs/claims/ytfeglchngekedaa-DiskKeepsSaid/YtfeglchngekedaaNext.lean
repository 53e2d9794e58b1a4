/- The walk of (*cutter).next. -/
import Derived.Test.YtfeglchngekedaaDo
namespace Go.Proofs.Ytfeglchngekedaa
open Go.RowKit Go.Shelf Go.Maps

theorem ret_int {a b : Int} (h : a = b) : Ending.returned (.int .i64 a) = Ending.returned (.int .i64 b) := by rw [h]
/-- a cutter over the numbers cs, in block g; they lie below block B -/
def CutAt (w : World) (B g : Nat) (cs : List Int) : Prop :=
  ∃ A c, Blk w g 77 #[.slice A cs.length c] ∧ cs.length ≤ c ∧ Reads w B 1 A cs.length (cs.map (Value.int .i64)) ∧ B ≤ g
def nextK (cs : List Int) (most : Int) : Int := match cs with
  | [] => 0
  | c :: _ => c % (most + 1)
theorem nextK_bd (cs : List Int) (most : Int) (h : 0 ≤ most) : 0 ≤ nextK cs most ∧ nextK cs most ≤ most := by
  unfold nextK
  split
  · omega
  · rename_i c _
    have h1 := Int.emod_lt_of_pos c (show 0 < most + 1 by omega)
    have h2 := Int.emod_nonneg c (show most + 1 ≠ 0 by omega)
    omega
theorem rem_facts (c b : Int) (hb : 1 ≤ b) : -b < c.tmod b ∧ c.tmod b < b ∧ (c.tmod b < 0 → c % b = c.tmod b + b) ∧ (0 ≤ c.tmod b → c % b = c.tmod b) := by
  have h1 := Int.tmod_lt_of_pos c (show 0 < b by omega)
  have h2 := Int.lt_tmod_of_pos c (show 0 < b by omega)
  refine ⟨h2, h1, fun h => ?_, fun h => ?_⟩
  · have h5 := Int.tmod_add_mul_tdiv c b
    have e : (c.tmod b + b) + b * (c.tdiv b - 1) = c := by rw [Int.mul_sub]; omega
    have e2 : c % b = ((c.tmod b + b) + b * (c.tdiv b - 1)) % b := by rw [e]
    rw [e2, Int.add_mul_emod_self_left, Int.emod_eq_of_lt (by omega) (by omega)]
  · have h5 := Int.tmod_add_mul_tdiv c b
    have e : c = c.tmod b + b * c.tdiv b := by omega
    have e2 : c % b = (c.tmod b + b * c.tdiv b) % b := by rw [← e]
    rw [e2, Int.add_mul_emod_self_left, Int.emod_eq_of_lt h h1]
theorem CutAt.grown {w w' : World} {B g : Nat} {cs : List Int} (h : CutAt w B g cs) {row : Option Nat} (hg : w.grownBy w' row) (hr : ∀ k, row = some k → B ≤ k ∧ k ≠ g) : CutAt w' B g cs := by
  obtain ⟨A, c, hb, hc, hR, hB⟩ := h
  refine ⟨A, c, hb.grown hg (fun e => (hr g e.symm).2 rfl), hc, ?_, hB⟩
  exact hR.grown hg (Nat.le_trans hB (Nat.le_of_lt hb.lt)) (fun k hk => (hr k hk).1)
theorem CutAt.below {w w' : World} {B g : Nat} {cs : List Int} (h : CutAt w B g cs) (hb : Below w.heap.size w w') : CutAt w' B g cs := h.grown (only_of_below hb none) (fun _ e => by cases e)
theorem CutAt.drewN {w : World} {B g : Nat} {cs : List Int} (h : CutAt w B g cs) (n : Nat) : CutAt (w.drewN n) B g cs := h
theorem CutAt.lt {w : World} {B g : Nat} {cs : List Int} (h : CutAt w B g cs) : g < w.heap.size := by obtain ⟨_, _, hb, _⟩ := h; exact hb.lt

set_option maxRecDepth 100000 in
set_option maxHeartbeats 3200000 in
theorem next_any (w : World) (B g : Nat) (cs : List Int) (most : Int) (h : CutAt w B g cs) (hm : 0 ≤ most) (hm2 : most ≤ 1000000000000) :
    Calls Try.prog 36 #[.pointer (some ⟨g, 0, none⟩), .int .i64 most] w fun e w' => e = .returned (.int .i64 (nextK cs most)) ∧ CutAt w' B g cs.tail ∧ w.grownBy w' (some g) := by
  obtain ⟨A, c, hb, hc, hR, hB⟩ := h
  have c0 : w.cell? ⟨g, 0, none⟩ = some (.slice A cs.length c) := hb.cell 0
  have f0 := hb.frozen 0
  have HBK := Lib.hid hb
  have HR := Lib.hid hR
  cases cs with
  | nil =>
    simp only [List.length_nil] at c0
    clear hb hR
    go_enter Try.func36, Try.ntmps36
    go_wp2
    go_ret
    exact ⟨rfl, ⟨A, c, HBK.out, hc, HR.out, hB⟩, only_refl _ _⟩
  | cons x r =>
    obtain ⟨⟨ga, oa, sa⟩, rfl, hga, hcell⟩ := hR.2 (by simp)
    have d0 : w.cell? ⟨ga, oa, sa⟩ = some (.int .i64 x) := by
      have := hcell 0 (.int .i64 x) rfl
      simpa [Addr.add] using this
    have HF := Lib.hid (rem_facts x (most + 1) (by omega))
    have hne : most + 1 ≠ 0 := by omega
    obtain ⟨k, hk⟩ : ∃ k, k = nextK (x :: r) most := ⟨_, rfl⟩
    have HK := Lib.hid (show k = x % (most + 1) from hk)
    rw [← hk]
    obtain ⟨n, hn⟩ : ∃ n, n = (x :: r).length := ⟨_, rfl⟩
    have hn1 : n = r.length + 1 := by rw [hn]; simp
    rw [← hn] at c0 hc
    have HN := Lib.hid hn1
    have hn0 : 1 ≤ n := by omega
    clear hb hR hcell hk hn hn1
    by_cases hc1 : c = 1
    · subst hc1
      obtain rfl : n = 1 := by omega
      obtain rfl : r = [] := List.eq_nil_of_length_eq_zero (by have := HN.out; omega)
      go_enter Try.func36, Try.ntmps36
      go_wp2
      all_goals
        refine bodyPost_ret (results_tmp rfl _ _ _) rfl ?_
        refine ⟨?_, ?_, ?_⟩
        · have h2 := HK.out
          obtain ⟨r1, r2, r3, r4⟩ := HF.out
          refine ret_int ?_
          generalize x.tmod (most + 1) = m at *
          generalize x % (most + 1) = j at *
          try unfold wrap64
          first
            | (have r5 := r3 (by omega); omega)
            | (have r5 := r4 (by omega); omega)
        · exact ⟨_, 0, HBK.out.set_ 0 _, Nat.le_refl _, ⟨rfl, fun h => absurd h (by simp)⟩, hB⟩
        · exact only_setCell (only_refl w (some g)) (.inl rfl) _
    · have hl : (x :: r).length - 1 = r.length := by simp
      have hl2 : n - 1 = r.length := by have := HN.out; omega
      have hcut := HR.out.cut (k := 1) (cap := c) (by simp) (by have := HN.out; simp; omega)
      rw [if_neg hc1, hl] at hcut
      have HCUT := Lib.hid hcut
      have HL2 := Lib.hid hl2
      clear hl hl2 hcut
      go_enter Try.func36, Try.ntmps36
      go_wp2
      all_goals
        refine bodyPost_ret (results_tmp rfl _ _ _) rfl ?_
        refine ⟨?_, ?_, ?_⟩
        · have h2 := HK.out
          obtain ⟨r1, r2, r3, r4⟩ := HF.out
          refine ret_int ?_
          generalize x.tmod (most + 1) = m at *
          generalize x % (most + 1) = j at *
          try unfold wrap64
          first
            | (have r5 := r3 (by omega); omega)
            | (have r5 := r4 (by omega); omega)
        · refine ⟨_, c - 1, by have hb := HBK.out.set_ 0 (.slice (some ⟨ga, oa + 1, none⟩) (n - 1) (c - 1)); rw [← HL2.out]; exact hb, by have := HL2.out; omega, ?_, hB⟩
          have h3 := HCUT.out.setCell (p := ⟨g, 0, none⟩) hB (.slice (some ⟨ga, oa + 1, none⟩) (n - 1) (c - 1))
          simpa [Addr.add] using h3
        · exact only_setCell (only_refl w (some g)) (.inl rfl) _
end Go.Proofs.Ytfeglchngekedaa
