/- The walks of the document's Floor and of the keep's Ints and SpoilInts. -/
import Derived.BigQuiet
import Derived.Test.YtnglejopbpnknaaPlain
namespace Go.Proofs.Ytnglejopbpnknaa
open Go.RowKit Go.Shelf

theorem inside_any (t : Int) (w : World) : Calls Try.prog 38 #[.int .i64 t] w fun e w' => e = .returned (.int .i64 (clampT t)) ∧ w = w' := by
  rcases Int.lt_or_le t (-9007199254740992) with h | h
  · go_enter Try.func38, Try.ntmps38
    go_wp2
    go_ret
    exact ⟨ret_int (by unfold clampT; omega), rfl⟩
  · rcases Int.lt_or_le 9007199254740992 t with h2 | h2
    all_goals
      go_enter Try.func38, Try.ntmps38
      go_wp2
      refine bodyPost_ret (results_tmp rfl _ _ _) rfl ?_
      exact ⟨ret_int (by unfold clampT; omega), rfl⟩
theorem wide_any (t : Int) (w : World) : Calls Try.prog 37 #[.int .i64 t] w fun e w' => e = .returned (.int .i64 (wideT t)) ∧ w = w' := by
  rcases Int.lt_or_le t 1 with h | h
  all_goals
    go_enter Try.func37, Try.ntmps37
    go_wp2
    refine bodyPost_ret (results_tmp rfl _ _ _) rfl ?_
    exact ⟨ret_int (by unfold wideT; omega), rfl⟩
theorem floor39 (c b : Int) (w : World) (hc : -9007199254740992 ≤ c ∧ c ≤ 9007199254740992) (hb : 1 ≤ b) (hb2 : b < 9223372036854775808) :
    Calls Try.prog 39 #[.int .i64 c, .int .i64 b] w fun e w' => e = .returned (.int .i64 (c - c % b)) ∧ w = w' := by
  have HR := Lib.hid (rem_facts c b hb)
  have HG := Lib.hid (fun h => floor_ge c b h hc.1)
  obtain ⟨f, hf⟩ : ∃ f, f = c - c % b := ⟨_, rfl⟩
  have HF := Lib.hid hf
  rw [← hf]
  clear hf
  have hne : b ≠ 0 := by omega
  go_enter Try.func39, Try.ntmps39
  go_wp2
  all_goals
    refine bodyPost_ret (results_tmp rfl _ _ _) rfl ?_
    refine ⟨ret_int ?_, rfl⟩
    have h2 := HF.out
    have h4 := HR.out
    have h6 := HG.out
    obtain ⟨r1, r2, r3, r4⟩ := h4
    generalize c.tmod b = m at *
    generalize c % b = k at *
    unfold wrap64
    rcases Int.lt_or_le b 9007199254740992 with hs | hs
    · first
        | (have r5 := r3 (by omega); omega)
        | (have r5 := r4 (by omega); omega)
    · have r6 := h6 hs
      first
        | (have r5 := r3 (by omega); omega)
        | (have r5 := r4 (by omega); omega)
theorem rfloor_any (t wd : Int) (w : World) (hw : wd < 9223372036854775808) : Calls Try.prog 17 #[.int .i64 t, .int .i64 wd] w fun e w' => e = .returned (.int .i64 (floorZ t wd)) ∧ w = w' := by
  have hc := clampT_bd t
  have hb : 1 ≤ wideT wd ∧ wideT wd < 9223372036854775808 := by unfold wideT; omega
  have HF := Lib.hid (show floorZ t wd = clampT t - clampT t % wideT wd from rfl)
  go_enter Try.func17, Try.ntmps17
  go_wp2_with fail
  refine (inside_any t w).mono ?_
  rintro e w' ⟨rfl, rfl⟩
  go_wp2_with fail
  refine (wide_any wd w).mono ?_
  rintro e w' ⟨rfl, rfl⟩
  go_wp2_with fail
  refine (floor39 (clampT t) (wideT wd) w hc hb.1 hb.2).mono ?_
  rintro e w' ⟨rfl, rfl⟩
  go_wp2
  refine bodyPost_ret (results_tmp rfl _ _ _) rfl ?_
  exact ⟨ret_int HF.out.symm, rfl⟩

/-! ### are two lists alike? (asked at one list twice) -/
def IntsR (w : World) (n : Nat) (i : Value) (wr : World) : Prop := ∃ k q : Nat, k ≤ n ∧ i = .int .i64 k ∧ wr = w.drewN q

theorem Reads.int_at {w : World} {B n : Nat} {A : Option Addr} {l : List Int} (h : Reads w B 1 A n (l.map (Value.int .i64))) : 0 < n → ∃ ad, A = some ad ∧ ad.block < B ∧ ∀ k, k < n → w.cell? (ad.add k) = some (.int .i64 (l.getD k 0)) := by
  intro hn
  obtain ⟨ad, e, hb, hc⟩ := h.2 hn
  refine ⟨ad, e, hb, fun k hk => hc k _ ?_⟩
  have hl : k < l.length := by have := h.1; simp at this; omega
  rw [List.getElem?_map, List.getElem?_eq_getElem hl, List.getD, List.getElem?_eq_getElem hl]
  rfl
theorem Reads.len_int {w : World} {B n : Nat} {A : Option Addr} {l : List Int} (h : Reads w B 1 A n (l.map (Value.int .i64))) : l.length = n := by have := h.1; simpa using this

theorem ints_same (A A' : Option Addr) (n c c' : Nat) (l : List Int) (w : World) (h : Reads w w.heap.size 1 A n (l.map (Value.int .i64))) (h' : Reads w w.heap.size 1 A' n (l.map (Value.int .i64))) (hn : n ≤ 100000) :
    Calls Try.prog 14 #[.slice A n c, .slice A' n c'] w fun e w' => e = .returned (.bool true) ∧ ∃ q, w' = w.drewN q := by
  have H := Lib.hid h.int_at
  have H' := Lib.hid h'.int_at
  clear h h'
  go_enter Try.func14, Try.ntmps14
  go_wp2_with fail
  go_loopw [5] (fun i wr => IntsR w n i wr) (fun i _ => n - (intOf i).toNat)
  case atStart => exact ⟨0, 0, Nat.zero_le _, rfl, rfl⟩
  case round =>
    obtain ⟨k, q, hk, rfl, rfl⟩ := hrel
    by_cases hlt : k < n
    · obtain ⟨⟨g, o, s⟩, rfl, -, hc⟩ := H.out (by omega)
      obtain ⟨⟨g', o', s'⟩, rfl, -, hc'⟩ := H'.out (by omega)
      have c0 := hc k hlt
      have c1 := hc' k hlt
      clear hc hc'
      generalize l.getD k 0 = x at *
      go_wp2_with fail
      go_quiet (fail)
      go_wp2
      refine ⟨⟨k + 1, _, by omega, by go_num, rfl⟩, by simp [intOf]; omega⟩
    · go_wp2
      go_ret
      exact ⟨rfl, q, rfl⟩
end Go.Proofs.Ytnglejopbpnknaa
