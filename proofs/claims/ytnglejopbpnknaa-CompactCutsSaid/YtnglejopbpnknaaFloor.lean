/- The walks of compact.Floor and of the law's wakes. -/
import Derived.Test.YtnglejopbpnknaaCollect
namespace Go.Proofs.Ytnglejopbpnknaa
open Go.RowKit Go.Shelf

def clampT (t : Int) : Int := min (max t (-9007199254740992)) 9007199254740992
theorem clampT_bd (t : Int) : -9007199254740992 ≤ clampT t ∧ clampT t ≤ 9007199254740992 := by unfold clampT; omega
def wideT (wd : Int) : Int := max wd 1
def floorZ (t wd : Int) : Int := clampT t - clampT t % wideT wd

theorem ret_int {a b : Int} (h : a = b) : Ending.returned (.int .i64 a) = Ending.returned (.int .i64 b) := by rw [h]
theorem within_any (t : Int) (w : World) : Calls Try.prog 34 #[.int .i64 t] w fun e w' => e = .returned (.int .i64 (clampT t)) ∧ w = w' := by
  go_enter Try.func34, Try.ntmps34
  go_wp2
  all_goals
    refine bodyPost_ret (results_tmp rfl _ _ _) rfl ?_
    refine ⟨ret_int ?_, rfl⟩
    unfold clampT
    first | omega | (split at * <;> omega)
theorem rem_facts (c b : Int) (hb : 1 ≤ b) : -b < c.tmod b ∧ c.tmod b < b ∧ (c.tmod b < 0 → c % b = c.tmod b + b) ∧ (0 ≤ c.tmod b → c % b = c.tmod b) := by
  have h1 := Int.tmod_lt_of_pos c (show 0 < b by omega)
  have h2 := Int.lt_tmod_of_pos c (show 0 < b by omega)
  refine ⟨h2, h1, fun h => ?_, fun h => ?_⟩
  · have h5 := Int.tmod_add_mul_tdiv c b
    have e : (c.tmod b + b) + b * (c.tdiv b - 1) = c := by rw [Int.mul_sub]; omega
    have e2 : c % b = ((c.tmod b + b) + b * (c.tdiv b - 1)) % b := by rw [e]
    rw [e2, Int.add_mul_emod_self_left, Int.emod_eq_of_lt (by omega) (by omega)]
  · have h5 := Int.tmod_add_mul_tdiv c b
    have e : c = c.tmod b + b * c.tdiv b := by omega
    have e2 : c % b = (c.tmod b + b * c.tdiv b) % b := by rw [← e]
    rw [e2, Int.add_mul_emod_self_left, Int.emod_eq_of_lt h h1]
theorem floor_ge (c b : Int) (hb : 9007199254740992 ≤ b) (hc : -9007199254740992 ≤ c) : -b ≤ c - c % b := by
  have h6 := Int.emod_add_mul_ediv c b
  have h7 : -1 ≤ c / b := Int.le_ediv_of_mul_le (by omega) (by omega)
  have h8 := Int.mul_le_mul_of_nonneg_left h7 (show 0 ≤ b by omega)
  omega
theorem floor_any (t wd : Int) (w : World) (hw : wd < 9223372036854775808) : Calls Try.prog 16 #[.int .i64 t, .int .i64 wd] w fun e w' => e = .returned (.int .i64 (floorZ t wd)) ∧ w = w' := by
  have hc := clampT_bd t
  have HF := Lib.hid (show floorZ t wd = clampT t - clampT t % wideT wd from rfl)
  have HR := Lib.hid (rem_facts (clampT t) (wideT wd) (by unfold wideT; omega))
  have HW := Lib.hid (show wideT wd = max wd 1 from rfl)
  generalize hcc : clampT t = c at *
  generalize hff : floorZ t wd = f at *
  generalize hbb : wideT wd = b at *
  have HG := Lib.hid (fun h => floor_ge c b h hc.1)
  clear hff hbb
  rcases Int.lt_or_le wd 1 with h | h
  case inl =>
    go_enter Try.func16, Try.ntmps16
    go_wp2_with fail
    refine (within_any t w).mono ?_
    rintro e w' ⟨rfl, rfl⟩
    rw [hcc]
    clear hcc
    go_wp2
    refine bodyPost_ret (results_tmp rfl _ _ _) rfl ?_
    refine ⟨ret_int ?_, rfl⟩
    have h1 := HW.out
    have h2 := HF.out
    have h3 : b = 1 := by omega
    rw [h3, Int.emod_one] at h2
    omega
  case inr =>
    have hne : wd ≠ 0 := by omega
    go_enter Try.func16, Try.ntmps16
    go_wp2_with fail
    refine (within_any t w).mono ?_
    rintro e w' ⟨rfl, rfl⟩
    rw [hcc]
    clear hcc
    go_wp2
    all_goals
      refine bodyPost_ret (results_tmp rfl _ _ _) rfl ?_
      refine ⟨ret_int ?_, rfl⟩
      have h1 := HW.out
      have h2 := HF.out
      have h3 : b = wd := by omega
      have h4 := HR.out
      have h6 := HG.out
      rw [h3] at h2 h4 h6
      obtain ⟨r1, r2, r3, r4⟩ := h4
      generalize c.tmod wd = m at *
      generalize c % wd = k at *
      unfold wrap64
      rcases Int.lt_or_le wd 9007199254740992 with hs | hs
      · first
          | (have r5 := r3 (by omega); omega)
          | (have r5 := r4 (by omega); omega)
      · have r6 := h6 hs
        first
          | (have r5 := r3 (by omega); omega)
          | (have r5 := r4 (by omega); omega)
end Go.Proofs.Ytnglejopbpnknaa
