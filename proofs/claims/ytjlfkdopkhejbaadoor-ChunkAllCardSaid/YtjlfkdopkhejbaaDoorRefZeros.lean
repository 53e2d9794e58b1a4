/- The walk of the keep's own zeros: how many zeros lead, and trail. -/
import Derived.Test.YtjlfkdopkhejbaaDoorRefDod
namespace Go.Proofs.YtjlfkdopkhejbaaDoor
open Go.RowKit Go.Shelf Ck
attribute [local go_sem] frombits_call tobits_call run_store_float

theorem and_one (x k : Nat) (hx : x < 2 ^ 64) : bits BinOp.and IntKind.u64 ((x : Int) / 2 ^ k) 1 = ((x / 2 ^ k % 2 : Nat) : Int) := by
  have h3 : x / 2 ^ k < 18446744073709551616 := Nat.lt_of_le_of_lt (Nat.div_le_self _ _) hx
  have e1 : ((x : Int) / 2 ^ k) = ((x / 2 ^ k : Nat) : Int) := by norm_cast
  have e2 := u64_and_nat (x / 2 ^ k) 1 h3 (by omega)
  rw [show ((1 : Nat) : Int) = 1 from rfl] at e2
  rw [e1, e2, nat_mask1]

theorem lead_bit (x k : Nat) (h0 : x ≠ 0) (hx : x < 2 ^ 64) (hk : k ≤ clz x) : x / 2 ^ (63 - k) % 2 = if k < clz x then 0 else 1 := by
  obtain ⟨h1, h2⟩ := clz_spec x hx
  by_cases h : k < clz x
  · rw [if_pos h, Nat.div_eq_of_lt (Nat.lt_of_lt_of_le h1 (Nat.pow_le_pow_right (by omega) (by omega)))]
  · obtain rfl : k = clz x := by omega
    rw [if_neg h]
    have hc : clz x ≤ 63 := by
      rcases Nat.lt_or_ge (clz x) 64 with hlt | hge
      · omega
      · exfalso
        have e : 64 - clz x = 0 := by omega
        rw [e] at h1
        omega
    have hb : Lib.bitLen x = 64 - clz x := by
      have : Lib.bitLen x ≤ 64 := Lib.bitLen_le x 64 (by omega) hx
      unfold clz
      omega
    have hge : 2 ^ (63 - clz x) ≤ x := by
      rcases Nat.lt_or_ge x (2 ^ (63 - clz x)) with hlt | hge
      · have := Lib.bitLen_le x (63 - clz x) (by omega) hlt
        omega
      · exact hge
    have hlt : x < 2 * 2 ^ (63 - clz x) := by
      have e : 64 - clz x = 63 - clz x + 1 := by omega
      rw [e, Nat.pow_succ] at h1
      omega
    have e : x / 2 ^ (63 - clz x) = 1 := Nat.div_eq_of_lt_le (by omega) (by omega)
    rw [e]
theorem trail_bit (x k : Nat) (h0 : x ≠ 0) (hx : x < 2 ^ 64) (hk : k ≤ ctz x) : x / 2 ^ k % 2 = if k < ctz x then 0 else 1 := by
  obtain ⟨m, hm, -⟩ := Lib.ctzFrom_spec 64 x (by omega) hx
  have e : ctz x = Lib.ctzFrom 64 x := by simp [ctz, Lib.ctz, h0]
  rw [← e] at hm
  have key : ∀ c, x = 2 ^ c * (2 * m + 1) → k ≤ c → x / 2 ^ k % 2 = if k < c then 0 else 1 := by
    intro c hc hkc
    rw [hc]
    split
    · rename_i hlt
      obtain ⟨d, rfl⟩ : ∃ d, c = k + (d + 1) := ⟨c - k - 1, by omega⟩
      rw [Nat.pow_add, Nat.mul_assoc, Nat.mul_div_cancel_left _ (Nat.two_pow_pos k), Nat.pow_succ, Nat.mul_right_comm, Nat.mul_mod_left]
    · obtain rfl : k = c := by omega
      rw [Nat.mul_div_cancel_left _ (Nat.two_pow_pos k)]
      omega
  exact key _ hm hk

def ZRel (w : World) (m : Nat) (i : Value) (wr : World) : Prop := ∃ k : Nat, k ≤ m ∧ i = .int .i64 k ∧ wr = w

set_option maxRecDepth 100000 in
set_option maxHeartbeats 800000 in
theorem zeros_any (x : Nat) (w : World) (h0 : x ≠ 0) (hx : x < 2 ^ 64) :
    Calls Tryd.prog 41 #[.int .u64 (x : Int)] w fun e w' => e = .returned (.tuple #[.int .i64 (clz x : Nat), .int .i64 (ctz x : Nat)]) ∧ w = w' := by
  have hs := clz_ctz x h0 hx
  obtain ⟨C, hC⟩ : ∃ C, C = clz x := ⟨_, rfl⟩
  obtain ⟨T, hT⟩ : ∃ T, T = ctz x := ⟨_, rfl⟩
  have HL := Lib.hid (show ∀ k, k ≤ C → x / 2 ^ (63 - k) % 2 = if k < C then 0 else 1 by rw [hC]; exact fun k hk => lead_bit x k h0 hx hk)
  have HT := Lib.hid (show ∀ k, k ≤ T → x / 2 ^ k % 2 = if k < T then 0 else 1 by rw [hT]; exact fun k hk => trail_bit x k h0 hx hk)
  rw [← hC, ← hT] at hs ⊢
  clear hC hT h0
  go_enter Tryd.func41, Tryd.ntmps41
  go_wp2_with fail
  go_loopw [4] (fun i wr => ZRel w C i wr) (fun i _ => C - (intOf i).toNat)
  case atStart => exact ⟨0, Nat.zero_le _, rfl, rfl⟩
  case round =>
    obtain ⟨k, hk, rfl, rfl⟩ := hrel
    have hb := HL.out k hk
    have ha := and_one x (63 - k) hx
    rw [hb] at ha
    have ek : (63 - (k : Int)).toNat = 63 - k := by omega
    by_cases hlt : k < C
    · rw [if_pos hlt] at ha
      clear hb
      go_wp2
      exact ⟨⟨k + 1, by omega, by go_num, rfl⟩, by simp [intOf]; omega⟩
    · obtain rfl : k = C := by omega
      rw [if_neg (by omega)] at ha
      clear hb HL hlt
      go_wp2_with fail
      go_loopw [5] (fun i wr' => ZRel wr T i wr') (fun i _ => T - (intOf i).toNat)
      case atStart => exact ⟨0, Nat.zero_le _, rfl, rfl⟩
      case round =>
        obtain ⟨m, hm, rfl, rfl⟩ := hrel
        have hb := HT.out m hm
        have hc := and_one x m hx
        rw [hb] at hc
        by_cases hlt2 : m < T
        · rw [if_pos hlt2] at hc
          clear hb ha
          go_wp2
          exact ⟨⟨m + 1, by omega, by go_num, rfl⟩, by simp [intOf]; omega⟩
        · obtain rfl : m = T := by omega
          rw [if_neg (by omega)] at hc
          clear hb ha HT hlt2
          go_wp2
          go_ret2
          exact ⟨rfl, rfl⟩
end Go.Proofs.YtjlfkdopkhejbaaDoor
