/- The walk of the document's Right. -/
import Derived.Test.YtfeglchngekedaaName
namespace Go.Proofs.Ytfeglchngekedaa
open Go.RowKit Go.Shelf

def RRightR (s : ByteArray) (i : Value) : Prop := ∃ k : Nat, k ≤ s.size ∧ i = .int .i64 k ∧ (s.data.toList.take k).all (fun b => okB b.toNat) = true

set_option maxRecDepth 100000 in
set_option maxHeartbeats 3200000 in
theorem rright_any (s : ByteArray) (w : World) (hs : s.size ≤ 9223372036854775807) : Calls Try.prog 17 #[.string s] w fun e w' => e = .returned (.bool (rightB s)) ∧ w = w' := by
  go_enter Try.func17, Try.ntmps17
  go_wp2_with fail
  go_loop [3] (fun i => RRightR s i) (fun i => s.size - (intOf i).toNat)
  case atStart => exact ⟨0, Nat.zero_le _, rfl, rfl⟩
  case round =>
    obtain ⟨k, hk, rfl, hall⟩ := hrel
    have HA := Lib.hid hall
    clear hall
    by_cases hlt : k < s.size
    · have hx : s[k].toNat < 256 := s[k].toNat_lt
      have HB := Lib.hid (rightB_bad s k hlt)
      have HS := Lib.hid (all_snoc s k hlt HA.out)
      obtain ⟨x, hxe⟩ : ∃ x, x = s[k].toNat := ⟨_, rfl⟩
      have HX := Lib.hid hxe
      rw [← hxe] at hx
      clear hxe
      go_upto_region 5 with fail
      rw [← HX.out]
      go_cut [44] from 14 to 44 (fun s44 wx => s44 = .bool (!okB x) ∧ wx = w)
      case first =>
        have hcase : (97 ≤ x ∧ x ≤ 122) ∨ (48 ≤ x ∧ x ≤ 57) ∨ x < 48 ∨ (58 ≤ x ∧ x < 97) ∨ 123 ≤ x := by omega
        rcases hcase with hc | hc | hc | hc | hc
        · obtain ⟨h1, h2⟩ := hc
          have hok : okB x = true := by unfold okB; simp [h1, h2]
          have g1 : (97 : Int) ≤ (x : Int) := by omega
          have g2 : (x : Int) ≤ 122 := by omega
          have HOK := Lib.hid hok
          clear hok h1 h2
          go_wp2
          go_meet
          exact ⟨by rw [HOK.out]; rfl, rfl⟩
        · obtain ⟨h1, h2⟩ := hc
          have hok : okB x = true := by unfold okB; simp [h1, h2]
          have g1 : (48 : Int) ≤ (x : Int) := by omega
          have g2 : (x : Int) ≤ 57 := by omega
          have HOK := Lib.hid hok
          clear hok h1 h2
          go_wp2
          go_meet
          exact ⟨by rw [HOK.out]; rfl, rfl⟩
        all_goals
          have hok : okB x = markB x := by unfold okB; simp; omega
          have HOK := Lib.hid hok
          have hm : markB x = (((x : Int) == 46) || ((x : Int) == 47) || ((x : Int) == 45) || ((x : Int) == 95)) := by
            unfold markB
            have e : ∀ n : Nat, (x == n) = ((x : Int) == (n : Int)) := fun n => by
              rw [Bool.eq_iff_iff]; simp; omega
            rw [e 46, e 47, e 45, e 95]
            rfl
          have HM := Lib.hid hm
          clear hok hm
        case' inr.inr.inl => have g1 : (x : Int) < 48 := by omega
        case' inr.inr.inr.inl => have g1 : (58 : Int) ≤ (x : Int) := by omega
        case' inr.inr.inr.inl => have g2 : (x : Int) < 97 := by omega
        case' inr.inr.inr.inr => have g1 : (123 : Int) ≤ (x : Int) := by omega
        all_goals
          clear hc
          by_cases m1 : ((x : Int) == 46) = true
          · go_wp2
            go_meet
            exact ⟨by rw [HOK.out, HM.out, m1]; rfl, rfl⟩
          by_cases m2 : ((x : Int) == 47) = true
          · have m1' : ((x : Int) == 46) = false := by simpa using m1
            clear m1
            go_wp2
            go_meet
            exact ⟨by rw [HOK.out, HM.out, m1', m2]; rfl, rfl⟩
          by_cases m3 : ((x : Int) == 45) = true
          · have m1' : ((x : Int) == 46) = false := by simpa using m1
            have m2' : ((x : Int) == 47) = false := by simpa using m2
            clear m1 m2
            go_wp2
            go_meet
            exact ⟨by rw [HOK.out, HM.out, m1', m2', m3]; rfl, rfl⟩
          have m1' : ((x : Int) == 46) = false := by simpa using m1
          have m2' : ((x : Int) == 47) = false := by simpa using m2
          have m3' : ((x : Int) == 45) = false := by simpa using m3
          clear m1 m2 m3
          go_wp2
          go_meet
          refine ⟨by rw [HOK.out, HM.out, m1', m2', m3']; simp <;> omega, rfl⟩
      obtain ⟨rfl, hwc⟩ := hcut
      subst hwc
      cases hok : okB x with
      | true =>
        have HOK := Lib.hid hok
        clear hok
        go_wp2
        go_round
        case rel => exact ⟨k + 1, by omega, by go_num, HS.out (by rw [← HX.out]; exact HOK.out)⟩
        case measure => simp [intOf]; omega
      | false =>
        have HOK := Lib.hid hok
        clear hok
        go_wp2
        refine bodyPost_ret (results_tmp rfl _ _ _) rfl ?_
        rw [HB.out (by rw [← HX.out]; exact HOK.out)]
        exact ⟨rfl, rfl⟩
    · obtain rfl : k = s.size := by omega
      have HE := Lib.hid (rightB_end s HA.out)
      have h3 : (decide ((1 : Int) ≤ (s.size : Int)) && decide ((s.size : Int) ≤ 64)) = (decide (1 ≤ s.size) && decide (s.size ≤ 64)) := by
        rw [Bool.eq_iff_iff]; simp; omega
      have H3 := Lib.hid h3
      clear HA hlt h3
      rcases Nat.eq_zero_or_pos s.size with h0 | h0
      · have g0 : (s.size : Int) < 1 := by omega
        go_wp2
        refine bodyPost_ret (results_tmp rfl _ _ _) rfl ?_
        rw [HE.out, decide_eq_false (show ¬ 1 ≤ s.size by omega)]
        exact ⟨rfl, rfl⟩
      · have g0 : (1 : Int) ≤ (s.size : Int) := by omega
        go_wp2
        refine bodyPost_ret (results_tmp rfl _ _ _) rfl ?_
        rw [HE.out, ← H3.out, decide_eq_true g0]
        exact ⟨rfl, rfl⟩
end Go.Proofs.Ytfeglchngekedaa
