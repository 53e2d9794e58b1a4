/- The walks of the program's right and of the document's Right. -/
import Derived.Test.YtfeglchngekedaaRight
namespace Go.Proofs.Ytfeglchngekedaa
open Go.RowKit Go.Shelf

def okB (b : Nat) : Bool := (decide (97 ≤ b) && decide (b ≤ 122)) || (decide (48 ≤ b) && decide (b ≤ 57)) || markB b
/-- is it a file's name -/
def rightB (s : ByteArray) : Bool := s.data.toList.all (fun b => okB b.toNat) && decide (1 ≤ s.size) && decide (s.size ≤ 64)

theorem take_snoc (s : ByteArray) (k : Nat) (h : k < s.size) : s.data.toList.take (k + 1) = s.data.toList.take k ++ [s[k]] := by
  rw [List.take_succ_eq_append_getElem (by simpa using h)]; rfl
theorem rightB_bad (s : ByteArray) (k : Nat) (h : k < s.size) (hb : okB s[k].toNat = false) : rightB s = false := by
  have : s.data.toList.all (fun b => okB b.toNat) = false := by
    rw [List.all_eq_false]
    refine ⟨s[k], ?_, by rw [hb]; simp⟩
    have : s[k] = s.data.toList[k]'(by simpa using h) := rfl
    rw [this]
    exact List.getElem_mem _
  simp [rightB, this]
theorem rightB_end (s : ByteArray) (h : (s.data.toList.take s.size).all (fun b => okB b.toNat) = true) : rightB s = (decide (1 ≤ s.size) && decide (s.size ≤ 64)) := by
  rw [List.take_of_length_le (by simp)] at h
  simp [rightB, h]
theorem all_snoc (s : ByteArray) (k : Nat) (h : k < s.size) (ha : (s.data.toList.take k).all (fun b => okB b.toNat) = true) (hb : okB s[k].toNat = true) : (s.data.toList.take (k + 1)).all (fun b => okB b.toNat) = true := by
  rw [take_snoc s k h, List.all_append, ha]
  simp [hb]

def RightR (w : World) (s : ByteArray) (i : Value) (wr : World) : Prop :=
  ∃ k q : Nat, k ≤ s.size ∧ i = .int .i64 k ∧ wr = w.drewN q ∧ (s.data.toList.take k).all (fun b => okB b.toNat) = true

set_option maxRecDepth 100000 in
set_option maxHeartbeats 3200000 in
theorem right_any (s : ByteArray) (w : World) (hs : s.size ≤ 9223372036854775807) : Calls Try.prog 33 #[.string s] w fun e w' => e = .returned (.bool (rightB s)) ∧ ∃ n, w' = w.drewN n := by
  go_enter Try.func33, Try.ntmps33
  go_wp2_with fail
  go_loopw [7] (fun i wr => RightR w s i wr) (fun i _ => s.size - (intOf i).toNat)
  case atStart => exact ⟨0, 0, Nat.zero_le _, rfl, rfl, rfl⟩
  case round =>
    obtain ⟨k, q, hk, rfl, hwr, hall⟩ := hrel
    have HWR := Lib.hid hwr
    have HA := Lib.hid hall
    clear hwr hall
    by_cases hlt : k < s.size
    · have hx : s[k].toNat < 256 := s[k].toNat_lt
      have HB := Lib.hid (rightB_bad s k hlt)
      have HS := Lib.hid (all_snoc s k hlt HA.out)
      obtain ⟨x, hxe⟩ : ∃ x, x = s[k].toNat := ⟨_, rfl⟩
      have HX := Lib.hid hxe
      rw [← hxe] at hx
      clear hxe
      go_upto_region 5 with fail
      rw [← HX.out]
      go_cut [32] from 13 to 32 (fun s32 wx => s32 = .bool (!okB x) ∧ ∃ q, wx = wr.drewN q)
      case first =>
        have hcase : (97 ≤ x ∧ x ≤ 122) ∨ (48 ≤ x ∧ x ≤ 57) ∨ x < 48 ∨ (58 ≤ x ∧ x < 97) ∨ 123 ≤ x := by omega
        rcases hcase with hc | hc | hc | hc | hc
        · obtain ⟨h1, h2⟩ := hc
          have hok : okB x = true := by unfold okB; simp [h1, h2]
          have g1 : (97 : Int) ≤ (x : Int) := by omega
          have g2 : (x : Int) ≤ 122 := by omega
          have HOK := Lib.hid hok
          clear hok h1 h2
          go_wp2
          go_meet
          exact ⟨by rw [HOK.out]; rfl, 0, rfl⟩
        · obtain ⟨h1, h2⟩ := hc
          have hok : okB x = true := by unfold okB; simp [h1, h2]
          have g1 : (48 : Int) ≤ (x : Int) := by omega
          have g2 : (x : Int) ≤ 57 := by omega
          have HOK := Lib.hid hok
          clear hok h1 h2
          go_wp2
          go_meet
          exact ⟨by rw [HOK.out]; rfl, 0, rfl⟩
        · have hok : okB x = markB x := by unfold okB; simp; omega
          have g1 : (x : Int) < 48 := by omega
          have HOK := Lib.hid hok
          clear hok hc
          go_wp2_with (go_at_call 67; refine (crune_any x wr hx).mono ?_; rintro e w' ⟨rfl, n, rfl⟩)
          go_meet
          exact ⟨by rw [HOK.out], n, rfl⟩
        · obtain ⟨h1, h2⟩ := hc
          have hok : okB x = markB x := by unfold okB; simp; omega
          have g1 : (58 : Int) ≤ (x : Int) := by omega
          have g2 : (x : Int) < 97 := by omega
          have HOK := Lib.hid hok
          clear hok h1 h2
          go_wp2_with (go_at_call 67; refine (crune_any x wr hx).mono ?_; rintro e w' ⟨rfl, n, rfl⟩)
          go_meet
          exact ⟨by rw [HOK.out]; simp [show (57 : Int) < (x : Int) by omega], n, rfl⟩
        · have hok : okB x = markB x := by unfold okB; simp; omega
          have g1 : (123 : Int) ≤ (x : Int) := by omega
          have HOK := Lib.hid hok
          clear hok hc
          go_wp2_with (go_at_call 67; refine (crune_any x wr hx).mono ?_; rintro e w' ⟨rfl, n, rfl⟩)
          go_meet
          exact ⟨by rw [HOK.out]; simp [show (57 : Int) < (x : Int) by omega, show (122 : Int) < (x : Int) by omega], n, rfl⟩
      obtain ⟨rfl, q2, hwc⟩ := hcut
      have HWC := Lib.hid hwc
      clear hwc
      cases hok : okB x with
      | true =>
        have HOK := Lib.hid hok
        clear hok
        go_wp2
        refine ⟨⟨k + 1, q + q2, by omega, by go_num, by rw [HWC.out, HWR.out]; exact World.drewN_drewN w _ _, HS.out (by rw [← HX.out]; exact HOK.out)⟩, by simp [intOf]; omega⟩
      | false =>
        have HOK := Lib.hid hok
        clear hok
        go_wp2
        refine bodyPost_ret (results_tmp rfl _ _ _) rfl ?_
        rw [HB.out (by rw [← HX.out]; exact HOK.out)]
        exact ⟨rfl, q + q2, by rw [HWC.out, HWR.out]; exact World.drewN_drewN w _ _⟩
    · obtain rfl : k = s.size := by omega
      have HE := Lib.hid (rightB_end s HA.out)
      clear HA hlt
      rcases Nat.eq_zero_or_pos s.size with h0 | h0
      · have hs0 : s = { data := #[] } := by
          obtain ⟨d⟩ := s
          have : d.size = 0 := h0
          rw [Array.eq_empty_of_size_eq_zero this]
        subst hs0
        go_wp2
        refine bodyPost_ret (results_tmp rfl _ _ _) rfl ?_
        rw [HE.out]
        exact ⟨rfl, q, HWR.out⟩
      · have e1 : s.toList.isEmpty = false := by
          rw [ByteArray.toList_eq, List.isEmpty_eq_false_iff]
          intro e
          have e3 : s.data.toList.length = 0 := by rw [e]; rfl
          rw [Array.length_toList] at e3
          have h2 : s.data.size = s.size := rfl
          omega
        have e2 : (!s.toList.isEmpty) = true := by rw [e1]; rfl
        have h3 : decide ((s.size : Int) ≤ 64) = decide (s.size ≤ 64) := by
          rcases Nat.lt_or_ge 64 s.size with h | h
          · rw [decide_eq_false (by omega), decide_eq_false (by omega)]
          · rw [decide_eq_true (by omega), decide_eq_true (by omega)]
        have H3 := Lib.hid h3
        clear h3
        go_wp2
        refine bodyPost_ret (results_tmp rfl _ _ _) rfl ?_
        rw [HE.out]
        refine ⟨?_, q, HWR.out⟩
        show Ending.returned (.bool (decide ((s.size : Int) ≤ 64))) = _
        rw [H3.out, decide_eq_true (show 1 ≤ s.size from h0)]
        rfl
end Go.Proofs.Ytfeglchngekedaa
