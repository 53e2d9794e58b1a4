/- The walk of the law DiskKeeps (function 3). -/
import Derived.Test.YtfeglchngekedaaBegins
namespace Go.Proofs.Ytfeglchngekedaa
open Go.RowKit Go.Shelf Go.Maps

theorem cut_list {w : World} {B n c : Nat} {A : Option Addr} {l : List UInt8} (h : Reads w B 1 A n (bytesV l)) (hc : n ≤ c) : ∃ k : List UInt8, k.length = min n 1000 ∧ Reads w B 1 A k.length (bytesV k) ∧ k.length ≤ 1000 ∧ k.length ≤ c := by
  have hl : l.length = n := by have := h.1; rw [bytesV_length] at this; omega
  have hk : (l.take (min n 1000)).length = min n 1000 := by rw [List.length_take]; omega
  refine ⟨l.take (min n 1000), hk, ?_, by omega, by omega⟩
  have := h.take (k := min n 1000) (Nat.min_le_left _ _)
  rw [show (bytesV l).take (min n 1000 * 1) = bytesV (l.take (min n 1000)) by unfold bytesV; rw [Nat.mul_one, List.map_take]] at this
  rw [hk]
  exact this

set_option maxRecDepth 100000 in
set_option maxHeartbeats 6400000 in
theorem keeps_any (w : World) (A1 A2 A3 : Option Addr) (n1 c1 n2 c2 c3 : Nat) (k1 m1 : List UInt8) (cs : List Int) (h1 : Reads w w.heap.size 1 A1 n1 (bytesV k1)) (hc1 : n1 ≤ c1) (hm1 : n1 ≤ 9223372036854775807)
    (h2 : Reads w w.heap.size 1 A2 n2 (bytesV m1)) (hc2 : n2 ≤ c2) (hm2 : n2 ≤ 9223372036854775807) (h3 : Reads w w.heap.size 1 A3 cs.length (cs.map (Value.int .i64))) (hc3 : cs.length ≤ c3) :
    Calls Try.prog 3 #[.slice A1 n1 c1, .slice A2 n2 c2, .slice A3 cs.length c3] w fun e w' => e = .returned (.bool true) ∧ Below w.heap.size w w' := by
  obtain ⟨k, hk, hkR, hk1, hk2⟩ := cut_list h1 hc1
  obtain ⟨m, hm, hmR, hm1', hm2'⟩ := cut_list h2 hc2
  have HK := Lib.hid hkR
  have HM := Lib.hid hmR
  have H3 := Lib.hid h3
  clear h1 h2 h3 hkR hmR
  obtain ⟨i5, hi5, hz50, hz51, hz52⟩ := info_parts info5
  have HI5 := Lib.hid hi5
  have HZ50 := Lib.hid hz50
  have HZ51 := Lib.hid hz51
  have HZ52 := Lib.hid hz52
  clear hi5 hz50 hz51 hz52
  go_enter Try.func3, Try.ntmps3
  go_upto_if 13 with (fail)
  go_cut [0] from 14 to 15 (fun s0 wx => w = wx ∧ s0 = .slice A1 k.length c1)
  case first =>
    by_cases hb : 1000 < n1
    case' pos =>
      have e1 : k.length = 1000 := by omega
      have e2 : 1000 ≤ c1 := by omega
    case' neg =>
      have e1 : k.length = n1 := by omega
    all_goals
      have E1 := Lib.hid e1
      clear hk e1
      go_wp2
      go_meet
      exact ⟨rfl, by rw [E1.out]⟩
  obtain ⟨rfl, rfl⟩ := hcut
  go_upto_if 18 with (fail)
  go_cut [1] from 19 to 20 (fun s1 wx => w = wx ∧ s1 = .slice A2 m.length c2)
  case first =>
    by_cases hb : 1000 < n2
    case' pos =>
      have e1 : m.length = 1000 := by omega
      have e2 : 1000 ≤ c2 := by omega
    case' neg =>
      have e1 : m.length = n2 := by omega
    all_goals
      have E1 := Lib.hid e1
      clear hm e1
      go_wp2
      go_meet
      exact ⟨rfl, by rw [E1.out]⟩
  obtain ⟨rfl, rfl⟩ := hcut
  clear hc1 hm1 hc2 hm2 hk hm
  go_wp2_with fail
  refine (new_any 4000 w (by omega)).mono ?_
  rintro e w1 ⟨p, mn, ms, rfl, hD1, hb1⟩
  have HD1 := Lib.hid hD1
  have HB1 := Lib.hid hb1
  have hs1 := hb1.size
  clear hD1 hb1
  go_wp2_with fail
  refine (create_any w1 _ p _ ⟨#[102]⟩ HD1.out (by decide) (by decide) (by show (0 : Nat) ≤ _; omega) (Nat.zero_le _)).mono ?_
  rintro e w2 hp2
  obtain ⟨rfl, s2, g, hD2, hC2, k2⟩ := kp_create hp2
  have HD2 := Lib.hid (hD2.inF (G := fun k => w.heap.size ≤ k) (fun k hk => by rcases hk with h | h <;> omega))
  have HB2 := Lib.hid (HB1.out.trans (hC2.toBelow (B := w.heap.size) (fun k hk => hk) (by omega)))
  have K2 := Lib.hid k2
  have hs2 := hC2.size
  clear hp2 hD2 hC2 k2
  have HA1 := Lib.hid (show 0 < k.length → ∀ ad, A1 = some ad → ¬ w.heap.size ≤ ad.block from fun h0 ad e => by
    obtain ⟨ad', e', h, -⟩ := HK.out.2 h0
    rw [e] at e'; injection e' with e'; rw [e']; omega)
  have HA2 := Lib.hid (show 0 < m.length → ∀ ad, A2 = some ad → ¬ w.heap.size ≤ ad.block from fun h0 ad e => by
    obtain ⟨ad', e', h, -⟩ := HM.out.2 h0
    rw [e] at e'; injection e' with e'; rw [e']; omega)
  go_wp2_with fail
  refine (append_any w2 _ p s2 ⟨#[102]⟩ _ c1 k HD2.out ((HK.out.below HB2.out).more (by omega)) HA1.out hk2 (by decide) (by decide) hk1 (by rw [K2.out.op]; omega) (by rw [K2.out.fl]; exact Nat.zero_le _)).mono ?_
  rintro e w3 hp3
  obtain ⟨rfl, s3, hD3, hC3, k3, -, -⟩ := kp_append K2.out (by simp; omega) hp3
  rw [List.nil_append] at k3
  have HD3 := Lib.hid (hD3.inF (G := fun k => w.heap.size ≤ k) (fun k hk => by rcases hk with h | h <;> omega))
  have HB3 := Lib.hid (HB2.out.trans (hC3.toBelow (B := w.heap.size) (fun k hk => hk) (by omega)))
  have K3 := Lib.hid k3
  have hs3 := hC3.size
  clear hp3 hD3 hC3 k3
  go_wp2_with fail
  refine (sync_any w3 _ p s3 ⟨#[102]⟩ HD3.out (by decide) (by decide) (by rw [K3.out.op]; omega) (by rw [K3.out.fl]; exact Nat.zero_le _)).mono ?_
  rintro e w4 hp4
  obtain ⟨rfl, s4, hD4, hC4, k4, -, -⟩ := kp_sync K3.out hp4
  have HD4 := Lib.hid (hD4.inF (G := fun k => w.heap.size ≤ k) (fun k hk => by rcases hk with h | h <;> omega))
  have HB4 := Lib.hid (HB3.out.trans (hC4.toBelow (B := w.heap.size) (fun k hk => hk) (by omega)))
  have K4 := Lib.hid k4
  have hs4 := hC4.size
  clear hp4 hD4 hC4 k4
  go_wp2_with fail
  refine (syncdir_any w4 _ p s4 HD4.out (by rw [K4.out.op]; omega) (by rw [K4.out.fl]; exact Nat.zero_le _)).mono ?_
  rintro e w5 hp5
  obtain ⟨rfl, s5, hD5, hC5, k5, hsafe5, hpend5⟩ := kp_syncdir K4.out hp5
  have HD5 := Lib.hid (hD5.inF (G := fun k => w.heap.size ≤ k) (fun k hk => by rcases hk with h | h <;> omega))
  have HB5 := Lib.hid (HB4.out.trans (hC5.toBelow (B := w.heap.size) (fun k hk => hk) (by omega)))
  have K5 := Lib.hid k5
  have HS5 := Lib.hid hsafe5
  have HP5 := Lib.hid hpend5
  have hs5 := hC5.size
  clear hp5 hD5 hC5 k5 hsafe5 hpend5
  go_wp2_with fail
  refine (append_any w5 _ p s5 ⟨#[102]⟩ _ c2 m HD5.out ((HM.out.below HB5.out).more (by omega)) HA2.out hm2' (by decide) (by decide) hm1' (by rw [K5.out.op]; omega) (by rw [K5.out.fl]; exact Nat.zero_le _)).mono ?_
  rintro e w6 hp6
  obtain ⟨rfl, s6, hD6, hC6, k6, hsafe6, hpend6⟩ := kp_append K5.out (by omega) hp6
  rw [HS5.out] at hsafe6
  rw [HP5.out] at hpend6
  have HD6 := Lib.hid (hD6.inF (G := fun k => w.heap.size ≤ k) (fun k hk => by rcases hk with h | h <;> omega))
  have HB6 := Lib.hid (HB5.out.trans (hC6.toBelow (B := w.heap.size) (fun k hk => hk) (by omega)))
  have K6 := Lib.hid k6
  have HS6 := Lib.hid hsafe6
  have HP6 := Lib.hid hpend6
  have hs6 := hC6.size
  clear hp6 hD6 hC6 k6 hsafe6 hpend6
  go_wp2_with fail
  refine (create_any w6 _ p s6 ⟨#[103]⟩ HD6.out (by decide) (by decide) (by rw [K6.out.op]; omega) (by rw [K6.out.fl]; exact Nat.zero_le _)).mono ?_
  rintro e w7 hp7
  obtain ⟨rfl, s7, g2, hD7, hC7, hby7, hkp7, hop7, hsafe7, hpend7⟩ := kp_other HD6.out K6.out hp7
  rw [HS6.out] at hsafe7
  rw [HP6.out, List.nil_append] at hpend7
  have HD7 := Lib.hid (hD7.inF (G := fun k => w.heap.size ≤ k) (fun k hk => by rcases hk with h | h <;> omega))
  have HB7 := Lib.hid (HB6.out.trans (hC7.toBelow (B := w.heap.size) (fun k hk => hk) (by omega)))
  have HBY7 := Lib.hid hby7
  have HKP7 := Lib.hid hkp7
  have HOP7 := Lib.hid hop7
  have HS7 := Lib.hid hsafe7
  have HP7 := Lib.hid hpend7
  have hs7 := hC7.size
  clear hp7 hD7 hC7 hby7 hkp7 hop7 hsafe7 hpend7
  go_wp2_with fail
  refine (crash_any w7 _ p s7 A3 c3 cs HD7.out ((H3.out.below HB7.out).more (by omega)) hc3 (by rw [HOP7.out]; omega) (by rw [HS7.out, HP7.out, HOP7.out]; simp)).mono ?_
  rintro e w8 hp8
  obtain ⟨rfl, s8, nn, hD8, hC8, hop8, hkn8, hrd8⟩ := crash_read hp8 ⟨#[102]⟩ right_f g (fun j => by rw [HP7.out]; exact keeps_dir HS7.out j)
  rw [HBY7.out] at hrd8
  rw [HKP7.out] at hkn8
  rw [HOP7.out] at hop8
  have HD8 := Lib.hid (hD8.inF (G := fun k => w.heap.size ≤ k) (fun k hk => by rcases hk with h | h <;> omega))
  have HB8 := Lib.hid (HB7.out.trans (hC8.toBelow (B := w.heap.size) (fun k hk => hk) (by omega)))
  have HOP8 := Lib.hid hop8
  have HRD8 := Lib.hid hrd8
  have hs8 := hC8.size
  clear hp8 hD8 hC8 hop8 hrd8
  go_wp2_with fail
  refine (read_any w8 _ p s8 ⟨#[102]⟩ HD8.out (by decide) (by decide) (by rw [HOP8.out]; omega)).mono ?_
  rintro e w9 ⟨v, rfl, hrow, hb9⟩
  rw [HRD8.out] at hrow ⊢
  obtain ⟨r, hr⟩ : ∃ r, r = (k ++ m).take nn := ⟨_, rfl⟩
  rw [← hr] at hrow ⊢
  have hrl : r.length ≤ k.length + m.length := by rw [hr, List.length_take, List.length_append]; omega
  have hkr : k.length ≤ r.length := by rw [hr, List.length_take, List.length_append]; omega
  have HRK := Lib.hid (show k = r.take k.length by rw [hr, List.take_take, Nat.min_eq_left hkn8, List.take_left])
  have HKR := Lib.hid (show r = (k ++ m).take r.length by rw [hr, List.length_take, List.take_eq_take_iff]; omega)
  clear hr
  obtain ⟨A9, d9, rfl⟩ := own_slice hrow
  have hrd9 := own_capv hrow
  have HR9 := Lib.hid (Reads.of_own hrow)
  have HB9 := Lib.hid (HB8.out.trans (hb9.mono (by omega)))
  have hs9 := hb9.size
  clear hrow hb9
  go_upto_region 10 with fail
  have hb10 : Below w9.heap.size w9 (w9.alloc (.cells #[] 5)) := (Below.refl _ w9).alloc (Nat.le_refl _) _
  have HR1 := Lib.hid (((HK.out.below HB9.out).more (B' := w9.heap.size) (by omega)).below hb10)
  have HB10 := Lib.hid (HB9.out.trans (hb10.mono (by omega)))
  have HOW := Lib.hid (World.ownsRow_lit (base := w9.heap.size) (e := 5) (size := 1) w9 #[] 0 (Nat.le_refl _) (Nat.zero_le _) rfl)
  clear hb10
  go_wp2_with (first
    | (at_builtin; (refine wpList_append_any _ rfl (.tmp 64) (.tmp 65) 22 rfl w9.heap.size 5 i5 (.int .u8 0) 1 1 Try.underlying22 HI5.out HZ50.out HZ51.out HZ52.out rfl (by omega) (.slice (some ⟨w9.heap.size, 0, none⟩) 0 0) 0 [] rfl HOW.out w9.heap.size A1 k.length c1 (bytesV k) rfl HR1.out (bytesV_one _) (by simp [maxLen]; omega) (by omega) (by simp) ?_; intro v4 w10 hown4 hgrow4 _; rw [Nat.zero_add, List.nil_append] at hown4; obtain ⟨A5, d5, hv5⟩ := own_slice hown4; subst hv5; have hs10 := hgrow4.size; rw [World.size_alloc] at hs10; have HW4 := Lib.hid hown4; have HB11 := Lib.hid (HB10.out.grown hgrow4 (by simp; omega) (fun k hk => by cases hk; show w.heap.size ≤ w9.heap.size; omega)); have HR2 := Lib.hid (HM.out.below HB11.out); have HR9b := Lib.hid ((HR9.out.alloc (Nat.le_refl _) (.cells #[] 5)).grown hgrow4 (by simp) (fun g hg => by cases hg; exact Nat.le_refl _)); clear hown4 hgrow4))
    | (at_builtin; (refine wpList_append_any _ rfl (.tmp 66) (.tmp 67) 22 rfl w9.heap.size 5 i5 (.int .u8 0) 1 1 Try.underlying22 HI5.out HZ50.out HZ51.out HZ52.out rfl (by omega) (.slice A5 k.length d5) k.length (bytesV k) rfl HW4.out w.heap.size A2 m.length c2 (bytesV m) rfl HR2.out (bytesV_one _) (by simp [maxLen]; omega) (by omega) (by omega) ?_; intro v6 w11 hown6 hgrow6 _; obtain ⟨A7, d7, hv7⟩ := own_slice hown6; subst hv7; have hs11 := hgrow6.size; have HW6 := Lib.hid hown6; have HB12 := Lib.hid (HB11.out.grown hgrow6 (by omega) (fun k hk => by have := (HW4.out.lt k hk).1; omega)); have HR9c := Lib.hid (HR9b.out.grown hgrow6 (by omega) (fun k hk => (HW4.out.lt k hk).1)); clear hown6 hgrow6)))
  have hc7 := own_capv HW6.out
  have hR7 := Reads.of_own HW6.out
  rw [show bytesV k ++ bytesV m = bytesV (k ++ m) by simp [bytesV]] at hR7
  have HR7 := Lib.hid hR7
  clear hR7
  refine (begins_any w11 (HK.out.below HB12.out) HR9c.out HRK.out hkr hrd9 (by simp [maxLen]; omega)).mono ?_
  rintro e w12 ⟨rfl, q1, rfl⟩
  go_wp2_with fail
  refine (begins_any (w11.drewN q1) (HR9c.out.drewN q1) (HR7.out.drewN q1) HKR.out hrl hc7 (by simp [maxLen]; omega)).mono ?_
  rintro e w13 ⟨rfl, q2, rfl⟩
  go_wp2_with fail
  refine (wakes_any _).mono ?_
  rintro e w14 ⟨rfl, hb14⟩
  have HB14 := Lib.hid ((below_drewN HB12.out (q1 + q2)).trans (hb14.mono (by have := HB12.out.size; show w.heap.size ≤ w11.heap.size; omega)))
  clear hb14
  go_wp2
  go_ret
  exact ⟨rfl, HB14.out⟩
end Go.Proofs.Ytfeglchngekedaa
