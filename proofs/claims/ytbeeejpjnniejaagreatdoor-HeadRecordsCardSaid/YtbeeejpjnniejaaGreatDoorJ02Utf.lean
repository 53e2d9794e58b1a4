/- The document's test of one character (79), exactly. The document's tests of one label, exactly. The document's test of UTF-8 is Go's: each character as Go's decoder finds it. -/
import Derived.Test.YtbeeejpjnniejaaGreatDoorJ01Keep
import Derived.Lib.DecodeN
import Derived.Lib.TrimUEq
import Derived.Lib.ValidU
namespace Go.Proofs.YtbeeejpjnniejaaGreatDoor
open Go.RowKit
def utfT (s : ByteArray) (i : Nat) : Nat → Nat → Int → Option Int
  | 0, _, c => some c
  | f + 1, k, c => if h : i + k < s.size then (if s[i + k].toNat < 128 ∨ 192 ≤ s[i + k].toNat then none else utfT s i f (k + 1) (64 * c + (s[i + k].toNat : Int) - 128)) else none
def utfE (n : Nat) (least c : Int) : Nat := if c < least ∨ 1114111 < c ∨ (55296 ≤ c ∧ c ≤ 57343) then 0 else n
def utfG (s : ByteArray) (i n : Nat) (c least : Int) : Nat := if i + n ≤ s.size then (match utfT s i (n - 1) 1 c with | none => 0 | some c => utfE n least c) else 0
def utfX (s : ByteArray) (i x : Nat) : Nat :=
  if 240 ≤ x ∧ x < 248 then utfG s i 4 ((x : Int) - 240) 65536 else if 224 ≤ x ∧ x < 240 then utfG s i 3 ((x : Int) - 224) 2048 else if 192 ≤ x ∧ x < 224 then utfG s i 2 ((x : Int) - 192) 128 else if 128 ≤ x then 0 else utfG s i 1 (x : Int) 0
def utfN (s : ByteArray) (i : Nat) : Nat := if h : i < s.size then utfX s i s[i].toNat else 0
theorem utfE_le (n : Nat) (l c : Int) : utfE n l c ≤ n := by unfold utfE; split <;> omega
theorem utfG_le {s : ByteArray} {i n : Nat} {c l : Int} (hi : i < s.size) : i + utfG s i n c l ≤ s.size := by
  unfold utfG
  split
  · split
    · omega
    · rename_i c' _
      have := utfE_le n l c'
      omega
  · omega
theorem utfN_le {s : ByteArray} {i : Nat} (hi : i < s.size) : i + utfN s i ≤ s.size := by
  unfold utfN utfX
  rw [dif_pos hi]
  split
  · exact utfG_le hi
  · split
    · exact utfG_le hi
    · split
      · exact utfG_le hi
      · split
        · omega
        · exact utfG_le hi
def UtR (s : ByteArray) (i n : Nat) (c0 : Int) (c k : Value) : Prop :=
  ∃ (kk : Nat) (cc : Int), k = .int .i64 (kk : Int) ∧ c = .int .i64 cc ∧ 1 ≤ kk ∧ kk ≤ n ∧ 0 ≤ cc ∧ (kk = 1 → cc ≤ 127) ∧ (kk = 2 → cc ≤ 8191) ∧ (kk = 3 → cc ≤ 524287) ∧ cc ≤ 33554431 ∧ utfT s i (n - 1) 1 c0 = utfT s i (n - kk) kk cc
set_option maxRecDepth 100000 in
set_option maxHeartbeats 12800000 in
theorem utf8_any (s : ByteArray) (i : Nat) (w : World) (hs : s.size ≤ 9223372036854775000) (hi : i < s.size) : Calls Tryz.prog 264 #[.string s, .int .i64 (i : Int)] w fun e w' => e = .returned (.int .i64 ((utfN s i : Nat) : Int)) ∧ w = w' := by
  have hx : s[i].toNat < 256 := s[i].toNat_lt
  obtain ⟨x, hxe⟩ : ∃ x, x = s[i].toNat := ⟨_, rfl⟩
  have HX := Lib.hid hxe
  have HN := Lib.hid (show utfN s i = utfX s i x by unfold utfN; rw [dif_pos hi, hxe])
  rw [← hxe] at hx
  clear hxe
  go_enter Tryz.func264, Tryz.ntmps264
  go_upto_region 2 with fail
  rw [← HX.out]
  have ex2 : RowKit.wrap64 (x : Int) = (x : Int) := by unfold RowKit.wrap64; omega
  rw [ex2]
  clear ex2
  by_cases hc : 0 ≤ x ∧ x ≤ 127
  · obtain ⟨h1, h2⟩ := hc
    have f1 : ¬ (240 : Int) ≤ (x : Int) := by omega
    have f2 : ¬ (224 : Int) ≤ (x : Int) := by omega
    have f3 : ¬ (192 : Int) ≤ (x : Int) := by omega
    have f4 : ¬ (128 : Int) ≤ (x : Int) := by omega
    have f5 : (x : Int) < 248 := by omega
    have f6 : (x : Int) < 240 := by omega
    have f7 : (x : Int) < 224 := by omega
    have HNX := Lib.hid (show utfN s i = utfG s i 1 ((x : Int)) 0 by
      rw [HN.out]
      unfold utfX
      repeat (first | rw [if_pos (by omega)] | rw [if_neg (by omega)]))
    have s1 : IntKind.i64.wrap ((i : Int) + 1) = ((i + 1 : Nat) : Int) := (IntWalk.i64_in _ (by omega)).trans (by omega)
    by_cases hin : i + 1 ≤ s.size
    · have i1 : ¬ (s.size : Int) < ((i + 1 : Nat) : Int) := by omega
      have i2 : ¬ (s.size : Int) < (i : Int) + 1 := by omega
      have HI := Lib.hid (show UtR s i 1 ((x : Int)) (.int .i64 ((x : Int))) (.int .i64 1) from ⟨1, _, rfl, rfl, by omega, by omega, by omega, fun _ => by omega, fun _ => by omega, fun _ => by omega, by omega, rfl⟩)
      clear h1 h2 hx
      go_wp2_with fail
      go_loopw [7, 9] (fun c k wr => wr = w ∧ UtR s i 1 ((x : Int)) c k) (fun _ k _ => 1 - (intOf k).toNat)
      case atStart => exact ⟨rfl, HI.out⟩
      case round =>
        obtain ⟨rfl, kk, cc, rfl, rfl, hk1, hk2, hc0, hc1, hc2, hc3, hc4, hu⟩ := hrel
        have sk : IntKind.i64.wrap ((kk : Int) + 1) = ((kk + 1 : Nat) : Int) := (IntWalk.i64_in _ (by omega)).trans (by omega)
        by_cases hlt : kk < 1
        · have i3 : (kk : Int) < 1 := by omega
          have hcc : cc ≤ 524287 := by omega
          obtain ⟨ik, hik⟩ : ∃ ik, ik = i + kk := ⟨_, rfl⟩
          have hikl : ik < s.size := by omega
          have s2 : IntKind.i64.wrap ((i : Int) + (kk : Int)) = (ik : Int) := (IntWalk.i64_in _ (by omega)).trans (by omega)
          have s3 : (i : Int) + (kk : Int) = (ik : Int) := by omega
          have hy : s[ik].toNat < 256 := s[ik].toNat_lt
          obtain ⟨y, hye⟩ : ∃ y, y = s[ik].toNat := ⟨_, rfl⟩
          have HY := Lib.hid hye
          have HU := Lib.hid (show utfT s i (1 - 1) 1 ((x : Int)) = if y < 128 ∨ 192 ≤ y then none else utfT s i (1 - (kk + 1)) (kk + 1) (64 * cc + (y : Int) - 128) by
            rw [hu, show 1 - kk = (1 - (kk + 1)) + 1 by omega, utfT]
            subst hik
            rw [dif_pos hikl, ← hye])
          have HIN := Lib.hid hin
          rw [← hye] at hy
          clear hye hik hu hin
          go_upto_region 17 with fail
          rw [← HY.out]
          have ey2 : RowKit.wrap64 (y : Int) = (y : Int) := by unfold RowKit.wrap64; omega
          (try rw [ey2])
          clear ey2
          have m1 : IntKind.i64.wrap (64 * cc) = 64 * cc := IntWalk.i64_in _ (by omega)
          have m2 : IntKind.i64.wrap (64 * cc + (y : Int)) = 64 * cc + (y : Int) := IntWalk.i64_in _ (by omega)
          have m3 : IntKind.i64.wrap (64 * cc + (y : Int) - 128) = 64 * cc + (y : Int) - 128 := IntWalk.i64_in _ (by omega)
          by_cases hc1 : y < 128 ∨ 192 ≤ y
          · have HV := Lib.hid (show utfN s i = 0 by rw [HNX.out, utfG, if_pos HIN.out, HU.out, if_pos hc1])
            rcases hc1 with hc1 | hc1
            case' inl => have g1 : (y : Int) < 128 := by omega
            case' inr =>
              have g1 : ¬ (y : Int) < 128 := by omega
              have g2 : (192 : Int) ≤ (y : Int) := by omega
            all_goals
              clear m1 m2 m3
              go_wp2
              refine bodyPost_ret (results_tmp rfl _ _ _) rfl ?_
              exact ⟨by rw [HV.out]; rfl, rfl⟩
          · have g1 : ¬ (y : Int) < 128 := by omega
            have g2 : ¬ (192 : Int) ≤ (y : Int) := by omega
            have HU2 := Lib.hid (show utfT s i (1 - 1) 1 ((x : Int)) = utfT s i (1 - (kk + 1)) (kk + 1) (64 * cc + (y : Int) - 128) by rw [HU.out, if_neg hc1])
            have HCC := Lib.hid (show 0 ≤ 64 * cc + (y : Int) - 128 ∧ (kk + 1 = 1 → 64 * cc + (y : Int) - 128 ≤ 127) ∧ (kk + 1 = 2 → 64 * cc + (y : Int) - 128 ≤ 8191) ∧ (kk + 1 = 3 → 64 * cc + (y : Int) - 128 ≤ 524287) ∧ 64 * cc + (y : Int) - 128 ≤ 33554431 from ⟨by omega, fun _ => by omega, fun _ => by omega, fun _ => by omega, by omega⟩)
            go_wp2
            obtain ⟨a1, a2, a3, a4, a5⟩ := HCC.out
            exact ⟨⟨by first | rfl | trivial, kk + 1, _, rfl, rfl, by omega, by omega, a1, a2, a3, a4, a5, HU2.out⟩, by simp [intOf]; omega⟩
        · have i3 : ¬ (kk : Int) < 1 := by omega
          have hkn : kk = 1 := by omega
          have HV := Lib.hid (show utfN s i = utfE 1 0 cc by
            rw [HNX.out, utfG, if_pos hin, hu, hkn]; rfl)
          clear hu hkn hin
          go_wp2
          all_goals
            refine bodyPost_ret (results_tmp rfl _ _ _) rfl ?_
            refine ⟨?_, rfl⟩
            first
              | (rw [HV.out, utfE, if_pos (by omega)]; rfl)
              | (rw [HV.out, utfE, if_neg (by omega)]; rfl)
    · have HV := Lib.hid (show utfN s i = 0 by rw [HNX.out, utfG, if_neg hin])
      have i1 : (s.size : Int) < ((i + 1 : Nat) : Int) := by omega
      have i2 : (s.size : Int) < (i : Int) + 1 := by omega
      clear h1 h2 hx hin
      go_wp2
      refine bodyPost_ret (results_tmp rfl _ _ _) rfl ?_
      exact ⟨by rw [HV.out]; rfl, rfl⟩
  by_cases hc : 128 ≤ x ∧ x ≤ 191
  · obtain ⟨h1, h2⟩ := hc
    have f1 : ¬ (240 : Int) ≤ (x : Int) := by omega
    have f2 : ¬ (224 : Int) ≤ (x : Int) := by omega
    have f3 : ¬ (192 : Int) ≤ (x : Int) := by omega
    have f4 : (128 : Int) ≤ (x : Int) := by omega
    have f5 : (x : Int) < 248 := by omega
    have f6 : (x : Int) < 240 := by omega
    have f7 : (x : Int) < 224 := by omega
    have HV := Lib.hid (show utfN s i = 0 by
      rw [HN.out]
      unfold utfX
      repeat (first | rw [if_pos (by omega)] | rw [if_neg (by omega)]))
    clear h1 h2 hx
    go_wp2
    refine bodyPost_ret (results_tmp rfl _ _ _) rfl ?_
    exact ⟨by rw [HV.out]; rfl, rfl⟩
  by_cases hc : 192 ≤ x ∧ x ≤ 223
  · obtain ⟨h1, h2⟩ := hc
    have f1 : ¬ (240 : Int) ≤ (x : Int) := by omega
    have f2 : ¬ (224 : Int) ≤ (x : Int) := by omega
    have f3 : (192 : Int) ≤ (x : Int) := by omega
    have f4 : (128 : Int) ≤ (x : Int) := by omega
    have f5 : (x : Int) < 248 := by omega
    have f6 : (x : Int) < 240 := by omega
    have f7 : (x : Int) < 224 := by omega
    have HNX := Lib.hid (show utfN s i = utfG s i 2 ((x : Int) - 192) 128 by
      rw [HN.out]
      unfold utfX
      repeat (first | rw [if_pos (by omega)] | rw [if_neg (by omega)]))
    have s1 : IntKind.i64.wrap ((i : Int) + 2) = ((i + 2 : Nat) : Int) := (IntWalk.i64_in _ (by omega)).trans (by omega)
    have s0 : IntKind.i64.wrap ((x : Int) - 192) = (x : Int) - 192 := IntWalk.i64_in _ (by omega)
    by_cases hin : i + 2 ≤ s.size
    · have i1 : ¬ (s.size : Int) < ((i + 2 : Nat) : Int) := by omega
      have i2 : ¬ (s.size : Int) < (i : Int) + 2 := by omega
      have HI := Lib.hid (show UtR s i 2 ((x : Int) - 192) (.int .i64 ((x : Int) - 192)) (.int .i64 1) from ⟨1, _, rfl, rfl, by omega, by omega, by omega, fun _ => by omega, fun _ => by omega, fun _ => by omega, by omega, rfl⟩)
      clear h1 h2 hx
      go_wp2_with fail
      go_loopw [7, 9] (fun c k wr => wr = w ∧ UtR s i 2 ((x : Int) - 192) c k) (fun _ k _ => 2 - (intOf k).toNat)
      case atStart => exact ⟨rfl, HI.out⟩
      case round =>
        obtain ⟨rfl, kk, cc, rfl, rfl, hk1, hk2, hc0, hc1, hc2, hc3, hc4, hu⟩ := hrel
        have sk : IntKind.i64.wrap ((kk : Int) + 1) = ((kk + 1 : Nat) : Int) := (IntWalk.i64_in _ (by omega)).trans (by omega)
        by_cases hlt : kk < 2
        · have i3 : (kk : Int) < 2 := by omega
          have hcc : cc ≤ 524287 := by omega
          obtain ⟨ik, hik⟩ : ∃ ik, ik = i + kk := ⟨_, rfl⟩
          have hikl : ik < s.size := by omega
          have s2 : IntKind.i64.wrap ((i : Int) + (kk : Int)) = (ik : Int) := (IntWalk.i64_in _ (by omega)).trans (by omega)
          have s3 : (i : Int) + (kk : Int) = (ik : Int) := by omega
          have hy : s[ik].toNat < 256 := s[ik].toNat_lt
          obtain ⟨y, hye⟩ : ∃ y, y = s[ik].toNat := ⟨_, rfl⟩
          have HY := Lib.hid hye
          have HU := Lib.hid (show utfT s i (2 - 1) 1 ((x : Int) - 192) = if y < 128 ∨ 192 ≤ y then none else utfT s i (2 - (kk + 1)) (kk + 1) (64 * cc + (y : Int) - 128) by
            rw [hu, show 2 - kk = (2 - (kk + 1)) + 1 by omega, utfT]
            subst hik
            rw [dif_pos hikl, ← hye])
          have HIN := Lib.hid hin
          rw [← hye] at hy
          clear hye hik hu hin
          go_upto_region 17 with fail
          rw [← HY.out]
          have ey2 : RowKit.wrap64 (y : Int) = (y : Int) := by unfold RowKit.wrap64; omega
          (try rw [ey2])
          clear ey2
          have m1 : IntKind.i64.wrap (64 * cc) = 64 * cc := IntWalk.i64_in _ (by omega)
          have m2 : IntKind.i64.wrap (64 * cc + (y : Int)) = 64 * cc + (y : Int) := IntWalk.i64_in _ (by omega)
          have m3 : IntKind.i64.wrap (64 * cc + (y : Int) - 128) = 64 * cc + (y : Int) - 128 := IntWalk.i64_in _ (by omega)
          by_cases hc1 : y < 128 ∨ 192 ≤ y
          · have HV := Lib.hid (show utfN s i = 0 by rw [HNX.out, utfG, if_pos HIN.out, HU.out, if_pos hc1])
            rcases hc1 with hc1 | hc1
            case' inl => have g1 : (y : Int) < 128 := by omega
            case' inr =>
              have g1 : ¬ (y : Int) < 128 := by omega
              have g2 : (192 : Int) ≤ (y : Int) := by omega
            all_goals
              clear m1 m2 m3
              go_wp2
              refine bodyPost_ret (results_tmp rfl _ _ _) rfl ?_
              exact ⟨by rw [HV.out]; rfl, rfl⟩
          · have g1 : ¬ (y : Int) < 128 := by omega
            have g2 : ¬ (192 : Int) ≤ (y : Int) := by omega
            have HU2 := Lib.hid (show utfT s i (2 - 1) 1 ((x : Int) - 192) = utfT s i (2 - (kk + 1)) (kk + 1) (64 * cc + (y : Int) - 128) by rw [HU.out, if_neg hc1])
            have HCC := Lib.hid (show 0 ≤ 64 * cc + (y : Int) - 128 ∧ (kk + 1 = 1 → 64 * cc + (y : Int) - 128 ≤ 127) ∧ (kk + 1 = 2 → 64 * cc + (y : Int) - 128 ≤ 8191) ∧ (kk + 1 = 3 → 64 * cc + (y : Int) - 128 ≤ 524287) ∧ 64 * cc + (y : Int) - 128 ≤ 33554431 from ⟨by omega, fun _ => by omega, fun _ => by omega, fun _ => by omega, by omega⟩)
            go_wp2
            obtain ⟨a1, a2, a3, a4, a5⟩ := HCC.out
            exact ⟨⟨by first | rfl | trivial, kk + 1, _, rfl, rfl, by omega, by omega, a1, a2, a3, a4, a5, HU2.out⟩, by simp [intOf]; omega⟩
        · have i3 : ¬ (kk : Int) < 2 := by omega
          have hkn : kk = 2 := by omega
          have HV := Lib.hid (show utfN s i = utfE 2 128 cc by
            rw [HNX.out, utfG, if_pos hin, hu, hkn]; rfl)
          clear hu hkn hin
          go_wp2
          all_goals
            refine bodyPost_ret (results_tmp rfl _ _ _) rfl ?_
            refine ⟨?_, rfl⟩
            first
              | (rw [HV.out, utfE, if_pos (by omega)]; rfl)
              | (rw [HV.out, utfE, if_neg (by omega)]; rfl)
    · have HV := Lib.hid (show utfN s i = 0 by rw [HNX.out, utfG, if_neg hin])
      have i1 : (s.size : Int) < ((i + 2 : Nat) : Int) := by omega
      have i2 : (s.size : Int) < (i : Int) + 2 := by omega
      clear h1 h2 hx hin
      go_wp2
      refine bodyPost_ret (results_tmp rfl _ _ _) rfl ?_
      exact ⟨by rw [HV.out]; rfl, rfl⟩
  by_cases hc : 224 ≤ x ∧ x ≤ 239
  · obtain ⟨h1, h2⟩ := hc
    have f1 : ¬ (240 : Int) ≤ (x : Int) := by omega
    have f2 : (224 : Int) ≤ (x : Int) := by omega
    have f3 : (192 : Int) ≤ (x : Int) := by omega
    have f4 : (128 : Int) ≤ (x : Int) := by omega
    have f5 : (x : Int) < 248 := by omega
    have f6 : (x : Int) < 240 := by omega
    have f7 : ¬ (x : Int) < 224 := by omega
    have HNX := Lib.hid (show utfN s i = utfG s i 3 ((x : Int) - 224) 2048 by
      rw [HN.out]
      unfold utfX
      repeat (first | rw [if_pos (by omega)] | rw [if_neg (by omega)]))
    have s1 : IntKind.i64.wrap ((i : Int) + 3) = ((i + 3 : Nat) : Int) := (IntWalk.i64_in _ (by omega)).trans (by omega)
    have s0 : IntKind.i64.wrap ((x : Int) - 224) = (x : Int) - 224 := IntWalk.i64_in _ (by omega)
    by_cases hin : i + 3 ≤ s.size
    · have i1 : ¬ (s.size : Int) < ((i + 3 : Nat) : Int) := by omega
      have i2 : ¬ (s.size : Int) < (i : Int) + 3 := by omega
      have HI := Lib.hid (show UtR s i 3 ((x : Int) - 224) (.int .i64 ((x : Int) - 224)) (.int .i64 1) from ⟨1, _, rfl, rfl, by omega, by omega, by omega, fun _ => by omega, fun _ => by omega, fun _ => by omega, by omega, rfl⟩)
      clear h1 h2 hx
      go_wp2_with fail
      go_loopw [7, 9] (fun c k wr => wr = w ∧ UtR s i 3 ((x : Int) - 224) c k) (fun _ k _ => 3 - (intOf k).toNat)
      case atStart => exact ⟨rfl, HI.out⟩
      case round =>
        obtain ⟨rfl, kk, cc, rfl, rfl, hk1, hk2, hc0, hc1, hc2, hc3, hc4, hu⟩ := hrel
        have sk : IntKind.i64.wrap ((kk : Int) + 1) = ((kk + 1 : Nat) : Int) := (IntWalk.i64_in _ (by omega)).trans (by omega)
        by_cases hlt : kk < 3
        · have i3 : (kk : Int) < 3 := by omega
          have hcc : cc ≤ 524287 := by omega
          obtain ⟨ik, hik⟩ : ∃ ik, ik = i + kk := ⟨_, rfl⟩
          have hikl : ik < s.size := by omega
          have s2 : IntKind.i64.wrap ((i : Int) + (kk : Int)) = (ik : Int) := (IntWalk.i64_in _ (by omega)).trans (by omega)
          have s3 : (i : Int) + (kk : Int) = (ik : Int) := by omega
          have hy : s[ik].toNat < 256 := s[ik].toNat_lt
          obtain ⟨y, hye⟩ : ∃ y, y = s[ik].toNat := ⟨_, rfl⟩
          have HY := Lib.hid hye
          have HU := Lib.hid (show utfT s i (3 - 1) 1 ((x : Int) - 224) = if y < 128 ∨ 192 ≤ y then none else utfT s i (3 - (kk + 1)) (kk + 1) (64 * cc + (y : Int) - 128) by
            rw [hu, show 3 - kk = (3 - (kk + 1)) + 1 by omega, utfT]
            subst hik
            rw [dif_pos hikl, ← hye])
          have HIN := Lib.hid hin
          rw [← hye] at hy
          clear hye hik hu hin
          go_upto_region 17 with fail
          rw [← HY.out]
          have ey2 : RowKit.wrap64 (y : Int) = (y : Int) := by unfold RowKit.wrap64; omega
          (try rw [ey2])
          clear ey2
          have m1 : IntKind.i64.wrap (64 * cc) = 64 * cc := IntWalk.i64_in _ (by omega)
          have m2 : IntKind.i64.wrap (64 * cc + (y : Int)) = 64 * cc + (y : Int) := IntWalk.i64_in _ (by omega)
          have m3 : IntKind.i64.wrap (64 * cc + (y : Int) - 128) = 64 * cc + (y : Int) - 128 := IntWalk.i64_in _ (by omega)
          by_cases hc1 : y < 128 ∨ 192 ≤ y
          · have HV := Lib.hid (show utfN s i = 0 by rw [HNX.out, utfG, if_pos HIN.out, HU.out, if_pos hc1])
            rcases hc1 with hc1 | hc1
            case' inl => have g1 : (y : Int) < 128 := by omega
            case' inr =>
              have g1 : ¬ (y : Int) < 128 := by omega
              have g2 : (192 : Int) ≤ (y : Int) := by omega
            all_goals
              clear m1 m2 m3
              go_wp2
              refine bodyPost_ret (results_tmp rfl _ _ _) rfl ?_
              exact ⟨by rw [HV.out]; rfl, rfl⟩
          · have g1 : ¬ (y : Int) < 128 := by omega
            have g2 : ¬ (192 : Int) ≤ (y : Int) := by omega
            have HU2 := Lib.hid (show utfT s i (3 - 1) 1 ((x : Int) - 224) = utfT s i (3 - (kk + 1)) (kk + 1) (64 * cc + (y : Int) - 128) by rw [HU.out, if_neg hc1])
            have HCC := Lib.hid (show 0 ≤ 64 * cc + (y : Int) - 128 ∧ (kk + 1 = 1 → 64 * cc + (y : Int) - 128 ≤ 127) ∧ (kk + 1 = 2 → 64 * cc + (y : Int) - 128 ≤ 8191) ∧ (kk + 1 = 3 → 64 * cc + (y : Int) - 128 ≤ 524287) ∧ 64 * cc + (y : Int) - 128 ≤ 33554431 from ⟨by omega, fun _ => by omega, fun _ => by omega, fun _ => by omega, by omega⟩)
            go_wp2
            obtain ⟨a1, a2, a3, a4, a5⟩ := HCC.out
            exact ⟨⟨by first | rfl | trivial, kk + 1, _, rfl, rfl, by omega, by omega, a1, a2, a3, a4, a5, HU2.out⟩, by simp [intOf]; omega⟩
        · have i3 : ¬ (kk : Int) < 3 := by omega
          have hkn : kk = 3 := by omega
          have HV := Lib.hid (show utfN s i = utfE 3 2048 cc by
            rw [HNX.out, utfG, if_pos hin, hu, hkn]; rfl)
          clear hu hkn hin
          go_wp2
          all_goals
            refine bodyPost_ret (results_tmp rfl _ _ _) rfl ?_
            refine ⟨?_, rfl⟩
            first
              | (rw [HV.out, utfE, if_pos (by omega)]; rfl)
              | (rw [HV.out, utfE, if_neg (by omega)]; rfl)
    · have HV := Lib.hid (show utfN s i = 0 by rw [HNX.out, utfG, if_neg hin])
      have i1 : (s.size : Int) < ((i + 3 : Nat) : Int) := by omega
      have i2 : (s.size : Int) < (i : Int) + 3 := by omega
      clear h1 h2 hx hin
      go_wp2
      refine bodyPost_ret (results_tmp rfl _ _ _) rfl ?_
      exact ⟨by rw [HV.out]; rfl, rfl⟩
  by_cases hc : 240 ≤ x ∧ x ≤ 247
  · obtain ⟨h1, h2⟩ := hc
    have f1 : (240 : Int) ≤ (x : Int) := by omega
    have f2 : (224 : Int) ≤ (x : Int) := by omega
    have f3 : (192 : Int) ≤ (x : Int) := by omega
    have f4 : (128 : Int) ≤ (x : Int) := by omega
    have f5 : (x : Int) < 248 := by omega
    have f6 : ¬ (x : Int) < 240 := by omega
    have f7 : ¬ (x : Int) < 224 := by omega
    have HNX := Lib.hid (show utfN s i = utfG s i 4 ((x : Int) - 240) 65536 by
      rw [HN.out]
      unfold utfX
      repeat (first | rw [if_pos (by omega)] | rw [if_neg (by omega)]))
    have s1 : IntKind.i64.wrap ((i : Int) + 4) = ((i + 4 : Nat) : Int) := (IntWalk.i64_in _ (by omega)).trans (by omega)
    have s0 : IntKind.i64.wrap ((x : Int) - 240) = (x : Int) - 240 := IntWalk.i64_in _ (by omega)
    by_cases hin : i + 4 ≤ s.size
    · have i1 : ¬ (s.size : Int) < ((i + 4 : Nat) : Int) := by omega
      have i2 : ¬ (s.size : Int) < (i : Int) + 4 := by omega
      have HI := Lib.hid (show UtR s i 4 ((x : Int) - 240) (.int .i64 ((x : Int) - 240)) (.int .i64 1) from ⟨1, _, rfl, rfl, by omega, by omega, by omega, fun _ => by omega, fun _ => by omega, fun _ => by omega, by omega, rfl⟩)
      clear h1 h2 hx
      go_wp2_with fail
      go_loopw [7, 9] (fun c k wr => wr = w ∧ UtR s i 4 ((x : Int) - 240) c k) (fun _ k _ => 4 - (intOf k).toNat)
      case atStart => exact ⟨rfl, HI.out⟩
      case round =>
        obtain ⟨rfl, kk, cc, rfl, rfl, hk1, hk2, hc0, hc1, hc2, hc3, hc4, hu⟩ := hrel
        have sk : IntKind.i64.wrap ((kk : Int) + 1) = ((kk + 1 : Nat) : Int) := (IntWalk.i64_in _ (by omega)).trans (by omega)
        by_cases hlt : kk < 4
        · have i3 : (kk : Int) < 4 := by omega
          have hcc : cc ≤ 524287 := by omega
          obtain ⟨ik, hik⟩ : ∃ ik, ik = i + kk := ⟨_, rfl⟩
          have hikl : ik < s.size := by omega
          have s2 : IntKind.i64.wrap ((i : Int) + (kk : Int)) = (ik : Int) := (IntWalk.i64_in _ (by omega)).trans (by omega)
          have s3 : (i : Int) + (kk : Int) = (ik : Int) := by omega
          have hy : s[ik].toNat < 256 := s[ik].toNat_lt
          obtain ⟨y, hye⟩ : ∃ y, y = s[ik].toNat := ⟨_, rfl⟩
          have HY := Lib.hid hye
          have HU := Lib.hid (show utfT s i (4 - 1) 1 ((x : Int) - 240) = if y < 128 ∨ 192 ≤ y then none else utfT s i (4 - (kk + 1)) (kk + 1) (64 * cc + (y : Int) - 128) by
            rw [hu, show 4 - kk = (4 - (kk + 1)) + 1 by omega, utfT]
            subst hik
            rw [dif_pos hikl, ← hye])
          have HIN := Lib.hid hin
          rw [← hye] at hy
          clear hye hik hu hin
          go_upto_region 17 with fail
          rw [← HY.out]
          have ey2 : RowKit.wrap64 (y : Int) = (y : Int) := by unfold RowKit.wrap64; omega
          (try rw [ey2])
          clear ey2
          have m1 : IntKind.i64.wrap (64 * cc) = 64 * cc := IntWalk.i64_in _ (by omega)
          have m2 : IntKind.i64.wrap (64 * cc + (y : Int)) = 64 * cc + (y : Int) := IntWalk.i64_in _ (by omega)
          have m3 : IntKind.i64.wrap (64 * cc + (y : Int) - 128) = 64 * cc + (y : Int) - 128 := IntWalk.i64_in _ (by omega)
          by_cases hc1 : y < 128 ∨ 192 ≤ y
          · have HV := Lib.hid (show utfN s i = 0 by rw [HNX.out, utfG, if_pos HIN.out, HU.out, if_pos hc1])
            rcases hc1 with hc1 | hc1
            case' inl => have g1 : (y : Int) < 128 := by omega
            case' inr =>
              have g1 : ¬ (y : Int) < 128 := by omega
              have g2 : (192 : Int) ≤ (y : Int) := by omega
            all_goals
              clear m1 m2 m3
              go_wp2
              refine bodyPost_ret (results_tmp rfl _ _ _) rfl ?_
              exact ⟨by rw [HV.out]; rfl, rfl⟩
          · have g1 : ¬ (y : Int) < 128 := by omega
            have g2 : ¬ (192 : Int) ≤ (y : Int) := by omega
            have HU2 := Lib.hid (show utfT s i (4 - 1) 1 ((x : Int) - 240) = utfT s i (4 - (kk + 1)) (kk + 1) (64 * cc + (y : Int) - 128) by rw [HU.out, if_neg hc1])
            have HCC := Lib.hid (show 0 ≤ 64 * cc + (y : Int) - 128 ∧ (kk + 1 = 1 → 64 * cc + (y : Int) - 128 ≤ 127) ∧ (kk + 1 = 2 → 64 * cc + (y : Int) - 128 ≤ 8191) ∧ (kk + 1 = 3 → 64 * cc + (y : Int) - 128 ≤ 524287) ∧ 64 * cc + (y : Int) - 128 ≤ 33554431 from ⟨by omega, fun _ => by omega, fun _ => by omega, fun _ => by omega, by omega⟩)
            go_wp2
            obtain ⟨a1, a2, a3, a4, a5⟩ := HCC.out
            exact ⟨⟨by first | rfl | trivial, kk + 1, _, rfl, rfl, by omega, by omega, a1, a2, a3, a4, a5, HU2.out⟩, by simp [intOf]; omega⟩
        · have i3 : ¬ (kk : Int) < 4 := by omega
          have hkn : kk = 4 := by omega
          have HV := Lib.hid (show utfN s i = utfE 4 65536 cc by
            rw [HNX.out, utfG, if_pos hin, hu, hkn]; rfl)
          clear hu hkn hin
          go_wp2
          all_goals
            refine bodyPost_ret (results_tmp rfl _ _ _) rfl ?_
            refine ⟨?_, rfl⟩
            first
              | (rw [HV.out, utfE, if_pos (by omega)]; rfl)
              | (rw [HV.out, utfE, if_neg (by omega)]; rfl)
    · have HV := Lib.hid (show utfN s i = 0 by rw [HNX.out, utfG, if_neg hin])
      have i1 : (s.size : Int) < ((i + 4 : Nat) : Int) := by omega
      have i2 : (s.size : Int) < (i : Int) + 4 := by omega
      clear h1 h2 hx hin
      go_wp2
      refine bodyPost_ret (results_tmp rfl _ _ _) rfl ?_
      exact ⟨by rw [HV.out]; rfl, rfl⟩
  by_cases hc : 248 ≤ x ∧ x ≤ 255
  · obtain ⟨h1, h2⟩ := hc
    have f1 : (240 : Int) ≤ (x : Int) := by omega
    have f2 : (224 : Int) ≤ (x : Int) := by omega
    have f3 : (192 : Int) ≤ (x : Int) := by omega
    have f4 : (128 : Int) ≤ (x : Int) := by omega
    have f5 : ¬ (x : Int) < 248 := by omega
    have f6 : ¬ (x : Int) < 240 := by omega
    have f7 : ¬ (x : Int) < 224 := by omega
    have HV := Lib.hid (show utfN s i = 0 by
      rw [HN.out]
      unfold utfX
      repeat (first | rw [if_pos (by omega)] | rw [if_neg (by omega)]))
    clear h1 h2 hx
    go_wp2
    refine bodyPost_ret (results_tmp rfl _ _ _) rfl ?_
    exact ⟨by rw [HV.out]; rfl, rfl⟩
  exfalso
  omega
end Go.Proofs.YtbeeejpjnniejaaGreatDoor
namespace Go.Proofs.YtbeeejpjnniejaaGreatDoor
open Go.RowKit
def validF (s : ByteArray) : Nat → Nat → Bool
  | 0, _ => true
  | f + 1, k => if k < s.size then (if utfN s k = 0 then false else validF s f (k + utfN s k)) else true
def validB (s : ByteArray) : Bool := validF s (s.size + 1) 0
def VaR (s : ByteArray) (i : Value) : Prop := ∃ k f : Nat, k ≤ s.size ∧ i = .int .i64 k ∧ s.size < k + f ∧ validB s = validF s f k
set_option maxRecDepth 100000 in
theorem valid_any (s : ByteArray) (w : World) (hs : s.size ≤ 9223372036854775000) : Calls Tryz.prog 232 #[.string s] w fun e w' => e = .returned (.bool (validB s)) ∧ w = w' := by
  go_enter Tryz.func232, Tryz.ntmps232
  go_wp2_with fail
  go_loop [3] (fun i => VaR s i) (fun i => s.size - (intOf i).toNat)
  case atStart => exact ⟨0, s.size + 1, Nat.zero_le _, rfl, by omega, rfl⟩
  case round =>
    obtain ⟨k, f, hk, rfl, hf, hv⟩ := hrel
    by_cases hlt : k < s.size
    · obtain ⟨f, rfl⟩ : ∃ f', f = f' + 1 := ⟨f - 1, by omega⟩
      have hle := utfN_le hlt
      obtain ⟨r, hr⟩ : ∃ r, r = utfN s k := ⟨_, rfl⟩
      rw [validF, if_pos hlt, ← hr] at hv
      rw [← hr] at hle
      have HC := Lib.hid (show Calls Tryz.prog 264 #[.string s, .int .i64 (k : Int)] w fun e w' => e = .returned (.int .i64 (r : Int)) ∧ w = w' by rw [hr]; exact utf8_any s k w hs hlt)
      have i1 : (k : Int) < (s.size : Int) := by omega
      have HV := Lib.hid hv
      clear hv hr
      go_wp2_with fail
      refine HC.out.mono ?_
      rintro e w' ⟨rfl, rfl⟩
      by_cases hr0 : r = 0
      · have HV2 := Lib.hid (show validB s = false by rw [HV.out, if_pos hr0])
        subst hr0
        go_wp2
        refine bodyPost_ret (results_tmp rfl _ _ _) rfl ?_
        exact ⟨by rw [HV2.out]; rfl, rfl⟩
      · have HV2 := Lib.hid (show validB s = validF s f (k + r) by rw [HV.out, if_neg hr0])
        have hz : ((r : Int) == 0) = false := beq_eq_false_iff_ne.2 (by omega)
        have sk : IntKind.i64.wrap ((k : Int) + (r : Int)) = ((k + r : Nat) : Int) := (IntWalk.i64_in _ (by omega)).trans (by omega)
        go_wp2
        exact ⟨⟨k + r, f, by omega, rfl, by omega, HV2.out⟩, by simp [intOf]; omega⟩
    · have HV := Lib.hid (show validB s = true by
        rw [hv]
        cases f with
        | zero => rfl
        | succ f => rw [validF, if_neg hlt])
      clear hv
      obtain rfl : k = s.size := by omega
      go_wp2
      refine bodyPost_ret (results_tmp rfl _ _ _) rfl ?_
      exact ⟨by rw [HV.out]; rfl, rfl⟩
theorem rname_any (s : ByteArray) (w : World) (hs : s.size ≤ 9223372036854775807) : Calls Tryz.prog 184 #[.string s] w fun e w' => e = .returned (.bool (wordB s false)) ∧ w = w' := by
  go_enter Tryz.func184, Tryz.ntmps184
  go_wp2_with fail
  refine (word_any s false w hs).mono ?_
  rintro e w' ⟨rfl, rfl⟩
  go_wp2
  go_ret
  exact ⟨rfl, rfl⟩
theorem rmetric_any (s : ByteArray) (w : World) (hs : s.size ≤ 9223372036854775807) : Calls Tryz.prog 186 #[.string s] w fun e w' => e = .returned (.bool (wordB s true)) ∧ w = w' := by
  go_enter Tryz.func186, Tryz.ntmps186
  go_wp2_with fail
  refine (word_any s true w hs).mono ?_
  rintro e w' ⟨rfl, rfl⟩
  go_wp2
  go_ret
  exact ⟨rfl, rfl⟩
def valueB (s : ByteArray) : Bool := decide (s.size ≤ 1024) && validB s
theorem rvalue_any (s : ByteArray) (w : World) (hs : s.size ≤ 9223372036854775807) : Calls Tryz.prog 185 #[.string s] w fun e w' => e = .returned (.bool (valueB s)) ∧ w = w' := by
  by_cases h : s.size ≤ 1024
  · have HV := Lib.hid (show valueB s = validB s by unfold valueB; rw [decide_eq_true h]; rfl)
    have i1 : (s.size : Int) ≤ 1024 := by omega
    go_enter Tryz.func185, Tryz.ntmps185
    go_wp2_with fail
    refine (valid_any s w (by omega)).mono ?_
    rintro e w' ⟨rfl, rfl⟩
    go_wp2
    go_ret
    exact ⟨by rw [HV.out]; rfl, rfl⟩
  · have HV := Lib.hid (show valueB s = false by unfold valueB; rw [decide_eq_false h]; rfl)
    have i1 : ¬ (s.size : Int) ≤ 1024 := by omega
    go_enter Tryz.func185, Tryz.ntmps185
    go_wp2
    go_ret
    exact ⟨by rw [HV.out]; rfl, rfl⟩
abbrev nameL : List UInt8 := [95, 95, 110, 97, 109, 101, 95, 95]
def fairB (x y : ByteArray) : Bool := (wordB x false && valueB y) && ((!(x.toList == nameL) || y.toList == []) || wordB y true)
set_option maxHeartbeats 1600000 in
theorem fair_any (x y : ByteArray) (w : World) (hx : x.size ≤ 9223372036854775807) (hy : y.size ≤ 9223372036854775807) : Calls Tryz.prog 140 #[.agg #[.string x, .string y]] w fun e w' => e = .returned (.bool (fairB x y)) ∧ Below w.heap.size w w' := by
  obtain ⟨b1, hb1⟩ : ∃ b, b = wordB x false := ⟨_, rfl⟩
  obtain ⟨b2, hb2⟩ : ∃ b, b = valueB y := ⟨_, rfl⟩
  obtain ⟨b3, hb3⟩ : ∃ b, b = wordB y true := ⟨_, rfl⟩
  have C1 := Lib.hid (fun w => show Calls Tryz.prog 184 #[.string x] w fun e w' => e = .returned (.bool b1) ∧ w = w' by rw [hb1]; exact rname_any x w hx)
  have C2 := Lib.hid (fun w => show Calls Tryz.prog 185 #[.string y] w fun e w' => e = .returned (.bool b2) ∧ w = w' by rw [hb2]; exact rvalue_any y w hy)
  have C3 := Lib.hid (fun w => show Calls Tryz.prog 186 #[.string y] w fun e w' => e = .returned (.bool b3) ∧ w = w' by rw [hb3]; exact rmetric_any y w hy)
  have HF := Lib.hid (show fairB x y = ((b1 && b2) && ((!(x.toList == nameL) || y.toList == []) || b3)) by rw [hb1, hb2, hb3]; rfl)
  clear hb1 hb2 hb3
  go_enter Tryz.func140, Tryz.ntmps140
  go_wp2_with fail
  obtain ⟨w2, hw2⟩ : ∃ w2, w2 = w.alloc (.cells #[.string x, .string y] 55) := ⟨_, rfl⟩
  have hb : Below w.heap.size w w2 := by rw [hw2]; exact (Below.refl _ w).alloc (Nat.le_refl _) _
  have b0 : Blk w2 w.heap.size 55 #[.string x, .string y] := by rw [hw2]; exact Blk.new w 55 _
  have c0 : w2.cell? ⟨w.heap.size, 0, none⟩ = some (.string x) := b0.cell 0
  have c1 : w2.cell? ⟨w.heap.size, 1, none⟩ = some (.string y) := b0.cell 1
  rw [← hw2]
  have HB := Lib.hid hb
  clear hw2 hb b0
  refine (C1.out w2).mono ?_
  rintro e w' ⟨rfl, rfl⟩
  cases b1 with
  | false =>
    go_wp2
    go_ret
    exact ⟨by rw [HF.out]; rfl, HB.out⟩
  | true =>
    go_wp2_with fail
    refine (C2.out w2).mono ?_
    rintro e w' ⟨rfl, rfl⟩
    cases b2 with
    | false =>
      go_wp2
      go_ret
      exact ⟨by rw [HF.out]; rfl, HB.out⟩
    | true =>
      cases e1 : x.toList == [95, 95, 110, 97, 109, 101, 95, 95] with
      | false =>
        have HF2 := Lib.hid (show fairB x y = true by rw [HF.out]; rw [e1]; rfl)
        go_wp2
        go_ret
        exact ⟨by rw [HF2.out]; rfl, HB.out⟩
      | true =>
        cases e2 : y.toList == [] with
        | true =>
          have HF2 := Lib.hid (show fairB x y = true by rw [HF.out]; rw [e1, e2]; rfl)
          go_wp2
          go_ret
          exact ⟨by rw [HF2.out]; rfl, HB.out⟩
        | false =>
          have HF2 := Lib.hid (show fairB x y = b3 by rw [HF.out]; rw [e1, e2]; simp)
          go_wp2_with (go_at_call 186; refine (C3.out _).mono ?_; rintro e w' ⟨rfl, rfl⟩)
          go_ret
          exact ⟨by rw [HF2.out]; rfl, HB.out⟩
end Go.Proofs.YtbeeejpjnniejaaGreatDoor
namespace Go.Proofs.YtbeeejpjnniejaaGreatDoor
open Go.RowKit
theorem get_at (s : ByteArray) (i : Nat) (h : i < s.size) : s.get! i = s[i] := by
  cases s with
  | mk d => exact getElem!_pos d i h
theorem utfT_step (s : ByteArray) (i f k : Nat) (c : Int) (h : i + k < s.size) : utfT s i (f + 1) k c = if (s.get! (i + k)).toNat < 128 ∨ 192 ≤ (s.get! (i + k)).toNat then none else utfT s i f (k + 1) (64 * c + ((s.get! (i + k)).toNat : Int) - 128) := by
  rw [utfT, dif_pos h, get_at s _ h]
/-- what the document's answer says of what the decoder finds -/
def DecOk (d : Nat × Nat) (n : Nat) : Prop := (n = 0 → d = (65533, 1)) ∧ (n ≠ 0 → d.2 = n ∧ ¬ (d.1 = 65533 ∧ d.2 = 1))
set_option maxHeartbeats 3200000 in
theorem utfN_dec (s : ByteArray) (i : Nat) (hi : i < s.size) : DecOk (Utf8.decode s i) (utfN s i) := by
  rw [Lib.decode_at]
  unfold utfN
  rw [dif_pos hi]
  obtain ⟨x, hx⟩ : ∃ x, x = (s.get! i).toNat := ⟨_, rfl⟩
  have hx' : s[i].toNat = x := by rw [hx, get_at s i hi]
  rw [hx', ← hx]
  obtain ⟨b1, hb1⟩ : ∃ x, x = (s.get! (i + 1)).toNat := ⟨_, rfl⟩
  obtain ⟨b2, hb2⟩ : ∃ x, x = (s.get! (i + 2)).toNat := ⟨_, rfl⟩
  obtain ⟨b3, hb3⟩ : ∃ x, x = (s.get! (i + 3)).toNat := ⟨_, rfl⟩
  have t1 := fun f c (h : i + 1 < s.size) => utfT_step s i f 1 c h
  have t2 := fun f c (h : i + 2 < s.size) => utfT_step s i f 2 c h
  have t3 := fun f c (h : i + 3 < s.size) => utfT_step s i f 3 c h
  rw [← hb1] at t1 ⊢
  rw [← hb2] at t2 ⊢
  rw [← hb3] at t3 ⊢
  have hxl : x < 256 := by rw [hx]; exact (s.get! i).toNat_lt
  clear hx hx' hb1 hb2 hb3
  unfold utfX
  by_cases c1 : x < 128
  · repeat (first | rw [if_pos (by omega)] | rw [if_neg (by omega)])
    unfold utfG
    rw [if_pos (by omega)]
    unfold Lib.decodeN
    rw [if_pos c1]
    show DecOk (x, 1) (match utfT s i 0 1 (x : Int) with | none => 0 | some c => utfE 1 0 c)
    simp only [utfT]
    unfold utfE DecOk
    rw [if_neg (by omega)]
    exact ⟨by omega, fun _ => ⟨rfl, by simp; omega⟩⟩
  by_cases c2 : x < 192
  · repeat (first | rw [if_pos (by omega)] | rw [if_neg (by omega)])
    unfold Lib.decodeN
    repeat (first | rw [if_pos (by omega)] | rw [if_neg (by omega)])
    exact ⟨fun _ => rfl, fun h => absurd rfl h⟩
  by_cases c3 : x < 224
  · repeat (first | rw [if_pos (by omega)] | rw [if_neg (by omega)])
    unfold utfG
    by_cases h2 : i + 2 ≤ s.size
    · rw [if_pos h2]
      show DecOk _ (match utfT s i (0 + 1) 1 _ with | none => 0 | some c => utfE 2 128 c)
      rw [t1 _ _ (by omega)]
      by_cases d1 : b1 < 128 ∨ 192 ≤ b1
      · rw [if_pos d1]
        repeat (first | rw [if_pos (by omega)] | rw [if_neg (by omega)])
        unfold Lib.decodeN
        repeat (first | rw [if_pos (by omega)] | rw [if_neg (by omega)])
        exact ⟨fun _ => rfl, fun h => absurd rfl h⟩
      · rw [if_neg d1]
        repeat (first | rw [if_pos (by omega)] | rw [if_neg (by omega)])
        unfold Lib.decodeN
        repeat (first | rw [if_pos (by omega)] | rw [if_neg (by omega)])
        simp only [utfT]
        unfold utfE DecOk
        split <;> split <;> first | exact ⟨fun _ => rfl, fun h => absurd rfl h⟩ | exact ⟨fun h => by omega, fun _ => ⟨rfl, by simp⟩⟩ | (exfalso; omega)
    · rw [if_neg h2]
      repeat (first | rw [if_pos (by omega)] | rw [if_neg (by omega)])
      unfold Lib.decodeN
      repeat (first | rw [if_pos (by omega)] | rw [if_neg (by omega)])
      exact ⟨fun _ => rfl, fun h => absurd rfl h⟩
  by_cases c4 : x < 240
  · repeat (first | rw [if_pos (by omega)] | rw [if_neg (by omega)])
    unfold utfG
    by_cases h2 : i + 3 ≤ s.size
    · rw [if_pos h2]
      show DecOk _ (match utfT s i (0 + 1 + 1) 1 _ with | none => 0 | some c => utfE 3 2048 c)
      rw [t1 _ _ (by omega)]
      by_cases d1 : b1 < 128 ∨ 192 ≤ b1
      · rw [if_pos d1]
        repeat (first | rw [if_pos (by omega)] | rw [if_neg (by omega)])
        unfold Lib.decodeN
        repeat (first | rw [if_pos (by omega)] | rw [if_neg (by omega)])
        exact ⟨fun _ => rfl, fun h => absurd rfl h⟩
      · rw [if_neg d1]
        rw [t2 _ _ (by omega)]
        by_cases d2 : b2 < 128 ∨ 192 ≤ b2
        · rw [if_pos d2]
          repeat (first | rw [if_pos (by omega)] | rw [if_neg (by omega)])
          unfold Lib.decodeN
          repeat (first | rw [if_pos (by omega)] | rw [if_neg (by omega)])
          exact ⟨fun _ => rfl, fun h => absurd rfl h⟩
        · rw [if_neg d2]
          repeat (first | rw [if_pos (by omega)] | rw [if_neg (by omega)])
          unfold Lib.decodeN
          repeat (first | rw [if_pos (by omega)] | rw [if_neg (by omega)])
          simp only [utfT]
          unfold utfE DecOk
          split <;> split <;> first | exact ⟨fun _ => rfl, fun h => absurd rfl h⟩ | exact ⟨fun h => by omega, fun _ => ⟨rfl, by simp⟩⟩ | (exfalso; omega)
    · rw [if_neg h2]
      repeat (first | rw [if_pos (by omega)] | rw [if_neg (by omega)])
      unfold Lib.decodeN
      repeat (first | rw [if_pos (by omega)] | rw [if_neg (by omega)])
      exact ⟨fun _ => rfl, fun h => absurd rfl h⟩
  by_cases c5 : x < 248
  · repeat (first | rw [if_pos (by omega)] | rw [if_neg (by omega)])
    unfold utfG
    by_cases h2 : i + 4 ≤ s.size
    · rw [if_pos h2]
      show DecOk _ (match utfT s i (0 + 1 + 1 + 1) 1 _ with | none => 0 | some c => utfE 4 65536 c)
      rw [t1 _ _ (by omega)]
      by_cases d1 : b1 < 128 ∨ 192 ≤ b1
      · rw [if_pos d1]
        repeat (first | rw [if_pos (by omega)] | rw [if_neg (by omega)])
        unfold Lib.decodeN
        repeat (first | rw [if_pos (by omega)] | rw [if_neg (by omega)])
        exact ⟨fun _ => rfl, fun h => absurd rfl h⟩
      · rw [if_neg d1]
        rw [t2 _ _ (by omega)]
        by_cases d2 : b2 < 128 ∨ 192 ≤ b2
        · rw [if_pos d2]
          repeat (first | rw [if_pos (by omega)] | rw [if_neg (by omega)])
          unfold Lib.decodeN
          repeat (first | rw [if_pos (by omega)] | rw [if_neg (by omega)])
          exact ⟨fun _ => rfl, fun h => absurd rfl h⟩
        · rw [if_neg d2]
          rw [t3 _ _ (by omega)]
          by_cases d3 : b3 < 128 ∨ 192 ≤ b3
          · rw [if_pos d3]
            repeat (first | rw [if_pos (by omega)] | rw [if_neg (by omega)])
            unfold Lib.decodeN
            repeat (first | rw [if_pos (by omega)] | rw [if_neg (by omega)])
            exact ⟨fun _ => rfl, fun h => absurd rfl h⟩
          · rw [if_neg d3]
            repeat (first | rw [if_pos (by omega)] | rw [if_neg (by omega)])
            unfold Lib.decodeN
            repeat (first | rw [if_pos (by omega)] | rw [if_neg (by omega)])
            simp only [utfT]
            unfold utfE DecOk
            split <;> split <;> first | exact ⟨fun _ => rfl, fun h => absurd rfl h⟩ | exact ⟨fun h => by omega, fun _ => ⟨rfl, by simp⟩⟩ | (exfalso; omega)
    · rw [if_neg h2]
      repeat (first | rw [if_pos (by omega)] | rw [if_neg (by omega)])
      unfold Lib.decodeN
      repeat (first | rw [if_pos (by omega)] | rw [if_neg (by omega)])
      exact ⟨fun _ => rfl, fun h => absurd rfl h⟩
  repeat (first | rw [if_pos (by omega)] | rw [if_neg (by omega)])
  unfold Lib.decodeN
  repeat (first | rw [if_pos (by omega)] | rw [if_neg (by omega)])
  exact ⟨fun _ => rfl, fun h => absurd rfl h⟩
theorem valid_from (s : ByteArray) : ∀ (f k g : Nat), k ≤ s.size → s.size < k + f → s.size ≤ k + g → Lib.validGoD g (s.data.toList.drop k) = validF s f k
  | 0, k, g, hk, h, _ => by omega
  | f + 1, k, g, hk, h, hg => by
    have hl : s.data.toList.length = s.size := by simp
    by_cases hlt : k < s.size
    · obtain ⟨g, rfl⟩ : ∃ g', g = g' + 1 := ⟨g - 1, by omega⟩
      obtain ⟨h1, h2⟩ := utfN_dec s k hlt
      have hle := utfN_le hlt
      have hne : s.data.toList.drop k ≠ [] := fun e => by have := congrArg List.length e; rw [List.length_drop] at this; simp at this; omega
      rw [Lib.validGoD, validF, if_neg hne, if_pos hlt, Lib.decodeL_drop]
      by_cases hz : utfN s k = 0
      · rw [h1 hz, if_pos hz, if_pos ⟨rfl, rfl⟩]
      · obtain ⟨e1, e2⟩ := h2 hz
        rw [if_neg hz, if_neg e2, e1, List.drop_drop]
        exact valid_from s f (k + utfN s k) g hle (by omega) (by omega)
    · have hk2 : s.data.toList.drop k = [] := List.drop_of_length_le (by omega)
      rw [validF, if_neg hlt, hk2]
      cases g <;> rfl
theorem validD_eq (s : ByteArray) : Lib.validD s.data.toList = validB s := by
  have hl : s.data.toList.length = s.size := by simp
  have := valid_from s (s.size + 1) 0 s.data.toList.length (Nat.zero_le _) (by omega) (by omega)
  rw [List.drop_zero] at this
  exact this
end Go.Proofs.YtbeeejpjnniejaaGreatDoor
