/- The document's test of one character (79), exactly. The document's tests of one label, exactly. The document's test of a row of labels (19): it answers; where it says yes there are 64 at most. swapRange of smp (81). rotate of smp (73). -/
import Derived.Test.YtnglejopbpnknaaJ03InsSer
import Derived.Test.YtnglejopbpnknaaJ01Merge
import Derived.Test.YtnglejopbpnknaaJ02Floor
import Derived.Test.YtnglejopbpnknaaJ00Lib
import Derived.BigRegion
namespace Go.Proofs.Ytnglejopbpnknaa
open Go.RowKit
def utfT (s : ByteArray) (i : Nat) : Nat → Nat → Int → Option Int
  | 0, _, c => some c
  | f + 1, k, c => if h : i + k < s.size then (if s[i + k].toNat < 128 ∨ 192 ≤ s[i + k].toNat then none else utfT s i f (k + 1) (64 * c + (s[i + k].toNat : Int) - 128)) else none
def utfE (n : Nat) (least c : Int) : Nat := if c < least ∨ 1114111 < c ∨ (55296 ≤ c ∧ c ≤ 57343) then 0 else n
def utfG (s : ByteArray) (i n : Nat) (c least : Int) : Nat := if i + n ≤ s.size then (match utfT s i (n - 1) 1 c with | none => 0 | some c => utfE n least c) else 0
def utfX (s : ByteArray) (i x : Nat) : Nat :=
  if 240 ≤ x ∧ x < 248 then utfG s i 4 ((x : Int) - 240) 65536 else if 224 ≤ x ∧ x < 240 then utfG s i 3 ((x : Int) - 224) 2048 else if 192 ≤ x ∧ x < 224 then utfG s i 2 ((x : Int) - 192) 128 else if 128 ≤ x then 0 else utfG s i 1 (x : Int) 0
def utfN (s : ByteArray) (i : Nat) : Nat := if h : i < s.size then utfX s i s[i].toNat else 0
theorem utfE_le (n : Nat) (l c : Int) : utfE n l c ≤ n := by unfold utfE; split <;> omega
theorem utfG_le {s : ByteArray} {i n : Nat} {c l : Int} (hi : i < s.size) : i + utfG s i n c l ≤ s.size := by
  unfold utfG
  split
  · split
    · omega
    · rename_i c' _
      have := utfE_le n l c'
      omega
  · omega
theorem utfN_le {s : ByteArray} {i : Nat} (hi : i < s.size) : i + utfN s i ≤ s.size := by
  unfold utfN utfX
  rw [dif_pos hi]
  split
  · exact utfG_le hi
  · split
    · exact utfG_le hi
    · split
      · exact utfG_le hi
      · split
        · omega
        · exact utfG_le hi
def UtR (s : ByteArray) (i n : Nat) (c0 : Int) (c k : Value) : Prop :=
  ∃ (kk : Nat) (cc : Int), k = .int .i64 (kk : Int) ∧ c = .int .i64 cc ∧ 1 ≤ kk ∧ kk ≤ n ∧ 0 ≤ cc ∧ (kk = 1 → cc ≤ 127) ∧ (kk = 2 → cc ≤ 8191) ∧ (kk = 3 → cc ≤ 524287) ∧ cc ≤ 33554431 ∧ utfT s i (n - 1) 1 c0 = utfT s i (n - kk) kk cc
set_option maxRecDepth 100000 in
set_option maxHeartbeats 12800000 in
theorem utf8_any (s : ByteArray) (i : Nat) (w : World) (hs : s.size ≤ 9223372036854775000) (hi : i < s.size) : Calls Try.prog 79 #[.string s, .int .i64 (i : Int)] w fun e w' => e = .returned (.int .i64 ((utfN s i : Nat) : Int)) ∧ w = w' := by
  have hx : s[i].toNat < 256 := s[i].toNat_lt
  obtain ⟨x, hxe⟩ : ∃ x, x = s[i].toNat := ⟨_, rfl⟩
  have HX := Lib.hid hxe
  have HN := Lib.hid (show utfN s i = utfX s i x by unfold utfN; rw [dif_pos hi, hxe])
  rw [← hxe] at hx
  clear hxe
  go_enter Try.func79, Try.ntmps79
  go_upto_region 2 with fail
  rw [← HX.out]
  have ex2 : RowKit.wrap64 (x : Int) = (x : Int) := by unfold RowKit.wrap64; omega
  rw [ex2]
  clear ex2
  by_cases hc : 0 ≤ x ∧ x ≤ 127
  · obtain ⟨h1, h2⟩ := hc
    have f1 : ¬ (240 : Int) ≤ (x : Int) := by omega
    have f2 : ¬ (224 : Int) ≤ (x : Int) := by omega
    have f3 : ¬ (192 : Int) ≤ (x : Int) := by omega
    have f4 : ¬ (128 : Int) ≤ (x : Int) := by omega
    have f5 : (x : Int) < 248 := by omega
    have f6 : (x : Int) < 240 := by omega
    have f7 : (x : Int) < 224 := by omega
    have HNX := Lib.hid (show utfN s i = utfG s i 1 ((x : Int)) 0 by
      rw [HN.out]
      unfold utfX
      repeat (first | rw [if_pos (by omega)] | rw [if_neg (by omega)]))
    have s1 : IntKind.i64.wrap ((i : Int) + 1) = ((i + 1 : Nat) : Int) := (IntWalk.i64_in _ (by omega)).trans (by omega)
    by_cases hin : i + 1 ≤ s.size
    · have i1 : ¬ (s.size : Int) < ((i + 1 : Nat) : Int) := by omega
      have i2 : ¬ (s.size : Int) < (i : Int) + 1 := by omega
      have HI := Lib.hid (show UtR s i 1 ((x : Int)) (.int .i64 ((x : Int))) (.int .i64 1) from ⟨1, _, rfl, rfl, by omega, by omega, by omega, fun _ => by omega, fun _ => by omega, fun _ => by omega, by omega, rfl⟩)
      clear h1 h2 hx
      go_wp2_with fail
      go_loopw [7, 9] (fun c k wr => wr = w ∧ UtR s i 1 ((x : Int)) c k) (fun _ k _ => 1 - (intOf k).toNat)
      case atStart => exact ⟨rfl, HI.out⟩
      case round =>
        obtain ⟨rfl, kk, cc, rfl, rfl, hk1, hk2, hc0, hc1, hc2, hc3, hc4, hu⟩ := hrel
        have sk : IntKind.i64.wrap ((kk : Int) + 1) = ((kk + 1 : Nat) : Int) := (IntWalk.i64_in _ (by omega)).trans (by omega)
        by_cases hlt : kk < 1
        · have i3 : (kk : Int) < 1 := by omega
          have hcc : cc ≤ 524287 := by omega
          obtain ⟨ik, hik⟩ : ∃ ik, ik = i + kk := ⟨_, rfl⟩
          have hikl : ik < s.size := by omega
          have s2 : IntKind.i64.wrap ((i : Int) + (kk : Int)) = (ik : Int) := (IntWalk.i64_in _ (by omega)).trans (by omega)
          have s3 : (i : Int) + (kk : Int) = (ik : Int) := by omega
          have hy : s[ik].toNat < 256 := s[ik].toNat_lt
          obtain ⟨y, hye⟩ : ∃ y, y = s[ik].toNat := ⟨_, rfl⟩
          have HY := Lib.hid hye
          have HU := Lib.hid (show utfT s i (1 - 1) 1 ((x : Int)) = if y < 128 ∨ 192 ≤ y then none else utfT s i (1 - (kk + 1)) (kk + 1) (64 * cc + (y : Int) - 128) by
            rw [hu, show 1 - kk = (1 - (kk + 1)) + 1 by omega, utfT]
            subst hik
            rw [dif_pos hikl, ← hye])
          have HIN := Lib.hid hin
          rw [← hye] at hy
          clear hye hik hu hin
          go_upto_region 17 with fail
          rw [← HY.out]
          have ey2 : RowKit.wrap64 (y : Int) = (y : Int) := by unfold RowKit.wrap64; omega
          (try rw [ey2])
          clear ey2
          have m1 : IntKind.i64.wrap (64 * cc) = 64 * cc := IntWalk.i64_in _ (by omega)
          have m2 : IntKind.i64.wrap (64 * cc + (y : Int)) = 64 * cc + (y : Int) := IntWalk.i64_in _ (by omega)
          have m3 : IntKind.i64.wrap (64 * cc + (y : Int) - 128) = 64 * cc + (y : Int) - 128 := IntWalk.i64_in _ (by omega)
          by_cases hc1 : y < 128 ∨ 192 ≤ y
          · have HV := Lib.hid (show utfN s i = 0 by rw [HNX.out, utfG, if_pos HIN.out, HU.out, if_pos hc1])
            rcases hc1 with hc1 | hc1
            case' inl => have g1 : (y : Int) < 128 := by omega
            case' inr =>
              have g1 : ¬ (y : Int) < 128 := by omega
              have g2 : (192 : Int) ≤ (y : Int) := by omega
            all_goals
              clear m1 m2 m3
              go_wp2
              refine bodyPost_ret (results_tmp rfl _ _ _) rfl ?_
              exact ⟨by rw [HV.out]; rfl, rfl⟩
          · have g1 : ¬ (y : Int) < 128 := by omega
            have g2 : ¬ (192 : Int) ≤ (y : Int) := by omega
            have HU2 := Lib.hid (show utfT s i (1 - 1) 1 ((x : Int)) = utfT s i (1 - (kk + 1)) (kk + 1) (64 * cc + (y : Int) - 128) by rw [HU.out, if_neg hc1])
            have HCC := Lib.hid (show 0 ≤ 64 * cc + (y : Int) - 128 ∧ (kk + 1 = 1 → 64 * cc + (y : Int) - 128 ≤ 127) ∧ (kk + 1 = 2 → 64 * cc + (y : Int) - 128 ≤ 8191) ∧ (kk + 1 = 3 → 64 * cc + (y : Int) - 128 ≤ 524287) ∧ 64 * cc + (y : Int) - 128 ≤ 33554431 from ⟨by omega, fun _ => by omega, fun _ => by omega, fun _ => by omega, by omega⟩)
            go_wp2
            obtain ⟨a1, a2, a3, a4, a5⟩ := HCC.out
            exact ⟨⟨by first | rfl | trivial, kk + 1, _, rfl, rfl, by omega, by omega, a1, a2, a3, a4, a5, HU2.out⟩, by simp [intOf]; omega⟩
        · have i3 : ¬ (kk : Int) < 1 := by omega
          have hkn : kk = 1 := by omega
          have HV := Lib.hid (show utfN s i = utfE 1 0 cc by
            rw [HNX.out, utfG, if_pos hin, hu, hkn]; rfl)
          clear hu hkn hin
          go_wp2
          all_goals
            refine bodyPost_ret (results_tmp rfl _ _ _) rfl ?_
            refine ⟨?_, rfl⟩
            first
              | (rw [HV.out, utfE, if_pos (by omega)]; rfl)
              | (rw [HV.out, utfE, if_neg (by omega)]; rfl)
    · have HV := Lib.hid (show utfN s i = 0 by rw [HNX.out, utfG, if_neg hin])
      have i1 : (s.size : Int) < ((i + 1 : Nat) : Int) := by omega
      have i2 : (s.size : Int) < (i : Int) + 1 := by omega
      clear h1 h2 hx hin
      go_wp2
      refine bodyPost_ret (results_tmp rfl _ _ _) rfl ?_
      exact ⟨by rw [HV.out]; rfl, rfl⟩
  by_cases hc : 128 ≤ x ∧ x ≤ 191
  · obtain ⟨h1, h2⟩ := hc
    have f1 : ¬ (240 : Int) ≤ (x : Int) := by omega
    have f2 : ¬ (224 : Int) ≤ (x : Int) := by omega
    have f3 : ¬ (192 : Int) ≤ (x : Int) := by omega
    have f4 : (128 : Int) ≤ (x : Int) := by omega
    have f5 : (x : Int) < 248 := by omega
    have f6 : (x : Int) < 240 := by omega
    have f7 : (x : Int) < 224 := by omega
    have HV := Lib.hid (show utfN s i = 0 by
      rw [HN.out]
      unfold utfX
      repeat (first | rw [if_pos (by omega)] | rw [if_neg (by omega)]))
    clear h1 h2 hx
    go_wp2
    refine bodyPost_ret (results_tmp rfl _ _ _) rfl ?_
    exact ⟨by rw [HV.out]; rfl, rfl⟩
  by_cases hc : 192 ≤ x ∧ x ≤ 223
  · obtain ⟨h1, h2⟩ := hc
    have f1 : ¬ (240 : Int) ≤ (x : Int) := by omega
    have f2 : ¬ (224 : Int) ≤ (x : Int) := by omega
    have f3 : (192 : Int) ≤ (x : Int) := by omega
    have f4 : (128 : Int) ≤ (x : Int) := by omega
    have f5 : (x : Int) < 248 := by omega
    have f6 : (x : Int) < 240 := by omega
    have f7 : (x : Int) < 224 := by omega
    have HNX := Lib.hid (show utfN s i = utfG s i 2 ((x : Int) - 192) 128 by
      rw [HN.out]
      unfold utfX
      repeat (first | rw [if_pos (by omega)] | rw [if_neg (by omega)]))
    have s1 : IntKind.i64.wrap ((i : Int) + 2) = ((i + 2 : Nat) : Int) := (IntWalk.i64_in _ (by omega)).trans (by omega)
    have s0 : IntKind.i64.wrap ((x : Int) - 192) = (x : Int) - 192 := IntWalk.i64_in _ (by omega)
    by_cases hin : i + 2 ≤ s.size
    · have i1 : ¬ (s.size : Int) < ((i + 2 : Nat) : Int) := by omega
      have i2 : ¬ (s.size : Int) < (i : Int) + 2 := by omega
      have HI := Lib.hid (show UtR s i 2 ((x : Int) - 192) (.int .i64 ((x : Int) - 192)) (.int .i64 1) from ⟨1, _, rfl, rfl, by omega, by omega, by omega, fun _ => by omega, fun _ => by omega, fun _ => by omega, by omega, rfl⟩)
      clear h1 h2 hx
      go_wp2_with fail
      go_loopw [7, 9] (fun c k wr => wr = w ∧ UtR s i 2 ((x : Int) - 192) c k) (fun _ k _ => 2 - (intOf k).toNat)
      case atStart => exact ⟨rfl, HI.out⟩
      case round =>
        obtain ⟨rfl, kk, cc, rfl, rfl, hk1, hk2, hc0, hc1, hc2, hc3, hc4, hu⟩ := hrel
        have sk : IntKind.i64.wrap ((kk : Int) + 1) = ((kk + 1 : Nat) : Int) := (IntWalk.i64_in _ (by omega)).trans (by omega)
        by_cases hlt : kk < 2
        · have i3 : (kk : Int) < 2 := by omega
          have hcc : cc ≤ 524287 := by omega
          obtain ⟨ik, hik⟩ : ∃ ik, ik = i + kk := ⟨_, rfl⟩
          have hikl : ik < s.size := by omega
          have s2 : IntKind.i64.wrap ((i : Int) + (kk : Int)) = (ik : Int) := (IntWalk.i64_in _ (by omega)).trans (by omega)
          have s3 : (i : Int) + (kk : Int) = (ik : Int) := by omega
          have hy : s[ik].toNat < 256 := s[ik].toNat_lt
          obtain ⟨y, hye⟩ : ∃ y, y = s[ik].toNat := ⟨_, rfl⟩
          have HY := Lib.hid hye
          have HU := Lib.hid (show utfT s i (2 - 1) 1 ((x : Int) - 192) = if y < 128 ∨ 192 ≤ y then none else utfT s i (2 - (kk + 1)) (kk + 1) (64 * cc + (y : Int) - 128) by
            rw [hu, show 2 - kk = (2 - (kk + 1)) + 1 by omega, utfT]
            subst hik
            rw [dif_pos hikl, ← hye])
          have HIN := Lib.hid hin
          rw [← hye] at hy
          clear hye hik hu hin
          go_upto_region 17 with fail
          rw [← HY.out]
          have ey2 : RowKit.wrap64 (y : Int) = (y : Int) := by unfold RowKit.wrap64; omega
          (try rw [ey2])
          clear ey2
          have m1 : IntKind.i64.wrap (64 * cc) = 64 * cc := IntWalk.i64_in _ (by omega)
          have m2 : IntKind.i64.wrap (64 * cc + (y : Int)) = 64 * cc + (y : Int) := IntWalk.i64_in _ (by omega)
          have m3 : IntKind.i64.wrap (64 * cc + (y : Int) - 128) = 64 * cc + (y : Int) - 128 := IntWalk.i64_in _ (by omega)
          by_cases hc1 : y < 128 ∨ 192 ≤ y
          · have HV := Lib.hid (show utfN s i = 0 by rw [HNX.out, utfG, if_pos HIN.out, HU.out, if_pos hc1])
            rcases hc1 with hc1 | hc1
            case' inl => have g1 : (y : Int) < 128 := by omega
            case' inr =>
              have g1 : ¬ (y : Int) < 128 := by omega
              have g2 : (192 : Int) ≤ (y : Int) := by omega
            all_goals
              clear m1 m2 m3
              go_wp2
              refine bodyPost_ret (results_tmp rfl _ _ _) rfl ?_
              exact ⟨by rw [HV.out]; rfl, rfl⟩
          · have g1 : ¬ (y : Int) < 128 := by omega
            have g2 : ¬ (192 : Int) ≤ (y : Int) := by omega
            have HU2 := Lib.hid (show utfT s i (2 - 1) 1 ((x : Int) - 192) = utfT s i (2 - (kk + 1)) (kk + 1) (64 * cc + (y : Int) - 128) by rw [HU.out, if_neg hc1])
            have HCC := Lib.hid (show 0 ≤ 64 * cc + (y : Int) - 128 ∧ (kk + 1 = 1 → 64 * cc + (y : Int) - 128 ≤ 127) ∧ (kk + 1 = 2 → 64 * cc + (y : Int) - 128 ≤ 8191) ∧ (kk + 1 = 3 → 64 * cc + (y : Int) - 128 ≤ 524287) ∧ 64 * cc + (y : Int) - 128 ≤ 33554431 from ⟨by omega, fun _ => by omega, fun _ => by omega, fun _ => by omega, by omega⟩)
            go_wp2
            obtain ⟨a1, a2, a3, a4, a5⟩ := HCC.out
            exact ⟨⟨by first | rfl | trivial, kk + 1, _, rfl, rfl, by omega, by omega, a1, a2, a3, a4, a5, HU2.out⟩, by simp [intOf]; omega⟩
        · have i3 : ¬ (kk : Int) < 2 := by omega
          have hkn : kk = 2 := by omega
          have HV := Lib.hid (show utfN s i = utfE 2 128 cc by
            rw [HNX.out, utfG, if_pos hin, hu, hkn]; rfl)
          clear hu hkn hin
          go_wp2
          all_goals
            refine bodyPost_ret (results_tmp rfl _ _ _) rfl ?_
            refine ⟨?_, rfl⟩
            first
              | (rw [HV.out, utfE, if_pos (by omega)]; rfl)
              | (rw [HV.out, utfE, if_neg (by omega)]; rfl)
    · have HV := Lib.hid (show utfN s i = 0 by rw [HNX.out, utfG, if_neg hin])
      have i1 : (s.size : Int) < ((i + 2 : Nat) : Int) := by omega
      have i2 : (s.size : Int) < (i : Int) + 2 := by omega
      clear h1 h2 hx hin
      go_wp2
      refine bodyPost_ret (results_tmp rfl _ _ _) rfl ?_
      exact ⟨by rw [HV.out]; rfl, rfl⟩
  by_cases hc : 224 ≤ x ∧ x ≤ 239
  · obtain ⟨h1, h2⟩ := hc
    have f1 : ¬ (240 : Int) ≤ (x : Int) := by omega
    have f2 : (224 : Int) ≤ (x : Int) := by omega
    have f3 : (192 : Int) ≤ (x : Int) := by omega
    have f4 : (128 : Int) ≤ (x : Int) := by omega
    have f5 : (x : Int) < 248 := by omega
    have f6 : (x : Int) < 240 := by omega
    have f7 : ¬ (x : Int) < 224 := by omega
    have HNX := Lib.hid (show utfN s i = utfG s i 3 ((x : Int) - 224) 2048 by
      rw [HN.out]
      unfold utfX
      repeat (first | rw [if_pos (by omega)] | rw [if_neg (by omega)]))
    have s1 : IntKind.i64.wrap ((i : Int) + 3) = ((i + 3 : Nat) : Int) := (IntWalk.i64_in _ (by omega)).trans (by omega)
    have s0 : IntKind.i64.wrap ((x : Int) - 224) = (x : Int) - 224 := IntWalk.i64_in _ (by omega)
    by_cases hin : i + 3 ≤ s.size
    · have i1 : ¬ (s.size : Int) < ((i + 3 : Nat) : Int) := by omega
      have i2 : ¬ (s.size : Int) < (i : Int) + 3 := by omega
      have HI := Lib.hid (show UtR s i 3 ((x : Int) - 224) (.int .i64 ((x : Int) - 224)) (.int .i64 1) from ⟨1, _, rfl, rfl, by omega, by omega, by omega, fun _ => by omega, fun _ => by omega, fun _ => by omega, by omega, rfl⟩)
      clear h1 h2 hx
      go_wp2_with fail
      go_loopw [7, 9] (fun c k wr => wr = w ∧ UtR s i 3 ((x : Int) - 224) c k) (fun _ k _ => 3 - (intOf k).toNat)
      case atStart => exact ⟨rfl, HI.out⟩
      case round =>
        obtain ⟨rfl, kk, cc, rfl, rfl, hk1, hk2, hc0, hc1, hc2, hc3, hc4, hu⟩ := hrel
        have sk : IntKind.i64.wrap ((kk : Int) + 1) = ((kk + 1 : Nat) : Int) := (IntWalk.i64_in _ (by omega)).trans (by omega)
        by_cases hlt : kk < 3
        · have i3 : (kk : Int) < 3 := by omega
          have hcc : cc ≤ 524287 := by omega
          obtain ⟨ik, hik⟩ : ∃ ik, ik = i + kk := ⟨_, rfl⟩
          have hikl : ik < s.size := by omega
          have s2 : IntKind.i64.wrap ((i : Int) + (kk : Int)) = (ik : Int) := (IntWalk.i64_in _ (by omega)).trans (by omega)
          have s3 : (i : Int) + (kk : Int) = (ik : Int) := by omega
          have hy : s[ik].toNat < 256 := s[ik].toNat_lt
          obtain ⟨y, hye⟩ : ∃ y, y = s[ik].toNat := ⟨_, rfl⟩
          have HY := Lib.hid hye
          have HU := Lib.hid (show utfT s i (3 - 1) 1 ((x : Int) - 224) = if y < 128 ∨ 192 ≤ y then none else utfT s i (3 - (kk + 1)) (kk + 1) (64 * cc + (y : Int) - 128) by
            rw [hu, show 3 - kk = (3 - (kk + 1)) + 1 by omega, utfT]
            subst hik
            rw [dif_pos hikl, ← hye])
          have HIN := Lib.hid hin
          rw [← hye] at hy
          clear hye hik hu hin
          go_upto_region 17 with fail
          rw [← HY.out]
          have ey2 : RowKit.wrap64 (y : Int) = (y : Int) := by unfold RowKit.wrap64; omega
          (try rw [ey2])
          clear ey2
          have m1 : IntKind.i64.wrap (64 * cc) = 64 * cc := IntWalk.i64_in _ (by omega)
          have m2 : IntKind.i64.wrap (64 * cc + (y : Int)) = 64 * cc + (y : Int) := IntWalk.i64_in _ (by omega)
          have m3 : IntKind.i64.wrap (64 * cc + (y : Int) - 128) = 64 * cc + (y : Int) - 128 := IntWalk.i64_in _ (by omega)
          by_cases hc1 : y < 128 ∨ 192 ≤ y
          · have HV := Lib.hid (show utfN s i = 0 by rw [HNX.out, utfG, if_pos HIN.out, HU.out, if_pos hc1])
            rcases hc1 with hc1 | hc1
            case' inl => have g1 : (y : Int) < 128 := by omega
            case' inr =>
              have g1 : ¬ (y : Int) < 128 := by omega
              have g2 : (192 : Int) ≤ (y : Int) := by omega
            all_goals
              clear m1 m2 m3
              go_wp2
              refine bodyPost_ret (results_tmp rfl _ _ _) rfl ?_
              exact ⟨by rw [HV.out]; rfl, rfl⟩
          · have g1 : ¬ (y : Int) < 128 := by omega
            have g2 : ¬ (192 : Int) ≤ (y : Int) := by omega
            have HU2 := Lib.hid (show utfT s i (3 - 1) 1 ((x : Int) - 224) = utfT s i (3 - (kk + 1)) (kk + 1) (64 * cc + (y : Int) - 128) by rw [HU.out, if_neg hc1])
            have HCC := Lib.hid (show 0 ≤ 64 * cc + (y : Int) - 128 ∧ (kk + 1 = 1 → 64 * cc + (y : Int) - 128 ≤ 127) ∧ (kk + 1 = 2 → 64 * cc + (y : Int) - 128 ≤ 8191) ∧ (kk + 1 = 3 → 64 * cc + (y : Int) - 128 ≤ 524287) ∧ 64 * cc + (y : Int) - 128 ≤ 33554431 from ⟨by omega, fun _ => by omega, fun _ => by omega, fun _ => by omega, by omega⟩)
            go_wp2
            obtain ⟨a1, a2, a3, a4, a5⟩ := HCC.out
            exact ⟨⟨by first | rfl | trivial, kk + 1, _, rfl, rfl, by omega, by omega, a1, a2, a3, a4, a5, HU2.out⟩, by simp [intOf]; omega⟩
        · have i3 : ¬ (kk : Int) < 3 := by omega
          have hkn : kk = 3 := by omega
          have HV := Lib.hid (show utfN s i = utfE 3 2048 cc by
            rw [HNX.out, utfG, if_pos hin, hu, hkn]; rfl)
          clear hu hkn hin
          go_wp2
          all_goals
            refine bodyPost_ret (results_tmp rfl _ _ _) rfl ?_
            refine ⟨?_, rfl⟩
            first
              | (rw [HV.out, utfE, if_pos (by omega)]; rfl)
              | (rw [HV.out, utfE, if_neg (by omega)]; rfl)
    · have HV := Lib.hid (show utfN s i = 0 by rw [HNX.out, utfG, if_neg hin])
      have i1 : (s.size : Int) < ((i + 3 : Nat) : Int) := by omega
      have i2 : (s.size : Int) < (i : Int) + 3 := by omega
      clear h1 h2 hx hin
      go_wp2
      refine bodyPost_ret (results_tmp rfl _ _ _) rfl ?_
      exact ⟨by rw [HV.out]; rfl, rfl⟩
  by_cases hc : 240 ≤ x ∧ x ≤ 247
  · obtain ⟨h1, h2⟩ := hc
    have f1 : (240 : Int) ≤ (x : Int) := by omega
    have f2 : (224 : Int) ≤ (x : Int) := by omega
    have f3 : (192 : Int) ≤ (x : Int) := by omega
    have f4 : (128 : Int) ≤ (x : Int) := by omega
    have f5 : (x : Int) < 248 := by omega
    have f6 : ¬ (x : Int) < 240 := by omega
    have f7 : ¬ (x : Int) < 224 := by omega
    have HNX := Lib.hid (show utfN s i = utfG s i 4 ((x : Int) - 240) 65536 by
      rw [HN.out]
      unfold utfX
      repeat (first | rw [if_pos (by omega)] | rw [if_neg (by omega)]))
    have s1 : IntKind.i64.wrap ((i : Int) + 4) = ((i + 4 : Nat) : Int) := (IntWalk.i64_in _ (by omega)).trans (by omega)
    have s0 : IntKind.i64.wrap ((x : Int) - 240) = (x : Int) - 240 := IntWalk.i64_in _ (by omega)
    by_cases hin : i + 4 ≤ s.size
    · have i1 : ¬ (s.size : Int) < ((i + 4 : Nat) : Int) := by omega
      have i2 : ¬ (s.size : Int) < (i : Int) + 4 := by omega
      have HI := Lib.hid (show UtR s i 4 ((x : Int) - 240) (.int .i64 ((x : Int) - 240)) (.int .i64 1) from ⟨1, _, rfl, rfl, by omega, by omega, by omega, fun _ => by omega, fun _ => by omega, fun _ => by omega, by omega, rfl⟩)
      clear h1 h2 hx
      go_wp2_with fail
      go_loopw [7, 9] (fun c k wr => wr = w ∧ UtR s i 4 ((x : Int) - 240) c k) (fun _ k _ => 4 - (intOf k).toNat)
      case atStart => exact ⟨rfl, HI.out⟩
      case round =>
        obtain ⟨rfl, kk, cc, rfl, rfl, hk1, hk2, hc0, hc1, hc2, hc3, hc4, hu⟩ := hrel
        have sk : IntKind.i64.wrap ((kk : Int) + 1) = ((kk + 1 : Nat) : Int) := (IntWalk.i64_in _ (by omega)).trans (by omega)
        by_cases hlt : kk < 4
        · have i3 : (kk : Int) < 4 := by omega
          have hcc : cc ≤ 524287 := by omega
          obtain ⟨ik, hik⟩ : ∃ ik, ik = i + kk := ⟨_, rfl⟩
          have hikl : ik < s.size := by omega
          have s2 : IntKind.i64.wrap ((i : Int) + (kk : Int)) = (ik : Int) := (IntWalk.i64_in _ (by omega)).trans (by omega)
          have s3 : (i : Int) + (kk : Int) = (ik : Int) := by omega
          have hy : s[ik].toNat < 256 := s[ik].toNat_lt
          obtain ⟨y, hye⟩ : ∃ y, y = s[ik].toNat := ⟨_, rfl⟩
          have HY := Lib.hid hye
          have HU := Lib.hid (show utfT s i (4 - 1) 1 ((x : Int) - 240) = if y < 128 ∨ 192 ≤ y then none else utfT s i (4 - (kk + 1)) (kk + 1) (64 * cc + (y : Int) - 128) by
            rw [hu, show 4 - kk = (4 - (kk + 1)) + 1 by omega, utfT]
            subst hik
            rw [dif_pos hikl, ← hye])
          have HIN := Lib.hid hin
          rw [← hye] at hy
          clear hye hik hu hin
          go_upto_region 17 with fail
          rw [← HY.out]
          have ey2 : RowKit.wrap64 (y : Int) = (y : Int) := by unfold RowKit.wrap64; omega
          (try rw [ey2])
          clear ey2
          have m1 : IntKind.i64.wrap (64 * cc) = 64 * cc := IntWalk.i64_in _ (by omega)
          have m2 : IntKind.i64.wrap (64 * cc + (y : Int)) = 64 * cc + (y : Int) := IntWalk.i64_in _ (by omega)
          have m3 : IntKind.i64.wrap (64 * cc + (y : Int) - 128) = 64 * cc + (y : Int) - 128 := IntWalk.i64_in _ (by omega)
          by_cases hc1 : y < 128 ∨ 192 ≤ y
          · have HV := Lib.hid (show utfN s i = 0 by rw [HNX.out, utfG, if_pos HIN.out, HU.out, if_pos hc1])
            rcases hc1 with hc1 | hc1
            case' inl => have g1 : (y : Int) < 128 := by omega
            case' inr =>
              have g1 : ¬ (y : Int) < 128 := by omega
              have g2 : (192 : Int) ≤ (y : Int) := by omega
            all_goals
              clear m1 m2 m3
              go_wp2
              refine bodyPost_ret (results_tmp rfl _ _ _) rfl ?_
              exact ⟨by rw [HV.out]; rfl, rfl⟩
          · have g1 : ¬ (y : Int) < 128 := by omega
            have g2 : ¬ (192 : Int) ≤ (y : Int) := by omega
            have HU2 := Lib.hid (show utfT s i (4 - 1) 1 ((x : Int) - 240) = utfT s i (4 - (kk + 1)) (kk + 1) (64 * cc + (y : Int) - 128) by rw [HU.out, if_neg hc1])
            have HCC := Lib.hid (show 0 ≤ 64 * cc + (y : Int) - 128 ∧ (kk + 1 = 1 → 64 * cc + (y : Int) - 128 ≤ 127) ∧ (kk + 1 = 2 → 64 * cc + (y : Int) - 128 ≤ 8191) ∧ (kk + 1 = 3 → 64 * cc + (y : Int) - 128 ≤ 524287) ∧ 64 * cc + (y : Int) - 128 ≤ 33554431 from ⟨by omega, fun _ => by omega, fun _ => by omega, fun _ => by omega, by omega⟩)
            go_wp2
            obtain ⟨a1, a2, a3, a4, a5⟩ := HCC.out
            exact ⟨⟨by first | rfl | trivial, kk + 1, _, rfl, rfl, by omega, by omega, a1, a2, a3, a4, a5, HU2.out⟩, by simp [intOf]; omega⟩
        · have i3 : ¬ (kk : Int) < 4 := by omega
          have hkn : kk = 4 := by omega
          have HV := Lib.hid (show utfN s i = utfE 4 65536 cc by
            rw [HNX.out, utfG, if_pos hin, hu, hkn]; rfl)
          clear hu hkn hin
          go_wp2
          all_goals
            refine bodyPost_ret (results_tmp rfl _ _ _) rfl ?_
            refine ⟨?_, rfl⟩
            first
              | (rw [HV.out, utfE, if_pos (by omega)]; rfl)
              | (rw [HV.out, utfE, if_neg (by omega)]; rfl)
    · have HV := Lib.hid (show utfN s i = 0 by rw [HNX.out, utfG, if_neg hin])
      have i1 : (s.size : Int) < ((i + 4 : Nat) : Int) := by omega
      have i2 : (s.size : Int) < (i : Int) + 4 := by omega
      clear h1 h2 hx hin
      go_wp2
      refine bodyPost_ret (results_tmp rfl _ _ _) rfl ?_
      exact ⟨by rw [HV.out]; rfl, rfl⟩
  by_cases hc : 248 ≤ x ∧ x ≤ 255
  · obtain ⟨h1, h2⟩ := hc
    have f1 : (240 : Int) ≤ (x : Int) := by omega
    have f2 : (224 : Int) ≤ (x : Int) := by omega
    have f3 : (192 : Int) ≤ (x : Int) := by omega
    have f4 : (128 : Int) ≤ (x : Int) := by omega
    have f5 : ¬ (x : Int) < 248 := by omega
    have f6 : ¬ (x : Int) < 240 := by omega
    have f7 : ¬ (x : Int) < 224 := by omega
    have HV := Lib.hid (show utfN s i = 0 by
      rw [HN.out]
      unfold utfX
      repeat (first | rw [if_pos (by omega)] | rw [if_neg (by omega)]))
    clear h1 h2 hx
    go_wp2
    refine bodyPost_ret (results_tmp rfl _ _ _) rfl ?_
    exact ⟨by rw [HV.out]; rfl, rfl⟩
  exfalso
  omega
end Go.Proofs.Ytnglejopbpnknaa
namespace Go.Proofs.Ytnglejopbpnknaa
open Go.RowKit
def validF (s : ByteArray) : Nat → Nat → Bool
  | 0, _ => true
  | f + 1, k => if k < s.size then (if utfN s k = 0 then false else validF s f (k + utfN s k)) else true
def validB (s : ByteArray) : Bool := validF s (s.size + 1) 0
def VaR (s : ByteArray) (i : Value) : Prop := ∃ k f : Nat, k ≤ s.size ∧ i = .int .i64 k ∧ s.size < k + f ∧ validB s = validF s f k
set_option maxRecDepth 100000 in
theorem valid_any (s : ByteArray) (w : World) (hs : s.size ≤ 9223372036854775000) : Calls Try.prog 71 #[.string s] w fun e w' => e = .returned (.bool (validB s)) ∧ w = w' := by
  go_enter Try.func71, Try.ntmps71
  go_wp2_with fail
  go_loop [3] (fun i => VaR s i) (fun i => s.size - (intOf i).toNat)
  case atStart => exact ⟨0, s.size + 1, Nat.zero_le _, rfl, by omega, rfl⟩
  case round =>
    obtain ⟨k, f, hk, rfl, hf, hv⟩ := hrel
    by_cases hlt : k < s.size
    · obtain ⟨f, rfl⟩ : ∃ f', f = f' + 1 := ⟨f - 1, by omega⟩
      have hle := utfN_le hlt
      obtain ⟨r, hr⟩ : ∃ r, r = utfN s k := ⟨_, rfl⟩
      rw [validF, if_pos hlt, ← hr] at hv
      rw [← hr] at hle
      have HC := Lib.hid (show Calls Try.prog 79 #[.string s, .int .i64 (k : Int)] w fun e w' => e = .returned (.int .i64 (r : Int)) ∧ w = w' by rw [hr]; exact utf8_any s k w hs hlt)
      have i1 : (k : Int) < (s.size : Int) := by omega
      have HV := Lib.hid hv
      clear hv hr
      go_wp2_with fail
      refine HC.out.mono ?_
      rintro e w' ⟨rfl, rfl⟩
      by_cases hr0 : r = 0
      · have HV2 := Lib.hid (show validB s = false by rw [HV.out, if_pos hr0])
        subst hr0
        go_wp2
        refine bodyPost_ret (results_tmp rfl _ _ _) rfl ?_
        exact ⟨by rw [HV2.out]; rfl, rfl⟩
      · have HV2 := Lib.hid (show validB s = validF s f (k + r) by rw [HV.out, if_neg hr0])
        have hz : ((r : Int) == 0) = false := beq_eq_false_iff_ne.2 (by omega)
        have sk : IntKind.i64.wrap ((k : Int) + (r : Int)) = ((k + r : Nat) : Int) := (IntWalk.i64_in _ (by omega)).trans (by omega)
        go_wp2
        exact ⟨⟨k + r, f, by omega, rfl, by omega, HV2.out⟩, by simp [intOf]; omega⟩
    · have HV := Lib.hid (show validB s = true by
        rw [hv]
        cases f with
        | zero => rfl
        | succ f => rw [validF, if_neg hlt])
      clear hv
      obtain rfl : k = s.size := by omega
      go_wp2
      refine bodyPost_ret (results_tmp rfl _ _ _) rfl ?_
      exact ⟨by rw [HV.out]; rfl, rfl⟩
theorem rname_any (s : ByteArray) (w : World) (hs : s.size ≤ 9223372036854775807) : Calls Try.prog 51 #[.string s] w fun e w' => e = .returned (.bool (wordB s false)) ∧ w = w' := by
  go_enter Try.func51, Try.ntmps51
  go_wp2_with fail
  refine (word_any s false w hs).mono ?_
  rintro e w' ⟨rfl, rfl⟩
  go_wp2
  go_ret
  exact ⟨rfl, rfl⟩
theorem rmetric_any (s : ByteArray) (w : World) (hs : s.size ≤ 9223372036854775807) : Calls Try.prog 53 #[.string s] w fun e w' => e = .returned (.bool (wordB s true)) ∧ w = w' := by
  go_enter Try.func53, Try.ntmps53
  go_wp2_with fail
  refine (word_any s true w hs).mono ?_
  rintro e w' ⟨rfl, rfl⟩
  go_wp2
  go_ret
  exact ⟨rfl, rfl⟩
def valueB (s : ByteArray) : Bool := decide (s.size ≤ 1024) && validB s
theorem rvalue_any (s : ByteArray) (w : World) (hs : s.size ≤ 9223372036854775807) : Calls Try.prog 52 #[.string s] w fun e w' => e = .returned (.bool (valueB s)) ∧ w = w' := by
  by_cases h : s.size ≤ 1024
  · have HV := Lib.hid (show valueB s = validB s by unfold valueB; rw [decide_eq_true h]; rfl)
    have i1 : (s.size : Int) ≤ 1024 := by omega
    go_enter Try.func52, Try.ntmps52
    go_wp2_with fail
    refine (valid_any s w (by omega)).mono ?_
    rintro e w' ⟨rfl, rfl⟩
    go_wp2
    go_ret
    exact ⟨by rw [HV.out]; rfl, rfl⟩
  · have HV := Lib.hid (show valueB s = false by unfold valueB; rw [decide_eq_false h]; rfl)
    have i1 : ¬ (s.size : Int) ≤ 1024 := by omega
    go_enter Try.func52, Try.ntmps52
    go_wp2
    go_ret
    exact ⟨by rw [HV.out]; rfl, rfl⟩
abbrev nameL : List UInt8 := [95, 95, 110, 97, 109, 101, 95, 95]
def fairB (x y : ByteArray) : Bool := (wordB x false && valueB y) && ((!(x.toList == nameL) || y.toList == []) || wordB y true)
set_option maxHeartbeats 1600000 in
theorem fair_any (x y : ByteArray) (w : World) (hx : x.size ≤ 9223372036854775807) (hy : y.size ≤ 9223372036854775807) : Calls Try.prog 40 #[.agg #[.string x, .string y]] w fun e w' => e = .returned (.bool (fairB x y)) ∧ Below w.heap.size w w' := by
  obtain ⟨b1, hb1⟩ : ∃ b, b = wordB x false := ⟨_, rfl⟩
  obtain ⟨b2, hb2⟩ : ∃ b, b = valueB y := ⟨_, rfl⟩
  obtain ⟨b3, hb3⟩ : ∃ b, b = wordB y true := ⟨_, rfl⟩
  have C1 := Lib.hid (fun w => show Calls Try.prog 51 #[.string x] w fun e w' => e = .returned (.bool b1) ∧ w = w' by rw [hb1]; exact rname_any x w hx)
  have C2 := Lib.hid (fun w => show Calls Try.prog 52 #[.string y] w fun e w' => e = .returned (.bool b2) ∧ w = w' by rw [hb2]; exact rvalue_any y w hy)
  have C3 := Lib.hid (fun w => show Calls Try.prog 53 #[.string y] w fun e w' => e = .returned (.bool b3) ∧ w = w' by rw [hb3]; exact rmetric_any y w hy)
  have HF := Lib.hid (show fairB x y = ((b1 && b2) && ((!(x.toList == nameL) || y.toList == []) || b3)) by rw [hb1, hb2, hb3]; rfl)
  clear hb1 hb2 hb3
  go_enter Try.func40, Try.ntmps40
  go_wp2_with fail
  obtain ⟨w2, hw2⟩ : ∃ w2, w2 = w.alloc (.cells #[.string x, .string y] 61) := ⟨_, rfl⟩
  have hb : Below w.heap.size w w2 := by rw [hw2]; exact (Below.refl _ w).alloc (Nat.le_refl _) _
  have b0 : Blk w2 w.heap.size 61 #[.string x, .string y] := by rw [hw2]; exact Blk.new w 61 _
  have c0 : w2.cell? ⟨w.heap.size, 0, none⟩ = some (.string x) := b0.cell 0
  have c1 : w2.cell? ⟨w.heap.size, 1, none⟩ = some (.string y) := b0.cell 1
  rw [← hw2]
  have HB := Lib.hid hb
  clear hw2 hb b0
  refine (C1.out w2).mono ?_
  rintro e w' ⟨rfl, rfl⟩
  cases b1 with
  | false =>
    go_wp2
    go_ret
    exact ⟨by rw [HF.out]; rfl, HB.out⟩
  | true =>
    go_wp2_with fail
    refine (C2.out w2).mono ?_
    rintro e w' ⟨rfl, rfl⟩
    cases b2 with
    | false =>
      go_wp2
      go_ret
      exact ⟨by rw [HF.out]; rfl, HB.out⟩
    | true =>
      cases e1 : x.toList == [95, 95, 110, 97, 109, 101, 95, 95] with
      | false =>
        have HF2 := Lib.hid (show fairB x y = true by rw [HF.out]; rw [e1]; rfl)
        go_wp2
        go_ret
        exact ⟨by rw [HF2.out]; rfl, HB.out⟩
      | true =>
        cases e2 : y.toList == [] with
        | true =>
          have HF2 := Lib.hid (show fairB x y = true by rw [HF.out]; rw [e1, e2]; rfl)
          go_wp2
          go_ret
          exact ⟨by rw [HF2.out]; rfl, HB.out⟩
        | false =>
          have HF2 := Lib.hid (show fairB x y = b3 by rw [HF.out]; rw [e1, e2]; simp)
          go_wp2_with (go_at_call 53; refine (C3.out _).mono ?_; rintro e w' ⟨rfl, rfl⟩)
          go_ret
          exact ⟨by rw [HF2.out]; rfl, HB.out⟩
end Go.Proofs.Ytnglejopbpnknaa
namespace Go.Proofs.Ytnglejopbpnknaa
open Go.RowKit
def Tells64 (n : Nat) (e : Ending) : Prop := ∃ b : Bool, e = .returned (.bool b) ∧ (b = true → n ≤ 64)
def IsBool (v : Value) : Prop := ∃ b : Bool, v = .bool b
def RgR (w : World) (n : Nat) (i : Value) (wr : World) : Prop := ∃ k : Nat, i = .int .i64 (k : Int) ∧ k ≤ n ∧ Below w.heap.size w wr
set_option maxRecDepth 100000 in
set_option maxHeartbeats 6400000 in
theorem right_any (w : World) (B : Nat) (v : Value) (ls : List Lbl) (h : LabsAt w B v ls) (hB : B ≤ w.heap.size) (hl : ls.length ≤ 9223372036854775807) (hsz : ∀ p ∈ ls, p.1.size ≤ 9223372036854775807 ∧ p.2.size ≤ 9223372036854775807) :
    Calls Try.prog 19 #[v] w fun e w' => Tells64 ls.length e ∧ Below w.heap.size w w' := by
  obtain ⟨A, c, rfl, hr⟩ := h
  obtain ⟨n, hn⟩ : ∃ n, n = ls.length := ⟨_, rfl⟩
  rw [← hn] at hr hl ⊢
  have HR := Lib.hid hr
  have HN := Lib.hid hn
  have HSZ := Lib.hid hsz
  have HBB := Lib.hid hB
  have HI := Lib.hid (show RgR w n (.int .i64 0) w from ⟨0, rfl, Nat.zero_le _, Below.refl _ w⟩)
  clear hr hn hsz hB
  go_enter Try.func19, Try.ntmps19
  go_wp2_with fail
  go_loopw [3] (fun i wr => RgR w n i wr) (fun i _ => n - (intOf i).toNat)
  case atStart => exact HI.out
  case round =>
    obtain ⟨k, rfl, hk, hb⟩ := hrel
    have hnl := HN.out
    by_cases hlt : k < n
    · have i1 : (k : Int) < (n : Int) := by omega
      have sk : IntKind.i64.wrap ((k : Int) + 1) = ((k + 1 : Nat) : Int) := (IntWalk.i64_in _ (by omega)).trans (by omega)
      obtain ⟨p, hp⟩ : ∃ p, ls[k]? = some p := ⟨_, List.getElem?_eq_getElem (by omega)⟩
      obtain ⟨d, rfl, hd, x1, x2⟩ := (HR.out.keep fun p hp => hb.cell (by have := HBB.out; omega)).two hp
      obtain ⟨z1, z2⟩ := HSZ.out p (List.mem_of_getElem? hp)
      obtain ⟨p1, p2⟩ := p
      dsimp only at x1 x2 z1 z2
      have i2 : (0 : Int) ≤ (k : Int) := by omega
      have hwr : B ≤ wr.heap.size := Nat.le_trans HBB.out hb.size
      have X1 : ∀ st : Cls wr, st.val.cell? (d.add (k * 2)) = some (.string p1) := fun st => (st.2.cell (by rw [block_of_add]; omega)).trans x1
      have X2 : ∀ st : Cls wr, st.val.cell? ⟨(d.add (k * 2)).block, (d.add (k * 2)).off + 1, none⟩ = some (.string p2) := fun st => (st.2.cell (by show (d.add (k * 2)).block < _; rw [block_of_add]; omega)).trans x2
      obtain ⟨fb, hfb⟩ : ∃ fb, fb = fairB p1 p2 := ⟨_, rfl⟩
      have HC := Lib.hid (fun st : Cls wr => show Calls Try.prog 40 #[.agg #[.string p1, .string p2]] st.val fun e w' => e = .returned (.bool fb) ∧ Below st.val.heap.size st.val w' by rw [hfb]; exact fair_any p1 p2 st.val z1 z2)
      have HB := Lib.hid hb
      have hq1 : ∃ q1, 0 < k → ∀ st : Cls wr, st.val.cell? (d.add ((k - 1) * 2)) = some (.string q1) := by
        by_cases hk0 : 0 < k
        · obtain ⟨q, hq⟩ : ∃ p, ls[k - 1]? = some p := ⟨_, List.getElem?_eq_getElem (by omega)⟩
          obtain ⟨d', e', hd', y1, -⟩ := (HR.out.keep fun p hp => hb.cell (by have := HBB.out; omega)).two hq
          injection e' with e'
          subst e'
          exact ⟨q.1, fun _ st => (st.2.cell (by rw [block_of_add]; omega)).trans y1⟩
        · exact ⟨p1, fun h => absurd h hk0⟩
      obtain ⟨q1, HQ⟩ := hq1
      have HQ := Lib.hid HQ
      clear hb hp hnl z1 z2 hd hfb x1 x2 hwr
      go_upto_region 4 with fail
      go_cut [41] from 10 to 41 (fun c wx => IsBool c ∧ Below w.heap.size w wx)
      case first =>
        cases fb with
        | false =>
          refine wp_region_cls (by kernel_rfl) (by kernel_rfl) ?_
          repeat (go_big_quiet_step ((go_at_call 40; exact Cls.call (HC.out _))))
          refine wpQuiet_nil ?_
          rintro _ ⟨st, rfl⟩
          go_wp2_with fail
          go_meet
          exact ⟨⟨_, rfl⟩, HB.out.trans (st.2.mono HB.out.size)⟩
        | true =>
          cases e2 : p2.toList == [] with
          | true =>
            refine wp_region_cls (by kernel_rfl) (by kernel_rfl) ?_
            repeat (go_big_quiet_step ((go_at_call 40; exact Cls.call (HC.out _))))
            refine wpQuiet_nil ?_
            rintro _ ⟨st, rfl⟩
            go_wp2_with fail
            go_meet
            exact ⟨⟨_, rfl⟩, HB.out.trans (st.2.mono HB.out.size)⟩
          | false =>
            have e3 : ¬ p2.toList = [] := by simpa using e2
            by_cases hk0 : 0 < k
            · have Y1 := HQ.out hk0
              have i3 : (0 : Int) < (k : Int) := by omega
              have i4 : decide ((0 : Int) < (k : Int)) = true := decide_eq_true i3
              have d7 : ((k : Int) - 1).toNat = k - 1 := by omega
              have s1 : IntKind.i64.wrap ((k : Int) - 1) = (k : Int) - 1 := IntWalk.i64_in _ (by omega)
              have d2 : (k : Int) ≤ (n : Int) := by omega
              have d3 : (0 : Int) ≤ (k : Int) - 1 := by omega
              have d5 : (k : Int) - 1 < (n : Int) := by omega
              refine wp_region_cls (by kernel_rfl) (by kernel_rfl) ?_
              repeat (go_big_quiet_step ((go_at_call 40; exact Cls.call (HC.out _))))
              refine wpQuiet_nil ?_
              rintro _ ⟨st, rfl⟩
              go_wp2_with fail
              go_meet
              exact ⟨⟨_, rfl⟩, HB.out.trans (st.2.mono HB.out.size)⟩
            · have i3 : ¬ (0 : Int) < (k : Int) := by omega
              have i4 : decide ((0 : Int) < (k : Int)) = false := decide_eq_false i3
              refine wp_region_cls (by kernel_rfl) (by kernel_rfl) ?_
              repeat (go_big_quiet_step ((go_at_call 40; exact Cls.call (HC.out _))))
              refine wpQuiet_nil ?_
              rintro _ ⟨st, rfl⟩
              go_wp2_with fail
              go_meet
              exact ⟨⟨_, rfl⟩, HB.out.trans (st.2.mono HB.out.size)⟩
      case rest =>
        obtain ⟨⟨b, rfl⟩, hbw⟩ := hcut
        have HBW := Lib.hid hbw
        clear hbw X1 X2 HC
        cases b with
        | true =>
          go_wp2
          refine bodyPost_ret (results_tmp rfl _ _ _) rfl ?_
          exact ⟨⟨false, rfl, fun h => by cases h⟩, HBW.out⟩
        | false =>
          go_wp2
          exact ⟨⟨k + 1, rfl, by omega, HBW.out⟩, by simp [intOf]; omega⟩
    · have i1 : ¬ (k : Int) < (n : Int) := by omega
      have HB := Lib.hid hb
      clear hb hnl
      by_cases h64 : n ≤ 64
      · have i2 : (n : Int) ≤ 64 := by omega
        go_wp2
        refine bodyPost_ret (results_tmp rfl _ _ _) rfl ?_
        exact ⟨⟨true, rfl, fun _ => h64⟩, HB.out⟩
      · have i2 : ¬ (n : Int) ≤ 64 := by omega
        go_wp2
        refine bodyPost_ret (results_tmp rfl _ _ _) rfl ?_
        exact ⟨⟨false, rfl, fun h => by cases h⟩, HB.out⟩
end Go.Proofs.Ytnglejopbpnknaa
namespace Go.Proofs.Ytnglejopbpnknaa
open Go.RowKit
theorem run_store_float (P : Program) (w : World) (a : Addr) (m : Mode) (k : FloatKind) (b : Nat) : (store a (.float k b) m).run P w = stored P w a (.float k b) m := run_store P w a _ m rfl
attribute [local go_sem] run_store_float
/-- what an element is -/
def IsSmp (p : Value × Value) : Prop := (∃ a, p.1 = .int .i64 a) ∧ ∃ b, p.2 = .float .f64 b
def SwapSmpR (w : World) (g : Nat) (x u y v z : List (Value × Value)) (i : Value) (wr : World) : Prop :=
  ∃ k : Nat, k ≤ u.length ∧ i = .int .i64 k ∧ RowAt wr g 51 (swapped x u y v z k) ∧ w.grownBy wr (some g)
set_option maxRecDepth 100000 in
set_option maxHeartbeats 3200000 in
theorem swap_smp (w : World) (g n c : Nat) (x u y v z : List (Value × Value)) (f : Value) (a b m : Int) (h : RowAt w g 51 (x ++ u ++ y ++ v ++ z)) (hS : ∀ p ∈ x ++ u ++ y ++ v ++ z, IsSmp p) (hn : n = (x ++ u ++ y ++ v ++ z).length) (hl : n ≤ 100000) (huv : u.length = v.length)
    (ha : a = x.length) (hb : b = (x ++ u ++ y).length) (hm : m = u.length) :
    Calls Try.prog 81 #[.slice (some ⟨g, 0, none⟩) n c, .int .i64 a, .int .i64 b, .int .i64 m, f] w fun e w' => e = .returned (.tuple #[]) ∧ RowAt w' g 51 (x ++ v ++ y ++ u ++ z) ∧ w.grownBy w' (some g) := by
  obtain ⟨na, hna⟩ : ∃ n, n = x.length := ⟨_, rfl⟩
  obtain ⟨nb, hnb⟩ : ∃ n, n = (x ++ u ++ y).length := ⟨_, rfl⟩
  obtain ⟨nk, hnk⟩ : ∃ n, n = u.length := ⟨_, rfl⟩
  have hbn : nb + nk ≤ n := by rw [hnb, hnk, hn]; simp only [List.length_append]; omega
  have hab : na + nk ≤ nb := by rw [hna, hnb, hnk]; simp only [List.length_append]; omega
  rw [← hna] at ha
  rw [← hnb] at hb
  rw [← hnk] at hm
  subst ha hb hm
  have HNA := Lib.hid hna
  have HNB := Lib.hid hnb
  have HNK := Lib.hid hnk
  have HN := Lib.hid hn
  have H := Lib.hid h
  have HS := Lib.hid hS
  have HUV := Lib.hid huv
  clear h hn hna hnb hnk hS huv
  go_enter Try.func81, Try.ntmps81
  go_wp2_with fail
  go_loopw [10] (fun i wr => SwapSmpR w g x u y v z i wr) (fun i _ => nk - (intOf i).toNat)
  case atStart => exact ⟨0, Nat.zero_le _, rfl, by rw [swapped_zero]; exact H.out, only_refl _ _⟩
  case round =>
    obtain ⟨j, hj, rfl, hr, hg⟩ := hrel
    have hj2 : j ≤ nk := by rw [HNK.out]; exact hj
    have HR := Lib.hid hr
    have HG := Lib.hid hg
    by_cases hlt : j < nk
    · obtain ⟨p, q, hpu, hqv, hp, hq, hst⟩ := swapped_step x u y v z HUV.out (show j < u.length by rw [← HNK.out]; exact hlt)
      rw [← HNA.out] at hp hst
      rw [← HNB.out] at hq hst
      have x1 := hr.fst hp
      have x2 := hr.snd hp
      have y1 := hr.fst hq
      have y2 := hr.snd hq
      obtain ⟨⟨A1, e1⟩, A2, e2⟩ := HS.out _ (by simp [hpu] : p ∈ x ++ u ++ y ++ v ++ z)
      obtain ⟨⟨A3, e3⟩, A4, e4⟩ := HS.out _ (by simp [hqv] : q ∈ x ++ u ++ y ++ v ++ z)
      obtain ⟨p1, p2⟩ := p
      obtain ⟨q1, q2⟩ := q
      dsimp only at x1 x2 y1 y2 e1 e2 e3 e4
      subst e1 e2 e3 e4
      have hs1 : IntKind.i64.wrap ((na : Int) + (j : Int)) = (na : Int) + (j : Int) := IntWalk.i64_in _ (by omega)
      have hs2 : IntKind.i64.wrap ((nb : Int) + (j : Int)) = (nb : Int) + (j : Int) := IntWalk.i64_in _ (by omega)
      have HST := Lib.hid hst
      have z1 := hr.frozen ((na + j) * 2)
      have z2 := hr.frozen ((nb + j) * 2)
      have z3 := hr.frozen ((na + j) * 2 + 1)
      have z4 := hr.frozen ((nb + j) * 2 + 1)
      have hsl := swapped_len x u y v z HUV.out j (by rw [← HNK.out]; exact hj2)
      rw [← HN.out] at hsl
      have HSL := Lib.hid hsl
      clear hr hg hp hq hst hpu hqv hj hsl
      go_upto_region 3 with fail
      go_region
      clear x1 x2 y1 y2 z1 z2 z3 z4
      go_wp2
      refine ⟨⟨j + 1, by rw [← HNK.out]; exact hlt, by go_num, ?_, ?_⟩, by simp [intOf]; omega⟩
      · have h1 := (HR.out.set_ (na + j) (.int .i64 A3, .float .f64 A4) (by rw [HSL.out]; omega)).set_ (nb + j) (.int .i64 A1, .float .f64 A2) (by rw [List.length_set, HSL.out]; omega)
        rw [HST.out] at h1
        exact h1
      · exact only_drew (only_setCell (only_setCell (only_setCell (only_setCell HG.out (.inl rfl) _) (.inl rfl) _) (.inl rfl) _) (.inl rfl) _)
    · obtain rfl : j = nk := by omega
      rw [HNK.out, swapped_all _ _ _ _ _ HUV.out] at hr
      have HR2 := Lib.hid hr
      clear hr hg hj
      go_wp2
      go_end0
      exact ⟨rfl, HR2.out, HG.out⟩
end Go.Proofs.Ytnglejopbpnknaa
namespace Go.Proofs.Ytnglejopbpnknaa
open Go.RowKit
def RotSmpR (w : World) (g m : Nat) (fin : List (Value × Value)) (i j : Value) (wr : World) : Prop :=
  ∃ (A U V B : List (Value × Value)) (ci cj : Nat), ci = U.length ∧ cj = V.length ∧ i = .int .i64 ci ∧ j = .int .i64 cj ∧ 0 < ci ∧ 0 < cj ∧ A.length + ci = m ∧ A ++ V ++ U ++ B = fin ∧ RowAt wr g 51 (A ++ U ++ V ++ B) ∧ w.grownBy wr (some g)
set_option maxRecDepth 100000 in
set_option maxHeartbeats 3200000 in
theorem rot_smp (w : World) (g n c : Nat) (x u v z : List (Value × Value)) (f : Value) (a m b : Int) (h : RowAt w g 51 (x ++ u ++ v ++ z)) (hS : ∀ p ∈ x ++ u ++ v ++ z, IsSmp p) (hn : n = (x ++ u ++ v ++ z).length) (hl : n ≤ 100000) (hu : 0 < u.length) (hv : 0 < v.length)
    (ha : a = x.length) (hm : m = (x ++ u).length) (hb : b = (x ++ u ++ v).length) :
    Calls Try.prog 73 #[.slice (some ⟨g, 0, none⟩) n c, .int .i64 a, .int .i64 m, .int .i64 b, f] w fun e w' => e = .returned (.tuple #[]) ∧ RowAt w' g 51 (x ++ v ++ u ++ z) ∧ w.grownBy w' (some g) := by
  obtain ⟨na, hna⟩ : ∃ n, n = x.length := ⟨_, rfl⟩
  obtain ⟨ni, hni⟩ : ∃ n, n = u.length := ⟨_, rfl⟩
  obtain ⟨nj, hnj⟩ : ∃ n, n = v.length := ⟨_, rfl⟩
  obtain ⟨nm, hnm⟩ : ∃ k, k = na + ni := ⟨_, rfl⟩
  obtain ⟨nb, hnb⟩ : ∃ k, k = nm + nj := ⟨_, rfl⟩
  have hbn : nb ≤ n := by rw [hnb, hnm, hna, hni, hnj, hn]; simp only [List.length_append]; omega
  rw [← hna] at ha
  rw [show (x ++ u).length = nm by rw [List.length_append]; omega] at hm
  rw [show (x ++ u ++ v).length = nb by rw [List.length_append, List.length_append]; omega] at hb
  subst ha hm hb
  have hd1 : IntKind.i64.wrap ((nm : Int) - (na : Int)) = (ni : Int) := (IntWalk.i64_in _ (by omega)).trans (by omega)
  have hd2 : IntKind.i64.wrap ((nb : Int) - (nm : Int)) = (nj : Int) := (IntWalk.i64_in _ (by omega)).trans (by omega)
  obtain ⟨fin, hfin⟩ : ∃ fin, fin = x ++ v ++ u ++ z := ⟨_, rfl⟩
  have hSf : ∀ p ∈ fin, IsSmp p := fun p hp => hS p (by rw [hfin] at hp; simp only [List.mem_append] at hp ⊢; rcases hp with ((hp | hp) | hp) | hp <;> simp [hp])
  have hnf : n = fin.length := by rw [hn, hfin]; simp only [List.length_append]; omega
  rw [← hfin]
  have HI := Lib.hid (show RotSmpR w g nm fin (.int .i64 ni) (.int .i64 nj) w from ⟨x, u, v, z, ni, nj, hni, hnj, rfl, rfl, by omega, by omega, by omega, hfin.symm, h, only_refl _ _⟩)
  have HS := Lib.hid hSf
  have HN := Lib.hid hnf
  have hmn : nm ≤ n := by omega
  clear h hS hn hu hv hna hni hnj hnm hnb hfin hSf hnf hbn
  go_enter Try.func73, Try.ntmps73
  go_wp2_with fail
  clear hd1 hd2
  go_loopw [10, 11] (fun i j wr => RotSmpR w g nm fin i j wr) (fun i j _ => (intOf i).toNat + (intOf j).toNat)
  case atStart => exact HI.out
  case round =>
    obtain ⟨A, U, V, B, ci, cj, hci, hcj, rfl, rfl, hi0, hj0, hA, hF, hr, hg⟩ := hrel
    have hlen : A.length + ci + cj ≤ n := by
      rw [HN.out, ← hF, hci, hcj]
      simp only [List.length_append]
      omega
    have hmem : ∀ p, p ∈ A ++ U ++ V ++ B → IsSmp p := fun p hp => HS.out p (by rw [← hF]; simp only [List.mem_append] at hp ⊢; rcases hp with ((hp | hp) | hp) | hp <;> simp [hp])
    have hl4 : n = (A ++ U ++ V ++ B).length := by
      rw [HN.out, ← hF]
      simp only [List.length_append]
      omega
    obtain ⟨la, hla⟩ : ∃ k, k = A.length := ⟨_, rfl⟩
    rw [← hla] at hA hlen
    have e1 : IntKind.i64.wrap ((nm : Int) - (ci : Int)) = (la : Int) := (IntWalk.i64_in _ (by omega)).trans (by omega)
    have HR := Lib.hid hr
    have HG := Lib.hid hg
    have HF := Lib.hid hF
    have HM := Lib.hid hmem
    have HL := Lib.hid hl4
    have HLA := Lib.hid hla
    have HCI := Lib.hid hci
    have HCJ := Lib.hid hcj
    clear hr hg hF hmem hl4 hla hci hcj
    rcases Nat.lt_trichotomy ci cj with hlt | heq | hgt
    · -- the first is shorter
      have e2 : IntKind.i64.wrap ((nm : Int) + (cj : Int)) = (nm : Int) + (cj : Int) := IntWalk.i64_in _ (by omega)
      obtain ⟨nd, hnd⟩ : ∃ k, k = nm + cj - ci := ⟨_, rfl⟩
      have e3 : IntKind.i64.wrap ((nm : Int) + (cj : Int) - (ci : Int)) = (nd : Int) := (IntWalk.i64_in _ (by omega)).trans (by omega)
      obtain ⟨ne, hne⟩ : ∃ k, k = cj - ci := ⟨_, rfl⟩
      have e4 : IntKind.i64.wrap ((cj : Int) - (ci : Int)) = (ne : Int) := (IntWalk.i64_in _ (by omega)).trans (by omega)
      have hgt2 : ¬ (cj : Int) < (ci : Int) := by omega
      have hne2 : ¬ (ci : Int) = (cj : Int) := by omega
      have HND := Lib.hid hnd
      have HNE := Lib.hid hne
      clear hnd hne
      go_wp2_with fail
      refine (swap_smp wr g n c A U (V.take ne) (V.drop ne) B f la nd ci (by
          rw [List.append_assoc A U, List.append_assoc _ _ (V.drop ne), List.append_assoc U, List.take_append_drop, ← List.append_assoc]
          exact HR.out) (fun p hp => HM.out p (by
          have e : A ++ U ++ V ++ B = A ++ U ++ V.take ne ++ V.drop ne ++ B := by rw [List.append_assoc (A ++ U) (V.take ne), List.take_append_drop]
          rw [e]; exact hp)) (by
          have e : A ++ U ++ V ++ B = A ++ U ++ V.take ne ++ V.drop ne ++ B := by rw [List.append_assoc (A ++ U) (V.take ne), List.take_append_drop]
          rw [← e]; exact HL.out) (by omega) (by rw [List.length_drop]; have := HCI.out; have := HCJ.out; have := HNE.out; omega) (by rw [HLA.out]) (by
          have := HCI.out; have := HCJ.out; have := HNE.out; have := HND.out; have := HLA.out
          simp only [List.length_append, List.length_take]
          omega) (by rw [HCI.out])).mono ?_
      rintro e w2 ⟨rfl, hr2, hg2⟩
      have HR2 := Lib.hid hr2
      have HG2 := Lib.hid hg2
      clear hr2 hg2
      go_wp2
      refine ⟨⟨A, V.drop ne, V.take ne, U ++ B, ci, ne, by rw [List.length_drop]; have := HCJ.out; have := HNE.out; omega, by rw [List.length_take]; have := HCJ.out; have := HNE.out; omega, rfl, rfl, hi0, by have := HNE.out; omega, by rw [← HLA.out]; exact hA, ?_, ?_, only_trans HG.out HG2.out⟩, by have := HNE.out; simp [intOf]; omega⟩
      · rw [← HF.out, List.append_assoc A, List.take_append_drop]
        simp
      · have := HR2.out
        simpa using this
    · -- both are as long
      subst heq
      have hne2 : (ci : Int) = (ci : Int) := rfl
      go_wp2_with fail
      refine (swap_smp wr g n c A U [] V B f la nm ci (by rw [List.append_nil]; exact HR.out) (fun p hp => HM.out p (by rw [List.append_nil] at hp; exact hp)) (by rw [List.append_nil]; exact HL.out) (by omega) (by rw [← HCI.out, ← HCJ.out]) (by rw [HLA.out]) (by
          have := HCI.out; have := HLA.out
          simp only [List.length_append, List.length_nil]
          omega) (by rw [HCI.out])).mono ?_
      rintro e w2 ⟨rfl, hr2, hg2⟩
      have HR2 := Lib.hid hr2
      have HG2 := Lib.hid hg2
      clear hr2 hg2
      go_wp2
      go_end0
      refine ⟨rfl, ?_, only_trans HG.out HG2.out⟩
      have := HR2.out
      rw [List.append_nil, HF.out] at this
      exact this
    · -- the second is shorter
      obtain ⟨ne, hne⟩ : ∃ k, k = ci - cj := ⟨_, rfl⟩
      have e4 : IntKind.i64.wrap ((ci : Int) - (cj : Int)) = (ne : Int) := (IntWalk.i64_in _ (by omega)).trans (by omega)
      have hgt2 : (cj : Int) < (ci : Int) := by omega
      have hne2 : ¬ (ci : Int) = (cj : Int) := by omega
      have HNE := Lib.hid hne
      clear hne
      go_wp2_with fail
      refine (swap_smp wr g n c A (U.take cj) (U.drop cj) V B f la nm cj (by
          rw [List.append_assoc A, List.take_append_drop]
          exact HR.out) (fun p hp => HM.out p (by rw [List.append_assoc A, List.take_append_drop] at hp; exact hp)) (by rw [List.append_assoc A, List.take_append_drop]; exact HL.out) (by omega) (by rw [List.length_take]; have := HCI.out; have := HCJ.out; omega) (by rw [HLA.out]) (by
          have := HCI.out; have := HLA.out
          rw [List.append_assoc A, List.take_append_drop, List.length_append]
          omega) (by rw [List.length_take]; have := HCI.out; omega)).mono ?_
      rintro e w2 ⟨rfl, hr2, hg2⟩
      have HR2 := Lib.hid hr2
      have HG2 := Lib.hid hg2
      clear hr2 hg2
      go_wp2
      refine ⟨⟨A ++ V, U.drop cj, U.take cj, B, ne, cj, by rw [List.length_drop]; have := HCI.out; have := HNE.out; omega, by rw [List.length_take]; have := HCI.out; omega, rfl, rfl, by have := HNE.out; omega, hj0, by rw [List.length_append, ← HLA.out, ← HCJ.out]; have := HNE.out; omega, ?_, ?_, only_trans HG.out HG2.out⟩, by have := HNE.out; simp [intOf]; omega⟩
      · rw [← HF.out, List.append_assoc (A ++ V), List.take_append_drop]
      · exact HR2.out
end Go.Proofs.Ytnglejopbpnknaa
