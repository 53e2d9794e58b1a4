/- The walk of the law CompactBins. -/
import Derived.Test.YtnglejopbpnknaaCuts
namespace Go.Proofs.Ytnglejopbpnknaa
open Go.RowKit Go.Shelf Go.Lib Go.Sort

theorem keepwithin_any (n m : Int) (w : World) (hm : 1 ≤ m) (hm2 : m ≤ 4611686018427387904) : Calls Try.prog 11 #[.int .i64 n, .int .i64 m] w fun e w' => e = .returned (.int .i64 (n % m)) ∧ w = w' := by
  have HR := Lib.hid (rem_facts n m hm)
  have hne : m ≠ 0 := by omega
  obtain ⟨f, hf⟩ : ∃ f, f = n % m := ⟨_, rfl⟩
  have HF := Lib.hid hf
  rw [← hf]
  clear hf
  go_enter Try.func11, Try.ntmps11
  go_wp2
  all_goals
    refine bodyPost_ret (results_tmp rfl _ _ _) rfl ?_
    refine ⟨ret_int ?_, rfl⟩
    have h2 := HF.out
    have h4 := HR.out
    obtain ⟨r1, r2, r3, r4⟩ := h4
    generalize n.tmod m = k at *
    generalize n % m = j at *
    try unfold wrap64
    first
      | (have r5 := r3 (by omega); omega)
      | (have r5 := r4 (by omega); omega)

/-- Floor, where nothing is cut off -/
theorem floor_in (a wd : Int) (ha : -562949953421312 ≤ a ∧ a ≤ 1125899906842624) (hw : 1 ≤ wd) : floorZ a wd = a - a % wd := by
  unfold floorZ
  rw [show clampT a = a by unfold clampT; omega, show wideT wd = wd by unfold wideT; omega]
theorem mod_zero_tmod (x wd : Int) (h : x % wd = 0) : x.tmod wd = 0 := by
  exact Int.tmod_eq_zero_of_dvd (Int.dvd_of_emod_eq_zero h)

structure BinF (a b wd x y : Int) : Prop where
  le : x ≤ a
  lt : a - x < wd
  low : -562949953421312 - 1099511627776 ≤ x
  rem : x.tmod wd = 0
  same : floorZ x wd = x
  top : floorZ (x + wd - 1) wd = x
  mono : a ≤ b → x ≤ y
  near : x = y → a - b < wd ∧ b - a < wd

theorem bin_facts (a b wd : Int) (ha : -562949953421312 ≤ a ∧ a < 562949953421312) (hb : -562949953421312 ≤ b ∧ b < 562949953421312) (hw : 1 ≤ wd ∧ wd ≤ 1099511627776) : BinF a b wd (floorZ a wd) (floorZ b wd) := by
  have h1 := Int.emod_lt_of_pos a (show 0 < wd by omega)
  have h2 := Int.emod_nonneg a (show wd ≠ 0 by omega)
  have h3 := Int.emod_lt_of_pos b (show 0 < wd by omega)
  have h4 := Int.emod_nonneg b (show wd ≠ 0 by omega)
  have e1 := Int.emod_add_mul_ediv a wd
  have e2 := Int.emod_add_mul_ediv b wd
  have fa := floor_in a wd (by omega) hw.1
  have fb := floor_in b wd (by omega) hw.1
  have hz : (a - a % wd) % wd = 0 := by
    rw [show a - a % wd = wd * (a / wd) by omega]
    exact Int.mul_emod_right _ _
  have hz2 : (a - a % wd + wd - 1) % wd = wd - 1 := by
    rw [show a - a % wd + wd - 1 = (wd - 1) + wd * (a / wd) by omega, Int.add_mul_emod_self_left]
    exact Int.emod_eq_of_lt (by omega) (by omega)
  rw [fa, fb]
  refine ⟨by omega, by omega, by omega, mod_zero_tmod _ _ hz, ?_, ?_, ?_, ?_⟩
  · have : -562949953421312 ≤ a - a % wd ∨ a - a % wd < -562949953421312 := by omega
    unfold floorZ
    rw [show clampT (a - a % wd) = a - a % wd by unfold clampT; omega, show wideT wd = wd by unfold wideT; omega, hz]
    omega
  · unfold floorZ
    rw [show clampT (a - a % wd + wd - 1) = a - a % wd + wd - 1 by unfold clampT; omega, show wideT wd = wd by unfold wideT; omega, hz2]
    omega
  · intro hab
    have h5 : a / wd ≤ b / wd := Int.ediv_le_ediv (by omega) hab
    have h6 := Int.mul_le_mul_of_nonneg_left h5 (show 0 ≤ wd by omega)
    omega
  · intro he
    omega

theorem bins_len (a b wd : Int) (hb : -562949953421312 ≤ b ∧ b < 562949953421312) (ha : -562949953421312 ≤ a ∧ a < 562949953421312) (hw : 1 ≤ wd ∧ wd ≤ 1099511627776) (l : List Int) (h : IsCuts [a, b, a] 4503599627370496 wd l) :
    (floorZ a wd = floorZ b wd → l.length = 1) ∧ (floorZ a wd ≠ floorZ b wd → l.length = 2) := by
  have f1 := bin_facts a b wd ha hb hw
  have f2 := bin_facts b a wd hb ha hw
  have hwd : wideT wd = wd := by unfold wideT; omega
  have hcl : clampT 4503599627370496 = 4503599627370496 := by decide
  have hcut : cutF 4503599627370496 wd [a, b, a] = [floorZ a wd, floorZ b wd, floorZ a wd] := by
    have h1 := f1.le
    have h2 := f2.le
    have k1 : decide (floorZ a wd + wideT wd ≤ clampT 4503599627370496 - wideT wd / 2) = true := by rw [hwd, hcl]; simp; omega
    have k2 : decide (floorZ b wd + wideT wd ≤ clampT 4503599627370496 - wideT wd / 2) = true := by rw [hwd, hcl]; simp; omega
    unfold cutF
    simp only [List.map_cons, List.map_nil, List.filter_cons, k1, k2, if_true, List.filter_nil]
  have hlim : wideT wd < 36028797018963968 := by omega
  generalize floorZ a wd = x at *
  generalize floorZ b wd = y at *
  constructor
  · rintro rfl
    have : IsCuts [a, b, a] 4503599627370496 wd [x] := ⟨by simp, fun c => by rw [hcut]; simp [hlim]⟩
    rw [h.unique this]; rfl
  · intro hne
    rcases Int.lt_or_gt_of_ne hne with hlt | hgt
    · have : IsCuts [a, b, a] 4503599627370496 wd [x, y] := ⟨by simp [hlt], fun c => by
        rw [hcut]; simp only [List.mem_cons, List.not_mem_nil, or_false, hlim, true_and]
        exact ⟨fun h => h.elim .inl (fun h => .inr (.inl h)), fun h => h.elim .inl (fun h => h.elim .inr .inl)⟩⟩
      rw [h.unique this]; rfl
    · have : IsCuts [a, b, a] 4503599627370496 wd [y, x] := ⟨by simp [hgt], fun c => by
        rw [hcut]; simp only [List.mem_cons, List.not_mem_nil, or_false, hlim, true_and]
        exact ⟨fun h => h.elim (fun h => .inr (.inl h)) .inl, fun h => h.elim .inr (fun h => h.elim .inl .inr)⟩⟩
      rw [h.unique this]; rfl
theorem reads_three (w : World) (t : TypeId) (a b c : Int) : Reads (w.alloc (.cells #[.int .i64 a, .int .i64 b, .int .i64 c] t)) (w.alloc (.cells #[.int .i64 a, .int .i64 b, .int .i64 c] t)).heap.size 1 (some ⟨w.heap.size, 0, none⟩) 3 ([a, b, c].map (Value.int .i64)) := by
  have hb := Blk.new w t #[.int .i64 a, .int .i64 b, .int .i64 c]
  refine ⟨rfl, fun _ => ⟨_, rfl, hb.lt, fun j u hu => ?_⟩⟩
  have e : (⟨w.heap.size, 0, none⟩ : Addr).add j = ⟨w.heap.size, j, none⟩ := by unfold Addr.add; split <;> simp_all
  rw [e, hb.cell j]
  match j with
  | 0 => exact hu
  | 1 => exact hu
  | 2 => exact hu
  | j + 3 => cases hu

set_option maxRecDepth 100000 in
set_option maxHeartbeats 3200000 in
theorem bins_any (a0 b0 w0 : Int) (w : World) : Calls Try.prog 5 #[.int .i64 a0, .int .i64 b0, .int .i64 w0] w fun e w' => e = .returned (.bool true) ∧ Below w.heap.size w w' := by
  have hw := Int.emod_lt_of_pos w0 (show 0 < (1099511627776 : Int) by omega)
  have hw' := Int.emod_nonneg w0 (show (1099511627776 : Int) ≠ 0 by omega)
  have ha := Int.emod_lt_of_pos a0 (show 0 < (1125899906842624 : Int) by omega)
  have ha' := Int.emod_nonneg a0 (show (1125899906842624 : Int) ≠ 0 by omega)
  have hb := Int.emod_lt_of_pos b0 (show 0 < (1125899906842624 : Int) by omega)
  have hb' := Int.emod_nonneg b0 (show (1125899906842624 : Int) ≠ 0 by omega)
  obtain ⟨i0, hi, hz0, hz1, hz2⟩ := info_parts info3
  go_enter Try.func5, Try.ntmps5
  go_wp2_with fail
  refine (keepwithin_any w0 1099511627776 w (by omega) (by omega)).mono ?_
  rintro e w' ⟨rfl, rfl⟩
  generalize w0 % 1099511627776 = v at *
  go_wp2_with fail
  refine (keepwithin_any a0 1125899906842624 w (by omega) (by omega)).mono ?_
  rintro e w' ⟨rfl, rfl⟩
  generalize a0 % 1125899906842624 = p at *
  go_wp2_with fail
  refine (keepwithin_any b0 1125899906842624 w (by omega) (by omega)).mono ?_
  rintro e w' ⟨rfl, rfl⟩
  generalize b0 % 1125899906842624 = q at *
  obtain ⟨wd, hwd⟩ : ∃ wd, wd = 1 + v := ⟨_, rfl⟩
  obtain ⟨a, hae⟩ : ∃ a, a = p - 562949953421312 := ⟨_, rfl⟩
  obtain ⟨b, hbe⟩ : ∃ b, b = q - 562949953421312 := ⟨_, rfl⟩
  go_upto_region 3 with fail
  rw [← hwd, ← hae, ← hbe]
  have qa : -562949953421312 ≤ a ∧ a < 562949953421312 := by omega
  have qb : -562949953421312 ≤ b ∧ b < 562949953421312 := by omega
  have qw : 1 ≤ wd ∧ wd ≤ 1099511627776 := by omega
  clear hwd hae hbe hw hw' ha ha' hb hb'
  have HF := Lib.hid (bin_facts a b wd qa qb qw)
  have HG := Lib.hid (bin_facts b a wd qb qa qw)
  have HL := Lib.hid (bins_len a b wd qb qa qw)
  go_wp2_with fail
  refine (floor_any a wd w (by omega)).mono ?_
  rintro e w' ⟨rfl, rfl⟩
  go_wp2_with fail
  refine (floor_any b wd w (by omega)).mono ?_
  rintro e w' ⟨rfl, rfl⟩
  generalize floorZ a wd = x at *
  generalize floorZ b wd = y at *
  have x1 := HF.out.le
  have x2 := HF.out.lt
  have y1 := HG.out.le
  have y2 := HG.out.lt
  have hmo := HF.out.mono
  have hno := HG.out.mono
  have hne := HF.out.near
  have t1 := HF.out.rem
  have HM := Lib.hid hmo
  have HN := Lib.hid hno
  have HE := Lib.hid hne
  clear hmo hno hne
  have u0 : wd ≠ 0 := by omega
  go_upto_region 4 with fail
  rcases Int.lt_trichotomy x y with hxy | hxy | hxy
  case inl =>
    have hab : a < b := by
      rcases Int.lt_or_le a b with h | h
      · exact h
      · have := HN.out h; omega
    have hn1 : (x == y) = false := by simp; omega
    have hn2 : (x != y) = true := by simp; omega
    go_wp2_with fail
    refine (floor_any x wd w (by omega)).mono ?_
    rintro e w' ⟨rfl, rfl⟩
    rw [HF.out.same]
    go_wp2_with fail
    refine (floor_any (x + wd - 1) wd w (by omega)).mono ?_
    rintro e w' ⟨rfl, rfl⟩
    rw [HF.out.top]
    go_wp2_with fail
    obtain ⟨w1, hw1⟩ : ∃ w1, w.alloc (.cells #[.int .i64 a, .int .i64 b, .int .i64 a] 3) = w1 := ⟨_, rfl⟩
    have hs1 : w1.heap.size = w.heap.size + 1 := by rw [← hw1]; simp
    have hb1 : Below w.heap.size w w1 := by rw [← hw1]; exact (Below.refl _ w).alloc (Nat.le_refl _) _
    have hR : Reads w1 w1.heap.size 1 (some ⟨w.heap.size, 0, none⟩) 3 ([a, b, a].map (Value.int .i64)) := by rw [← hw1]; exact reads_three w 3 a b a
    rw [hw1]
    clear hw1
    refine (cuts_any (some ⟨w.heap.size, 0, none⟩) 3 3 [a, b, a] 4503599627370496 wd w1 hR (by omega) (by omega)).mono ?_
    rintro e w2 ⟨v2, l, rfl, ho2, -, hcu, hb2⟩
    have hll := HL.out l hcu
    obtain ⟨A2, c2, rfl⟩ := own_slice ho2
    have HB2 := Lib.hid (hb1.trans (hb2.mono (by omega)))
    obtain ⟨n2, hn2⟩ : ∃ n2, n2 = l.length := ⟨_, rfl⟩
    rw [← hn2] at hll ⊢
    clear ho2 hcu hb1 hb2 hR hn2
    obtain rfl : n2 = 2 := hll.2 (by omega)
    clear hll
    go_wp2_with fail
    refine (wakes_any w2).mono ?_
    rintro e w3 ⟨rfl, hb3⟩
    have HB3 := Lib.hid (HB2.out.trans (hb3.mono HB2.out.size))
    clear hb3
    go_wp2
    go_ret
    exact ⟨rfl, HB3.out⟩
  case inr.inl =>
    subst hxy
    obtain ⟨d1, d2⟩ := HE.out rfl
    rcases Int.lt_or_le b a with hab | hab
    all_goals
      go_wp2_with fail
      refine (floor_any x wd w (by omega)).mono ?_
      rintro e w' ⟨rfl, rfl⟩
      rw [HF.out.same]
      go_wp2_with fail
      refine (floor_any (x + wd - 1) wd w (by omega)).mono ?_
      rintro e w' ⟨rfl, rfl⟩
      rw [HF.out.top]
      go_wp2_with fail
      obtain ⟨w1, hw1⟩ : ∃ w1, w.alloc (.cells #[.int .i64 a, .int .i64 b, .int .i64 a] 3) = w1 := ⟨_, rfl⟩
      have hs1 : w1.heap.size = w.heap.size + 1 := by rw [← hw1]; simp
      have hb1 : Below w.heap.size w w1 := by rw [← hw1]; exact (Below.refl _ w).alloc (Nat.le_refl _) _
      have hR : Reads w1 w1.heap.size 1 (some ⟨w.heap.size, 0, none⟩) 3 ([a, b, a].map (Value.int .i64)) := by rw [← hw1]; exact reads_three w 3 a b a
      rw [hw1]
      clear hw1
      refine (cuts_any (some ⟨w.heap.size, 0, none⟩) 3 3 [a, b, a] 4503599627370496 wd w1 hR (by omega) (by omega)).mono ?_
      rintro e w2 ⟨v2, l, rfl, ho2, -, hcu, hb2⟩
      have hll := HL.out l hcu
      obtain ⟨A2, c2, rfl⟩ := own_slice ho2
      have HB2 := Lib.hid (hb1.trans (hb2.mono (by omega)))
      obtain ⟨n2, hn2⟩ : ∃ n2, n2 = l.length := ⟨_, rfl⟩
      rw [← hn2] at hll ⊢
      clear ho2 hcu hb1 hb2 hR hn2
      obtain rfl : n2 = 1 := hll.1 trivial
      clear hll
      go_wp2_with fail
      refine (wakes_any w2).mono ?_
      rintro e w3 ⟨rfl, hb3⟩
      have HB3 := Lib.hid (HB2.out.trans (hb3.mono HB2.out.size))
      clear hb3
      go_wp2
      go_ret
      exact ⟨rfl, HB3.out⟩
  case inr.inr =>
    have hab : b < a := by
      rcases Int.lt_or_le b a with h | h
      · exact h
      · have := HM.out h; omega
    have hn1 : (x == y) = false := by simp; omega
    have hn2 : (x != y) = true := by simp; omega
    go_wp2_with fail
    refine (floor_any x wd w (by omega)).mono ?_
    rintro e w' ⟨rfl, rfl⟩
    rw [HF.out.same]
    go_wp2_with fail
    refine (floor_any (x + wd - 1) wd w (by omega)).mono ?_
    rintro e w' ⟨rfl, rfl⟩
    rw [HF.out.top]
    go_wp2_with fail
    obtain ⟨w1, hw1⟩ : ∃ w1, w.alloc (.cells #[.int .i64 a, .int .i64 b, .int .i64 a] 3) = w1 := ⟨_, rfl⟩
    have hs1 : w1.heap.size = w.heap.size + 1 := by rw [← hw1]; simp
    have hb1 : Below w.heap.size w w1 := by rw [← hw1]; exact (Below.refl _ w).alloc (Nat.le_refl _) _
    have hR : Reads w1 w1.heap.size 1 (some ⟨w.heap.size, 0, none⟩) 3 ([a, b, a].map (Value.int .i64)) := by rw [← hw1]; exact reads_three w 3 a b a
    rw [hw1]
    clear hw1
    refine (cuts_any (some ⟨w.heap.size, 0, none⟩) 3 3 [a, b, a] 4503599627370496 wd w1 hR (by omega) (by omega)).mono ?_
    rintro e w2 ⟨v2, l, rfl, ho2, -, hcu, hb2⟩
    have hll := HL.out l hcu
    obtain ⟨A2, c2, rfl⟩ := own_slice ho2
    have HB2 := Lib.hid (hb1.trans (hb2.mono (by omega)))
    obtain ⟨n2, hn2⟩ : ∃ n2, n2 = l.length := ⟨_, rfl⟩
    rw [← hn2] at hll ⊢
    clear ho2 hcu hb1 hb2 hR hn2
    obtain rfl : n2 = 2 := hll.2 (by omega)
    clear hll
    go_wp2_with fail
    refine (wakes_any w2).mono ?_
    rintro e w3 ⟨rfl, hb3⟩
    have HB3 := Lib.hid (HB2.out.trans (hb3.mono HB2.out.size))
    clear hb3
    go_wp2
    go_ret
    exact ⟨rfl, HB3.out⟩
end Go.Proofs.Ytnglejopbpnknaa
