/- The walk of (*chunk.Writer).value. -/
import Derived.Test.YtjlfkdopkhejbaaDoorWdod
import Derived.Test.YtjlfkdopkhejbaaDoorZeros
namespace Go.Proofs.YtjlfkdopkhejbaaDoor
open Go.RowKit Ck

theorem TabW.below {B : Nat} {w w' : World} (h : TabW w) (hb : Below B w w') (hB : 1 < B) : TabW w' :=
  fun j hj => (hb.cell (p := ⟨1, j, none⟩) hB).trans (h j hj)

theorem WrAt.put {w : World} {B : Nat} {s s' : St} {l : List Bool} (h : WrAt w B s l) (i : Nat) (u : Value)
    (he : ∀ raw used, (wrCells s raw used).setIfInBounds i u = wrCells s' raw used) : WrAt (w.setCell ⟨B, i, none⟩ u) B s' l := by
  obtain ⟨raw, hr⟩ := h
  have hb := hr.blk.set_ i u
  rw [he] at hb
  exact ⟨raw, hb, ownsRow_setCell_other hr.own (own_blk_ne hr.own hr.blk (by decide)) u⟩
section
variable {w : World} {B : Nat} {s : St} {l : List Bool}
theorem WrAt.setN (h : WrAt w B s l) (n : Nat) : WrAt (w.setCell ⟨B, 0, none⟩ (.int .i64 n)) B { s with n := n } l := h.put 0 _ (fun _ _ => rfl)
theorem WrAt.setT (h : WrAt w B s l) (t : Int) : WrAt (w.setCell ⟨B, 1, none⟩ (.int .i64 t)) B { s with t := t } l := h.put 1 _ (fun _ _ => rfl)
theorem WrAt.setD (h : WrAt w B s l) (d : Int) : WrAt (w.setCell ⟨B, 2, none⟩ (.int .i64 d)) B { s with delta := d } l := h.put 2 _ (fun _ _ => rfl)
theorem WrAt.setV (h : WrAt w B s l) (v : Nat) : WrAt (w.setCell ⟨B, 3, none⟩ (.int .u64 v)) B { s with v := v } l := h.put 3 _ (fun _ _ => rfl)
theorem WrAt.setLead (h : WrAt w B s l) (d : Int) : WrAt (w.setCell ⟨B, 4, none⟩ (.int .i64 d)) B { s with lead := d } l := h.put 4 _ (fun _ _ => rfl)
theorem WrAt.setTail (h : WrAt w B s l) (d : Int) : WrAt (w.setCell ⟨B, 5, none⟩ (.int .i64 d)) B { s with tail := d } l := h.put 5 _ (fun _ _ => rfl)
theorem WrAt.setOpn (h : WrAt w B s l) (b : Bool) : WrAt (w.setCell ⟨B, 6, none⟩ (.bool b)) B { s with opn := b } l := h.put 6 _ (fun _ _ => rfl)
theorem WrAt.cell (h : WrAt w B s l) (i : Nat) (_hi : i < 7) (v : Value) (hv : ∀ raw used, (wrCells s raw used)[i]? = some v) : w.cell? ⟨B, i, none⟩ = some v := by
  obtain ⟨raw, hr⟩ := h; rw [hr.blk.cell i]; exact hv _ _
theorem WrAt.frozen (h : WrAt w B s l) (i : Nat) : w.frozen? ⟨B, i, none⟩ = false := by obtain ⟨raw, hr⟩ := h; exact hr.blk.frozen i
end

set_option maxRecDepth 100000 in
set_option maxHeartbeats 800000 in
theorem wval_zero (B : Nat) (s : St) (l : List Bool) (w : World) (h : WrAt w B s l) (hl : l.length ≤ 99000) :
    Calls Tryd.prog 44 #[.pointer (some ⟨B, 0, none⟩), .int .u64 ((0 : Nat) : Int)] w fun e w' => e = .returned (.tuple #[]) ∧ WrAt w' B s (l ++ bitsOf 0 1) ∧ Wrote B w w' := by
  have H := Lib.hid h
  clear h
  go_enter Tryd.func44, Tryd.ntmps44
  go_wp2_with fail
  refine (put_int B s l _ _ _ H.out (by omega) (by omega) (by omega) (by omega) (by omega)).mono ?_
  rintro e w2 ⟨rfl, hr2, hg2⟩
  have HR2 := Lib.hid hr2
  have HW2 := Lib.hid hg2
  clear hr2 hg2
  go_wp2
  refine bodyPost_ret (results_none rfl _ _ _) rfl ?_
  exact ⟨rfl, HR2.out, HW2.out⟩

theorem WrAt.drewN_wrote {w : World} {B : Nat} {s : St} {l : List Bool} (_ : WrAt w B s l) (n : Nat) : Wrote B w (w.drewN n) := (Wrote.refl B w).drewN n

/-- is the window kept? -/
def keepB (s : St) (L T : Nat) : Bool := s.opn && decide (s.lead ≤ (L : Int)) && decide (s.tail ≤ (T : Int))

set_option maxRecDepth 100000 in
set_option maxHeartbeats 1600000 in
theorem wval_some (B : Nat) (s : St) (l : List Bool) (x : Nat) (w : World) (h : WrAt w B s l) (hs : s.fits) (hx : x < 2 ^ 64) (hx0 : x ≠ 0) (hl : l.length ≤ 99000) (hT : TabW w) (hB : 1 < B) :
    Calls Tryd.prog 44 #[.pointer (some ⟨B, 0, none⟩), .int .u64 (x : Int)] w fun e w' => e = .returned (.tuple #[]) ∧ WrAt w' B (valueBits s x).2 (l ++ (valueBits s x).1) ∧ Wrote B w w' := by
  have H := Lib.hid h
  have HS := Lib.hid hs
  have HT := Lib.hid hT
  have hxz : ((x : Int) == 0) = false := by simp; omega
  have HX0 := Lib.hid hx0
  clear h hs hT hx0
  go_enter Tryd.func44, Tryd.ntmps44
  go_wp2_with fail
  refine (put_int B s l _ _ _ H.out (by omega) (by omega) (by omega) (by omega) (by omega)).mono ?_
  rintro e w2 ⟨rfl, hr2, hg2⟩
  have HR2 := Lib.hid hr2
  have HW2 := Lib.hid hg2
  clear hr2 hg2
  go_wp2_with fail
  refine (lead_any x _ hx).mono ?_
  rintro e w2' ⟨rfl, rfl⟩
  have hcl := clz_ctz x HX0.out hx
  have hbt := between x (min (clz x) 31) (ctz x) HX0.out hx (by omega) (by omega)
  obtain ⟨C, hC⟩ : ∃ C, C = clz x := ⟨_, rfl⟩
  obtain ⟨T, hT⟩ : ∃ T, T = ctz x := ⟨_, rfl⟩
  rw [← hC, ← hT] at hcl hbt
  rw [← hC]
  have HC := Lib.hid hC
  have HTt := Lib.hid hT
  clear hC hT
  go_wp2_with fail
  refine (trail_any x _ hx HX0.out (HT.out.below HW2.out.below hB)).mono ?_
  rintro e w2' ⟨rfl, rfl⟩
  rw [← HTt.out]
  go_upto_region 4 with fail
  rw [show min (C : Int) 31 = ((min C 31 : Nat) : Int) by omega]
  obtain ⟨L, hL⟩ : ∃ L, L = min C 31 := ⟨_, rfl⟩
  rw [← hL] at hbt ⊢
  have hL31 : L ≤ 31 := by omega
  have HL := Lib.hid hL
  obtain ⟨hb1, hb2, hb3⟩ := hbt
  have HB1 := Lib.hid hb1
  have HB2 := Lib.hid hb2
  have c6 : w2.cell? ⟨B, 6, none⟩ = some (.bool s.opn) := HR2.out.cell 6 (by omega) _ (fun _ _ => rfl)
  have c4 : w2.cell? ⟨B, 4, none⟩ = some (.int .i64 s.lead) := HR2.out.cell 4 (by omega) _ (fun _ _ => rfl)
  have c5 : w2.cell? ⟨B, 5, none⟩ = some (.int .i64 s.tail) := HR2.out.cell 5 (by omega) _ (fun _ _ => rfl)
  clear hb1 hb2 hL
  go_cut [39] (fun s39 wx => s39 = .bool (keepB s L T) ∧ w2 = wx)
  case first =>
    cases ho : s.opn with
    | false =>
      rw [ho] at c6
      have hk : keepB s L T = false := by simp [keepB, ho]
      have HK := Lib.hid hk
      clear hk ho
      go_wp2
      go_meet
      case rel => exact ⟨by rw [HK.out], rfl⟩
    | true =>
      rw [ho] at c6
      by_cases h1 : s.lead ≤ (L : Int)
      · by_cases h2 : s.tail ≤ (T : Int)
        · have hk : keepB s L T = true := by simp [keepB, ho, h1, h2]
          have HK := Lib.hid hk
          clear hk ho
          go_wp2
          go_meet
          case rel => refine ⟨?_, rfl⟩; rw [HK.out]; try (simp; omega)
        · have hk : keepB s L T = false := by simp [keepB, ho, h1, h2]
          have h2' : (T : Int) < s.tail := by omega
          have HK := Lib.hid hk
          clear hk ho h2
          go_wp2
          go_meet
          case rel => refine ⟨?_, rfl⟩; rw [HK.out]; try (simp; omega)
      · have hk : keepB s L T = false := by simp [keepB, ho, h1]
        have h1' : (L : Int) < s.lead := by omega
        have HK := Lib.hid hk
        clear hk ho h1
        go_wp2
        go_meet
        case rel => refine ⟨?_, rfl⟩; rw [HK.out]; try (simp; omega)
  case rest =>
    obtain ⟨rfl, rfl⟩ := hcut
    cases hk : keepB s L T with
    | true =>
      have hopn : s.opn = true := by unfold keepB at hk; simp at hk; exact hk.1.1
      have hkl : s.lead ≤ (L : Int) := by unfold keepB at hk; simp at hk; exact hk.1.2
      have hkt : s.tail ≤ (T : Int) := by unfold keepB at hk; simp at hk; exact hk.2
      obtain ⟨q1, q2, q3⟩ := HS.out hopn
      obtain ⟨lN, hlN⟩ := Int.eq_ofNat_of_zero_le q1
      obtain ⟨tN, htN⟩ := Int.eq_ofNat_of_zero_le q2
      have hbt2 := between x lN tN HX0.out hx (by have := HL.out; have := HC.out; omega) (by have := HTt.out; omega)
      have hV : valueBits s x = (bitsOf 1 1 ++ (bitsOf 0 1 ++ bitsOf (x / 2 ^ tN) (64 - lN - tN)), s) := by
        unfold valueBits
        rw [if_neg HX0.out, if_pos ⟨hopn, by rw [← HC.out, ← HL.out]; exact hkl, by rw [← HTt.out]; exact hkt⟩]
        rw [hlN, htN, Int.toNat_natCast, show ((64 : Int) - (lN : Int) - (tN : Int)).toNat = 64 - lN - tN by omega]
      have HV := Lib.hid hV
      have hlt3 : lN + tN ≤ 63 := by omega
      have HLN := Lib.hid hlN
      have HTN := Lib.hid htN
      have hxs : x / 2 ^ tN < 18446744073709551616 := Nat.lt_of_le_of_lt (Nat.div_le_self _ _) hx
      clear hk hopn hkl hkt q1 q2 q3 hlN htN hbt2 hV c4 c5 c6
      go_wp2_with fail
      refine (put_int B s _ _ _ _ HR2.out (by omega) (by omega) (by omega) (by omega) (by simp [bitsOf_length]; omega)).mono ?_
      rintro e w3 ⟨rfl, hr3, hg3⟩
      have HR3 := Lib.hid hr3
      have HW3 := Lib.hid (HW2.out.trans hg3)
      have c4 : w3.cell? ⟨B, 4, none⟩ = some (.int .i64 (lN : Int)) := by rw [← HLN.out]; exact HR3.out.cell 4 (by omega) _ (fun _ _ => rfl)
      have c5 : w3.cell? ⟨B, 5, none⟩ = some (.int .i64 (tN : Int)) := by rw [← HTN.out]; exact HR3.out.cell 5 (by omega) _ (fun _ _ => rfl)
      clear hr3 hg3
      go_wp2_with fail
      obtain ⟨y, hy⟩ : ∃ y, y = x / 2 ^ tN := ⟨_, rfl⟩
      have ed : ((x : Int) / 2 ^ tN) = ((y : Nat) : Int) := by rw [hy]; norm_cast
      rw [← hy] at hxs HV
      have ED := Lib.hid ed
      clear ed hy
      go_region_held3 (fun w' => w'.cell? ⟨B, 4, none⟩ = some (.int .i64 (lN : Int)) ∧ w'.cell? ⟨B, 5, none⟩ = some (.int .i64 (tN : Int)))
        (first | exact ⟨c4, c5⟩ | exact ⟨d4, d5⟩)
        (first | (go_at_call 42; rw [IntWalk.i64_in (64 - (lN : Int)) (by omega), IntWalk.i64_in (64 - (lN : Int) - (tN : Int)) (by omega), ED.out]; refine (put_int B s _ _ _ _ (HR3.out.drewN 1) (by omega) (by omega) (by omega) (by omega) (by simp [bitsOf_length]; omega)).mono ?_; rintro e w4 ⟨rfl, hr4, hg4⟩; have HR4 := Lib.hid hr4; have HW4 := Lib.hid hg4; clear hr4 hg4; have d4 : w4.cell? ⟨B, 4, none⟩ = some (.int .i64 (lN : Int)) := (by rw [← HLN.out]; exact HR4.out.cell 4 (by omega) _ (fun _ _ => rfl)); have d5 : w4.cell? ⟨B, 5, none⟩ = some (.int .i64 (tN : Int)) := (by rw [← HTN.out]; exact HR4.out.cell 5 (by omega) _ (fun _ _ => rfl))))
      clear c4 c5 d4 d5
      go_wp2
      refine bodyPost_ret (results_none rfl _ _ _) rfl ?_
      rw [HV.out]
      refine ⟨rfl, ?_, (HW3.out.trans (HR3.out.drewN_wrote 1)).trans HW4.out⟩
      have := HR4.out
      rw [Int.toNat_natCast, show ((64 : Int) - (lN : Int) - (tN : Int)).toNat = 64 - lN - tN by omega, List.append_assoc, List.append_assoc] at this
      exact this
    | false =>
      have f6 := HR2.out.frozen 6
      have f4 := HR2.out.frozen 4
      have f5 := HR2.out.frozen 5
      have hV : valueBits s x = (bitsOf 1 1 ++ (bitsOf 1 1 ++ (bitsOf L 5 ++ (bitsOf (63 - L - T) 6 ++ bitsOf (x / 2 ^ T) (64 - L - T)))), { s with lead := (L : Int), tail := (T : Int), opn := true }) := by
        unfold valueBits
        rw [if_neg HX0.out, if_neg]
        · rw [← HC.out, ← HTt.out, ← HL.out, show ((64 : Int) - (L : Int) - (T : Int) - 1).toNat = 63 - L - T by omega, show ((64 : Int) - (L : Int) - (T : Int)).toNat = 64 - L - T by omega]
        · rw [← HC.out, ← HTt.out, ← HL.out]
          intro ⟨h1, h2, h3⟩
          have : keepB s L T = true := by simp [keepB, h1, h2, h3]
          rw [hk] at this
          cases this
      have HV := Lib.hid hV
      have HR3 := Lib.hid (((HR2.out.setOpn true).setLead (L : Int)).setTail (T : Int))
      have HW3 := Lib.hid (((HW2.out.put 6 (.bool true)).put 4 (.int .i64 (L : Int))).put 5 (.int .i64 (T : Int)))
      obtain ⟨y, hy⟩ : ∃ y, y = x / 2 ^ T := ⟨_, rfl⟩
      have ed : ((x : Int) / 2 ^ T) = ((y : Nat) : Int) := by rw [hy]; norm_cast
      have hxs : y < 18446744073709551616 := by rw [hy]; exact Nat.lt_of_le_of_lt (Nat.div_le_self _ _) hx
      rw [← hy] at HV
      have ED := Lib.hid ed
      clear ed hV hk hy
      go_wp2_with fail
      refine (put_int B _ _ _ _ _ HR3.out (by omega) (by omega) (by omega) (by omega) (by simp [bitsOf_length]; omega)).mono ?_
      rintro e w4 ⟨rfl, hr4, hg4⟩
      have HR4 := Lib.hid hr4
      have HW4 := Lib.hid (HW3.out.trans hg4)
      clear hr4 hg4 c4 c5 c6 f4 f5 f6
      go_wp2_with fail
      refine (put_int B _ _ _ _ _ HR4.out (by omega) (by omega) (by omega) (by omega) (by simp [bitsOf_length]; omega)).mono ?_
      rintro e w5 ⟨rfl, hr5, hg5⟩
      have HR5 := Lib.hid hr5
      have HW5 := Lib.hid (HW4.out.trans hg5)
      clear hr5 hg5
      go_wp2_with fail
      refine (put_int B _ _ _ _ _ HR5.out (by omega) (by omega) (by omega) (by omega) (by simp [bitsOf_length]; omega)).mono ?_
      rintro e w6 ⟨rfl, hr6, hg6⟩
      have HR6 := Lib.hid hr6
      have HW6 := Lib.hid (HW5.out.trans hg6)
      clear hr6 hg6
      go_wp2_with fail
      rw [ED.out]
      refine (put_int B _ _ _ _ _ HR6.out (by omega) (by omega) (by omega) (by omega) (by simp [bitsOf_length]; omega)).mono ?_
      rintro e w7 ⟨rfl, hr7, hg7⟩
      have HR7 := Lib.hid hr7
      have HW7 := Lib.hid (HW6.out.trans hg7)
      clear hr7 hg7
      go_wp2
      go_end0
      rw [HV.out]
      refine ⟨rfl, ?_, HW7.out⟩
      have := HR7.out
      rw [Int.toNat_natCast, Int.toNat_natCast, show ((64 : Int) - (L : Int) - (T : Int) - 1).toNat = 63 - L - T by omega, show ((64 : Int) - (L : Int) - (T : Int)).toNat = 64 - L - T by omega] at this
      simp only [List.append_assoc] at this
      exact this

theorem wval_any (B : Nat) (s : St) (l : List Bool) (x : Nat) (w : World) (h : WrAt w B s l) (hs : s.fits) (hx : x < 2 ^ 64) (hl : l.length ≤ 99000) (hT : TabW w) (hB : 1 < B) :
    Calls Tryd.prog 44 #[.pointer (some ⟨B, 0, none⟩), .int .u64 (x : Int)] w fun e w' => e = .returned (.tuple #[]) ∧ WrAt w' B (valueBits s x).2 (l ++ (valueBits s x).1) ∧ Wrote B w w' := by
  by_cases hx0 : x = 0
  · subst hx0
    exact wval_zero B s l w h hl
  · exact wval_some B s l x w h hs hx hx0 hl hT hB
end Go.Proofs.YtjlfkdopkhejbaaDoor
