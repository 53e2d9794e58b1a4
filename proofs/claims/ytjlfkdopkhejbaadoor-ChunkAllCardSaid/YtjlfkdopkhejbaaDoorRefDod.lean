/- The walk of the keep's own (*bits).dod. -/
import Derived.Test.YtjlfkdopkhejbaaDoorRefPut
namespace Go.Proofs.YtjlfkdopkhejbaaDoor
open Go.RowKit Go.Shelf Ck
attribute [local go_sem] frombits_call tobits_call run_store_float

/-- the keep's row of bits lies in block B -/
def RefS (w : World) (B : Nat) (l : List Bool) : Prop := ∃ raw, RefAt w B l raw
theorem RefS.lt {w : World} {B : Nat} {l : List Bool} (h : RefS w B l) : B < w.heap.size := let ⟨_, hr⟩ := h; hr.blk.lt

theorem refput_int (B : Nat) (l : List Bool) (x size : Int) (w : World) (h : RefS w B l) (h0 : 0 ≤ size) (h1 : size ≤ 64) (hx0 : 0 ≤ x) (hx : x ≤ 18446744073709551615) (hl : l.length ≤ 100000) :
    Calls Tryd.prog 39 #[.pointer (some ⟨B, 0, none⟩), .int .u64 x, .int .i64 size] w fun e w' => e = .returned (.tuple #[]) ∧ RefS w' B (l ++ bitsOf x.toNat size.toNat) ∧ Below B w w' := by
  obtain ⟨n, rfl⟩ := Int.eq_ofNat_of_zero_le hx0
  exact refput_any B l n size w h h0 h1 (by omega) hl

set_option maxRecDepth 100000 in
set_option maxHeartbeats 1600000 in
theorem refdod_any (B : Nat) (l : List Bool) (x : Int) (w : World) (h : RefS w B l) (hx : -9223372036854775808 ≤ x) (hx2 : x ≤ 9223372036854775807) (hl : l.length ≤ 99000) :
    Calls Tryd.prog 40 #[.pointer (some ⟨B, 0, none⟩), .int .i64 x] w fun e w' => e = .returned (.tuple #[]) ∧ RefS w' B (l ++ dodBits x) ∧ Below B w w' := by
  have H := Lib.hid h
  clear h
  have hd1 : (-63 ≤ x ∧ x ≤ 64) → x ≠ 0 → dodBits x = bitsOf 2 2 ++ bitsOf (x + 63).toNat 7 := fun a b => by unfold dodBits; rw [if_neg b, if_pos a]
  have hd2 : ¬ (-63 ≤ x ∧ x ≤ 64) → (-255 ≤ x ∧ x ≤ 256) → dodBits x = bitsOf 6 3 ++ bitsOf (x + 255).toNat 9 := fun a b => by unfold dodBits; rw [if_neg (by omega), if_neg a, if_pos b]
  have hd3 : ¬ (-255 ≤ x ∧ x ≤ 256) → (-2047 ≤ x ∧ x ≤ 2048) → dodBits x = bitsOf 14 4 ++ bitsOf (x + 2047).toNat 12 := fun a b => by unfold dodBits; rw [if_neg (by omega), if_neg (by omega), if_neg a, if_pos b]
  have hd4 : ¬ (-2047 ≤ x ∧ x ≤ 2048) → dodBits x = bitsOf 15 4 ++ bitsOf (u64 x) 64 := fun a => by unfold dodBits; rw [if_neg (by omega), if_neg (by omega), if_neg (by omega), if_neg a]
  have D1 := Lib.hid hd1
  have D2 := Lib.hid hd2
  have D3 := Lib.hid hd3
  have D4 := Lib.hid hd4
  have HU := Lib.hid (u64_lt x)
  clear hd1 hd2 hd3 hd4
  by_cases hz : x = 0
  · subst hz
    have hd : dodBits 0 = bitsOf 0 1 := rfl
    have HD := Lib.hid hd
    clear hd
    go_enter Tryd.func40, Tryd.ntmps40
    go_wp2_with fail
    refine (refput_int B l _ _ _ H.out (by omega) (by omega) (by omega) (by omega) (by omega)).mono ?_
    rintro e w2 ⟨rfl, hr2, hb2⟩
    have HR2 := Lib.hid hr2
    have HB2 := Lib.hid hb2
    clear hr2 hb2
    go_wp2
    go_end0
    exact ⟨rfl, by rw [HD.out]; exact HR2.out, HB2.out⟩
  have hzb : (x == 0) = false := by simpa using hz
  have hcase : (2048 < x ∧ dodBits x = bitsOf 15 4 ++ bitsOf x.toNat 64) ∨ (x < -2047 ∧ dodBits x = bitsOf 15 4 ++ bitsOf (u64 x) 64) ∨
      ((256 < x ∧ x ≤ 2048) ∧ dodBits x = bitsOf 14 4 ++ bitsOf (x + 2047).toNat 12) ∨ ((-2047 ≤ x ∧ x < -255) ∧ dodBits x = bitsOf 14 4 ++ bitsOf (x + 2047).toNat 12) ∨
      ((64 < x ∧ x ≤ 256) ∧ dodBits x = bitsOf 6 3 ++ bitsOf (x + 255).toNat 9) ∨ ((-255 ≤ x ∧ x < -63) ∧ dodBits x = bitsOf 6 3 ++ bitsOf (x + 255).toNat 9) ∨
      ((-63 ≤ x ∧ x ≤ 64) ∧ dodBits x = bitsOf 2 2 ++ bitsOf (x + 63).toNat 7) := by
    by_cases a : -63 ≤ x ∧ x ≤ 64
    · exact .inr (.inr (.inr (.inr (.inr (.inr ⟨a, D1.out a hz⟩)))))
    · by_cases b : -255 ≤ x ∧ x ≤ 256
      · rcases Int.lt_or_le 64 x with c | c
        · exact .inr (.inr (.inr (.inr (.inl ⟨by omega, D2.out a b⟩))))
        · exact .inr (.inr (.inr (.inr (.inr (.inl ⟨by omega, D2.out a b⟩)))))
      · by_cases c : -2047 ≤ x ∧ x ≤ 2048
        · rcases Int.lt_or_le 256 x with d | d
          · exact .inr (.inr (.inl ⟨by omega, D3.out b c⟩))
          · exact .inr (.inr (.inr (.inl ⟨by omega, D3.out b c⟩)))
        · rcases Int.lt_or_le 2048 x with d | d
          · exact .inl ⟨d, by rw [D4.out c, show u64 x = x.toNat by unfold u64; omega]⟩
          · exact .inr (.inl ⟨by omega, D4.out c⟩)
  have hu := HU.out
  clear D1 D2 D3 D4 HU
  rcases hcase with ⟨j, hd⟩ | ⟨j, hd⟩ | ⟨⟨j, j'⟩, hd⟩ | ⟨⟨j, j'⟩, hd⟩ | ⟨⟨j, j'⟩, hd⟩ | ⟨⟨j, j'⟩, hd⟩ | ⟨⟨j, j'⟩, hd⟩
  all_goals
    have HD := Lib.hid hd
    clear hd
    go_enter Tryd.func40, Tryd.ntmps40
    go_wp2_with fail
    refine (refput_int B l _ _ _ H.out (by omega) (by omega) (by omega) (by omega) (by omega)).mono ?_
    rintro e w2 ⟨rfl, hr2, hb2⟩
    have HR2 := Lib.hid hr2
    have HB2 := Lib.hid hb2
    clear hr2 hb2
    go_wp2_with fail
    try rw [u64_wrap]
    refine (refput_int B _ _ _ _ HR2.out (by omega) (by omega) (by omega) (by omega) (by simp [bitsOf_length]; omega)).mono ?_
    rintro e w3 ⟨rfl, hr3, hb3⟩
    have HR3 := Lib.hid hr3
    have HB3 := Lib.hid (HB2.out.trans hb3)
    clear hr3 hb3
    go_wp2
    first | go_end0 | (refine bodyPost_ret (results_none rfl _ _ _) rfl ?_)
    refine ⟨rfl, ?_, HB3.out⟩
    rw [HD.out, ← List.append_assoc]
    exact HR3.out
end Go.Proofs.YtjlfkdopkhejbaaDoor
