/- The walk of (*chunk.Writer).dod. -/
import Derived.Test.YtjlfkdopkhejbaaDoorPut
import Derived.Test.YtjlfkdopkhejbaaDoorDod
namespace Go.Proofs.YtjlfkdopkhejbaaDoor
open Go.RowKit Ck

theorem put_int (B : Nat) (s : St) (l : List Bool) (x size : Int) (w : World) (h : WrAt w B s l) (h0 : 0 ≤ size) (h1 : size ≤ 64) (hx0 : 0 ≤ x) (hx : x ≤ 18446744073709551615) (hl : l.length ≤ 100000) :
    Calls Tryd.prog 42 #[.pointer (some ⟨B, 0, none⟩), .int .u64 x, .int .i64 size] w fun e w' => e = .returned (.tuple #[]) ∧ WrAt w' B s (l ++ bitsOf x.toNat size.toNat) ∧ Wrote B w w' := by
  obtain ⟨n, rfl⟩ := Int.eq_ofNat_of_zero_le hx0
  exact put_any B s l n size w h h0 h1 (by omega) hl

theorem WrAt.alloc {w : World} {B : Nat} {s : St} {l : List Bool} (h : WrAt w B s l) (o : Obj) : WrAt (w.alloc o) B s l :=
  let ⟨raw, hr⟩ := h; ⟨raw, hr.blk.alloc o, hr.own.alloc o⟩
theorem WrAt.drewN {w : World} {B : Nat} {s : St} {l : List Bool} (h : WrAt w B s l) (n : Nat) : WrAt (w.drewN n) B s l :=
  let ⟨raw, hr⟩ := h; ⟨raw, hr.blk.drewN n, hr.own⟩
theorem WrAt.lt {w : World} {B : Nat} {s : St} {l : List Bool} (h : WrAt w B s l) : B < w.heap.size := let ⟨_, hr⟩ := h; hr.blk.lt
theorem WrAt.far {w w' : World} {B : Nat} {s : St} {l : List Bool} (h : WrAt w B s l) (hb : Below w.heap.size w w') : WrAt w' B s l :=
  let ⟨raw, hr⟩ := h
  ⟨raw, hr.blk.below hb hr.blk.lt, hr.own.kept (only_of_below hb none) (by cases hv : raw.ownBlock <;> simp)⟩

theorem u64_wrap (x : Int) : IntKind.u64.wrap x = ((u64 x : Nat) : Int) := by rw [IntKind.wrap_u64]; unfold u64; omega

/-- no row before k holds of x -/
def fails (k : Nat) (x : Int) : Prop := (0 < k → x ≠ 0) ∧ (1 < k → ¬ (-63 ≤ x ∧ x ≤ 64)) ∧ (2 < k → ¬ (-255 ≤ x ∧ x ≤ 256)) ∧ (3 < k → ¬ (-2047 ≤ x ∧ x ≤ 2048))

theorem wrow_at {w : World} {g : Nat} (h : Blk w g 89 rowCells) (k : Nat) (hk : k < 4) (x : Int) (hf : fails k x) : ∃ (p o s : Nat) (l m : Int), w.cell? ⟨g, k * 5, none⟩ = some (.int .i64 p) ∧ w.cell? ⟨g, k * 5 + 1, none⟩ = some (.int .i64 o) ∧
    w.cell? ⟨g, k * 5 + 2, none⟩ = some (.int .i64 l) ∧ w.cell? ⟨g, k * 5 + 3, none⟩ = some (.int .i64 m) ∧ w.cell? ⟨g, k * 5 + 4, none⟩ = some (.int .i64 s) ∧ o ≤ 4 ∧ s ≤ 12 ∧ -2047 ≤ l ∧ l ≤ 0 ∧ m ≤ 2048 ∧ p ≤ 14 ∧
    (l ≤ x → x ≤ m → dodBits x = bitsOf p o ++ bitsOf (x - l).toNat s) ∧ (¬ (l ≤ x ∧ x ≤ m) → fails (k + 1) x) := by
  have K : k = 0 ∨ k = 1 ∨ k = 2 ∨ k = 3 := by omega
  unfold fails at hf ⊢
  rcases K with rfl | rfl | rfl | rfl
  · refine ⟨0, 1, 0, 0, 0, h.cell 0, h.cell 1, h.cell 2, h.cell 3, h.cell 4, by omega, by omega, by omega, by omega, by omega, by omega, fun h1 h2 => ?_, fun h1 => by omega⟩
    have : x = 0 := by omega
    subst this
    rfl
  · refine ⟨2, 2, 7, -63, 64, h.cell 5, h.cell 6, h.cell 7, h.cell 8, h.cell 9, by omega, by omega, by omega, by omega, by omega, by omega, fun h1 h2 => ?_, fun h1 => by omega⟩
    unfold dodBits
    rw [if_neg (by omega), if_pos (by omega), show x - -63 = x + 63 by omega]
  · refine ⟨6, 3, 9, -255, 256, h.cell 10, h.cell 11, h.cell 12, h.cell 13, h.cell 14, by omega, by omega, by omega, by omega, by omega, by omega, fun h1 h2 => ?_, fun h1 => by omega⟩
    unfold dodBits
    rw [if_neg (by omega), if_neg (by omega), if_pos (by omega), show x - -255 = x + 255 by omega]
  · refine ⟨14, 4, 12, -2047, 2048, h.cell 15, h.cell 16, h.cell 17, h.cell 18, h.cell 19, by omega, by omega, by omega, by omega, by omega, by omega, fun h1 h2 => ?_, fun h1 => by omega⟩
    unfold dodBits
    rw [if_neg (by omega), if_neg (by omega), if_neg (by omega), if_pos (by omega), show x - -2047 = x + 2047 by omega]

def WdodRel (w : World) (B : Nat) (s : St) (l : List Bool) (x : Int) (g : Nat) (i : Value) (wr : World) : Prop :=
  ∃ k : Nat, k ≤ 4 ∧ i = .int .i64 k ∧ WrAt wr B s l ∧ Blk wr g 89 rowCells ∧ fails k x ∧ Wrote B w wr

set_option maxRecDepth 100000 in
set_option maxHeartbeats 800000 in
theorem wdod_any (B : Nat) (s : St) (l : List Bool) (x : Int) (w : World) (h : WrAt w B s l) (hx : -9223372036854775808 ≤ x) (hx2 : x ≤ 9223372036854775807) (hl : l.length ≤ 99000) :
    Calls Tryd.prog 43 #[.pointer (some ⟨B, 0, none⟩), .int .i64 x] w fun e w' => e = .returned (.tuple #[]) ∧ WrAt w' B s (l ++ dodBits x) ∧ Wrote B w w' := by
  have H := Lib.hid h
  clear h
  go_enter Tryd.func43, Tryd.ntmps43
  go_wp2_with fail
  refine (rows_post _).mono ?_
  rintro e w1 ⟨g, rfl, hB, hg, hb⟩
  have H1 := Lib.hid (H.out.far hb)
  have HG := Lib.hid hB
  have HW := Lib.hid (Wrote.of_below (Nat.le_of_lt H.out.lt) hb)
  have hgB : g ≠ B := by have := H.out.lt; omega
  clear hB hb hg
  go_wp2_with fail
  go_loopw [8] (fun i wr => WdodRel w B s l x g i wr) (fun i _ => 4 - (intOf i).toNat)
  case atStart => exact ⟨0, by omega, rfl, H1.out, HG.out, by unfold fails; omega, HW.out⟩
  case round =>
    obtain ⟨k, hk, rfl, hr, hB, hf, hw⟩ := hrel
    have HR := Lib.hid hr
    have HB := Lib.hid hB
    have HF := Lib.hid hf
    have HWr := Lib.hid hw
    clear hr hB hf hw
    by_cases hlt : k < 4
    · obtain ⟨p, o, sz, lo, m, a0, a1, a2, a3, a4, ho, hs, hl1, hl2, hm, hp, hyes, hno⟩ := wrow_at HB.out k hlt x HF.out
      have HY := Lib.hid hyes
      have HNo := Lib.hid hno
      clear hyes hno
      by_cases hin : lo ≤ x ∧ x ≤ m
      · obtain ⟨hi1, hi2⟩ := hin
        go_wp2_with fail
        refine (put_int B s l _ _ _ (HR.out.alloc _) (by omega) (by omega) (by omega) (by omega) (by omega)).mono ?_
        rintro e w2 ⟨rfl, hr2, hg2⟩
        rw [Int.toNat_natCast, Int.toNat_natCast] at hr2
        have hne : wr.heap.size ≠ B := by have := HR.out.lt; omega
        have hN := hg2.keep wr.heap.size 89 _ hne (by decide) (Blk.new wr 89 #[.int .i64 p, .int .i64 o, .int .i64 lo, .int .i64 m, .int .i64 sz])
        have b2 : w2.cell? ⟨wr.heap.size, 2, none⟩ = some (.int .i64 lo) := hN.cell 2
        have b4 : w2.cell? ⟨wr.heap.size, 4, none⟩ = some (.int .i64 sz) := hN.cell 4
        have HR2 := Lib.hid hr2
        have HW2 := Lib.hid ((HWr.out.trans (Wrote.of_below (Nat.le_of_lt HR.out.lt) ((Below.refl _ wr).alloc (Nat.le_refl _) _))).trans hg2)
        have HD := Lib.hid (HY.out hi1 hi2)
        clear hr2 hg2 hN a0 a1 a2 a3 a4
        go_wp2_with fail
        refine (put_int B s _ _ _ _ HR2.out (by omega) (by omega) (by omega) (by omega) (by simp [bitsOf_length]; omega)).mono ?_
        rintro e w3 ⟨rfl, hr3, hg3⟩
        rw [Int.toNat_natCast, List.append_assoc, ← HD.out] at hr3
        have HR3 := Lib.hid hr3
        have HW3 := Lib.hid (HW2.out.trans hg3)
        clear hr3 hg3 b2 b4
        go_wp2
        refine bodyPost_ret (results_none rfl _ _ _) rfl ?_
        exact ⟨rfl, HR3.out, HW3.out⟩
      · have HF2 := Lib.hid (HNo.out hin)
        have HWa := Lib.hid (HWr.out.trans (Wrote.of_below (Nat.le_of_lt HR.out.lt) ((Below.refl _ wr).alloc (Nat.le_refl _) (.cells #[.int .i64 p, .int .i64 o, .int .i64 lo, .int .i64 m, .int .i64 sz] 89))))
        by_cases h1 : lo ≤ x
        · have h2 : m < x := by omega
          clear hin
          go_wp2
          exact ⟨⟨k + 1, by omega, by go_num, HR.out.alloc _, HB.out.alloc _, HF2.out, HWa.out⟩, by simp [intOf]; omega⟩
        · have h2 : x < lo := by omega
          clear hin h1
          go_wp2
          exact ⟨⟨k + 1, by omega, by go_num, HR.out.alloc _, HB.out.alloc _, HF2.out, HWa.out⟩, by simp [intOf]; omega⟩
    · have hk4 : k = 4 := by omega
      subst hk4
      go_wp2_with fail
      refine (put_int B s l _ _ _ HR.out (by omega) (by omega) (by omega) (by omega) (by omega)).mono ?_
      rintro e w2 ⟨rfl, hr2, hg2⟩
      have HR2 := Lib.hid hr2
      have HW2 := Lib.hid (HWr.out.trans hg2)
      clear hr2 hg2
      go_wp2_with fail
      rw [u64_wrap]
      have hu := u64_lt x
      refine (put_int B s _ _ _ _ HR2.out (by omega) (by omega) (by omega) (by omega) (by simp [bitsOf_length]; omega)).mono ?_
      rintro e w3 ⟨rfl, hr3, hg3⟩
      rw [Int.toNat_natCast] at hr3
      have hd : dodBits x = bitsOf 15 4 ++ bitsOf (u64 x) 64 := by
        have := HF.out
        unfold fails at this
        unfold dodBits
        rw [if_neg (by omega), if_neg (by omega), if_neg (by omega), if_neg (by omega)]
      have HR3 := Lib.hid hr3
      have HW3 := Lib.hid (HW2.out.trans hg3)
      have HD := Lib.hid hd
      clear hr3 hg3 hd
      go_wp2
      go_end0
      refine ⟨rfl, ?_, HW3.out⟩
      have := HR3.out
      rw [List.append_assoc] at this
      rw [HD.out]
      exact this
end Go.Proofs.YtjlfkdopkhejbaaDoor
