/- The walks of chunk.rows and (*chunk.reader).dod. -/
import Derived.Test.YtjlfkdopkhejbaaDoorGet
import Derived.Deep.RegionHeld3
namespace Go.Proofs.YtjlfkdopkhejbaaDoor
open Go.RowKit Ck

theorem ret_int {k : IntKind} {a b : Int} (h : a = b) : Ending.returned (.int k a) = .returned (.int k b) := by rw [h]

def rowCells : Array Value := #[.int .i64 0, .int .i64 1, .int .i64 0, .int .i64 0, .int .i64 0, .int .i64 2, .int .i64 2, .int .i64 (-63), .int .i64 64, .int .i64 7,
  .int .i64 6, .int .i64 3, .int .i64 (-255), .int .i64 256, .int .i64 9, .int .i64 14, .int .i64 4, .int .i64 (-2047), .int .i64 2048, .int .i64 12]

set_option maxHeartbeats 400000 in
theorem rows_any (w : World) : Calls Tryd.prog 48 #[] w fun e w' => e = .returned (.slice (some ⟨w.heap.size, 0, none⟩) 4 4) ∧ w.alloc (.cells rowCells 89) = w' := by
  go_enter Tryd.func48, Tryd.ntmps48
  go_wp2
  go_ret
  exact ⟨rfl, rfl⟩


theorem RdAt.alloc {w : World} {R G off cap : Nat} {bs : List Nat} {r : Rd} (h : RdAt w R G off cap bs r) (o : Obj) : RdAt (w.alloc o) R G off cap bs r :=
  h.grown (only_alloc (only_refl _ _) o) (h.blk.alloc o) h.pos
theorem RdAt.drew {w : World} {R G off cap : Nat} {bs : List Nat} {r : Rd} (h : RdAt w R G off cap bs r) : RdAt w.drew R G off cap bs r := h.drewN 1
theorem RdAt.far {w w' : World} {R G off cap : Nat} {bs : List Nat} {r : Rd} (h : RdAt w R G off cap bs r) (hb : Below w.heap.size w w') : RdAt w' R G off cap bs r :=
  h.grown (only_of_below hb _) (h.blk.below hb h.blk.lt) h.pos

def RowsPost (w : World) (e : Ending) (w' : World) : Prop := ∃ g, e = .returned (.slice (some ⟨g, 0, none⟩) 4 4) ∧ Blk w' g 89 rowCells ∧ w.heap.size ≤ g ∧ Below w.heap.size w w'
theorem rows_post (w : World) : Calls Tryd.prog 48 #[] w (RowsPost w) :=
  (rows_any w).mono fun _ _ ⟨he, hw⟩ => ⟨w.heap.size, he, by rw [← hw]; exact Blk.new _ _ _, Nat.le_refl _, by rw [← hw]; exact (Below.refl _ _).alloc (Nat.le_refl _) _⟩

theorem get_lt (rb : List Bool) (r : Rd) (n : Nat) : (Ck.get rb r n).1 < 2 ^ n := by
  unfold Ck.get
  split
  · exact Nat.two_pow_pos n
  · exact Nat.lt_of_lt_of_le (val_lt _) (Nat.pow_le_pow_right (by omega) (by simp; omega))

/-- row k of the table, as it lies in memory -/
theorem row_at {w : World} {g : Nat} (h : Blk w g 89 rowCells) (k : Nat) (hk : k < 4) : ∃ (p o l m : Int) (s : Nat), w.cell? ⟨g, k * 5, none⟩ = some (.int .i64 p) ∧ w.cell? ⟨g, k * 5 + 1, none⟩ = some (.int .i64 o) ∧
    w.cell? ⟨g, k * 5 + 2, none⟩ = some (.int .i64 l) ∧ w.cell? ⟨g, k * 5 + 3, none⟩ = some (.int .i64 m) ∧ w.cell? ⟨g, k * 5 + 4, none⟩ = some (.int .i64 s) ∧ 0 < o ∧ s ≤ 12 ∧ -2047 ≤ l ∧ l ≤ 0 ∧
    dodRows.drop k = (s, l) :: dodRows.drop (k + 1) := by
  have K : k = 0 ∨ k = 1 ∨ k = 2 ∨ k = 3 := by omega
  rcases K with rfl | rfl | rfl | rfl
  · exact ⟨0, 1, 0, 0, 0, h.cell 0, h.cell 1, h.cell 2, h.cell 3, h.cell 4, by omega, by omega, by omega, by omega, rfl⟩
  · exact ⟨2, 2, -63, 64, 7, h.cell 5, h.cell 6, h.cell 7, h.cell 8, h.cell 9, by omega, by omega, by omega, by omega, rfl⟩
  · exact ⟨6, 3, -255, 256, 9, h.cell 10, h.cell 11, h.cell 12, h.cell 13, h.cell 14, by omega, by omega, by omega, by omega, rfl⟩
  · exact ⟨14, 4, -2047, 2048, 12, h.cell 15, h.cell 16, h.cell 17, h.cell 18, h.cell 19, by omega, by omega, by omega, by omega, rfl⟩

/-- what holds at a round's head -/
def DodRel (w : World) (R G off cap : Nat) (bs : List Nat) (r : Rd) (g : Nat) (i : Value) (wr : World) : Prop :=
  ∃ (k : Nat) (rk : Rd), k ≤ 4 ∧ i = .int .i64 k ∧ RdAt wr R G off cap bs rk ∧ Blk wr g 89 rowCells ∧ dodR (ofBytes bs) (dodRows.drop k) rk = dodR (ofBytes bs) dodRows r ∧ w.grownBy wr (some R)

set_option maxHeartbeats 800000 in
theorem dod_any (R G off cap : Nat) (bs : List Nat) (r : Rd) (w : World) (h : RdAt w R G off cap bs r) :
    Calls Tryd.prog 46 #[.pointer (some ⟨R, 0, none⟩)] w fun e w' => e = .returned (.int .i64 (dodR (ofBytes bs) dodRows r).1) ∧ RdAt w' R G off cap bs (dodR (ofBytes bs) dodRows r).2 ∧ w.grownBy w' (some R) := by
  have H := Lib.hid h
  clear h
  go_enter Tryd.func46, Tryd.ntmps46
  go_wp2_with fail
  refine (rows_post _).mono ?_
  rintro e w1 ⟨g, rfl, hB, hg, hb⟩
  have hRg : R ≠ g := by have := H.out.blk.lt; omega
  have H1 := Lib.hid (H.out.far hb)
  have HG := Lib.hid hB
  have HW := Lib.hid (only_of_below hb (some R))
  clear hB hb
  go_wp2_with fail
  go_loopw [7] (fun i wr => DodRel w R G off cap bs r g i wr) (fun i _ => 4 - (intOf i).toNat)
  case atStart => exact ⟨0, r, by omega, rfl, H1.out, HG.out, rfl, HW.out⟩
  case round =>
    obtain ⟨k, rk, hk, rfl, hr, hB, hd, hw⟩ := hrel
    have HR := Lib.hid hr
    have HB := Lib.hid hB
    have HD := Lib.hid hd
    have HWr := Lib.hid hw
    clear hr hB hd hw
    by_cases hlt : k < 4
    · obtain ⟨p, o, l, m, s, a0, a1, a2, a3, a4, ho, hs, hl1, hl2, hdrop⟩ := row_at HB.out k hlt
      have HP := Lib.hid hdrop
      clear hdrop
      go_wp2_with fail
      refine (get_any R G off cap bs rk _ _ (HR.out.alloc _) (by omega) (by omega)).mono ?_
      rintro e w2 ⟨rfl, hr2, hg2⟩
      rw [show Int.toNat 1 = 1 from rfl] at hr2 ⊢
      have hv := get_lt (ofBytes bs) rk 1
      have hne : R ≠ wr.heap.size := by have := HR.out.blk.lt; omega
      have HN := Lib.hid ((Blk.new wr 89 #[.int .i64 p, .int .i64 o, .int .i64 l, .int .i64 m, .int .i64 s]).grown hg2 (by simp; omega))
      have b2 : w2.cell? ⟨wr.heap.size, 2, none⟩ = some (.int .i64 l) := HN.out.cell 2
      have b4 : w2.cell? ⟨wr.heap.size, 4, none⟩ = some (.int .i64 s) := HN.out.cell 4
      have HR2 := Lib.hid hr2
      have HB2 := Lib.hid ((HB.out.alloc _).grown hg2 (by simp; omega))
      have HW2 := Lib.hid (only_trans (only_alloc HWr.out _) hg2)
      clear hr2 hg2 a0 a1 a2 a3 a4
      by_cases hz : (Ck.get (ofBytes bs) rk 1).1 = 0
      · have hD : dodR (ofBytes bs) dodRows r = (((Ck.get (ofBytes bs) (Ck.get (ofBytes bs) rk 1).2 s).1 : Int) + l, (Ck.get (ofBytes bs) (Ck.get (ofBytes bs) rk 1).2 s).2) := by
          rw [← HD.out, HP.out, dodR, if_pos hz]
        have HDD := Lib.hid hD
        rw [hz]
        have hv2 := get_lt (ofBytes bs) (Ck.get (ofBytes bs) rk 1).2 s
        have hv3 : (Ck.get (ofBytes bs) (Ck.get (ofBytes bs) rk 1).2 s).1 < 4096 := Nat.lt_of_lt_of_le hv2 (Nat.pow_le_pow_right (n := 2) (by omega) hs)
        have HV := Lib.hid hv3
        clear hv hv2 hz hD hv3
        generalize (Ck.get (ofBytes bs) rk 1).2 = r1 at *
        obtain ⟨v2, hv2⟩ : ∃ v2, v2 = (Ck.get (ofBytes bs) r1 s).1 := ⟨_, rfl⟩
        have hv3 : v2 < 4096 := by rw [hv2]; exact HV.out
        have HV2 := Lib.hid hv2
        clear hv2
        go_wp2_with fail
        go_region_held3 (fun w' => w'.cell? ⟨wr.heap.size, 2, none⟩ = some (.int .i64 l) ∧ w'.cell? ⟨wr.heap.size, 4, none⟩ = some (.int .i64 s))
          (first | exact ⟨b2, b4⟩ | exact ⟨c2, c4⟩)
          (first | (go_at_call 45; refine (get_any R G off cap bs r1 _ _ (HR2.out.drewN 1) (by omega) (by omega)).mono ?_; rintro e w3 ⟨rfl, hr3, hg3⟩; rw [Int.toNat_natCast] at hr3 ⊢; rw [← HV2.out]; have c2 : w3.cell? ⟨wr.heap.size, 2, none⟩ = some (.int .i64 l) := ((HN.out.drewN 1).grown hg3 (by simp; omega)).cell 2; have c4 : w3.cell? ⟨wr.heap.size, 4, none⟩ = some (.int .i64 s) := ((HN.out.drewN 1).grown hg3 (by simp; omega)).cell 4))
        have HR3 := Lib.hid hr3
        have HW3 := Lib.hid (only_trans (only_drewN HW2.out 1) hg3)
        clear hr3 hg3 c2 c4 b2 b4
        go_wp2
        go_ret
        rw [HDD.out]
        refine ⟨ret_int ?_, HR3.out, HW3.out⟩
        rw [← HV2.out, IntWalk.i64_in (v2 : Int) (by omega), IntWalk.i64_in _ (by omega)]
      · have hD : dodR (ofBytes bs) (dodRows.drop (k + 1)) (Ck.get (ofBytes bs) rk 1).2 = dodR (ofBytes bs) dodRows r := by
          rw [← HD.out, HP.out, dodR, if_neg hz]
        have hv1 : (Ck.get (ofBytes bs) rk 1).1 = 1 := by omega
        have HDD := Lib.hid hD
        rw [hv1]
        clear hv hz hD hv1 b2 b4
        generalize (Ck.get (ofBytes bs) rk 1).2 = r1 at *
        go_wp2
        exact ⟨⟨k + 1, r1, by omega, by go_num, HR2.out, HB2.out, HDD.out, HW2.out⟩, by simp [intOf]; omega⟩
    · have hk4 : k = 4 := by omega
      subst hk4
      go_wp2_with fail
      refine (get_any R G off cap bs rk _ _ HR.out (by omega) (by omega)).mono ?_
      rintro e w2 ⟨rfl, hr2, hg2⟩
      rw [show Int.toNat 64 = 64 from rfl] at hr2 ⊢
      have hD : dodR (ofBytes bs) dodRows r = (wrap64 ((Ck.get (ofBytes bs) rk 64).1 : Nat), (Ck.get (ofBytes bs) rk 64).2) := by rw [← HD.out]; rfl
      have HDD := Lib.hid hD
      have HR2 := Lib.hid hr2
      have HW2 := Lib.hid (only_trans HWr.out hg2)
      clear hD hr2 hg2
      generalize Ck.get (ofBytes bs) rk 64 = q at *
      go_wp2
      go_ret
      rw [HDD.out]
      exact ⟨ret_int rfl, HR2.out, HW2.out⟩

end Go.Proofs.YtjlfkdopkhejbaaDoor
