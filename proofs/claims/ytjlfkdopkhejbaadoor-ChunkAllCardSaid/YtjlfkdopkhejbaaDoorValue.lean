/- The walk of (*chunk.reader).value (written by gen/value.py). -/
import Derived.Test.YtjlfkdopkhejbaaDoorDod
namespace Go.Proofs.YtjlfkdopkhejbaaDoor
open Go.RowKit Ck

theorem RdAt.put {w : World} {R G off cap : Nat} {bs : List Nat} {r r' : Rd} (h : RdAt w R G off cap bs r) (i : Nat) (u : Value)
    (he : ∀ raw, (rdCells r raw).setIfInBounds i u = rdCells r' raw) (hp : r'.pos ≤ 8 * bs.length) : RdAt (w.setCell ⟨R, i, none⟩ u) R G off cap bs r' := by
  have hb := h.blk.set_ i u
  rw [he] at hb
  exact h.grown (only_setCell (only_refl _ _) (.inl rfl) u) hb hp
theorem only_put {w0 w : World} {R : Nat} (h : w0.grownBy w (some R)) (i : Nat) (u : Value) : w0.grownBy (w.setCell ⟨R, i, none⟩ u) (some R) := only_setCell h (.inl rfl) u

/-- the window, if there is one, fits -/
def Win (s : St) : Prop := s.opn = true → 0 ≤ s.lead ∧ s.lead ≤ 31 ∧ -100 ≤ s.tail ∧ s.lead + s.tail ≤ 63

theorem get_s (rb : List Bool) (r : Rd) (s : St) (n : Nat) : Ck.get rb { r with s := s } n = ((Ck.get rb r n).1, { (Ck.get rb r n).2 with s := s }) := by
  unfold Ck.get; split <;> rfl
theorem get_keeps (rb : List Bool) (r : Rd) (n : Nat) : (Ck.get rb r n).2.s = r.s := by unfold Ck.get; split <;> rfl
theorem get_pos {rb : List Bool} {r : Rd} (h : r.pos ≤ rb.length) (n : Nat) : (Ck.get rb r n).2.pos ≤ rb.length := by
  unfold Ck.get; split
  · exact h
  · simp only; omega
theorem shl_eq (x n : Nat) : IntKind.u64.wrap ((x : Int) * 2 ^ n) = ((x * 2 ^ n % 18446744073709551616 : Nat) : Int) := by
  rw [IntKind.wrap_u64, Int.natCast_emod, Int.natCast_mul, Int.natCast_pow]; rfl

set_option maxHeartbeats 800000 in
/-- nothing differs -/
theorem value_zero (R G off cap : Nat) (bs : List Nat) (r : Rd) (w : World) (h : RdAt w R G off cap bs r) (hz : (Ck.get (ofBytes bs) r 1).1 = 0) :
    Calls Tryd.prog 47 #[.pointer (some ⟨R, 0, none⟩)] w fun e w' => e = .returned (.int .u64 0) ∧ RdAt w' R G off cap bs (Ck.get (ofBytes bs) r 1).2 ∧ w.grownBy w' (some R) := by
  have H := Lib.hid h
  have HZ := Lib.hid hz
  clear h hz
  go_enter Tryd.func47, Tryd.ntmps47
  go_wp2_with fail
  refine (get_any R G off cap bs r _ _ H.out (by omega) (by omega)).mono ?_
  rintro e w2 ⟨rfl, hr2, hg2⟩
  rw [show Int.toNat 1 = 1 from rfl] at hr2 ⊢
  rw [HZ.out]
  have HR2 := Lib.hid hr2
  have HW2 := Lib.hid hg2
  clear hr2 hg2
  go_wp2
  go_ret
  exact ⟨rfl, HR2.out, HW2.out⟩

set_option maxHeartbeats 800000 in
theorem value_kept (R G off cap : Nat) (bs : List Nat) (r r2 r1 : Rd) (w : World) (h : RdAt w R G off cap bs r) (hz : (Ck.get (ofBytes bs) r 1).1 = 1) (h2 : (Ck.get (ofBytes bs) r 1).2 = r2)
    (hz2 : (Ck.get (ofBytes bs) r2 1).1 = 0) (h1 : (Ck.get (ofBytes bs) r2 1).2 = r1) (hw : Win r1.s) (hr1 : r1.s.opn = true) (ht : 0 ≤ r1.s.tail) :
    Calls Tryd.prog 47 #[.pointer (some ⟨R, 0, none⟩)] w fun e w' => e = .returned (.int .u64 ((Ck.get (ofBytes bs) r1 (64 - r1.s.lead - r1.s.tail).toNat).1 * 2 ^ r1.s.tail.toNat % 18446744073709551616 : Nat)) ∧ RdAt w' R G off cap bs (Ck.get (ofBytes bs) r1 (64 - r1.s.lead - r1.s.tail).toNat).2 ∧ w.grownBy w' (some R) := by
  have H := Lib.hid h
  have HZ := Lib.hid hz
  have HZ2 := Lib.hid hz2
  have H1 := Lib.hid h1
  have H2 := Lib.hid h2
  clear h hz hz2 h1 h2
  go_enter Tryd.func47, Tryd.ntmps47
  go_wp2_with fail
  refine (get_any R G off cap bs r _ _ H.out (by omega) (by omega)).mono ?_
  rintro e w2 ⟨rfl, hr2, hg2⟩
  rw [show Int.toNat 1 = 1 from rfl] at hr2 ⊢
  rw [HZ.out]
  rw [H2.out] at hr2
  have HR2 := Lib.hid hr2
  have HW2 := Lib.hid hg2
  clear hr2 hg2
  go_wp2_with fail
  refine (get_any R G off cap bs r2 _ _ HR2.out (by omega) (by omega)).mono ?_
  rintro e w3 ⟨rfl, hr3, hg3⟩
  rw [show Int.toNat 1 = 1 from rfl] at hr3 ⊢
  rw [HZ2.out]
  rw [H1.out] at hr3
  have HR3 := Lib.hid hr3
  have HW3 := Lib.hid (only_trans HW2.out hg3)
  clear hr3 hg3
  have c6 : w3.cell? ⟨R, 6, none⟩ = some (.bool r1.s.opn) := HR3.out.blk.cell 6
  rw [hr1] at c6
  have c5 : w3.cell? ⟨R, 5, none⟩ = some (.int .i64 r1.s.tail) := HR3.out.blk.cell 5
  have c4 : w3.cell? ⟨R, 4, none⟩ = some (.int .i64 r1.s.lead) := HR3.out.blk.cell 4
  obtain ⟨k1, k2, k3, k4⟩ := hw hr1
  clear hw hr1
  obtain ⟨L, hL⟩ : ∃ L, L = r1.s.lead := ⟨_, rfl⟩
  obtain ⟨T, hT⟩ : ∃ T, T = r1.s.tail := ⟨_, rfl⟩
  rw [← hL] at c4 k1 k2 k4
  rw [← hT] at c5 ht k3 k4
  have HL := Lib.hid hL
  have HT := Lib.hid hT
  clear hL hT
  go_wp2_with fail
  go_region_held3 (fun w' => w'.cell? ⟨R, 4, none⟩ = some (.int .i64 L) ∧ w'.cell? ⟨R, 5, none⟩ = some (.int .i64 T))
    (first | exact ⟨c4, c5⟩ | exact ⟨d4, d5⟩)
    (first | (go_at_call 45; rw [IntWalk.i64_in (64 - L) (by omega), IntWalk.i64_in (64 - L - T) (by omega)]; refine (get_any R G off cap bs r1 _ _ (HR3.out.drewN 1) (by omega) (by omega)).mono ?_; rintro e w5 ⟨rfl, hr5, hg5⟩; have d4 : w5.cell? ⟨R, 4, none⟩ = some (.int .i64 L) := (hr5.blk.cell 4).trans (by show some (Value.int IntKind.i64 (Ck.get (ofBytes bs) r1 (64 - L - T).toNat).2.s.lead) = _; rw [get_keeps, HL.out]); have d5 : w5.cell? ⟨R, 5, none⟩ = some (.int .i64 T) := (hr5.blk.cell 5).trans (by show some (Value.int IntKind.i64 (Ck.get (ofBytes bs) r1 (64 - L - T).toNat).2.s.tail) = _; rw [get_keeps, HT.out])))
  have HR5 := Lib.hid hr5
  have HW5 := Lib.hid (only_trans (only_drewN HW3.out 1) hg5)
  clear hr5 hg5 d4 d5 c4 c5 c6
  go_wp2
  go_ret
  rw [← HL.out, ← HT.out]
  exact ⟨ret_int (shl_eq _ _), HR5.out, HW5.out⟩

set_option maxHeartbeats 800000 in
theorem value_kept_closed (R G off cap : Nat) (bs : List Nat) (r r2 r1 : Rd) (w : World) (h : RdAt w R G off cap bs r) (hz : (Ck.get (ofBytes bs) r 1).1 = 1) (h2 : (Ck.get (ofBytes bs) r 1).2 = r2)
    (hz2 : (Ck.get (ofBytes bs) r2 1).1 = 0) (h1 : (Ck.get (ofBytes bs) r2 1).2 = r1) (hr1 : r1.s.opn = false) :
    Calls Tryd.prog 47 #[.pointer (some ⟨R, 0, none⟩)] w fun e w' => e = .returned (.int .u64 0) ∧ RdAt w' R G off cap bs { r1 with short := true } ∧ w.grownBy w' (some R) := by
  have H := Lib.hid h
  have HZ := Lib.hid hz
  have HZ2 := Lib.hid hz2
  have H1 := Lib.hid h1
  have H2 := Lib.hid h2
  clear h hz hz2 h1 h2
  go_enter Tryd.func47, Tryd.ntmps47
  go_wp2_with fail
  refine (get_any R G off cap bs r _ _ H.out (by omega) (by omega)).mono ?_
  rintro e w2 ⟨rfl, hr2, hg2⟩
  rw [show Int.toNat 1 = 1 from rfl] at hr2 ⊢
  rw [HZ.out]
  rw [H2.out] at hr2
  have HR2 := Lib.hid hr2
  have HW2 := Lib.hid hg2
  clear hr2 hg2
  go_wp2_with fail
  refine (get_any R G off cap bs r2 _ _ HR2.out (by omega) (by omega)).mono ?_
  rintro e w3 ⟨rfl, hr3, hg3⟩
  rw [show Int.toNat 1 = 1 from rfl] at hr3 ⊢
  rw [HZ2.out]
  rw [H1.out] at hr3
  have HR3 := Lib.hid hr3
  have HW3 := Lib.hid (only_trans HW2.out hg3)
  clear hr3 hg3
  have c6 : w3.cell? ⟨R, 6, none⟩ = some (.bool r1.s.opn) := HR3.out.blk.cell 6
  have c5 : w3.cell? ⟨R, 5, none⟩ = some (.int .i64 r1.s.tail) := HR3.out.blk.cell 5
  have c9 : w3.cell? ⟨R, 9, none⟩ = some (.bool r1.short) := HR3.out.blk.cell 9
  have f9 := HR3.out.blk.frozen 9
  rw [hr1] at c6
  clear hr1
  go_wp2
  go_ret
  exact ⟨rfl, HR3.out.put (r' := { r1 with short := true }) 9 (.bool true) (fun _ => rfl) HR3.out.pos, only_put HW3.out 9 _⟩

set_option maxHeartbeats 800000 in
theorem value_kept_past (R G off cap : Nat) (bs : List Nat) (r r2 r1 : Rd) (w : World) (h : RdAt w R G off cap bs r) (hz : (Ck.get (ofBytes bs) r 1).1 = 1) (h2 : (Ck.get (ofBytes bs) r 1).2 = r2)
    (hz2 : (Ck.get (ofBytes bs) r2 1).1 = 0) (h1 : (Ck.get (ofBytes bs) r2 1).2 = r1) (hr1 : r1.s.opn = true) (ht : r1.s.tail < 0) :
    Calls Tryd.prog 47 #[.pointer (some ⟨R, 0, none⟩)] w fun e w' => e = .returned (.int .u64 0) ∧ RdAt w' R G off cap bs { r1 with short := true } ∧ w.grownBy w' (some R) := by
  have H := Lib.hid h
  have HZ := Lib.hid hz
  have HZ2 := Lib.hid hz2
  have H1 := Lib.hid h1
  have H2 := Lib.hid h2
  clear h hz hz2 h1 h2
  go_enter Tryd.func47, Tryd.ntmps47
  go_wp2_with fail
  refine (get_any R G off cap bs r _ _ H.out (by omega) (by omega)).mono ?_
  rintro e w2 ⟨rfl, hr2, hg2⟩
  rw [show Int.toNat 1 = 1 from rfl] at hr2 ⊢
  rw [HZ.out]
  rw [H2.out] at hr2
  have HR2 := Lib.hid hr2
  have HW2 := Lib.hid hg2
  clear hr2 hg2
  go_wp2_with fail
  refine (get_any R G off cap bs r2 _ _ HR2.out (by omega) (by omega)).mono ?_
  rintro e w3 ⟨rfl, hr3, hg3⟩
  rw [show Int.toNat 1 = 1 from rfl] at hr3 ⊢
  rw [HZ2.out]
  rw [H1.out] at hr3
  have HR3 := Lib.hid hr3
  have HW3 := Lib.hid (only_trans HW2.out hg3)
  clear hr3 hg3
  have c6 : w3.cell? ⟨R, 6, none⟩ = some (.bool r1.s.opn) := HR3.out.blk.cell 6
  have c5 : w3.cell? ⟨R, 5, none⟩ = some (.int .i64 r1.s.tail) := HR3.out.blk.cell 5
  have c9 : w3.cell? ⟨R, 9, none⟩ = some (.bool r1.short) := HR3.out.blk.cell 9
  have f9 := HR3.out.blk.frozen 9
  rw [hr1] at c6
  clear hr1
  go_wp2
  go_ret
  exact ⟨rfl, HR3.out.put (r' := { r1 with short := true }) 9 (.bool true) (fun _ => rfl) HR3.out.pos, only_put HW3.out 9 _⟩

set_option maxHeartbeats 800000 in
theorem value_new (R G off cap : Nat) (bs : List Nat) (r r2 r1 : Rd) (w : World) (h : RdAt w R G off cap bs r) (hz : (Ck.get (ofBytes bs) r 1).1 = 1) (h2 : (Ck.get (ofBytes bs) r 1).2 = r2)
    (hz2 : (Ck.get (ofBytes bs) r2 1).1 = 1) (h1 : windowR (ofBytes bs) r2 = r1) (hw : Win r1.s) (ht : 0 ≤ r1.s.tail) :
    Calls Tryd.prog 47 #[.pointer (some ⟨R, 0, none⟩)] w fun e w' => e = .returned (.int .u64 ((Ck.get (ofBytes bs) r1 (64 - r1.s.lead - r1.s.tail).toNat).1 * 2 ^ r1.s.tail.toNat % 18446744073709551616 : Nat)) ∧ RdAt w' R G off cap bs (Ck.get (ofBytes bs) r1 (64 - r1.s.lead - r1.s.tail).toNat).2 ∧ w.grownBy w' (some R) := by
  have H := Lib.hid h
  have HZ := Lib.hid hz
  have HZ2 := Lib.hid hz2
  have H1 := Lib.hid h1
  have H2 := Lib.hid h2
  clear h hz hz2 h1 h2
  go_enter Tryd.func47, Tryd.ntmps47
  go_wp2_with fail
  refine (get_any R G off cap bs r _ _ H.out (by omega) (by omega)).mono ?_
  rintro e w2 ⟨rfl, hr2, hg2⟩
  rw [show Int.toNat 1 = 1 from rfl] at hr2 ⊢
  rw [HZ.out]
  rw [H2.out] at hr2
  have HR2 := Lib.hid hr2
  have HW2 := Lib.hid hg2
  clear hr2 hg2
  go_wp2_with fail
  refine (get_any R G off cap bs r2 _ _ HR2.out (by omega) (by omega)).mono ?_
  rintro e w3 ⟨rfl, hr3, hg3⟩
  rw [show Int.toNat 1 = 1 from rfl] at hr3 ⊢
  rw [HZ2.out]
  generalize hq3 : (Ck.get (ofBytes bs) r2 1).2 = r3 at hr3
  have HQ3 := Lib.hid hq3
  have HR3 := Lib.hid hr3
  have HW3 := Lib.hid (only_trans HW2.out hg3)
  clear hr3 hg3 hq3
  go_wp2_with fail
  refine (get_any R G off cap bs r3 _ _ HR3.out (by omega) (by omega)).mono ?_
  rintro e w4 ⟨rfl, hr4, hg4⟩
  rw [show Int.toNat 5 = 5 from rfl] at hr4 ⊢
  have hl := get_lt (ofBytes bs) r3 5
  have HS4 := Lib.hid (get_keeps (ofBytes bs) r3 5)
  generalize hq4 : (Ck.get (ofBytes bs) r3 5).2 = r4 at *
  generalize hql : (Ck.get (ofBytes bs) r3 5).1 = l at *
  have HQ4 := Lib.hid hq4
  have HQl := Lib.hid hql
  have c4 : w4.cell? ⟨R, 4, none⟩ = some (.int .i64 r4.s.lead) := hr4.blk.cell 4
  have f4 := hr4.blk.frozen 4
  have HR4 := Lib.hid (hr4.put (r' := { r4 with s := { r4.s with lead := (l : Int) } }) 4 (.int .i64 l) (fun _ => rfl) hr4.pos)
  have HW4 := Lib.hid (only_put (only_trans HW3.out hg4) 4 (.int .i64 l))
  have d4 : (w4.setCell ⟨R, 4, none⟩ (.int .i64 l)).cell? ⟨R, 4, none⟩ = some (.int .i64 l) := HR4.out.blk.cell 4
  have d5 : (w4.setCell ⟨R, 4, none⟩ (.int .i64 l)).cell? ⟨R, 5, none⟩ = some (.int .i64 r4.s.tail) := HR4.out.blk.cell 5
  clear hr4 hg4 hq4 hql
  have hl32 : l < 32 := hl
  clear hl
  go_wp2_with fail
  obtain ⟨W4, hW4⟩ : ∃ W, W = w4.setCell ⟨R, 4, none⟩ (.int .i64 l) := ⟨_, rfl⟩
  rw [← hW4] at d4 d5 HR4 HW4 ⊢
  clear hW4 c4 f4 d5
  go_region_held3 (fun w' => w'.cell? ⟨R, 4, none⟩ = some (.int .i64 l))
    (first | exact d4 | exact e4 | exact (World.cell?_setCell_other _ _ _ _ (by simp)).trans e4)
    (first | (go_at_call 45; refine (get_any R G off cap bs { r4 with s := { r4.s with lead := (l : Int) } } _ _ (HR4.out.drewN 1) (by omega) (by omega)).mono ?_; rintro e w5 ⟨rfl, hr5, hg5⟩; rw [show Int.toNat 6 = 6 from rfl] at hr5 ⊢; rw [get_s] at hr5 ⊢; have HR5 := Lib.hid hr5; have HW5 := Lib.hid (only_trans (only_drewN HW4.out 1) hg5); have e4 : w5.cell? ⟨R, 4, none⟩ = some (.int .i64 l) := hr5.blk.cell 4; have e5 : w5.cell? ⟨R, 5, none⟩ = some (.int .i64 r4.s.tail) := hr5.blk.cell 5; have g5 := hr5.blk.frozen 5; clear hr5 hg5))
  have hq := get_lt (ofBytes bs) r4 6
  have HS5 := Lib.hid (get_keeps (ofBytes bs) r4 6)
  generalize hq5 : (Ck.get (ofBytes bs) r4 6).2 = r5 at *
  generalize hqq : (Ck.get (ofBytes bs) r4 6).1 = q at *
  have HQ5 := Lib.hid hq5
  have HQq := Lib.hid hqq
  have hq64 : q < 64 := hq
  clear hq hq5 hqq e4
  have HR6 := Lib.hid (HR5.out.put (r' := { r5 with s := { r4.s with lead := (l : Int), tail := 63 - (l : Int) - (q : Int) } }) 5 (.int .i64 (63 - (l : Int) - (q : Int))) (fun _ => rfl) HR5.out.pos)
  have HW6 := Lib.hid (only_put HW5.out 5 (.int .i64 (63 - (l : Int) - (q : Int))))
  rw [IntWalk.i64_in (63 - (l : Int)) (by omega), IntWalk.i64_in (q : Int) (by omega), IntWalk.i64_in (63 - (l : Int) - (q : Int)) (by omega)]
  clear e5 g5
  obtain ⟨W6, hW6⟩ : ∃ W, W = w5.setCell ⟨R, 5, none⟩ (.int .i64 (63 - (l : Int) - (q : Int))) := ⟨_, rfl⟩
  rw [← hW6] at HR6 HW6 ⊢
  clear hW6
  have a5 : W6.cell? ⟨R, 5, none⟩ = some (.int .i64 (63 - (l : Int) - (q : Int))) := HR6.out.blk.cell 5
  have a6 : W6.cell? ⟨R, 6, none⟩ = some (.bool r4.s.opn) := HR6.out.blk.cell 6
  have g6 := HR6.out.blk.frozen 6
  have e1 : ({ r5 with s := { r4.s with lead := (l : Int), tail := 63 - (l : Int) - (q : Int), opn := true } } : Rd) = r1 := by
    rw [← H1.out, windowR, if_pos HZ2.out]
    simp only [HQ3.out, HQ4.out, HQl.out, HQ5.out, HQq.out, HS5.out]
  have HR7 := Lib.hid (HR6.out.put (r' := { r5 with s := { r4.s with lead := (l : Int), tail := 63 - (l : Int) - (q : Int), opn := true } }) 6 (.bool true) (fun _ => rfl) HR6.out.pos)
  have HW7 := Lib.hid (only_put HW6.out 6 (.bool true))
  rw [e1] at HR7
  have et : 63 - (l : Int) - (q : Int) = r1.s.tail := by rw [← e1]
  have el : (l : Int) = r1.s.lead := by rw [← e1]
  have ET := Lib.hid et
  have EL := Lib.hid el
  have hr1 : r1.s.opn = true := by rw [← e1]
  clear d4 e1 el
  have ht2 : 0 ≤ 63 - (l : Int) - (q : Int) := by rw [et]; exact ht
  obtain ⟨k1, k2, k3, k4⟩ := hw hr1
  clear hw hr1 et ht
  go_wp2_with fail
  obtain ⟨w3, hw3⟩ : ∃ W, W = W6.setCell ⟨R, 6, none⟩ (.bool true) := ⟨_, rfl⟩
  rw [← hw3] at HR7 HW7 ⊢
  have HR3 := HR7
  have HW3 := HW7
  have c5 : w3.cell? ⟨R, 5, none⟩ = some (.int .i64 r1.s.tail) := HR3.out.blk.cell 5
  have c4 : w3.cell? ⟨R, 4, none⟩ = some (.int .i64 r1.s.lead) := HR3.out.blk.cell 4
  obtain ⟨L, hL⟩ : ∃ L, L = r1.s.lead := ⟨_, rfl⟩
  obtain ⟨T, hT⟩ : ∃ T, T = r1.s.tail := ⟨_, rfl⟩
  have ht : 0 ≤ T := by rw [hT, ← ET.out]; exact ht2
  rw [← hL] at c4 k1 k2 k4
  rw [← hT] at c5 k3 k4
  have HL := Lib.hid hL
  have HT := Lib.hid hT
  clear hL hT hw3 a5 a6 g6
  go_region_held3 (fun w' => w'.cell? ⟨R, 4, none⟩ = some (.int .i64 L) ∧ w'.cell? ⟨R, 5, none⟩ = some (.int .i64 T))
    (first | exact ⟨c4, c5⟩ | exact ⟨d4, d5⟩)
    (first | (go_at_call 45; rw [IntWalk.i64_in (64 - L) (by omega), IntWalk.i64_in (64 - L - T) (by omega)]; refine (get_any R G off cap bs r1 _ _ (HR3.out.drewN 1) (by omega) (by omega)).mono ?_; rintro e w5 ⟨rfl, hr5, hg5⟩; have d4 : w5.cell? ⟨R, 4, none⟩ = some (.int .i64 L) := (hr5.blk.cell 4).trans (by show some (Value.int IntKind.i64 (Ck.get (ofBytes bs) r1 (64 - L - T).toNat).2.s.lead) = _; rw [get_keeps, HL.out]); have d5 : w5.cell? ⟨R, 5, none⟩ = some (.int .i64 T) := (hr5.blk.cell 5).trans (by show some (Value.int IntKind.i64 (Ck.get (ofBytes bs) r1 (64 - L - T).toNat).2.s.tail) = _; rw [get_keeps, HT.out])))
  have HR5 := Lib.hid hr5
  have HW5 := Lib.hid (only_trans (only_drewN HW3.out 1) hg5)
  clear hr5 hg5 d4 d5 c4 c5
  go_wp2
  go_ret
  rw [← HL.out, ← HT.out]
  exact ⟨ret_int (shl_eq _ _), HR5.out, HW5.out⟩

set_option maxHeartbeats 800000 in
theorem value_new_past (R G off cap : Nat) (bs : List Nat) (r r2 r1 : Rd) (w : World) (h : RdAt w R G off cap bs r) (hz : (Ck.get (ofBytes bs) r 1).1 = 1) (h2 : (Ck.get (ofBytes bs) r 1).2 = r2)
    (hz2 : (Ck.get (ofBytes bs) r2 1).1 = 1) (h1 : windowR (ofBytes bs) r2 = r1) (ht : r1.s.tail < 0) :
    Calls Tryd.prog 47 #[.pointer (some ⟨R, 0, none⟩)] w fun e w' => e = .returned (.int .u64 0) ∧ RdAt w' R G off cap bs { r1 with short := true } ∧ w.grownBy w' (some R) := by
  have H := Lib.hid h
  have HZ := Lib.hid hz
  have HZ2 := Lib.hid hz2
  have H1 := Lib.hid h1
  have H2 := Lib.hid h2
  clear h hz hz2 h1 h2
  go_enter Tryd.func47, Tryd.ntmps47
  go_wp2_with fail
  refine (get_any R G off cap bs r _ _ H.out (by omega) (by omega)).mono ?_
  rintro e w2 ⟨rfl, hr2, hg2⟩
  rw [show Int.toNat 1 = 1 from rfl] at hr2 ⊢
  rw [HZ.out]
  rw [H2.out] at hr2
  have HR2 := Lib.hid hr2
  have HW2 := Lib.hid hg2
  clear hr2 hg2
  go_wp2_with fail
  refine (get_any R G off cap bs r2 _ _ HR2.out (by omega) (by omega)).mono ?_
  rintro e w3 ⟨rfl, hr3, hg3⟩
  rw [show Int.toNat 1 = 1 from rfl] at hr3 ⊢
  rw [HZ2.out]
  generalize hq3 : (Ck.get (ofBytes bs) r2 1).2 = r3 at hr3
  have HQ3 := Lib.hid hq3
  have HR3 := Lib.hid hr3
  have HW3 := Lib.hid (only_trans HW2.out hg3)
  clear hr3 hg3 hq3
  go_wp2_with fail
  refine (get_any R G off cap bs r3 _ _ HR3.out (by omega) (by omega)).mono ?_
  rintro e w4 ⟨rfl, hr4, hg4⟩
  rw [show Int.toNat 5 = 5 from rfl] at hr4 ⊢
  have hl := get_lt (ofBytes bs) r3 5
  have HS4 := Lib.hid (get_keeps (ofBytes bs) r3 5)
  generalize hq4 : (Ck.get (ofBytes bs) r3 5).2 = r4 at *
  generalize hql : (Ck.get (ofBytes bs) r3 5).1 = l at *
  have HQ4 := Lib.hid hq4
  have HQl := Lib.hid hql
  have c4 : w4.cell? ⟨R, 4, none⟩ = some (.int .i64 r4.s.lead) := hr4.blk.cell 4
  have f4 := hr4.blk.frozen 4
  have HR4 := Lib.hid (hr4.put (r' := { r4 with s := { r4.s with lead := (l : Int) } }) 4 (.int .i64 l) (fun _ => rfl) hr4.pos)
  have HW4 := Lib.hid (only_put (only_trans HW3.out hg4) 4 (.int .i64 l))
  have d4 : (w4.setCell ⟨R, 4, none⟩ (.int .i64 l)).cell? ⟨R, 4, none⟩ = some (.int .i64 l) := HR4.out.blk.cell 4
  have d5 : (w4.setCell ⟨R, 4, none⟩ (.int .i64 l)).cell? ⟨R, 5, none⟩ = some (.int .i64 r4.s.tail) := HR4.out.blk.cell 5
  clear hr4 hg4 hq4 hql
  have hl32 : l < 32 := hl
  clear hl
  go_wp2_with fail
  obtain ⟨W4, hW4⟩ : ∃ W, W = w4.setCell ⟨R, 4, none⟩ (.int .i64 l) := ⟨_, rfl⟩
  rw [← hW4] at d4 d5 HR4 HW4 ⊢
  clear hW4 c4 f4 d5
  go_region_held3 (fun w' => w'.cell? ⟨R, 4, none⟩ = some (.int .i64 l))
    (first | exact d4 | exact e4 | exact (World.cell?_setCell_other _ _ _ _ (by simp)).trans e4)
    (first | (go_at_call 45; refine (get_any R G off cap bs { r4 with s := { r4.s with lead := (l : Int) } } _ _ (HR4.out.drewN 1) (by omega) (by omega)).mono ?_; rintro e w5 ⟨rfl, hr5, hg5⟩; rw [show Int.toNat 6 = 6 from rfl] at hr5 ⊢; rw [get_s] at hr5 ⊢; have HR5 := Lib.hid hr5; have HW5 := Lib.hid (only_trans (only_drewN HW4.out 1) hg5); have e4 : w5.cell? ⟨R, 4, none⟩ = some (.int .i64 l) := hr5.blk.cell 4; have e5 : w5.cell? ⟨R, 5, none⟩ = some (.int .i64 r4.s.tail) := hr5.blk.cell 5; have g5 := hr5.blk.frozen 5; clear hr5 hg5))
  have hq := get_lt (ofBytes bs) r4 6
  have HS5 := Lib.hid (get_keeps (ofBytes bs) r4 6)
  generalize hq5 : (Ck.get (ofBytes bs) r4 6).2 = r5 at *
  generalize hqq : (Ck.get (ofBytes bs) r4 6).1 = q at *
  have HQ5 := Lib.hid hq5
  have HQq := Lib.hid hqq
  have hq64 : q < 64 := hq
  clear hq hq5 hqq e4
  have HR6 := Lib.hid (HR5.out.put (r' := { r5 with s := { r4.s with lead := (l : Int), tail := 63 - (l : Int) - (q : Int) } }) 5 (.int .i64 (63 - (l : Int) - (q : Int))) (fun _ => rfl) HR5.out.pos)
  have HW6 := Lib.hid (only_put HW5.out 5 (.int .i64 (63 - (l : Int) - (q : Int))))
  rw [IntWalk.i64_in (63 - (l : Int)) (by omega), IntWalk.i64_in (q : Int) (by omega), IntWalk.i64_in (63 - (l : Int) - (q : Int)) (by omega)]
  clear e5 g5
  obtain ⟨W6, hW6⟩ : ∃ W, W = w5.setCell ⟨R, 5, none⟩ (.int .i64 (63 - (l : Int) - (q : Int))) := ⟨_, rfl⟩
  rw [← hW6] at HR6 HW6 ⊢
  clear hW6
  have a5 : W6.cell? ⟨R, 5, none⟩ = some (.int .i64 (63 - (l : Int) - (q : Int))) := HR6.out.blk.cell 5
  have a6 : W6.cell? ⟨R, 6, none⟩ = some (.bool r4.s.opn) := HR6.out.blk.cell 6
  have g6 := HR6.out.blk.frozen 6
  have e1 : ({ r5 with s := { r4.s with lead := (l : Int), tail := 63 - (l : Int) - (q : Int), opn := true } } : Rd) = r1 := by
    rw [← H1.out, windowR, if_pos HZ2.out]
    simp only [HQ3.out, HQ4.out, HQl.out, HQ5.out, HQq.out, HS5.out]
  have HR7 := Lib.hid (HR6.out.put (r' := { r5 with s := { r4.s with lead := (l : Int), tail := 63 - (l : Int) - (q : Int), opn := true } }) 6 (.bool true) (fun _ => rfl) HR6.out.pos)
  have HW7 := Lib.hid (only_put HW6.out 6 (.bool true))
  rw [e1] at HR7
  have et : 63 - (l : Int) - (q : Int) = r1.s.tail := by rw [← e1]
  have el : (l : Int) = r1.s.lead := by rw [← e1]
  have ET := Lib.hid et
  have EL := Lib.hid el
  have hr1 : r1.s.opn = true := by rw [← e1]
  clear d4 e1 el
  have ht2 : 63 - (l : Int) - (q : Int) < 0 := by rw [et]; exact ht
  have a9 : W6.cell? ⟨R, 9, none⟩ = some (.bool r5.short) := HR6.out.blk.cell 9
  have g9 := HR6.out.blk.frozen 9
  clear hr1 et ht
  go_wp2
  go_ret
  exact ⟨rfl, HR7.out.put (r' := { r1 with short := true }) 9 (.bool true) (fun _ => rfl) HR7.out.pos, only_put HW7.out 9 _⟩

end Go.Proofs.YtjlfkdopkhejbaaDoor
