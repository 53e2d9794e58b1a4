/- The walk of (*chunk.reader).next. -/
import Derived.Test.YtjlfkdopkhejbaaDoorValue
import Derived.Test.YtjlfkdopkhejbaaDoorFbits
import Derived.Deep.DeepCutAuto
import Derived.BigRegion
namespace Go.Proofs.YtjlfkdopkhejbaaDoor
open Go.RowKit Ck
attribute [local go_sem] frombits_call tobits_call

theorem windowR_win (rb : List Bool) (r : Rd) (h : Win r.s) : Win (windowR rb r).s := by
  unfold windowR
  split
  · intro _
    have h1 := get_lt rb (Ck.get rb r 1).2 5
    have h2 := get_lt rb (Ck.get rb (Ck.get rb r 1).2 5).2 6
    simp only
    omega
  · rw [get_keeps]; exact h
theorem valueR_s (rb : List Bool) (r : Rd) : (valueR rb r).2.s = if (Ck.get rb r 1).1 = 0 then r.s else (windowR rb (Ck.get rb r 1).2).s := by
  unfold valueR
  split
  · exact get_keeps _ _ _
  · simp only
    split
    · rfl
    · exact get_keeps _ _ _
theorem valueR_win (rb : List Bool) (r : Rd) (h : Win r.s) : Win (valueR rb r).2.s := by
  rw [valueR_s]
  split
  · exact h
  · exact windowR_win rb _ (by rw [get_keeps]; exact h)

theorem value_any (R G off cap : Nat) (bs : List Nat) (r : Rd) (w : World) (h : RdAt w R G off cap bs r) (hw : Win r.s) :
    Calls Tryd.prog 47 #[.pointer (some ⟨R, 0, none⟩)] w fun e w' => e = .returned (.int .u64 ((valueR (ofBytes bs) r).1 : Nat)) ∧ RdAt w' R G off cap bs (valueR (ofBytes bs) r).2 ∧ w.grownBy w' (some R) := by
  have h1 := get_lt (ofBytes bs) r 1
  have hw1 := windowR_win (ofBytes bs) (Ck.get (ofBytes bs) r 1).2 (by rw [get_keeps]; exact hw)
  have h2 := get_lt (ofBytes bs) (Ck.get (ofBytes bs) r 1).2 1
  by_cases hz : (Ck.get (ofBytes bs) r 1).1 = 0
  · have e : valueR (ofBytes bs) r = (0, (Ck.get (ofBytes bs) r 1).2) := by unfold valueR; rw [if_pos hz]
    rw [e]
    exact value_zero R G off cap bs r w h hz
  · have hz1 : (Ck.get (ofBytes bs) r 1).1 = 1 := by omega
    by_cases ho : (windowR (ofBytes bs) (Ck.get (ofBytes bs) r 1).2).s.opn = false ∨ (windowR (ofBytes bs) (Ck.get (ofBytes bs) r 1).2).s.tail < 0
    · have e : valueR (ofBytes bs) r = (0, { windowR (ofBytes bs) (Ck.get (ofBytes bs) r 1).2 with short := true }) := by unfold valueR; rw [if_neg hz]; simp only; rw [if_pos ho]
      rw [e]
      by_cases hy : (Ck.get (ofBytes bs) (Ck.get (ofBytes bs) r 1).2 1).1 = 1
      · have ht : (windowR (ofBytes bs) (Ck.get (ofBytes bs) r 1).2).s.tail < 0 := by
          rcases ho with ho | ho
          · unfold windowR at ho; rw [if_pos hy] at ho; simp at ho
          · exact ho
        exact value_new_past R G off cap bs r _ _ w h hz1 rfl hy rfl ht
      · have hy0 : (Ck.get (ofBytes bs) (Ck.get (ofBytes bs) r 1).2 1).1 = 0 := by omega
        have ew : windowR (ofBytes bs) (Ck.get (ofBytes bs) r 1).2 = (Ck.get (ofBytes bs) (Ck.get (ofBytes bs) r 1).2 1).2 := by unfold windowR; rw [if_neg hy]
        rw [ew] at ho ⊢
        cases hopn : (Ck.get (ofBytes bs) (Ck.get (ofBytes bs) r 1).2 1).2.s.opn with
        | false => exact value_kept_closed R G off cap bs r _ _ w h hz1 rfl hy0 rfl hopn
        | true =>
          rw [hopn] at ho
          exact value_kept_past R G off cap bs r _ _ w h hz1 rfl hy0 rfl hopn (by simpa using ho)
    · have e : valueR (ofBytes bs) r = ((Ck.get (ofBytes bs) (windowR (ofBytes bs) (Ck.get (ofBytes bs) r 1).2) (64 - (windowR (ofBytes bs) (Ck.get (ofBytes bs) r 1).2).s.lead - (windowR (ofBytes bs) (Ck.get (ofBytes bs) r 1).2).s.tail).toNat).1 * 2 ^ (windowR (ofBytes bs) (Ck.get (ofBytes bs) r 1).2).s.tail.toNat % 18446744073709551616,
          (Ck.get (ofBytes bs) (windowR (ofBytes bs) (Ck.get (ofBytes bs) r 1).2) (64 - (windowR (ofBytes bs) (Ck.get (ofBytes bs) r 1).2).s.lead - (windowR (ofBytes bs) (Ck.get (ofBytes bs) r 1).2).s.tail).toNat).2) := by
        unfold valueR; rw [if_neg hz]; simp only; rw [if_neg ho]
      rw [e]
      have ho1 : (windowR (ofBytes bs) (Ck.get (ofBytes bs) r 1).2).s.opn = true := by
        cases hb : (windowR (ofBytes bs) (Ck.get (ofBytes bs) r 1).2).s.opn with
        | true => rfl
        | false => exact absurd (Or.inl hb) ho
      have ho2 : 0 ≤ (windowR (ofBytes bs) (Ck.get (ofBytes bs) r 1).2).s.tail := by
        rcases Int.lt_or_le (windowR (ofBytes bs) (Ck.get (ofBytes bs) r 1).2).s.tail 0 with hl | hg
        · exact absurd (Or.inr hl) ho
        · exact hg
      by_cases hy : (Ck.get (ofBytes bs) (Ck.get (ofBytes bs) r 1).2 1).1 = 1
      · exact value_new R G off cap bs r _ _ w h hz1 rfl hy rfl hw1 ho2
      · have hy0 : (Ck.get (ofBytes bs) (Ck.get (ofBytes bs) r 1).2 1).1 = 0 := by omega
        have ew : windowR (ofBytes bs) (Ck.get (ofBytes bs) r 1).2 = (Ck.get (ofBytes bs) (Ck.get (ofBytes bs) r 1).2 1).2 := by unfold windowR; rw [if_neg hy]
        rw [ew] at ho1 ho2 hw1 ⊢
        exact value_kept R G off cap bs r _ _ w h hz1 rfl hy0 rfl hw1 ho1 ho2

section
variable {w : World} {R G off cap : Nat} {bs : List Nat} {r : Rd}
theorem RdAt.setN (h : RdAt w R G off cap bs r) (n : Nat) : RdAt (w.setCell ⟨R, 0, none⟩ (.int .i64 n)) R G off cap bs { r with s := { r.s with n := n } } := h.put 0 _ (fun _ => rfl) h.pos
theorem RdAt.setT (h : RdAt w R G off cap bs r) (t : Int) : RdAt (w.setCell ⟨R, 1, none⟩ (.int .i64 t)) R G off cap bs { r with s := { r.s with t := t } } := h.put 1 _ (fun _ => rfl) h.pos
theorem RdAt.setD (h : RdAt w R G off cap bs r) (d : Int) : RdAt (w.setCell ⟨R, 2, none⟩ (.int .i64 d)) R G off cap bs { r with s := { r.s with delta := d } } := h.put 2 _ (fun _ => rfl) h.pos
theorem RdAt.setV (h : RdAt w R G off cap bs r) (v : Nat) : RdAt (w.setCell ⟨R, 3, none⟩ (.int .u64 v)) R G off cap bs { r with s := { r.s with v := v } } := h.put 3 _ (fun _ => rfl) h.pos
end
theorem dodR_s (rb : List Bool) (l : List (Nat × Int)) (r : Rd) : (dodR rb l r).2.s = r.s := by
  induction l generalizing r with
  | nil => exact get_keeps _ _ _
  | cons x l ih =>
    unfold dodR
    split
    · simp only; rw [get_keeps, get_keeps]
    · rw [ih, get_keeps]

theorem windowR_td (rb : List Bool) (r : Rd) (t d : Int) : windowR rb { r with s := { r.s with t := t, delta := d } } = { windowR rb r with s := { (windowR rb r).s with t := t, delta := d } } := by
  unfold windowR
  rw [get_s]
  split
  · simp only [get_s, get_keeps]
  · simp only [get_keeps]
theorem valueR_td (rb : List Bool) (r : Rd) (t d : Int) : valueR rb { r with s := { r.s with t := t, delta := d } } = ((valueR rb r).1, { (valueR rb r).2 with s := { (valueR rb r).2.s with t := t, delta := d } }) := by
  unfold valueR
  rw [get_s]
  split
  · simp only [get_keeps]
  · have e := windowR_td rb (Ck.get rb r 1).2 t d
    rw [get_keeps] at e
    simp only [e]
    split
    · rfl
    · rw [get_s]
      simp only [get_keeps]
theorem valueR_lt (rb : List Bool) (r : Rd) : (valueR rb r).1 < 18446744073709551616 := by
  unfold valueR
  split
  · simp
  · simp only
    split
    · simp
    · exact Nat.mod_lt _ (by omega)

set_option maxHeartbeats 800000 in
/-- the first sample -/
theorem next_first (R G off cap : Nat) (bs : List Nat) (r : Rd) (w : World) (h : RdAt w R G off cap bs r) (hn : r.s.n = 0) :
    Calls Tryd.prog 37 #[.pointer (some ⟨R, 0, none⟩)] w fun e w' => e = .returned (.tuple #[.int .i64 (nextR (ofBytes bs) r).s.t, .float .f64 (nextR (ofBytes bs) r).s.v, .bool (!(nextR (ofBytes bs) r).short)]) ∧
      RdAt w' R G off cap bs (nextR (ofBytes bs) r) ∧ w.grownBy w' (some R) := by
  have H := Lib.hid h
  have HN := Lib.hid hn
  have c0 : w.cell? ⟨R, 0, none⟩ = some (.int .i64 (r.s.n : Nat)) := h.blk.cell 0
  rw [hn] at c0
  clear h hn
  go_enter Tryd.func37, Tryd.ntmps37
  go_wp2_with fail
  refine (get_any R G off cap bs r _ _ H.out (by omega) (by omega)).mono ?_
  rintro e w2 ⟨rfl, hr2, hg2⟩
  rw [show Int.toNat 64 = 64 from rfl] at hr2 ⊢
  have HS1 := Lib.hid (get_keeps (ofBytes bs) r 64)
  obtain ⟨a, ha⟩ : ∃ a, Ck.get (ofBytes bs) r 64 = a := ⟨_, rfl⟩
  rw [ha] at hr2 HS1 ⊢
  have HA := Lib.hid ha
  have d1 : w2.cell? ⟨R, 1, none⟩ = some (.int .i64 a.2.s.t) := hr2.blk.cell 1
  have g1 := hr2.blk.frozen 1
  have HR2 := Lib.hid (hr2.setT (wrap64 (a.1 : Nat)))
  have HW2 := Lib.hid (only_put hg2 1 (.int .i64 (wrap64 (a.1 : Nat))))
  clear hr2 hg2 ha
  go_wp2_with fail
  refine (get_any R G off cap bs _ _ _ HR2.out (by omega) (by omega)).mono ?_
  rintro e w3 ⟨rfl, hr3, hg3⟩
  rw [show Int.toNat 64 = 64 from rfl] at hr3 ⊢
  rw [get_s] at hr3 ⊢
  have HS2 := Lib.hid (get_keeps (ofBytes bs) a.2 64)
  obtain ⟨b, hb⟩ : ∃ b, Ck.get (ofBytes bs) a.2 64 = b := ⟨_, rfl⟩
  rw [hb] at hr3 HS2 ⊢
  dsimp only at hr3 ⊢
  have HB := Lib.hid hb
  obtain ⟨T, hT⟩ : ∃ T, T = wrap64 (a.1 : Nat) := ⟨_, rfl⟩
  rw [← hT] at hr3 hg3 HR2 HW2 ⊢
  have HT := Lib.hid hT
  clear hT
  have hs2 : a.2.s = r.s := HS1.out
  rw [hs2] at hr3
  have d0 : w3.cell? ⟨R, 0, none⟩ = some (.int .i64 (r.s.n : Nat)) := hr3.blk.cell 0
  rw [HN.out] at d0
  have d1' : w3.cell? ⟨R, 1, none⟩ = some (.int .i64 T) := hr3.blk.cell 1
  have d3 : w3.cell? ⟨R, 3, none⟩ = some (.int .u64 (r.s.v : Nat)) := hr3.blk.cell 3
  have d9 : w3.cell? ⟨R, 9, none⟩ = some (.bool b.2.short) := hr3.blk.cell 9
  have g3 := hr3.blk.frozen 3
  have g0 := hr3.blk.frozen 0
  have HR4 := Lib.hid ((hr3.setV b.1).setN 1)
  have HW4 := Lib.hid (only_put (only_put (only_trans HW2.out hg3) 3 (.int .u64 b.1)) 0 (.int .i64 (1 : Nat)))
  clear hr3 hg3 hs2 d1 g1 c0 hb
  go_wp2_with fail
  go_quiet (fail)
  go_wp2
  go_ret3
  have e1 : nextR (ofBytes bs) r = { b.2 with s := { r.s with n := 1, t := T, v := b.1 } } := by
    unfold nextR
    rw [if_pos HN.out]
    simp only [HA.out, HB.out, ← HT.out, HN.out, HS1.out, HS2.out]
  rw [e1]
  exact ⟨rfl, HR4.out.drewN nq, only_drewN HW4.out nq⟩

set_option maxRecDepth 100000 in
set_option maxHeartbeats 1600000 in
/-- a further sample -/
theorem next_more (R G off cap : Nat) (bs : List Nat) (r : Rd) (w : World) (h : RdAt w R G off cap bs r) (hw : Win r.s) (hn : 1 ≤ r.s.n) (hn2 : r.s.n ≤ 70000) (hv : r.s.v < 2 ^ 64) :
    Calls Tryd.prog 37 #[.pointer (some ⟨R, 0, none⟩)] w fun e w' => e = .returned (.tuple #[.int .i64 (nextR (ofBytes bs) r).s.t, .float .f64 (nextR (ofBytes bs) r).s.v, .bool (!(nextR (ofBytes bs) r).short)]) ∧
      RdAt w' R G off cap bs (nextR (ofBytes bs) r) ∧ w.grownBy w' (some R) := by
  have H := Lib.hid h
  have c0 : w.cell? ⟨R, 0, none⟩ = some (.int .i64 (r.s.n : Nat)) := h.blk.cell 0
  have c2 : w.cell? ⟨R, 2, none⟩ = some (.int .i64 r.s.delta) := h.blk.cell 2
  have hn0 : ((r.s.n : Int) == 0) = false := by simp; omega
  have HSd := Lib.hid (dodR_s (ofBytes bs) dodRows r)
  clear h
  go_enter Tryd.func37, Tryd.ntmps37
  go_upto_region 4 with fail
  go_cut [] (fun wx => RdAt wx R G off cap bs { (dodR (ofBytes bs) dodRows r).2 with s := { r.s with delta := wrap64 (r.s.delta + (dodR (ofBytes bs) dodRows r).1) } } ∧ w.grownBy wx (some R))
  case first =>
    go_region_with (go_at_call 46; refine (dod_any R G off cap bs r _ ?_).mono ?_; exact H.out.drewN 1; rintro e w2 ⟨rfl, hr2, hg2⟩; have d2 : w2.cell? ⟨R, 2, none⟩ = some (.int .i64 r.s.delta) := (hr2.blk.cell 2).trans (by show some (Value.int IntKind.i64 (dodR (ofBytes bs) dodRows r).2.s.delta) = _; rw [HSd.out]); have f2 := hr2.blk.frozen 2; have HR2 := Lib.hid hr2; have HW2 := Lib.hid hg2; clear hr2 hg2)
    all_goals (go_wp2_with fail; go_meet)
    all_goals rw [IntWalk.i64_left]
    all_goals (have e := HR2.out.setD (wrap64 (r.s.delta + (dodR (ofBytes bs) dodRows r).1)); rw [HSd.out] at e; exact ⟨e, only_put (only_trans (only_drew (only_refl w _)) HW2.out) 2 _⟩)
  case rest =>
    obtain ⟨hr2, hg2⟩ := hcut
    obtain ⟨d, hd⟩ : ∃ d, dodR (ofBytes bs) dodRows r = d := ⟨_, rfl⟩
    rw [hd] at hr2 HSd
    obtain ⟨D, hD⟩ : ∃ D, D = wrap64 (r.s.delta + d.1) := ⟨_, rfl⟩
    rw [← hD] at hr2
    have HD := Lib.hid hD
    have Hd := Lib.hid hd
    have d1 : wc.cell? ⟨R, 1, none⟩ = some (.int .i64 r.s.t) := hr2.blk.cell 1
    have d2 : wc.cell? ⟨R, 2, none⟩ = some (.int .i64 D) := hr2.blk.cell 2
    have f1 := hr2.blk.frozen 1
    have HR2 := Lib.hid hr2
    have HW2 := Lib.hid hg2
    clear hr2 hg2 hD hd c0 c2 hn0
    go_upto_region 5 with fail
    go_cut [] (fun wx => RdAt wx R G off cap bs { d.2 with s := { r.s with t := wrap64 (r.s.t + D), delta := D } } ∧ w.grownBy wx (some R))
    case first =>
      go_region
      all_goals (go_wp2_with fail; go_meet)
      exact ⟨(HR2.out.setT (wrap64 (r.s.t + D))).drew, only_drew (only_put HW2.out 1 _)⟩
    case rest =>
      obtain ⟨hr3, hg3⟩ := hcut
      obtain ⟨T, hT⟩ : ∃ T, T = wrap64 (r.s.t + D) := ⟨_, rfl⟩
      rw [← hT] at hr3
      have HT := Lib.hid hT
      have hx := valueR_lt (ofBytes bs) d.2
      have htd := valueR_td (ofBytes bs) d.2 T D
      have hsame : ({ d.2 with s := { d.2.s with t := T, delta := D } } : Rd) = { d.2 with s := { r.s with t := T, delta := D } } := by rw [HSd.out]
      rw [hsame] at htd
      have hvs : (valueR (ofBytes bs) d.2).2.s.v = r.s.v := by
        rw [valueR_s]
        split
        · rw [HSd.out]
        · unfold windowR; split <;> simp only [get_keeps, HSd.out]
      have hns : (valueR (ofBytes bs) d.2).2.s.n = r.s.n := by
        rw [valueR_s]
        split
        · rw [HSd.out]
        · unfold windowR; split <;> simp only [get_keeps, HSd.out]
      obtain ⟨x, hx0⟩ : ∃ x, valueR (ofBytes bs) d.2 = x := ⟨_, rfl⟩
      rw [hx0] at hx htd hvs hns
      have HNS := Lib.hid hns
      have d3 : wc.cell? ⟨R, 3, none⟩ = some (.int .u64 (r.s.v : Nat)) := hr3.blk.cell 3
      have f3 := hr3.blk.frozen 3
      have HX := Lib.hid hx0
      have HR3 := Lib.hid hr3
      have HW3 := Lib.hid hg3
      have HTD := Lib.hid htd
      have HVS := Lib.hid hvs
      clear hr3 hg3 hT hx0 htd hsame hvs hns
      have hrv : RdAt wc R G off cap bs { d.2 with s := { r.s with t := T, delta := D } } := HR3.out
      have hwin : Win ({ d.2 with s := { r.s with t := T, delta := D } } : Rd).s := hw
      have HWIN := Lib.hid hwin
      clear hwin hrv
      go_upto_region 6 with fail
      go_cut [] (fun wx => RdAt wx R G off cap bs { x.2 with s := { x.2.s with t := T, delta := D, v := r.s.v ^^^ x.1 } } ∧ w.grownBy wx (some R))
      case first =>
        have hv2 : r.s.v < 18446744073709551616 := hv
        clear hv
        go_region_with (go_at_call 47; refine (value_any R G off cap bs _ _ ?_ HWIN.out).mono ?_; exact HR3.out.drewN 1; rintro e w4 ⟨rfl, hr4, hg4⟩; rw [HTD.out] at hr4 ⊢; dsimp only at hr4 ⊢; have e3 : w4.cell? ⟨R, 3, none⟩ = some (.int .u64 (r.s.v : Nat)) := (hr4.blk.cell 3).trans (by show some (Value.int IntKind.u64 ((x.2.s.v : Nat) : Int)) = _; rw [HVS.out]); have f4 := hr4.blk.frozen 3; have HR4 := Lib.hid hr4; have HW4 := Lib.hid hg4; clear hr4 hg4)
        all_goals (go_wp2_with fail; go_meet)
        all_goals rw [u64_xor_nat _ _ hv2 hx]
        all_goals exact ⟨HR4.out.setV (r.s.v ^^^ x.1), only_put (only_trans (only_drew HW3.out) HW4.out) 3 _⟩
      case rest =>
        obtain ⟨hr5, hg5⟩ := hcut
        have e1 : nextR (ofBytes bs) r = { x.2 with s := { x.2.s with n := r.s.n + 1, t := T, delta := D, v := r.s.v ^^^ x.1 } } := by
          unfold nextR
          rw [if_neg (by omega)]
          simp only [Hd.out, HX.out, ← HD.out, ← HT.out]
        have HE := Lib.hid e1
        clear e1
        have a0 : wc.cell? ⟨R, 0, none⟩ = some (.int .i64 (r.s.n : Nat)) := (hr5.blk.cell 0).trans (by show some (Value.int IntKind.i64 ((x.2.s.n : Nat) : Int)) = _; rw [HNS.out])
        have a1 : wc.cell? ⟨R, 1, none⟩ = some (.int .i64 T) := hr5.blk.cell 1
        have a3 : wc.cell? ⟨R, 3, none⟩ = some (.int .u64 ((r.s.v ^^^ x.1 : Nat) : Int)) := hr5.blk.cell 3
        have a9 : wc.cell? ⟨R, 9, none⟩ = some (.bool x.2.short) := hr5.blk.cell 9
        have f0 := hr5.blk.frozen 0
        have HR5 := Lib.hid (hr5.setN (r.s.n + 1))
        have HW5 := Lib.hid (only_put hg5 0 (.int .i64 ((r.s.n + 1 : Nat) : Int)))
        rw [show (((r.s.n + 1 : Nat) : Int)) = (r.s.n : Int) + 1 by omega] at HR5 HW5
        obtain ⟨V, hV⟩ : ∃ V, V = r.s.v ^^^ x.1 := ⟨_, rfl⟩
        rw [← hV] at a3 HR5 HE
        clear hr5 hg5 hV d3 f3 hx
        go_wp2_with fail
        go_quiet (fail)
        go_wp2
        go_ret3
        rw [HE.out]
        exact ⟨rfl, HR5.out.drewN nq, only_drewN HW5.out nq⟩

/-- READ A SAMPLE. -/
theorem next_any (R G off cap : Nat) (bs : List Nat) (r : Rd) (w : World) (h : RdAt w R G off cap bs r) (hw : Win r.s) (hn2 : r.s.n ≤ 70000) (hv : r.s.v < 2 ^ 64) :
    Calls Tryd.prog 37 #[.pointer (some ⟨R, 0, none⟩)] w fun e w' => e = .returned (.tuple #[.int .i64 (nextR (ofBytes bs) r).s.t, .float .f64 (nextR (ofBytes bs) r).s.v, .bool (!(nextR (ofBytes bs) r).short)]) ∧
      RdAt w' R G off cap bs (nextR (ofBytes bs) r) ∧ w.grownBy w' (some R) := by
  by_cases hn : r.s.n = 0
  · exact next_first R G off cap bs r w h hn
  · exact next_more R G off cap bs r w h hw (by omega) hn2 hv

theorem nextR_keeps (rb : List Bool) (r : Rd) (hw : Win r.s) (hv : r.s.v < 2 ^ 64) : Win (nextR rb r).s ∧ (nextR rb r).s.v < 2 ^ 64 ∧ (nextR rb r).s.n = r.s.n + 1 := by
  unfold nextR
  split
  · have h2 := get_lt rb (Ck.get rb r 64).2 64
    have h3 : (Ck.get rb (Ck.get rb r 64).2 64).2.s = r.s := by rw [get_keeps, get_keeps]
    simp only
    refine ⟨?_, h2, trivial⟩
    rw [h3]
    exact hw
  · have h1 := valueR_win rb (dodR rb dodRows r).2 (by rw [dodR_s]; exact hw)
    have h2 := valueR_lt rb (dodR rb dodRows r).2
    simp only
    exact ⟨h1, Nat.xor_lt_two_pow hv h2, trivial⟩
end Go.Proofs.YtjlfkdopkhejbaaDoor
