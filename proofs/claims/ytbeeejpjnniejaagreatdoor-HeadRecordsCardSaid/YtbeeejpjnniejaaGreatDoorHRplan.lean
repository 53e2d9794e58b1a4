/- The document's head: plan of one point (115). -/
import Derived.Test.YtbeeejpjnniejaaGreatDoorHRhor
import Derived.Test.YtbeeejpjnniejaaGreatDoorJ06Rx2
import Derived.Test.YtbeeejpjnniejaaGreatDoorJ05LSet
import Derived.BigRegion
namespace Go.Proofs.YtbeeejpjnniejaaGreatDoor
open Go.RowKit Go.Shelf Go.Maps
attribute [local go_sem] tobits_call run_store_float
theorem RHd.drewN {w : World} {F : Nat → Prop} {p n : Nat} {H : Hd} (h : RHd w F p n H) (q : Nat) : RHd (w.drewN q) F p n H := h.keep (fun _ _ _ => rfl) fun _ h _ => h
set_option maxRecDepth 100000 in
set_option maxHeartbeats 6400000 in
theorem rplan_any (w : World) (F : Nat → Prop) (p n B : Nat) (H : Hd) (A : Option Addr) (c : Nat) (pl : List Lbl) (pt : Int) (pb : Nat) (h : RHd w F p n H) (hn : n ≤ 100000) (hv : LabsAt w B (.slice A pl.length c) pl) (hB : B ≤ w.heap.size) (hl : pl.length ≤ 100000)
    (hsz : ∀ p ∈ pl, p.1.size ≤ 9223372036854775807 ∧ p.2.size ≤ 9223372036854775807) :
    Calls Tryz.prog 115 #[.pointer (some ⟨p, 0, none⟩), .agg #[.slice A pl.length c, .int .i64 pt, .float .f64 pb]] w fun e w' => e = .returned (.int .i64 (H.code (pl, pt, pb))) ∧ Below w.heap.size w w' := by
  obtain ⟨w1, hw1⟩ : ∃ w1, w1 = w.alloc (.cells #[.slice A pl.length c, .int .i64 pt, .float .f64 pb] 57) := ⟨_, rfl⟩
  have hs1 : w1.heap.size = w.heap.size + 1 := by rw [hw1]; simp
  have hb1 : Below w.heap.size w w1 := by rw [hw1]; exact (Below.refl _ w).alloc (Nat.le_refl _) _
  have hbx : Blk w1 w.heap.size 57 #[.slice A pl.length c, .int .i64 pt, .float .f64 pb] := by rw [hw1]; exact Blk.new w 57 _
  have HA := Lib.hid (rat_any w1 F p n B H (.slice A pl.length c) pl (h.below hb1) hn (hv.below hb1 hB) hl)
  have HR := Lib.hid (fun q => rright_any (w1.drewN q) B (.slice A pl.length c) pl (hv.below (below_drewN hb1 q) hB) (by show B ≤ w1.heap.size; omega) (by omega) hsz)
  obtain ⟨m, hm⟩ : ∃ m, m = pl.length := ⟨_, rfl⟩
  rw [← hm] at HA HR hbx hw1 ⊢
  have p0 : w1.cell? ⟨w.heap.size, 0, none⟩ = some (.slice A m c) := hbx.cell 0
  have HW1 := Lib.hid hw1
  have HBX := Lib.hid hbx
  have HB1 := Lib.hid hb1
  have HH := Lib.hid (h.below hb1)
  have HM := Lib.hid hm
  have HS1 := Lib.hid hs1
  obtain ⟨i, hi⟩ : ∃ i, i = (atP pl H.ss).1 := ⟨_, rfl⟩
  obtain ⟨f, hf⟩ : ∃ f, f = (atP pl H.ss).2 := ⟨_, rfl⟩
  rw [← hi, ← hf] at HA
  have HI := Lib.hid hi
  have HF := Lib.hid hf
  obtain ⟨code, hcode⟩ : ∃ code, code = H.code (pl, pt, pb) := ⟨_, rfl⟩
  rw [← hcode]
  have HC := Lib.hid hcode
  clear hw1 hs1 hb1 hbx hm h hv hB hl hsz hi hf hcode
  go_enter Tryz.func115, Tryz.ntmps115
  go_upto_region 1 with fail
  rw [← HW1.out]
  go_wp2_with fail
  refine HA.out.mono ?_
  rintro e w2 ⟨rfl, q, rfl⟩
  by_cases h0 : m = 0
  · subst h0
    have HV := Lib.hid (show code = 2 by
      rw [HC.out]
      have e0 := List.length_eq_zero_iff.1 HM.out.symm
      rw [e0]
      rfl)
    go_wp2
    go_ret
    exact ⟨by rw [HV.out]; rfl, below_drewN HB1.out _⟩
  have i0 : ¬ (m : Int) = 0 := by omega
  have i0b : ((m : Int) == 0) = false := by simpa using h0
  go_wp2_with fail
  refine (HR.out q).mono ?_
  rintro e w3 ⟨rfl, hb3⟩
  have hB3 : Below w.heap.size w w3 := (below_drewN HB1.out q).trans (hb3.mono (by show _ ≤ w1.heap.size; have := HS1.out; omega))
  have hh3 : RHd w3 F p n H := (HH.out.drewN q).below hb3
  have bx3 : Blk w3 w.heap.size 57 #[.slice A m c, .int .i64 pt, .float .f64 pb] := Blk.below (w := w1.drewN q) HBX.out hb3 (by show _ < w1.heap.size; have := HS1.out; omega)
  have p1 : w3.cell? ⟨w.heap.size, 1, none⟩ = some (.int .i64 pt) := bx3.cell 1
  have p2 : w3.cell? ⟨w.heap.size, 2, none⟩ = some (.float .f64 pb) := bx3.cell 2
  obtain ⟨hz, hhz⟩ : ∃ hz, hz = horizonP H.ret H.newest := ⟨_, rfl⟩
  have HHZ := Lib.hid (fun q => rhor_any (w3.drewN q) F p n H (hh3.drewN q))
  rw [← hhz] at HHZ
  have HB3 := Lib.hid hB3
  have HH3 := Lib.hid hh3
  have HZE := Lib.hid hhz
  clear hb3 hB3 hh3 bx3 hhz p0
  cases hrg : rightL pl with
  | false =>
    have HV := Lib.hid (show code = 2 by
      rw [HC.out]
      unfold Hd.code fitP
      rw [hrg]
      rfl)
    clear hrg
    go_wp2
    go_ret
    exact ⟨by rw [HV.out]; rfl, HB3.out⟩
  | true =>
    have hce : code = codeP H.ret H.newest (H.last pl) pt pb := by
      rw [HC.out]
      unfold Hd.code fitP
      have e0 : pl.isEmpty = false := by
        cases pl with
        | nil => exact absurd HM.out h0
        | cons a l => rfl
      rw [hrg, e0]
      rfl
    clear hrg
    unfold codeP at hce
    rw [← HZE.out, show big = 9007199254740992 from rfl] at hce
    have HCD := Lib.hid hce
    clear hce
    by_cases h1 : pt < -9007199254740992
    · have HV := Lib.hid (show code = 9 by rw [HCD.out, if_pos (.inl h1)])
      go_wp2
      go_ret
      exact ⟨by rw [HV.out]; rfl, HB3.out⟩
    by_cases h2 : 9007199254740992 < pt
    · have HV := Lib.hid (show code = 9 by rw [HCD.out, if_pos (.inr h2)])
      go_wp2
      go_ret
      exact ⟨by rw [HV.out]; rfl, HB3.out⟩
    by_cases h3 : pt < hz
    · have HV := Lib.hid (show code = 12 by rw [HCD.out, if_neg (by omega), if_pos (.inl h3)])
      have i3 : decide (pt < hz) = true := decide_eq_true h3
      go_wp2_with fail
      go_quiet ((go_at_call 118; exact Calls.quiet_of (HHZ.out _)))
      go_wp2
      go_ret
      exact ⟨by rw [HV.out]; rfl, below_drewN HB3.out _⟩
    have i3 : decide (pt < hz) = false := decide_eq_false h3
    cases f with
    | false =>
      have HV := Lib.hid (show code = 0 by
        have e1 : H.last pl = none := by
          unfold Hd.last
          rw [atP_none pl HH3.out.1.sorted HF.out.symm]
          rfl
        rw [HCD.out, if_neg (by omega), e1, if_neg (by rintro (h | ⟨x, hx, -⟩); exact h3 h; cases hx)])
      go_wp2_with fail
      go_quiet ((go_at_call 118; exact Calls.quiet_of (HHZ.out _)))
      go_wp2
      go_ret
      exact ⟨by rw [HV.out]; rfl, below_drewN HB3.out _⟩
    | true =>
      obtain ⟨s, hs, hsl, hfs, -⟩ := atP_found pl (0, 0, false) HF.out.symm
      obtain ⟨x, hx, hxl⟩ := HH3.out.1.last_lt hfs
      obtain ⟨te, be, xd⟩ := x
      dsimp only at hxl
      rw [hxl] at HCD
      obtain ⟨hok, hn1, hn2, vL, vs, hr⟩ := HH3.out
      rw [← HI.out] at hs
      have hiN : i < H.ss.length := (List.getElem?_eq_some_iff.1 hs).1
      obtain ⟨xv, hxv⟩ : ∃ xv, vs[i]? = some xv := ⟨_, List.getElem?_eq_getElem (by have := hr.len; omega)⟩
      have hea := hr.each i xv s hxv hs
      obtain ⟨N, hN⟩ : ∃ N, N = H.ss.length := ⟨_, rfl⟩
      obtain ⟨k, hk⟩ : ∃ k, k = s.2.length := ⟨_, rfl⟩
      have hkn : k ≤ n := by rw [hk]; exact hn2 s (List.mem_of_getElem? hs)
      have hrow := hr.row
      obtain ⟨AL, cL, rfl⟩ := own_slice hrow
      have hblk := hr.blk
      rw [← hN] at hrow hblk hiN hn1
      have y1 : w3.cell? ⟨p, 1, none⟩ = some (.slice AL N cL) := hblk.cell 1
      have hrd : Reads w3 w3.heap.size 2 AL N (flatV vs) := Reads.of_own hrow
      obtain ⟨d, rfl, -, -, y2⟩ := hrd.two hxv
      obtain ⟨AS, cS, hxs⟩ := own_slice hea.2.1
      have hrs := hea.2.1
      rw [hxs, ← hk] at hrs
      rw [hxs, ← hk] at y2
      have hk0 : 0 < k := by
        rw [hk]
        cases hh : s.2 with
        | nil => rw [hh] at hx; cases hx
        | cons a l => exact Nat.succ_pos _
      have hx2 : s.2[k - 1]? = some (te, be, xd) := by rw [hk, ← List.getLast?_eq_getElem?]; exact hx
      obtain ⟨g0, g1, g2⟩ := rowV_get s.2 (k - 1) _ hx2
      obtain ⟨dS, rfl, -, z0, z1, z2⟩ := (Reads.of_own hrs).three (i := k - 1) (by omega) g0 g1 g2
      dsimp only at z0 z1 z2
      have k1 : IntKind.i64.wrap ((k : Int) - 1) = ((k - 1 : Nat) : Int) := (IntWalk.i64_in _ (by omega)).trans (by omega)
      have j1 : (i : Int) < (N : Int) := by omega
      have j0 : (0 : Int) ≤ (i : Int) := by omega
      have j3 : ((k - 1 : Nat) : Int) < (k : Int) := by omega
      have j4 : (0 : Int) ≤ ((k - 1 : Nat) : Int) := by omega
      clear hs hsl hfs hx hxl hok hn1 hn2 hr hxv hea hN hk hkn hrow hblk hrd hxs hrs hx2 g0 g1 g2 hiN
      obtain ⟨k9, hk9⟩ : ∃ k9, k9 = k - 1 := ⟨_, rfl⟩
      rw [← hk9] at z0 z1 z2 k1 j3 j4
      clear hk9
      go_upto_region 6 with fail
      go_quiet ((go_at_call 118; exact Calls.quiet_of (HHZ.out _)))
      go_upto_region 10 with fail
      obtain ⟨w4, hw4⟩ : ∃ w4, w4 = w3.drewN nq := ⟨_, rfl⟩
      rw [← hw4]
      replace p1 : w4.cell? ⟨w.heap.size, 1, none⟩ = some (.int .i64 pt) := by rw [hw4]; exact p1
      replace p2 : w4.cell? ⟨w.heap.size, 2, none⟩ = some (.float .f64 pb) := by rw [hw4]; exact p2
      replace y1 : w4.cell? ⟨p, 1, none⟩ = some (.slice (some d) N cL) := by rw [hw4]; exact y1
      replace y2 : w4.cell? ⟨(d.add (i * 2)).block, (d.add (i * 2)).off + 1, none⟩ = some (.slice (some dS) k cS) := by rw [hw4]; exact y2
      replace z0 : w4.cell? (dS.add (k9 * 3)) = some (.int .i64 te) := by rw [hw4]; exact z0
      replace z1 : w4.cell? ⟨(dS.add (k9 * 3)).block, (dS.add (k9 * 3)).off + 1, none⟩ = some (.float .f64 be) := by rw [hw4]; exact z1
      replace z2 : w4.cell? ⟨(dS.add (k9 * 3)).block, (dS.add (k9 * 3)).off + 2, none⟩ = some (.bool xd) := by rw [hw4]; exact z2
      have HB4 := Lib.hid (show Below w.heap.size w w4 by rw [hw4]; exact below_drewN HB3.out nq)
      have ka : ∀ (a : Addr) (v : Value), w4.cell? a = some v → (w4.alloc (.cells #[.int .i64 0, .float .f64 0, .bool false] 155)).cell? a = some v := fun a v h => (World.cell?_alloc_lt w4 _ a (World.block_lt_of_cell? w4 _ h)).trans h
      have y1a := ka _ _ y1
      have y2a := ka _ _ y2
      have z0a := ka _ _ z0
      have z1a := ka _ _ z1
      have z2a := ka _ _ z2
      clear hw4 ka
      have hw5 : Below w.heap.size w (w4.alloc (.cells #[.int .i64 te, .float .f64 be, .bool xd] 155)).drew := (HB4.out.alloc HB4.out.size _).drew
      have bx5 : Blk (w4.alloc (.cells #[.int .i64 te, .float .f64 be, .bool xd] 155)).drew w4.heap.size 155 #[.int .i64 te, .float .f64 be, .bool xd] := Blk.new w4 155 _
      have q1 : (w4.alloc (.cells #[.int .i64 te, .float .f64 be, .bool xd] 155)).drew.cell? ⟨w.heap.size, 1, none⟩ = some (.int .i64 pt) := (World.cell?_alloc_lt w4 _ _ (World.block_lt_of_cell? w4 _ p1)).trans p1
      have q2 : (w4.alloc (.cells #[.int .i64 te, .float .f64 be, .bool xd] 155)).drew.cell? ⟨w.heap.size, 2, none⟩ = some (.float .f64 pb) := (World.cell?_alloc_lt w4 _ _ (World.block_lt_of_cell? w4 _ p2)).trans p2
      obtain ⟨w5, hww⟩ : ∃ w5, w5 = (w4.alloc (.cells #[.int .i64 te, .float .f64 be, .bool xd] 155)).drew := ⟨_, rfl⟩
      rw [← hww] at hw5 bx5 q1 q2
      have HQ1 := Lib.hid q1
      have HQ2 := Lib.hid q2
      have HB5 := Lib.hid hw5
      have HBX5 := Lib.hid bx5
      have HWW := Lib.hid hww
      clear q1 q2 hw5 bx5 hww
      go_region
      rw [← HWW.out]
      clear p1 p2 y1 y2 z0 z1 z2 y1a y2a z0a z1a z2a k1 j0 j1 j3 j4
      have q1 := HQ1.out
      have q2 := HQ2.out
      have e0 : w5.cell? ⟨w4.heap.size, 0, none⟩ = some (.int .i64 te) := HBX5.out.cell 0
      have e1 : w5.cell? ⟨w4.heap.size, 1, none⟩ = some (.float .f64 be) := HBX5.out.cell 1
      by_cases h4 : pt < te
      · have HV := Lib.hid (show code = 12 by rw [HCD.out, if_neg (by omega), if_pos (.inr ⟨_, rfl, h4⟩)])
        go_wp2
        go_ret
        exact ⟨by rw [HV.out]; rfl, HB5.out⟩
      · have HCE := Lib.hid (show code = if te < pt then 0 else if pb = be then 16 else 13 by
          rw [HCD.out, if_neg (by omega), if_neg (by
            rintro (h | ⟨x, hx, h⟩)
            · omega
            · injection hx with hx; subst hx; dsimp only at h; omega)])
        by_cases h5 : te < pt
        · have HV := Lib.hid (show code = 0 by rw [HCE.out, if_pos h5])
          have n5 : (pt == te) = false := beq_eq_false_iff_ne.2 (by omega)
          have n6 : ¬ pt = te := by omega
          go_upto_region 13 with fail
          go_quiet (fail)
          go_wp2
          go_ret
          exact ⟨by rw [HV.out]; rfl, below_drewN HB5.out _⟩
        · have n6 : te = pt := by omega
          subst n6
          by_cases h6 : pb = be
          case' pos =>
            have HV := Lib.hid (show code = 16 by rw [HCE.out, if_neg h5, if_pos h6])
            have i6 : ((pb : Int) == (be : Int)) = true := beq_iff_eq.2 (by omega)
          case' neg =>
            have HV := Lib.hid (show code = 13 by rw [HCE.out, if_neg h5, if_neg h6])
            have i6 : ((pb : Int) == (be : Int)) = false := beq_eq_false_iff_ne.2 (by omega)
          all_goals
            clear h6
            go_upto_region 13 with fail
            go_quiet (fail)
            go_wp2
            go_ret
            exact ⟨by rw [HV.out]; rfl, below_drewN HB5.out _⟩
end Go.Proofs.YtbeeejpjnniejaaGreatDoor
