/- The reader of expressions: either, and a whole expression of one class. The maker of programs: put. The maker at an expression of one class; Compile. Compile of an expression of one class. Match of a program of one range at a text of one character. labels.Get. maps.Keys and slices.Collect at this program: the shelf's contracts, laid, in plain words (the lay-plain tool's print). -/
import Derived.Test.YtbeeejpjnniejaaGreatDoorJ07HPlan
import Derived.Defers
import Derived.Recover
import Derived.StillTailTactics
import Derived.Test.YtbeeejpjnniejaaGreatDoorJ01Keep
import Derived.Test.YtbeeejpjnniejaaGreatDoorJ04LRight
import Derived.Below
import Derived.Deep.RegionLaw
import Derived.WalkMore
import Derived.Shelf.SlIter.Collect
import Derived.Ground.GgzProg
import Derived.Test.YtbeeejpjnniejaaGreatDoorJ05LSet
namespace Go.Proofs.YtbeeejpjnniejaaGreatDoor
open Go.RowKit Go.Shelf
set_option maxRecDepth 100000 in
set_option maxHeartbeats 3200000 in
theorem either_any (w : World) (p : Nat) (s : ByteArray) (g c1 n1 c2 n2 : Nat) (h : RdAt w p s 0 g) (hT : Tabs w) (hp : 2 < p) (hr : Rxp s c1 n1 c2 n2) :
    Calls Tryz.prog 216 #[.pointer (some ⟨p, 0, none⟩)] w fun e w' => ∃ t, e = .returned (.pointer (some ⟨t, 0, none⟩)) ∧ RdTo w p s s.size g w' ∧ ChainAt w' w.heap.size t c1 c2 := by
  have HC := Lib.hid (chain_any w p s g c1 n1 c2 n2 h hT hp hr)
  have HK := Lib.hid (fun W (hW : RdTo w p s s.size g W) => takes_no W p s s.size g 124 hW.at_ hr.rng.size (isB_end rfl))
  have hpl : p < w.heap.size := h.lt
  clear h hT hr
  go_enter Tryz.func216, Tryz.ntmps216
  go_wp2_with fail
  refine HC.out.mono ?_
  rintro e w1 ⟨t, rfl, h1, hs1⟩
  have H1 := Lib.hid h1
  have HS1 := Lib.hid hs1
  clear h1 hs1 HC
  go_wp2_with fail
  go_loopw [3] (fun v wr => v = .pointer (some ⟨t, 0, none⟩) ∧ wr = w1) (fun _ _ => 0)
  case atStart => exact ⟨rfl, rfl⟩
  case round =>
    obtain ⟨rfl, rfl⟩ := hrel
    go_wp2_with fail
    refine (HK.out wr H1.out).mono ?_
    rintro e w2 ⟨rfl, h2⟩
    have H2 := Lib.hid (H1.out.trans h2)
    have HS2 := Lib.hid (HS1.out.keep fun j hj hlt => h2.keep hlt (by omega))
    clear h2
    go_wp2
    go_ret
    exact ⟨t, rfl, H2.out, HS2.out⟩
/-! ### read: with the deferred recovery -/
theorem catch_idle (a b c d : Value) (w : World) :
    CallsD Tryz.prog 215 #[a, b, c, d] .returning w fun e u' w' => e = .returned (.tuple #[]) ∧ u' = .returning ∧ w' = w := by
  refine callsD_of_wpS Tryz.func215 rfl fun c₀ cs hu => ?_
  apply wpS_seq
  apply wpS_region
  simp [wpOpsS, go_sem, recoverD, hu, Tryz.ntmps215, Exit.thenS]
  refine wpS_of_wp ?_
  simp only [Array.replicate_succ, Array.replicate_zero, List.push_toArray, List.append_toArray, List.nil_append, List.cons_append, List.setIfInBounds_toArray, List.set_cons_succ, List.set_cons_zero]
  go_wp2
  cases c₀
  simp_all [bodyPostS, results, Tryz.results215]
set_option maxRecDepth 100000 in
set_option maxHeartbeats 3200000 in
theorem read_any (w : World) (s : ByteArray) (c1 n1 c2 n2 : Nat) (hT : Tabs w) (hr : Rxp s c1 n1 c2 n2) :
    Calls Tryz.prog 168 #[.string s] w fun e w' => ∃ t, e = .returned (.tuple #[.pointer (some ⟨t, 0, none⟩), .int .i64 0, .int .i64 0, .bool true]) ∧ Below w.heap.size w w' ∧ ChainAt w' w.heap.size t c1 c2 := by
  have hmf : ∀ (fn : Fn) (first cap : Array Value) (w : World), (Instr.makeFunc fn first cap).run Tryz.prog w = .ok (.func fn first cap) w := fun _ _ _ _ => rfl
  obtain ⟨w5, hw5⟩ : ∃ w5, w5 = (((w.alloc (.cells #[.pointer none] 284)).alloc (.cells #[.int .i64 0] 3)).alloc (.cells #[.int .i64 0] 3)).alloc (.cells #[.bool false] 4) := ⟨_, rfl⟩
  have hs5 : w5.heap.size = w.heap.size + 1 + 1 + 1 + 1 := by rw [hw5]; simp
  have r0 : Blk w5 w.heap.size 284 #[.pointer none] := by rw [hw5]; exact (((Blk.new w 284 _).alloc _).alloc _).alloc _
  have r1 : Blk w5 (w.heap.size + 1) 3 #[.int .i64 0] := by
    have h1 := ((Blk.new (w.alloc (.cells #[.pointer none] 284)) 3 #[.int .i64 0]).alloc (.cells #[.int .i64 0] 3)).alloc (.cells #[.bool false] 4)
    rw [World.size_alloc] at h1
    rw [hw5]; exact h1
  have r2 : Blk w5 (w.heap.size + 1 + 1) 3 #[.int .i64 0] := by
    have h1 := (Blk.new ((w.alloc (.cells #[.pointer none] 284)).alloc (.cells #[.int .i64 0] 3)) 3 #[.int .i64 0]).alloc (.cells #[.bool false] 4)
    rw [World.size_alloc, World.size_alloc] at h1
    rw [hw5]; exact h1
  have r3 : Blk w5 (w.heap.size + 1 + 1 + 1) 4 #[.bool false] := by
    have h1 := Blk.new (((w.alloc (.cells #[.pointer none] 284)).alloc (.cells #[.int .i64 0] 3)).alloc (.cells #[.int .i64 0] 3)) 4 #[.bool false]
    rw [World.size_alloc, World.size_alloc, World.size_alloc] at h1
    rw [hw5]; exact h1
  have hb5 : Below w.heap.size w w5 := by rw [hw5]; exact ((((Below.refl _ w).alloc (Nat.le_refl _) _).alloc (by simp) _).alloc (by simp; omega) _).alloc (by simp; omega) _
  obtain ⟨w6, hw6⟩ : ∃ w6, w6 = w5.alloc (.cells #[.string s, .int .i64 0, .int .i64 0] 330) := ⟨_, rfl⟩
  have hr6 : RdAt w6 (w.heap.size + 1 + 1 + 1 + 1) s 0 0 := by
    have h1 := Blk.new w5 330 #[.string s, .int .i64 0, .int .i64 0]
    rw [hs5] at h1
    rw [hw6]; exact h1
  have hb56 : Below w5.heap.size w5 w6 := by rw [hw6]; exact (Below.refl _ w5).alloc (Nat.le_refl _) _
  have hb6 : Below w.heap.size w w6 := hb5.trans (hb56.mono hb5.size)
  have HC := Lib.hid (either_any w6 _ s 0 c1 n1 c2 n2 hr6 (hT.below_ hb6) (by have := hT.lt; omega) hr)
  have H6 := Lib.hid (r0.below hb56 r0.lt)
  have HR1 := Lib.hid (r1.below hb56 r1.lt)
  have HR2 := Lib.hid (r2.below hb56 r2.lt)
  have HR3 := Lib.hid (r3.below hb56 r3.lt)
  have HB6 := Lib.hid hb6
  have HW5 := Lib.hid hw5
  have HW6 := Lib.hid hw6
  have HRX := Lib.hid hr
  have hs6 : w.heap.size + 1 + 1 + 1 + 1 < w6.heap.size := hr6.lt
  have HR6 := Lib.hid hr6
  clear hT hr hr6 hb6 hb56 hb5 r0 r1 r2 r3 hw5 hw6
  go_enter_defers Tryz.func168, Tryz.ntmps168
  go_upto_region 1 with fail
  rw [← HW5.out]
  go_upto_region 2 with fail
  rw [← HW6.out]
  go_wp2_with fail
  refine HC.out.mono ?_
  rintro e w7 ⟨t, rfl, h7, hc7⟩
  have q0 := Lib.hid (show Blk w7 w.heap.size 284 #[.pointer none] from (h7.keep H6.out.lt (by omega)).trans H6.out)
  have q1 := Lib.hid (show Blk w7 (w.heap.size + 1) 3 #[.int .i64 0] from (h7.keep HR1.out.lt (by omega)).trans HR1.out)
  have q2 := Lib.hid (show Blk w7 (w.heap.size + 1 + 1) 3 #[.int .i64 0] from (h7.keep HR2.out.lt (by omega)).trans HR2.out)
  have q3 := Lib.hid (show Blk w7 (w.heap.size + 1 + 1 + 1) 4 #[.bool false] from (h7.keep HR3.out.lt (by omega)).trans HR3.out)
  have x0 : w7.cell? ⟨w.heap.size, 0, none⟩ = some (.pointer none) := q0.out.cell 0
  have f0 := q0.out.frozen 0
  have H7 := Lib.hid h7
  have HC7 := Lib.hid hc7
  have p8 : RdAt (w7.setCell ⟨w.heap.size, 0, none⟩ (.pointer (some ⟨t, 0, none⟩))) (w.heap.size + 1 + 1 + 1 + 1) s s.size 0 := Blk.far h7.at_ (p := ⟨w.heap.size, 0, none⟩) (by show _ ≠ w.heap.size; omega) _
  have e0 : Blk (w7.setCell ⟨w.heap.size, 0, none⟩ (.pointer (some ⟨t, 0, none⟩))) w.heap.size 284 #[.pointer (some ⟨t, 0, none⟩)] := q0.out.set_ 0 _
  have e1 : Blk (w7.setCell ⟨w.heap.size, 0, none⟩ (.pointer (some ⟨t, 0, none⟩))) (w.heap.size + 1) 3 #[.int .i64 0] := q1.out.far (p := ⟨w.heap.size, 0, none⟩) (by show _ ≠ w.heap.size; omega) _
  have e2 : Blk (w7.setCell ⟨w.heap.size, 0, none⟩ (.pointer (some ⟨t, 0, none⟩))) (w.heap.size + 1 + 1) 3 #[.int .i64 0] := q2.out.far (p := ⟨w.heap.size, 0, none⟩) (by show _ ≠ w.heap.size; omega) _
  have e3 : Blk (w7.setCell ⟨w.heap.size, 0, none⟩ (.pointer (some ⟨t, 0, none⟩))) (w.heap.size + 1 + 1 + 1) 4 #[.bool false] := q3.out.far (p := ⟨w.heap.size, 0, none⟩) (by show _ ≠ w.heap.size; omega) _
  have b8 : Below w.heap.size w (w7.setCell ⟨w.heap.size, 0, none⟩ (.pointer (some ⟨t, 0, none⟩))) := Below.setCell ((HB6.out).trans (h7.chg.toBelow (fun k e => by omega) (by omega))) (p := ⟨w.heap.size, 0, none⟩) (Nat.le_refl _) _
  have k8 : ChainAt (w7.setCell ⟨w.heap.size, 0, none⟩ (.pointer (some ⟨t, 0, none⟩))) w6.heap.size t c1 c2 := hc7.keep fun j hj hlt => Below.heap_setCell _ _ _ _ (by show j ≠ w.heap.size; omega)
  obtain ⟨w8, hw8⟩ : ∃ w8, w8 = w7.setCell ⟨w.heap.size, 0, none⟩ (.pointer (some ⟨t, 0, none⟩)) := ⟨_, rfl⟩
  rw [← hw8] at p8 e0 e1 e2 e3 b8 k8
  have HW8 := Lib.hid hw8
  have HM := Lib.hid (more_any w8 _ s s.size 0 p8)
  have hd : decide (s.size < s.size) = false := by simp
  rw [hd] at HM
  have P8 := Lib.hid p8
  have E0 := Lib.hid e0
  have E1 := Lib.hid e1
  have E2 := Lib.hid e2
  have E3 := Lib.hid e3
  have B8 := Lib.hid b8
  have K8 := Lib.hid k8
  clear h7 hc7 HC p8 e0 e1 e2 e3 b8 k8 hw8 hd
  go_upto_region 4 with fail
  rw [← HW8.out]
  go_wp2_with fail
  refine HM.out.mono ?_
  rintro e w9 ⟨rfl, q9, hw9⟩
  have g0 : Blk w9 w.heap.size 284 #[.pointer (some ⟨t, 0, none⟩)] := by rw [hw9]; exact E0.out
  have g1 : Blk w9 (w.heap.size + 1) 3 #[.int .i64 0] := by rw [hw9]; exact E1.out
  have g2 : Blk w9 (w.heap.size + 1 + 1) 3 #[.int .i64 0] := by rw [hw9]; exact E2.out
  have g3 : Blk w9 (w.heap.size + 1 + 1 + 1) 4 #[.bool false] := by rw [hw9]; exact E3.out
  have g4 : RdAt w9 (w.heap.size + 1 + 1 + 1 + 1) s s.size 0 := by rw [hw9]; exact P8.out
  have c0 : w9.drew.cell? ⟨w.heap.size, 0, none⟩ = some (.pointer (some ⟨t, 0, none⟩)) := g0.cell 0
  have c1' : w9.drew.cell? ⟨w.heap.size + 1, 0, none⟩ = some (.int .i64 0) := g1.cell 0
  have c2' : w9.drew.cell? ⟨w.heap.size + 1 + 1, 0, none⟩ = some (.int .i64 0) := g2.cell 0
  have c3 : w9.drew.cell? ⟨w.heap.size + 1 + 1 + 1, 0, none⟩ = some (.bool false) := g3.cell 0
  have c4 : w9.drew.cell? ⟨w.heap.size + 1 + 1 + 1 + 1, 2, none⟩ = some (.int .i64 ((0 : Nat) : Int)) := g4.cell 2
  have G0 := Lib.hid g0
  have G1 := Lib.hid g1
  have G2 := Lib.hid g2
  have G3 := Lib.hid g3
  have B9 := Lib.hid (show Below w.heap.size w w9 by rw [hw9]; exact ⟨B8.out.1, B8.out.2, B8.out.3, B8.out.4, B8.out.5⟩)
  have K9 := Lib.hid (show ChainAt w9 w6.heap.size t c1 c2 by rw [hw9]; exact K8.out)
  have y0 : w9.cell? ⟨w.heap.size, 0, none⟩ = some (.pointer (some ⟨t, 0, none⟩)) := g0.cell 0
  have y1 : w9.cell? ⟨w.heap.size + 1, 0, none⟩ = some (.int .i64 0) := g1.cell 0
  have y2 : w9.cell? ⟨w.heap.size + 1 + 1, 0, none⟩ = some (.int .i64 0) := g2.cell 0
  have y3 : w9.cell? ⟨w.heap.size + 1 + 1 + 1, 0, none⟩ = some (.bool false) := g3.cell 0
  have y4 : w9.cell? ⟨w.heap.size + 1 + 1 + 1 + 1, 2, none⟩ = some (.int .i64 ((0 : Nat) : Int)) := g4.cell 2
  have z0 := g0.frozen 0
  have z1 := g1.frozen 0
  have z2 := g2.frozen 0
  have z3 := g3.frozen 0
  clear HM hw9 g0 g1 g2 g3 g4
  go_upto_region 6 with fail
  go_region
  obtain ⟨w10, hw10⟩ : ∃ w10, w10 = ((((w9.setCell ⟨w.heap.size, 0, none⟩ (.pointer (some ⟨t, 0, none⟩))).setCell ⟨w.heap.size + 1, 0, none⟩ (.int .i64 0)).setCell ⟨w.heap.size + 1 + 1, 0, none⟩ (.int .i64 0)).setCell ⟨w.heap.size + 1 + 1 + 1, 0, none⟩ (.bool true)).drew := ⟨_, rfl⟩
  rw [← hw10]
  have n0 : Blk w10 w.heap.size 284 #[.pointer (some ⟨t, 0, none⟩)] := by
    rw [hw10]
    exact ((((G0.out.set_ 0 (.pointer (some ⟨t, 0, none⟩))).far (p := ⟨w.heap.size + 1, 0, none⟩) (by show w.heap.size ≠ w.heap.size + 1; omega) (.int .i64 0)).far (p := ⟨w.heap.size + 1 + 1, 0, none⟩) (by show w.heap.size ≠ w.heap.size + 1 + 1; omega) (.int .i64 0)).far (p := ⟨w.heap.size + 1 + 1 + 1, 0, none⟩) (by show w.heap.size ≠ w.heap.size + 1 + 1 + 1; omega) (.bool true))
  have n1 : Blk w10 (w.heap.size + 1) 3 #[.int .i64 0] := by
    rw [hw10]
    exact ((((G1.out.far (p := ⟨w.heap.size, 0, none⟩) (by show w.heap.size + 1 ≠ w.heap.size; omega) (.pointer (some ⟨t, 0, none⟩))).set_ 0 (.int .i64 0)).far (p := ⟨w.heap.size + 1 + 1, 0, none⟩) (by show w.heap.size + 1 ≠ w.heap.size + 1 + 1; omega) (.int .i64 0)).far (p := ⟨w.heap.size + 1 + 1 + 1, 0, none⟩) (by show w.heap.size + 1 ≠ w.heap.size + 1 + 1 + 1; omega) (.bool true))
  have n2 : Blk w10 (w.heap.size + 1 + 1) 3 #[.int .i64 0] := by
    rw [hw10]
    exact ((((G2.out.far (p := ⟨w.heap.size, 0, none⟩) (by show w.heap.size + 1 + 1 ≠ w.heap.size; omega) (.pointer (some ⟨t, 0, none⟩))).far (p := ⟨w.heap.size + 1, 0, none⟩) (by show w.heap.size + 1 + 1 ≠ w.heap.size + 1; omega) (.int .i64 0)).set_ 0 (.int .i64 0)).far (p := ⟨w.heap.size + 1 + 1 + 1, 0, none⟩) (by show w.heap.size + 1 + 1 ≠ w.heap.size + 1 + 1 + 1; omega) (.bool true))
  have n3 : Blk w10 (w.heap.size + 1 + 1 + 1) 4 #[.bool true] := by
    rw [hw10]
    exact ((((G3.out.far (p := ⟨w.heap.size, 0, none⟩) (by show w.heap.size + 1 + 1 + 1 ≠ w.heap.size; omega) (.pointer (some ⟨t, 0, none⟩))).far (p := ⟨w.heap.size + 1, 0, none⟩) (by show w.heap.size + 1 + 1 + 1 ≠ w.heap.size + 1; omega) (.int .i64 0)).far (p := ⟨w.heap.size + 1 + 1, 0, none⟩) (by show w.heap.size + 1 + 1 + 1 ≠ w.heap.size + 1 + 1; omega) (.int .i64 0)).set_ 0 (.bool true))
  have b10 : Below w.heap.size w w10 := by
    rw [hw10]
    exact ((((B9.out.setCell (p := ⟨w.heap.size, 0, none⟩) (Nat.le_refl _) _).setCell (p := ⟨w.heap.size + 1, 0, none⟩) (by show w.heap.size ≤ w.heap.size + 1; omega) _).setCell (p := ⟨w.heap.size + 1 + 1, 0, none⟩) (by show w.heap.size ≤ w.heap.size + 1 + 1; omega) _).setCell (p := ⟨w.heap.size + 1 + 1 + 1, 0, none⟩) (by show w.heap.size ≤ w.heap.size + 1 + 1 + 1; omega) _).drew
  have k10 : ChainAt w10 w6.heap.size t c1 c2 := by
    rw [hw10]
    refine K9.out.keep fun j hj hlt => ?_
    have e0 := Below.heap_setCell w9 ⟨w.heap.size, 0, none⟩ (.pointer (some ⟨t, 0, none⟩)) j (by show j ≠ w.heap.size; omega)
    have e1 := Below.heap_setCell (w9.setCell ⟨w.heap.size, 0, none⟩ (.pointer (some ⟨t, 0, none⟩))) ⟨w.heap.size + 1, 0, none⟩ (.int .i64 0) j (by show j ≠ w.heap.size + 1; omega)
    have e2 := Below.heap_setCell ((w9.setCell ⟨w.heap.size, 0, none⟩ (.pointer (some ⟨t, 0, none⟩))).setCell ⟨w.heap.size + 1, 0, none⟩ (.int .i64 0)) ⟨w.heap.size + 1 + 1, 0, none⟩ (.int .i64 0) j (by show j ≠ w.heap.size + 1 + 1; omega)
    have e3 := Below.heap_setCell (((w9.setCell ⟨w.heap.size, 0, none⟩ (.pointer (some ⟨t, 0, none⟩))).setCell ⟨w.heap.size + 1, 0, none⟩ (.int .i64 0)).setCell ⟨w.heap.size + 1 + 1, 0, none⟩ (.int .i64 0)) ⟨w.heap.size + 1 + 1 + 1, 0, none⟩ (.bool true) j (by show j ≠ w.heap.size + 1 + 1 + 1; omega)
    exact e3.trans (e2.trans (e1.trans e0))
  have m0 : w10.cell? ⟨w.heap.size, 0, none⟩ = some (.pointer (some ⟨t, 0, none⟩)) := n0.cell 0
  have m1 : w10.cell? ⟨w.heap.size + 1, 0, none⟩ = some (.int .i64 0) := n1.cell 0
  have m2 : w10.cell? ⟨w.heap.size + 1 + 1, 0, none⟩ = some (.int .i64 0) := n2.cell 0
  have m3 : w10.cell? ⟨w.heap.size + 1 + 1 + 1, 0, none⟩ = some (.bool true) := n3.cell 0
  have B10 := Lib.hid b10
  have K10 := Lib.hid (show ChainAt w10 w.heap.size t c1 c2 by
    obtain ⟨u1, v, t1, u2, u3, u4⟩ := k10
    exact ⟨by omega, v, t1, u2, own_lower u3 (by omega), u4.lower (by omega)⟩)
  clear hw10 n0 n1 n2 n3 b10 k10 y0 y1 y2 y3 y4 z0 z1 z2 z3 c0 c1' c2' c3 c4 x0 f0
  go_wp2
  refine leaves_cons (f := 215) (args := #[.pointer (some ⟨w.heap.size, 0, none⟩), .pointer (some ⟨w.heap.size + 1, 0, none⟩), .pointer (some ⟨w.heap.size + 1 + 1, 0, none⟩), .pointer (some ⟨w.heap.size + 1 + 1 + 1, 0, none⟩)]) (by simp) (by simp [go_sem]) ?_
  refine (catch_idle _ _ _ _ _).mono ?_
  rintro e u' w'' ⟨rfl, rfl, rfl⟩
  simp [Leaves, settle, results, Tryz.results168, go_sem, m0, m1, m2, m3]
  exact ⟨B10.out, K10.out⟩
end Go.Proofs.YtbeeejpjnniejaaGreatDoor
namespace Go.Proofs.YtbeeejpjnniejaaGreatDoor
open Go.RowKit
attribute [-go_sem] Builtin.append_
theorem info294 : (Tryz.prog.info? 294).map (fun i => (i.zero, i.size, i.bytes)) = some (some (.agg #[.int .i64 0, .pointer none, .int .i64 0, .int .i64 0, .int .i64 0]), 5, 40) := by kernel_rfl
set_option maxRecDepth 100000 in
set_option maxHeartbeats 3200000 in
theorem mput_any (w : World) (p n : Nat) (v : Value) (xs : List Value) (a0 a2 a3 a4 : Int) (P : Option Addr) (hb : Blk w p 290 #[v, .bool false]) (ho : w.ownsRow p 294 5 v n xs) (hn : n < 2000) :
    Calls Tryz.prog 170 #[.pointer (some ⟨p, 0, none⟩), .agg #[.int .i64 a0, .pointer P, .int .i64 a2, .int .i64 a3, .int .i64 a4]] w fun e w' => ∃ v', e = .returned (.int .i64 (n : Int)) ∧ Blk w' p 290 #[v', .bool false] ∧ w'.ownsRow p 294 5 v' (n + 1) (xs ++ [.int .i64 a0, .pointer P, .int .i64 a2, .int .i64 a3, .int .i64 a4]) ∧ Below p w w' := by
  obtain ⟨j0, hj, hy0, hy1, hy2⟩ := info_parts info294
  have HJ := Lib.hid hj
  have HY0 := Lib.hid hy0
  have HY1 := Lib.hid hy1
  have HY2 := Lib.hid hy2
  clear hj hy0 hy1 hy2
  obtain ⟨A, c, rfl⟩ := own_slice ho
  obtain ⟨w1, hw1⟩ : ∃ w1, w1 = w.alloc (.cells #[.int .i64 a0, .pointer P, .int .i64 a2, .int .i64 a3, .int .i64 a4] 294) := ⟨_, rfl⟩
  have hb1 : Blk w1 p 290 #[.slice A n c, .bool false] := by rw [hw1]; exact hb.alloc _
  have hx1 : Blk w1 w.heap.size 294 #[.int .i64 a0, .pointer P, .int .i64 a2, .int .i64 a3, .int .i64 a4] := by rw [hw1]; exact Blk.new w 294 _
  have ho1 : w1.ownsRow p 294 5 (.slice A n c) n xs := by rw [hw1]; exact ho.alloc _
  have hg1 : Below p w w1 := by rw [hw1]; exact (Below.refl _ w).alloc (Nat.le_of_lt hb.lt) _
  have c0 : w1.cell? ⟨p, 0, none⟩ = some (.slice A n c) := hb1.cell 0
  have x0 : w1.cell? ⟨w.heap.size, 0, none⟩ = some (.int .i64 a0) := hx1.cell 0
  have x1 : w1.cell? ⟨w.heap.size, 1, none⟩ = some (.pointer P) := hx1.cell 1
  have x2 : w1.cell? ⟨w.heap.size, 2, none⟩ = some (.int .i64 a2) := hx1.cell 2
  have x3 : w1.cell? ⟨w.heap.size, 3, none⟩ = some (.int .i64 a3) := hx1.cell 3
  have x4 : w1.cell? ⟨w.heap.size, 4, none⟩ = some (.int .i64 a4) := hx1.cell 4
  have c0a : ∀ o, (w1.alloc o).cell? ⟨p, 0, none⟩ = some (.slice A n c) := fun o => (hb1.alloc o).cell 0
  have hp1 : p < w1.heap.size := hb1.lt
  have hs1 : w.heap.size < w1.heap.size := hx1.lt
  have i1 : ¬ (2000 : Int) ≤ (n : Int) := by omega
  have s1 : IntKind.i64.wrap (((n + 1 : Nat) : Int) - 1) = (n : Int) := (IntWalk.i64_in _ (by omega)).trans (by omega)
  have HW1 := Lib.hid hw1
  have HB1 := Lib.hid hb1
  have HO1 := Lib.hid ho1
  have HG1 := Lib.hid hg1
  clear hw1 hb1 hx1 ho1 hg1 hb ho
  go_enter Tryz.func170, Tryz.ntmps170
  go_upto_region 1 with fail
  rw [← HW1.out]
  go_upto_region 4 with fail
  go_region_law (first
      | (refine step_append_any _ (by rfl) (.tmp 18) (.tmp 20) 288 (by rfl) p 294 j0 (.agg #[.int .i64 0, .pointer none, .int .i64 0, .int .i64 0, .int .i64 0]) 5 40 Tryz.underlying288 HJ.out HY0.out HY1.out HY2.out rfl (by omega) (.slice A n c) n xs (by rfl) (World.ownsRow.alloc (w := w1.drew) HO1.out _) (w1.heap.size + 1) (some ⟨w1.heap.size, 0, none⟩) 1 1 [.int .i64 a0, .pointer P, .int .i64 a2, .int .i64 a3, .int .i64 a4] (by rfl) ⟨rfl, fun _ => ⟨_, rfl, Nat.lt_succ_self _, cells_newL w1.drew 294 _ _ rfl⟩⟩ (by simp [Value.oneCell']) (by simp [maxLen]; omega) (by omega) (by show p ≤ (w1.alloc _).heap.size; rw [World.size_alloc]; omega) ?_; intro v5 w5 hown5 hgrow5 hor5; obtain ⟨A5, c5, hv5⟩ := own_slice hown5; subst hv5; have bg1 : Blk (w1.drew.alloc (.cells #[.int .i64 a0, .pointer P, .int .i64 a2, .int .i64 a3, .int .i64 a4] 294)) p 290 #[.slice A n c, .bool false] := Blk.alloc (w := w1.drew) HB1.out _; have ho1 : World.ownsRow (w1.drew.alloc (.cells #[.int .i64 a0, .pointer P, .int .i64 a2, .int .i64 a3, .int .i64 a4] 294)) p 294 5 (.slice A n c) n xs := World.ownsRow.alloc (w := w1.drew) HO1.out _; have bg2 := bg1.grown hgrow5 (own_blk_ne ho1 bg1 (by decide)).symm; have e5 : w5.cell? ⟨p, 0, none⟩ = some (.slice A n c) := bg2.cell 0; have f5 := bg2.frozen 0; have HBG5 := Lib.hid bg2; have HW5 := Lib.hid hown5; have HG5 := Lib.hid hgrow5; clear hown5 hgrow5 hor5 bg1 bg2 ho1))
  all_goals
    clear c0 x0 x1 x2 x3 x4 c0a e5 f5
    have p6 : Blk (w5.setCell ⟨p, 0, none⟩ (.slice A5 (n + 1) c5)) p 290 #[.slice A5 (n + 1) c5, .bool false] := HBG5.out.set_ 0 _
    obtain ⟨w6, hw6⟩ : ∃ x, x = w5.setCell ⟨p, 0, none⟩ (.slice A5 (n + 1) c5) := ⟨_, rfl⟩
    rw [← hw6] at p6 ⊢
    have n6 : w6.cell? ⟨p, 0, none⟩ = some (.slice A5 (n + 1) c5) := p6.cell 0
    have HW6 := Lib.hid hw6
    have HP6 := Lib.hid p6
    clear hw6 p6
    go_wp2
    go_ret
    refine ⟨rfl, .slice A5 (n + 1) c5, HP6.out, ?_, ?_⟩
    · rw [HW6.out]
      exact ownsRow_setCell_other HW5.out (own_blk_ne HW5.out HBG5.out (by decide)) (a := ⟨p, 0, none⟩) (.slice A5 (n + 1) c5)
    · rw [HW6.out]
      refine Below.setCell (Below.grown (HG1.out.drew.alloc (by show p ≤ w1.heap.size; omega) _) HG5.out (by show p ≤ (w1.alloc _).heap.size; rw [World.size_alloc]; omega) fun j hj => (HO1.out.lt j hj).1) (p := ⟨p, 0, none⟩) (Nat.le_refl _) _
end Go.Proofs.YtbeeejpjnniejaaGreatDoor
namespace Go.Proofs.YtbeeejpjnniejaaGreatDoor
open Go.RowKit Go.Shelf
/-- a maker that is not full, with n steps -/
def MkAt (w : World) (p n : Nat) (xs : List Value) : Prop := ∃ v, Blk w p 290 #[v, .bool false] ∧ w.ownsRow p 294 5 v n xs
def stepV (k : Int) (P : Option Addr) : List Value := [.int .i64 k, .pointer P, .int .i64 0, .int .i64 0, .int .i64 0]
theorem mput_to (w : World) (p n : Nat) (xs : List Value) (k : Int) (P : Option Addr) (h : MkAt w p n xs) (hn : n < 2000) :
    Calls Tryz.prog 170 #[.pointer (some ⟨p, 0, none⟩), .agg #[.int .i64 k, .pointer P, .int .i64 0, .int .i64 0, .int .i64 0]] w fun e w' => e = .returned (.int .i64 (n : Int)) ∧ MkAt w' p (n + 1) (xs ++ stepV k P) ∧ Below p w w' := by
  obtain ⟨v, h1, h2⟩ := h
  refine (mput_any w p n v xs k 0 0 0 P h1 h2 hn).mono ?_
  rintro e w' ⟨v', rfl, a, b, c⟩
  exact ⟨rfl, ⟨v', a, b⟩, c⟩
set_option maxRecDepth 100000 in
set_option maxHeartbeats 3200000 in
theorem mset_any (w : World) (p n t c1 c2 B : Nat) (xs : List Value) (h : MkAt w p n xs) (hn : n < 2000) (hs : SetAt w B t c1 c2) :
    Calls Tryz.prog 169 #[.pointer (some ⟨p, 0, none⟩), .pointer (some ⟨t, 0, none⟩)] w fun e w' => e = .returned (.tuple #[]) ∧ MkAt w' p (n + 1) (xs ++ stepV 0 (some ⟨t, 0, none⟩)) ∧ Below p w w' := by
  have HC := Lib.hid (mput_to w p n xs 0 (some ⟨t, 0, none⟩) h hn)
  obtain ⟨v, hb, -⟩ := h
  obtain ⟨-, v2, ht, -⟩ := hs
  have c1' : w.cell? ⟨p, 1, none⟩ = some (.bool false) := hb.cell 1
  have t0 : w.cell? ⟨t, 0, none⟩ = some (.int .i64 1) := ht.cell 0
  clear hb ht
  go_enter Tryz.func169, Tryz.ntmps169
  go_wp2_with fail
  refine HC.out.mono ?_
  rintro e w1 ⟨rfl, h1, h2⟩
  have H1 := Lib.hid h1
  have H2 := Lib.hid h2
  clear h1 h2 HC c1' t0
  go_wp2
  refine bodyPost_end (results_none rfl _ _ _) rfl ?_
  exact ⟨rfl, H1.out, H2.out⟩
set_option maxRecDepth 100000 in
set_option maxHeartbeats 3200000 in
theorem mchain_any (w : World) (p n t t1 c1 c2 B : Nat) (xs : List Value) (v : Value) (h : MkAt w p n xs) (hn : n < 2000) (hb : Blk w t 337 #[.int .i64 5, .slice none 0 0, .bool false, .int .i64 0, .int .i64 0, .int .i64 0, .bool false, .bool false, v]) (ho : w.ownsRow B 284 1 v 1 [.pointer (some ⟨t1, 0, none⟩)]) (hst : SetAt w B t1 c1 c2) :
    Calls Tryz.prog 169 #[.pointer (some ⟨p, 0, none⟩), .pointer (some ⟨t, 0, none⟩)] w fun e w' => e = .returned (.tuple #[]) ∧ MkAt w' p (n + 1) (xs ++ stepV 0 (some ⟨t1, 0, none⟩)) ∧ Below p w w' := by
  have HC := Lib.hid (fun (W : World) (hW : W = w) => mset_any W p n t1 c1 c2 B xs (hW ▸ h) hn (hW ▸ hst))
  obtain ⟨A, c, rfl⟩ := own_slice ho
  obtain ⟨d, u, rfl, -, hu, x0⟩ := (Reads.of_own ho).at_ (k := 0) (by omega)
  obtain ⟨v2, hb2, -⟩ := h
  have c1' : w.cell? ⟨p, 1, none⟩ = some (.bool false) := hb2.cell 1
  have t0 : w.cell? ⟨t, 0, none⟩ = some (.int .i64 5) := hb.cell 0
  have t8 : w.cell? ⟨t, 8, none⟩ = some (.slice (some d) 1 c) := hb.cell 8
  injection hu with hu
  subst hu
  have ed : d.add 0 = d := by unfold Addr.add; simp
  rw [ed] at x0
  clear ed
  clear hb hb2 ho hst
  go_enter Tryz.func169, Tryz.ntmps169
  go_wp2_with fail
  go_loopw [76] (fun i wr => (i = .int .i64 0 ∧ wr = w) ∨ (i = .int .i64 1 ∧ MkAt wr p (n + 1) (xs ++ stepV 0 (some ⟨t1, 0, none⟩)) ∧ Below p w wr)) (fun i _ => 1 - (intOf i).toNat)
  case atStart => exact .inl ⟨rfl, rfl⟩
  case round =>
    rcases hrel with ⟨rfl, rfl⟩ | ⟨rfl, h1, h2⟩
    · go_wp2_with fail
      refine (HC.out wr rfl).mono ?_
      rintro e w1 ⟨rfl, h1, h2⟩
      have H1 := Lib.hid h1
      have H2 := Lib.hid h2
      clear h1 h2 HC c1' t0 t8 x0
      go_wp2
      exact ⟨.inr ⟨rfl, H1.out, H2.out⟩, by decide⟩
    · have H1 := Lib.hid h1
      have H2 := Lib.hid h2
      clear h1 h2
      go_wp2
      refine bodyPost_end (results_none rfl _ _ _) rfl ?_
      exact ⟨rfl, H1.out, H2.out⟩
end Go.Proofs.YtbeeejpjnniejaaGreatDoor
namespace Go.Proofs.YtbeeejpjnniejaaGreatDoor
open Go.RowKit Go.Shelf
/-- a program of a set of one range and a yes -/
def ProgAt (w : World) (B pg c1 c2 : Nat) : Prop := B ≤ pg ∧ ∃ v t1, Blk w pg 296 #[v, .int .i64 0] ∧ w.ownsRow B 294 5 v 2 (stepV 0 (some ⟨t1, 0, none⟩) ++ stepV 6 none) ∧ SetAt w B t1 c1 c2
theorem ProgAt.keep {w w' : World} {B t c1 c2 : Nat} (h : ProgAt w B t c1 c2) (hk : ∀ j, B ≤ j → j < w.heap.size → w'.heap[j]? = w.heap[j]?) : ProgAt w' B t c1 c2 := by
  obtain ⟨h1, v, t1, h2, h3, h4⟩ := h
  exact ⟨h1, v, t1, (hk t h1 h2.lt).trans h2, own_blk h3 fun j hj => hk j (h3.lt j hj).1 (h3.lt j hj).2, h4.keep hk⟩
set_option maxRecDepth 100000 in
set_option maxHeartbeats 3200000 in
theorem compile_any (w : World) (s : ByteArray) (c1 n1 c2 n2 : Nat) (hT : Tabs w) (hr : Rxp s c1 n1 c2 n2) (h256 : s.size ≤ 256) :
    Calls Tryz.prog 123 #[.string s] w fun e w' => ∃ pg, e = .returned (.tuple #[.pointer (some ⟨pg, 0, none⟩), .int .i64 0, .int .i64 0]) ∧ Below w.heap.size w w' ∧ ProgAt w' w.heap.size pg c1 c2 := by
  have HC := Lib.hid (read_any w s c1 n1 c2 n2 hT hr)
  have i1 : ¬ (256 : Int) < (s.size : Int) := by omega
  clear hT hr
  go_enter Tryz.func123, Tryz.ntmps123
  go_wp2_with fail
  refine HC.out.mono ?_
  rintro e w1 ⟨t, rfl, h1, hk1⟩
  obtain ⟨-, v, t1, kb, ko, ks⟩ := hk1
  have hm : MkAt (w1.alloc (.cells #[.slice none 0 0, .bool false] 290)) w1.heap.size 0 [] := ⟨.slice none 0 0, Blk.new w1 290 _, World.ownsRow_nil _ _ _ _⟩
  have hb2 : Below w1.heap.size w1 (w1.alloc (.cells #[.slice none 0 0, .bool false] 290)) := (Below.refl _ w1).alloc (Nat.le_refl _) _
  have HM := Lib.hid (mchain_any _ w1.heap.size 0 t t1 c1 c2 w.heap.size [] v hm (by omega) (kb.alloc _) (ko.alloc _) (ks.keep fun j _ hlt => hb2.block j hlt))
  have hs1 := h1.size
  have H1 := Lib.hid h1
  have KS := Lib.hid ks
  obtain ⟨w2, hw2⟩ : ∃ w2, w2 = w1.alloc (.cells #[.slice none 0 0, .bool false] 290) := ⟨_, rfl⟩
  rw [← hw2] at HM hb2
  have HB2 := Lib.hid hb2
  have HW2 := Lib.hid hw2
  clear hm hb2 kb ko ks h1 HC hw2
  go_upto_region 7 with fail
  rw [← HW2.out]
  go_wp2_with fail
  refine HM.out.mono ?_
  rintro e w3 ⟨rfl, hm3, hb3⟩
  have HP := Lib.hid (mput_to w3 w1.heap.size 1 _ 6 none hm3 (by omega))
  have HB3 := Lib.hid (HB2.out.trans hb3)
  clear hm3 hb3 HM
  go_wp2_with fail
  refine HP.out.mono ?_
  rintro e w4 ⟨rfl, ⟨v4, q4, o4⟩, hb4⟩
  have p0 : w4.cell? ⟨w1.heap.size, 0, none⟩ = some v4 := q4.cell 0
  have p1 : w4.cell? ⟨w1.heap.size, 1, none⟩ = some (.bool false) := q4.cell 1
  obtain ⟨A4, c4, rfl⟩ := own_slice o4
  have HB4 := Lib.hid (HB3.out.trans hb4)
  have HO4 := Lib.hid o4
  clear q4 o4 hb4 HP
  go_wp2
  (try simp only [Exit.inBlock, Exit.then])
  refine bodyPost_ret (results_tmp3 rfl _ _ _) rfl ?_
  have hb5 : Below w4.heap.size w4 (w4.alloc (.cells #[.slice A4 (1 + 1) c4, .int .i64 0] 296)) := (Below.refl _ w4).alloc (Nat.le_refl _) _
  have hb := HB4.out.trans (hb5.mono HB4.out.size)
  refine ⟨w4.heap.size, rfl, H1.out.trans (hb.mono hs1), Nat.le_trans hs1 HB4.out.size, .slice A4 (1 + 1) c4, t1, Blk.new w4 296 _, own_lower (HO4.out.alloc _) hs1, KS.out.keep fun j _ hlt => hb.block j hlt⟩
end Go.Proofs.YtbeeejpjnniejaaGreatDoor
namespace Go.Proofs.YtbeeejpjnniejaaGreatDoor
open Go.RowKit Go.Shelf
set_option maxRecDepth 100000 in
set_option maxHeartbeats 3200000 in
theorem has_any (w : World) (B t c1 c2 c : Nat) (h : SetAt w B t c1 c2) (h1 : c1 ≤ c) (h2 : c ≤ c2) :
    Calls Tryz.prog 258 #[.pointer (some ⟨t, 0, none⟩), .int .i32 (c : Int)] w fun e w' => e = .returned (.bool true) ∧ Below w.heap.size w w' := by
  obtain ⟨-, v, hb, ho⟩ := h
  obtain ⟨A, cv, rfl⟩ := own_slice ho
  have hrd := Reads.of_own ho
  obtain ⟨d, rfl, -, hc⟩ := hrd.2 (by omega)
  have x0 := hc 0 _ rfl
  have x1 := hc 1 _ rfl
  have ed : d.add 0 = d := by unfold Addr.add; simp
  have ed1 : d.add 1 = ⟨d.block, d.off + 1, none⟩ := by unfold Addr.add; simp
  rw [ed] at x0
  rw [ed1] at x1
  have t1 : w.cell? ⟨t, 1, none⟩ = some (.slice (some d) 1 cv) := hb.cell 1
  have t2 : w.cell? ⟨t, 2, none⟩ = some (.bool false) := hb.cell 2
  have i1 : (c1 : Int) ≤ (c : Int) := by omega
  have i2 : (c : Int) ≤ (c2 : Int) := by omega
  obtain ⟨w1, hw1⟩ : ∃ w1, w1 = w.alloc (.cells #[.int .i32 (c1 : Int), .int .i32 (c2 : Int)] 395) := ⟨_, rfl⟩
  have hb1 : Below w.heap.size w w1 := by rw [hw1]; exact (Below.refl _ w).alloc (Nat.le_refl _) _
  have hx1 : Blk w1 w.heap.size 395 #[.int .i32 (c1 : Int), .int .i32 (c2 : Int)] := by rw [hw1]; exact Blk.new w 395 _
  have y0 : w1.cell? ⟨w.heap.size, 0, none⟩ = some (.int .i32 (c1 : Int)) := hx1.cell 0
  have y1 : w1.cell? ⟨w.heap.size, 1, none⟩ = some (.int .i32 (c2 : Int)) := hx1.cell 1
  have q2 : w1.cell? ⟨t, 2, none⟩ = some (.bool false) := (hb.below hb1 hb.lt).cell 2
  have HB1 := Lib.hid hb1
  have HW1 := Lib.hid hw1
  clear hb ho hrd hc ed ed1 hw1 hb1 hx1
  go_enter Tryz.func258, Tryz.ntmps258
  go_wp2_with fail
  go_loopw [12] (fun i wr => i = .int .i64 0 ∧ wr = w) (fun _ _ => 0)
  case atStart => exact ⟨rfl, rfl⟩
  case round =>
    obtain ⟨rfl, rfl⟩ := hrel
    go_upto_region 4 with fail
    rw [← HW1.out]
    go_wp2
    go_ret
    exact ⟨rfl, HB1.out⟩
theorem infoInt : (Tryz.prog.info? 3).map (fun i => (i.zero, i.size, i.bytes)) = some (some (.int .i64 0), 1, 8) := by kernel_rfl
theorem infoBool : (Tryz.prog.info? 4).map (fun i => (i.zero, i.size, i.bytes)) = some (some (.bool false), 1, 1) := by kernel_rfl
theorem make52 (W : World) : (Instr.makeSlice 52 (.int .i64 2) (.int .i64 2)).run Tryz.prog W = .ok (.slice (some ⟨W.heap.size, 0, none⟩) 2 2) (W.alloc (.cells #[.int .i64 0, .int .i64 0] 3)) := by
  obtain ⟨i0, hi, hz0, hz1, hz2⟩ := info_parts infoInt
  have h := run_make (P := Tryz.prog) W 52 3 i0 (.int .i64 0) Tryz.underlying52 hi hz0 .i64 .i64 2 2 (by omega) (by omega) (by rw [hz2]; omega) (by omega)
  rw [hz1] at h
  have e : madeCells (Value.int .i64 0).cells (Int.toNat 2 * 1) = #[.int .i64 0, .int .i64 0] := by kernel_rfl
  rw [e] at h
  exact h
theorem make303 (W : World) : (Instr.makeSlice 303 (.int .i64 4) (.int .i64 4)).run Tryz.prog W = .ok (.slice (some ⟨W.heap.size, 0, none⟩) 4 4) (W.alloc (.cells #[.bool false, .bool false, .bool false, .bool false] 4)) := by
  obtain ⟨i0, hi, hz0, hz1, hz2⟩ := info_parts infoBool
  have h := run_make (P := Tryz.prog) W 303 4 i0 (.bool false) Tryz.underlying303 hi hz0 .i64 .i64 4 4 (by omega) (by omega) (by rw [hz2]; omega) (by omega)
  rw [hz1] at h
  have e : madeCells (Value.bool false).cells (Int.toNat 4 * 1) = #[.bool false, .bool false, .bool false, .bool false] := by kernel_rfl
  rw [e] at h
  exact h
/-- between the rounds over the notes -/
def NtR (w : World) (i : Value) (wr : World) : Prop := ∃ (k : Nat) (x y : Int), i = .int .i64 (k : Int) ∧ k ≤ 2 ∧ Blk wr w.heap.size 3 #[.int .i64 x, .int .i64 y] ∧ Below w.heap.size w wr
/-- between the rounds over a way -/
def WyR (w : World) (S : Nat) (pc at_ : Value) (wr : World) : Prop :=
  (∃ x y : Int, Blk wr w.heap.size 3 #[.int .i64 x, .int .i64 y]) ∧ Below w.heap.size w wr ∧ ((pc = .int .i64 0 ∧ at_ = .int .i64 0 ∧ Blk wr S 4 #[.bool false, .bool false, .bool false, .bool false]) ∨ (pc = .int .i64 1 ∧ at_ = .int .i64 1 ∧ Blk wr S 4 #[.bool true, .bool false, .bool false, .bool false]))
/-- the program's cells -/
structure PgC (w : World) (pg g t1 cv : Nat) (c1 c2 : Nat) : Prop where
  g0 : w.cell? ⟨pg, 0, none⟩ = some (.slice (some ⟨g, 0, none⟩) 2 cv)
  g1 : w.cell? ⟨pg, 1, none⟩ = some (.int .i64 0)
  k0 : w.cell? ⟨g, 0, none⟩ = some (.int .i64 0)
  k1 : w.cell? ⟨g, 1, none⟩ = some (.pointer (some ⟨t1, 0, none⟩))
  k5 : w.cell? ⟨g, 5, none⟩ = some (.int .i64 6)
  set : ∃ B, SetAt w B t1 c1 c2
  tab : Tabs w
theorem PgC.below {w w' : World} {pg g t1 cv c1 c2 : Nat} (h : PgC w pg g t1 cv c1 c2) (hb : Below w.heap.size w w') : PgC w' pg g t1 cv c1 c2 := by
  have lt : ∀ {a : Addr} {v : Value}, w.cell? a = some v → w'.cell? a = some v := fun h0 => (hb.cell (World.block_lt_of_cell? w _ h0)).trans h0
  obtain ⟨B, hs⟩ := h.set
  exact ⟨lt h.g0, lt h.g1, lt h.k0, lt h.k1, lt h.k5, ⟨B, hs.keep fun j _ hlt => hb.block j hlt⟩, h.tab.below_ hb⟩
theorem prog_cells {w : World} {B pg c1 c2 : Nat} (h : ProgAt w B pg c1 c2) (hT : Tabs w) : ∃ g t1 cv, PgC w pg g t1 cv c1 c2 := by
  obtain ⟨-, v, t1, hb, ho, hset⟩ := h
  rcases ho.2 with ⟨_, h0⟩ | ⟨g, cap, cur, rfl, -⟩
  · omega
  obtain ⟨d, hd, -, hc⟩ := (Reads.of_own ho).2 (by omega)
  injection hd with hd
  subst hd
  refine ⟨g, t1, cap, hb.cell 0, hb.cell 1, ?_, ?_, ?_, ⟨B, hset⟩, hT⟩
  · have := hc 0 _ rfl
    unfold Addr.add at this
    simpa using this
  · have := hc 1 _ rfl
    unfold Addr.add at this
    simpa using this
  · have := hc 5 _ rfl
    unfold Addr.add at this
    simpa using this
set_option maxRecDepth 100000 in
set_option maxHeartbeats 6400000 in
theorem run_one (w : World) (B pg c1 c2 c : Nat) (s : ByteArray) (hT : Tabs w) (h : ProgAt w B pg c1 c2) (h1 : c1 ≤ c) (h2 : c ≤ c2) (hs : s.size = 1) (hd : Lib.decodeGo s = (c, 1)) :
    Calls Tryz.prog 223 #[.pointer (some ⟨pg, 0, none⟩), .string s] w fun e w' => ∃ v, e = .returned (.tuple #[v, .bool true]) ∧ Below w.heap.size w w' := by
  obtain ⟨g, t1, cv, hpc⟩ := prog_cells h hT
  have g1 := hpc.g1
  have m1 := make52
  have m2 := make303
  have HP := Lib.hid hpc
  have hsz : (s.size : Int) = 1 := by omega
  have HD := Lib.hid (fun W (hW : Tabs W) => show Calls Tryz.prog 257 #[.string s] W fun e w' => e = .returned (.tuple #[.int .i32 (c : Int), .int .i64 1]) ∧ Below W.heap.size W w' by
    have h1 := Tryz.utf8_DecodeRuneInString s W hW
    rw [hd] at h1
    exact h1)
  have hN : Blk (w.alloc (.cells #[.int .i64 0, .int .i64 0] 3)) w.heap.size 3 #[.int .i64 0, .int .i64 0] := Blk.new w 3 _
  have hNb : Below w.heap.size w (w.alloc (.cells #[.int .i64 0, .int .i64 0] 3)) := (Below.refl _ w).alloc (Nat.le_refl _) _
  have HN := Lib.hid hN
  have HNB := Lib.hid hNb
  clear hN hNb hpc hd h hT
  go_enter Tryz.func223, Tryz.ntmps223
  go_wp2_with fail
  go_loopw [26] (fun i wr => NtR w i wr) (fun i _ => 2 - (intOf i).toNat)
  case atStart => exact ⟨0, 0, 0, rfl, by omega, HN.out, HNB.out⟩
  case round =>
    obtain ⟨k, x, y, rfl, hk, hb, hbel⟩ := hrel
    have HBL := Lib.hid hbel
    have HB := Lib.hid hb
    have b0 : wr.cell? ⟨w.heap.size, 0, none⟩ = some (.int .i64 x) := hb.cell 0
    have b1 : wr.cell? ⟨w.heap.size, 1, none⟩ = some (.int .i64 y) := hb.cell 1
    have z0 := hb.frozen 0
    have z1 := hb.frozen 1
    clear hb hbel
    rcases Nat.lt_or_ge k 2 with hlt | hge
    · rcases Nat.lt_or_ge k 1 with hlt1 | hge1
      · obtain rfl : k = 0 := by omega
        go_wp2
        exact ⟨⟨1, -1, y, rfl, by omega, HB.out.set_ 0 _, HBL.out.setCell (p := ⟨w.heap.size, 0, none⟩) (Nat.le_refl _) _⟩, by decide⟩
      · obtain rfl : k = 1 := by omega
        go_wp2
        exact ⟨⟨2, x, -1, rfl, by omega, HB.out.set_ 1 _, HBL.out.setCell (p := ⟨w.heap.size, 1, none⟩) (Nat.le_refl _) _⟩, by decide⟩
    · obtain rfl : k = 2 := by omega
      have e2 : ((2 : Nat) : Int) = 2 := rfl
      rw [e2]
      clear e2
      have hp := HP.out.below HBL.out
      have g0 := hp.g0
      clear b0 b1 z0 z1
      have hsN : w.heap.size ≤ wr.heap.size := HBL.out.size
      go_wp2_with fail
      have hb3 : Below wr.heap.size wr ((wr.alloc (.cells #[.bool false, .bool false, .bool false, .bool false] 4)).alloc (.cells #[.bool true, .int .i64 0, .int .i64 0, .int .i64 0, .int .i64 0, .int .i64 0] 375)) := ((Below.refl _ wr).alloc (Nat.le_refl _) _).alloc (by simp) _
      have hS : Blk ((wr.alloc (.cells #[.bool false, .bool false, .bool false, .bool false] 4)).alloc (.cells #[.bool true, .int .i64 0, .int .i64 0, .int .i64 0, .int .i64 0, .int .i64 0] 375)) wr.heap.size 4 #[.bool false, .bool false, .bool false, .bool false] := (Blk.new wr 4 _).alloc _
      have hT3 : Blk ((wr.alloc (.cells #[.bool false, .bool false, .bool false, .bool false] 4)).alloc (.cells #[.bool true, .int .i64 0, .int .i64 0, .int .i64 0, .int .i64 0, .int .i64 0] 375)) (wr.heap.size + 1) 375 #[.bool true, .int .i64 0, .int .i64 0, .int .i64 0, .int .i64 0, .int .i64 0] := by
        have h1 := Blk.new (wr.alloc (.cells #[.bool false, .bool false, .bool false, .bool false] 4)) 375 #[.bool true, .int .i64 0, .int .i64 0, .int .i64 0, .int .i64 0, .int .i64 0]
        rw [World.size_alloc] at h1
        exact h1
      obtain ⟨w3, hw3⟩ : ∃ w3, w3 = (wr.alloc (.cells #[.bool false, .bool false, .bool false, .bool false] 4)).alloc (.cells #[.bool true, .int .i64 0, .int .i64 0, .int .i64 0, .int .i64 0, .int .i64 0] 375) := ⟨_, rfl⟩
      rw [← hw3] at hb3 hS hT3 ⊢
      have HB3 := Lib.hid (HBL.out.trans (hb3.mono hsN))
      have HS3 := Lib.hid hS
      have HN3 := Lib.hid (HB.out.below hb3 HB.out.lt)
      have hs3 : wr.heap.size + 1 < w3.heap.size := hT3.lt
      have q0 : w3.cell? ⟨wr.heap.size + 1, 0, none⟩ = some (.bool true) := hT3.cell 0
      have q1 : w3.cell? ⟨wr.heap.size + 1, 1, none⟩ = some (.int .i64 0) := hT3.cell 1
      have q2 : w3.cell? ⟨wr.heap.size + 1, 2, none⟩ = some (.int .i64 0) := hT3.cell 2
      have q3 : w3.cell? ⟨wr.heap.size + 1, 3, none⟩ = some (.int .i64 0) := hT3.cell 3
      have q4 : w3.cell? ⟨wr.heap.size + 1, 4, none⟩ = some (.int .i64 0) := hT3.cell 4
      have q5 : w3.cell? ⟨wr.heap.size + 1, 5, none⟩ = some (.int .i64 0) := hT3.cell 5
      obtain ⟨S, hSe⟩ : ∃ S, S = wr.heap.size := ⟨_, rfl⟩
      rw [← hSe] at HS3 hs3 q0 q1 q2 q3 q4 q5 hsN ⊢
      have HSE := Lib.hid hSe
      clear hb3 hS hT3 hw3 hp g0 g1 hSe
      go_loopw [10] (fun st wq => st = .slice (some ⟨S + 1, 0, none⟩) 1 1 ∧ wq = w3) (fun _ _ => 0)
      case atStart => exact ⟨rfl, rfl⟩
      case round =>
        obtain ⟨rfl, hwq⟩ := hrel
        subst hwq
        obtain ⟨w4, hw4⟩ : ∃ w4, w4 = wr.alloc (.cells #[.bool true, .int .i64 0, .int .i64 0, .int .i64 0, .int .i64 0, .int .i64 0] 375) := ⟨_, rfl⟩
        have hx4 : Blk w4 wr.heap.size 375 #[.bool true, .int .i64 0, .int .i64 0, .int .i64 0, .int .i64 0, .int .i64 0] := by rw [hw4]; exact Blk.new wr 375 _
        have p0 : w4.cell? ⟨wr.heap.size, 0, none⟩ = some (.bool true) := hx4.cell 0
        have p1 : w4.cell? ⟨wr.heap.size, 1, none⟩ = some (.int .i64 0) := hx4.cell 1
        have p2 : w4.cell? ⟨wr.heap.size, 2, none⟩ = some (.int .i64 0) := hx4.cell 2
        have hb4 : Below wr.heap.size wr w4 := by rw [hw4]; exact (Below.refl _ wr).alloc (Nat.le_refl _) _
        have HW4 := Lib.hid hw4
        have HB4 := Lib.hid (HB3.out.trans (hb4.mono HB3.out.size))
        have HS4 := Lib.hid (HS3.out.below hb4 HS3.out.lt)
        have HN4 := Lib.hid (HN3.out.below hb4 HN3.out.lt)
        clear hw4 hx4 hb4
        go_wp2_with fail
        go_step3
        go_upto_region 12 with fail
        rw [← HW4.out]
        go_upto_region 15 with fail
        go_quiet (fail)
        go_wp2_with fail
        go_step3
        go_wp2_with fail
        have HST := Lib.hid (show WyR w S (.int .i64 0) (.int .i64 0) (w4.drewN nq) from ⟨⟨x, y, HN4.out⟩, ⟨HB4.out.1, HB4.out.2, HB4.out.3, HB4.out.4, HB4.out.5⟩, .inl ⟨rfl, rfl, HS4.out⟩⟩)
        clear q0 q1 q2 q3 q4 q5 p0 p1 p2
        go_loopw [12, 13] (fun pc at_ wq => WyR w S pc at_ wq) (fun pc _ _ => 1 - (intOf pc).toNat)
        case atStart => exact HST.out
        case round =>
          obtain ⟨⟨xx, yy, hn⟩, hbl, hcs⟩ := hrel
          rcases hcs with ⟨rfl, rfl, hsn⟩ | ⟨rfl, rfl, hsn⟩
          · have hp5 := HP.out.below hbl
            have s0 : wr.cell? ⟨S, 0, none⟩ = some (.bool false) := hsn.cell 0
            have z0 := hsn.frozen 0
            have hsn2 := hsn.set_ 0 (.bool true)
            have hbl2 : Below w.heap.size w (wr.setCell ⟨S, 0, none⟩ (.bool true)) := hbl.setCell (p := ⟨S, 0, none⟩) hsN _
            have hn2 : Blk (wr.setCell ⟨S, 0, none⟩ (.bool true)) w.heap.size 3 #[.int .i64 xx, .int .i64 yy] := hn.far (p := ⟨S, 0, none⟩) (Blk.ne_ hn hsn (by decide)) _
            have hp6 := HP.out.below hbl2
            have g0 := hp6.g0
            have k0 := hp6.k0
            obtain ⟨w6, hw6⟩ : ∃ w6, w6 = wr.setCell ⟨S, 0, none⟩ (.bool true) := ⟨_, rfl⟩
            rw [← hw6] at hsn2 hbl2 hn2 hp6 g0 k0
            have HW6 := Lib.hid hw6
            have HS6 := Lib.hid hsn2
            have HB6 := Lib.hid hbl2
            have HN6 := Lib.hid hn2
            have HP6 := Lib.hid hp6
            have HD6 := Lib.hid (HD.out w6 hp6.tab)
            have i1 : ¬ (0 : Int) = (s.size : Int) := by omega
            clear hp5 hsn hsn2 hbl hbl2 hn hn2 hp6 hw6 hs
            go_upto_region 18 with fail
            rw [← HW6.out]
            go_wp2_with fail
            refine HD6.out.mono ?_
            rintro e w7 ⟨rfl, hb7⟩
            have hp7 := HP6.out.below hb7
            have k1 := hp7.k1
            obtain ⟨B7, hset⟩ := hp7.set
            have HH := Lib.hid (has_any w7 B7 t1 c1 c2 c hset h1 h2)
            have HS7 := Lib.hid (HS6.out.below hb7 HS6.out.lt)
            have HN7 := Lib.hid (HN6.out.below hb7 HN6.out.lt)
            have HB7 := Lib.hid (HB6.out.trans (hb7.mono HB6.out.size))
            clear hb7 hp7 hset g0 k0 HD6
            go_wp2_with fail
            refine HH.out.mono ?_
            rintro e w8 ⟨rfl, hb8⟩
            have HS8 := Lib.hid (HS7.out.below hb8 HS7.out.lt)
            have HN8 := Lib.hid (HN7.out.below hb8 HN7.out.lt)
            have HB8 := Lib.hid (HB7.out.trans (hb8.mono HB7.out.size))
            clear hb8 k1 HH
            go_wp2
            exact ⟨⟨⟨xx, yy, HN8.out⟩, HB8.out, .inr ⟨rfl, rfl, HS8.out⟩⟩, by decide⟩
          · have s0 : wr.cell? ⟨S, 3, none⟩ = some (.bool false) := hsn.cell 3
            have z0 := hsn.frozen 3
            have hbl2 : Below w.heap.size w (wr.setCell ⟨S, 3, none⟩ (.bool true)) := hbl.setCell (p := ⟨S, 3, none⟩) hsN _
            have hn2 : Blk (wr.setCell ⟨S, 3, none⟩ (.bool true)) w.heap.size 3 #[.int .i64 xx, .int .i64 yy] := hn.far (p := ⟨S, 3, none⟩) (Blk.ne_ hn hsn (by decide)) _
            have hp6 := HP.out.below hbl2
            have g0 := hp6.g0
            have k5 := hp6.k5
            obtain ⟨w6, hw6⟩ : ∃ w6, w6 = wr.setCell ⟨S, 3, none⟩ (.bool true) := ⟨_, rfl⟩
            rw [← hw6] at hbl2 hn2 g0 k5
            have n0 : w6.cell? ⟨w.heap.size, 0, none⟩ = some (.int .i64 xx) := hn2.cell 0
            have n1 : w6.cell? ⟨w.heap.size, 1, none⟩ = some (.int .i64 yy) := hn2.cell 1
            have f0 := hn2.frozen 0
            have f1 := hn2.frozen 1
            have HW6 := Lib.hid hw6
            have HB6 := Lib.hid hbl2
            have i1 : ¬ (1 : Int) < (s.size : Int) := by omega
            clear hsn hbl hbl2 hn hn2 hp6 hw6 hs
            go_upto_region 18 with fail
            rw [← HW6.out]
            go_wp2
            go_ret2
            exact ⟨_, rfl, (HB6.out.setCell (p := ⟨w.heap.size, 0, none⟩) (Nat.le_refl _) _).setCell (p := ⟨w.heap.size, 1, none⟩) (Nat.le_refl _) _⟩
end Go.Proofs.YtbeeejpjnniejaaGreatDoor
namespace Go.Proofs.YtbeeejpjnniejaaGreatDoor
open Go.RowKit Go.Shelf
attribute [local go_sem] Oper.semAt_some
def getL (nm : ByteArray) : List Lbl → ByteArray
  | [] => ⟨#[]⟩
  | p :: r => if p.1.toList == nm.toList then p.2 else getL nm r
theorem getL_of {nm : ByteArray} : ∀ {ls : List Lbl} {k : Nat} {p : Lbl}, ls[k]? = some p → (∀ (j : Nat) (q : Lbl), j < k → ls[j]? = some q → (q.1.toList == nm.toList) = false) → (p.1.toList == nm.toList) = true → getL nm ls = p.2
  | [], _, _, h, _, _ => by simp at h
  | q :: r, 0, p, h, _, e => by
    simp at h
    subst h
    unfold getL
    rw [if_pos e]
  | q :: r, k + 1, p, h, hn, e => by
    have h0 := hn 0 q (by omega) rfl
    unfold getL
    rw [h0, if_neg (by simp)]
    exact getL_of (k := k) (by simpa using h) (fun j x hj hx => hn (j + 1) x (by omega) (by simpa using hx)) e
theorem getL_none {nm : ByteArray} : ∀ {ls : List Lbl}, (∀ (j : Nat) (q : Lbl), ls[j]? = some q → (q.1.toList == nm.toList) = false) → getL nm ls = ⟨#[]⟩
  | [], _ => rfl
  | q :: r, h => by
    unfold getL
    rw [h 0 q rfl, if_neg (by simp)]
    exact getL_none fun j x hx => h (j + 1) x (by simpa using hx)
structure GetAt (w : World) (B : Nat) (v : Value) (ls : List Lbl) (nm : ByteArray) (k : Nat) (W : World) : Prop where
  b0 : Blk W w.heap.size 9 #[.string nm]
  b1 : Blk W (w.heap.size + 1) 9 #[.string ⟨#[]⟩]
  lab : LabsAt W B v ls ∧ B ≤ W.heap.size
  bel : Below w.heap.size w W
  no : ∀ (j : Nat) (q : Lbl), j < k → ls[j]? = some q → (q.1.toList == nm.toList) = false
def GetX (w : World) (ls : List Lbl) (nm : ByteArray) (c : Code) (W : World) : Prop := c = .ret ∧ Blk W (w.heap.size + 1) 9 #[.string (getL nm ls)] ∧ Below w.heap.size w W
theorem res178 (w : World) (g : Nat) (x : ByteArray) (tmps : Array Value) (h4 : tmps.getD 4 undef = .pointer (some ⟨g, 0, none⟩)) (hc : w.cell? ⟨g, 0, none⟩ = some (.string x)) : (results Tryz.f178 tmps).run Tryz.prog w = .ok (.string x) w := by
  have h5 : tmps[4]?.getD undef = .pointer (some ⟨g, 0, none⟩) := by simpa using h4
  simp [results, Tryz.results178, go_sem, h5, hc]
set_option maxRecDepth 100000 in
set_option maxHeartbeats 3200000 in
theorem get_any (w : World) (B : Nat) (v : Value) (ls : List Lbl) (nm : ByteArray) (h : LabsAt w B v ls) (hB : B ≤ w.heap.size) (hl : ls.length ≤ 100000) :
    Calls Tryz.prog 178 #[v, .string nm] w fun e w' => e = .returned (.string (getL nm ls)) ∧ Below w.heap.size w w' := by
  obtain ⟨A, c, rfl, hr⟩ := h
  obtain ⟨n, hn⟩ : ∃ n, n = ls.length := ⟨_, rfl⟩
  rw [← hn] at hr ⊢
  have HN := Lib.hid hn
  have HR := Lib.hid hr
  have HBB := Lib.hid hB
  have HL := Lib.hid hl
  clear hn hr hB hl
  refine (callsIn_wide (n := 9)).1 ?_
  refine callsIn_of_wp_marks Tryz.func178 rfl trivial ?_ rfl
  simp only [Tryz.ntmps178, List.size_toArray, List.length_cons, List.length_nil, Nat.reduceAdd, Nat.reduceSub, Array.replicate_succ, Array.replicate_zero, List.push_toArray, List.append_toArray, List.nil_append, List.cons_append]
  gi_wp2_with fail
  refine ⟨trivial, (callsIn_wide.2 (all_any A n c _)).mono ?_⟩
  rintro e w2 ⟨rfl, hw⟩
  dsimp only
  have e3 : ((w.alloc (.cells #[.string nm] 9)).alloc (.cells #[.string ⟨#[]⟩] 9)).heap.size = w.heap.size + 2 := by simp
  rw [e3]
  clear e3
  have hs2 : w2.heap.size = w.heap.size + 3 := by rw [← hw]; simp
  have hb2 : Below w.heap.size w w2 := by rw [← hw]; exact (((Below.refl _ w).alloc (Nat.le_refl _) _).alloc (by simp) _).alloc (by simp; omega) _
  have hK2 : w2.cell? ⟨w.heap.size + 2, 0, none⟩ = some (.slice A n c) := by
    rw [← hw]
    have := (Blk.new ((w.alloc (.cells #[.string nm] 9)).alloc (.cells #[.string ⟨#[]⟩] 9)) 37 #[.slice A n c]).cell 0
    simpa using this
  have hI0 : GetAt w B (.slice A n c) ls nm 0 w2 := by
    refine ⟨?_, ?_, ⟨⟨A, c, by rw [HN.out], by rw [← HN.out]; exact HR.out.keep fun p hp => hb2.cell (by have := HBB.out; omega)⟩, by rw [hs2]; have := HBB.out; omega⟩, hb2, fun j q hj => by omega⟩
    · rw [← hw]
      exact ((Blk.new w 9 _).alloc _).alloc _
    · rw [← hw]
      have := (Blk.new (w.alloc (.cells #[.string nm] 9)) 9 #[.string ⟨#[]⟩]).alloc (.cells #[.slice A n c] 37)
      rwa [World.size_alloc] at this
  have HI0 := Lib.hid hI0
  have HK2 := Lib.hid hK2
  have HS2 := Lib.hid hs2
  clear hw hI0 hK2 hs2
  gi_wp2_with fail
  refine wpIn_rangeFunc_l rfl (by omega) (gf := 214) (lb := #[.pointer (some ⟨w.heap.size + 2, 0, none⟩)]) rfl trivial (enters_of Tryz.func214 (by kernel_rfl) rfl)
    (all_seq _ B (w.heap.size + 2) (.slice A n c) ls HL.out) (fun k => rfl) (fun A B h hb => (hb.cell (p := ⟨w.heap.size + 2, 0, none⟩) (World.block_lt_of_cell? A _ h)).trans h) HK2.out
    (fun k W => GetAt w B (.slice A n c) ls nm k W) (GetX w ls nm) (fun k W h => h.lab) ?hI ?hIx HI0.out
    (fun k a' _ => a' = { tmps := #[.slice A n c, .string nm, undef, .pointer (some ⟨w.heap.size, 0, none⟩), .pointer (some ⟨w.heap.size + 1, 0, none⟩), .string (lblAt ls k).1, .string (lblAt ls k).2, .slice A n c, .func (.func 214) #[] #[.pointer (some ⟨w.heap.size + 2, 0, none⟩)], .string (lblAt ls k).1, .string (lblAt ls k).2, undef, undef, undef, undef], defers := [] })
    (fun _ _ _ _ h _ _ _ _ => h) ?assign ?body ?done ?stop
  case hI =>
    intro k A' B' h hb
    have hs2 := HS2.out
    have hbw := HBB.out
    have hbb : Below w.heap.size A' B' := hb.below (by omega) h.bel.size
    exact ⟨hb.blk h.b0, hb.blk h.b1, ⟨h.lab.1.below hbb hbw, Nat.le_trans h.lab.2 hbb.size⟩, h.bel.trans hbb, h.no⟩
  case hIx =>
    rintro c' A' B' ⟨h1, h2, h3⟩ hb
    have hs2 := HS2.out
    exact ⟨h1, hb.blk h2, h3.trans (hb.below (by omega) h3.size)⟩
  case assign =>
    intro l k W K hI hk hK
    obtain ⟨x1, hx1⟩ : ∃ x, x = (lblAt ls k).1 := ⟨_, rfl⟩
    obtain ⟨x2, hx2⟩ : ∃ x, x = (lblAt ls k).2 := ⟨_, rfl⟩
    have HK := hK _ _ (Below.refl _ W) rfl
    rw [← hx1, ← hx2] at HK
    unfold lblArgs
    rw [← hx1, ← hx2]
    clear hK hx1 hx2 hI
    gi_wp2
    exact HK
  case body =>
    rintro l k a' W hl ⟨r, hr⟩ hI rfl hk
    obtain ⟨p, hp⟩ : ∃ p, ls[k]? = some p := ⟨_, List.getElem?_eq_getElem hk⟩
    rw [lblAt_of hp]
    obtain ⟨p1, p2⟩ := p
    have c0 : W.cell? ⟨w.heap.size, 0, none⟩ = some (.string nm) := hI.b0.cell 0
    have c1 : W.cell? ⟨w.heap.size + 1, 0, none⟩ = some (.string ⟨#[]⟩) := hI.b1.cell 0
    have z1 := hI.b1.frozen 0
    have HI := Lib.hid hI
    have HP := Lib.hid hp
    clear hI hp
    dsimp only
    obtain ⟨t, ht⟩ : ∃ t, t = (p1.toList == nm.toList) := ⟨_, rfl⟩
    have HT := Lib.hid ht
    cases t with
    | true =>
      have e1 : (p1.toList == nm.toList) = true := ht.symm
      clear ht
      gi_wp2_with fail
      have hg : getL nm ls = p2 := getL_of HP.out HI.out.no e1
      refine ⟨keeps_set (g := w.heap.size + 1) (t := 9) (cs := #[]) 0 _, rfl, ?_, ?_⟩
      · rw [hg]
        exact HI.out.b1.set_ 0 _
      · exact HI.out.bel.setCell (p := ⟨w.heap.size + 1, 0, none⟩) (by show w.heap.size ≤ w.heap.size + 1; omega) _
    | false =>
      have e1 : (p1.toList == nm.toList) = false := ht.symm
      clear ht
      gi_wp2_with fail
      have hI := HI.out
      refine ⟨KeepsFrom.refl _ _, hI.b0, hI.b1, hI.lab, hI.bel, fun j q hj hq => ?_⟩
      by_cases hjk : j < k
      · exact hI.no j q hjk hq
      · obtain rfl : j = k := by omega
        have h1 := HP.out
        rw [hq] at h1
        injection h1 with h1
        subst h1
        exact e1
  case done =>
    intro W hI hd
    have c1 : W.cell? ⟨w.heap.size + 1, 0, none⟩ = some (.string ⟨#[]⟩) := hI.b1.cell 0
    have z1 := hI.b1.frozen 0
    have HI := Lib.hid hI
    have HD := Lib.hid hd
    clear hI hd
    gi_wp2_with fail
    have hd2 : (W.setCell ⟨w.heap.size + 1, 0, none⟩ (.string ⟨#[]⟩)).heap[w2.heap.size]? = some (.deferred (some [])) := (Below.heap_setCell W ⟨w.heap.size + 1, 0, none⟩ _ _ (by show w2.heap.size ≠ w.heap.size + 1; have := HS2.out; omega)).trans HD.out
    have hb1 := HI.out.b1.set_ 0 (.string ⟨#[]⟩)
    have hbe := HI.out.bel.setCell (p := ⟨w.heap.size + 1, 0, none⟩) (by show w.heap.size ≤ w.heap.size + 1; omega) (.string ⟨#[]⟩)
    have hg : getL nm ls = ⟨#[]⟩ := getL_none fun j q hq => HI.out.no j q (List.getElem?_eq_some_iff.1 hq).1 hq
    have ho := Other.put (B := w2.heap.size) (Nat.le_refl _) hd2 rfl (.deferred none)
    refine ⟨by simp, .inl ⟨_, _, rfl, run_takeDeferred hd2, ?_⟩⟩
    refine ⟨_, res178 _ (w.heap.size + 1) ⟨#[]⟩ _ rfl ((ho.blk hb1).cell 0), ?_, ?_⟩
    · rw [hg]
    · exact hbe.trans (ho.below (by have := HS2.out; omega) hbe.size)
  case stop =>
    rintro c' W ⟨rfl, hb1, hbe⟩ hd
    have HB1 := Lib.hid hb1
    have HBE := Lib.hid hbe
    have HD := Lib.hid hd
    clear hb1 hbe hd
    gi_wp2_with fail
    have ho := Other.put (B := w2.heap.size) (Nat.le_refl _) HD.out rfl (.deferred none)
    refine ⟨by simp, .inl ⟨_, _, rfl, run_takeDeferred HD.out, ?_⟩⟩
    refine ⟨_, res178 _ (w.heap.size + 1) (getL nm ls) _ rfl ((ho.blk HB1.out).cell 0), rfl, ?_⟩
    exact HBE.out.trans (ho.below (by have := HS2.out; omega) HBE.out.size)
end Go.Proofs.YtbeeejpjnniejaaGreatDoor
namespace Go.Proofs
open Go.Shelf
def Tryz.keys125_ren : Go.Shelf.Ren := ⟨fun | 7 => 125 | 10 => 172 | n => n, fun | 23 => 124 | 26 => 9 | 3 => 136 | 28 => 198 | 0 => 0 | 27 => 197 | 33 => 161 | 4 => 4 | n => n, fun | n => n⟩
theorem Tryz.keys125 : Go.Proofs.SlLaysZ.n7 Tryz.prog Tryz.keys125_ren := {
  mixed := by kernel_rfl
  f7 := ⟨Tryz.f125.name, by decide, Tryz.func125.trans (congrArg some (by kernel_rfl))⟩
  f10 := ⟨Tryz.f172.name, by decide, Tryz.func172.trans (congrArg some (by kernel_rfl))⟩
  t0 := Tryz.underlying0
  a0 := Tryz.isAgg0
  z0 := Tryz.sizeOf0
  v0 := Tryz.zeroValue0
  t4 := Tryz.underlying4
  a4 := Tryz.isAgg4
  z4 := Tryz.sizeOf4
  v4 := Tryz.zeroValue4
  t23 := Tryz.underlying124
  a23 := Tryz.isAgg124
  z23 := Tryz.sizeOf124
  v23 := Tryz.zeroValue124
  t26 := Tryz.underlying9
  a26 := Tryz.isAgg9
  z26 := Tryz.sizeOf9
  v26 := Tryz.zeroValue9
  t27 := Tryz.underlying197
  a27 := Tryz.isAgg197
  z27 := Tryz.sizeOf197
  v27 := Tryz.zeroValue197
  t28 := Tryz.underlying198
  a28 := Tryz.isAgg198
  z28 := Tryz.sizeOf198
  v28 := Tryz.zeroValue198
  t33 := Tryz.underlying161
  a33 := Tryz.isAgg161
  z33 := Tryz.sizeOf161
  v33 := Tryz.zeroValue161 }
def Tryz.collect160_ren : Go.Shelf.Ren := ⟨fun | 8 => 160 | 11 => 209 | n => n, fun | 26 => 9 | 28 => 198 | 24 => 88 | 0 => 0 | 33 => 161 | 4 => 4 | n => n, fun | n => n⟩
theorem Tryz.collect160 : Go.Proofs.SlLaysZ.n8 Tryz.prog Tryz.collect160_ren := {
  mixed := by kernel_rfl
  f8 := ⟨Tryz.f160.name, by decide, Tryz.func160.trans (congrArg some (by kernel_rfl))⟩
  f11 := ⟨Tryz.f209.name, by decide, Tryz.func209.trans (congrArg some (by kernel_rfl))⟩
  t0 := Tryz.underlying0
  a0 := Tryz.isAgg0
  z0 := Tryz.sizeOf0
  v0 := Tryz.zeroValue0
  t24 := Tryz.underlying88
  a24 := Tryz.isAgg88
  z24 := Tryz.sizeOf88
  v24 := Tryz.zeroValue88
  t26 := Tryz.underlying9
  a26 := Tryz.isAgg9
  z26 := Tryz.sizeOf9
  v26 := Tryz.zeroValue9
  t28 := Tryz.underlying198
  a28 := Tryz.isAgg198
  z28 := Tryz.sizeOf198
  v28 := Tryz.zeroValue198
  i26 := by kernel_rfl }
end Go.Proofs
