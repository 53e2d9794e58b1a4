/- The reader of expressions: char, one, last. strings.HasPrefix. The reader of expressions: one and last, where no backslash stands; class, where one range stands. Why a point isn't taken (head.refused), the horizon. What rows of labels are written as tells them apart. string(b) of a row of bytes. Printed by gen_str.py. What a plan holds: the points of a batch in memory, what is done with what is taken, the ends that have been reckoned. -/
import Derived.Test.YtbeeejpjnniejaaGreatDoorJ01Keep
import Derived.Test.YtbeeejpjnniejaaGreatDoorJ04LRight
import Derived.Test.YtbeeejpjnniejaaGreatDoorJ05LSet
import Derived.Lib.SlBytesConst
import Derived.Shelf.Abstract
namespace Go.Proofs.YtbeeejpjnniejaaGreatDoor
open Go.RowKit Go.Shelf
/-- the reader's place turns, and new blocks come -/
structure RdTo (w : World) (p : Nat) (s : ByteArray) (k g : Nat) (w' : World) : Prop where
  at_ : RdAt w' p s k g
  chg : Chg (fun b => b = p) w w'
theorem RdTo.trans {a b c : World} {p k g k2 g2 : Nat} {s : ByteArray} (h : RdTo a p s k g b) (h2 : RdTo b p s k2 g2 c) : RdTo a p s k2 g2 c := ⟨h2.at_, h.chg.trans h2.chg fun _ e => .inl e⟩
theorem RdTo.refl {a : World} {p k g : Nat} {s : ByteArray} (h : RdAt a p s k g) : RdTo a p s k g a := ⟨h, Chg.refl _ _⟩
theorem RdTo.drewN {a b : World} {p k g : Nat} {s : ByteArray} (h : RdTo a p s k g b) (q : Nat) : RdTo a p s k g (b.drewN q) := ⟨h.at_, h.chg.drewN q⟩
theorem RdTo.drew {a b : World} {p k g : Nat} {s : ByteArray} (h : RdTo a p s k g b) : RdTo a p s k g b.drew := ⟨h.at_, h.chg.drew⟩
theorem RdTo.below {a b c : World} {p k g : Nat} {s : ByteArray} (h : RdTo a p s k g b) (h2 : Below b.heap.size b c) : RdTo a p s k g c := ⟨h.at_.below h2 h.at_.lt, h.chg.trans (Chg.of_below (F := fun _ => False) h2) fun _ e => e.elim⟩
theorem RdTo.keep {a b : World} {p k g : Nat} {s : ByteArray} (h : RdTo a p s k g b) {j : Nat} (hj : j < a.heap.size) (hne : j ≠ p) : b.heap[j]? = a.heap[j]? := h.chg.block j hj hne
theorem takes_to (w : World) (p : Nat) (s : ByteArray) (k g : Nat) (b : Int) (h : RdAt w p s k g) (hs : s.size ≤ 1000000) :
    Calls Tryz.prog 248 #[.pointer (some ⟨p, 0, none⟩), .int .u8 b] w fun e w' => e = .returned (.bool (isB s k b)) ∧ RdTo w p s (if isB s k b then k + 1 else k) g w' := by
  refine (takes_any w p s k g b h hs).mono ?_
  rintro e w' ⟨rfl, h1, q, rfl⟩
  refine ⟨rfl, h1, ?_⟩
  split
  · exact Chg.setCell (F := fun b => b = p) ((Chg.refl _ w).drewN q) (p := ⟨p, 1, none⟩) (.inl rfl) _
  · exact (Chg.refl _ w).drewN q
set_option maxRecDepth 100000 in
set_option maxHeartbeats 3200000 in
theorem char_any (w : World) (p : Nat) (s : ByteArray) (k g c n : Nat) (h : RdAt w p s k g) (hs : s.size ≤ 1000000) (hk : k < s.size) (hT : Tabs w) (hp : 2 < p) (hd : Lib.decodeGo (s.extract k s.size) = (c, n)) (hn : n ≤ 4) :
    Calls Tryz.prog 293 #[.pointer (some ⟨p, 0, none⟩)] w fun e w' => e = .returned (.int .i32 (c : Int)) ∧ RdTo w p s (k + n) g w' := by
  have HM := Lib.hid (more_any w p s k g h)
  have hdk : decide (k < s.size) = true := by simpa using hk
  rw [hdk] at HM
  have HD := Lib.hid (fun W (hW : Tabs W) => show Calls Tryz.prog 257 #[.string (s.extract k s.size)] W fun e w' => e = .returned (.tuple #[.int .i32 (c : Int), .int .i64 (n : Int)]) ∧ Below W.heap.size W w' by
    have h1 := Tryz.utf8_DecodeRuneInString (s.extract k s.size) W hW
    rw [hd] at h1
    exact h1)
  have HB := Lib.hid h
  have HT := Lib.hid hT
  clear h hT hd hdk
  go_enter Tryz.func293, Tryz.ntmps293
  go_wp2_with fail
  refine HM.out.mono ?_
  rintro e w1 ⟨rfl, q, hq⟩
  have hb1 : RdAt w1 p s k g := by rw [hq]; exact HB.out
  have c0 : w1.cell? ⟨p, 0, none⟩ = some (.string s) := hb1.cell 0
  have c1 : w1.cell? ⟨p, 1, none⟩ = some (.int .i64 (k : Int)) := hb1.cell 1
  have hpw : p < w1.heap.size := hb1.lt
  have H0 := Lib.hid (show RdTo w p s k g w1 by rw [hq]; exact (RdTo.refl HB.out).drewN q)
  have i1 : (0 : Int) ≤ (k : Int) := by omega
  have i2 : (k : Int) ≤ (s.size : Int) := by omega
  have H1 := Lib.hid hb1
  have HT1 := Lib.hid (show Tabs w1.drew from (show Tabs w1 by rw [hq]; exact HT.out).keep fun _ _ => rfl)
  clear hb1 HM hq
  go_upto_region 3 with fail
  go_region_with ((go_at_call 257; refine (HD.out _ HT1.out).mono ?_; rintro e w2 ⟨rfl, hb2⟩; have HB2 := Lib.hid hb2; clear hb2))
  all_goals
    have h2 := HB2.out
    have r2 : RdAt w2 p s k g := Blk.below (w := w1.drew) H1.out h2 H1.out.lt
    have d1 : w2.cell? ⟨p, 1, none⟩ = some (.int .i64 (k : Int)) := r2.cell 1
    have z1 := r2.frozen 1
    have s1 : IntKind.i64.wrap ((k : Int) + (n : Int)) = ((k + n : Nat) : Int) := (IntWalk.i64_in _ (by omega)).trans (by omega)
    have HR2 := Lib.hid r2
    have H2 := Lib.hid (H0.out.drew.below h2)
    clear h2 r2 c0 c1 HD HT1 H1
    go_wp2
    go_ret
    refine ⟨rfl, HR2.out.set_ 1 _, ?_⟩
    exact Chg.setCell (F := fun b => b = p) H2.out.chg (p := ⟨p, 1, none⟩) (.inl rfl) _
end Go.Proofs.YtbeeejpjnniejaaGreatDoor
namespace Go.Proofs.YtbeeejpjnniejaaGreatDoor
open Go.RowKit
def hasPre (s t : ByteArray) : Bool := if t.size ≤ s.size then (s.extract 0 t.size).toList == t.toList else false
theorem pre149_any (w : World) (s t : ByteArray) : Calls Tryz.prog 149 #[.string s, .string t] w fun e w' => e = .returned (.bool (hasPre s t)) ∧ w' = w := by
  by_cases hk : t.size ≤ s.size
  · unfold hasPre
    rw [if_pos hk]
    have i1 : (t.size : Int) ≤ (s.size : Int) := by omega
    have i2 : (0 : Int) ≤ (t.size : Int) := by omega
    go_enter Tryz.func149, Tryz.ntmps149
    go_wp2
    go_ret
    exact ⟨rfl, rfl⟩
  · unfold hasPre
    rw [if_neg hk]
    have i1 : ¬ (t.size : Int) ≤ (s.size : Int) := by omega
    go_enter Tryz.func149, Tryz.ntmps149
    go_wp2
    go_ret
    exact ⟨rfl, rfl⟩
theorem hasprefix_any (w : World) (s t : ByteArray) : Calls Tryz.prog 93 #[.string s, .string t] w fun e w' => e = .returned (.bool (hasPre s t)) ∧ w' = w := by
  have HC := Lib.hid (pre149_any w s t)
  go_enter Tryz.func93, Tryz.ntmps93
  go_wp2_with fail
  refine HC.out.mono ?_
  rintro e w' ⟨rfl, rfl⟩
  go_wp2
  go_ret
  exact ⟨rfl, rfl⟩
end Go.Proofs.YtbeeejpjnniejaaGreatDoor
namespace Go.Proofs.YtbeeejpjnniejaaGreatDoor
open Go.RowKit Go.Shelf
attribute [-go_sem] Builtin.append_
theorem info395 : (Tryz.prog.info? 395).map (fun i => (i.zero, i.size, i.bytes)) = some (some (.agg #[.int .i32 0, .int .i32 0]), 2, 8) := by kernel_rfl
theorem takes_no (w : World) (p : Nat) (s : ByteArray) (k g : Nat) (b : Int) (h : RdAt w p s k g) (hs : s.size ≤ 1000000) (hb : isB s k b = false) :
    Calls Tryz.prog 248 #[.pointer (some ⟨p, 0, none⟩), .int .u8 b] w fun e w' => e = .returned (.bool false) ∧ RdTo w p s k g w' := by
  have h1 := takes_to w p s k g b h hs
  rw [hb] at h1
  exact h1
theorem takes_yes (w : World) (p : Nat) (s : ByteArray) (k g : Nat) (b : Int) (h : RdAt w p s k g) (hs : s.size ≤ 1000000) (hb : isB s k b = true) :
    Calls Tryz.prog 248 #[.pointer (some ⟨p, 0, none⟩), .int .u8 b] w fun e w' => e = .returned (.bool true) ∧ RdTo w p s (k + 1) g w' := by
  have h1 := takes_to w p s k g b h hs
  rw [hb] at h1
  exact h1
set_option maxRecDepth 100000 in
set_option maxHeartbeats 3200000 in
theorem one_any (w : World) (p : Nat) (s : ByteArray) (k g c n : Nat) (h : RdAt w p s k g) (hs : s.size ≤ 1000000) (hk : k < s.size) (hT : Tabs w) (hp : 2 < p) (hb : isB s k 92 = false) (hd : Lib.decodeGo (s.extract k s.size) = (c, n)) (hn : n ≤ 4) :
    Calls Tryz.prog 298 #[.pointer (some ⟨p, 0, none⟩)] w fun e w' => ∃ x, e = .returned (.tuple #[.slice (some ⟨x, 0, none⟩) 1 1, .bool true]) ∧ RdTo w p s (k + n) g w' ∧ w.heap.size ≤ x ∧ Blk w' x 395 #[.int .i32 (c : Int), .int .i32 (c : Int)] := by
  have HM := Lib.hid (takes_to w p s k g 92 h hs)
  rw [hb] at HM
  have HC := Lib.hid (fun W (hW : RdTo w p s k g W) => char_any W p s k g c n hW.at_ hs hk (hT.keep fun b hb => hW.keep (by have := h.lt; omega) (by omega)) hp hd hn)
  clear h hT hb hd
  go_enter Tryz.func298, Tryz.ntmps298
  go_wp2_with fail
  refine HM.out.mono ?_
  rintro e w1 ⟨rfl, h1⟩
  have H1 := Lib.hid h1
  clear h1 HM
  go_wp2_with fail
  refine (HC.out w1 H1.out).mono ?_
  rintro e w2 ⟨rfl, h2⟩
  have H2 := Lib.hid (H1.out.trans h2)
  clear h2 HC
  go_wp2
  go_ret2
  exact ⟨w2.heap.size, rfl, H2.out.below ((Below.refl _ w2).alloc (Nat.le_refl _) _), H2.out.chg.size, Blk.new w2 395 _⟩
set_option maxRecDepth 100000 in
set_option maxHeartbeats 3200000 in
theorem last_any (w : World) (p : Nat) (s : ByteArray) (k g c n : Nat) (fr : Int) (h : RdAt w p s k g) (hs : s.size ≤ 1000000) (hk : k < s.size) (hT : Tabs w) (hp : 2 < p) (hb : isB s k 92 = false) (hd : Lib.decodeGo (s.extract k s.size) = (c, n)) (hn : n ≤ 4) (hf : fr ≤ (c : Int)) :
    Calls Tryz.prog 299 #[.pointer (some ⟨p, 0, none⟩), .int .i32 fr] w fun e w' => e = .returned (.int .i32 (c : Int)) ∧ RdTo w p s (k + n) g w' := by
  have HI := Lib.hid (fun q => is_any (w.drewN q) p s k g 92 h)
  rw [hb] at HI
  have HO := Lib.hid (fun q => one_any (w.drewN q) p s k g c n h hs hk hT hp hb hd hn)
  have HB := Lib.hid h
  have i1 : ¬ (c : Int) < fr := by omega
  clear h hT hb hd
  go_enter Tryz.func299, Tryz.ntmps299
  go_wp2_with fail
  go_quiet ((go_at_call 272; exact Calls.quiet_of (HI.out _)))
  go_wp2_with fail
  refine (HO.out nq).mono ?_
  rintro e w1 ⟨x, rfl, h1, h2, h3⟩
  have x0 : w1.cell? ⟨x, 0, none⟩ = some (.int .i32 (c : Int)) := h3.cell 0
  have x1 : w1.cell? ⟨x, 1, none⟩ = some (.int .i32 (c : Int)) := h3.cell 1
  have H1 := Lib.hid (((RdTo.refl HB.out).drewN nq).trans h1)
  clear h1 h2 h3 HI HO HB
  go_wp2
  go_ret
  exact ⟨rfl, H1.out⟩
end Go.Proofs.YtbeeejpjnniejaaGreatDoor
namespace Go.Proofs.YtbeeejpjnniejaaGreatDoor
open Go.RowKit Go.Maps
attribute [local go_sem] tobits_call
theorem horizon_any (p : Nat) (ret newest : Int) (w : World) (c0 : w.cell? ⟨p, 0, none⟩ = some (.int .i64 ret)) (hr : 0 ≤ ret ∧ ret ≤ 9223372036854775807) (hn : -9007199254740993 ≤ newest ∧ newest ≤ 9007199254740992) :
    Calls Tryz.prog 70 #[.pointer (some ⟨p, 0, none⟩), .int .i64 newest] w fun e w' => e = .returned (.int .i64 (horizonP ret newest)) ∧ w' = w := by
  obtain ⟨r1, r2⟩ := hr
  obtain ⟨n1, n2⟩ := hn
  by_cases h : newest + 9007199254740993 < ret
  · have HV := Lib.hid (show horizonP ret newest = -9007199254740993 by unfold horizonP big; rw [if_pos (by omega)]; rfl)
    have s1 : IntKind.i64.wrap (newest + 9007199254740992) = newest + 9007199254740992 := IntWalk.i64_in _ (by omega)
    have s2 : IntKind.i64.wrap (newest + 9007199254740992 + 1) = newest + 9007199254740992 + 1 := IntWalk.i64_in _ (by omega)
    have i1 : newest + 9007199254740992 + 1 < ret := by omega
    have i2 : newest + 9007199254740993 < ret := by omega
    go_enter Tryz.func70, Tryz.ntmps70
    go_wp2
    go_ret
    exact ⟨by rw [HV.out]; rfl, rfl⟩
  · have HV := Lib.hid (show horizonP ret newest = newest - ret by unfold horizonP big; rw [if_neg (by omega)])
    have s1 : IntKind.i64.wrap (newest + 9007199254740992) = newest + 9007199254740992 := IntWalk.i64_in _ (by omega)
    have s2 : IntKind.i64.wrap (newest + 9007199254740992 + 1) = newest + 9007199254740992 + 1 := IntWalk.i64_in _ (by omega)
    have s3 : IntKind.i64.wrap (newest - ret) = newest - ret := IntWalk.i64_in _ (by omega)
    have i1 : ¬ newest + 9007199254740992 + 1 < ret := by omega
    have i2 : ¬ newest + 9007199254740993 < ret := by omega
    go_enter Tryz.func70, Tryz.ntmps70
    go_wp2
    go_ret
    exact ⟨by rw [HV.out]; rfl, rfl⟩
/-- the two boxes that 'refused' lays -/
theorem ref_boxes (w : World) (v : Value) (t : Int) (b : Nat) (t' : Int) (b' : Nat) (th : Bool) (w2 : World) (hw2 : w2 = (w.alloc (.cells #[v, .int .i64 t, .float .f64 b] 57)).alloc (.cells #[.int .i64 t', .float .f64 b', .bool th] 213)) :
    Below w.heap.size w w2 ∧ Blk w2 w.heap.size 57 #[v, .int .i64 t, .float .f64 b] ∧ Blk w2 (w.heap.size + 1) 213 #[.int .i64 t', .float .f64 b', .bool th] := by
  subst hw2
  refine ⟨((Below.refl _ w).alloc (Nat.le_refl _) _).alloc (by simp) _, (Blk.new w 57 _).alloc _, ?_⟩
  have := Blk.new (w.alloc (.cells #[v, .int .i64 t, .float .f64 b] 57)) 213 #[.int .i64 t', .float .f64 b', .bool th]
  rwa [World.size_alloc] at this
def thereB : Option Le → Bool
  | none => false
  | some _ => true
set_option maxRecDepth 100000 in
set_option maxHeartbeats 3200000 in
theorem refused_any (p : Nat) (ret newest : Int) (A : Option Addr) (n c : Nat) (t : Int) (b : Nat) (e : Option Le) (w : World) (c0 : w.cell? ⟨p, 0, none⟩ = some (.int .i64 ret)) (hr : 0 ≤ ret ∧ ret ≤ 9223372036854775807) (hn : -9007199254740993 ≤ newest ∧ newest ≤ 9007199254740992) :
    Calls Tryz.prog 122 #[.pointer (some ⟨p, 0, none⟩), .agg #[.slice A n c, .int .i64 t, .float .f64 b], lookV e, .int .i64 newest] w fun e1 w' => e1 = .returned (.int .i64 (codeP ret newest e t b)) ∧ Below w.heap.size w w' := by
  obtain ⟨te, be, th, he, hth⟩ : ∃ te be th, lookV e = .agg #[.int .i64 te, .float .f64 be, .bool th] ∧ ((th = false ∧ e = none) ∨ (th = true ∧ e = some (te, be))) := by
    cases e with
    | none => exact ⟨0, 0, false, rfl, .inl ⟨rfl, rfl⟩⟩
    | some x => exact ⟨x.1, x.2, true, rfl, .inr ⟨rfl, rfl⟩⟩
  rw [he]
  obtain ⟨w2, hw2⟩ : ∃ w2, w2 = (w.alloc (.cells #[.slice A n c, .int .i64 t, .float .f64 b] 57)).alloc (.cells #[.int .i64 te, .float .f64 be, .bool th] 213) := ⟨_, rfl⟩
  obtain ⟨hb2, hbp, hbe⟩ := ref_boxes w _ t b te be th w2 hw2
  have hpl := World.block_lt_of_cell? w _ c0
  have x0 : w2.cell? ⟨p, 0, none⟩ = some (.int .i64 ret) := (hb2.cell hpl).trans c0
  obtain ⟨hz, hhz⟩ : ∃ hz, hz = horizonP ret newest := ⟨_, rfl⟩
  have HC := Lib.hid (fun q => show Calls Tryz.prog 70 #[.pointer (some ⟨p, 0, none⟩), .int .i64 newest] (w2.drewN q) fun e w' => e = .returned (.int .i64 hz) ∧ w' = w2.drewN q by rw [hhz]; exact horizon_any p ret newest (w2.drewN q) x0 hr hn)
  obtain ⟨code, hcode⟩ : ∃ code, code = codeP ret newest e t b := ⟨_, rfl⟩
  rw [← hcode]
  unfold codeP at hcode
  rw [← hhz] at hcode
  have HB := Lib.hid hb2
  have p1 : w2.cell? ⟨w.heap.size, 1, none⟩ = some (.int .i64 t) := hbp.cell 1
  have p2 : w2.cell? ⟨w.heap.size, 2, none⟩ = some (.float .f64 b) := hbp.cell 2
  have e0 : w2.cell? ⟨w.heap.size + 1, 0, none⟩ = some (.int .i64 te) := hbe.cell 0
  have e1 : w2.cell? ⟨w.heap.size + 1, 1, none⟩ = some (.float .f64 be) := hbe.cell 1
  have e2 : w2.cell? ⟨w.heap.size + 1, 2, none⟩ = some (.bool th) := hbe.cell 2
  have HW := Lib.hid hw2
  have HTH := Lib.hid hth
  have hbig : big = 9007199254740992 := rfl
  rw [hbig] at hcode
  have HCD := Lib.hid hcode
  clear hb2 hbp hbe hpl x0 hhz hw2 hth hcode c0 hr hn he hbig
  go_enter Tryz.func122, Tryz.ntmps122
  go_upto_region 1 with (fail)
  rw [← HW.out]
  by_cases h1 : t < -9007199254740992
  · have HV := Lib.hid (show code = 9 by rw [HCD.out, if_pos (.inl h1)])
    go_wp2
    refine bodyPost_ret (results_tmp rfl _ _ _) rfl ?_
    exact ⟨by rw [HV.out]; rfl, HB.out⟩
  by_cases h2 : 9007199254740992 < t
  · have HV := Lib.hid (show code = 9 by rw [HCD.out, if_pos (.inr h2)])
    go_wp2
    refine bodyPost_ret (results_tmp rfl _ _ _) rfl ?_
    exact ⟨by rw [HV.out]; rfl, HB.out⟩
  by_cases h3 : t < hz
  · have HV := Lib.hid (show code = 12 by rw [HCD.out, if_neg (by omega), if_pos (.inl h3)])
    have i3 : decide (t < hz) = true := decide_eq_true h3
    go_wp2_with fail
    go_quiet ((go_at_call 70; exact Calls.quiet_of_same (HC.out _)))
    go_wp2
    refine bodyPost_ret (results_tmp rfl _ _ _) rfl ?_
    exact ⟨by rw [HV.out]; rfl, below_drewN HB.out _⟩
  have i3 : decide (t < hz) = false := decide_eq_false h3
  rcases HTH.out with ⟨rfl, rfl⟩ | ⟨rfl, rfl⟩
  · have HV := Lib.hid (show code = 0 by rw [HCD.out, if_neg (by omega), if_neg (by simp; omega)])
    go_wp2_with fail
    go_quiet ((go_at_call 70; exact Calls.quiet_of_same (HC.out _)))
    go_wp2
    refine bodyPost_ret (results_tmp rfl _ _ _) rfl ?_
    exact ⟨by rw [HV.out]; rfl, below_drewN HB.out _⟩
  · by_cases h4 : t < te
    · have HV := Lib.hid (show code = 12 by rw [HCD.out, if_neg (by omega), if_pos (.inr ⟨_, rfl, h4⟩)])
      have i4 : decide (t < te) = true := decide_eq_true h4
      go_wp2_with fail
      go_quiet ((go_at_call 70; exact Calls.quiet_of_same (HC.out _)))
      go_wp2
      refine bodyPost_ret (results_tmp rfl _ _ _) rfl ?_
      exact ⟨by rw [HV.out]; rfl, below_drewN HB.out _⟩
    · have i4 : decide (t < te) = false := decide_eq_false h4
      have HCE := Lib.hid (show code = if te < t then 0 else if b = be then 16 else 13 by
        rw [HCD.out, if_neg (by omega), if_neg (by
          rintro (h | ⟨x, hx, h⟩)
          · exact h3 h
          · injection hx with hx; subst hx; exact h4 h)])
      by_cases h5 : te < t
      · have HV := Lib.hid (show code = 0 by rw [HCE.out, if_pos h5])
        go_wp2_with fail
        go_quiet ((go_at_call 70; exact Calls.quiet_of_same (HC.out _)))
        go_wp2
        refine bodyPost_ret (results_tmp rfl _ _ _) rfl ?_
        exact ⟨by rw [HV.out]; rfl, below_drewN HB.out _⟩
      · by_cases h6 : b = be
        case' pos =>
          have HV := Lib.hid (show code = 16 by rw [HCE.out, if_neg h5, if_pos h6])
          have i6 : ((b : Int) == (be : Int)) = true := beq_iff_eq.2 (by omega)
        case' neg =>
          have HV := Lib.hid (show code = 13 by rw [HCE.out, if_neg h5, if_neg h6])
          have i6 : ((b : Int) == (be : Int)) = false := beq_eq_false_iff_ne.2 (by omega)
        all_goals
          clear h6
          go_wp2_with fail
          go_quiet ((go_at_call 70; exact Calls.quiet_of_same (HC.out _)))
          go_wp2_with fail
          go_quiet (fail)
          go_wp2
          refine bodyPost_ret (results_tmp rfl _ _ _) rfl ?_
          exact ⟨by rw [HV.out]; rfl, below_drewN (below_drewN HB.out _) _⟩
end Go.Proofs.YtbeeejpjnniejaaGreatDoor
namespace Go.Proofs.YtbeeejpjnniejaaGreatDoor
open Go.RowKit
theorem ofNat_inj {a b : Nat} (ha : a < 256) (hb : b < 256) (h : UInt8.ofNat a = UInt8.ofNat b) : a = b := by
  have := congrArg UInt8.toNat h
  simp at this
  omega
theorem ofNat_mod {a b : Nat} (h : UInt8.ofNat a = UInt8.ofNat b) : a % 256 = b % 256 := by
  have := congrArg UInt8.toNat h
  simpa using this
theorem txtB_inj {s t : ByteArray} {x y : List UInt8} (hs : s.size ≤ 1024) (ht : t.size ≤ 1024) (h : txtB s ++ x = txtB t ++ y) : s = t ∧ x = y := by
  unfold txtB at h
  simp only [List.cons_append, List.cons.injEq] at h
  obtain ⟨h1, h2, h3⟩ := h
  have e1 := ofNat_inj (by omega) (by omega) h1
  have e2 := ofNat_mod h2
  have e3 : s.size = t.size := by omega
  obtain ⟨h4, h5⟩ := List.append_inj h3 (by simpa using e3)
  exact ⟨ByteArray.ext (Array.toList_inj.1 h4), h5⟩
theorem labs_inj : ∀ (a b : List Lbl), a.length = b.length → (∀ p ∈ a, p.1.size ≤ 1024 ∧ p.2.size ≤ 1024) → (∀ p ∈ b, p.1.size ≤ 1024 ∧ p.2.size ≤ 1024) → a.flatMap labB = b.flatMap labB → a = b
  | [], [], _, _, _, _ => rfl
  | [], _ :: _, h, _, _, _ => by simp at h
  | _ :: _, [], h, _, _, _ => by simp at h
  | p :: a, q :: b, h, ha, hb, he => by
    rw [List.flatMap_cons, List.flatMap_cons] at he
    have h1 : labB p = txtB p.1 ++ txtB p.2 := rfl
    have h2 : labB q = txtB q.1 ++ txtB q.2 := rfl
    rw [h1, h2, List.append_assoc, List.append_assoc] at he
    obtain ⟨e1, he⟩ := txtB_inj (ha p (by simp)).1 (hb q (by simp)).1 he
    obtain ⟨e2, he⟩ := txtB_inj (ha p (by simp)).2 (hb q (by simp)).2 he
    rw [labs_inj a b (by simpa using h) (fun x hx => ha x (by simp [hx])) (fun x hx => hb x (by simp [hx])) he, Prod.ext e1 e2]
theorem lbytes_inj {a b : List Lbl} (ha : LFit a) (hb : LFit b) (h : lbytes a = lbytes b) : a = b := by
  unfold lbytes at h
  simp only [List.cons.injEq] at h
  have h1 := ha.1
  have h2 := hb.1
  exact labs_inj a b (ofNat_inj (by omega) (by omega) h.1) ha.2 hb.2 h.2
theorem lbytes_len {a : List Lbl} (ha : LFit a) : (lbytes a).length ≤ 131329 := by
  have := lbytes_le ha a.length
  rw [List.take_length] at this
  have := ha.1
  have := Nat.mul_le_mul_left 2052 this
  omega
end Go.Proofs.YtbeeejpjnniejaaGreatDoor
namespace Go.Proofs.YtbeeejpjnniejaaGreatDoor
open Go.RowKit Go.Shelf
theorem strOfNums_bytes (l : List UInt8) : strOfNums (l.map fun b => (b.toNat : Int)) = ⟨l.toArray⟩ := by
  have h : (strOfNums (l.map fun b => (b.toNat : Int))).data.toList = l := by
    rw [strOfNums_data, List.map_map]
    conv => rhs; rw [← List.map_id l]
    apply List.map_congr_left
    intro b _
    simp
  have h2 : (strOfNums (l.map fun b => (b.toNat : Int))).data = l.toArray := by rw [← Array.toList_inj, h]
  calc strOfNums (l.map fun b => (b.toNat : Int)) = ⟨(strOfNums (l.map fun b => (b.toNat : Int))).data⟩ := rfl
    _ = ⟨l.toArray⟩ := by rw [h2]
theorem run_str_at (w : World) (g c : Nat) (l : List UInt8) (h : ∀ i, i < l.length → w.cell? ⟨g, i, none⟩ = some (.int .u8 ((l.map fun b => (b.toNat : Int)).getD i 0))) : (convert 90 9 (.slice (some ⟨g, 0, none⟩) l.length c)).run Tryz.prog w = .ok (.string ⟨l.toArray⟩) w := by
  have := run_convert_bytes_arg (P := Tryz.prog) w 90 5 Tryz.underlying90 Tryz.underlying5 g 0 l.length c (l.map fun b => (b.toNat : Int)) (by simp) (fun i hi => by rw [Nat.zero_add]; exact h i hi) 9 Tryz.underlying9
  rwa [strOfNums_bytes] at this
theorem run_str_of_row (w : World) (base : Nat) (v : Value) (l : List UInt8) (h : w.ownsRow base 5 1 v l.length (bytesV l)) : (convert 90 9 v).run Tryz.prog w = .ok (.string ⟨l.toArray⟩) w := by
  rcases h.2 with ⟨e, e2⟩ | ⟨g, cap, cur, e, _, _, _, _⟩
  · have hl : l = [] := by
      match l, e2 with
      | [], _ => rfl
      | _ :: _, e2 => cases e2
    subst hl
    rw [e]
    exact run_convert_bytes_nil (P := Tryz.prog) w 90 5 Tryz.underlying90 Tryz.underlying5 _ _ 9 Tryz.underlying9
  · subst e
    refine run_str_at w g cap l fun i hi => ?_
    rw [h.cellAt i (by omega)]
    simp [bytesV, List.getElem?_map, List.getElem?_eq_getElem hi, List.getD_eq_getElem?_getD]
set_option maxRecDepth 100000 in
theorem run_str_reads {w : World} {B n : Nat} {A : Option Addr} {l : List UInt8} (c : Nat) (h : Reads w B 1 A n (bytesV l)) : (convert 90 9 (.slice A n c)).run Tryz.prog w = .ok (.string ⟨l.toArray⟩) w := by
  have hl : l.length = n := by have := h.1; rw [bytesV_length] at this; omega
  cases A with
  | none =>
    have h0 : n = 0 := by
      rcases Nat.eq_zero_or_pos n with h0 | h0
      · exact h0
      · obtain ⟨ad, e, -⟩ := h.2 h0
        cases e
    have : l = [] := List.eq_nil_of_length_eq_zero (by omega)
    subst this
    exact run_convert_bytes_nil (P := Tryz.prog) w 90 5 Tryz.underlying90 Tryz.underlying5 _ _ 9 Tryz.underlying9
  | some a =>
    have hc : (loadCells a n).run Tryz.prog w = .ok ((l.map fun b => (b.toNat : Int)).map (Value.int .u8)).toArray w := by
      have := run_loadCells_list (P := Tryz.prog) (w := w) a (bytesV l) (fun j v hj => by
        rcases Nat.eq_zero_or_pos n with h0 | h0
        · have := (List.getElem?_eq_some_iff.1 hj).1
          rw [bytesV_length] at this
          omega
        · obtain ⟨ad, e, -, hcell⟩ := h.2 h0
          injection e with e
          subst e
          exact hcell j v hj)
      rw [bytesV_length, hl] at this
      rw [this, List.map_map]
      rfl
    rw [run_convert_bytes_string w 90 9 5 (some a) n c Tryz.underlying90 Tryz.underlying5 Tryz.underlying9, run_bytesToString w a n c _ hc, foldl_push_bytes]
    congr 2
    rw [← strOfNums_bytes]
    simp [strOfNums]
    conv => rhs; rw [← List.map_id l]
    apply List.map_congr_left
    intro b _
    simp
end Go.Proofs.YtbeeejpjnniejaaGreatDoor
namespace Go.Proofs.YtbeeejpjnniejaaGreatDoor
open Go.RowKit Go.Shelf Go.Maps
theorem info32 : (Tryz.prog.info? 32).map (fun i => (i.zero, i.size, i.bytes)) = some (some (.int .i64 0), 1, 8) := by kernel_rfl
theorem run_store_float (P : Program) (w : World) (a : Addr) (m : Mode) (k : FloatKind) (b : Nat) : (store a (.float k b) m).run P w = stored P w a (.float k b) m := run_store P w a _ m rfl
/-! ### points in memory -/
def ptV (x : Value × Int × Nat) : List Value := [x.1, .int .i64 x.2.1, .float .f64 x.2.2]
def ptsV (l : List (Value × Int × Nat)) : List Value := l.flatMap ptV
theorem ptsV_length (l : List (Value × Int × Nat)) : (ptsV l).length = l.length * 3 := by
  induction l with
  | nil => rfl
  | cons a l ih =>
    show (ptV a ++ ptsV l).length = _
    rw [List.length_append, ih]
    simp [ptV]; omega
theorem ptsV_append (l m : List (Value × Int × Nat)) : ptsV (l ++ m) = ptsV l ++ ptsV m := by simp [ptsV]
theorem ptsV_get : ∀ (l : List (Value × Int × Nat)) (i : Nat) (x : Value × Int × Nat), l[i]? = some x → (ptsV l)[i * 3]? = some x.1 ∧ (ptsV l)[i * 3 + 1]? = some (.int .i64 x.2.1) ∧ (ptsV l)[i * 3 + 2]? = some (.float .f64 x.2.2)
  | [], i, x, h => by simp at h
  | a :: l, 0, x, h => by
    simp at h; subst h
    exact ⟨rfl, rfl, rfl⟩
  | a :: l, i + 1, x, h => by
    have := ptsV_get l i x (by simpa using h)
    unfold ptsV at this ⊢
    rw [List.flatMap_cons]
    rw [show (i + 1) * 3 = i * 3 + 3 by omega]
    exact this
theorem add_off (d : Addr) (i j : Nat) (hj : 0 < j) : d.add (i + j) = ⟨(d.add i).block, (d.add i).off + j, none⟩ ∨ True := .inr trivial
theorem Reads.three {w : World} {B n : Nat} {A : Option Addr} {xs : List Value} (h : Reads w B 3 A n xs) {i : Nat} {a b c : Value} (hi : i < n) (h0 : xs[i * 3]? = some a) (h1 : xs[i * 3 + 1]? = some b) (h2 : xs[i * 3 + 2]? = some c) :
    ∃ d, A = some d ∧ d.block < B ∧ w.cell? (d.add (i * 3)) = some a ∧ w.cell? ⟨(d.add (i * 3)).block, (d.add (i * 3)).off + 1, none⟩ = some b ∧ w.cell? ⟨(d.add (i * 3)).block, (d.add (i * 3)).off + 2, none⟩ = some c := by
  obtain ⟨d, e, hb, hc⟩ := h.2 (by omega)
  refine ⟨d, e, hb, hc _ _ h0, ?_, ?_⟩
  · have := hc _ _ h1
    rw [← add_of_add] at this
    generalize d.add (i * 3) = b at this ⊢
    unfold Addr.add at this
    rwa [if_neg (by omega)] at this
  · have := hc _ _ h2
    rw [← add_of_add] at this
    generalize d.add (i * 3) = b at this ⊢
    unfold Addr.add at this
    rwa [if_neg (by omega)] at this
def Sized (l : List Lbl) : Prop := l.length ≤ 9223372036854775807 ∧ ∀ q ∈ l, q.1.size ≤ 9223372036854775807 ∧ q.2.size ≤ 9223372036854775807
/-- where the cells of a slice lie, if it has any -/
def useB : Value → Option Nat
  | .slice (some a) (_ + 1) _ => some a.block
  | _ => none
/-- a point whose labels lie below B, in a block of Q -/
def PtIn (w : World) (B : Nat) (Q : Nat → Prop) (x : Value × Int × Nat) (p : Pt) : Prop := x.2 = p.2 ∧ LabsAt w B x.1 p.1 ∧ Sized p.1 ∧ ∀ k, useB x.1 = some k → Q k
def PtsAt (w : World) (B : Nat) (Q : Nat → Prop) (v : Value) (pts : List Pt) : Prop :=
  ∃ A c vs, v = .slice A pts.length c ∧ vs.length = pts.length ∧ Reads w B 3 A pts.length (ptsV vs) ∧ ∀ (i : Nat) (x : Value × Int × Nat) (p : Pt), vs[i]? = some x → pts[i]? = some p → PtIn w B Q x p
theorem LabsAt.keep {w w' : World} {B : Nat} {v : Value} {ls : List Lbl} (h : LabsAt w B v ls) (hb : ∀ p : Addr, p.block < B → w'.cell? p = w.cell? p) : LabsAt w' B v ls := by
  obtain ⟨A, c, e, r⟩ := h
  exact ⟨A, c, e, r.keep hb⟩
theorem PtsAt.keep {w w' : World} {B : Nat} {Q : Nat → Prop} {v : Value} {pts : List Pt} (h : PtsAt w B Q v pts) (hb : ∀ p : Addr, p.block < B → w'.cell? p = w.cell? p) : PtsAt w' B Q v pts := by
  obtain ⟨A, c, vs, e1, e2, r, h1⟩ := h
  exact ⟨A, c, vs, e1, e2, r.keep hb, fun i x p a b => ⟨(h1 i x p a b).1, (h1 i x p a b).2.1.keep hb, (h1 i x p a b).2.2⟩⟩
/-- one point -/
theorem PtsAt.at_ {w : World} {B : Nat} {Q : Nat → Prop} {v : Value} {pts : List Pt} (h : PtsAt w B Q v pts) {i : Nat} {p : Pt} (hp : pts[i]? = some p) :
    ∃ d c AL cL, v = .slice (some d) pts.length c ∧ d.block < B ∧ w.cell? (d.add (i * 3)) = some (.slice AL p.1.length cL) ∧ w.cell? ⟨(d.add (i * 3)).block, (d.add (i * 3)).off + 1, none⟩ = some (.int .i64 p.2.1) ∧ w.cell? ⟨(d.add (i * 3)).block, (d.add (i * 3)).off + 2, none⟩ = some (.float .f64 p.2.2) ∧ LabsAt w B (.slice AL p.1.length cL) p.1 ∧ Sized p.1 ∧ ∀ k, useB (Value.slice AL p.1.length cL) = some k → Q k := by
  obtain ⟨A, c, vs, e1, e2, r, h1⟩ := h
  have hlt := (List.getElem?_eq_some_iff.1 hp).1
  obtain ⟨x, hx⟩ : ∃ x, vs[i]? = some x := ⟨_, List.getElem?_eq_getElem (by omega)⟩
  obtain ⟨k1, k2, k3⟩ := h1 i x p hx hp
  obtain ⟨g0, g1, g2⟩ := ptsV_get vs i x hx
  obtain ⟨d, rfl, hd, x0, x1, x2⟩ := r.three hlt g0 g1 g2
  rw [k1] at x1 x2
  have k2' := k2
  obtain ⟨AL, cL, e3, -⟩ := k2'
  rw [e3] at x0 k2 k3
  exact ⟨d, c, AL, cL, e1, hd, x0, x1, x2, k2, k3⟩
/-! ### what is done with what is taken -/
def keyS (l : List Lbl) : ByteArray := ⟨(lbytes l).toArray⟩
structure TakeAt (g : Nat) (lb : Array Value) (B N : Nat) (Q : Nat → Prop) (J : List Pt → (Nat → Prop) → World → Prop) : Prop where
  keep : ∀ l G W W', J l G W → (∀ k, G k ∨ k < B → W'.heap[k]? = W.heap[k]?) → W.heap.size ≤ W'.heap.size → J l G W'
  lt : ∀ l G W, J l G W → ∀ k, G k → B ≤ k ∧ k < W.heap.size
  call : ∀ l G W (p : Pt) A c, J l G W → l.length < N → B ≤ W.heap.size → LabsAt W B (.slice A p.1.length c) p.1 → (∀ k, useB (Value.slice A p.1.length c) = some k → Q k) → fitP p.1 = true →
    Calls Tryz.prog g (#[.string (keyS p.1), .agg #[.slice A p.1.length c, .int .i64 p.2.1, .float .f64 p.2.2]] ++ lb) W fun e W' => e = .returned (.tuple #[]) ∧ ∃ G', J (l ++ [p]) G' W' ∧ Chg G W W' ∧ ∀ k, G' k → G k ∨ W.heap.size ≤ k
/-! ### the ends -/
theorem fitP_fit {l : List Lbl} (h : fitP l = true) : LFit l := rightL_fit (Bool.and_eq_true_iff.1 h).1
def EndsRel (H H' : Hd) (E : El) : Prop := ∀ l, fitP l = true → H'.last l = (match eget E (lbytes l) with | some e => some e | none => H.last l)
theorem EndsRel.start (H : Hd) : EndsRel H H [] := fun _ _ => rfl
theorem lastOf_snoc (r : List HSmp) (x : HSmp) : lastOf (r ++ [x]) = (x.1, x.2.1) := by unfold lastOf; simp
theorem last_add {H : Hd} (h : H.Ok) (p : Pt) (l : List Lbl) : (H.add p).last l = if l = p.1 then some p.2 else H.last l := by
  unfold Hd.last Hd.add
  dsimp only
  rw [findS_addS h.sorted]
  split
  · simp [lastOf_snoc]
  · rfl
theorem EndsRel.put {H H' : Hd} {E : El} (h : EndsRel H H' E) (hok : H'.Ok) {p : Pt} (hf : fitP p.1 = true) : EndsRel H (H'.add p) (eput E (lbytes p.1) p.2) := by
  intro l hl
  rw [last_add hok, e_dget_put]
  by_cases e : l = p.1
  · subst e
    rw [if_pos rfl, if_pos rfl]
  · rw [if_neg e, if_neg (fun e2 => e (lbytes_inj (fitP_fit hl) (fitP_fit hf) e2)), h l hl]
/-- what the map of a head finds -/
theorem HeadAt.find {w : World} {F : Nat → Prop} {p : Nat} {s : HS} {H : Hd} (h : HeadAt w F p s) (ht : Tells s H) (hok : H.Ok) {l : List Lbl} (hf : fitP l = true) :
    (∀ g, dget s.dir (lbytes l) = some g → s.lab g = l ∧ findS l H.ss = some (s.row g) ∧ SerAt w F s g) ∧ (dget s.dir (lbytes l) = none → findS l H.ss = none) := by
  refine ⟨fun g hg => ?_, fun hn => ?_⟩
  · have hm := dget_mem hg
    have hk := h.key _ hm
    have hin : (s.lab g, s.row g) ∈ H.ss := ht.perm.mem_iff.1 (List.mem_map.2 ⟨_, hm, rfl⟩)
    have ho := hok.ser _ hin
    have hl : s.lab g = l := lbytes_inj (fitP_fit ho.right) (fitP_fit hf) hk.symm
    have := findS_of_mem hok.sorted hin
    dsimp only at this
    rw [hl] at this
    exact ⟨hl, this, h.ser _ hm⟩
  · rw [findS_none]
    intro x hx e
    obtain ⟨y, hy, hxy⟩ := List.mem_map.1 (ht.perm.mem_iff.2 hx)
    have hk := h.key y hy
    have : s.lab y.2 = l := by rw [← e, ← hxy]
    rw [this] at hk
    exact dget_none.1 hn y hy hk
end Go.Proofs.YtbeeejpjnniejaaGreatDoor
