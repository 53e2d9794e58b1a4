/- The walk of does (19): a fault, a stop, a crash, an opening; all of them. The walk of does (19): a crash, an opening; all of them. The walks of begun (9) and wakes (18). A range over a function whose iterator makes rows of its own and tells them one by one: the body may spoil what it was told. copied (43): the copies lie apart. -/
import Derived.StillTailTactics
import Derived.Test.YtfchnpdgnhoffaaGreatDoorJ16WCalls
import Derived.Lib.SlBytesConst
import Derived.Lib.SmallJoins
import Derived.RangeFuncKeeps
import Derived.Test.YtfchnpdgnhoffaaGreatDoorJ10WRfunc
import Derived.Test.YtfchnpdgnhoffaaGreatDoorJ09WPlain
namespace Go.Proofs.YtfchnpdgnhoffaaGreatDoor
open Go.RowKit Go.Shelf Go.Maps

section
variable {w w' : World} {F G H : Nat → Prop} {wp n : Nat} {a s : LS} {lp p : Nat} {Fl : Nat → Prop} {vc vm vs : Value}
/-- behind an operation of the disk's -/
theorem WSt.disked {n' : Nat} {b : LS} (h : WSt w F G wp n a s lp p Fl vc vm vs) :
    ∃ Fd, Dk w Fd p n a.x ∧ (∀ k, Fd k → Fl k) ∧ (∀ w', Dk w' (Grs Fd w w') p n' b.x → Chg Fd w w' → b.c = a.c → b.last = a.last → b.fl = a.fl → WSt w' (New F w w') (fun y => G y ∧ y < w.heap.size) wp n' b s lp p (New Fl w w') vc vm vs) := by
  obtain ⟨Fd, L, vl, h1, h2, h3, h4, h5, h6, h7, h8⟩ := h.log
  refine ⟨Fd, h1, fun k hk => (h7 k hk).1, fun w' hd hc e1 e2 e3 => ?_⟩
  have hcl : Chg Fl w w' := hc.weak fun k hk => (h7 k hk).1
  refine h.logged hcl ?_
  rw [e1, e2, e3]
  refine ⟨Grs Fd w w', L, vl, hd, (hc.block lp h2.lt h5).trans h2, h3.keep fun k hk hlt => hc.block k hlt fun h => (h7 k h).2 hk, .inl h4, fun h9 => ?_, h6, fun y hy => ?_, fun y hy => .inl (h8 y hy)⟩
  · rcases h9.1 with h9 | h9
    · exact h5 h9
    · have := h2.lt; omega
  · rcases hy.1 with h9 | h9
    · exact ⟨.inl (h7 y h9).1, (h7 y h9).2⟩
    · exact ⟨.inr ⟨h9, hy.2⟩, fun h10 => by have := h.lt y (h.sub y (h8 y h10)); omega⟩
/-- behind a store into the world's own block (and its row of numbers) -/
theorem WSt.restruck {b : LS} {vs' : Value} (h : WSt w F G wp n b s lp p Fl vc vm vs) (hblk : Blk w' wp 32 #[.pointer (some ⟨p, 0, none⟩), .pointer (some ⟨lp, 0, none⟩), vc, vm, vs', .int .i64 b.stop]) (hc : b.c = s.c) (hm : b.may = s.may)
    (ho : w'.ownsRow 0 3 1 vs' b.struck.length (intsV b.struck)) (hv : vs'.ownBlock = none ∨ vs'.ownBlock = vs.ownBlock ∨ ∀ k, vs'.ownBlock = some k → w.heap.size ≤ k ∧ k < w'.heap.size) (hch : Chg (fun k => k = wp ∨ vs.ownBlock = some k) w w') :
    WSt w' (New F w w') (fun y => G y ∧ y < w.heap.size) wp n b b lp p Fl vc vm vs' := by
  obtain ⟨us, hmo, -⟩ := id h.may
  have hF : ∀ y, y = wp ∨ vs.ownBlock = some y → F y := fun y hy => hy.elim (fun e => e ▸ h.own) fun e => (h.strF y e).1
  have hcF : Chg F w w' := hch.weak hF
  exact {
    log := h.log.keep fun k hk2 hlt => hch.block k hlt fun hk => hk.elim (fun e => h.far (e ▸ hk2)) fun e => (h.strF k e).2 hk2
    blk := hblk
    cont := by rw [hc]; exact (h.cont.mono fun k hlt hk => ⟨hk, hlt⟩).keep hch.size fun k hk hlt => hcF.block k hlt fun hf => h.disj k hk.1 hf
    may := by
      rw [hm]
      exact (h.may.mono fun k hlt hk => ⟨hk, hlt⟩).keep hch.size (fun k e => hch.block k (h.lt k (h.mayF k e).1) fun hk => hk.elim (fun e2 => (IsT.of_own hmo e).ne (IsT.of_blk h.blk) (by decide) e2) fun e2 => (IsT.of_own hmo e).ne (IsT.of_own h.struck e2) (by decide) rfl) fun k hk hlt => hcF.block k hlt fun hf => h.disj k hk.1 hf
    struck := ho
    own := .inl h.own
    far := h.far
    sub := fun y hy => .inl (h.sub y hy)
    mayF := fun y e => ⟨.inl (h.mayF y e).1, (h.mayF y e).2⟩
    strF := fun y e => by
      rcases hv with h5 | h5 | h5
      · rw [h5] at e; cases e
      · exact ⟨.inl (h.strF y (h5 ▸ e)).1, (h.strF y (h5 ▸ e)).2⟩
      · exact ⟨.inr (h5 y e), fun hf => by have := h.lt y (h.sub y hf); have := (h5 y e).1; omega⟩
    disj := fun y hy hf => hf.elim (h.disj y hy.1) fun hf => by have := hy.2; omega
    lt := fun y hy => hy.elim (fun hy => Nat.lt_of_lt_of_le (h.lt y hy) hch.size) fun hy => hy.2
    syn := h.syn.chg hcF h.no0
    no0 := fun hf => hf.elim h.no0 fun hf => by have := h.syn.lt; omega }
end
theorem mod12 (n : Int) : 0 ≤ n % 12 ∧ n % 12 ≤ 11 := by omega
set_option maxRecDepth 100000 in
set_option maxHeartbeats 12800000 in
theorem does_fault (w : World) (F H : Nat → Prop) (wp k : Nat) (s : LS) (o : OpL) (vr vrs vcu : Value) (h : WAt w F wp (107 * k) s) (hk : k ≤ 89) (hs : s.Ok k) (ho : OpVal w H o vr vrs vcu) (hd : o.do_ % 7 = 3) :
    Calls Tryz.prog 19 #[.pointer (some ⟨wp, 0, none⟩), .agg #[.int .i64 o.do_, .int .i64 o.n, .int .i64 o.k, vr, vrs, vcu]] w (DoesPost w F wp k (fun s' => s'.c = s.c ∧ s'.may = s.may)) := by
  obtain ⟨i3, hi3, hz30, hz31, hz32⟩ := info_parts info3
  have HI3 := Lib.hid hi3
  have HZ30 := Lib.hid hz30
  have HZ31 := Lib.hid hz31
  have HZ32 := Lib.hid hz32
  obtain ⟨G, lp, p, Fl, vc, vm, vs, h⟩ := h
  obtain ⟨n, hn⟩ : ∃ n, n = 107 * k := ⟨_, rfl⟩
  have HN := Lib.hid hn
  rw [← hn] at h
  have hnl : n ≤ 9523 := by omega
  obtain ⟨Ar, dr, hvr, -⟩ := id ho.rec_
  obtain ⟨Ac, mc, dc, hvrs⟩ := recs_slice ho.recs
  obtain ⟨Au, du, hvcu, -⟩ := id ho.cuts
  subst hvr hvrs hvcu
  have hcnt : s.x.count ≤ n := (h.log.dk.pb).count
  obtain ⟨z, hz⟩ : ∃ z, z = o.n % 12 := ⟨_, rfl⟩
  have hz0 := mod12 o.n
  rw [← hz] at hz0
  obtain ⟨hz1, hz2⟩ := hz0
  have HZ := Lib.hid hz
  have hok := LS.fault hs z o.k hz1 hz2
  have HOK := Lib.hid hok
  have HS := Lib.hid hs
  obtain ⟨w0, hw0⟩ : ∃ w0, w0 = w.alloc (.cells #[.int .i64 o.do_, .int .i64 o.n, .int .i64 o.k, .slice Ar o.rec_.length dr, .slice Ac mc dc, .slice Au o.cuts.length du] 46) := ⟨_, rfl⟩
  have HW0 := Lib.hid hw0
  have hb0 : Below w.heap.size w w0 := by rw [hw0]; exact (Below.refl _ _).alloc (Nat.le_refl _) _
  have k0 := Blk.new w 46 #[.int .i64 o.do_, .int .i64 o.n, .int .i64 o.k, .slice Ar o.rec_.length dr, .slice Ac mc dc, .slice Au o.cuts.length du]
  rw [← hw0] at k0
  have h0 := (h.below hb0).atG
  obtain ⟨Fd, hdk, hfd, hgo⟩ := h0.disked (n' := n + 1) (b := { s with x := s.x.fault z o.k, struck := s.struck ++ [(s.x.count : Int) + z] })
  have HDK := Lib.hid hdk
  have HFD := Lib.hid hfd
  have HGO := Lib.hid hgo
  have HB0 := Lib.hid hb0
  have H0 := Lib.hid h0
  have c0 : w0.cell? ⟨wp, 0, none⟩ = some (.pointer (some ⟨p, 0, none⟩)) := h0.blk.cell 0
  have e0 : w0.cell? ⟨w.heap.size, 0, none⟩ = some (.int .i64 o.do_) := k0.cell 0
  have e1 : w0.cell? ⟨w.heap.size, 1, none⟩ = some (.int .i64 o.n) := k0.cell 1
  have e2 : w0.cell? ⟨w.heap.size, 2, none⟩ = some (.int .i64 o.k) := k0.cell 2
  clear ho hok hs hw0 hb0 k0 h0 h hn hdk hfd hgo hz hi3 hz30 hz31 hz32
  go_enter Tryz.func19, Tryz.ntmps19
  go_upto_region 1 with fail
  rw [← HW0.out]
  go_wp2_with fail
  refine (dk_ops w0 Fl p n s.x H0.out.log.dk).mono ?_
  rintro e w' ⟨rfl, hw'⟩
  subst hw'
  go_wp2_with fail
  refine (keepwithin_any o.do_ 7 w' (by decide) (by decide)).mono ?_
  rintro e w1 ⟨rfl, hw1⟩
  subst hw1
  rw [hd]
  clear e0 hd
  go_wp2_with fail
  refine (keepwithin_any o.n 12 w' (by decide) (by decide)).mono ?_
  rintro e w1 ⟨rfl, hw1⟩
  subst hw1
  rw [← HZ.out]
  go_wp2_with fail
  go_still_tail 7, (by kernel_rfl)
  change wpList _ _ _ _ _ w'.drew
  go_wp2_with fail
  refine (dk_fault w'.drew Fd p n s.x z o.k ⟨by omega, by omega⟩ HDK.out.drew (by omega)).mono ?_
  rintro e w2 ⟨rfl, hd2, hc2⟩
  have hc2 : Chg Fd w' w2 := ⟨hc2.os, hc2.tape, hc2.output, hc2.size, hc2.block⟩
  have h2 := HGO.out w2 hd2 hc2 (by first | exact rfl | exact trivial) (by first | exact rfl | exact trivial) (by first | exact rfl | exact trivial)
  have hs2 := hc2.size
  have HCH2 := Lib.hid (show Chg F w w2 from ((Chg.refl F w).below HB0.out (Nat.le_refl _)).trans (hc2.weak (G := F) fun y hy => H0.out.sub y (HFD.out y hy)) fun x hx => .inl hx)
  have H2 := Lib.hid h2
  have ho := h2.struck
  obtain ⟨A2, d2, hvs⟩ := own_slice ho
  subst hvs
  obtain ⟨m, hm⟩ : ∃ m, m = s.struck.length := ⟨_, rfl⟩
  have hml : m ≤ 89 := by have := HS.out.sL; omega
  rw [← hm] at ho
  have HM := Lib.hid hm
  have HO := Lib.hid ho
  have x4 : w2.cell? ⟨wp, 4, none⟩ = some (.slice A2 m d2) := by rw [hm]; exact h2.blk.cell 4
  have hsum : IntKind.i64.wrap ((s.x.count : Int) + z) = (s.x.count : Int) + z := IntWalk.i64_in _ (by omega)
  have HB2 := Lib.hid h2.blk
  clear hd2 hc2 h2 ho hm c0 e1 e2 hsum
  go_upto_region 22 with (at_builtin; go_loud (refine wpList_append_any _ rfl (.tmp 106) (.tmp 110) 22 rfl 0 3 i3 (.int .i64 0) 1 8 Tryz.underlying22 HI3.out HZ30.out HZ31.out HZ32.out rfl (by decide) (.slice A2 m d2) m (intsV s.struck) rfl (HO.out.alloc _) (w2.heap.size + 1) (some ⟨w2.heap.size, 0, none⟩) 1 1 [.int .i64 ((s.x.count : Int) + z)] rfl (reads_new1 _ _ _) (by intro u hu; rw [List.mem_singleton.1 hu]; rfl) (by simp [maxLen]; omega) (by omega) (by simp) ?_; intro v4 w4 hown4 hgrow4 hor4; obtain ⟨A4, d4, hv4⟩ := own_slice hown4; subst hv4; have hs4 := hgrow4.size; rw [World.size_alloc] at hs4; have hne4 : (Value.slice A2 m d2).ownBlock ≠ some wp := fun e2 => (IsT.of_own HO.out e2).ne (IsT.of_blk HB2.out) (by decide) rfl; have hb4 := ((HB2.out.alloc (.cells #[.int .i64 ((s.x.count : Int) + z)] 3)).grown hgrow4 (fun e2 => hne4 e2.symm)); have z44 := hb4.frozen 4; have y44 : w4.cell? ⟨wp, 4, none⟩ = some (.slice A2 m d2) := by { rw [HM.out]; exact hb4.cell 4 }; have HB4 := Lib.hid hb4; have HW4 := Lib.hid hown4; have HG4 := Lib.hid hgrow4; have HOR := Lib.hid hor4; clear hown4 hgrow4 hb4 hor4 hne4))
  go_wp2
  go_ret
  have hb5 := HB4.out.set_ 4 (.slice A4 (m + 1) d4)
  have hch : Chg (fun k => k = wp ∨ (Value.slice A2 m d2).ownBlock = some k) w2 (w4.setCell ⟨wp, 4, none⟩ (.slice A4 (m + 1) d4)) :=
    (((Chg.refl _ w2).alloc _).grown HG4.out fun g hg => .inl (.inr hg)).setCell (p := ⟨wp, 4, none⟩) (.inl (.inl rfl)) _
  have hs5 : (w4.setCell ⟨wp, 4, none⟩ (.slice A4 (m + 1) d4)).heap.size = w4.heap.size := by simp [World.setCell]
  have ho5 : (w4.setCell ⟨wp, 4, none⟩ (.slice A4 (m + 1) d4)).ownsRow 0 3 1 (.slice A4 (m + 1) d4) (s.struck ++ [(s.x.count : Int) + z]).length (intsV (s.struck ++ [(s.x.count : Int) + z])) := by
    rw [List.length_append, ← HM.out, show intsV (s.struck ++ [(s.x.count : Int) + z]) = intsV s.struck ++ [.int .i64 ((s.x.count : Int) + z)] by unfold intsV; rw [List.map_append]; rfl]
    exact own_keep HW4.out fun k e _ => Below.heap_setCell _ _ _ _ fun e2 => (IsT.of_own HW4.out e).ne (IsT.of_blk HB4.out) (by decide) e2
  have h5 := H2.out.restruck (w' := w4.setCell ⟨wp, 4, none⟩ (.slice A4 (m + 1) d4)) (vs' := .slice A4 (m + 1) d4) hb5 rfl rfl ho5 (by
    rcases HOR.out with e | e
    · right; left
      rw [e, HM.out]
    · right; right
      intro k hk
      have h9 := (HW4.out.lt k hk).2
      rw [hk] at e
      injection e with e
      rw [World.size_alloc] at e
      rw [hs5]
      omega) (hch.weak fun k hk => hk.imp id fun e => by rw [← HM.out]; exact e)
  have hp : WPost w2 (New F w' w2) wp (n + 1) _ (w4.setCell ⟨wp, 4, none⟩ (.slice A4 (m + 1) d4)) := ⟨_, fun y hy => hy, ⟨_, _, _, _, _, _, _, h5⟩, hch.weak fun k hk => hk.elim (fun e => e ▸ H2.out.own) fun e => (H2.out.strF k (by rw [← HM.out]; exact e)).1⟩
  refine ⟨rfl, _, hp.chain HCH2.out (fun y hy => hy.elim .inl fun h => .inr ⟨by have := HB0.out.size; omega, h.2⟩) (by have := HN.out; omega), HOK.out, rfl, rfl⟩
set_option maxRecDepth 100000 in
set_option maxHeartbeats 12800000 in
theorem does_stop (w : World) (F H : Nat → Prop) (wp k : Nat) (s : LS) (o : OpL) (vr vrs vcu : Value) (h : WAt w F wp (107 * k) s) (hk : k ≤ 89) (hs : s.Ok k) (ho : OpVal w H o vr vrs vcu) (hd : o.do_ % 7 = 4) :
    Calls Tryz.prog 19 #[.pointer (some ⟨wp, 0, none⟩), .agg #[.int .i64 o.do_, .int .i64 o.n, .int .i64 o.k, vr, vrs, vcu]] w (DoesPost w F wp k (fun s' => s'.c = s.c ∧ s'.may = s.may)) := by
  obtain ⟨G, lp, p, Fl, vc, vm, vs, h⟩ := h
  obtain ⟨n, hn⟩ : ∃ n, n = 107 * k := ⟨_, rfl⟩
  have HN := Lib.hid hn
  rw [← hn] at h
  have hnl : n ≤ 9523 := by omega
  obtain ⟨Ar, dr, hvr, -⟩ := id ho.rec_
  obtain ⟨Ac, mc, dc, hvrs⟩ := recs_slice ho.recs
  obtain ⟨Au, du, hvcu, -⟩ := id ho.cuts
  subst hvr hvrs hvcu
  have hcnt : s.x.count ≤ n := (h.log.dk.pb).count
  obtain ⟨z, hz⟩ : ∃ z, z = o.n % 12 := ⟨_, rfl⟩
  have hz0 := mod12 o.n
  rw [← hz] at hz0
  obtain ⟨hz1, hz2⟩ := hz0
  have HZ := Lib.hid hz
  have hok := LS.stopAt hs z hz1 hz2
  have HOK := Lib.hid hok
  obtain ⟨w0, hw0⟩ : ∃ w0, w0 = w.alloc (.cells #[.int .i64 o.do_, .int .i64 o.n, .int .i64 o.k, .slice Ar o.rec_.length dr, .slice Ac mc dc, .slice Au o.cuts.length du] 46) := ⟨_, rfl⟩
  have HW0 := Lib.hid hw0
  have hb0 : Below w.heap.size w w0 := by rw [hw0]; exact (Below.refl _ _).alloc (Nat.le_refl _) _
  have k0 := Blk.new w 46 #[.int .i64 o.do_, .int .i64 o.n, .int .i64 o.k, .slice Ar o.rec_.length dr, .slice Ac mc dc, .slice Au o.cuts.length du]
  rw [← hw0] at k0
  have h0 := (h.below hb0).atG
  obtain ⟨Fd, hdk, hfd, hgo⟩ := h0.disked (n' := n + 1) (b := { s with x := { s.x with stop := max z 0 }, stop := (s.x.count : Int) + z })
  have HDK := Lib.hid hdk
  have HFD := Lib.hid hfd
  have HGO := Lib.hid hgo
  have HB0 := Lib.hid hb0
  have H0 := Lib.hid h0
  have c0 : w0.cell? ⟨wp, 0, none⟩ = some (.pointer (some ⟨p, 0, none⟩)) := h0.blk.cell 0
  have e0 : w0.cell? ⟨w.heap.size, 0, none⟩ = some (.int .i64 o.do_) := k0.cell 0
  have e1 : w0.cell? ⟨w.heap.size, 1, none⟩ = some (.int .i64 o.n) := k0.cell 1
  clear ho hok hs hw0 hb0 k0 h0 h hn hdk hfd hgo hz
  go_enter Tryz.func19, Tryz.ntmps19
  go_upto_region 1 with fail
  rw [← HW0.out]
  go_wp2_with fail
  refine (dk_ops w0 Fl p n s.x H0.out.log.dk).mono ?_
  rintro e w' ⟨rfl, hw'⟩
  subst hw'
  go_wp2_with fail
  refine (keepwithin_any o.do_ 7 w' (by decide) (by decide)).mono ?_
  rintro e w1 ⟨rfl, hw1⟩
  subst hw1
  rw [hd]
  clear e0 hd
  go_wp2_with fail
  refine (keepwithin_any o.n 12 w' (by decide) (by decide)).mono ?_
  rintro e w1 ⟨rfl, hw1⟩
  subst hw1
  rw [← HZ.out]
  go_wp2_with fail
  refine (dk_stop w' Fd p n s.x z ⟨by omega, by omega⟩ HDK.out (by omega)).mono ?_
  rintro e w2 ⟨rfl, hd2, hc2⟩
  have h2 := HGO.out w2 hd2 hc2 (by first | exact rfl | exact trivial) (by first | exact rfl | exact trivial) (by first | exact rfl | exact trivial)
  have hs2 := hc2.size
  have HCH2 := Lib.hid (show Chg F w w2 from ((Chg.refl F w).below HB0.out (Nat.le_refl _)).trans (hc2.weak (G := F) fun y hy => H0.out.sub y (HFD.out y hy)) fun x hx => .inl hx)
  have H2 := Lib.hid h2
  have HB2 := Lib.hid h2.blk
  have x5 : w2.cell? ⟨wp, 5, none⟩ = some (.int .i64 s.stop) := h2.blk.cell 5
  have z5 := h2.blk.frozen 5
  have hsum : IntKind.i64.wrap ((s.x.count : Int) + z) = (s.x.count : Int) + z := IntWalk.i64_in _ (by omega)
  clear hd2 hc2 h2 c0 e1 hsum
  go_wp2
  go_ret
  have hch : Chg (fun k => k = wp ∨ vs.ownBlock = some k) w2 (w2.setCell ⟨wp, 5, none⟩ (.int .i64 ((s.x.count : Int) + z))) := (Chg.refl _ w2).setCell (p := ⟨wp, 5, none⟩) (.inl (.inl rfl)) _
  have h5 := H2.out.restruck (w' := w2.setCell ⟨wp, 5, none⟩ (.int .i64 ((s.x.count : Int) + z))) (vs' := vs) (HB2.out.set_ 5 _) rfl rfl (own_keep H2.out.struck fun k e _ => Below.heap_setCell _ _ _ _ fun e2 => (IsT.of_own H2.out.struck e).ne (IsT.of_blk HB2.out) (by decide) e2) (.inr (.inl rfl)) hch
  have hp : WPost w2 (New F w' w2) wp (n + 1) _ (w2.setCell ⟨wp, 5, none⟩ (.int .i64 ((s.x.count : Int) + z))) := ⟨_, fun y hy => hy, ⟨_, _, _, _, _, _, _, h5⟩, hch.weak fun k hk => hk.elim (fun e => e ▸ H2.out.own) fun e => (H2.out.strF k e).1⟩
  refine ⟨rfl, _, hp.chain HCH2.out (fun y hy => hy.elim .inl fun h => .inr ⟨by have := HB0.out.size; omega, h.2⟩) (by have := HN.out; omega), HOK.out, rfl, rfl⟩
end Go.Proofs.YtfchnpdgnhoffaaGreatDoor
namespace Go.Proofs.YtfchnpdgnhoffaaGreatDoor
open Go.RowKit Go.Shelf Go.Maps

theorem LS.Ok.mono {s : LS} {k m : Nat} (h : s.Ok k) (hm : k ≤ m) : s.Ok m :=
  ⟨h.inv, h.hr, h.nd, by have := h.last; omega, h.cS.mono hm, fun l hl => (h.mS l hl).mono hm, by have := h.mL; omega, by have := h.sL; omega, h.sB, h.tB⟩
theorem LS.Ok.unfail {s : LS} {k : Nat} (h : s.Ok k) : ({ s with fl := false } : LS).Ok k := ⟨h.inv, h.hr, h.nd, h.last, h.cS, h.mS, h.mL, h.sL, h.sB, h.tB⟩
/-- what a crash leaves -/
structure Crashed (s s' : LS) : Prop where
  c : s'.c = s.c ∨ s'.c ∈ s.may
  struck : s'.struck = []
  stop : s'.stop = -1
  count : s'.x.count = s.x.count
  free : s'.Free
  fl : s'.fl = false
set_option maxRecDepth 100000 in
set_option maxHeartbeats 12800000 in
theorem does_crash (w : World) (F H : Nat → Prop) (wp k : Nat) (s : LS) (o : OpL) (vr vrs vcu : Value) (h : WAt w F wp (107 * k) s) (hk : k ≤ 89) (hs : s.Ok k) (ho : OpVal w H o vr vrs vcu) (hd : o.do_ % 7 = 5) :
    Calls Tryz.prog 19 #[.pointer (some ⟨wp, 0, none⟩), .agg #[.int .i64 o.do_, .int .i64 o.n, .int .i64 o.k, vr, vrs, vcu]] w (DoesPost w F wp k (fun s' => Crashed s s')) := by
  obtain ⟨G, lp, p, Fl, vc, vm, vs, h⟩ := h
  obtain ⟨n, hn⟩ : ∃ n, n = 107 * k := ⟨_, rfl⟩
  have HN := Lib.hid hn
  rw [← hn] at h
  have hnl : n ≤ 9523 := by omega
  obtain ⟨Ar, dr, hvr, -⟩ := id ho.rec_
  obtain ⟨Ac, mc, dc, hvrs⟩ := recs_slice ho.recs
  obtain ⟨Au, du, hvcu, hdu, hRu⟩ := id ho.cuts
  subst hvr hvrs hvcu
  have hcnt : s.x.count ≤ n := (h.log.dk.pb).count
  obtain ⟨nu, hnu⟩ : ∃ nu, nu = o.cuts.length := ⟨_, rfl⟩
  rw [← hnu] at hRu hdu ⊢
  have HNU := Lib.hid hnu
  have HRU := Lib.hid hRu
  have HS := Lib.hid hs
  obtain ⟨As, ds, hvs⟩ := own_slice h.struck
  subst hvs
  obtain ⟨ns, hns⟩ : ∃ ns, ns = s.struck.length := ⟨_, rfl⟩
  have HNS := Lib.hid hns
  obtain ⟨w0, hw0⟩ : ∃ w0, w0 = w.alloc (.cells #[.int .i64 o.do_, .int .i64 o.n, .int .i64 o.k, .slice Ar o.rec_.length dr, .slice Ac mc dc, .slice Au nu du] 46) := ⟨_, rfl⟩
  have HW0 := Lib.hid hw0
  have hb0 : Below w.heap.size w w0 := by rw [hw0]; exact (Below.refl _ _).alloc (Nat.le_refl _) _
  have k0 := Blk.new w 46 #[.int .i64 o.do_, .int .i64 o.n, .int .i64 o.k, .slice Ar o.rec_.length dr, .slice Ac mc dc, .slice Au nu du]
  rw [← hw0] at k0
  have h0 := (h.below hb0).atG
  obtain ⟨Fd, hdk, hfd, hgo⟩ := h0.disked (n' := n + 1) (b := { s with x := s.x.crash o.cuts, struck := [], stop := -1 })
  have HDK := Lib.hid hdk
  have HFD := Lib.hid hfd
  have HGO := Lib.hid hgo
  have HB0 := Lib.hid hb0
  have H0 := Lib.hid h0
  have c0 : w0.cell? ⟨wp, 0, none⟩ = some (.pointer (some ⟨p, 0, none⟩)) := h0.blk.cell 0
  have e0 : w0.cell? ⟨w.heap.size, 0, none⟩ = some (.int .i64 o.do_) := k0.cell 0
  have e5 : w0.cell? ⟨w.heap.size, 5, none⟩ = some (.slice Au nu du) := k0.cell 5
  clear ho hs hw0 hb0 k0 h0 h hn hdk hfd hgo hnu hRu hns
  go_enter Tryz.func19, Tryz.ntmps19
  go_upto_region 1 with fail
  rw [← HW0.out]
  go_wp2_with fail
  refine (dk_ops w0 Fl p n s.x H0.out.log.dk).mono ?_
  rintro e w' ⟨rfl, hw'⟩
  subst hw'
  go_wp2_with fail
  refine (keepwithin_any o.do_ 7 w' (by decide) (by decide)).mono ?_
  rintro e w1 ⟨rfl, hw1⟩
  subst hw1
  rw [hd]
  clear e0 hd
  go_wp2_with fail
  go_still_tail 6, (by kernel_rfl)
  change wpList _ _ _ _ _ w'.drew
  go_wp2_with fail
  refine (dk_crash w'.drew Fd p n s.x Au nu du o.cuts HNU.out HDK.out.drew (by omega) ((HRU.out.below HB0.out).more (B' := w'.heap.size) (by have := HB0.out.size; omega)).drew hdu).mono ?_
  rintro e w2 ⟨rfl, hd2, hc2⟩
  have hc2 : Chg Fd w' w2 := ⟨hc2.os, hc2.tape, hc2.output, hc2.size, hc2.block⟩
  have hnd : ND (s.x.crash o.cuts).dir := hd2.rdir.1.names
  have h2 := HGO.out w2 hd2 hc2 (by first | exact rfl | exact trivial) (by first | exact rfl | exact trivial) (by first | exact rfl | exact trivial)
  obtain ⟨t, tx, tok, tst, tsp, tmay, tfl, tc, tfree⟩ := LS.crash HS.out (by omega) o.cuts hnd
  have hs2 := hc2.size
  have HCH2 := Lib.hid (show Chg F w w2 from ((Chg.refl F w).below HB0.out (Nat.le_refl _)).trans (hc2.weak (G := F) fun y hy => H0.out.sub y (HFD.out y hy)) fun x hx => .inl hx)
  have H2 := Lib.hid h2
  have HB2 := Lib.hid h2.blk
  have x4 : w2.cell? ⟨wp, 4, none⟩ = some (.slice As ns ds) := by rw [HNS.out]; exact h2.blk.cell 4
  have z4 := h2.blk.frozen 4
  have x5 : (w2.setCell ⟨wp, 4, none⟩ (.slice none 0 0)).cell? ⟨wp, 5, none⟩ = some (.int .i64 s.stop) := (h2.blk.set_ 4 _).cell 5
  have z5 := (h2.blk.set_ 4 (.slice none 0 0)).frozen 5
  obtain ⟨w3, hw3⟩ : ∃ w3, w3 = (w2.setCell ⟨wp, 4, none⟩ (.slice none 0 0)).setCell ⟨wp, 5, none⟩ (.int .i64 (-1)) := ⟨_, rfl⟩
  have HW3 := Lib.hid hw3
  have hch : Chg (fun k => k = wp ∨ (Value.slice As s.struck.length ds).ownBlock = some k) w2 w3 := by
    rw [hw3]
    exact ((Chg.refl _ w2).setCell (p := ⟨wp, 4, none⟩) (.inl (.inl rfl)) _).setCell (p := ⟨wp, 5, none⟩) (.inl (.inl rfl)) _
  have h3 := H2.out.restruck (w' := w3) (vs' := .slice none 0 0) (by rw [hw3]; exact (HB2.out.set_ 4 _).set_ 5 _) rfl rfl (World.ownsRow_nil _ _ _ _) (.inl rfl) hch
  have H3 := Lib.hid h3
  have HC3 := Lib.hid hch
  have HT := Lib.hid tok
  have HTX := Lib.hid (show Opens ({ s with x := s.x.crash o.cuts, struck := [], stop := -1 } : LS) t from ⟨tx, tmay, tfl⟩)
  have HRF := Lib.hid (LS.refit tst tsp)
  have HCR := Lib.hid (show Crashed s t from ⟨tc, tst, tsp, by rw [tx]; rfl, tfree, tfl⟩)
  clear hd2 hc2 h2 c0 e5 hnd hw3 hch h3 tx tok tst tsp tmay tfl tc tfree
  go_upto_region 29 with fail
  rw [← HW3.out]
  clear x4 z4 x5 z5
  go_wp2_with fail
  refine (opened_any w3 _ _ wp (n + 1) (k + 1) _ _ t lp p _ vc vm _ H3.out (by omega) HT.out (by omega) HTX.out true (HS.out.cS.mono (by omega)) (fun l hl => (HS.out.mS l hl).mono (by omega)) (by have := HS.out.mL; show s.may.length ≤ 100; omega) (HCR.out.c.imp id fun h => ⟨rfl, h⟩)).mono ?_
  rintro e w6 ⟨rfl, hp6⟩
  rw [HRF.out] at hp6
  have HP6 := Lib.hid hp6
  clear hp6
  go_wp2
  go_ret
  refine ⟨rfl, t, HP6.out.chain (HCH2.out.trans (HC3.out.weak (G := F) fun k hk => ?_) fun x hx => .inl hx) (fun y hy => ?_) (by have := HN.out; omega), HT.out, HCR.out⟩
  · exact hk.elim (fun e => e ▸ H0.out.own) fun e => (H0.out.strF k e).1
  · have hs3 := HC3.out.size
    have hs0 := HB0.out.size
    exact hy.elim (fun hy => hy.elim .inl fun h => .inr ⟨by omega, by omega⟩) fun h => .inr ⟨by omega, h.2⟩
set_option maxRecDepth 100000 in
set_option maxHeartbeats 12800000 in
theorem does_open (w : World) (F H : Nat → Prop) (wp k : Nat) (s : LS) (o : OpL) (vr vrs vcu : Value) (h : WAt w F wp (107 * k) s) (hk : k ≤ 89) (hs : s.Ok k) (ho : OpVal w H o vr vrs vcu) (hd : o.do_ % 7 = 6) :
    Calls Tryz.prog 19 #[.pointer (some ⟨wp, 0, none⟩), .agg #[.int .i64 o.do_, .int .i64 o.n, .int .i64 o.k, vr, vrs, vcu]] w (DoesPost w F wp k (fun s' => s'.c = s.c ∧ s'.may = s.may)) := by
  obtain ⟨G, lp, p, Fl, vc, vm, vs, h⟩ := h
  obtain ⟨n, hn⟩ : ∃ n, n = 107 * k := ⟨_, rfl⟩
  have HN := Lib.hid hn
  rw [← hn] at h
  have hnl : n ≤ 9523 := by omega
  obtain ⟨Ar, dr, hvr, -⟩ := id ho.rec_
  obtain ⟨Ac, mc, dc, hvrs⟩ := recs_slice ho.recs
  obtain ⟨Au, du, hvcu, -⟩ := id ho.cuts
  subst hvr hvrs hvcu
  have HS := Lib.hid hs
  obtain ⟨us, hmo, -⟩ := id h.may
  obtain ⟨Am, dm, hvm⟩ := own_slice hmo
  subst hvm
  obtain ⟨nm, hnm⟩ : ∃ nm, nm = s.may.length := ⟨_, rfl⟩
  have HNM := Lib.hid hnm
  have hnm9 : nm ≤ 89 := by have := hs.mL; omega
  obtain ⟨w0, hw0⟩ : ∃ w0, w0 = w.alloc (.cells #[.int .i64 o.do_, .int .i64 o.n, .int .i64 o.k, .slice Ar o.rec_.length dr, .slice Ac mc dc, .slice Au o.cuts.length du] 46) := ⟨_, rfl⟩
  have HW0 := Lib.hid hw0
  have hb0 : Below w.heap.size w w0 := by rw [hw0]; exact (Below.refl _ _).alloc (Nat.le_refl _) _
  have k0 := Blk.new w 46 #[.int .i64 o.do_, .int .i64 o.n, .int .i64 o.k, .slice Ar o.rec_.length dr, .slice Ac mc dc, .slice Au o.cuts.length du]
  rw [← hw0] at k0
  have h0 := (h.below hb0).atG
  have HB0 := Lib.hid hb0
  have H0 := Lib.hid h0
  have c0 : w0.cell? ⟨wp, 0, none⟩ = some (.pointer (some ⟨p, 0, none⟩)) := h0.blk.cell 0
  have c3 : w0.cell? ⟨wp, 3, none⟩ = some (.slice Am nm dm) := by rw [hnm]; exact h0.blk.cell 3
  have e0 : w0.cell? ⟨w.heap.size, 0, none⟩ = some (.int .i64 o.do_) := k0.cell 0
  clear ho hs hw0 hb0 k0 h0 h hn hmo hnm
  go_enter Tryz.func19, Tryz.ntmps19
  go_upto_region 1 with fail
  rw [← HW0.out]
  go_wp2_with fail
  refine (dk_ops w0 Fl p n s.x H0.out.log.dk).mono ?_
  rintro e w' ⟨rfl, hw'⟩
  subst hw'
  go_wp2_with fail
  refine (keepwithin_any o.do_ 7 w' (by decide) (by decide)).mono ?_
  rintro e w1 ⟨rfl, hw1⟩
  subst hw1
  rw [hd]
  clear e0 hd
  by_cases h0 : nm = 0
  · have hmay : s.may = [] := List.eq_nil_of_length_eq_zero (by rw [← HNM.out]; exact h0)
    subst h0
    have HMAY := Lib.hid hmay
    clear hmay
    go_wp2_with fail
    refine (opened_any w' _ _ wp n k s s { s with fl := false } lp p _ vc _ vs H0.out (by omega) HS.out.unfail (by omega) ⟨rfl, HMAY.out, rfl⟩ false (HS.out.cS.mono (by omega)) (fun l hl => (HS.out.mS l hl).mono (by omega)) (by have := HS.out.mL; omega) (.inl rfl)).mono ?_
    rintro e w6 ⟨rfl, hp6⟩
    have HP6 := Lib.hid hp6
    clear hp6
    go_wp2
    go_ret
    exact ⟨rfl, { s with fl := false }, HP6.out.chain ((Chg.refl F w).below HB0.out (Nat.le_refl _)) (fun y hy => .inl hy) (by have := HN.out; omega), HS.out.unfail.mono (Nat.le_succ _), rfl, rfl⟩
  · have hne : decide (nm = 0) = false := decide_eq_false h0
    go_wp2
    go_ret
    have hb0 := HB0.out
    exact ⟨rfl, s, ⟨F, fun y hy => .inl hy, ⟨_, _, _, _, _, _, _, H0.out.mono (by have := HN.out; omega)⟩, (Chg.refl F w).below hb0 (Nat.le_refl _)⟩, HS.out.mono (Nat.le_succ _), rfl, rfl⟩
/-- whatever happens -/
theorem does_any (w : World) (F H : Nat → Prop) (wp k : Nat) (s : LS) (o : OpL) (vr vrs vcu : Value) (h : WAt w F wp (107 * k) s) (hk : k ≤ 89) (hs : s.Ok k) (ho : OpVal w H o vr vrs vcu) (hH : ∀ y, H y → ¬ F y) :
    Calls Tryz.prog 19 #[.pointer (some ⟨wp, 0, none⟩), .agg #[.int .i64 o.do_, .int .i64 o.n, .int .i64 o.k, vr, vrs, vcu]] w (DoesPost w F wp k (fun _ => True)) := by
  have hm : o.do_ % 7 = 0 ∨ o.do_ % 7 = 1 ∨ o.do_ % 7 = 2 ∨ o.do_ % 7 = 3 ∨ o.do_ % 7 = 4 ∨ o.do_ % 7 = 5 ∨ o.do_ % 7 = 6 := by omega
  have weak : ∀ {T : LS → Prop} (e : Ending) (w' : World), DoesPost w F wp k T e w' → DoesPost w F wp k (fun _ => True) e w' := fun e w' ⟨h1, s', h2, h3, _⟩ => ⟨h1, s', h2, h3, trivial⟩
  rcases hm with hd | hd | hd | hd | hd | hd | hd
  · exact (does_app w F H wp k s o vr vrs vcu h hk hs ho hH (.inl hd)).mono weak
  · exact (does_app w F H wp k s o vr vrs vcu h hk hs ho hH (.inr hd)).mono weak
  · exact (does_check w F H wp k s o vr vrs vcu h hk hs ho hd).mono weak
  · exact (does_fault w F H wp k s o vr vrs vcu h hk hs ho hd).mono weak
  · exact (does_stop w F H wp k s o vr vrs vcu h hk hs ho hd).mono weak
  · exact (does_crash w F H wp k s o vr vrs vcu h hk hs ho hd).mono weak
  · exact (does_open w F H wp k s o vr vrs vcu h hk hs ho hd).mono weak
end Go.Proofs.YtfchnpdgnhoffaaGreatDoor
namespace Go.Proofs.YtfchnpdgnhoffaaGreatDoor
open Go.RowKit Go.Shelf Go.Maps

/-! ### a new one -/
def ls0 (cap : Int) : LS := { x := emptyP cap, N := 0, E := fun _ => none, c := [], last := 0, may := [], struck := [], stop := -1, fl := false }
theorem says0 (m : Nat) : Says [] 0 [] (fun _ => none) m := ⟨(fun y hy => by cases hy), fun _ _ _ _ => rfl, (fun n e h => by cases h)⟩
theorem tell0 : ∀ m, tell (fun _ => none) m = ([], 0)
  | 0 => rfl
  | m + 1 => tell0 m
theorem ls0_ok : (ls0 1073741824).Ok 0 :=
  ⟨⟨says0 0, rfl, (fun d hd => by cases hd), Nat.zero_le _, (fun y hy => by cases hy), Nat.le_refl _, rfl, rfl, empty_pc _⟩, ⟨(fun f hf => by cases hf), .inl ⟨rfl, rfl⟩⟩, List.Pairwise.nil, Nat.le_refl _, ⟨Nat.zero_le _, (fun b hb => by cases hb)⟩, fun l hl => (by cases hl), Nat.le_refl _, Nat.le_refl _, fun t ht => (by cases ht), ⟨Int.le_refl _, by show (-1 : Int) ≤ 0 + 11; decide⟩⟩
def BegunPost (w : World) (e : Ending) (w' : World) : Prop := ∃ wp, e = .returned (.pointer (some ⟨wp, 0, none⟩)) ∧ w.heap.size ≤ wp ∧ WAt w' (fun y => w.heap.size ≤ y ∧ y < w'.heap.size) wp 0 (ls0 1073741824) ∧ Below w.heap.size w w'
set_option maxRecDepth 100000 in
set_option maxHeartbeats 6400000 in
theorem begun_any (w : World) (hS : SynW w) : Calls Tryz.prog 9 #[] w (BegunPost w) := by
  have HS := Lib.hid hS
  have h0w := hS.lt
  clear hS
  go_enter Tryz.func9, Tryz.ntmps9
  go_wp2_with fail
  refine (dk_new 1073741824 w (by decide)).mono ?_
  rintro e w1 ⟨p, rfl, hd, hb1⟩
  have HD := Lib.hid (show Dk w1 (fun k => w.heap.size ≤ k ∧ k < w1.heap.size) p 0 (emptyP 1073741824) from hd)
  have HB1 := Lib.hid hb1
  have hs1 := hb1.size
  clear hd hb1
  go_wp2_with fail
  refine (open_any w1 _ p 0 (emptyP 1073741824) 0 1 (fun _ => none) [] 0 HD.out (by omega) (fun k hk => hk.2) (HS.out.below HB1.out h0w) (says0 1) (by omega) (fun n e h => by cases h) (fun y hy => by cases hy) (tell0 1) ⟨Nat.zero_le _, fun b hb => by cases hb⟩).mono ?_
  rintro e w2 ⟨lp, v, mid, rfl, hlp, hm1, hm2, hlog, hv, hb2⟩
  have hs2 := hb2.size
  obtain ⟨A, d, us, hve, -⟩ := hv.at_.read
  subst hve
  have hl0 : ([] : List Rec).length = 0 := rfl
  rw [hl0]
  have HLG := Lib.hid hlog
  have HB2 := Lib.hid hb2
  clear hlp hv hlog hb2 hl0
  go_wp2
  go_ret
  have hba : Below w2.heap.size w2 (w2.alloc (.cells #[.pointer (some ⟨p, 0, none⟩), .pointer (some ⟨lp, 0, none⟩), .slice none 0 0, .slice none 0 0, .slice none 0 0, .int .i64 (-1)] 32)) := (Below.refl _ w2).alloc (Nat.le_refl _) _
  have hbw : Below w.heap.size w (w2.alloc (.cells #[.pointer (some ⟨p, 0, none⟩), .pointer (some ⟨lp, 0, none⟩), .slice none 0 0, .slice none 0 0, .slice none 0 0, .int .i64 (-1)] 32)) := (HB1.out.trans (HB2.out.mono hs1)).trans (hba.mono (by omega))
  refine ⟨w2.heap.size, rfl, by omega, ⟨fun _ => False, lp, p, fun k => w.heap.size ≤ k ∧ k < w2.heap.size, .slice none 0 0, .slice none 0 0, .slice none 0 0, ?_⟩, hbw⟩
  exact {
    log := (HLG.out.below hba).mono (fun k hk => by rcases hk with ⟨h1, h2⟩ | ⟨h1, h2⟩ <;> exact ⟨by omega, by omega⟩) (Nat.le_refl _)
    blk := Blk.new w2 32 _
    cont := (RecsAt.nil _ _).read
    may := MayAt.nil _ _
    struck := World.ownsRow_nil _ _ _ _
    own := ⟨by omega, by rw [World.size_alloc]; omega⟩
    far := fun h => by omega
    sub := fun y hy => ⟨hy.1, by rw [World.size_alloc]; omega⟩
    mayF := fun y e => by cases e
    strF := fun y e => by cases e
    disj := fun y hy => hy.elim
    lt := fun y hy => hy.2
    syn := HS.out.below hbw h0w
    no0 := fun h => by omega }

/-! ### a record, and a crash -/
def ent1 : Ent := ⟨false, [[97]]⟩
def x5 (b : Rec) : PS := { cap := 1048576, files := [(b, b.length)], dir := [(nameL 1, 0)], kept := [(nameL 1, 0)], pend := [], flts := [], stop := -1, count := 5 }
theorem commit_wake (b : Rec) (hb : b.length ≤ 1000) : commitP (emptyP 1048576) b 1 = (0, x5 b) := by
  have e1 : dB.data.toList = draftL := nmBA_data _
  have e2 : rightB dB = true := draft_right
  have e3 : (nB 1).data.toList = nameL 1 := nmBA_data _
  have e4 : rightB (nB 1) = true := nameL_right ⟨1, by decide⟩
  have e5 : draftL ≠ nameL 1 := fun e => nameL_draft _ e.symm
  have e6 : ∀ z : PS, z.stop = -1 → z.flts = [] → z.beginC.1 = 0 ∧ z.beginC.2 = 0 := fun z h1 h2 => by unfold PS.beginC; rw [h1, h2]; exact ⟨rfl, rfl⟩
  have hcl : clearP (emptyP 1048576) = (0, emptyP 1048576) := rfl
  let x1 : PS := { cap := 1048576, files := [([], 0)], dir := [(draftL, 0)], kept := [], pend := [⟨1, [], draftL, 0⟩], flts := [], stop := -1, count := 1 }
  have hc : (emptyP 1048576).create dB = (0, x1) := by
    unfold PS.create
    rw [if_pos (e6 _ rfl rfl).1, e2, e1]
    rfl
  let x2 : PS := { x1 with files := [(b, 0)], count := 2 }
  have hd0 : ∀ f, dget [(draftL, f)] draftL = some f := fun f => by simp [dget]
  have ha : x1.append dB b = (0, x2) := by
    have hf : x1.fits dB b.length = 0 := by
      unfold PS.fits
      rw [if_pos e2, e1, show dget x1.dir draftL = some 0 from hd0 0]
      refine if_pos (.inr ?_)
      show (b.length : Int) ≤ 1048576 - ((0 : Nat) : Int)
      omega
    unfold PS.append
    rw [if_pos (e6 x1 rfl rfl).1, hf, if_pos rfl, e1]
    unfold PS.addTo
    rw [show dget x1.begun.dir draftL = some 0 from hd0 0]
    rfl
  let x3 : PS := { x1 with files := [(b, b.length)], count := 3 }
  have hs : x2.sync dB = (0, x3) := by
    unfold PS.sync
    rw [if_pos (e6 x2 rfl rfl).1, if_pos e2, e1, show dget x2.dir draftL = some 0 from hd0 0]
    rfl
  let x4 : PS := { x3 with dir := [(nameL 1, 0)], pend := [⟨1, [], draftL, 0⟩, ⟨2, draftL, nameL 1, 0⟩], count := 4 }
  have hr : x3.rename dB (nB 1) = (0, x4) := by
    unfold PS.rename
    rw [if_pos (e6 x3 rfl rfl).1, if_pos ⟨e2, e4⟩, e1, e3, show dget x3.dir draftL = some 0 from hd0 0]
    simp only [if_neg e5]
    have h9 : ddel (ddel [(draftL, 0)] draftL) (nameL 1) = [] := by simp [ddel]
    show ((0 : Int), ({ x3.begun with dir := ddel (ddel [(draftL, 0)] draftL) (nameL 1) ++ [(nameL 1, 0)], pend := x3.begun.pend ++ [⟨2, draftL, nameL 1, 0⟩] } : PS)) = (0, x4)
    rw [h9]
    rfl
  have hy : x4.syncDir = (0, x5 b) := by
    unfold PS.syncDir
    rw [if_pos (e6 x4 rfl rfl).1]
    rfl
  have ok : ∀ (y : PS) (f : PS → Int × PS), andP (0, y) f = f y := fun y f => if_pos rfl
  unfold commitP
  rw [hcl, ok, hc, ok, ha, ok, hs, ok, hr, ok]
  exact hy
def E1 (n : Nat) : Option Ent := if n = 1 then some ent1 else none
theorem says1 (b : Rec) (hb : b = entL ent1 1) (cs : List Int) : Says ((x5 b).crash cs).files 1 ((x5 b).crash cs).dir E1 1 ∧ ((x5 b).crash cs).kept = [(nameL 1, 0)] := by
  have hp : (x5 b).crashDir cs = [(nameL 1, 0)] := by
    unfold PS.crashDir
    show (([] : List RC).take _).foldl rdo [(nameL 1, 0)] = _
    rw [List.take_nil]
    rfl
  have hd : ((x5 b).crash cs).dir = [(nameL 1, 0)] := hp
  have hf : ((x5 b).crash cs).files[0]? = some (b, b.length) := by
    unfold PS.crash
    exact cuts_whole _ _ _ rfl
  rw [hd]
  refine ⟨⟨fun y hy => .inr ⟨1, by decide, by decide, by rw [List.mem_singleton.1 hy]⟩, fun n h1 h2 h3 => ?_, fun n e h => ?_⟩, hp⟩
  · have : n = 1 := by omega
    rw [this] at h3
    cases h3
  · unfold E1 at h
    split at h
    · rename_i h1
      injection h with h
      subst h1 h
      exact ⟨Nat.le_refl _, Nat.le_refl _, 0, by simp [dget], by decide, by rw [hf, hb], .inr rfl⟩
    · cases h
theorem crash_bytes (b : Rec) (hb : b.length ≤ 1000) (cs : List Int) : ∀ y ∈ ((x5 b).crash cs).files, y.1.length ≤ 50000 := fun y hy => (cut_all _ 50000 _ _ (fun z hz => by
  rw [List.mem_singleton.1 (show z ∈ [(b, b.length)] from hz)]
  exact ⟨by show b.length ≤ 50000; omega, Nat.le_refl _⟩) y hy).1
set_option maxRecDepth 100000 in
set_option maxHeartbeats 12800000 in
theorem wakes_any (w : World) (hS : SynW w) : Calls Tryz.prog 18 #[] w fun e w' => e = .returned (.bool true) ∧ Below w.heap.size w w' := by
  have HS := Lib.hid hS
  have h0w := hS.lt
  obtain ⟨b, hb⟩ : ∃ b, b = entL ent1 1 := ⟨_, rfl⟩
  have hbl : b.length ≤ 1000 := by rw [hb]; have := entL_len ent1 1 1 (fun y hy => by rw [List.mem_singleton.1 (show y ∈ [[97]] from hy)]; decide); change _ ≤ (1 + 4) * 1 + 21 at this; omega
  have HBE := Lib.hid hb
  clear hS hb
  go_enter Tryz.func18, Tryz.ntmps18
  go_wp2_with fail
  refine (dk_new 1048576 w (by decide)).mono ?_
  rintro e w1 ⟨p, rfl, hd, hb1⟩
  have HD := Lib.hid (show Dk w1 (fun k => w.heap.size ≤ k ∧ k < w1.heap.size) p 0 (emptyP 1048576) from hd)
  have HB1 := Lib.hid hb1
  have hs1 := hb1.size
  clear hd hb1
  go_wp2_with fail
  refine (open_any w1 _ p 0 (emptyP 1048576) 0 1 (fun _ => none) [] 0 HD.out (by omega) (fun k hk => hk.2) (HS.out.below HB1.out h0w) (says0 1) (by omega) (fun n e h => by cases h) (fun y hy => by cases hy) (tell0 1) ⟨Nat.zero_le _, fun b hb => by cases hb⟩).mono ?_
  rintro e w2 ⟨lp, v, mid, rfl, hlp, hm1, hm2, hlog, hv, hb2⟩
  have hs2 := hb2.size
  obtain ⟨A, d, us, hve, -⟩ := hv.at_.read
  subst hve
  have hl0 : ([] : List Rec).length = 0 := rfl
  rw [hl0]
  have HLG := Lib.hid hlog
  have HB2 := Lib.hid hb2
  have hcv := Lib.run_convert_bytes_const (P := Tryz.prog) w2 25 5 #[.int .u8 97] 1 1 Tryz.underlying25 Tryz.underlying5
  clear hlp hv hlog hb2 hl0
  go_wp2_with fail
  obtain ⟨w3, hw3⟩ : ∃ w3, w2.alloc (.cells #[.int .u8 97] 5 (1, 2)) = w3 := ⟨_, rfl⟩
  rw [hw3]
  have hb3 : Below w2.heap.size w2 w3 := by rw [← hw3]; exact (Below.refl _ w2).alloc (Nat.le_refl _) _
  have hs3 : w3.heap.size = w2.heap.size + 1 := by rw [← hw3]; simp
  have hR3 : ByR w3 (fun y => y = w2.heap.size) (.slice (some ⟨w2.heap.size, 0, none⟩) 1 1) [97] := by
    refine ⟨_, 1, rfl, Nat.le_refl _, ⟨rfl, fun _ => ⟨_, rfl, by show w2.heap.size < _; omega, fun j u hu => ?_⟩⟩, fun ad e _ => by injection e with e; rw [← e]⟩
    have e : (⟨w2.heap.size, 0, none⟩ : Addr).add j = ⟨w2.heap.size, j, none⟩ := by unfold Addr.add; split <;> simp_all
    rw [e, ← hw3, World.cell?_alloc_mark, ← Array.getElem?_toList]
    exact hu
  have HCW := Lib.hid (show commitP (emptyP 1048576) (entL ⟨false, [[97]]⟩ (0 + 1)) (0 + 1) = (0, x5 b) from by rw [← commit_wake b hbl, HBE.out]; rfl)
  have HR3 := Lib.hid hR3
  have HB3 := Lib.hid hb3
  have hL9 : (entL ⟨false, [[97]]⟩ (0 + 1)).length ≤ 90000 := by have : (entL ⟨false, [[97]]⟩ (0 + 1)).length = b.length := by rw [HBE.out]; rfl
                                                                 omega
  have HL9 := Lib.hid hL9
  clear hw3 hb3 hR3 hcv hL9
  refine (log_append [97] (.slice (some ⟨w2.heap.size, 0, none⟩) 1 1) (fun y => y = w2.heap.size) w3 _ lp p 0 (emptyP 1048576) [] 0 false (HLG.out.below HB3.out) (fun y hy => by rcases hy with ⟨h1, h2⟩ | ⟨h1, h2⟩ <;> omega) (by omega) (by omega) ⟨Nat.zero_le _, (fun b hb => by cases hb)⟩ HR3.out (fun y hy hf => by rcases hf with ⟨h1, h2⟩ | ⟨h1, h2⟩ <;> omega) HL9.out (by decide)).mono ?_
  rintro e w4 ⟨rfl, hlog, hch⟩
  rw [HCW.out] at hlog ⊢
  dsimp only at hlog ⊢
  have hs4 := hch.size
  have hb4 : Below w.heap.size w w4 := ((HB1.out.trans (HB2.out.mono hs1)).trans (HB3.out.mono (by omega))).trans (hch.toBelow (B := w.heap.size) (fun k hk => by rcases hk with ⟨h1, h2⟩ | ⟨h1, h2⟩ <;> omega) (by omega))
  have hdk := hlog.dk
  have HDK := Lib.hid hdk
  have HB4 := Lib.hid hb4
  have hF4 : ∀ y, New (fun k => (w.heap.size ≤ k ∧ k < w1.heap.size) ∨ (w1.heap.size ≤ k ∧ k < mid)) w3 w4 y → w.heap.size ≤ y ∧ y < w4.heap.size := fun y hy => by
    rcases hy with (⟨h1, h2⟩ | ⟨h1, h2⟩) | ⟨h1, h2⟩ <;> omega
  have HF4 := Lib.hid hF4
  clear hlog hch hb4 hdk hF4
  go_wp2_with fail
  refine (dk_crash w4 _ p (0 + 6) (x5 b) none 0 0 [] rfl HDK.out (by omega) ⟨rfl, fun h => absurd h (by decide)⟩ (Nat.le_refl _)).mono ?_
  rintro e w5 ⟨rfl, hd5, hc5⟩
  have hs5 := hc5.size
  have hb5 := HB4.out.trans (hc5.toBelow (B := w.heap.size) (fun k hk => (HF4.out k hk).1) (by omega))
  have HB5 := Lib.hid hb5
  have HD5 := Lib.hid hd5
  have hsay := says1 b HBE.out []
  have HSAY := Lib.hid hsay
  clear hd5 hc5 hb5 hsay
  go_wp2_with fail
  refine (open_any w5 _ p (0 + 6 + 1) ((x5 b).crash []) 1 1 E1 [[97]] 1 HD5.out (by omega) (fun k hk => hk.2) (HS.out.below HB5.out h0w) HSAY.out.1 (by omega) (fun n e h => ?_) (crash_bytes b hbl []) rfl ⟨by decide, fun y hy => by rw [List.mem_singleton.1 hy]; decide⟩).mono ?_
  case refine_1 =>
    rw [HSAY.out.2]
    unfold E1 at h
    split at h
    · rename_i h1
      rw [h1]
      simp [dget]
    · cases h
  rintro e w6 ⟨lp6, v6, mid6, rfl, hlp6, hm61, hm62, -, hv6, hb6⟩
  have HB6 := Lib.hid (HB5.out.trans (hb6.mono HB5.out.size))
  obtain ⟨A6, d6, us6, hve6, hd6, hR6, hG6, hr6⟩ := hv6.at_.read
  subst hve6
  obtain ⟨ad, hA6, hg6, hcell6⟩ := hR6.2 (by decide)
  subst hA6
  have hul : us6.length = 1 := hR6.1
  obtain ⟨Ay, dy, hy, hdy, hRy, -⟩ := hr6 0 us6[0] [97] (List.getElem?_eq_getElem (by omega)) rfl
  have e0 : w6.cell? ad = some (.slice Ay 1 dy) := by
    have h9 := hcell6 0 _ (by rw [List.getElem?_eq_getElem (by omega), hy])
    rwa [show ad.add 0 = ad from by
      obtain ⟨g, o, sp⟩ := ad
      unfold Addr.add
      split <;> simp_all] at h9
  have j1 : (convert 25 9 (.slice Ay 1 dy)).run Tryz.prog w6 = .ok (.string ⟨#[97]⟩) w6 := run_str_reads dy hRy
  have l1 : ([[97]] : List Rec).length = 1 := rfl
  rw [l1]
  clear hlp6 hv6 hb6 hR6 hG6 hr6 hcell6 hul hy hRy l1
  go_wp2
  go_ret
  exact ⟨rfl, HB6.out⟩
end Go.Proofs.YtfchnpdgnhoffaaGreatDoor
namespace Go.Proofs.YtfchnpdgnhoffaaGreatDoor
open Go.RowKit

/-- what a round keeps: the rows of records, and the bytes that it was not told -/
def KpE (u : Value) (A B : World) : Prop := ∀ k, (IsT A k 25 ∨ (IsT A k 5 ∧ u.ownBlock ≠ some k)) → B.heap[k]? = A.heap[k]?
/-- the iterator's contract -/
def SeqE (F : Fence) (n : Nat) (P : Program) (g : Nat) (lb : Array Value) (encs : Nat × Value → Array Value) (Ph : Nat → List (Nat × Value) → Nat × Value → World → Prop) (N : Nat) (w0 : World) : Prop :=
  ∀ (l : Nat) (J Jx : List (Nat × Value) → World → Prop) (W : World), Below w0.heap.size w0 W →
    (∀ s A B, J s A → Below A.heap.size A B → J s B) →
    (∀ pre x W1, J pre W1 → Ph W.heap.size pre x W1 → W.heap.size ≤ W1.heap.size → YieldAt F (n - 1) P l (encs x) W1 fun e W' =>
      (e = .returned (.bool true) ∧ J (pre ++ [x]) W' ∧ W1.heap.size ≤ W'.heap.size ∧ KpE x.2 W1 W') ∨ (e = .returned (.bool false) ∧ Jx (pre ++ [x]) W')) →
    J [] W →
    CallsIn F n P g (#[.func (.yield l) #[] #[]] ++ lb) W fun e W' => (∃ v, e = .returned v) ∧ ((∃ xs : List (Nat × Value), xs.length = N ∧ J xs W') ∨ ∃ pre, Jx pre W')

/-- how the body of a round may be left -/
def ownPostE (K : Nat → Prop) (u : Value) (I : List (Nat × Value) → World → Prop) (Ix : Code → List (Nat × Value) → World → Prop) (xs : List (Nat × Value)) (W : World) : Exit → Act → World → Prop
  | .normal, _, W' => W.heap.size ≤ W'.heap.size ∧ (∀ k, K k → W'.heap[k]? = W.heap[k]?) ∧ KpE u W W' ∧ I xs W'
  | .ret, _, W' => W.heap.size ≤ W'.heap.size ∧ (∀ k, K k → W'.heap[k]? = W.heap[k]?) ∧ Ix .ret xs W'
  | .exit id, _, W' => W.heap.size ≤ W'.heap.size ∧ (∀ k, K k → W'.heap[k]? = W.heap[k]?) ∧ Ix (.exit id) xs W'
  | .goto t, _, W' => W.heap.size ≤ W'.heap.size ∧ (∀ k, K k → W'.heap[k]? = W.heap[k]?) ∧ Ix (.goto t) xs W'
  | .panic _, _, _ => False
  | .outgrown, _, _ => False

variable {F : Fence} {n : Nat} {P : Program}

theorem wpIn_rangeFunc_e {g : Operand} {ps : Array Tmp} {assign body : Code} {Q : Exit → Act → World → Prop} {a : Act} {w : World}
    (hro : F.round = none) (h1 : 1 ≤ n) {gf : Nat} {lb : Array Value} (hg : a.eval g = .func (.func gf) #[] lb) (hFg : F.fn gf) (eg : ∀ args w, (callFunc gf args).run P w = .ok (.enter gf args) w)
    {encs : Nat × Value → Array Value} {Ph : Nat → List (Nat × Value) → Nat × Value → World → Prop} {N : Nat} {w0 : World} (hseq : SeqE F (n - 1) P gf lb encs Ph N w0) (hb0 : Below w0.heap.size w0 w) (hps : ∀ x, (encs x).size = ps.size)
    (hPh : ∀ b pre x A B r, Ph b pre x A → A.grownBy B (some r) → r < b → Ph b pre x B)
    (I : List (Nat × Value) → World → Prop) (Ix : Code → List (Nat × Value) → World → Prop)
    (hIb : ∀ s A B, I s A → Below A.heap.size A B → I s B)
    (hI : ∀ s A B r, I s A → A.grownBy B (some r) → (w.heap.size ≤ r ∧ r ≤ w.heap.size + 1) → I s B)
    (hIx : ∀ c s A B r, Ix c s A → A.grownBy B (some r) → (w.heap.size ≤ r ∧ r ≤ w.heap.size + 1) → Ix c s B)
    (h0 : I [] w) (a₁ : Nat × Value → Act)
    (hassign : ∀ (l : Nat) (x : Nat × Value) (W : World) (K : Act → World → Prop), K (a₁ x) W →
      assign.wpIn (F.inRound l) (n - 1 - 1) P (Exit.then K (fun _ _ _ => False)) { tmps := (ps.zip (encs x)).foldl (fun t (p, v) => t.setIfInBounds p v) a.tmps, defers := [] } W)
    (hbody : ∀ (l : Nat) (pre : List (Nat × Value)) (x : Nat × Value) (W : World), I pre W → Ph (w.heap.size + 2) pre x W → w.heap.size + 2 ≤ W.heap.size →
      body.wpIn (F.inRound l) (n - 1 - 1) P (ownPostE (fun k => w.heap.size ≤ k ∧ k ≤ w.heap.size + 1) x.2 I Ix (pre ++ [x]) W) (a₁ x) W)
    (hdone : ∀ (xs : List (Nat × Value)) (W : World), xs.length = N → I xs W → W.heap[w.heap.size]? = some (.deferred (some [])) → Q .normal { a with defers := { target := .collected w.heap.size, args := #[] } :: a.defers } W)
    (hstop : ∀ (c : Code) (pre : List (Nat × Value)) (W : World), Ix c pre W → W.heap[w.heap.size]? = some (.deferred (some [])) → c.wpIn F n P Q { a with defers := { target := .collected w.heap.size, args := #[] } :: a.defers } W) :
    (Code.rangeFunc g ps assign body).wpIn F n P Q a w := by
  refine wpIn_rangeFunc ?_
  intro fn hfn
  rw [hro]
  obtain ⟨rec, hrec⟩ : ∃ rec : LoopState → Option Code → Loop, rec = fun st pe => { state := st, pending := pe, fn, tmps := a.tmps, params := ps, assign, body, defers := w.heap.size } := ⟨_, rfl⟩
  obtain ⟨W1, hW1⟩ : ∃ W1, (w.alloc (.deferred (some []))).alloc (.loop (rec .ready none)) = W1 := ⟨_, rfl⟩
  have hsz : W1.heap.size = w.heap.size + 2 := by rw [← hW1]; simp
  have hL1 : W1.heap[w.heap.size + 1]? = some (.loop (rec .ready none)) := by
    rw [← hW1]; have := World.alloc_heap_new (w.alloc (.deferred (some []))) (.loop (rec .ready none)); rwa [World.size_alloc] at this
  have hK1 : W1.heap[w.heap.size]? = some (.deferred (some [])) := by
    rw [← hW1]; exact (Below.heap_alloc _ _ _ (by simp)).trans (World.alloc_heap_new w _)
  have hI1 : I [] W1 := by
    refine hIb [] w W1 h0 ?_
    rw [← hW1]
    exact ((Below.refl _ w).alloc (Nat.le_refl _) _).alloc (by simp) _
  have hb1 : Below w0.heap.size w0 W1 := by
    rw [← hW1]; exact hb0.trans ((((Below.refl _ w).alloc (Nat.le_refl _) _).alloc (by simp) _).mono hb0.size)
  have hput : ∀ (W : World) (o : Obj), W.grownBy (W.putObj (w.heap.size + 1) o) (some (w.heap.size + 1)) := fun W o => grownBy_putObj' W _ o
  refine ⟨w.heap.size + 1, [{ target := .collected w.heap.size, args := #[] }], W1, { target := .fn (.func gf) lb, args := #[.func (.yield (w.heap.size + 1)) #[] #[]] }, W1, gf,
    #[.func (.yield (w.heap.size + 1)) #[] #[]] ++ lb, W1, ?_, ?_, ?_, ?_, fun _ => h1, ?_⟩
  · rw [← hW1, hrec]; exact run_enterLoop_outer _ _ _ _ _
  · simp only [resolve, hg]
    simp [go_sem]
  · intro f' hf'; simp [Target.leads] at hf'; subst hf'; exact hFg
  · simp [invoke, go_sem, eg]
  · refine (hseq (w.heap.size + 1)
      (fun pre W => I pre W ∧ W.heap[w.heap.size + 1]? = some (.loop (rec .ready none)) ∧ W.heap[w.heap.size]? = some (.deferred (some [])))
      (fun pre W => ∃ c, Ix c pre W ∧ W.heap[w.heap.size + 1]? = some (.loop (rec .done (some c))) ∧ W.heap[w.heap.size]? = some (.deferred (some [])))
      W1 hb1
      (fun s A B hs hb' => ⟨hIb s A B hs.1 hb', (hb'.block _ (Array.getElem?_eq_some_iff.1 hs.2.1).1).trans hs.2.1, (hb'.block _ (Array.getElem?_eq_some_iff.1 hs.2.2).1).trans hs.2.2⟩)
      ?_ ⟨hI1, hL1, hK1⟩).mono ?_
    · rintro pre x W ⟨hi, hl, hk⟩ hpre hbig
      rw [hsz] at hpre
      have hlt : w.heap.size + 1 < W.heap.size := (Array.getElem?_eq_some_iff.1 hl).1
      have hy := run_yield (P := P) (args := encs x) hl (by rw [hrec]; exact hps x)
      rw [hrec] at hy
      refine ⟨fn, _, assign, body, hy, roundIn_of_wpIn hfn (hassign _ x W _ ⟨_, run_beginRound hl (by rw [hrec]), ?_⟩)⟩
      obtain ⟨W2, hW2⟩ : ∃ W2, W.putObj (w.heap.size + 1) (.loop { rec .ready none with state := .busy }) = W2 := ⟨_, rfl⟩
      have hl2 : W2.heap[w.heap.size + 1]? = some (.loop { rec .ready none with state := .busy }) := by rw [← hW2]; exact World.putObj_heap_same hlt
      have hg2 : W.grownBy W2 (some (w.heap.size + 1)) := by rw [← hW2]; exact hput _ _
      have hk2 : W2.heap[w.heap.size]? = some (.deferred (some [])) := (hg2.block _ (by omega) (by simp)).trans hk
      rw [hW2]
      have hnot : ∀ {W' : World} {k : Nat} {t : TypeId} {lp : Loop}, IsT W' k t → W'.heap[w.heap.size + 1]? = some (.loop lp) → k ≠ w.heap.size + 1 := fun h1 h2 e => by
        obtain ⟨cs, fr, h3⟩ := h1
        subst e
        rw [h2] at h3
        cases h3
      refine wpIn_mono (hbody _ pre x W2 (hI _ _ _ _ hi hg2 ⟨by omega, by omega⟩) (hPh _ _ _ _ _ _ hpre hg2 (by omega)) (by have := hg2.size; omega)) ?_
      have fin : ∀ (jump : Option Code) (W3 : World), W2.heap.size ≤ W3.heap.size → (∀ k, w.heap.size ≤ k ∧ k ≤ w.heap.size + 1 → W3.heap[k]? = W2.heap[k]?) →
          ∃ W4, (Instr.endRound (w.heap.size + 1) jump).run P W3 = .ok (.bool jump.isNone) W4 ∧ W3.grownBy W4 (some (w.heap.size + 1)) ∧
          W4.heap[w.heap.size + 1]? = some (.loop (rec (if jump.isNone then .ready else .done) jump)) ∧ W4.heap[w.heap.size]? = some (.deferred (some [])) ∧
          (KpE x.2 W2 W3 → KpE x.2 W W4) ∧ W.heap.size ≤ W4.heap.size := fun jump W3 hs3 hk3 => by
        have hl3 := (hk3 (w.heap.size + 1) ⟨by omega, by omega⟩).trans hl2
        have h03 := (hk3 w.heap.size ⟨by omega, by omega⟩).trans hk2
        have := run_endRound (P := P) jump hl3
        rw [hrec] at this
        refine ⟨_, this, grownBy_putObj' _ _ _, ?_, (World.putObj_heap_other (by omega)).trans h03, fun hkp k hk' => ?_, ?_⟩
        · rw [hrec]; exact World.putObj_heap_same (Array.getElem?_eq_some_iff.1 hl3).1
        · have hne : k ≠ w.heap.size + 1 := hk'.elim (fun h => hnot h hl) fun h => hnot h.1 hl
          have hltk : k < W.heap.size := hk'.elim (fun h => h.lt) fun h => h.1.lt
          have e2 := hg2.block k hltk (by simpa using hne)
          exact (World.putObj_heap_other hne).trans ((hkp k (hk'.imp (fun h => h.keep e2) fun h => ⟨h.1.keep e2, h.2⟩)).trans e2)
        · have := (grownBy_putObj' W3 (w.heap.size + 1) (.loop ((fun st pe => ({ state := st, pending := pe, fn, tmps := a.tmps, params := ps, assign, body, defers := w.heap.size } : Loop)) (if jump.isNone then .ready else .done) jump))).size
          exact Nat.le_trans hg2.size (Nat.le_trans hs3 this)
      rintro e a3 W3 hp
      cases e with
      | normal =>
        obtain ⟨hs3, hk3, hp3, hi3⟩ := hp
        obtain ⟨W4, hr, hg4, hl4, h04, hke, hsz4⟩ := fin none W3 hs3 hk3
        exact ⟨_, _, hr, .inl ⟨rfl, ⟨hI _ _ _ _ hi3 hg4 ⟨by omega, by omega⟩, hl4, h04⟩, hsz4, hke hp3⟩⟩
      | ret =>
        obtain ⟨hs3, hk3, hi3⟩ := hp
        obtain ⟨W4, hr, hg4, hl4, h04, hke, hsz4⟩ := fin (some .ret) W3 hs3 hk3
        exact ⟨_, _, hr, .inr ⟨rfl, .ret, hIx _ _ _ _ _ hi3 hg4 ⟨by omega, by omega⟩, hl4, h04⟩⟩
      | exit id =>
        obtain ⟨hs3, hk3, hi3⟩ := hp
        obtain ⟨W4, hr, hg4, hl4, h04, hke, hsz4⟩ := fin (some (.exit id)) W3 hs3 hk3
        exact ⟨_, _, hr, .inr ⟨rfl, .exit id, hIx _ _ _ _ _ hi3 hg4 ⟨by omega, by omega⟩, hl4, h04⟩⟩
      | goto t =>
        obtain ⟨hs3, hk3, hi3⟩ := hp
        obtain ⟨W4, hr, hg4, hl4, h04, hke, hsz4⟩ := fin (some (.goto t)) W3 hs3 hk3
        exact ⟨_, _, hr, .inr ⟨rfl, .goto t, hIx _ _ _ _ _ hi3 hg4 ⟨by omega, by omega⟩, hl4, h04⟩⟩
      | panic ch => exact hp.elim
      | outgrown => exact hp.elim
    · rintro e W2 ⟨⟨v, rfl⟩, (⟨xs, hxs, hi, hl, hk⟩ | ⟨pre, c, hi, hl, hk⟩)⟩
      · exact ⟨none, _, by have := run_endLoop (P := P) hl (by rw [hrec]; simp); rw [hrec] at this; exact this, hdone xs _ hxs (hI _ _ _ _ hi (hput _ _) ⟨by omega, by omega⟩) ((World.putObj_heap_other (by omega)).trans hk)⟩
      · exact ⟨some c, _, by have := run_endLoop (P := P) hl (by rw [hrec]; simp); rw [hrec] at this; exact this, hstop c pre _ (hIx _ _ _ _ _ hi (hput _ _) ⟨by omega, by omega⟩) ((World.putObj_heap_other (by omega)).trans hk)⟩

end Go.Proofs.YtfchnpdgnhoffaaGreatDoor
namespace Go.Proofs.YtfchnpdgnhoffaaGreatDoor
open Go.RowKit Go.Shelf Go.Maps

/-- no two of the rows share their block -/
def Apart (vs : List Value) : Prop := vs.Pairwise fun a b => ∀ k, a.ownBlock = some k → b.ownBlock ≠ some k
def RecsA (w : World) (base : Nat) (v : Value) (l : List Rec) : Prop := ∃ vs, w.ownsRow base 25 1 v l.length vs ∧ VecN w base vs l ∧ Apart vs
def CopR2 (w : World) (l : List Rec) (v i : Value) (wr : World) : Prop :=
  ∃ (k : Nat) (u : Value) (vs : List Value), k ≤ l.length ∧ u = v ∧ i = .int .i64 k ∧ wr.ownsRow w.heap.size 25 1 u k vs ∧ VecN wr w.heap.size vs (l.take k) ∧ Apart vs ∧ Below w.heap.size w wr
set_option maxRecDepth 100000 in
set_option maxHeartbeats 6400000 in
theorem copied2_any (v : Value) (l : List Rec) (G : Nat → Prop) (w : World) (h : RecsR w G v l) (hl : l.length ≤ 10000) (hb : ∀ b ∈ l, b.length ≤ 1000000) :
    Calls Tryz.prog 43 #[v] w fun e w' => ∃ v2, e = .returned v2 ∧ RecsA w' w.heap.size v2 l ∧ Below w.heap.size w w' := by
  obtain ⟨i5, hi5, hz50, hz51, hz52⟩ := info_parts info5
  obtain ⟨i25, hi25, hz250, hz251, hz252⟩ := info_parts info25
  have HI5 := Lib.hid hi5
  have HZ50 := Lib.hid hz50
  have HZ51 := Lib.hid hz51
  have HZ52 := Lib.hid hz52
  have HI25 := Lib.hid hi25
  have HZ250 := Lib.hid hz250
  have HZ251 := Lib.hid hz251
  have HZ252 := Lib.hid hz252
  obtain ⟨A, c, vs0, rfl, hc, hR, hG, hr⟩ := h
  have HR := Lib.hid hR
  have HU := Lib.hid hr
  have HBL := Lib.hid hb
  clear hR hG hr hb hi5 hz50 hz51 hz52 hi25 hz250 hz251 hz252
  obtain ⟨n, hn⟩ : ∃ n, n = l.length := ⟨_, rfl⟩
  rw [← hn] at hl hc HR ⊢
  have HN := Lib.hid hn
  clear hn
  go_enter Tryz.func43, Tryz.ntmps43
  go_wp2_with fail
  go_loopw [3, 8] (fun v i wr => CopR2 w l v i wr) (fun _ i _ => n - (intOf i).toNat)
  case atStart => exact ⟨0, _, [], Nat.zero_le _, rfl, rfl, World.ownsRow_nil _ _ _ _, VecN.nil, List.Pairwise.nil, Below.refl _ _⟩
  case round =>
    obtain ⟨k, u, vs, hk, hu, rfl, ho, hv, hap, hbl⟩ := hrel
    have HAP := Lib.hid hap
    subst hu
    have HO := Lib.hid ho
    have HV := Lib.hid hv
    have HB := Lib.hid hbl
    have hsz := hbl.size
    clear ho hv hbl hap
    have hk : k ≤ n := by rw [HN.out]; exact hk
    by_cases hlt : k < n
    · obtain ⟨ad, rfl, hg, hcell⟩ := HR.out.2 (by omega)
      have hkl : k < l.length := by rw [← HN.out]; exact hlt
      have hvl : k < vs0.length := by have := HR.out.1; omega
      obtain ⟨b, hbe⟩ : ∃ b, b = l[k] := ⟨_, rfl⟩
      have hbl : b.length ≤ 1000000 := HBL.out b (by rw [hbe]; exact List.getElem_mem _)
      obtain ⟨A1, c1, hu1, hc1, hR1, hG1⟩ := HU.out k vs0[k] b (List.getElem?_eq_getElem hvl) (by rw [hbe]; exact List.getElem?_eq_getElem hkl)
      have d0 : wr.cell? (ad.add k) = some (.slice A1 b.length c1) := by
        refine (HB.out.cell (p := ad.add k) (by rw [block_of_add]; exact hg)).trans ?_
        rw [← hu1]
        exact hcell k _ (List.getElem?_eq_getElem hvl)
      have HR1 := Lib.hid ((hR1.below HB.out).more hsz)
      have HT := Lib.hid (show l.take (k + 1) = l.take k ++ [b] by rw [hbe]; exact List.take_succ_eq_append_getElem hkl)
      obtain ⟨A2, d2, hue⟩ := own_slice HO.out
      subst hue
      have hvk : vs.length = k := by have := HO.out.1; omega
      have HVL := Lib.hid hvk
      clear hcell hbe hu1 hc1 hR1 hG1 hkl hvl hvk
      go_wp2_with (first
        | (at_builtin; go_loud (refine wpList_append_any _ rfl (.const (.slice none 0 0)) (.tmp 13) 25 rfl w.heap.size 5 i5 (.int .u8 0) 1 1 Tryz.underlying25 HI5.out HZ50.out HZ51.out HZ52.out rfl (by omega) (.slice none 0 0) 0 [] rfl (World.ownsRow_nil _ _ _ _) wr.heap.size A1 b.length c1 (bytesV b) rfl HR1.out (bytesV_one _) (by simp [maxLen]; omega) (by omega) (by omega) ?_; intro v4 w4 hown4 hgrow4 hor4; have HOR4 := Lib.hid hor4; have HW4 := Lib.hid (show w4.ownsRow w.heap.size 5 1 v4 b.length (bytesV b) by rwa [Nat.zero_add, List.nil_append] at hown4); have HG4 := Lib.hid hgrow4; have hs4 := hgrow4.size; obtain ⟨A4, d4, hv4⟩ := own_slice HW4.out; subst hv4; clear hown4 hgrow4 hor4))
        | (at_builtin; go_loud (refine wpList_append_any _ rfl (.tmp 12) (.tmp 15) 29 rfl w.heap.size 25 i25 (.slice none 0 0) 1 24 Tryz.underlying29 HI25.out HZ250.out HZ251.out HZ252.out rfl (by omega) (.slice A2 k d2) k vs rfl ((own_keep HO.out (fun x _ hx => HG4.out.block x hx (fun e => by cases e))).alloc _) (w4.heap.size + 1) (some ⟨w4.heap.size, 0, none⟩) 1 1 [.slice A4 b.length d4] rfl (reads_new1 _ _ _) (slice_one _ _ _) (by simp [maxLen]; omega) (by omega) (by simp; omega) ?_; intro v5 w5 hown5 hgrow5 _; have HW5 := Lib.hid hown5; have HG5 := Lib.hid hgrow5; have hs5 := hgrow5.size; clear hown5 hgrow5)))
      refine ⟨⟨k + 1, _, vs ++ [.slice A4 b.length d4], by rw [← HN.out]; omega, rfl, by go_num, ?_, ?_, ?_, ?_⟩, by simp [intOf]; omega⟩
      · have := HW5.out
        exact this
      · rw [HT.out]
        have h1 : VecN (w4.alloc (.cells #[Value.slice A4 b.length d4] 25)) w.heap.size (vs ++ [.slice A4 b.length d4]) (l.take k ++ [b]) := ((HV.out.grown HG4.out (fun x e => by cases e)).snoc HW4.out).below ((Below.refl _ w4).alloc (Nat.le_refl _) _)
        have h2 : (w4.alloc (.cells #[Value.slice A4 b.length d4] 25)).ownsRow w.heap.size 25 1 (.slice A2 k d2) k vs := (own_keep HO.out (fun x _ hx => HG4.out.block x hx (fun e => by cases e))).alloc _
        exact h1.rowed h2 (by decide) HG5.out
      · refine List.pairwise_append.2 ⟨HAP.out, List.pairwise_singleton _ _, fun a ha b hb y hy => ?_⟩
        rw [List.mem_singleton.1 hb]
        obtain ⟨i, hi, rfl⟩ := List.mem_iff_getElem.1 ha
        have hlk : i < (l.take k).length := by rw [← HV.out.1]; exact hi
        have h9 := ((HV.out.2 i vs[i] ((l.take k)[i]) (List.getElem?_eq_getElem hi) (List.getElem?_eq_getElem hlk)).lt y hy).2
        rcases HOR4.out with e | e
        · rw [e]; intro h; cases h
        · rw [e]; intro h; injection h with h; omega
      · exact ((HB.out.grown HG4.out (by omega) (fun x e => by cases e)).alloc (by omega) _).grown HG5.out (by simp; omega) (fun x hx => (HO.out.lt x hx).1)
    · obtain rfl : k = n := by omega
      go_wp2
      go_ret
      refine ⟨_, rfl, ⟨vs, ?_, ?_, HAP.out⟩, HB.out⟩
      · rw [← HN.out]; exact HO.out
      · have := HV.out
        rwa [HN.out, List.take_length] at this
end Go.Proofs.YtfchnpdgnhoffaaGreatDoor
