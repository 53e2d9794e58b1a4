/- The steps of commit: 48, 50, 53, 55. The walk of commit (30). The walk of (*Log).Append (14). -/
import Derived.Test.YtfchnpdgnhoffaaGreatDoorJ13WFind
namespace Go.Proofs.YtfchnpdgnhoffaaGreatDoor
open Go.RowKit Go.Shelf Go.Maps

theorem dB_size : dB.size ≤ maxLen := by decide
section
variable {w : World} {F : Nat → Prop} {lp p n bl bk bn br : Nat} {x : PS}
set_option maxHeartbeats 1600000 in
theorem clos1 (h : Dk w F p n x) (hn : n ≤ 10000) (f0 : w.cell? ⟨bl, 0, none⟩ = some (.pointer (some ⟨lp, 0, none⟩))) (f1 : w.cell? ⟨lp, 0, none⟩ = some (.pointer (some ⟨p, 0, none⟩))) :
    Calls Tryz.prog 48 #[.pointer (some ⟨bl, 0, none⟩)] w (DkPost w F p n (x.create dB)) := by
  have H := Lib.hid h
  clear h
  go_enter Tryz.func48, Tryz.ntmps48
  go_wp2_with fail
  refine (dk_create w F p n x dB H.out hn dB_size).mono ?_
  rintro e w1 ⟨rfl, h1, h2⟩
  go_wp2
  go_ret
  exact ⟨rfl, h1, h2⟩
set_option maxHeartbeats 1600000 in
theorem clos3 (h : Dk w F p n x) (hn : n ≤ 10000) (f0 : w.cell? ⟨bl, 0, none⟩ = some (.pointer (some ⟨lp, 0, none⟩))) (f1 : w.cell? ⟨lp, 0, none⟩ = some (.pointer (some ⟨p, 0, none⟩))) :
    Calls Tryz.prog 53 #[.pointer (some ⟨bl, 0, none⟩)] w (DkPost w F p n (x.sync dB)) := by
  have H := Lib.hid h
  clear h
  go_enter Tryz.func53, Tryz.ntmps53
  go_wp2_with fail
  refine (dk_sync w F p n x dB H.out hn dB_size).mono ?_
  rintro e w1 ⟨rfl, h1, h2⟩
  go_wp2
  go_ret
  exact ⟨rfl, h1, h2⟩
/-- what a step leaves -/
def StepPost (w : World) (F : Nat → Prop) (p n : Nat) (r : Int × PS) (e : Ending) (w' : World) : Prop :=
  ∃ F', e = .returned (.int .i64 r.1) ∧ Dk w' F' p (n + 1) r.2 ∧ Chg F w w' ∧ ∀ k, F' k → Grs F w w' k
theorem DkPost.step {r : Int × PS} {e : Ending} {w' : World} (h : DkPost w F p n r e w') : StepPost w F p n r e w' := ⟨_, h.1, h.2.1, h.2.2, fun _ h => h⟩
theorem Chg.at_ {w1 w' : World} (h : Chg F w1 w') {q : Addr} {v : Value} (hq : ¬ F q.block) (hv : w1.cell? q = some v) : w'.cell? q = some v := (World.cell?_of_block (h.block _ (World.block_lt_of_cell? w1 _ hv) hq)).trans hv
theorem grs_below {w1 w' : World} (hb : Below w.heap.size w w1) {k : Nat} (h : Grs F w1 w' k) : Grs F w w' k := ⟨h.1.elim .inl fun h => .inr (Nat.le_trans hb.size h), h.2⟩
theorem chg_below {w1 w' : World} (hb : Below w.heap.size w w1) (h : Chg F w1 w') : Chg F w w' :=
  ⟨h.os.trans hb.os, h.tape.trans hb.tape, h.output.trans hb.output, Nat.le_trans hb.size h.size, fun k hk hn => (h.block k (Nat.lt_of_lt_of_le hk hb.size) hn).trans (hb.block k hk)⟩
set_option maxHeartbeats 3200000 in
theorem clos4 (m : Nat) (hm : m < 100) (hbl : ¬ F bl) (hlp : ¬ F lp) (hbn : ¬ F bn) (h : Dk w F p n x) (hn : n ≤ 10000) (hF : ∀ k, F k → k < w.heap.size) (f0 : w.cell? ⟨bl, 0, none⟩ = some (.pointer (some ⟨lp, 0, none⟩))) (f1 : w.cell? ⟨lp, 0, none⟩ = some (.pointer (some ⟨p, 0, none⟩))) (f2 : w.cell? ⟨bn, 0, none⟩ = some (.int .i64 (m : Int))) :
    Calls Tryz.prog 55 #[.pointer (some ⟨bl, 0, none⟩), .pointer (some ⟨bn, 0, none⟩)] w (StepPost w F p n (x.rename dB (nB m))) := by
  have H := Lib.hid h
  have HF := Lib.hid hF
  have hlb := World.block_lt_of_cell? w _ f0
  have hll := World.block_lt_of_cell? w _ f1
  have hln := World.block_lt_of_cell? w _ f2
  clear h hF
  go_enter Tryz.func55, Tryz.ntmps55
  go_upto_region 1 with fail
  go_region_held3 (fun w' => w'.cell? ⟨bl, 0, none⟩ = some (.pointer (some ⟨lp, 0, none⟩)) ∧ w'.cell? ⟨lp, 0, none⟩ = some (.pointer (some ⟨p, 0, none⟩)) ∧ w'.cell? ⟨bn, 0, none⟩ = some (.int .i64 (m : Int)))
    (first | exact ⟨f0, f1, f2⟩ | exact ⟨g0, g1, g2⟩ | exact ⟨k0, k1, k2⟩ | trivial)
    ((first
      | (go_at_call 56; refine (dk_rename wa F p n x dB (nB m) HA.out hn dB_size (by rw [nB_size]; decide)).mono ?_; rintro e wb ⟨rfl, hd2, hc2⟩; have k0 := hc2.at_ (q := ⟨bl, 0, none⟩) hbl g0; have k1 := hc2.at_ (q := ⟨lp, 0, none⟩) hlp g1; have k2 := hc2.at_ (q := ⟨bn, 0, none⟩) hbn g2; have HP := Lib.hid (show StepPost w F p n (x.rename dB (nB m)) (.returned (.int .i64 (x.rename dB (nB m)).1)) wb from ⟨_, rfl, hd2, chg_below HB.out hc2, fun k hk => grs_below HB.out hk⟩); clear hd2 hc2)
      | (go_at_call 57; refine (named_any m hm w.drew).mono ?_; rintro e wa ⟨rfl, hba⟩; have hba := below_drew hba; have g0 := (hba.cell (p := ⟨bl, 0, none⟩) hlb).trans f0; have g1 := (hba.cell (p := ⟨lp, 0, none⟩) hll).trans f1; have g2 := (hba.cell (p := ⟨bn, 0, none⟩) hln).trans f2; have HA := Lib.hid (H.out.below hba); have HB := Lib.hid hba; clear hba)))
  all_goals
    go_wp2
    go_ret
    exact HP.out
set_option maxHeartbeats 3200000 in
theorem clos2 (a : Bool) (m : Nat) (v : Value) (l : List Rec) (G : Nat → Prop) (hm : m < 100) (hbl : ¬ F bl) (hlp : ¬ F lp) (hbk : ¬ F bk) (hbn : ¬ F bn) (hbr : ¬ F br) (h : Dk w F p n x) (hn : n ≤ 10000) (hF : ∀ k, F k → k < w.heap.size)
    (hr : RecsR w G v l) (hl : l.length ≤ 10000) (hL : (entL ⟨a, l⟩ m).length ≤ 90000) (hb : ∀ b ∈ l, b.length ≤ 90000) (f0 : w.cell? ⟨bl, 0, none⟩ = some (.pointer (some ⟨lp, 0, none⟩))) (f1 : w.cell? ⟨lp, 0, none⟩ = some (.pointer (some ⟨p, 0, none⟩)))
    (f2 : w.cell? ⟨bk, 0, none⟩ = some (.int .u8 ((kindB a).toNat : Int))) (f3 : w.cell? ⟨bn, 0, none⟩ = some (.int .i64 (m : Int))) (f4 : w.cell? ⟨br, 0, none⟩ = some v) :
    Calls Tryz.prog 50 #[.pointer (some ⟨bl, 0, none⟩), .pointer (some ⟨bk, 0, none⟩), .pointer (some ⟨bn, 0, none⟩), .pointer (some ⟨br, 0, none⟩)] w (StepPost w F p n (x.append dB (entL ⟨a, l⟩ m))) := by
  have H := Lib.hid h
  have HF := Lib.hid hF
  have HR := Lib.hid (hr.drewN 1)
  have hL2 : (recsL l).length ≤ 90000 := Nat.le_trans (ent_recs ⟨a, l⟩ m) hL
  obtain ⟨b, hbe⟩ : ∃ b, b = entL ⟨a, l⟩ m := ⟨_, rfl⟩
  have HBE := Lib.hid hbe
  rw [← hbe] at hL ⊢
  have hlb := World.block_lt_of_cell? w _ f0
  have hll := World.block_lt_of_cell? w _ f1
  have hlk := World.block_lt_of_cell? w _ f2
  have hln := World.block_lt_of_cell? w _ f3
  have hlr := World.block_lt_of_cell? w _ f4
  clear h hF hr hbe
  go_enter Tryz.func50, Tryz.ntmps50
  go_upto_region 1 with fail
  go_region_held3 (fun w' => w'.cell? ⟨bl, 0, none⟩ = some (.pointer (some ⟨lp, 0, none⟩)) ∧ w'.cell? ⟨lp, 0, none⟩ = some (.pointer (some ⟨p, 0, none⟩)) ∧ w'.cell? ⟨bk, 0, none⟩ = some (.int .u8 ((kindB a).toNat : Int)) ∧ w'.cell? ⟨bn, 0, none⟩ = some (.int .i64 (m : Int)) ∧ w'.cell? ⟨br, 0, none⟩ = some v)
    (first | exact ⟨f0, f1, f2, f3, f4⟩ | exact ⟨g0, g1, g2, g3, g4⟩ | exact ⟨k0, k1, k2, k3, k4⟩ | trivial)
    ((first
      | (go_at_call 51; refine (dk_append wa F p n x dB A b.length d b rfl HA.out hn dB_size HRB.out HAF.out hdl (by omega)).mono ?_; rintro e wb ⟨rfl, hd2, hc2⟩; have k0 := hc2.at_ (q := ⟨bl, 0, none⟩) hbl g0; have k1 := hc2.at_ (q := ⟨lp, 0, none⟩) hlp g1; have k2 := hc2.at_ (q := ⟨bk, 0, none⟩) hbk g2; have k3 := hc2.at_ (q := ⟨bn, 0, none⟩) hbn g3; have k4 := hc2.at_ (q := ⟨br, 0, none⟩) hbr g4; have HP := Lib.hid (show StepPost w F p n (x.append dB b) (.returned (.int .i64 (x.append dB b).1)) wb from ⟨_, rfl, hd2, chg_below HB.out hc2, fun k hk => grs_below HB.out hk⟩); clear hd2 hc2)
      | (go_at_call 52; refine (entry_any a m v l G w.drew hm HR.out hl hL2 hb).mono ?_; rintro e wa ⟨v2, rfl, hv2, hba⟩; rw [← HBE.out] at hv2; obtain ⟨A, d, hve⟩ := own_slice hv2; subst hve; have hdl : b.length ≤ d := by { rcases hv2.2 with ⟨e, h0⟩ | ⟨g, cap, cur, e, h1, h2, h3, h4⟩; { omega }; { injection e with e1 e2 e3; omega } }; have HRB := Lib.hid (Reads.of_own hv2); have HAF := Lib.hid (show 0 < b.length → ∀ ad, A = some ad → ¬ F ad.block from fun _ ad ea hf => by { have h1 := (hv2.lt ad.block (by rw [ea]; simp [Value.ownBlock])).1; have h2 := HF.out _ hf; rw [World.size_drew] at h1; omega }); have hba := below_drew hba; have g0 := (hba.cell (p := ⟨bl, 0, none⟩) hlb).trans f0; have g1 := (hba.cell (p := ⟨lp, 0, none⟩) hll).trans f1; have g2 := (hba.cell (p := ⟨bk, 0, none⟩) hlk).trans f2; have g3 := (hba.cell (p := ⟨bn, 0, none⟩) hln).trans f3; have g4 := (hba.cell (p := ⟨br, 0, none⟩) hlr).trans f4; have HA := Lib.hid (H.out.below hba); have HB := Lib.hid hba; clear hba hv2)))
  all_goals
    go_wp2
    go_ret
    exact HP.out
end
end Go.Proofs.YtfchnpdgnhoffaaGreatDoor
namespace Go.Proofs.YtfchnpdgnhoffaaGreatDoor
open Go.RowKit Go.Shelf Go.Maps

/-- the blocks of F, and what was made between w and w' -/
def New (F : Nat → Prop) (w w' : World) (k : Nat) : Prop := F k ∨ (w.heap.size ≤ k ∧ k < w'.heap.size)
def CommitPost (w : World) (F : Nat → Prop) (lp p n : Nat) (r : Int × PS) (c : List Rec) (last : Nat) (fl : Bool) (e : Ending) (w' : World) : Prop :=
  e = .returned (.int .i64 r.1) ∧ LogAt w' (New F w w') lp p (n + 6) r.2 c (if r.1 = 0 then last + 1 else last) fl ∧ Chg F w w'
theorem Chg.weak {F G : Nat → Prop} {a b : World} (h : Chg F a b) (hF : ∀ k, F k → G k) : Chg G a b := ⟨h.os, h.tape, h.output, h.size, fun k hk hn => h.block k hk fun hf => hn (hF k hf)⟩
/-- steps, one behind the other -/
def stepsP : List (PS → Int × PS) → PS → Int × PS
  | [], x => (0, x)
  | f :: fs, x => andP (f x) (stepsP fs)
theorem andP_zero (r : Int × PS) : andP r (fun x => (0, x)) = r := by
  unfold andP
  by_cases h : r.1 = 0
  · rw [if_pos h, ← h]
  · rw [if_neg h]
theorem commit_steps (x : PS) (b : Rec) (n : Nat) : commitP x b n = andP (clearP x) (stepsP [fun x => x.create dB, fun x => x.append dB b, fun x => x.sync dB, fun x => x.rename dB (nB n), fun x => x.syncDir]) := by
  unfold commitP
  simp only [stepsP, andP_zero]
theorem steps_go {f : PS → Int × PS} {fs : List (PS → Int × PS)} {x : PS} {r : Int × PS} (h : r = stepsP (f :: fs) x) (h0 : (f x).1 = 0) : r = stepsP fs (f x).2 := by
  rw [h, stepsP, andP, if_pos h0]
theorem steps_stop {f : PS → Int × PS} {fs : List (PS → Int × PS)} {x : PS} {r : Int × PS} (h : r = stepsP (f :: fs) x) (h0 : (f x).1 ≠ 0) : r = f x := by
  rw [h, stepsP, andP, if_neg h0]
theorem draft_listed (x : PS) : decide (draftL ∈ x.list draftL) = (dget x.dir draftL).isSome := by
  have hp : Go.Lib.hasPrefix draftL draftL = true := by decide
  cases h : dget x.dir draftL with
  | some f => exact decide_eq_true (mem_list.2 ⟨⟨f, dget_mem h⟩, hp⟩)
  | none => exact decide_eq_false (fun h2 => (mem_list.1 h2).1.elim fun f hf => dget_none.1 h _ hf rfl)
section
variable {w w' : World} {F Fd G Fk : Nat → Prop} {lp p n m : Nat} {x y : PS} {c : List Rec} {last : Nat} {fl : Bool} {vc : Value}
theorem log_close (h2 : Blk w lp 71 #[.pointer (some ⟨p, 0, none⟩), vc, .int .i64 (last : Int), .bool fl]) (h3 : RecsAt w G vc c) (h4 : F lp) (h5 : ¬ Fd lp) (h6 : ¬ G lp) (h7 : ∀ y, Fd y → F y ∧ ¬ G y) (h8 : ∀ y, G y → F y) (hF : ∀ k, F k → k < w.heap.size)
    (hd : Dk w' Fk p m y) (hm : m ≤ n + 6) (hk : ∀ z, Fk z → New Fd w w' z) (hc : Chg Fd w w') : LogAt w' (New F w w') lp p (n + 6) y c last fl := by
  refine ⟨Fk, G, vc, hd.mono hm, (hc.block lp h2.lt h5).trans h2, h3.keep fun k hk hlt => hc.block k hlt fun h => (h7 k h).2 hk, .inl h4, fun h => ?_, h6, fun y hy => ?_, fun y hy => .inl (h8 y hy)⟩
  · rcases hk _ h with h | h
    · exact h5 h
    · have := h2.lt; omega
  · rcases hk y hy with h | h
    · exact ⟨.inl (h7 y h).1, (h7 y h).2⟩
    · exact ⟨.inr h, fun h9 => by have := hF y (h8 y h9); omega⟩
theorem log_last (h : LogAt w F lp p n x c last fl) (k : Nat) : LogAt (w.setCell ⟨lp, 2, none⟩ (.int .i64 (k : Int))) F lp p n x c k fl := by
  obtain ⟨Fd, G, vc, h1, h2, h3, h4, h5, h6, h7, h8⟩ := h
  refine ⟨Fd, G, vc, h1.keep fun k hk _ => Below.heap_setCell _ _ _ _ (by rintro rfl; exact h5 hk), h2.set_ 2 _, h3.keep fun k hk _ => Below.heap_setCell _ _ _ _ (by rintro rfl; exact h6 hk), h4, h5, h6, h7, h8⟩
theorem log_fail (h : LogAt w F lp p n x c last fl) (b : Bool) : LogAt (w.setCell ⟨lp, 3, none⟩ (.bool b)) F lp p n x c last b := by
  obtain ⟨Fd, G, vc, h1, h2, h3, h4, h5, h6, h7, h8⟩ := h
  refine ⟨Fd, G, vc, h1.keep fun k hk _ => Below.heap_setCell _ _ _ _ (by rintro rfl; exact h5 hk), h2.set_ 3 _, h3.keep fun k hk _ => Below.heap_setCell _ _ _ _ (by rintro rfl; exact h6 hk), h4, h5, h6, h7, h8⟩
end

theorem loop_new {w w2 w5 wr : World} {Fd F2 G : Nat → Prop} (hN : ∀ z, F2 z → Fd z ∨ (w.heap.size + 3 ≤ z ∧ z < w2.heap.size)) (h02 : w.heap.size ≤ w2.heap.size) (h25 : w2.heap.size ≤ w5.heap.size) (hG : ∀ z, G z → Grs F2 w5 wr z) : ∀ z, G z → New Fd w wr z := fun z hz => by
  obtain ⟨h1, h2⟩ := hG z hz
  rcases h1 with h1 | h1
  · rcases hN z h1 with h3 | h3
    · exact .inl h3
    · exact .inr ⟨by omega, h2⟩
  · exact .inr ⟨by omega, h2⟩
theorem loop_chg {w w2 w5 wr : World} {Fd F2 : Nat → Prop} (hN : ∀ z, F2 z → Fd z ∨ (w.heap.size + 3 ≤ z ∧ z < w2.heap.size)) (h2 : Chg Fd w w2) (h5 : Below w2.heap.size w2 w5) (h : Chg F2 w5 wr) : Chg Fd w wr :=
  (h2.below h5 h2.size).trans h fun z hz => (hN z hz).elim .inl fun h => .inr (by omega)
set_option maxRecDepth 100000 in
set_option maxHeartbeats 12800000 in
theorem commit_any (a : Bool) (l : List Rec) (v : Value) (H : Nat → Prop) (w : World) (F : Nat → Prop) (lp p n : Nat) (x : PS) (c : List Rec) (last : Nat) (fl : Bool) (h : LogAt w F lp p n x c last fl) (hF : ∀ k, F k → k < w.heap.size) (hn : n ≤ 9990) (hl : last ≤ 97)
    (hr : RecsR w H v l) (hH : ∀ k, H k → ¬ F k) (hll : l.length ≤ 10000) (hL : (entL ⟨a, l⟩ (last + 1)).length ≤ 90000) (hb : ∀ b ∈ l, b.length ≤ 90000) :
    Calls Tryz.prog 30 #[.pointer (some ⟨lp, 0, none⟩), .int .u8 ((kindB a).toNat : Int), v] w (CommitPost w F lp p n (commitP x (entL ⟨a, l⟩ (last + 1)) (last + 1)) c last fl) := by
  have hmf : ∀ (fn : Fn) (first cap : Array Value) (w : World), (Instr.makeFunc fn first cap).run Tryz.prog w = .ok (.func fn first cap) w := fun _ _ _ _ => rfl
  have hr0 := hr
  obtain ⟨A0, d0, vs0, hv0, -⟩ := hr0
  subst hv0
  obtain ⟨Fd, G, vc, h1, h2, h3, h4, h5, h6, h7, h8⟩ := h
  have HH := Lib.hid hH
  have HF := Lib.hid hF
  have HFd := Lib.hid (show ∀ k, Fd k → k < w.heap.size from fun k hk => hF k (h7 k hk).1)
  have HCL := Lib.hid (fun (w' : World) (Fk : Nat → Prop) (m : Nat) (y : PS) => log_close (Fd := Fd) (Fk := Fk) (w' := w') (n := n) (m := m) (y := y) h2 h3 h4 h5 h6 h7 h8 hF)
  have hlp := h2.lt
  have HCF := Lib.hid (show ∀ z, Fd z → F z from fun z hz => (h7 z hz).1)
  have HF4 := Lib.hid h4
  have HB := Lib.hid h2
  have HD := Lib.hid h1
  have HR := Lib.hid hr
  have hlpn := h5
  have HG := Lib.hid (show ∀ k, H k → ¬ Fd k from fun k hk hf => hH k hk (h7 k hf).1)
  have HL := Lib.hid hL
  have HBB := Lib.hid hb
  obtain ⟨q, hq⟩ : ∃ q, q = commitP x (entL ⟨a, l⟩ (last + 1)) (last + 1) := ⟨_, rfl⟩
  rw [← hq]
  rw [commit_steps] at hq
  have HQ := Lib.hid hq
  have HBx := Lib.hid (show Below w.heap.size w (((w.alloc (.cells #[.pointer (some ⟨lp, 0, none⟩)] 28)).alloc (.cells #[.int .u8 ((kindB a).toNat : Int)] 5)).alloc (.cells #[.slice A0 l.length d0] 29)) from (((Below.refl _ _).alloc (Nat.le_refl _) _).alloc (by simp) _).alloc (by simp; omega) _)
  have e0 := ((Blk.new w 28 #[.pointer (some ⟨lp, 0, none⟩)]).alloc (.cells #[.int .u8 ((kindB a).toNat : Int)] 5)).alloc (.cells #[.slice A0 l.length d0] 29)
  have e1 := (Blk.new (w.alloc (.cells #[.pointer (some ⟨lp, 0, none⟩)] 28)) 5 #[.int .u8 ((kindB a).toNat : Int)]).alloc (.cells #[.slice A0 l.length d0] 29)
  have e2 := Blk.new ((w.alloc (.cells #[.pointer (some ⟨lp, 0, none⟩)] 28)).alloc (.cells #[.int .u8 ((kindB a).toNat : Int)] 5)) 29 #[.slice A0 l.length d0]
  clear hmf
  rw [World.size_alloc] at e1 e2
  rw [World.size_alloc] at e2
  have g0 : (((w.alloc (.cells #[.pointer (some ⟨lp, 0, none⟩)] 28)).alloc (.cells #[.int .u8 ((kindB a).toNat : Int)] 5)).alloc (.cells #[.slice A0 l.length d0] 29)).cell? ⟨w.heap.size, 0, none⟩ = some (.pointer (some ⟨lp, 0, none⟩)) := e0.cell 0
  have g1 : (((w.alloc (.cells #[.pointer (some ⟨lp, 0, none⟩)] 28)).alloc (.cells #[.int .u8 ((kindB a).toNat : Int)] 5)).alloc (.cells #[.slice A0 l.length d0] 29)).cell? ⟨lp, 0, none⟩ = some (.pointer (some ⟨p, 0, none⟩)) := (h2.below HBx.out hlp).cell 0
  have hsB : (((w.alloc (.cells #[.pointer (some ⟨lp, 0, none⟩)] 28)).alloc (.cells #[.int .u8 ((kindB a).toNat : Int)] 5)).alloc (.cells #[.slice A0 l.length d0] 29)).heap.size = w.heap.size + 3 := by simp
  have HE0 := Lib.hid e0
  have HE1 := Lib.hid e1
  have HE2 := Lib.hid e2
  have HSB := Lib.hid hsB
  clear hH hF h1 h2 h3 h4 h6 h7 h8 hr hL hb hq e0 e1 e2 hsB
  go_enter Tryz.func30, Tryz.ntmps30
  go_wp2_with fail
  refine (dk_list (((w.alloc (.cells #[.pointer (some ⟨lp, 0, none⟩)] 28)).alloc (.cells #[.int .u8 ((kindB a).toNat : Int)] 5)).alloc (.cells #[.slice A0 l.length d0] 29)) Fd p n x dB (HD.out.below HBx.out) (by omega)).mono ?_
  rintro e w1 ⟨v1, rfl, hv1, hb1⟩
  rw [show dB.data.toList = draftL from nmBA_data _] at hv1
  have hs1 := hb1.size
  have hll1 : (x.list draftL).length ≤ 10000 := by
    unfold PS.list begN
    rw [List.length_mergeSort]
    refine Nat.le_trans (List.length_filter_le _ _) ?_
    rw [List.length_map]
    exact Nat.le_trans HD.out.pb.dirL (by omega)
  have HV1 := Lib.hid hv1
  have HE01 := Lib.hid (HE0.out.below hb1 (by rw [HSB.out]; omega))
  have HE11 := Lib.hid (HE1.out.below hb1 (by rw [HSB.out]; omega))
  have HE21 := Lib.hid (HE2.out.below hb1 (by rw [HSB.out]; omega))
  have HB1 := Lib.hid (HBx.out.trans (hb1.mono HBx.out.size))
  have HS1 := Lib.hid (show w.heap.size + 3 ≤ w1.heap.size by rw [← HSB.out]; exact hs1)
  have q0 : w1.cell? ⟨w.heap.size, 0, none⟩ = some (.pointer (some ⟨lp, 0, none⟩)) := HE01.out.cell 0
  have q1 : w1.cell? ⟨lp, 0, none⟩ = some (.pointer (some ⟨p, 0, none⟩)) := (HB.out.below HB1.out hlp).cell 0
  have q2 : w1.cell? ⟨lp, 2, none⟩ = some (.int .i64 (last : Int)) := (HB.out.below HB1.out hlp).cell 2
  have HDd := Lib.hid (HD.out.below HB1.out)
  clear hv1 hb1 hs1 g0 g1
  go_wp2_with fail
  refine (contains_any w1 _ v1 (x.list draftL) draftL HV1.out (by omega)).mono ?_
  rintro e w' ⟨rfl, rfl⟩
  rw [draft_listed]
  cases hdr : (dget x.dir draftL).isSome
  case' true =>
    have HDR := Lib.hid hdr
    clear hdr
    go_wp2_with fail
    refine (dk_remove w' Fd p n x dB HDd.out (by omega) dB_size).mono ?_
    rintro e w2 ⟨rfl, hd2, hc2⟩
    have hcl : clearP x = x.remove dB := by unfold clearP; rw [if_pos HDR.out]
    have HNX := Lib.hid (show ∀ z, Grs Fd w' w2 z → Fd z ∨ (w.heap.size + 3 ≤ z ∧ z < w2.heap.size) from fun z hz => hz.1.elim .inl fun h => .inr ⟨Nat.le_trans HS1.out h, hz.2⟩)
    by_cases h0 : (x.remove dB).1 = 0
    case' neg =>
      have HCC := Lib.hid (chg_below HB1.out hc2)
      have HDD := Lib.hid hd2
      have hqe : q = x.remove dB := by rw [HQ.out, hcl, andP, if_neg h0]
      have HQE := Lib.hid hqe
      have hne : decide ((x.remove dB).1 = 0) = false := decide_eq_false h0
      have HH0 := Lib.hid h0
      clear hd2 hc2 hcl hqe q0 q1 q2
      go_wp2
      go_ret
      refine ⟨by rw [HQE.out]; rfl, ?_, ?_⟩
      · rw [HQE.out, if_neg HH0.out]
        exact HCL.out w2 _ (n + 1) _ HDD.out (by omega) (fun z hz => (HNX.out z hz).elim .inl fun h => .inr ⟨by omega, h.2⟩) HCC.out
      · exact HCC.out.weak fun z hz => HCF.out z hz
    case' pos =>
      rw [h0]
      have hs2 := hc2.size
      obtain ⟨y, hy⟩ : ∃ y, y = (x.remove dB).2 := ⟨_, rfl⟩
      rw [← hy] at hd2
      have HY := Lib.hid (show q = stepsP [fun x => x.create dB, fun x => x.append dB (entL ⟨a, l⟩ (last + 1)), fun x => x.sync dB, fun x => x.rename dB (nB (last + 1)), fun x => x.syncDir] y by rw [HQ.out, hcl, andP, if_pos h0, hy])
      obtain ⟨F2, hF2⟩ : ∃ F2, F2 = Grs Fd w' w2 := ⟨_, rfl⟩
      rw [← hF2] at hd2
      have HN2 := Lib.hid (show ∀ z, F2 z → Fd z ∨ (w.heap.size + 3 ≤ z ∧ z < w2.heap.size) by rw [hF2]; exact HNX.out)
      have HS2 := Lib.hid (show w.heap.size + 3 ≤ w2.heap.size by have := HS1.out; omega)
      have k0 := (hc2.block _ HE01.out.lt (fun h => by have := HFd.out _ h; omega)).trans HE01.out
      have k1 := (hc2.block _ HE11.out.lt (fun h => by have := HFd.out _ h; omega)).trans HE11.out
      have k2 := (hc2.block _ HE21.out.lt (fun h => by have := HFd.out _ h; omega)).trans HE21.out
      have k3 := (hc2.block _ (HB.out.below HB1.out hlp).lt hlpn).trans (HB.out.below HB1.out hlp)
      have HE02 := Lib.hid (show Blk w2 w.heap.size 28 #[.pointer (some ⟨lp, 0, none⟩)] from k0)
      have HE12 := Lib.hid (show Blk w2 (w.heap.size + 1) 5 #[.int .u8 ((kindB a).toNat : Int)] from k1)
      have HE22 := Lib.hid (show Blk w2 (w.heap.size + 1 + 1) 29 #[.slice A0 l.length d0] from k2)
      have HLP2 := Lib.hid (show Blk w2 lp 71 #[.pointer (some ⟨p, 0, none⟩), vc, .int .i64 (last : Int), .bool fl] from k3)
      have HC2 := Lib.hid (chg_below HB1.out hc2)
      have HD2 := Lib.hid hd2
      clear hd2 hc2 hcl hs2 hy h0 q0 q1 q2 HNX hF2 k0 k1 k2 k3
  case' false =>
    have hcl : clearP x = (0, x) := by unfold clearP; rw [hdr]; rfl
    obtain ⟨w2, hw2⟩ : ∃ w2, w2 = w' := ⟨_, rfl⟩
    obtain ⟨y, hy⟩ : ∃ y, y = x := ⟨_, rfl⟩
    have HY := Lib.hid (show q = stepsP [fun x => x.create dB, fun x => x.append dB (entL ⟨a, l⟩ (last + 1)), fun x => x.sync dB, fun x => x.rename dB (nB (last + 1)), fun x => x.syncDir] y by rw [HQ.out, hcl, andP, if_pos rfl, hy])
    have HD2 := Lib.hid (show Dk w2 Fd p (n + 1) y by rw [hw2, hy]; exact HDd.out.mono (by omega))
    obtain ⟨F2, hF2⟩ : ∃ F2, F2 = Fd := ⟨_, rfl⟩
    rw [← hF2] at HD2
    have HN2 := Lib.hid (show ∀ z, F2 z → Fd z ∨ (w.heap.size + 3 ≤ z ∧ z < w2.heap.size) by rw [hF2]; exact fun z hz => .inl hz)
    subst hw2
    have HS2 := HS1
    have HE02 := HE01
    have HE12 := HE11
    have HE22 := HE21
    have HLP2 := Lib.hid (HB.out.below HB1.out hlp)
    have HC2 := Lib.hid ((Chg.refl Fd w).below HB1.out (Nat.le_refl _))
    clear hcl hdr hy hF2 q0 q1 q2
  all_goals
    have hs2 := HS2.out
    have HNF := Lib.hid (show ∀ z, (z < w.heap.size + 3 ∨ w2.heap.size ≤ z) → (z < w.heap.size → z = lp) → ¬ F2 z from fun z h1 h2 h => (HN2.out _ h).elim (fun h => by have := HFd.out _ h; rw [h2 this] at h; exact hlpn h) (fun h => by omega))
    obtain ⟨w5, hw5⟩ : ∃ w5, w5 = ((w2.alloc (.cells #[.int .i64 ((last : Int) + 1)] 3)).alloc (.cells #[.func (.func 48) #[] #[.pointer (some ⟨w.heap.size, 0, none⟩)], .func (.func 50) #[] #[.pointer (some ⟨w.heap.size, 0, none⟩), .pointer (some ⟨w.heap.size + 1, 0, none⟩), .pointer (some ⟨w2.heap.size, 0, none⟩), .pointer (some ⟨w.heap.size + 1 + 1, 0, none⟩)], .func (.func 53) #[] #[.pointer (some ⟨w.heap.size, 0, none⟩)], .func (.func 55) #[] #[.pointer (some ⟨w.heap.size, 0, none⟩), .pointer (some ⟨w2.heap.size, 0, none⟩)], .func (.func 58) #[.pointer (some ⟨p, 0, none⟩)] #[]] 95)) := ⟨_, rfl⟩
    have u0 : (w2.alloc (.cells #[.int .i64 ((last : Int) + 1)] 3)).cell? ⟨w.heap.size, 0, none⟩ = some (.pointer (some ⟨lp, 0, none⟩)) := (HE02.out.alloc _).cell 0
    have u1 : (w2.alloc (.cells #[.int .i64 ((last : Int) + 1)] 3)).cell? ⟨lp, 0, none⟩ = some (.pointer (some ⟨p, 0, none⟩)) := (HLP2.out.alloc _).cell 0
    have q0 : w2.cell? ⟨w.heap.size, 0, none⟩ = some (.pointer (some ⟨lp, 0, none⟩)) := HE02.out.cell 0
    have q2 : w2.cell? ⟨lp, 2, none⟩ = some (.int .i64 (last : Int)) := HLP2.out.cell 2
    have HB5 := Lib.hid (show Below w2.heap.size w2 w5 by rw [hw5]; exact ((Below.refl _ _).alloc (Nat.le_refl _) _).alloc (by simp) _)
    have HS5 := Lib.hid (show Blk w5 (w2.heap.size + 1) 95 #[.func (.func 48) #[] #[.pointer (some ⟨w.heap.size, 0, none⟩)], .func (.func 50) #[] #[.pointer (some ⟨w.heap.size, 0, none⟩), .pointer (some ⟨w.heap.size + 1, 0, none⟩), .pointer (some ⟨w2.heap.size, 0, none⟩), .pointer (some ⟨w.heap.size + 1 + 1, 0, none⟩)], .func (.func 53) #[] #[.pointer (some ⟨w.heap.size, 0, none⟩)], .func (.func 55) #[] #[.pointer (some ⟨w.heap.size, 0, none⟩), .pointer (some ⟨w2.heap.size, 0, none⟩)], .func (.func 58) #[.pointer (some ⟨p, 0, none⟩)] #[]] by rw [hw5]; have := Blk.new (w2.alloc (.cells #[.int .i64 ((last : Int) + 1)] 3)) 95 #[.func (.func 48) #[] #[.pointer (some ⟨w.heap.size, 0, none⟩)], .func (.func 50) #[] #[.pointer (some ⟨w.heap.size, 0, none⟩), .pointer (some ⟨w.heap.size + 1, 0, none⟩), .pointer (some ⟨w2.heap.size, 0, none⟩), .pointer (some ⟨w.heap.size + 1 + 1, 0, none⟩)], .func (.func 53) #[] #[.pointer (some ⟨w.heap.size, 0, none⟩)], .func (.func 55) #[] #[.pointer (some ⟨w.heap.size, 0, none⟩), .pointer (some ⟨w2.heap.size, 0, none⟩)], .func (.func 58) #[.pointer (some ⟨p, 0, none⟩)] #[]]; rw [World.size_alloc] at this; exact this)
    have HN5 := Lib.hid (show Blk w5 w2.heap.size 3 #[.int .i64 ((last : Int) + 1)] by rw [hw5]; exact (Blk.new w2 3 _).alloc _)
    have HE05 := Lib.hid (HE02.out.below HB5.out HE02.out.lt)
    have HE15 := Lib.hid (HE12.out.below HB5.out HE12.out.lt)
    have HE25 := Lib.hid (HE22.out.below HB5.out HE22.out.lt)
    have HLP5 := Lib.hid (HLP2.out.below HB5.out HLP2.out.lt)
    have hs5 : w2.heap.size + 2 = w5.heap.size := by rw [hw5]; simp
    have HSZ5 := Lib.hid hs5
    have HW5 := Lib.hid hw5
    have HC_0 := Lib.hid (Chg.refl F2 w5)
    have HG_0 := Lib.hid (show ∀ z, F2 z → Grs F2 w5 w5 z from fun z hz => ⟨.inl hz, (HN2.out _ hz).elim (fun h => by have := HFd.out _ h; omega) (fun h => by omega)⟩)
    have HD_0 := Lib.hid (HD2.out.below HB5.out)
    have HY_0 := HY
    clear hw5 hs5
    go_wp2_with fail
    rw [← HW5.out]
    clear u0 u1 q0 q2
    refine wp_loop_rounds 6 ?_
    rw [rounds_succ]
    have r0 : w5.cell? ⟨w.heap.size, 0, none⟩ = some (.pointer (some ⟨lp, 0, none⟩)) := HC_0.out.at_ (q := ⟨w.heap.size, 0, none⟩) (HNF.out _ (.inl (by show w.heap.size < _; omega)) (fun h => absurd h (Nat.lt_irrefl _))) (HE05.out.cell 0)
    have r1 : w5.cell? ⟨lp, 0, none⟩ = some (.pointer (some ⟨p, 0, none⟩)) := HC_0.out.at_ (q := ⟨lp, 0, none⟩) (HNF.out _ (.inl (by show lp < _; omega)) (fun _ => rfl)) (HLP5.out.cell 0)
    have r2 : w5.cell? ⟨w.heap.size + 1, 0, none⟩ = some (.int .u8 ((kindB a).toNat : Int)) := HC_0.out.at_ (q := ⟨w.heap.size + 1, 0, none⟩) (HNF.out _ (.inl (by show w.heap.size + 1 < _; omega)) (fun h => absurd (show w.heap.size + 1 < w.heap.size from h) (by omega))) (HE15.out.cell 0)
    have r3 : w5.cell? ⟨w2.heap.size, 0, none⟩ = some (.int .i64 ((last : Int) + 1)) := HC_0.out.at_ (q := ⟨w2.heap.size, 0, none⟩) (HNF.out _ (.inr (Nat.le_refl _)) (fun h => absurd (show w2.heap.size < w.heap.size from h) (by omega))) (HN5.out.cell 0)
    have r4 : w5.cell? ⟨w.heap.size + 1 + 1, 0, none⟩ = some (.slice A0 l.length d0) := HC_0.out.at_ (q := ⟨w.heap.size + 1 + 1, 0, none⟩) (HNF.out _ (.inl (by show w.heap.size + 1 + 1 < _; omega)) (fun h => absurd (show w.heap.size + 1 + 1 < w.heap.size from h) (by omega))) (HE25.out.cell 0)
    have sk : w5.cell? ⟨w2.heap.size + 1, 0, none⟩ = some (.func (.func 48) #[] #[.pointer (some ⟨w.heap.size, 0, none⟩)]) := HC_0.out.at_ (q := ⟨w2.heap.size + 1, 0, none⟩) (HNF.out _ (.inr (by show w2.heap.size ≤ w2.heap.size + 1; omega)) (fun h => absurd (show w2.heap.size + 1 < w.heap.size from h) (by omega))) (HS5.out.cell 0)
    go_wp2_with fail
    have HX := Lib.hid (fun z (h1 : z < w.heap.size + 3 ∨ w2.heap.size ≤ z) (h2 : z < w.heap.size → z = lp) (h3 : z < w5.heap.size) (h : F2 z) => (HG_0.out z h).1.elim (HNF.out z h1 h2) (fun h => by omega))
    refine ((clos1 (bl := w.heap.size) (lp := lp) HD_0.out (by omega) r0 r1).mono (fun _ _ h => DkPost.step h)).mono ?_
    rintro e wa1 ⟨G1, rfl, hd, hc, hg⟩
    have HC_1 := Lib.hid (HC_0.out.trans hc fun z hz => (HG_0.out z hz).1)
    have HG_1 := Lib.hid (show ∀ z, G1 z → Grs F2 w5 wa1 z from fun z hz => ⟨(hg z hz).1.elim (fun h => (HG_0.out z h).1) (fun h => .inr (Nat.le_trans HC_0.out.size h)), (hg z hz).2⟩)
    clear hc hg r0 r1 r2 r3 r4 sk HX
    by_cases h0 : (y.create dB).1 = 0
    case neg =>
      have HDD := Lib.hid hd
      have HQE := Lib.hid (steps_stop HY_0.out h0)
      have hne : decide ((y.create dB).1 = 0) = false := decide_eq_false h0
      have HH0 := Lib.hid h0
      clear hd
      go_wp2
      go_ret
      refine ⟨by rw [HQE.out]; rfl, ?_, ?_⟩
      · rw [HQE.out, if_neg HH0.out]
        exact HCL.out wa1 _ (n + 2) _ HDD.out (by omega) (loop_new HN2.out HC2.out.size HB5.out.size HG_1.out) (loop_chg HN2.out HC2.out HB5.out HC_1.out)
      · exact (loop_chg HN2.out HC2.out HB5.out HC_1.out).weak fun z hz => HCF.out z hz
    rw [h0]
    obtain ⟨y1, hy1⟩ : ∃ y1, y1 = (y.create dB).2 := ⟨_, rfl⟩
    have HY_1 := Lib.hid (steps_go HY_0.out h0)
    rw [← hy1] at hd HY_1
    have HD_1 := Lib.hid hd
    clear hd h0 hy1
    go_wp2
    rw [rounds_succ]
    have r0 : wa1.cell? ⟨w.heap.size, 0, none⟩ = some (.pointer (some ⟨lp, 0, none⟩)) := HC_1.out.at_ (q := ⟨w.heap.size, 0, none⟩) (HNF.out _ (.inl (by show w.heap.size < _; omega)) (fun h => absurd h (Nat.lt_irrefl _))) (HE05.out.cell 0)
    have r1 : wa1.cell? ⟨lp, 0, none⟩ = some (.pointer (some ⟨p, 0, none⟩)) := HC_1.out.at_ (q := ⟨lp, 0, none⟩) (HNF.out _ (.inl (by show lp < _; omega)) (fun _ => rfl)) (HLP5.out.cell 0)
    have r2 : wa1.cell? ⟨w.heap.size + 1, 0, none⟩ = some (.int .u8 ((kindB a).toNat : Int)) := HC_1.out.at_ (q := ⟨w.heap.size + 1, 0, none⟩) (HNF.out _ (.inl (by show w.heap.size + 1 < _; omega)) (fun h => absurd (show w.heap.size + 1 < w.heap.size from h) (by omega))) (HE15.out.cell 0)
    have r3 : wa1.cell? ⟨w2.heap.size, 0, none⟩ = some (.int .i64 ((last : Int) + 1)) := HC_1.out.at_ (q := ⟨w2.heap.size, 0, none⟩) (HNF.out _ (.inr (Nat.le_refl _)) (fun h => absurd (show w2.heap.size < w.heap.size from h) (by omega))) (HN5.out.cell 0)
    have r4 : wa1.cell? ⟨w.heap.size + 1 + 1, 0, none⟩ = some (.slice A0 l.length d0) := HC_1.out.at_ (q := ⟨w.heap.size + 1 + 1, 0, none⟩) (HNF.out _ (.inl (by show w.heap.size + 1 + 1 < _; omega)) (fun h => absurd (show w.heap.size + 1 + 1 < w.heap.size from h) (by omega))) (HE25.out.cell 0)
    have sk : wa1.cell? ⟨w2.heap.size + 1, 1, none⟩ = some (.func (.func 50) #[] #[.pointer (some ⟨w.heap.size, 0, none⟩), .pointer (some ⟨w.heap.size + 1, 0, none⟩), .pointer (some ⟨w2.heap.size, 0, none⟩), .pointer (some ⟨w.heap.size + 1 + 1, 0, none⟩)]) := HC_1.out.at_ (q := ⟨w2.heap.size + 1, 1, none⟩) (HNF.out _ (.inr (by show w2.heap.size ≤ w2.heap.size + 1; omega)) (fun h => absurd (show w2.heap.size + 1 < w.heap.size from h) (by omega))) (HS5.out.cell 1)
    go_wp2_with fail
    have HRX := Lib.hid (HR.out.keep (w' := wa1) (by have := HC2.out.size; have := HB5.out.size; have := HC_1.out.size; omega) fun z hz hlt => (HC_1.out.block z (by have := HSZ5.out; omega) (fun h => (HN2.out z h).elim (HG.out z hz) (fun h => by omega))).trans ((HB5.out.block z (by omega)).trans (HC2.out.block z hlt (HG.out z hz))))
    have HX := Lib.hid (fun z (h1 : z < w.heap.size + 3 ∨ w2.heap.size ≤ z) (h2 : z < w.heap.size → z = lp) (h3 : z < w5.heap.size) (h : G1 z) => (HG_1.out z h).1.elim (HNF.out z h1 h2) (fun h => by omega))
    refine (clos2 a (last + 1) (.slice A0 l.length d0) l H (by omega) (HX.out _ (.inl (by omega)) (fun h => absurd h (Nat.lt_irrefl _)) (by have := HSZ5.out; omega)) (HX.out _ (.inl (by omega)) (fun _ => rfl) (by have := HSZ5.out; omega)) (HX.out _ (.inl (by omega)) (fun h => absurd h (by omega)) (by have := HSZ5.out; omega)) (HX.out _ (.inr (Nat.le_refl _)) (fun h => absurd h (by omega)) (by have := HSZ5.out; omega)) (HX.out _ (.inl (by omega)) (fun h => absurd h (by omega)) (by have := HSZ5.out; omega)) HD_1.out (by omega) (fun z hz => (HG_1.out z hz).2) (HRX.out) hll HL.out HBB.out r0 r1 r2 r3 r4).mono ?_
    rintro e wa2 ⟨G2, rfl, hd, hc, hg⟩
    have HC_2 := Lib.hid (HC_1.out.trans hc fun z hz => (HG_1.out z hz).1)
    have HG_2 := Lib.hid (show ∀ z, G2 z → Grs F2 w5 wa2 z from fun z hz => ⟨(hg z hz).1.elim (fun h => (HG_1.out z h).1) (fun h => .inr (Nat.le_trans HC_1.out.size h)), (hg z hz).2⟩)
    clear hc hg r0 r1 r2 r3 r4 sk HX
    by_cases h0 : (y1.append dB (entL ⟨a, l⟩ (last + 1))).1 = 0
    case neg =>
      have HDD := Lib.hid hd
      have HQE := Lib.hid (steps_stop HY_1.out h0)
      have hne : decide ((y1.append dB (entL ⟨a, l⟩ (last + 1))).1 = 0) = false := decide_eq_false h0
      have HH0 := Lib.hid h0
      clear hd
      go_wp2
      go_ret
      refine ⟨by rw [HQE.out]; rfl, ?_, ?_⟩
      · rw [HQE.out, if_neg HH0.out]
        exact HCL.out wa2 _ (n + 3) _ HDD.out (by omega) (loop_new HN2.out HC2.out.size HB5.out.size HG_2.out) (loop_chg HN2.out HC2.out HB5.out HC_2.out)
      · exact (loop_chg HN2.out HC2.out HB5.out HC_2.out).weak fun z hz => HCF.out z hz
    rw [h0]
    obtain ⟨y2, hy2⟩ : ∃ y2, y2 = (y1.append dB (entL ⟨a, l⟩ (last + 1))).2 := ⟨_, rfl⟩
    have HY_2 := Lib.hid (steps_go HY_1.out h0)
    rw [← hy2] at hd HY_2
    have HD_2 := Lib.hid hd
    clear hd h0 hy2
    go_wp2
    rw [rounds_succ]
    have r0 : wa2.cell? ⟨w.heap.size, 0, none⟩ = some (.pointer (some ⟨lp, 0, none⟩)) := HC_2.out.at_ (q := ⟨w.heap.size, 0, none⟩) (HNF.out _ (.inl (by show w.heap.size < _; omega)) (fun h => absurd h (Nat.lt_irrefl _))) (HE05.out.cell 0)
    have r1 : wa2.cell? ⟨lp, 0, none⟩ = some (.pointer (some ⟨p, 0, none⟩)) := HC_2.out.at_ (q := ⟨lp, 0, none⟩) (HNF.out _ (.inl (by show lp < _; omega)) (fun _ => rfl)) (HLP5.out.cell 0)
    have r2 : wa2.cell? ⟨w.heap.size + 1, 0, none⟩ = some (.int .u8 ((kindB a).toNat : Int)) := HC_2.out.at_ (q := ⟨w.heap.size + 1, 0, none⟩) (HNF.out _ (.inl (by show w.heap.size + 1 < _; omega)) (fun h => absurd (show w.heap.size + 1 < w.heap.size from h) (by omega))) (HE15.out.cell 0)
    have r3 : wa2.cell? ⟨w2.heap.size, 0, none⟩ = some (.int .i64 ((last : Int) + 1)) := HC_2.out.at_ (q := ⟨w2.heap.size, 0, none⟩) (HNF.out _ (.inr (Nat.le_refl _)) (fun h => absurd (show w2.heap.size < w.heap.size from h) (by omega))) (HN5.out.cell 0)
    have r4 : wa2.cell? ⟨w.heap.size + 1 + 1, 0, none⟩ = some (.slice A0 l.length d0) := HC_2.out.at_ (q := ⟨w.heap.size + 1 + 1, 0, none⟩) (HNF.out _ (.inl (by show w.heap.size + 1 + 1 < _; omega)) (fun h => absurd (show w.heap.size + 1 + 1 < w.heap.size from h) (by omega))) (HE25.out.cell 0)
    have sk : wa2.cell? ⟨w2.heap.size + 1, 2, none⟩ = some (.func (.func 53) #[] #[.pointer (some ⟨w.heap.size, 0, none⟩)]) := HC_2.out.at_ (q := ⟨w2.heap.size + 1, 2, none⟩) (HNF.out _ (.inr (by show w2.heap.size ≤ w2.heap.size + 1; omega)) (fun h => absurd (show w2.heap.size + 1 < w.heap.size from h) (by omega))) (HS5.out.cell 2)
    go_wp2_with fail
    have HX := Lib.hid (fun z (h1 : z < w.heap.size + 3 ∨ w2.heap.size ≤ z) (h2 : z < w.heap.size → z = lp) (h3 : z < w5.heap.size) (h : G2 z) => (HG_2.out z h).1.elim (HNF.out z h1 h2) (fun h => by omega))
    refine ((clos3 (bl := w.heap.size) (lp := lp) HD_2.out (by omega) r0 r1).mono (fun _ _ h => DkPost.step h)).mono ?_
    rintro e wa3 ⟨G3, rfl, hd, hc, hg⟩
    have HC_3 := Lib.hid (HC_2.out.trans hc fun z hz => (HG_2.out z hz).1)
    have HG_3 := Lib.hid (show ∀ z, G3 z → Grs F2 w5 wa3 z from fun z hz => ⟨(hg z hz).1.elim (fun h => (HG_2.out z h).1) (fun h => .inr (Nat.le_trans HC_2.out.size h)), (hg z hz).2⟩)
    clear hc hg r0 r1 r2 r3 r4 sk HX
    by_cases h0 : (y2.sync dB).1 = 0
    case neg =>
      have HDD := Lib.hid hd
      have HQE := Lib.hid (steps_stop HY_2.out h0)
      have hne : decide ((y2.sync dB).1 = 0) = false := decide_eq_false h0
      have HH0 := Lib.hid h0
      clear hd
      go_wp2
      go_ret
      refine ⟨by rw [HQE.out]; rfl, ?_, ?_⟩
      · rw [HQE.out, if_neg HH0.out]
        exact HCL.out wa3 _ (n + 4) _ HDD.out (by omega) (loop_new HN2.out HC2.out.size HB5.out.size HG_3.out) (loop_chg HN2.out HC2.out HB5.out HC_3.out)
      · exact (loop_chg HN2.out HC2.out HB5.out HC_3.out).weak fun z hz => HCF.out z hz
    rw [h0]
    obtain ⟨y3, hy3⟩ : ∃ y3, y3 = (y2.sync dB).2 := ⟨_, rfl⟩
    have HY_3 := Lib.hid (steps_go HY_2.out h0)
    rw [← hy3] at hd HY_3
    have HD_3 := Lib.hid hd
    clear hd h0 hy3
    go_wp2
    rw [rounds_succ]
    have r0 : wa3.cell? ⟨w.heap.size, 0, none⟩ = some (.pointer (some ⟨lp, 0, none⟩)) := HC_3.out.at_ (q := ⟨w.heap.size, 0, none⟩) (HNF.out _ (.inl (by show w.heap.size < _; omega)) (fun h => absurd h (Nat.lt_irrefl _))) (HE05.out.cell 0)
    have r1 : wa3.cell? ⟨lp, 0, none⟩ = some (.pointer (some ⟨p, 0, none⟩)) := HC_3.out.at_ (q := ⟨lp, 0, none⟩) (HNF.out _ (.inl (by show lp < _; omega)) (fun _ => rfl)) (HLP5.out.cell 0)
    have r2 : wa3.cell? ⟨w.heap.size + 1, 0, none⟩ = some (.int .u8 ((kindB a).toNat : Int)) := HC_3.out.at_ (q := ⟨w.heap.size + 1, 0, none⟩) (HNF.out _ (.inl (by show w.heap.size + 1 < _; omega)) (fun h => absurd (show w.heap.size + 1 < w.heap.size from h) (by omega))) (HE15.out.cell 0)
    have r3 : wa3.cell? ⟨w2.heap.size, 0, none⟩ = some (.int .i64 ((last : Int) + 1)) := HC_3.out.at_ (q := ⟨w2.heap.size, 0, none⟩) (HNF.out _ (.inr (Nat.le_refl _)) (fun h => absurd (show w2.heap.size < w.heap.size from h) (by omega))) (HN5.out.cell 0)
    have r4 : wa3.cell? ⟨w.heap.size + 1 + 1, 0, none⟩ = some (.slice A0 l.length d0) := HC_3.out.at_ (q := ⟨w.heap.size + 1 + 1, 0, none⟩) (HNF.out _ (.inl (by show w.heap.size + 1 + 1 < _; omega)) (fun h => absurd (show w.heap.size + 1 + 1 < w.heap.size from h) (by omega))) (HE25.out.cell 0)
    have sk : wa3.cell? ⟨w2.heap.size + 1, 3, none⟩ = some (.func (.func 55) #[] #[.pointer (some ⟨w.heap.size, 0, none⟩), .pointer (some ⟨w2.heap.size, 0, none⟩)]) := HC_3.out.at_ (q := ⟨w2.heap.size + 1, 3, none⟩) (HNF.out _ (.inr (by show w2.heap.size ≤ w2.heap.size + 1; omega)) (fun h => absurd (show w2.heap.size + 1 < w.heap.size from h) (by omega))) (HS5.out.cell 3)
    go_wp2_with fail
    have HX := Lib.hid (fun z (h1 : z < w.heap.size + 3 ∨ w2.heap.size ≤ z) (h2 : z < w.heap.size → z = lp) (h3 : z < w5.heap.size) (h : G3 z) => (HG_3.out z h).1.elim (HNF.out z h1 h2) (fun h => by omega))
    refine (clos4 (last + 1) (by omega) (HX.out _ (.inl (by omega)) (fun h => absurd h (Nat.lt_irrefl _)) (by have := HSZ5.out; omega)) (HX.out _ (.inl (by omega)) (fun _ => rfl) (by have := HSZ5.out; omega)) (HX.out _ (.inr (Nat.le_refl _)) (fun h => absurd h (by omega)) (by have := HSZ5.out; omega)) HD_3.out (by omega) (fun z hz => (HG_3.out z hz).2) r0 r1 r3).mono ?_
    rintro e wa4 ⟨G4, rfl, hd, hc, hg⟩
    have HC_4 := Lib.hid (HC_3.out.trans hc fun z hz => (HG_3.out z hz).1)
    have HG_4 := Lib.hid (show ∀ z, G4 z → Grs F2 w5 wa4 z from fun z hz => ⟨(hg z hz).1.elim (fun h => (HG_3.out z h).1) (fun h => .inr (Nat.le_trans HC_3.out.size h)), (hg z hz).2⟩)
    clear hc hg r0 r1 r2 r3 r4 sk HX
    by_cases h0 : (y3.rename dB (nB (last + 1))).1 = 0
    case neg =>
      have HDD := Lib.hid hd
      have HQE := Lib.hid (steps_stop HY_3.out h0)
      have hne : decide ((y3.rename dB (nB (last + 1))).1 = 0) = false := decide_eq_false h0
      have HH0 := Lib.hid h0
      clear hd
      go_wp2
      go_ret
      refine ⟨by rw [HQE.out]; rfl, ?_, ?_⟩
      · rw [HQE.out, if_neg HH0.out]
        exact HCL.out wa4 _ (n + 5) _ HDD.out (by omega) (loop_new HN2.out HC2.out.size HB5.out.size HG_4.out) (loop_chg HN2.out HC2.out HB5.out HC_4.out)
      · exact (loop_chg HN2.out HC2.out HB5.out HC_4.out).weak fun z hz => HCF.out z hz
    rw [h0]
    obtain ⟨y4, hy4⟩ : ∃ y4, y4 = (y3.rename dB (nB (last + 1))).2 := ⟨_, rfl⟩
    have HY_4 := Lib.hid (steps_go HY_3.out h0)
    rw [← hy4] at hd HY_4
    have HD_4 := Lib.hid hd
    clear hd h0 hy4
    go_wp2
    rw [rounds_succ]
    have r0 : wa4.cell? ⟨w.heap.size, 0, none⟩ = some (.pointer (some ⟨lp, 0, none⟩)) := HC_4.out.at_ (q := ⟨w.heap.size, 0, none⟩) (HNF.out _ (.inl (by show w.heap.size < _; omega)) (fun h => absurd h (Nat.lt_irrefl _))) (HE05.out.cell 0)
    have r1 : wa4.cell? ⟨lp, 0, none⟩ = some (.pointer (some ⟨p, 0, none⟩)) := HC_4.out.at_ (q := ⟨lp, 0, none⟩) (HNF.out _ (.inl (by show lp < _; omega)) (fun _ => rfl)) (HLP5.out.cell 0)
    have r2 : wa4.cell? ⟨w.heap.size + 1, 0, none⟩ = some (.int .u8 ((kindB a).toNat : Int)) := HC_4.out.at_ (q := ⟨w.heap.size + 1, 0, none⟩) (HNF.out _ (.inl (by show w.heap.size + 1 < _; omega)) (fun h => absurd (show w.heap.size + 1 < w.heap.size from h) (by omega))) (HE15.out.cell 0)
    have r3 : wa4.cell? ⟨w2.heap.size, 0, none⟩ = some (.int .i64 ((last : Int) + 1)) := HC_4.out.at_ (q := ⟨w2.heap.size, 0, none⟩) (HNF.out _ (.inr (Nat.le_refl _)) (fun h => absurd (show w2.heap.size < w.heap.size from h) (by omega))) (HN5.out.cell 0)
    have r4 : wa4.cell? ⟨w.heap.size + 1 + 1, 0, none⟩ = some (.slice A0 l.length d0) := HC_4.out.at_ (q := ⟨w.heap.size + 1 + 1, 0, none⟩) (HNF.out _ (.inl (by show w.heap.size + 1 + 1 < _; omega)) (fun h => absurd (show w.heap.size + 1 + 1 < w.heap.size from h) (by omega))) (HE25.out.cell 0)
    have sk : wa4.cell? ⟨w2.heap.size + 1, 4, none⟩ = some (.func (.func 58) #[.pointer (some ⟨p, 0, none⟩)] #[]) := HC_4.out.at_ (q := ⟨w2.heap.size + 1, 4, none⟩) (HNF.out _ (.inr (by show w2.heap.size ≤ w2.heap.size + 1; omega)) (fun h => absurd (show w2.heap.size + 1 < w.heap.size from h) (by omega))) (HS5.out.cell 4)
    go_wp2_with fail
    have HX := Lib.hid (fun z (h1 : z < w.heap.size + 3 ∨ w2.heap.size ≤ z) (h2 : z < w.heap.size → z = lp) (h3 : z < w5.heap.size) (h : G4 z) => (HG_4.out z h).1.elim (HNF.out z h1 h2) (fun h => by omega))
    refine ((dk_syncdir wa4 G4 p (n + 5) y4 HD_4.out (by omega)).mono (fun _ _ h => DkPost.step h)).mono ?_
    rintro e wa5 ⟨G5, rfl, hd, hc, hg⟩
    have HC_5 := Lib.hid (HC_4.out.trans hc fun z hz => (HG_4.out z hz).1)
    have HG_5 := Lib.hid (show ∀ z, G5 z → Grs F2 w5 wa5 z from fun z hz => ⟨(hg z hz).1.elim (fun h => (HG_4.out z h).1) (fun h => .inr (Nat.le_trans HC_4.out.size h)), (hg z hz).2⟩)
    clear hc hg r0 r1 r2 r3 r4 sk HX
    by_cases h0 : (y4.syncDir).1 = 0
    case neg =>
      have HDD := Lib.hid hd
      have HQE := Lib.hid (steps_stop HY_4.out h0)
      have hne : decide ((y4.syncDir).1 = 0) = false := decide_eq_false h0
      have HH0 := Lib.hid h0
      clear hd
      go_wp2
      go_ret
      refine ⟨by rw [HQE.out]; rfl, ?_, ?_⟩
      · rw [HQE.out, if_neg HH0.out]
        exact HCL.out wa5 _ (n + 6) _ HDD.out (by omega) (loop_new HN2.out HC2.out.size HB5.out.size HG_5.out) (loop_chg HN2.out HC2.out HB5.out HC_5.out)
      · exact (loop_chg HN2.out HC2.out HB5.out HC_5.out).weak fun z hz => HCF.out z hz
    rw [h0]
    obtain ⟨y5, hy5⟩ : ∃ y5, y5 = (y4.syncDir).2 := ⟨_, rfl⟩
    have HY_5 := Lib.hid (steps_go HY_4.out h0)
    rw [← hy5] at hd HY_5
    have HD_5 := Lib.hid hd
    clear hd h0 hy5
    go_wp2
    rw [rounds_succ]
    have r0 : wa5.cell? ⟨w.heap.size, 0, none⟩ = some (.pointer (some ⟨lp, 0, none⟩)) := HC_5.out.at_ (q := ⟨w.heap.size, 0, none⟩) (HNF.out _ (.inl (by show w.heap.size < _; omega)) (fun h => absurd h (Nat.lt_irrefl _))) (HE05.out.cell 0)
    have r1 : wa5.cell? ⟨lp, 0, none⟩ = some (.pointer (some ⟨p, 0, none⟩)) := HC_5.out.at_ (q := ⟨lp, 0, none⟩) (HNF.out _ (.inl (by show lp < _; omega)) (fun _ => rfl)) (HLP5.out.cell 0)
    have r2 : wa5.cell? ⟨w.heap.size + 1, 0, none⟩ = some (.int .u8 ((kindB a).toNat : Int)) := HC_5.out.at_ (q := ⟨w.heap.size + 1, 0, none⟩) (HNF.out _ (.inl (by show w.heap.size + 1 < _; omega)) (fun h => absurd (show w.heap.size + 1 < w.heap.size from h) (by omega))) (HE15.out.cell 0)
    have r3 : wa5.cell? ⟨w2.heap.size, 0, none⟩ = some (.int .i64 ((last : Int) + 1)) := HC_5.out.at_ (q := ⟨w2.heap.size, 0, none⟩) (HNF.out _ (.inr (Nat.le_refl _)) (fun h => absurd (show w2.heap.size < w.heap.size from h) (by omega))) (HN5.out.cell 0)
    have r4 : wa5.cell? ⟨w.heap.size + 1 + 1, 0, none⟩ = some (.slice A0 l.length d0) := HC_5.out.at_ (q := ⟨w.heap.size + 1 + 1, 0, none⟩) (HNF.out _ (.inl (by show w.heap.size + 1 + 1 < _; omega)) (fun h => absurd (show w.heap.size + 1 + 1 < w.heap.size from h) (by omega))) (HE25.out.cell 0)
    have HL5 := Lib.hid (show Blk wa5 lp 71 #[.pointer (some ⟨p, 0, none⟩), vc, .int .i64 (last : Int), .bool fl] from (HC_5.out.block lp (by have := HSZ5.out; omega) (HNF.out _ (.inl (by omega)) (fun _ => rfl))).trans HLP5.out)
    have fz := HL5.out.frozen 2
    have l2 : wa5.cell? ⟨lp, 2, none⟩ = some (.int .i64 (last : Int)) := HL5.out.cell 2
    have HQE := Lib.hid (show q = (0, y5) from HY_5.out)
    go_wp2
    go_ret
    refine ⟨by rw [HQE.out]; rfl, ?_, ?_⟩
    · rw [HQE.out, if_pos rfl]
      refine (log_last (HCL.out wa5 G5 (n + 6) y5 HD_5.out (Nat.le_refl _) (loop_new HN2.out HC2.out.size HB5.out.size HG_5.out) (loop_chg HN2.out HC2.out HB5.out HC_5.out)) (last + 1)).mono (fun k h => ?_) (Nat.le_refl _)
      exact h.elim .inl fun h => .inr ⟨h.1, by simpa [World.setCell] using h.2⟩
    · exact ((loop_chg HN2.out HC2.out HB5.out HC_5.out).weak fun z hz => HCF.out z hz).setCell (p := ⟨lp, 2, none⟩) (.inl HF4.out) _
end Go.Proofs.YtfchnpdgnhoffaaGreatDoor
namespace Go.Proofs.YtfchnpdgnhoffaaGreatDoor
open Go.RowKit Go.Shelf Go.Maps

theorem New.below {F : Nat → Prop} {w w1 w' : World} (hs : w.heap.size ≤ w1.heap.size) {k : Nat} (h : New F w1 w' k) : New F w w' k := h.elim .inl fun h => .inr ⟨by omega, h.2⟩
theorem New.more {F : Nat → Prop} {w w1 w' : World} (hs : w1.heap.size ≤ w'.heap.size) {k : Nat} (h : New F w w1 k) : New F w w' k := h.elim .inl fun h => .inr ⟨h.1, by omega⟩
theorem RecAt.rowed {w w' : World} {G : Nat → Prop} {u v : Value} {b : Rec} {base n : Nat} {xs : List Value} (h : RecAt w G u b) (hv : w.ownsRow base 25 1 v n xs) (hg : w.grownBy w' v.ownBlock) : RecAt w' G u b :=
  ⟨own_keep h.1 fun k hk hlt => hg.block k hlt fun e2 => (IsT.of_own hv e2.symm).ne (IsT.of_own h.1 hk) (by decide) rfl, h.2⟩
theorem Dk.grown {w w' : World} {F : Nat → Prop} {p n : Nat} {x : PS} {row : Option Nat} (h : Dk w F p n x) (hg : w.grownBy w' row) (hr : ∀ k, row = some k → ¬ F k) : Dk w' F p n x := h.keep fun k hk hlt => hg.block k hlt fun e => hr k e.symm hk
theorem Dk.set_ {w : World} {F : Nat → Prop} {p n : Nat} {x : PS} (h : Dk w F p n x) {lp : Nat} (hl : ¬ F lp) (i : Nat) (u : Value) : Dk (w.setCell ⟨lp, i, none⟩ u) F p n x := h.keep fun k hk _ => Below.heap_setCell _ _ _ _ (by rintro rfl; exact hl hk)
def AppendPostW (w : World) (F : Nat → Prop) (lp p n : Nat) (q : Int × PS) (c : List Rec) (b : Rec) (last : Nat) (e : Ending) (w' : World) : Prop :=
  e = .returned (.int .i64 q.1) ∧ LogAt w' (New F w w') lp p (n + 6) q.2 (if q.1 = 0 then c ++ [b] else c) (if q.1 = 0 then last + 1 else last) (decide (q.1 ≠ 0)) ∧ Chg F w w'
set_option maxRecDepth 100000 in
set_option maxHeartbeats 12800000 in
theorem log_append (b : Rec) (u : Value) (H : Nat → Prop) (w : World) (F : Nat → Prop) (lp p n : Nat) (x : PS) (c : List Rec) (last : Nat) (fl : Bool) (h : LogAt w F lp p n x c last fl) (hF : ∀ k, F k → k < w.heap.size) (hn : n ≤ 9990) (hl : last ≤ 97)
    (hc : Sm c) (hr : ByR w H u b) (hH : ∀ k, H k → ¬ F k) (hL : (entL ⟨false, [b]⟩ (last + 1)).length ≤ 90000) (hb : b.length ≤ 50000) :
    Calls Tryz.prog 14 #[.pointer (some ⟨lp, 0, none⟩), u] w (AppendPostW w F lp p n (commitP x (entL ⟨false, [b]⟩ (last + 1)) (last + 1)) c b last) := by
  obtain ⟨i5, hi5, hz50, hz51, hz52⟩ := info_parts info5
  obtain ⟨i25, hi25, hz250, hz251, hz252⟩ := info_parts info25
  have HI5 := Lib.hid hi5
  have HZ50 := Lib.hid hz50
  have HZ51 := Lib.hid hz51
  have HZ52 := Lib.hid hz52
  have HI25 := Lib.hid hi25
  have HZ250 := Lib.hid hz250
  have HZ251 := Lib.hid hz251
  have HZ252 := Lib.hid hz252
  obtain ⟨A0, d0, hu, hdc, hR, hG0⟩ := hr
  subst hu
  have HBx := Lib.hid (show Below w.heap.size w (w.alloc (.cells #[.slice A0 b.length d0] 25)) from (Below.refl _ _).alloc (Nat.le_refl _) _)
  have HRS := Lib.hid (show RecsR (w.alloc (.cells #[.slice A0 b.length d0] 25)) (fun k => H k ∨ k = w.heap.size) (.slice (some ⟨w.heap.size, 0, none⟩) 1 1) [b] from
    ⟨_, 1, [.slice A0 b.length d0], rfl, Nat.le_refl _, by have := reads_new1 w 25 (.slice A0 b.length d0); rw [World.size_alloc]; exact this, fun ad e _ => .inr (by injection e with e; rw [← e]), fun i u b2 h1 h2 => by
      have hi : i = 0 := by have := (List.getElem?_eq_some_iff.1 h1).1; simp at this; omega
      subst hi
      simp only [List.getElem?_cons_zero, Option.some.injEq] at h1 h2
      subst h1 h2
      exact (ByR.below ⟨A0, d0, rfl, hdc, hR, fun ad ea h0 => .inl (hG0 ad ea h0)⟩ HBx.out)⟩)
  obtain ⟨q, hq⟩ : ∃ q, q = commitP x (entL ⟨false, [b]⟩ (last + 1)) (last + 1) := ⟨_, rfl⟩
  have HQ := Lib.hid hq
  rw [← hq]
  have HLG := Lib.hid h
  have HF := Lib.hid hF
  have HC := Lib.hid hc
  have HR := Lib.hid hR
  have HG0 := Lib.hid hG0
  have HH := Lib.hid hH
  have HL := Lib.hid hL
  have hlp := h.lt
  have HFL := Lib.hid h.own.1
  clear hi5 hz50 hz51 hz52 hi25 hz250 hz251 hz252 h hF hc hR hG0 hH hL hq
  go_enter Tryz.func14, Tryz.ntmps14
  go_wp2_with fail
  refine (commit_any false [b] (.slice (some ⟨w.heap.size, 0, none⟩) 1 1) (fun k => H k ∨ k = w.heap.size) (w.alloc (.cells #[.slice A0 b.length d0] 25)) F lp p n x c last fl (HLG.out.below HBx.out) (fun k hk => by have := HF.out k hk; simp; omega) hn hl HRS.out (fun k hk hf => by
    rcases hk with hk | hk
    · exact HH.out k hk hf
    · have := HF.out k hf; omega) (by simp) HL.out (fun y hy => by rw [List.mem_singleton.1 hy]; omega)).mono ?_
  rintro e w1 ⟨rfl, hlog, hch⟩
  rw [← HQ.out] at hlog ⊢
  have hs1 := hch.size
  rw [World.size_alloc] at hs1
  have hR1 : Reads w1 w1.heap.size 1 A0 b.length (bytesV b) := reads_keep HR.out (by omega) fun h0 ad ea => (hch.block _ (by obtain ⟨ad2, e2, hlt, -⟩ := HR.out.2 h0; rw [ea] at e2; injection e2 with e2; subst e2; simp; omega) (HH.out _ (HG0.out ad ea h0))).trans (HBx.out.block _ (by obtain ⟨ad2, e2, hlt, -⟩ := HR.out.2 h0; rw [ea] at e2; injection e2 with e2; subst e2; exact hlt))
  have HLOG := Lib.hid hlog
  obtain ⟨Fd, G, vc, h1, h2, ⟨vs, ho, hgo, hrec⟩, h4, h5, h6, h7, h8⟩ := hlog
  obtain ⟨Ac, dc, hvc⟩ := own_slice ho
  subst hvc
  have hAd : 0 < b.length → ∀ ad, A0 = some ad → ad.block ≠ lp := fun h0 ad ea e => HH.out _ (HG0.out ad ea h0) (by rw [e]; exact HFL.out)
  have f3 : w1.cell? ⟨lp, 3, none⟩ = some (.bool fl) := h2.cell 3
  have f1 : w1.cell? ⟨lp, 1, none⟩ = some (.slice Ac c.length dc) := h2.cell 1
  have z3 := h2.frozen 3
  have z1 := h2.frozen 1
  have HCH := Lib.hid (chg_below HBx.out hch)
  have HD1 := Lib.hid h1
  have HB1 := Lib.hid h2
  have HO1 := Lib.hid ho
  have HGO := Lib.hid hgo
  have HREC := Lib.hid hrec
  have HR1 := Lib.hid hR1
  have HAD := Lib.hid hAd
  have H4 := Lib.hid h4
  have H7 := Lib.hid h7
  have H8 := Lib.hid h8
  clear hch hR1 h1 h2 ho hgo hrec hAd h4 h7 h8
  by_cases h0 : q.1 = 0
  case neg =>
    have hne : decide (q.1 = 0) = false := decide_eq_false h0
    have HH0 := Lib.hid h0
    have hbn : (q.1 != 0) = true := by simp [h0]
    go_wp2
    go_ret
    refine ⟨rfl, ?_, HCH.out.setCell (p := ⟨lp, 3, none⟩) (.inl HFL.out) _⟩
    rw [if_neg HH0.out, if_neg HH0.out, decide_eq_true HH0.out]
    have hlg := log_fail HLOG.out true
    rw [if_neg HH0.out] at hlg
    exact hlg.mono (fun k hk => hk.elim .inl fun h => .inr ⟨by have := h.1; rw [World.size_alloc] at this; omega, by simpa [World.setCell] using h.2⟩) (Nat.le_refl _)
  have HH0 := Lib.hid h0
  have HB1' := Lib.hid (show Blk w1 lp 71 #[.pointer (some ⟨p, 0, none⟩), .slice Ac c.length dc, .int .i64 ((last + 1 : Nat) : Int), .bool fl] by have := HB1.out; rwa [if_pos h0] at this)
  rw [h0]
  obtain ⟨w2, hw2⟩ : ∃ w2, w2 = w1.setCell ⟨lp, 3, none⟩ (.bool false) := ⟨_, rfl⟩
  have HW2 := Lib.hid hw2
  have hs2 : w2.heap.size = w1.heap.size := by rw [hw2]; simp [World.setCell]
  have HK2 := Lib.hid (show ∀ k, k ≠ lp → w2.heap[k]? = w1.heap[k]? from fun k hk => by rw [hw2]; exact Below.heap_setCell _ _ _ _ hk)
  have HB2 := Lib.hid (show Blk w2 lp 71 #[.pointer (some ⟨p, 0, none⟩), .slice Ac c.length dc, .int .i64 ((last + 1 : Nat) : Int), .bool false] by rw [hw2]; exact HB1'.out.set_ 3 _)
  have HR2 := Lib.hid (show Reads w2 w2.heap.size 1 A0 b.length (bytesV b) from reads_keep HR1.out (by omega) fun h0 ad ea => HK2.out _ (HAD.out h0 ad ea))
  have HO2 := Lib.hid (show w2.ownsRow 0 25 1 (.slice Ac c.length dc) c.length vs from own_keep HO1.out fun k hk _ => HK2.out k (by rintro rfl; exact h6 (HGO.out _ hk)))
  have HD2 := Lib.hid (show Dk w2 Fd p (n + 6) q.2 from HD1.out.keep fun k hk _ => HK2.out k (by rintro rfl; exact h5 hk))
  have HREC2 := Lib.hid (show ∀ (i : Nat) (u : Value) (y : Rec), vs[i]? = some u → c[i]? = some y → RecAt w2 G u y from fun i u y e1 e2 => (HREC.out i u y e1 e2).keep fun k hk _ => HK2.out k (by rintro rfl; exact h6 hk))
  have HCH2 := Lib.hid (show Chg F w w2 by rw [hw2]; exact HCH.out.setCell (p := ⟨lp, 3, none⟩) (.inl HFL.out) _)
  have hcl := HC.out.1
  have k1 : w2.cell? ⟨lp, 1, none⟩ = some (.slice Ac c.length dc) := HB2.out.cell 1
  clear hw2
  go_upto_region 4 with fail
  rw [← HW2.out]
  clear f3 f1 z3 z1
  go_region_law (first
    | (refine step_append_any w2.drew (by rfl) (.const (.slice none 0 0)) (.tmp 25) 25 (by rfl) w2.heap.size 5 i5 (.int .u8 0) 1 1 Tryz.underlying25 HI5.out HZ50.out HZ51.out HZ52.out rfl (by omega) (.slice none 0 0) 0 [] (by rfl) (World.ownsRow_nil _ _ _ _) w2.heap.size A0 b.length d0 (bytesV b) (by rfl) HR2.out.drew (bytesV_one _) (by simp [maxLen]; omega) (by omega) (by simp) ?_; intro v4 w4 hown4 hgrow4 _; rw [Nat.zero_add, List.nil_append] at hown4; obtain ⟨A4, d4, hv4⟩ := own_slice hown4; subst hv4; have hs4 := hgrow4.size; rw [World.size_drew] at hs4; have hb4 : Below w2.heap.size w2 w4 := ⟨hgrow4.os, hgrow4.tape, hgrow4.output, hs4, fun k hk => hgrow4.block k hk (fun e => by { cases e })⟩; have y1 : w4.cell? ⟨lp, 1, none⟩ = some (.slice Ac c.length dc) := (HB2.out.below hb4 (by omega)).cell 1; have y2 : (w4.alloc (.cells #[.slice A4 b.length d4] 25)).cell? ⟨lp, 1, none⟩ = some (.slice Ac c.length dc) := ((HB2.out.below hb4 (by omega)).alloc _).cell 1; have HW4 := Lib.hid hown4; have HB4 := Lib.hid hb4; clear hown4 hgrow4 hb4)
    | (refine step_append_any (w4.alloc (.cells #[.slice A4 b.length d4] 25)) (by rfl) (.tmp 24) (.tmp 27) 29 (by rfl) 0 25 i25 (.slice none 0 0) 1 24 Tryz.underlying29 HI25.out HZ250.out HZ251.out HZ252.out rfl (by omega) (.slice Ac c.length dc) c.length vs (by rfl) ((own_keep HO2.out (fun k _ hk => HB4.out.block k hk)).alloc _) (w4.heap.size + 1) (some ⟨w4.heap.size, 0, none⟩) 1 1 [.slice A4 b.length d4] (by rfl) (reads_new1 _ _ _) (slice_one _ _ _) (by simp [maxLen]; omega) (by omega) (by simp) ?_; intro v6 w6 hown6 hgrow6 hor6; obtain ⟨A6, d6, hv6⟩ := own_slice hown6; subst hv6; have hs6 := hgrow6.size; rw [World.size_alloc] at hs6; have hbk6 : Blk w6 lp 71 _ := ((HB2.out.below HB4.out (by omega)).alloc _).grown hgrow6 (fun e => by { exact h6 (HGO.out _ e.symm) }); have z61 := hbk6.frozen 1; have y61 : w6.cell? ⟨lp, 1, none⟩ = some (.slice Ac c.length dc) := hbk6.cell 1; have HBK6 := Lib.hid hbk6; have HW6 := Lib.hid hown6; have HG6 := Lib.hid hgrow6; have HOR := Lib.hid hor6; clear hown6 hgrow6 hbk6 hor6))
  all_goals
    go_wp2
    go_ret
    have hba : Below w2.heap.size w2 (w4.alloc (.cells #[.slice A4 b.length d4] 25)) := HB4.out.alloc hs4 _
    have hG8 : ∀ y, G y → F y ∨ (w.heap.size ≤ y ∧ y < w1.heap.size) := fun y hy => (H8.out y hy).elim .inl fun h => .inr ⟨by have := h.1; rw [World.size_alloc] at this; omega, h.2⟩
    have hF8 : ∀ y, Fd y → F y ∨ (w.heap.size ≤ y ∧ y < w1.heap.size) := fun y hy => (H7.out y hy).1.elim .inl fun h => .inr ⟨by have := h.1; rw [World.size_alloc] at this; omega, h.2⟩
    have hGlt : ∀ y, G y → y < w2.heap.size := fun y hy => (hG8 y hy).elim (fun h => by have := HF.out y h; omega) (fun h => by omega)
    have hFlt : ∀ y, Fd y → y < w2.heap.size := fun y hy => (hF8 y hy).elim (fun h => by have := HF.out y h; omega) (fun h => by omega)
    have hrec : RecsAt w6 (fun k => G k ∨ (w2.heap.size ≤ k ∧ k < w6.heap.size)) (.slice A6 (c.length + 1) d6) (c ++ [b]) := by
      refine ⟨_, by rw [List.length_append]; exact HW6.out, fun k hk => ?_, fun i u y e1 e2 => ?_⟩
      · have hlt6 := (HW6.out.lt k hk).2
        rcases HOR.out with e | e
        · exact .inl (HGO.out k (e ▸ hk))
        · rw [hk] at e
          injection e with e
          rw [World.size_alloc] at e
          exact .inr ⟨by omega, hlt6⟩
      · have hvl : vs.length = c.length := by have := HO2.out.1; omega
        have hown : (w4.alloc (.cells #[.slice A4 b.length d4] 25)).ownsRow 0 25 1 (.slice Ac c.length dc) c.length vs := own_keep HO2.out fun k _ hk => hba.block k hk
        rcases Nat.lt_or_ge i c.length with h3 | h3
        · rw [List.getElem?_append_left (by omega)] at e1
          rw [List.getElem?_append_left h3] at e2
          exact (((HREC2.out i u y e1 e2).below hba).rowed hown HG6.out).mono fun k _ h => .inl h
        · rw [List.getElem?_append_right (by omega), hvl] at e1
          rw [List.getElem?_append_right h3] at e2
          have hi : i - c.length = 0 := by have := (List.getElem?_eq_some_iff.1 e1).1; simp at this; omega
          rw [hi] at e1 e2
          simp only [List.getElem?_cons_zero, Option.some.injEq] at e1 e2
          subst e1 e2
          have hr4 : RecAt w4 (fun k => w2.heap.size ≤ k ∧ k < w4.heap.size) (.slice A4 b.length d4) b := ⟨own_low HW4.out (Nat.zero_le _), fun k hk => HW4.out.lt k hk⟩
          exact ((hr4.below ((Below.refl _ w4).alloc (Nat.le_refl _) _)).rowed hown HG6.out).mono fun k _ h => .inr ⟨h.1, by omega⟩
    refine ⟨by rw [HH0.out]; rfl, ?_, ?_⟩
    · rw [if_pos HH0.out, if_pos HH0.out, decide_eq_false (fun h => h HH0.out)]
      refine ⟨Fd, _, _, ((HD2.out.below hba).grown HG6.out fun k hk hf => (H7.out k hf).2 (HGO.out k hk)).set_ h5 1 _, HBK6.out.set_ 1 _, hrec.keep fun k hk _ => Below.heap_setCell _ _ _ _ ?_, .inl HFL.out, h5, ?_, fun y hy => ⟨(hF8 y hy).elim .inl fun h => .inr ⟨h.1, by have := h.2; simp [World.setCell]; omega⟩, ?_⟩, ?_⟩
      · rintro rfl
        exact hk.elim h6 fun h => by omega
      · exact fun h => h.elim h6 fun h => by omega
      · exact fun h => h.elim (H7.out y hy).2 fun h => by have := hFlt y hy; omega
      · exact fun y hy => hy.elim (fun h => (hG8 y h).elim .inl fun h => .inr ⟨h.1, by have := h.2; simp [World.setCell]; omega⟩) fun h => .inr ⟨by omega, by simpa [World.setCell] using h.2⟩
    · refine Chg.setCell (p := ⟨lp, 1, none⟩) (((HCH2.out.below HB4.out (by omega)).alloc _).grown HG6.out fun k hk => (hG8 k (HGO.out k hk)).elim .inl fun h => .inr h.1) (.inl HFL.out) _
end Go.Proofs.YtfchnpdgnhoffaaGreatDoor
