/- The walk of WalResumes (5). -/
import Derived.Deep.RegionHeld3
import Derived.Test.YtfchnpdgnhoffaaGreatDoorWRes
namespace Go.Proofs.YtfchnpdgnhoffaaGreatDoor
open Go.RowKit Go.Shelf Go.Maps

def DoneR (w : World) (wp n : Nat) (i : Value) (wr : World) : Prop := ∃ k : Nat, k ≤ n ∧ k ≤ 60 ∧ i = .int .i64 k ∧ Cur w wp k (fun _ => True) wr
def WaitR (w : World) (wp c0 : Nat) (i : Value) (wr : World) : Prop := ∃ j : Nat, j ≤ 12 ∧ i = .int .i64 j ∧ Cur w wp (61 + j) (Waits c0 j) wr
def FedR (w : World) (wp m n : Nat) (x i : Value) (wr : World) : Prop := ∃ j : Nat, j ≤ n ∧ j ≤ 10 ∧ x = .int .i64 j ∧ i = .int .i64 j ∧ Fed w wp (73 + j) (m + j) wr
set_option maxRecDepth 100000 in
set_option maxHeartbeats 25600000 in
theorem resumes_any (w : World) (hS : SynW w) (A : Option Addr) (n c : Nat) (hO : OpsAt w A n) (hn : n ≤ maxLen) (cr : Bool) (vm : Value) (lm : List Rec) (hRm : RecsR w (fun y => y < w.heap.size) vm lm) (hlm : lm.length ≤ maxLen) (hbm : ∀ b ∈ lm, b.length ≤ maxLen) :
    Calls Tryz.prog 5 #[.slice A n c, .bool cr, vm] w fun e w' => e = .returned (.bool true) ∧ Below w.heap.size w w' := by
  obtain ⟨Aa, da, usa, hva, hda, hra, -, hrra⟩ := id hRm
  subst hva
  obtain ⟨na, hna⟩ : ∃ n, n = lm.length := ⟨_, rfl⟩
  have hula : usa.length = na := by have := hra.1; omega
  have hnal : na ≤ 9223372036854775807 := by unfold maxLen at hlm; omega
  have HRAA := Lib.hid (show Reads w w.heap.size 1 Aa na usa by rw [hna]; exact hra)
  have HRRA := Lib.hid hrra
  have HULA := Lib.hid hula
  have HNA := Lib.hid hna
  have HBM := Lib.hid hbm
  have HO := Lib.hid hO
  have HS := Lib.hid hS
  have h0w := hS.lt
  unfold maxLen at hn
  rw [← hna]
  clear hO hS hRm hlm hbm hda hra hrra hula hna
  go_enter Tryz.func5, Tryz.ntmps5
  go_wp2_with fail
  refine (begun_any w HS.out).mono ?_
  rintro e w1 ⟨wp, rfl, hwp, hat, hb1⟩
  have HC1 := Lib.hid ((ls0_cur hat hb1).turn (T' := fun _ => True) fun _ _ => trivial)
  clear hat hb1
  go_wp2_with fail
  go_loopw [8] (fun i wr => DoneR w wp n i wr) (fun i _ => n - (intOf i).toNat)
  case atStart => exact ⟨0, Nat.zero_le _, Nat.zero_le _, rfl, HC1.out⟩
  case round =>
    obtain ⟨k, hk, hk60, rfl, hcur⟩ := hrel
    have HCU := Lib.hid hcur
    have hb := hcur.world
    have hsz := hb.size
    by_cases hlt : k < n ∧ k < 60
    · obtain ⟨hl1, hl2⟩ := hlt
      obtain ⟨d, rfl, hdl, o, vr, vrs, vcu, hop⟩ := HO.out k hl1
      have hadd : ∀ j, j ≠ 0 → d.add (k * 6 + j) = ⟨(d.add (k * 6)).block, (d.add (k * 6)).off + j, none⟩ := fun j hj => by
        rw [← add_of_add]
        generalize d.add (k * 6) = b
        unfold Addr.add
        rw [if_neg hj]
      have hcell : ∀ j v, w.cell? (d.add (k * 6 + j)) = some v → wr.cell? (d.add (k * 6 + j)) = some v := fun j v h => (hb.cell (by rw [block_of_add]; exact hdl)).trans h
      obtain ⟨Ar, dr, hvr, -⟩ := id hop.val.rec_
      obtain ⟨Ac, mc, dc, hvrs⟩ := recs_slice hop.val.recs
      obtain ⟨Au, du, hvcu, -⟩ := id hop.val.cuts
      subst hvr hvrs hvcu
      have x0 := hcell 0 _ hop.c0
      have x1 := hcell 1 _ hop.c1
      have x2 := hcell 2 _ hop.c2
      have x3 := hcell 3 _ hop.c3
      have x4 := hcell 4 _ hop.c4
      have x5 := hcell 5 _ hop.c5
      rw [Nat.add_zero] at x0
      rw [hadd 1 (by omega)] at x1
      rw [hadd 2 (by omega)] at x2
      rw [hadd 3 (by omega)] at x3
      rw [hadd 4 (by omega)] at x4
      rw [hadd 5 (by omega)] at x5
      have HV := Lib.hid (hop.val.below hb)
      clear hadd hcell hop hdl hcur hb
      go_wp2_with fail
      refine (cur_does HCU.out (by omega) o _ _ _ HV.out).mono ?_
      rintro e w2 ⟨rfl, hc2⟩
      have HC2 := Lib.hid hc2
      clear hc2 x0 x1 x2 x3 x4 x5
      go_wp2
      exact ⟨⟨k + 1, by omega, by omega, by go_num, HC2.out⟩, by simp [intOf]; omega⟩
    · have hend : (k < n → ¬ k < 60) := fun h1 h2 => hlt ⟨h1, h2⟩
      have hcur2 := hcur.mono (m := 60) hk60
      obtain ⟨st, hst, hst1, hcs⟩ := hcur2.stop
      obtain ⟨w3, hw3⟩ : ∃ w3, w3 = wr.alloc (.cells #[.int .i64 1, .int .i64 2, .int .i64 3] 3) := ⟨_, rfl⟩
      have hb3 : Below wr.heap.size wr w3 := by rw [hw3]; exact (Below.refl _ _).alloc (Nat.le_refl _) _
      have hs3 : w3.heap.size = wr.heap.size + 1 := by rw [hw3]; simp
      have hr3 := reads_123 wr
      rw [← hw3, ← hs3] at hr3
      obtain ⟨p, hp, -⟩ := hcur2.disk (by omega)
      obtain ⟨p2, hp2, hcr⟩ := (hcur2.below hb3).disk (by omega)
      have hpp := hp2.symm.trans ((hb3.cell (p := ⟨wp, 0, none⟩) (World.block_lt_of_cell? wr _ hp)).trans hp)
      injection hpp with hpp
      injection hpp with hpp
      injection hpp with hpp
      injection hpp with hpp
      subst hpp
      have HW3 := Lib.hid hw3
      have HR3 := Lib.hid hr3
      have HCR := Lib.hid hcr
      have HCS := Lib.hid hcs
      clear hlt hb hcur hcur2 hcs hw3 hb3 hs3 hr3 hp2 hcr
      by_cases g1 : k < n
      case' pos =>
        have g2 := hend g1
        clear hend
      case' neg =>
        clear hend
      all_goals
        go_upto_region 9 with fail
        go_cut [40] from 33 to 39 (fun s40 wx => wx = wr ∧ ∃ B : Bool, s40 = .bool B ∧ (B = false → cr = false ∧ ¬ 0 ≤ st))
        case first =>
          cases cr with
          | true =>
            go_wp2_with fail
            go_meet
            exact ⟨rfl, true, rfl, fun h => by cases h⟩
          | false =>
            by_cases h0 : 0 ≤ st
            · have hd0 : decide (0 ≤ st) = true := decide_eq_true h0
              go_wp2_with fail
              go_meet
              exact ⟨rfl, true, rfl, fun h => by cases h⟩
            · have hd0 : decide (0 ≤ st) = false := decide_eq_false h0
              go_wp2_with fail
              go_meet
              exact ⟨rfl, false, rfl, fun _ => by first | exact ⟨rfl, h0⟩ | exact ⟨trivial, h0⟩⟩
        case rest =>
          obtain ⟨hwc, B, hB1, hB⟩ := hcut
          subst hwc hB1
          have HBB := Lib.hid hB
          clear hB
          go_upto_if 40 with fail
          go_cut [] from 41 to 55 (fun wx => ∃ c0, Cur w wp 61 (Waits c0 0) wx)
          case first =>
            cases B with
            | true =>
              go_wp2_with fail
              rw [← HW3.out]
              refine (HCR.out w3 _ 3 3 [1, 2, 3] (fun t => t.x.flts = [] ∧ t.x.stop = -1) ⟨0, rfl⟩ rfl HR3.out (Nat.le_refl _) fun _ _ _ h => ⟨h.flts, h.xstop⟩).mono ?_
              rintro e w6 ⟨rfl, hlost⟩
              have HLO := Lib.hid hlost
              clear hlost
              go_wp2_with fail
              refine (lost_reset HLO.out (fun _ h => h) (by omega)).mono ?_
              rintro e w8 ⟨rfl, v4, st2, x4, ⟨A4, m4, d4, hv4⟩, z4, x5, z5, hc8⟩
              subst hv4
              have HC8 := Lib.hid (hc8.turn (T' := fun s => s.stop = -1) fun _ h => h.1)
              clear hc8
              go_wp2_with fail
              go_meet
              exact HC8.out.waited
            | false =>
              have HCZ := Lib.hid ((HCS.out.turn (T' := fun s => s.stop = -1) fun _ h => by have := h.2; have := (HBB.out rfl).2; omega).mono (m := 61) (by omega))
              go_wp2_with fail
              go_meet
              exact HCZ.out.waited
          case rest =>
            obtain ⟨c0, hcw⟩ := hcut
            have HCW := Lib.hid hcw
            clear hcw
            go_wp2_with fail
            go_loopw [9] (fun i wr => WaitR w wp c0 i wr) (fun i _ => 12 - (intOf i).toNat)
            case atStart => exact ⟨0, Nat.zero_le _, rfl, HCW.out⟩
            case round =>
              obtain ⟨j, hj, rfl, hcj⟩ := hrel
              obtain ⟨p3, cn, ls, A3, m3, d3, y0, y4, h11, h22, hfew, hpast⟩ := hcj.waits (by omega)
              have HCJ := Lib.hid hcj
              have H11 := Lib.hid h11
              have H22 := Lib.hid h22
              have HPA := Lib.hid hpast
              have hd40 : decide ((j : Int) < 40) = true := decide_eq_true (by omega)
              have hd41 : decide (j < 40) = true := decide_eq_true (by omega)
              by_cases hle : (cn : Int) ≤ ls
              · have hj11 := hfew hle
                have hq1 : decide ((cn : Int) ≤ ls) = true := decide_eq_true hle
                clear hfew hpast hcj h11 h22 hle
                go_upto_region 15 with fail
                go_quiet ((first | (go_at_call 11; exact Calls.quiet_of_same (H11.out _)) | (go_at_call 22; exact Calls.quiet_of_same (H22.out _))))
                clear hd40 hd41 hq1 y0 y4
                go_wp2_with fail
                refine (cur_fresh (HCJ.out.below (below_drewN (Below.refl _ _) nq)) (by omega) ((Below.refl _ _).alloc (Nat.le_refl _) _) _ _ (by_one _ _ ⟨by omega, by omega⟩) (by simp [maxLen]) (T' := Waits c0 (j + 1)) fun s s' h hc => waits_call h hc).mono ?_
                rintro e w9 ⟨rfl, hc9⟩
                have HC9 := Lib.hid hc9
                clear hc9
                go_wp2
                exact ⟨⟨j + 1, by omega, by go_num, HC9.out⟩, by simp [intOf]; omega⟩
              · have hq1 : decide ((cn : Int) ≤ ls) = false := decide_eq_false hle
                have hcp := hpast hle
                obtain ⟨m0, hm0, hfd⟩ := (hcp.mono (m := 73) (by omega)).fed
                have HFD := Lib.hid hfd
                clear hfew hpast hcj h11 h22 hle hcp hfd
                go_upto_region 15 with fail
                go_quiet ((first | (go_at_call 11; exact Calls.quiet_of_same (H11.out _)) | (go_at_call 22; exact Calls.quiet_of_same (H22.out _))))
                clear hd40 hd41
                obtain ⟨w7, hw7⟩ : ∃ w7, w7 = wr.drewN nq := ⟨_, rfl⟩
                rw [← hw7]
                have H11b := Lib.hid (show ∀ z, Calls Tryz.prog 11 #[.pointer (some ⟨p3, 0, none⟩)] (w7.drewN z) fun e w' => e = .returned (.int .i64 (cn : Int)) ∧ w' = w7.drewN z from fun z => by rw [hw7, World.drewN_drewN]; exact H11.out _)
                have H22b := Lib.hid (show ∀ z, Calls Tryz.prog 22 #[.slice A3 m3 d3] (w7.drewN z) fun e w' => e = .returned (.int .i64 ls) ∧ w' = w7.drewN z from fun z => by rw [hw7, World.drewN_drewN]; exact H22.out _)
                have HFD7 := Lib.hid (show Fed w wp 73 m0 w7 by rw [hw7]; exact HFD.out.drewN nq)
                have y0b : w7.cell? ⟨wp, 0, none⟩ = some (.pointer (some ⟨p3, 0, none⟩)) := by rw [hw7]; exact y0
                have y4b : w7.cell? ⟨wp, 4, none⟩ = some (.slice A3 m3 d3) := by rw [hw7]; exact y4
                obtain ⟨lp, y1, h23⟩ := fed_count HFD7.out
                have H23 := Lib.hid h23
                clear hw7 y0 y4 h23
                go_upto_region 18 with fail
                go_quiet ((first | (go_at_call 11; exact Calls.quiet_of_same (H11b.out _)) | (go_at_call 22; exact Calls.quiet_of_same (H22b.out _))))
                clear hq1 y0b y4b
                have HFD8 := Lib.hid (HFD7.out.drewN nq)
                go_wp2_with fail
                refine (H23.out nq).mono ?_
                rintro e w4 ⟨rfl, hw4⟩
                subst hw4
                clear y1
                go_wp2_with fail
                go_loopw [11, 12] (fun x i wr => FedR w wp m0 na x i wr) (fun _ i _ => na - (intOf i).toNat)
                case atStart => exact ⟨0, Nat.zero_le _, Nat.zero_le _, rfl, rfl, HFD8.out⟩
                case round =>
                  obtain ⟨j2, hj2, hj10, rfl, rfl, hfe⟩ := hrel
                  have HFE := Lib.hid hfe
                  have hbw := hfe.world
                  have HBW := Lib.hid hbw
                  by_cases hlt : j2 < na ∧ j2 < 10
                  · obtain ⟨hl1, hl2⟩ := hlt
                    obtain ⟨ad, hA, hg, hcell⟩ := HRAA.out.2 (by omega)
                    subst hA
                    have hku : j2 < usa.length := by rw [HULA.out]; exact hl1
                    have hkl : j2 < lm.length := by rw [← HNA.out]; exact hl1
                    obtain ⟨b, hb⟩ : ∃ b, b = lm[j2] := ⟨_, rfl⟩
                    have hr := HRRA.out j2 usa[j2] b (List.getElem?_eq_getElem hku) (by rw [hb]; exact List.getElem?_eq_getElem hkl)
                    obtain ⟨A2, c2, hu, -⟩ := id hr
                    have hwc := hcell j2 _ (List.getElem?_eq_getElem hku)
                    rw [hu] at hr hwc
                    have d0 : wr.cell? (ad.add j2) = some (.slice A2 b.length c2) := (hbw.cell (p := ad.add j2) (by rw [block_of_add]; exact hg)).trans hwc
                    obtain ⟨Ab, cb, hbv, hbc⟩ := clip_val w _ _ b hr (HBM.out b (by rw [hb]; exact List.getElem_mem _))
                    obtain ⟨b2, hb2⟩ : ∃ b2, b2 = clipL b := ⟨_, rfl⟩
                    rw [← hb2] at hbv hbc
                    obtain ⟨lp2, c1, hap⟩ := fed_append hfe (by omega) _ b2 hbv (by rw [hb2]; exact clipL_len _)
                    have HBC := Lib.hid hbc
                    have HAP := Lib.hid hap
                    have HWC := Lib.hid hwc
                    have HG := Lib.hid hg
                    clear hku hkl hb hr hu hwc hbv hbc hb2 hap hfe hbw hcell hg
                    go_upto_region 25 with fail
                    go_region_held3 (fun w' => w'.cell? ⟨wp, 1, none⟩ = some (.pointer (some ⟨lp2, 0, none⟩)) ∧ w'.cell? (ad.add j2) = some (.slice A2 b.length c2))
                      (first | exact ⟨c1, d0⟩ | exact ⟨e1, e2⟩)
                      ((first
                        | (go_at_call 14; refine (HAP.out 1).mono ?_; rintro e w5 ⟨rfl, e1, hfe⟩; have e2 : w5.cell? (ad.add j2) = some (.slice A2 b.length c2) := (hfe.world.cell (p := ad.add j2) (by rw [block_of_add]; exact HG.out)).trans HWC.out; have HF5 := Lib.hid hfe; clear hfe)
                        | (go_at_call 21; refine (HBC.out _).mono ?_; rintro e w4 ⟨rfl, hw4⟩; subst hw4)))
                    all_goals
                      go_wp2
                      exact ⟨⟨j2 + 1, by omega, by omega, by go_num, by go_num, HF5.out⟩, by simp [intOf]; omega⟩
                  · have hend : (j2 < na → ¬ j2 < 10) := fun h1 h2 => hlt ⟨h1, h2⟩
                    obtain ⟨lp3, y3, h23⟩ := fed_count hfe
                    have H23c := Lib.hid (show Calls Tryz.prog 23 #[.pointer (some ⟨lp3, 0, none⟩)] wr fun e w' => e = .returned (.int .i64 ((m0 : Int) + (j2 : Int))) ∧ w' = wr from by rw [← Int.natCast_add]; exact h23 0)
                    have hsum : IntKind.i64.wrap ((m0 : Int) + (j2 : Int)) = (m0 : Int) + (j2 : Int) := IntWalk.i64_in _ (by omega)
                    clear hlt hfe hbw h23
                    by_cases g3 : j2 < na
                    case' pos =>
                      have g4 := hend g3
                      clear hend
                    case' neg =>
                      clear hend
                    all_goals
                      go_wp2_with fail
                      refine H23c.out.mono ?_
                      rintro e w5 ⟨rfl, hw5⟩
                      subst hw5
                      go_wp2_with fail
                      refine (wakes_any _ (HS.out.below HBW.out h0w)).mono ?_
                      rintro e w10 ⟨rfl, hb10⟩
                      have HB10 := Lib.hid hb10
                      clear hb10
                      go_wp2
                      go_ret
                      exact ⟨rfl, HBW.out.trans (HB10.out.mono HBW.out.size)⟩
end Go.Proofs.YtfchnpdgnhoffaaGreatDoor
