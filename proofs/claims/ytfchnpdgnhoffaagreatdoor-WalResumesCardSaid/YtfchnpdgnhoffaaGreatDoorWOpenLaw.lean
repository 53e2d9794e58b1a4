/- The walk of WalOpen (7). -/
import Derived.Test.YtfchnpdgnhoffaaGreatDoorWCur
namespace Go.Proofs.YtfchnpdgnhoffaaGreatDoor
open Go.RowKit Go.Shelf Go.Maps

def AppR (w : World) (wp m k0 : Nat) (T : LS → Prop) (i : Value) (wr : World) : Prop := ∃ k : Nat, k ≤ m ∧ k ≤ 20 ∧ i = .int .i64 k ∧ Cur w wp (k0 + k) T wr
theorem free_call {s s' : LS} {l : List Rec} (h : s.Free) (hc : CallT s s' l) : s'.Free := (hc.free h).1
theorem ls0_cur {w w1 : World} {wp : Nat} (hat : WAt w1 (fun y => w.heap.size ≤ y ∧ y < w1.heap.size) wp 0 (ls0 1073741824)) (hb : Below w.heap.size w w1) : Cur w wp 0 (fun s => s.Free ∧ s.c = []) w1 := ⟨_, _, hat, ls0_ok, ⟨⟨rfl, rfl, rfl⟩, rfl⟩, hb, fun y hy => hy.1⟩
set_option maxRecDepth 100000 in
set_option maxHeartbeats 25600000 in
theorem walopen_any (w : World) (hS : SynW w) (va vb : Value) (la lb : List Rec) (hRa : RecsR w (fun y => y < w.heap.size) va la) (hla : la.length ≤ maxLen) (hba : ∀ b ∈ la, b.length ≤ maxLen)
    (hRb : RecsR w (fun y => y < w.heap.size) vb lb) (hlb : lb.length ≤ maxLen) (hbb : ∀ b ∈ lb, b.length ≤ maxLen) (A : Option Addr) (c : Nat) (cs : List Int) (hR : Reads w w.heap.size 1 A cs.length (cs.map (Value.int .i64))) (hc : cs.length ≤ c) (hm : cs.length ≤ maxLen) :
    Calls Tryz.prog 7 #[va, vb, .slice A cs.length c] w fun e w' => e = .returned (.bool true) ∧ Below w.heap.size w w' := by
  obtain ⟨Aa, da, usa, hva, hda, hra, -, hrra⟩ := id hRa
  obtain ⟨Ab, db, usb, hvb, hdb, hrb, -, hrrb⟩ := id hRb
  subst hva hvb
  obtain ⟨na, hna⟩ : ∃ n, n = la.length := ⟨_, rfl⟩
  obtain ⟨nb, hnb⟩ : ∃ n, n = lb.length := ⟨_, rfl⟩
  obtain ⟨nc, hnc⟩ : ∃ n, n = cs.length := ⟨_, rfl⟩
  have hula : usa.length = na := by have := hra.1; omega
  have hulb : usb.length = nb := by have := hrb.1; omega
  have hnal : na ≤ 9223372036854775807 := by unfold maxLen at hla; omega
  have hnbl : nb ≤ 9223372036854775807 := by unfold maxLen at hlb; omega
  have HRAA := Lib.hid (show Reads w w.heap.size 1 Aa na usa by rw [hna]; exact hra)
  have HRBB := Lib.hid (show Reads w w.heap.size 1 Ab nb usb by rw [hnb]; exact hrb)
  have HRRA := Lib.hid hrra
  have HRRB := Lib.hid hrrb
  have HULA := Lib.hid hula
  have HULB := Lib.hid hulb
  have HNA := Lib.hid hna
  have HNB := Lib.hid hnb
  have HNC := Lib.hid hnc
  have HBA := Lib.hid hba
  have HBB := Lib.hid hbb
  have HLB := Lib.hid hlb
  have HRB := Lib.hid hRb
  have HR := Lib.hid (show Reads w w.heap.size 1 A nc (intsV cs) by rw [hnc]; exact hR)
  have HC := Lib.hid hc
  have HS := Lib.hid hS
  have h0w := hS.lt
  rw [← hna, ← hnb, ← hnc]
  clear hRa hla hba hRb hlb hbb hR hc hm hna hnb hnc hra hrb hrra hrrb hula hulb hS hda hdb
  go_enter Tryz.func7, Tryz.ntmps7
  go_wp2_with fail
  refine (begun_any w HS.out).mono ?_
  rintro e w1 ⟨wp, rfl, hwp, hat, hb1⟩
  have HC1 := Lib.hid ((ls0_cur hat hb1).turn (T' := LS.Free) fun s h => h.1)
  clear hat hb1
  go_wp2_with fail
  go_loopw [8] (fun i wr => AppR w wp na 0 LS.Free i wr) (fun i _ => na - (intOf i).toNat)
  case atStart => exact ⟨0, Nat.zero_le _, Nat.zero_le _, rfl, HC1.out⟩
  case round =>
    obtain ⟨k, hk, hk20, rfl, hcur⟩ := hrel
    have HCU := Lib.hid hcur
    have hbw := hcur.world
    have HBW := Lib.hid hbw
    clear hcur
    by_cases hlt : k < na ∧ k < 20
    · obtain ⟨hl1, hl2⟩ := hlt
      obtain ⟨ad, hA, hg, hcell⟩ := HRAA.out.2 (by omega)
      subst hA
      have hku : k < usa.length := by rw [HULA.out]; exact hl1
      have hkl : k < la.length := by rw [← HNA.out]; exact hl1
      obtain ⟨b, hb⟩ : ∃ b, b = la[k] := ⟨_, rfl⟩
      have hr := HRRA.out k usa[k] b (List.getElem?_eq_getElem hku) (by rw [hb]; exact List.getElem?_eq_getElem hkl)
      obtain ⟨A2, c2, hu, -⟩ := id hr
      have d0 : wr.cell? (ad.add k) = some (.slice A2 b.length c2) := (hbw.cell (p := ad.add k) (by rw [block_of_add]; exact hg)).trans (hcell k _ (by rw [List.getElem?_eq_getElem hku, hu]))
      rw [hu] at hr
      have HRR := Lib.hid hr
      have HBL := Lib.hid (HBA.out b (by rw [hb]; exact List.getElem_mem _))
      clear hb hr hu hcell hbw
      go_wp2_with fail
      refine (cur_app HCU.out (by omega) (.slice A2 b.length c2) b HRR.out HBL.out (T' := LS.Free) fun s s' h hc => free_call h hc).mono ?_
      rintro e w2 ⟨rfl, hcur2⟩
      have HC2 := Lib.hid hcur2
      clear hcur2
      go_wp2
      exact ⟨⟨k + 1, by omega, by omega, by go_num, HC2.out⟩, by simp [intOf]; omega⟩
    · have hend : (k < na → ¬ k < 20) := fun h1 h2 => hlt ⟨h1, h2⟩
      have HCU1 := Lib.hid (HCU.out.mono (show 0 + k ≤ 20 by omega))
      clear hlt hbw
      -- behind the first loop: whatever the way
      have key : ∀ (Q : Prop), Q → Q := fun _ h => h
      by_cases h1 : k < na
      case' pos =>
        have h2 := hend h1
        clear hend
      case' neg =>
        clear hend
      all_goals
        by_cases hb0 : nb = 0
        case' pos =>
          have hb1 : decide ((0 : Int) < (nb : Int)) = false := decide_eq_false (by omega)
          have hb2 : decide (0 < nb) = false := decide_eq_false (by omega)
          have hb3 : ¬ (0 : Int) < (nb : Int) := by omega
          go_upto_region 11 with fail
          have HCU2 := Lib.hid (HCU1.out.mono (show 20 ≤ 21 by omega))
          clear hb0 hb1 hb2 hb3
        case' neg =>
          have hb1 : (0 : Int) < (nb : Int) := by omega
          go_wp2_with fail
          refine (cur_check HCU1.out (by omega) (.slice Ab nb db) lb (by rw [HNB.out]; exact HRB.out) HLB.out HBB.out (T' := LS.Free) fun s s' h hc => free_call h hc).mono ?_
          rintro e w2 ⟨rfl, hcur2⟩
          have HCU2 := Lib.hid hcur2
          clear hcur2 hb0 hb1
        all_goals
          clear key
          go_wp2_with fail
          refine (cur_reopened HCU2.out (by omega) (T' := LS.Free) fun s h => ⟨h.2.2, h⟩).mono ?_
          rintro e w3 ⟨rfl, hcur3⟩
          have HCU3 := Lib.hid hcur3
          clear hcur3
          go_wp2_with fail
          refine (cur_same HCU3.out (by omega)).mono ?_
          rintro e w4 ⟨rfl, hcur4⟩
          have HCU4 := Lib.hid hcur4
          clear hcur4
          go_wp2_with fail
          go_loopw [9] (fun i wr => AppR w wp nb 21 LS.Free i wr) (fun i _ => nb - (intOf i).toNat)
          case atStart => exact ⟨0, Nat.zero_le _, Nat.zero_le _, rfl, HCU4.out⟩
          case round =>
            obtain ⟨j, hj, hj20, rfl, hcur⟩ := hrel
            have HCU5 := Lib.hid hcur
            have hbw := hcur.world
            have HBW5 := Lib.hid hbw
            clear hcur
            by_cases hlt : j < nb ∧ j < 10
            · obtain ⟨hl1, hl2⟩ := hlt
              obtain ⟨ad, hA, hg, hcell⟩ := HRBB.out.2 (by omega)
              subst hA
              have hku : j < usb.length := by rw [HULB.out]; exact hl1
              have hkl : j < lb.length := by rw [← HNB.out]; exact hl1
              obtain ⟨b, hb⟩ : ∃ b, b = lb[j] := ⟨_, rfl⟩
              have hr := HRRB.out j usb[j] b (List.getElem?_eq_getElem hku) (by rw [hb]; exact List.getElem?_eq_getElem hkl)
              obtain ⟨A2, c2, hu, -⟩ := id hr
              have d0 : wr.cell? (ad.add j) = some (.slice A2 b.length c2) := (hbw.cell (p := ad.add j) (by rw [block_of_add]; exact hg)).trans (hcell j _ (by rw [List.getElem?_eq_getElem hku, hu]))
              rw [hu] at hr
              have HRR := Lib.hid hr
              have HBL := Lib.hid (HBB.out b (by rw [hb]; exact List.getElem_mem _))
              clear hb hr hu hcell hbw
              go_wp2_with fail
              refine (cur_app HCU5.out (by omega) (.slice A2 b.length c2) b HRR.out HBL.out (T' := LS.Free) fun s s' h hc => free_call h hc).mono ?_
              rintro e w5 ⟨rfl, hcur2⟩
              have HC2 := Lib.hid hcur2
              clear hcur2
              go_wp2
              exact ⟨⟨j + 1, by omega, by omega, by go_num, HC2.out⟩, by simp [intOf]; omega⟩
            · have hend2 : (j < nb → ¬ j < 10) := fun h1 h2 => hlt ⟨h1, h2⟩
              have HCU6 := Lib.hid (HCU5.out.mono (show 21 + j ≤ 41 by omega))
              obtain ⟨p, hp, hcr⟩ := HCU6.out.disk (by omega)
              have HCR := Lib.hid hcr
              have HRW := Lib.hid ((HR.out.below HBW5.out).more (B' := wr.heap.size) HBW5.out.size)
              clear hlt hbw hcr
              by_cases g1 : j < nb
              case' pos =>
                have g2 := hend2 g1
                clear hend2
              case' neg =>
                clear hend2
              all_goals
                go_wp2_with fail
                refine (HCR.out _ A nc c cs (fun _ => True) ⟨0, rfl⟩ HNC.out HRW.out (by rw [HNC.out]; exact HC.out) fun _ _ _ _ => trivial).mono ?_
                rintro e w6 ⟨rfl, hlost⟩
                have HLO := Lib.hid hlost
                clear hlost
                go_wp2_with fail
                refine (open_nil w6).mono ?_
                rintro e w7 ⟨rfl, hw7⟩
                subst hw7
                go_wp2_with fail
                refine (lost_opened HLO.out (by omega)).mono ?_
                rintro e w8 ⟨rfl, htold⟩
                have HTO := Lib.hid (show Told2 w wp 41 (fun _ => True) w8 from htold)
                clear htold
                go_wp2_with fail
                refine (told_same HTO.out (by omega)).mono ?_
                rintro e w9 ⟨rfl, hb9⟩
                have HB9 := Lib.hid hb9
                clear hb9
                go_wp2_with fail
                refine (wakes_any w9 (HS.out.below HB9.out h0w)).mono ?_
                rintro e w10 ⟨rfl, hb10⟩
                have HB10 := Lib.hid hb10
                clear hb10
                go_wp2
                go_ret
                exact ⟨rfl, HB9.out.trans (HB10.out.mono HB9.out.size)⟩
end Go.Proofs.YtfchnpdgnhoffaaGreatDoor
