/- The walk of the law DiskTwice (function 7). -/
import Derived.Test.YtfeglchngekedaaJ22DoesC
namespace Go.Proofs.Ytfeglchngekedaa
open Go.RowKit Go.Shelf Go.Maps

theorem info22 : (Try.prog.info? 22).map (fun i => (i.zero, i.size, i.bytes)) = some (some (.slice none 0 0), 1, 24) := by kernel_rfl
def nmAt (L : List Nm) (j : Nat) : ByteArray := nmBA (L.getD j [])
def rdL (y : PS) (L : List Nm) (j : Nat) : List UInt8 := (y.read (nmAt L j)).1
theorem names_cell {w : World} {b g c : Nat} {L : List Nm} (h : w.ownsRow b 9 1 (.slice (some ⟨g, 0, none⟩) L.length c) L.length (L.map encStr)) {k : Nat} (hk : k < L.length) : w.cell? ⟨g, k, none⟩ = some (.string (nmAt L k)) := by
  rw [h.cellAt k (by omega), List.getElem?_map, List.getElem?_eq_getElem hk]
  unfold nmAt
  rw [List.getD_eq_getElem?_getD, List.getElem?_eq_getElem hk]
  rfl
theorem nmAt_mem {L : List Nm} {k : Nat} (hk : k < L.length) : L.getD k [] ∈ L := by
  rw [List.getD_eq_getElem?_getD, List.getElem?_eq_getElem hk]
  exact List.getElem_mem hk

def TwO (w : World) (n pb p r : Nat) (i : Value) (wr : World) : Prop :=
  ∃ (k : Nat) (x : PS), k ≤ n ∧ k ≤ 200 ∧ i = .int .i64 k ∧ Both wr (fun k => w.heap.size ≤ k ∧ k ≠ pb) p r k x ∧ PR x ∧ PairAt wr (fun k => w.heap.size ≤ k ∧ k ≠ pb) pb p r ∧ Below w.heap.size w wr
/-- the rows that were read -/
def Was (w : World) (B : Nat) (y : PS) (L : List Nm) (k : Nat) (us : List Value) : Prop :=
  ∀ j, j < k → ∃ A c, us[j]? = some (.slice A (rdL y L j).length c) ∧ w.ownsRow B 5 1 (.slice A (rdL y L j).length c) (rdL y L j).length (bytesV (rdL y L j))
theorem Was.keep {w w' : World} {B : Nat} {y : PS} {L : List Nm} {k : Nat} {us : List Value} (h : Was w B y L k us) (hb : ∀ g, B ≤ g → g < w.heap.size → IsT w g 5 → w'.heap[g]? = w.heap[g]?) : Was w' B y L k us := fun j hj => by
  obtain ⟨A, c, h1, h2⟩ := h j hj
  exact ⟨A, c, h1, own_keep h2 fun g hg hlt => hb g (h2.lt g hg).1 hlt (.of_own h2 hg)⟩
def TwR (wL : World) (y : PS) (L : List Nm) (was i : Value) (wr : World) : Prop :=
  ∃ (k : Nat) (u : Value) (us : List Value), k ≤ L.length ∧ u = was ∧ i = .int .i64 k ∧ wr.ownsRow wL.heap.size 22 1 u k us ∧ Was wr wL.heap.size y L k us ∧ Below wL.heap.size wL wr
def TwS (wE : World) (N : Nat) (i : Value) (wr : World) : Prop := ∃ k : Nat, k ≤ N ∧ i = .int .i64 k ∧ Below wE.heap.size wE wr

set_option maxRecDepth 100000 in
set_option maxHeartbeats 102400000 in
theorem twice_any (w : World) (A : Option Addr) (n c : Nat) (hO : OpsAt2 w A n) (A1 A2 : Option Addr) (n1 c1 n2 c2 : Nat) (l1 l2 : List Int) (hm1 : n1 = l1.length) (hm2 : n2 = l2.length) (hR1 : Reads w w.heap.size 1 A1 n1 (l1.map (Value.int .i64))) (hc1 : n1 ≤ c1) (hR2 : Reads w w.heap.size 1 A2 n2 (l2.map (Value.int .i64))) (hc2 : n2 ≤ c2) :
    Calls Try.prog 7 #[.slice A n c, .slice A1 n1 c1, .slice A2 n2 c2] w fun e w' => e = .returned (.bool true) ∧ Below w.heap.size w w' := by
  obtain ⟨i22, hi22, hz220, hz221, hz222⟩ := info_parts info22
  have HI := Lib.hid hi22
  have HZ0 := Lib.hid hz220
  have HZ1 := Lib.hid hz221
  have HZ2 := Lib.hid hz222
  have HO := Lib.hid hO
  have HM1 := Lib.hid hm1
  have HM2 := Lib.hid hm2
  have HRA := Lib.hid hR1
  have HRB := Lib.hid hR2
  clear hO hi22 hz220 hz221 hz222 hm1 hm2 hR1 hR2
  go_enter Try.func7, Try.ntmps7
  go_wp2_with fail
  refine (new_any 2000 w (by omega)).mono ?_
  rintro e w1 ⟨p, mn, ms, rfl, hD1, hb1⟩
  have HD1 := Lib.hid hD1
  have HB1 := Lib.hid hb1
  have hs1 := hb1.size
  clear hD1 hb1
  go_wp2_with fail
  refine (rnew_any w1 2000 (by omega)).mono ?_
  rintro e w2 ⟨r, rfl, hR2, hb2⟩
  have hs2 := hb2.size
  have hB := start_both HD1.out HB1.out hR2 hb2
  have hBb := hB.box (.cells #[.pointer (some ⟨p, 0, none⟩), .pointer (some ⟨r, 0, none⟩)] 45)
  have hBL : Below w.heap.size w (w2.alloc (.cells #[.pointer (some ⟨p, 0, none⟩), .pointer (some ⟨r, 0, none⟩)] 45)) := (HB1.out.trans (hb2.mono hs1)).alloc (by omega) _
  have hPA : PairAt (w2.alloc (.cells #[.pointer (some ⟨p, 0, none⟩), .pointer (some ⟨r, 0, none⟩)] 45)) (fun k => w.heap.size ≤ k ∧ k ≠ w2.heap.size) w2.heap.size p r := ⟨Blk.new w2 45 _, fun h => h.2 rfl⟩
  have HBB := Lib.hid hBb
  have HBL := Lib.hid hBL
  have HPA := Lib.hid hPA
  clear hB hR2 hb2 hBb hBL hPA
  go_wp2_with fail
  generalize hpbq : w2.heap.size = pb at *
  go_loopw [9] (fun i wr => TwO w n pb p r i wr) (fun i _ => n - (intOf i).toNat)
  case atStart => exact ⟨0, _, Nat.zero_le _, Nat.zero_le _, rfl, HBB.out, PR.empty _, HPA.out, HBL.out⟩
  case round =>
    obtain ⟨k, x, hk, hk2, rfl, hB, hpr, hpa, hb⟩ := hrel
    have HB := Lib.hid hB
    have HPR := Lib.hid hpr
    have HPA1 := Lib.hid hpa
    have HBW := Lib.hid hb
    have hsz := hb.size
    by_cases hlt : k < n ∧ k < 200
    · obtain ⟨hl1, hl2⟩ := hlt
      obtain ⟨d, rfl, hdl, o, hop, h47⟩ := HO.out k hl1
      have hadd : ∀ j, j ≠ 0 → d.add (k * 7 + j) = ⟨(d.add (k * 7)).block, (d.add (k * 7)).off + j, none⟩ := fun j hj => by
        rw [← add_of_add]
        generalize d.add (k * 7) = b
        unfold Addr.add
        rw [if_neg hj]
      have hcell : ∀ j v, w.cell? (d.add (k * 7 + j)) = some v → wr.cell? (d.add (k * 7 + j)) = some v := fun j v h => (hb.cell (by rw [block_of_add]; exact hdl)).trans h
      have x0 := hcell 0 _ hop.c0
      have x1 := hcell 1 _ hop.c1
      have x2 := hcell 2 _ hop.c2
      have x3 := hcell 3 _ hop.c3
      have x4 := hcell 4 _ hop.c4
      have x5 := hcell 5 _ hop.c5
      have x6 := hcell 6 _ hop.c6
      rw [Nat.add_zero] at x0
      rw [hadd 1 (by omega)] at x1
      rw [hadd 2 (by omega)] at x2
      rw [hadd 3 (by omega)] at x3
      rw [hadd 4 (by omega)] at x4
      rw [hadd 5 (by omega)] at x5
      rw [hadd 6 (by omega)] at x6
      have HOK := Lib.hid (hop.ok h47 hb (M := fun k => w.heap.size ≤ k ∧ k ≠ pb) (fun _ h => h.1))
      clear hadd hcell hop hB hdl h47 hpr hpa hb
      go_wp2_with fail
      refine (does_all wr (fun k => w.heap.size ≤ k ∧ k ≠ pb) pb p r k x o HB.out HPA1.out (by omega) HOK.out).mono ?_
      rintro e w3 ⟨rfl, hB3, hC3⟩
      have HB3 := Lib.hid hB3
      have HC3 := Lib.hid hC3
      have HP3 := Lib.hid (HPR.out.does o)
      generalize x.does o = y at *
      clear hB3 hC3 x0 x1 x2 x3 x4 x5 x6
      go_wp2
      exact ⟨⟨k + 1, y, by omega, by omega, by go_num, HB3.out, HP3.out, HPA1.out.chg HC3.out, HBW.out.trans (HC3.out.toBelow (fun k hk => hk.1) hsz)⟩, by simp [intOf]; omega⟩
    · have hend : (k < n → ¬ k < 200) := fun h1 h2 => hlt ⟨h1, h2⟩
      clear hlt
      obtain ⟨F, hS, hF⟩ := hB.solo
      have HS := Lib.hid hS
      have HF := Lib.hid hF
      clear hB hpr hpa hb hS hF
      by_cases h1 : k < n
      case' pos =>
        have h2 := hend h1
        clear hend
      case' neg =>
        clear hend
      all_goals
        go_wp2_with fail
        refine (solo_crash wr F p k x A1 n1 c1 l1 HM1.out HS.out (by omega) ((HRA.out.below HBW.out).more hsz) hc1).mono ?_
        rintro e wA ⟨rfl, hSA, hCA⟩
        have hsA := hCA.size
        have hbA : Below w.heap.size w wA := HBW.out.trans (hCA.toBelow (fun q hq => (HF.out q hq).1.1) hsz)
        have HF1 := Lib.hid (show ∀ q, (Gr F wr q ∧ q < wA.heap.size) → w.heap.size ≤ q ∧ q < wA.heap.size from fun q hq => ⟨by rcases hq.1 with h | h; exact (HF.out q h).1.1; omega, hq.2⟩)
        generalize hF1 : (fun q => Gr F wr q ∧ q < wA.heap.size) = F1 at hSA
        have HF1 := Lib.hid (show ∀ q, F1 q → w.heap.size ≤ q ∧ q < wA.heap.size from fun q hq => HF1.out q (by rw [← hF1] at hq; exact hq))
        have HPY := Lib.hid (HPR.out.crash l1)
        have HTW := Lib.hid (show (x.crash l1).crash l2 = x.crash l1 from crash_twice HS.out.pb l1 l2)
        have HDU := Lib.hid (crash_durable x l1)
        generalize x.crash l1 = y at *
        obtain ⟨L, hL⟩ : ∃ L, L = y.list [] := ⟨_, rfl⟩
        obtain ⟨hLn, hL64, -⟩ := hSA.pb.listB []
        rw [← hL] at hLn hL64
        have hLm : L.length ≤ maxLen := Nat.le_trans hLn (by simp [maxLen]; omega)
        have HLM := Lib.hid hLm
        have HNM := Lib.hid (show ∀ j, j < L.length → (nmAt L j).size ≤ maxLen from fun j hj => by
          have e : (nmAt L j).size = (L.getD j []).length := by unfold nmAt nmBA; show (L.getD j []).toArray.size = _; simp
          rw [e]
          exact Nat.le_trans (hL64 _ (nmAt_mem hj)) (by simp [maxLen]))
        have HRD := Lib.hid (show ∀ j, j < L.length → y.read (nmAt L j) = (rdL y L j, 0) from fun j hj => by
          have h1 := read_ok HPY.out (nm := L.getD j []) (by rw [← hL]; exact nmAt_mem hj)
          exact Prod.ext rfl h1)
        have HRL := Lib.hid (show ∀ j, (rdL y L j).length ≤ 1000 * 1000 from fun j => Nat.le_trans (hSA.pb.readB _) (by omega))
        have TL := Lib.hid (show ∀ w' F' m, Solo w' F' p m y → m ≤ 10000 → Calls Try.prog 25 #[.pointer (some ⟨p, 0, none⟩), .string ⟨#[]⟩] w' (NamesPost w' L) from fun w' F' m hB hm => by rw [hL]; exact solo_list w' F' p m y ⟨#[]⟩ hB hm)
        have TD := Lib.hid (show ∀ w' F' m, Solo w' F' p m y → m ≤ 10000 → Calls Try.prog 31 #[.pointer (some ⟨p, 0, none⟩)] w' (NamesPost w' L) from fun w' F' m hB hm => by rw [hL, ← HDU.out]; exact solo_durable w' F' p m y hB hm)
        have TR := Lib.hid (show ∀ j, j < L.length → ∀ w' F' m, Solo w' F' p m y → m ≤ 10000 → Calls Try.prog 14 #[.pointer (some ⟨p, 0, none⟩), .string (nmAt L j)] w' (fun e w'' => ∃ v, e = .returned (.tuple #[v, .int .i64 0]) ∧ w''.ownsRow w'.heap.size 5 1 v (rdL y L j).length (bytesV (rdL y L j)) ∧ Below w'.heap.size w' w'') from fun j hj w' F' m hB hm => by
          have := solo_read w' F' p m y (nmAt L j) hB hm (HNM.out j hj)
          rw [HRD.out j hj] at this
          exact this)
        have HSA := Lib.hid hSA
        have HBA := Lib.hid hbA
        clear hSA hCA hbA hF1 hL hL64 hLm HS HF HB HBB
        have hLn2 : L.length ≤ 1000 := by omega
        have hsA2 := HBA.out.size
        clear hLn
        go_wp2_with fail
        refine (TL.out wA F1 (k + 1) HSA.out (by omega)).mono ?_
        rintro e wL ⟨vN, rfl, hoN, hbN⟩
        obtain ⟨AN, cN, rfl⟩ := own_slice hoN
        have hsL := hbN.size
        have HON := Lib.hid hoN
        have HBN := Lib.hid hbN
        have HSL := Lib.hid (HSA.out.below hbN)
        clear hoN hbN
        go_wp2_with fail
        go_loopw [11, 12] (fun was i wr => TwR wL y L was i wr) (fun _ i _ => L.length - (intOf i).toNat)
        case atStart => exact ⟨0, _, [], Nat.zero_le _, rfl, rfl, World.ownsRow_nil _ _ _ _, (fun j hj => absurd hj (Nat.not_lt_zero _)), Below.refl _ _⟩
        case round =>
          obtain ⟨j, u, us, hj, hu, rfl, hw, hwas, hb⟩ := hrel
          subst hu
          have HW := Lib.hid hw
          have HWAS := Lib.hid hwas
          have HB := Lib.hid hb
          have HSR := Lib.hid (HSL.out.below hb)
          have hsr := hb.size
          clear hw hwas hb
          by_cases hlt : j < L.length
          · obtain ⟨g, hg⟩ : ∃ g, AN = some ⟨g, 0, none⟩ := by
              obtain ⟨g, cap, hv, -, -⟩ := HON.out.form (by omega)
              injection hv with hv
              exact ⟨g, hv⟩
            subst hg
            have z0 := (HB.out.cell (HON.out.lt g rfl).2).trans (names_cell HON.out hlt)
            go_wp2_with fail
            refine (TR.out j hlt _ F1 (k + 1) HSR.out (by omega)).mono ?_
            rintro e wx ⟨vx, rfl, hox, hbx⟩
            obtain ⟨Ax, cx, rfl⟩ := own_slice hox
            have hsx := hbx.size
            have HOX := Lib.hid (own_low hox hsr)
            have HBX := Lib.hid (HB.out.trans (hbx.mono hsr))
            have HW2 := Lib.hid (own_keep (w' := wx) HW.out fun q hq hlt => hbx.block q hlt)
            have HWAS2 := Lib.hid (HWAS.out.keep (w' := wx) fun q _ hlt _ => hbx.block q hlt)
            have hrl := HRL.out j
            clear hox hbx z0
            go_wp2_with (at_builtin; go_loud (refine wpList_append_any _ rfl (.tmp 62) (.tmp 64) 60 rfl wL.heap.size 22 i22 (.slice none 0 0) 1 24 Try.underlying60 HI.out HZ0.out HZ1.out HZ2.out rfl (by decide) u j us rfl (HW2.out.alloc _) _ _ 1 1 [.slice Ax (rdL y L j).length cx] rfl (reads_new1 _ 22 _) (by simp [Value.oneCell']) (by simp only [maxLen]; omega) (by omega) (by simp; omega) ?_; intro v4 w4 hown4 hgrow4 _; have HW4 := Lib.hid hown4; have HG4 := Lib.hid hgrow4; clear hown4 hgrow4))
            have hul : us.length = j := by have := HW2.out.1; omega
            have hk4 : ∀ q, q < wx.heap.size → IsT wx q 5 → w4.heap[q]? = wx.heap[q]? := fun q hq ht =>
              (HG4.out.block q (by simp; omega) (fun e => IsT.ne (IsT.of_own HW2.out e.symm) ht (by decide) rfl)).trans (Below.heap_alloc wx _ q hq)
            refine ⟨⟨j + 1, _, _, by omega, rfl, by go_num, HW4.out, fun i hi => ?_, (HBX.out.alloc (by omega) _).grown HG4.out (by simp; omega) (fun q hq => (HW2.out.lt q hq).1)⟩, by simp [intOf]; omega⟩
            by_cases hij : i < j
            · obtain ⟨Ai, ci, h1, h2⟩ := HWAS2.out i hij
              exact ⟨Ai, ci, by rw [List.getElem?_append_left (by omega)]; exact h1, own_keep h2 fun q hq hlt => hk4 q hlt (.of_own h2 hq)⟩
            · obtain rfl : i = j := by omega
              exact ⟨Ax, cx, by rw [List.getElem?_append_right (by omega), hul, Nat.sub_self]; rfl, own_keep HOX.out fun q hq hlt => hk4 q hlt (.of_own HOX.out hq)⟩
          · obtain rfl : j = L.length := by omega
            have hbw : Below w.heap.size w wr := (HBA.out.trans (HBN.out.mono hsA2)).trans (HB.out.mono (by omega))
            have HBWR := Lib.hid hbw
            have hsw := hbw.size
            clear hlt hbw
            go_wp2_with fail
            refine (solo_crash wr F1 p (k + 1) y A2 n2 c2 l2 HM2.out HSR.out (by omega) ((HRB.out.below HBWR.out).more hsw) hc2).mono ?_
            rintro e wC ⟨rfl, hSC, hCC⟩
            rw [HTW.out] at hSC
            have hsC := hCC.size
            have hkC : ∀ q, wA.heap.size ≤ q → q < wr.heap.size → wC.heap[q]? = wr.heap[q]? := fun q h1 h2 => hCC.block q h2 (fun hf => by have := (HF1.out q hf).2; omega)
            have HNC := Lib.hid (own_keep (w' := wC) (own_keep (w' := wr) HON.out fun q hq hlt => HB.out.block q hlt) fun q hq hlt => hkC q (by have := (HON.out.lt q hq).1; omega) hlt)
            have HWC := Lib.hid (own_keep (w' := wC) HW.out fun q hq hlt => hkC q (by have := (HW.out.lt q hq).1; omega) hlt)
            have HWASC := Lib.hid (HWAS.out.keep (w' := wC) fun q hq hlt _ => hkC q (by omega) hlt)
            have HBC := Lib.hid (HBWR.out.trans (hCC.toBelow (fun q hq => (HF1.out q hq).1) hsw))
            generalize (fun q => Gr F1 wr q ∧ q < wC.heap.size) = F2 at hSC
            have HSC := Lib.hid hSC
            clear hSC hCC hkC
            go_wp2_with fail
            refine (TL.out wC F2 (k + 1 + 1) HSC.out (by omega)).mono ?_
            rintro e wD ⟨vD, rfl, hoD, hbD⟩
            obtain ⟨AD, cD, rfl⟩ := own_slice hoD
            have hsD := hbD.size
            have HOD := Lib.hid hoD
            have HBD := Lib.hid hbD
            clear hoD hbD
            go_wp2_with fail
            refine (texts_same wD L (Reads.of_own HOD.out) ((Reads.of_own HNC.out).below HBD.out) HLM.out).mono ?_
            rintro e wG ⟨rfl, hbG⟩
            have HBG := Lib.hid (HBD.out.trans (hbG.mono hsD))
            clear hbG
            go_wp2_with fail
            refine (TD.out wG F2 (k + 1 + 1) (HSC.out.below HBG.out) (by omega)).mono ?_
            rintro e wH ⟨vH, rfl, hoH, hbH⟩
            obtain ⟨AH, cH, rfl⟩ := own_slice hoH
            have hsG := HBG.out.size
            have HOH := Lib.hid hoH
            have HBH := Lib.hid (HBG.out.trans (hbH.mono hsG))
            clear hoH hbH
            go_wp2_with fail
            refine (texts_same wH L (Reads.of_own HOH.out) ((Reads.of_own HNC.out).below HBH.out) HLM.out).mono ?_
            rintro e wE ⟨rfl, hbE⟩
            have hsH := HBH.out.size
            have hbCE := HBH.out.trans (hbE.mono hsH)
            have HBCE := Lib.hid hbCE
            have hsE := hbCE.size
            have HNE := Lib.hid (own_keep (w' := wE) HNC.out fun q _ hlt => hbCE.block q hlt)
            have HWE := Lib.hid (own_keep (w' := wE) HWC.out fun q _ hlt => hbCE.block q hlt)
            have HWASE := Lib.hid (HWASC.out.keep (w' := wE) fun q _ hlt _ => hbCE.block q hlt)
            have HSE := Lib.hid (HSC.out.below hbCE)
            clear hbE hbCE
            go_wp2_with fail
            go_loopw [15] (fun i wr => TwS wE L.length i wr) (fun i _ => L.length - (intOf i).toNat)
            case atStart => exact ⟨0, Nat.zero_le _, rfl, Below.refl _ _⟩
            case round =>
              obtain ⟨j, hj, rfl, hb⟩ := hrel
              have HBS := Lib.hid hb
              have HSS := Lib.hid (HSE.out.below hb)
              have hss := hb.size
              clear hb
              by_cases hlt : j < L.length
              · obtain ⟨g, hg⟩ : ∃ g, AN = some ⟨g, 0, none⟩ := by
                  obtain ⟨g, cap, hv, -, -⟩ := HNE.out.form (by omega)
                  injection hv with hv
                  exact ⟨g, hv⟩
                subst hg
                obtain ⟨gw, cw, hv, -, hgw⟩ := HWE.out.form (by omega)
                subst hv
                obtain ⟨Aj, cj, hu, hrow⟩ := HWASE.out j hlt
                have z0 := (HBS.out.cell (HNE.out.lt g rfl).2).trans (names_cell HNE.out hlt)
                have y0 : wE.cell? ⟨gw, j, none⟩ = some (.slice Aj (rdL y L j).length cj) := (HWE.out.cellAt j (by omega)).trans hu
                have HY0 := Lib.hid y0
                have HROW := Lib.hid hrow
                clear y0 hrow hu
                go_wp2_with fail
                refine (TR.out j hlt _ F2 (k + 1 + 1) HSS.out (by omega)).mono ?_
                rintro e wx ⟨vx, rfl, hox, hbx⟩
                obtain ⟨Ax, cx, rfl⟩ := own_slice hox
                have HBX := Lib.hid (HBS.out.trans (hbx.mono hss))
                have y1 := (HBX.out.cell (show (⟨gw, j, none⟩ : Addr).block < wE.heap.size from hgw)).trans HY0.out
                have j1 : (convert 22 9 (.slice Ax (rdL y L j).length cx)).run Try.prog wx = .ok (.string ⟨(rdL y L j).toArray⟩) wx := run_str_reads cx (Reads.of_own hox)
                have j2 : (convert 22 9 (.slice Aj (rdL y L j).length cj)).run Try.prog wx = .ok (.string ⟨(rdL y L j).toArray⟩) wx := run_str_reads cj ((Reads.of_own HROW.out).below HBX.out)
                have j3 : (convert 22 9 (.slice Ax (rdL y L j).length cx)).run Try.prog wx.drew = .ok (.string ⟨(rdL y L j).toArray⟩) wx.drew := run_str_reads cx (Reads.of_own hox).drew
                have j4 : (convert 22 9 (.slice Aj (rdL y L j).length cj)).run Try.prog wx.drew = .ok (.string ⟨(rdL y L j).toArray⟩) wx.drew := run_str_reads cj ((Reads.of_own HROW.out).below HBX.out).drew
                have hq2 : ((⟨(rdL y L j).toArray⟩ : ByteArray).toList != (⟨(rdL y L j).toArray⟩ : ByteArray).toList) = false := by simp
                have hq3 : ((⟨(rdL y L j).toArray⟩ : ByteArray).toList == (⟨(rdL y L j).toArray⟩ : ByteArray).toList) = true := beq_self_eq_true _
                have y2 : wx.drew.cell? ⟨gw, j, none⟩ = some (.slice Aj (rdL y L j).length cj) := y1
                clear hox hbx z0
                go_upto_region 25 with fail
                go_region_held3 (fun w' => w'.cell? ⟨gw, j, none⟩ = some (.slice Aj (rdL y L j).length cj) ∧ (convert 22 9 (.slice Ax (rdL y L j).length cx)).run Try.prog w' = .ok (.string ⟨(rdL y L j).toArray⟩) w' ∧ (convert 22 9 (.slice Aj (rdL y L j).length cj)).run Try.prog w' = .ok (.string ⟨(rdL y L j).toArray⟩) w')
                  (first | exact ⟨y2, j3, j4⟩ | exact ⟨y1, j1, j2⟩) (fail)
                clear j1 j2 j3 j4 y1 y2
                go_wp2
                exact ⟨⟨j + 1, by omega, by go_num, below_drewN HBX.out 1⟩, by simp [intOf]; omega⟩
              · obtain rfl : j = L.length := by omega
                clear hlt
                go_wp2_with fail
                refine (wakes_any _).mono ?_
                rintro e wz ⟨rfl, hbz⟩
                have hfin := ((HBC.out.trans (HBCE.out.mono (by omega))).trans (HBS.out.mono (by omega))).trans (hbz.mono (by omega))
                have HFIN := Lib.hid hfin
                clear hbz hfin
                go_wp2
                go_ret
                exact ⟨rfl, HFIN.out⟩
end Go.Proofs.Ytfeglchngekedaa
