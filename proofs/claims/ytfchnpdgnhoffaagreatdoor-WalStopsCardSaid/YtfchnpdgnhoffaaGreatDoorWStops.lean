/- The walk of WalStops (8). -/
import Derived.StillTailTactics
import Derived.Test.YtfchnpdgnhoffaaGreatDoorWOpenLaw
namespace Go.Proofs.YtfchnpdgnhoffaaGreatDoor
open Go.RowKit Go.Shelf Go.Maps
attribute [local simp] wide_fn
attribute [local go_sem] Oper.semAt_some

/-- as Cur; a block tp besides that holds the world's address -/
def CurX (w : World) (wp k tp : Nat) (wr : World) : Prop :=
  ∃ (s : LS) (F : Nat → Prop), WAt wr F wp (107 * k) s ∧ s.Ok k ∧ Below w.heap.size w wr ∧ (∀ y, F y → w.heap.size ≤ y) ∧ ¬ F tp ∧ Blk wr tp 23 #[.pointer (some ⟨wp, 0, none⟩)]
theorem curx_app {w wr : World} {wp k tp : Nat} (h : CurX w wp k tp wr) (hk : k ≤ 89) (vr : Value) (b : Rec) (hr : ByR w (fun y => y < w.heap.size) vr b) (hb : b.length ≤ maxLen) (W : World) (hW : ∃ z, W = wr.drewN z) :
    Calls Tryz.prog 19 #[.pointer (some ⟨wp, 0, none⟩), .agg #[.int .i64 0, .int .i64 0, .int .i64 0, vr, .slice none 0 0, .slice none 0 0]] W fun e w' => e = .returned (.bool true) ∧ CurX w wp (k + 1) tp w' := by
  obtain ⟨z, rfl⟩ := hW
  obtain ⟨s, F, h1, h2, h4, h5, h6, h7⟩ := h
  have h1 := h1.below (below_drewN (Below.refl _ wr) z)
  have h4 := below_drewN h4 z
  have hs := h4.size
  refine (does_app (wr.drewN z) F _ wp k s (opA b) vr _ _ h1 hk h2 (opA_val (hr.below h4) hb) (fun y hy hf => by have := h5 y hf; have hy : y < w.heap.size := hy; omega) (.inl rfl)).mono ?_
  rintro e w' ⟨rfl, s', ⟨F2, g1, g2, g3⟩, ho, ht⟩
  refine ⟨rfl, s', F2, g2, ho, h4.trans (g3.toBelow h5 hs), fun y hy => (g1 y hy).elim (h5 y) fun h => by omega, fun hy => (g1 tp hy).elim h6 fun h => ?_, (g3.block tp h7.lt h6).trans h7⟩
  have := h7.lt
  have h9 : wr.heap.size ≤ tp := h.1
  omega
theorem with_act {F : Fence} {n : Nat} {P : Program} {c : Code} {Q : Exit → Act → World → Prop} {a : Act} {w : World} (h : ∀ a', a' = a → c.wpIn F n P Q a' w) : c.wpIn F n P Q a w := h a rfl
/-- behind some rounds -/
def StI (w : World) (kb : Nat) (n : Nat) (V : World) : Prop := Chg (fun y => y = kb) w V ∧ Blk V kb 3 #[.int .i64 (n : Int)]
theorem StI.under {w : World} {kb n : Nat} {A B : World} (h : StI w kb n A) (hb : Below A.heap.size A B) : StI w kb n B := ⟨h.1.below hb h.1.size, h.2.below hb h.2.lt⟩
theorem StI.grown {w : World} {kb n : Nat} {A B : World} {r : Nat} (h : StI w kb n A) (hg : A.grownBy B (some r)) (hr : w.heap.size ≤ r) (hk : r ≠ kb) : StI w kb n B :=
  ⟨h.1.grown hg fun g e => .inr (by injection e with e; omega), h.2.grown hg (by simp; omega)⟩
def StR (w : World) (wp tp na : Nat) (i : Value) (wr : World) : Prop := ∃ k : Nat, k ≤ na ∧ k ≤ 20 ∧ i = .int .i64 k ∧ CurX w wp k tp wr
set_option maxRecDepth 100000 in
set_option maxHeartbeats 25600000 in
theorem stops_any (w : World) (hS : SynW w) (va : Value) (la : List Rec) (hRa : RecsR w (fun y => y < w.heap.size) va la) (hla : la.length ≤ maxLen) (hba : ∀ b ∈ la, b.length ≤ maxLen) (z : Int) (hz : -9223372036854775808 ≤ z ∧ z ≤ 9223372036854775807) :
    Calls Tryz.prog 8 #[va, .int .i64 z] w fun e w' => e = .returned (.bool true) ∧ Below w.heap.size w w' := by
  obtain ⟨Aa, da, usa, hva, hda, hra, -, hrra⟩ := id hRa
  subst hva
  obtain ⟨na, hna⟩ : ∃ n, n = la.length := ⟨_, rfl⟩
  have hula : usa.length = na := by have := hra.1; omega
  have hnal : na ≤ 9223372036854775807 := by unfold maxLen at hla; omega
  obtain ⟨wA, hwA⟩ : ∃ wA, wA = (w.alloc (.cells #[.int .i64 z] 3)).alloc (.cells #[.bool false] 4) := ⟨_, rfl⟩
  have hbA : Below w.heap.size w wA := by rw [hwA]; exact ((Below.refl _ _).alloc (Nat.le_refl _) _).alloc (by simp) _
  have hsA : wA.heap.size = w.heap.size + 2 := by rw [hwA]; simp
  have a1 : Blk wA w.heap.size 3 #[.int .i64 z] := by rw [hwA]; exact (Blk.new w 3 _).alloc _
  have a2 := Blk.new (w.alloc (.cells #[.int .i64 z] 3)) 4 #[.bool false]
  rw [← hwA, World.size_alloc] at a2
  have HWA := Lib.hid hwA
  have HBA' := Lib.hid hbA
  have HA1 := Lib.hid a1
  have HA2 := Lib.hid a2
  have HRAA := Lib.hid (show Reads w w.heap.size 1 Aa na usa by rw [hna]; exact hra)
  have HRRA := Lib.hid hrra
  have HULA := Lib.hid hula
  have HNA := Lib.hid hna
  have HBA := Lib.hid hba
  have HS := Lib.hid hS
  have h0w := hS.lt
  rw [← hna]
  obtain ⟨r, hr⟩ : ∃ r, r = z % 21 := ⟨_, rfl⟩
  have HKW := Lib.hid (show ∀ W : World, Calls Tryz.prog 10 #[.int .i64 z, .int .i64 21] W fun e w' => e = .returned (.int .i64 r) ∧ w' = W from fun W => by rw [hr]; exact (keepwithin_any z 21 W (by decide) (by decide)).mono fun e w' ⟨h1, h2⟩ => ⟨h1, h2.symm⟩)
  clear hRa hla hba hna hra hrra hula hS hda hwA hbA a1 a2 hr
  refine (callsIn_wide (n := 9)).1 ?_
  refine callsIn_of_wp_marks Tryz.func8 rfl trivial ?_ rfl
  simp only [Tryz.ntmps8, List.size_toArray, List.length_cons, List.length_nil, Nat.reduceAdd, Nat.reduceSub, Array.replicate_succ, Array.replicate_zero, List.push_toArray, List.append_toArray, List.nil_append, List.cons_append]
  refine wpIn_wide.2 ?_
  go_upto_region 1 with fail
  rw [← HWA.out]
  go_wp2_with fail
  refine (begun_any wA (HS.out.below HBA'.out h0w)).mono ?_
  rintro e w1 ⟨wp, rfl, hwp, hat, hb1⟩
  have hs1 := hb1.size
  have hb1w := hb1
  obtain ⟨w2, hw2⟩ : ∃ w2, w2 = w1.alloc (.cells #[.pointer (some ⟨wp, 0, none⟩)] 23) := ⟨_, rfl⟩
  have hb2 : Below w1.heap.size w1 w2 := by rw [hw2]; exact (Below.refl _ _).alloc (Nat.le_refl _) _
  have b2 := Blk.new w1 23 #[.pointer (some ⟨wp, 0, none⟩)]
  rw [← hw2] at b2
  have HCX := Lib.hid (show CurX wA wp 0 w1.heap.size w2 from ⟨_, _, hat.below hb2, ls0_ok, hb1.trans (hb2.mono hs1), fun y hy => hy.1, fun h => by have := h.2; omega, b2⟩)
  have y5 : w2.cell? ⟨w1.heap.size, 0, none⟩ = some (.pointer (some ⟨wp, 0, none⟩)) := b2.cell 0
  have HW2 := Lib.hid hw2
  obtain ⟨tp, htp⟩ : ∃ tp, tp = w1.heap.size := ⟨_, rfl⟩
  clear hat hb1 hb1w hw2 hb2 b2
  go_upto_region 2 with fail
  rw [← HW2.out]
  rw [← htp] at HCX y5 ⊢
  have HTP := Lib.hid htp
  clear htp
  go_wp2_with fail
  go_loopw [6] (fun i wr => StR wA wp tp na i wr) (fun i _ => na - (intOf i).toNat)
  case atStart => exact ⟨0, Nat.zero_le _, Nat.zero_le _, rfl, HCX.out⟩
  case round =>
    obtain ⟨k, hk, hk20, rfl, hcur⟩ := hrel
    have HCU := Lib.hid hcur
    obtain ⟨s, F, ⟨G, lp, p, Fl, vc, vm, vs, h1⟩, h2, h4, h5, h6, h7⟩ := hcur
    have y5 : wr.cell? ⟨tp, 0, none⟩ = some (.pointer (some ⟨wp, 0, none⟩)) := h7.cell 0
    have HBW := Lib.hid h4
    have HOK := Lib.hid h2
    have H1 := Lib.hid h1
    have H6 := Lib.hid h6
    have H7 := Lib.hid h7
    have H5 := Lib.hid h5
    have hsr := h4.size
    by_cases hlt : k < na ∧ k < 20
    · obtain ⟨hl1, hl2⟩ := hlt
      obtain ⟨ad, hA, hg, hcell⟩ := HRAA.out.2 (by omega)
      subst hA
      have hku : k < usa.length := by rw [HULA.out]; exact hl1
      have hkl : k < la.length := by rw [← HNA.out]; exact hl1
      obtain ⟨b, hb⟩ : ∃ b, b = la[k] := ⟨_, rfl⟩
      have hr := HRRA.out k usa[k] b (List.getElem?_eq_getElem hku) (by rw [hb]; exact List.getElem?_eq_getElem hkl)
      obtain ⟨A2, c2, hu, -⟩ := id hr
      have d0 : wr.cell? (ad.add k) = some (.slice A2 b.length c2) := ((HBA'.out.trans (h4.mono (by omega))).cell (p := ad.add k) (by rw [block_of_add]; exact hg)).trans (hcell k _ (by rw [List.getElem?_eq_getElem hku, hu]))
      rw [hu] at hr
      have HRR := Lib.hid (show ByR wA (fun y => y < wA.heap.size) (.slice A2 b.length c2) b from (hr.below HBA'.out).mono fun k _ h => by have h : k < w.heap.size := h; show k < wA.heap.size; omega)
      have HBL := Lib.hid (HBA.out b (by rw [hb]; exact List.getElem_mem _))
      clear hb hr hu hcell h1 h2 h4 h5 h6 h7
      go_wp2_with fail
      go_still_tail 6, (by kernel_rfl)
      change wpList _ _ _ _ _ wr.drew
      go_wp2_with fail
      refine (curx_app HCU.out (by omega) (.slice A2 b.length c2) b HRR.out HBL.out wr.drew ⟨1, rfl⟩).mono ?_
      rintro e w5 ⟨rfl, hcur2⟩
      have HC2 := Lib.hid hcur2
      clear hcur2
      go_wp2
      exact ⟨⟨k + 1, by omega, by omega, by go_num, HC2.out⟩, by simp [intOf]; omega⟩
    · have hend : (k < na → ¬ k < 20) := fun h1 h2 => hlt ⟨h1, h2⟩
      clear hlt
      obtain ⟨w3, hw3⟩ : ∃ w3, w3 = wr.alloc (.cells #[.int .i64 0] 3) := ⟨_, rfl⟩
      have hb3 : Below wr.heap.size wr w3 := by rw [hw3]; exact (Below.refl _ _).alloc (Nat.le_refl _) _
      have hs3 : w3.heap.size = wr.heap.size + 1 := by rw [hw3]; simp
      have b3 := Blk.new wr 3 #[.int .i64 0]
      rw [← hw3] at b3
      have h13 := (h1.below hb3)
      have y5 : w3.cell? ⟨tp, 0, none⟩ = some (.pointer (some ⟨wp, 0, none⟩)) := (h7.below hb3 h7.lt).cell 0
      have y1 : w3.cell? ⟨wp, 1, none⟩ = some (.pointer (some ⟨lp, 0, none⟩)) := h13.blk.cell 1
      have HW3 := Lib.hid hw3
      have HB3 := Lib.hid hb3
      have HK3 := Lib.hid b3
      obtain ⟨kb, hkb⟩ : ∃ kb, kb = wr.heap.size := ⟨_, rfl⟩
      have HKB := Lib.hid hkb
      clear h1 h2 h4 h5 h6 h7 hw3 hb3 b3 h13
      by_cases g1 : k < na
      case' pos =>
        have g2 := hend g1
        clear hend
      case' neg =>
        clear hend
      all_goals
        go_upto_region 10 with fail
        rw [← HW3.out]
        rw [← hkb] at HK3 ⊢
        clear hkb
        go_wp2_with fail
        refine (all_any w3 lp).mono ?_
        rintro e w4 ⟨rfl, hw4⟩
        go_wp2_with fail
        obtain ⟨w5, hw5⟩ : ∃ w5, w5 = w3.alloc (.cells #[.pointer (some ⟨lp, 0, none⟩)] 28) := ⟨_, rfl⟩
        have b5 := Blk.new w3 28 #[.pointer (some ⟨lp, 0, none⟩)]
        rw [← hw5] at b5 ⊢
        have hb5 : Below w3.heap.size w3 w5 := by rw [hw5]; exact (Below.refl _ _).alloc (Nat.le_refl _) _
        have hs5 : w5.heap.size = w3.heap.size + 1 := by rw [hw5]; simp
        have hb35 : Below wr.heap.size wr w5 := HB3.out.trans (hb5.mono HB3.out.size)
        have HSEQ := Lib.hid (all_seq 8 w5 Fl lp p (107 * k) w3.heap.size s.x s.c s.last s.fl (H1.out.below hb35).log b5 (HOK.out.cS.sm (by omega)))
        have hkb9 : kb = wr.heap.size := HKB.out
        have hSI : StI w5 kb 0 w5 := ⟨Chg.refl _ _, HK3.out.below hb5 (by omega)⟩
        have HSI := Lib.hid hSI
        have HB35 := Lib.hid hb35
        have HA25 := Lib.hid (((HA2.out.below HBW.out (by omega)).below hb35 (by omega)))
        have HA15 := Lib.hid (((HA1.out.below HBW.out (by omega)).below hb35 (by omega)))
        have HT5 := Lib.hid (H7.out.below hb35 H7.out.lt)
        have htl := H7.out.lt
        have hkb5 : kb < w5.heap.size := by omega
        rename_i Kc hKc
        have HKC := Lib.hid hKc
        clear hKc hw4 hw5 b5 hb5 hb35 hSI y5 y1 hkb9
        refine (wpIn_wide (n := 9)).1 ?_
        refine with_act (fun a8 ha8 => ?_)
        have hend : ∀ (V : World) (n : Nat), StI w5 kb n V → V.heap[w5.heap.size]? = some (.deferred (some [])) → Kc { a8 with defers := { target := .collected w5.heap.size, args := #[] } :: a8.defers } V := by
          intro V n hI hdf
          refine HKC.out _ _ ?_
          rw [ha8]
          have hblk : ∀ j, j < wr.heap.size → V.heap[j]? = wr.heap[j]? := fun j hj => (hI.1.block j (by omega) (by have := HKB.out; omega)).trans (HB35.out.block j hj)
          have hsv := hI.1.size
          have hv : WSt V F (fun y => G y ∧ y < wr.heap.size) wp (107 * k) s s lp p Fl vc vm vs := H1.out.atG.keep (by omega) (fun j _ hlt => hblk j hlt) (fun j _ hlt => hblk j hlt) (hblk 0 (by omega))
          have hbV : Below w.heap.size w V := (HBA'.out.trans (HBW.out.mono (by omega))).trans ((HB35.out.mono (by omega)).trans (hI.1.toBelow (fun j e => by have := HKB.out; omega) (by omega)))
          have hT : Blk V tp 23 #[.pointer (some ⟨wp, 0, none⟩)] := (hI.1.block tp (by omega) (by have := HKB.out; omega)).trans HT5.out
          have hR : Blk V (w.heap.size + 1) 4 #[.bool false] := (hI.1.block _ (by omega) (by have := HKB.out; omega)).trans HA25.out
          have x5 : V.cell? ⟨tp, 0, none⟩ = some (.pointer (some ⟨wp, 0, none⟩)) := hT.cell 0
          have HV := Lib.hid hv
          have HBV := Lib.hid hbV
          have HR := Lib.hid hR
          have HDF := Lib.hid hdf
          clear hI hblk hv hbV hT hR hdf ha8
          go_wp2_with fail
          refine (same_any V F _ wp (107 * k) s lp p Fl vc vm vs HV.out (HOK.out.cS.sm (by omega))).mono ?_
          rintro e V1 ⟨rfl, hb1⟩
          have HB1 := Lib.hid hb1
          clear hb1
          go_wp2_with fail
          refine (wakes_any V1 (HS.out.below (HBV.out.trans (HB1.out.mono HBV.out.size)) h0w)).mono ?_
          rintro e V2 ⟨rfl, hb2⟩
          have hbv2 := HB1.out.trans (hb2.mono HB1.out.size)
          have hR2 := HR.out.below hbv2 HR.out.lt
          have x4 : V2.cell? ⟨w.heap.size + 1, 0, none⟩ = some (.bool false) := hR2.cell 0
          have z4 := hR2.frozen 0
          have HB2 := Lib.hid hbv2
          have HR2 := Lib.hid hR2
          clear hb2 hbv2 hR2
          go_wp2
          obtain ⟨Wf, hWf⟩ : ∃ Wf, Wf = V2.setCell ⟨w.heap.size + 1, 0, none⟩ (.bool true) := ⟨_, rfl⟩
          have hrf : Blk Wf (w.heap.size + 1) 4 #[.bool true] := by rw [hWf]; exact HR2.out.set_ 0 _
          have hdl : w5.heap.size < V.heap.size := (Array.getElem?_eq_some_iff.1 HDF.out).1
          have hdf : Wf.heap[w5.heap.size]? = some (.deferred (some [])) := by
            rw [hWf]
            exact (Below.heap_setCell _ _ _ _ (by show w5.heap.size ≠ w.heap.size + 1; omega)).trans ((HB2.out.block _ hdl).trans HDF.out)
          have hbf : Below w.heap.size w Wf := by rw [hWf]; exact (HBV.out.trans (HB2.out.mono HBV.out.size)).setCell (p := ⟨w.heap.size + 1, 0, none⟩) (by show w.heap.size ≤ w.heap.size + 1; omega) _
          rw [← hWf]
          have hg9 : Wf.grownBy (Wf.putObj w5.heap.size (.deferred none)) (some w5.heap.size) := grownBy_putObj' Wf _ _
          have hcell : (Wf.putObj w5.heap.size (.deferred none)).cell? ⟨w.heap.size + 1, 0, none⟩ = some (.bool true) := (World.cell?_of_block (hg9.block (w.heap.size + 1) hrf.lt (by simp; omega))).trans (hrf.cell 0)
          have hD5 : w5.heap.size = wr.heap.size + 1 + 1 := by omega
          rw [hD5] at hdf hg9 hcell
          refine ⟨by simp, .inl ⟨_, _, rfl, run_takeDeferred hdf, ?_⟩⟩
          refine ⟨.bool true, ?_, rfl, hbf.grown hg9 hbf.size (fun k hk => by cases hk; omega)⟩
          simp [results, go_sem, hcell]
        refine wpIn_rangeFunc_e2 (s1 := 8) (s2 := 9) (gf := 44) (c := s.c) (lb := #[.pointer (some ⟨w3.heap.size, 0, none⟩)]) rfl (by omega) (by rw [ha8, hs3]; rfl) trivial (enters_of Tryz.func44 (by kernel_rfl) rfl) HSEQ.out (Below.refl _ _)
          (fun pre V => StI w5 kb pre.length V) (fun c pre V => c = .exit 2 ∧ StI w5 kb pre.length V)
          (fun _ A B h hb => h.under hb) (fun _ A B r h hg hr => h.grown hg hr.1 (by omega)) (fun _ _ A B r h hg hr => ⟨h.1, h.2.grown hg hr.1 (by omega)⟩) HSI.out ?assign ?body ?done ?stop
        case assign =>
          intro l x V K' hK'
          rw [ha8] at hK' ⊢
          simp only [List.setIfInBounds_toArray, List.set_cons_succ, List.set_cons_zero] at hK' ⊢
          gi_wp2
          exact hK'
        case done =>
          intro xs V hxs hI hdf
          exact hend V _ hI hdf
        case stop =>
          rintro c pre V ⟨rfl, hI⟩ hdf
          have := hend V _ hI hdf
          gi_wp2
          exact this
        case body =>
          rintro l pre ⟨xi, xu⟩ V hI ⟨hx1, b, hb, hub⟩ hbig
          clear hend
          change xi = pre.length at hx1
          rw [ha8]
          simp only [List.setIfInBounds_toArray, List.set_cons_succ, List.set_cons_zero]
          obtain ⟨j, hj⟩ : ∃ j, j = pre.length := ⟨_, rfl⟩
          rw [← hj] at hx1 hb hI
          subst hx1
          clear ha8
          obtain ⟨A0, d0, us, hvc, hd0, hR0, -, hr0⟩ := id H1.out.cont
          have hblk : ∀ j, j < wr.heap.size → V.heap[j]? = wr.heap[j]? := fun j hj => (hI.1.block j (by omega) (by have := HKB.out; omega)).trans (HB35.out.block j hj)
          have hjc : xi < s.c.length := (List.getElem?_eq_some_iff.1 hb).1
          have hju : xi < us.length := by have := hR0.1; omega
          obtain ⟨ad, hA, hg, hcell⟩ := hR0.2 (by omega)
          subst hA
          obtain ⟨A2, c3, hu, -, hR2, -⟩ := hr0 xi us[xi] b (List.getElem?_eq_getElem hju) hb
          have e0 : V.cell? (ad.add xi) = some (.slice A2 b.length c3) := (World.cell?_of_block (a := ad.add xi) (by rw [block_of_add]; exact hblk _ hg)).trans (hcell xi _ (by rw [List.getElem?_eq_getElem hju, hu]))
          obtain ⟨Au, du, hxu⟩ := own_slice hub
          subst hxu
          have hR2V : Reads V V.heap.size 1 A2 b.length (bytesV b) := reads_keep hR2 (by have := hI.1.size; omega) fun h0 ad9 e9 => hblk _ (by obtain ⟨ad2, e2, hlt2, -⟩ := hR2.2 h0; rw [e9] at e2; injection e2 with e2; rw [e2]; exact hlt2)
          have j1 : ∀ q, (convert 25 9 (.slice Au b.length du)).run Tryz.prog (V.drewN q) = .ok (.string ⟨b.toArray⟩) (V.drewN q) := fun q => run_str_reads du ((Reads.of_own hub).drewN q)
          have j2 : ∀ q, (convert 25 9 (.slice A2 b.length c3)).run Tryz.prog (V.drewN q) = .ok (.string ⟨b.toArray⟩) (V.drewN q) := fun q => run_str_reads c3 (hR2V.drewN q)
          obtain ⟨nc, hnc⟩ : ∃ nc, nc = s.c.length := ⟨_, rfl⟩
          have hTP : Blk V tp 23 #[.pointer (some ⟨wp, 0, none⟩)] := (hI.1.block tp (by omega) (by have := HKB.out; omega)).trans HT5.out
          have hWP := (hblk wp H1.out.blk.lt).trans H1.out.blk
          have hST : Blk V w.heap.size 3 #[.int .i64 z] := (hI.1.block _ (by omega) (by have := HKB.out; omega)).trans HA15.out
          have y1 : V.cell? ⟨tp, 0, none⟩ = some (.pointer (some ⟨wp, 0, none⟩)) := hTP.cell 0
          have y2 : V.cell? ⟨wp, 2, none⟩ = some (.slice (some ad) nc d0) := by rw [hnc]; exact (Blk.cell hWP 2).trans (congrArg some hvc)
          have y3 : V.cell? ⟨kb, 0, none⟩ = some (.int .i64 (xi : Int)) := hI.2.cell 0
          have hge : decide ((nc : Int) ≤ (xi : Int)) = false := decide_eq_false (by omega)
          have hge2 : decide (nc ≤ xi) = false := decide_eq_false (by omega)
          have hxl : xi < 200 := by have := HOK.out.cS.1; omega
          have hxn : xi < nc := by omega
          have HI := Lib.hid hI
          have HJ := Lib.hid hj
          have HUB := Lib.hid hub
          have HST := Lib.hid hST
          have HBL := Lib.hid (HOK.out.cS.2 b (List.mem_of_getElem? hb))
          clear hI hj hb hub hcell hu hR2 hR2V hR0 hr0 hblk hvc hnc hTP hWP hST hd0
          gi_wp2_with fail
          refine wpIn_region_quiet_r (by kernel_rfl) (by kernel_rfl) (by kernel_rfl) ?_
          repeat (gi_big_quiet_step (fail))
          refine wpQuietIn_nil ?_
          intro _ hw'
          obtain ⟨nq2, hw''⟩ := hw'
          subst hw''
          clear j1 j2 e0 y2 hge hge2
          gi_wp2_with fail
          refine (CallsIn.inRound l (callsIn_wide.2 (spoilbytes2_any (.slice Au b.length du) b (w5.heap.size + 2) (V.drewN nq2) HUB.out (by show w5.heap.size + 2 ≤ V.heap.size; exact hbig) (by have := HBL.out; omega)))).mono ?_
          rintro e V2 ⟨rfl, hg2⟩
          have hnk : ∀ g t, t ≠ 5 → IsT V g t → (Value.slice Au b.length du).ownBlock ≠ some g := fun g t ht hi e => (IsT.of_own HUB.out e).ne hi (fun e2 => ht e2.symm) rfl
          have hbk2 : Blk V2 kb 3 #[.int .i64 (xi : Int)] := (HI.out.2.drewN nq2).grown hg2 fun e => hnk kb 3 (by decide) (IsT.of_blk HI.out.2) e.symm
          have hst2 : Blk V2 w.heap.size 3 #[.int .i64 z] := (HST.out.drewN nq2).grown hg2 fun e => hnk w.heap.size 3 (by decide) (IsT.of_blk HST.out) e.symm
          have hI2 : Chg (fun y => y = kb) w5 V2 := (HI.out.1.drewN nq2).grown hg2 fun g e => .inr (by have := (HUB.out.lt g e).1; omega)
          have hKp : ∀ g, (IsT V g 25 ∨ (IsT V g 5 ∧ (Value.slice Au b.length du).ownBlock ≠ some g)) → V2.heap[g]? = V.heap[g]? := fun g hgg => hg2.block g (by show g < V.heap.size; exact hgg.elim (fun h => h.lt) fun h => h.1.lt) fun e => hgg.elim (fun h => hnk g 25 (by decide) h e.symm) fun h => h.2 e.symm
          have hctl : ∀ g, w5.heap.size ≤ g ∧ g ≤ w5.heap.size + 1 → V2.heap[g]? = V.heap[g]? := fun g hgg => hg2.block g (by show g < V.heap.size; omega) fun e => by have := (HUB.out.lt g e.symm).1; omega
          have hsz2 : V.heap.size ≤ V2.heap.size := hg2.size
          have x3 : V2.cell? ⟨kb, 0, none⟩ = some (.int .i64 (xi : Int)) := hbk2.cell 0
          have z3 := hbk2.frozen 0
          obtain ⟨V3, hV3⟩ : ∃ V3, V3 = V2.setCell ⟨kb, 0, none⟩ (.int .i64 ((xi : Int) + 1)) := ⟨_, rfl⟩
          have hk3 : ∀ g, g ≠ kb → V3.heap[g]? = V2.heap[g]? := fun g hgk => by rw [hV3]; exact Below.heap_setCell _ _ _ _ hgk
          have hs3' : V3.heap.size = V2.heap.size := by rw [hV3]; simp [World.setCell]
          have hbk3 : Blk V3 kb 3 #[.int .i64 ((xi : Int) + 1)] := by rw [hV3]; exact hbk2.set_ 0 _
          have hst3 : Blk V3 w.heap.size 3 #[.int .i64 z] := (hk3 _ (by have := HKB.out; omega)).trans hst2
          have hI3 : Chg (fun y => y = kb) w5 V3 := by rw [hV3]; exact hI2.setCell (p := ⟨kb, 0, none⟩) (.inl rfl) _
          have x6 : V3.cell? ⟨kb, 0, none⟩ = some (.int .i64 ((xi : Int) + 1)) := hbk3.cell 0
          have x7 : V3.cell? ⟨w.heap.size, 0, none⟩ = some (.int .i64 z) := hst3.cell 0
          have HV3 := Lib.hid hV3
          have HI3 := Lib.hid (show StI w5 kb (xi + 1) V3 from ⟨hI3, hbk3⟩)
          have HFIN := Lib.hid (show ∀ q : Nat, V.heap.size ≤ (V3.drewN q).heap.size ∧ (∀ g, w5.heap.size ≤ g ∧ g ≤ w5.heap.size + 1 → (V3.drewN q).heap[g]? = V.heap[g]?) ∧ KpE (.slice Au b.length du) V (V3.drewN q) from fun q => ⟨by show V.heap.size ≤ V3.heap.size; omega, fun g hgg => (hk3 g (by omega)).trans (hctl g hgg), fun g hgg => (hk3 g (hgg.elim (fun h => h.ne (IsT.of_blk HI.out.2) (by decide)) fun h => h.1.ne (IsT.of_blk HI.out.2) (by decide))).trans (hKp g hgg)⟩)
          clear hnk hbk2 hst2 hI2 hKp hctl hsz2 hV3 hk3 hs3' hbk3 hst3 hI3 hg2 y1 y3
          by_cases hbr : (xi : Int) + 1 = r
          case' pos =>
            have q1 : ((xi : Int) + 1 == r) = true := by simpa using hbr
            have q2 : decide ((xi : Int) + 1 = r) = true := decide_eq_true hbr
          case' neg =>
            have q1 : ((xi : Int) + 1 == r) = false := by simpa using hbr
            have q2 : decide ((xi : Int) + 1 = r) = false := decide_eq_false hbr
          all_goals
            clear hbr
            gi_wp2_with fail
            rw [← HV3.out]
            clear x3 z3
            refine wpIn_region_quiet_r (by kernel_rfl) (by kernel_rfl) (by kernel_rfl) ?_
            repeat (gi_big_quiet_step ((gi_at_call 10; exact CallsIn.quiet_of_same (CallsIn.inRound l (callsIn_wide.2 (HKW.out _))))))
            refine wpQuietIn_nil ?_
            intro _ hw'
            obtain ⟨nq3, hw''⟩ := hw'
            subst hw''
            gi_wp2
            obtain ⟨f1, f2, f3⟩ := HFIN.out nq3
            have hlen : (pre ++ [(xi, Value.slice Au b.length du)]).length = xi + 1 := by rw [List.length_append, ← HJ.out]; rfl
            have hst : StI w5 kb (pre ++ [(xi, Value.slice Au b.length du)]).length (V3.drewN nq3) := by
              rw [hlen]
              exact ⟨HI3.out.1.drewN nq3, HI3.out.2.drewN nq3⟩
            first
              | exact ⟨f1, f2, f3, hst⟩
              | exact ⟨f1, f2, rfl, hst⟩
end Go.Proofs.YtfchnpdgnhoffaaGreatDoor
