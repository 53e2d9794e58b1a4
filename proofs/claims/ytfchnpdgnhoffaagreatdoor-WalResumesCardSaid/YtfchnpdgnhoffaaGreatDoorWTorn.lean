/- The walk of WalTorn (4). -/
import Derived.Test.YtfchnpdgnhoffaaGreatDoorWOpenLaw
import Derived.Test.YtfchnpdgnhoffaaGreatDoorJ03Create
namespace Go.Proofs.YtfchnpdgnhoffaaGreatDoor
open Go.RowKit Go.Shelf Go.Maps

/-- the argument, as it reads -/
structure TornAt (W : World) (vr vl : Value) (z : Int) (A : Option Addr) (c : Nat) (rs : List Rec) (b : Rec) (cs : List Int) : Prop where
  recs : RecsR W (fun y => y < W.heap.size) vr rs
  rsL : rs.length ≤ maxLen
  rbL : ∀ y ∈ rs, y.length ≤ maxLen
  last : ByR W (fun y => y < W.heap.size) vl b
  bL : b.length ≤ maxLen
  z64 : I64 z
  cuts : Reads W W.heap.size 1 A cs.length (intsV cs)
  cC : cs.length ≤ c
theorem RecsR.take {w : World} {G : Nat → Prop} {A : Option Addr} {m d : Nat} {l : List Rec} (h : RecsR w G (.slice A m d) l) {n : Nat} (hn : n ≤ m) : RecsR w G (.slice A n d) (l.take n) := by
  obtain ⟨A2, c2, vs, e, hc, hR, hG, hr⟩ := h
  injection e with e1 e2 e3
  subst e1 e2 e3
  have hl : (l.take n).length = n := by rw [List.length_take]; omega
  refine ⟨A, d, vs.take n, by rw [hl], by rw [hl]; omega, ?_, fun ad ea h0 => hG ad ea (by omega), fun i u b h1 h2 => ?_⟩
  · rw [hl]
    have := hR.take hn
    rwa [Nat.mul_one] at this
  · have hi : i < n := by have := (List.getElem?_eq_some_iff.1 h2).1; omega
    rw [List.getElem?_take_of_lt hi] at h1 h2
    exact hr i u b h1 h2
theorem clip_val (w : World) (G : Nat → Prop) (v : Value) (b : Rec) (h : ByR w G v b) (hb : b.length ≤ maxLen) :
    ∃ A c, ByR w G (.slice A (clipL b).length c) (clipL b) ∧ ∀ W, Calls Tryz.prog 21 #[v] W fun e w' => e = .returned (.slice A (clipL b).length c) ∧ w' = W := by
  obtain ⟨A, c, hv, hc, hR, hG⟩ := h
  subst hv
  unfold maxLen at hb
  by_cases hl : 200 < b.length
  · have e : (clipL b).length = 200 := by unfold clipL; rw [List.length_take]; omega
    refine ⟨A, c, ⟨A, c, rfl, by omega, ?_, fun ad ea h0 => hG ad ea (by omega)⟩, fun W => ?_⟩
    · rw [e]
      have := hR.take (Nat.le_of_lt hl)
      rwa [show (bytesV b).take (200 * 1) = bytesV (clipL b) by unfold bytesV clipL; rw [List.map_take]] at this
    · obtain ⟨ad, hA, -⟩ := hR.2 (by omega)
      subst hA
      rw [e]
      have hlt : (200 : Int) < (b.length : Int) := by omega
      clear e hR hG
      go_enter Tryz.func21, Tryz.ntmps21
      go_wp2
      go_ret
      exact ⟨rfl, rfl⟩
  · have e : clipL b = b := List.take_of_length_le (by omega)
    rw [e]
    refine ⟨A, c, ⟨A, c, rfl, hc, hR, hG⟩, fun W => ?_⟩
    have hlt : ¬ (200 : Int) < (b.length : Int) := by omega
    clear e hR hG
    go_enter Tryz.func21, Tryz.ntmps21
    go_wp2
    go_ret
    exact ⟨rfl, rfl⟩
/-- a row that nobody writes to -/
theorem RecsR.far {w w' : World} {F G : Nat → Prop} {v : Value} {l : List Rec} (h : RecsR w G v l) (hc : Chg F w w') (hd : ∀ k, G k → ¬ F k) : RecsR w' G v l := h.keep hc.size fun k hk hlt => hc.block k hlt (hd k hk)
set_option maxRecDepth 100000 in
set_option maxHeartbeats 25600000 in
theorem torn_any (w : World) (hS : SynW w) (vr vl : Value) (z : Int) (A : Option Addr) (c : Nat) (rs : List Rec) (b : Rec) (cs : List Int) (hT : TornAt w vr vl z A c rs b cs) :
    Calls Tryz.prog 4 #[.agg #[vr, vl, .int .i64 z, .slice A cs.length c]] w fun e w' => e = .returned (.bool true) ∧ Below w.heap.size w w' := by
  obtain ⟨Aa, da, usa, hva, hda, hra, -, hrra⟩ := id hT.recs
  obtain ⟨Al, dl, hvl, -⟩ := id hT.last
  subst hva hvl
  obtain ⟨na, hna⟩ : ∃ n, n = rs.length := ⟨_, rfl⟩
  obtain ⟨nc, hnc⟩ : ∃ n, n = cs.length := ⟨_, rfl⟩
  have hula : usa.length = na := by have := hra.1; omega
  have hnal : na ≤ 9223372036854775807 := by have := hT.rsL; unfold maxLen at this; omega
  have HRAA := Lib.hid (show Reads w w.heap.size 1 Aa na usa by rw [hna]; exact hra)
  have HRRA := Lib.hid hrra
  have HULA := Lib.hid hula
  have HNA := Lib.hid hna
  have HNC := Lib.hid hnc
  have HT := Lib.hid hT
  have HS := Lib.hid hS
  have h0w := hS.lt
  rw [← hna, ← hnc]
  obtain ⟨wA, hwA⟩ : ∃ wA, wA = w.alloc (.cells #[.slice Aa na da, .slice Al b.length dl, .int .i64 z, .slice A nc c] 43) := ⟨_, rfl⟩
  have hbA : Below w.heap.size w wA := by rw [hwA]; exact (Below.refl _ _).alloc (Nat.le_refl _) _
  have bA := Blk.new w 43 #[.slice Aa na da, .slice Al b.length dl, .int .i64 z, .slice A nc c]
  rw [← hwA] at bA
  have t0 : wA.cell? ⟨w.heap.size, 0, none⟩ = some (.slice Aa na da) := bA.cell 0
  have t1 : wA.cell? ⟨w.heap.size, 1, none⟩ = some (.slice Al b.length dl) := bA.cell 1
  have t2 : wA.cell? ⟨w.heap.size, 2, none⟩ = some (.int .i64 z) := bA.cell 2
  have t3 : wA.cell? ⟨w.heap.size, 3, none⟩ = some (.slice A nc c) := bA.cell 3
  have HWA := Lib.hid hwA
  have HBA := Lib.hid hbA
  clear hT hra hrra hula hna hnc hS hda hwA hbA bA
  go_enter Tryz.func4, Tryz.ntmps4
  go_upto_region 1 with fail
  rw [← HWA.out]
  go_quiet (fail)
  have HBN := Lib.hid (below_drewN HBA.out nq)
  obtain ⟨wB, hwB⟩ : ∃ wB, wB = wA.drewN nq := ⟨_, rfl⟩
  rw [← hwB] at HBN ⊢
  clear t0 t1 t2 t3 hwB
  go_wp2_with fail
  refine (begun_any wB (HS.out.below HBN.out h0w)).mono ?_
  rintro e w1 ⟨wp, rfl, hwp, hat, hb1⟩
  have hsB := HBN.out.size
  have HC1 := Lib.hid (show Cur w wp 0 LS.Free w1 from ⟨_, _, hat, ls0_ok, ⟨rfl, rfl, rfl⟩, HBN.out.trans (hb1.mono hsB), fun y hy => by have := hy.1; omega⟩)
  clear hat hb1
  go_wp2_with fail
  go_loopw [8] (fun i wr => AppR w wp na 0 LS.Free i wr) (fun i _ => na - (intOf i).toNat)
  case atStart => exact ⟨0, Nat.zero_le _, Nat.zero_le _, rfl, HC1.out⟩
  case round =>
    obtain ⟨k, hk, hk20, rfl, hcur⟩ := hrel
    have HCU := Lib.hid hcur
    have hbw := hcur.world
    by_cases hlt : k < na ∧ k < 8
    · obtain ⟨hl1, hl2⟩ := hlt
      obtain ⟨ad, hA, hg, hcell⟩ := HRAA.out.2 (by omega)
      subst hA
      have hku : k < usa.length := by rw [HULA.out]; exact hl1
      have hkl : k < rs.length := by rw [← HNA.out]; exact hl1
      obtain ⟨y, hy⟩ : ∃ y, y = rs[k] := ⟨_, rfl⟩
      have hr := HRRA.out k usa[k] y (List.getElem?_eq_getElem hku) (by rw [hy]; exact List.getElem?_eq_getElem hkl)
      obtain ⟨A2, c2, hu, -⟩ := id hr
      have d0 : wr.cell? (ad.add k) = some (.slice A2 y.length c2) := (hbw.cell (p := ad.add k) (by rw [block_of_add]; exact hg)).trans (hcell k _ (by rw [List.getElem?_eq_getElem hku, hu]))
      rw [hu] at hr
      have HRR := Lib.hid hr
      have HBL := Lib.hid (HT.out.rbL y (by rw [hy]; exact List.getElem_mem _))
      clear hy hr hu hcell hbw hcur
      go_wp2_with fail
      refine (cur_app HCU.out (by omega) (.slice A2 y.length c2) y HRR.out HBL.out (T' := LS.Free) fun s s' h hc => free_call h hc).mono ?_
      rintro e w2 ⟨rfl, hcur2⟩
      have HC2 := Lib.hid hcur2
      clear hcur2
      go_wp2
      exact ⟨⟨k + 1, by omega, by omega, by go_num, HC2.out⟩, by simp [intOf]; omega⟩
    · have hend : (k < na → ¬ k < 8) := fun h1 h2 => hlt ⟨h1, h2⟩
      obtain ⟨s, F, ⟨G, lp, p, Fl, vc, vm, vs, h1⟩, h2, h3, h4, h5⟩ := hcur
      obtain ⟨A0, m0, d0, hvc⟩ := recs_slice h1.cont
      subst hvc
      have y2 : wr.cell? ⟨wp, 2, none⟩ = some (.slice A0 m0 d0) := h1.blk.cell 2
      have hm0 : m0 = s.c.length := by obtain ⟨A9, c9, v9, e9, -⟩ := h1.cont; injection e9
      have HM0 := Lib.hid hm0
      have hml : m0 ≤ 100 := by have := h2.cS.1; omega
      have H1 := Lib.hid h1.atG
      have H2 := Lib.hid h2
      have H3 := Lib.hid h3
      have H4 := Lib.hid h4
      have H5 := Lib.hid h5
      have hsr := h4.size
      clear hlt hbw h1 h2 h3 h4 h5 hm0
      by_cases g1 : k < na
      case' pos =>
        have g2 := hend g1
        clear hend
      case' neg =>
        clear hend
      all_goals
        go_wp2_with fail
        refine (does_stop wr F (fun y => y < w.heap.size) wp (0 + k) s ⟨4, z, 0, [], [], []⟩ (.slice none 0 0) (.slice none 0 0) (.slice none 0 0) ⟨_, _, _, _, _, _, _, H1.out⟩ (by omega) H2.out ⟨by_nil _ _, (RecsAt.nil _ _).read, ⟨none, 0, rfl, Nat.le_refl _, reads_none0 _⟩, Nat.zero_le _, Nat.zero_le _, (fun b hb => by cases hb), (show I64 4 from ⟨by decide, by decide⟩), HT.out.z64⟩ rfl).mono ?_
        rintro e w2 ⟨rfl, s2, ⟨F2, f1, f2, f3⟩, o2, c2, m2⟩
        have hs2 := f3.size
        have hb2 := H4.out.trans (f3.toBelow H5.out hsr)
        have hF2 : ∀ y, F2 y → w.heap.size ≤ y := fun y hy => (f1 y hy).elim (H5.out y) fun h => by omega
        have hr2 : RecsR w2 (fun y => G y ∧ y < wr.heap.size) (.slice A0 m0 d0) s.c := H1.out.cont.far f3 fun y hy => H1.out.disj y hy
        have hd2 : ∀ y, (G y ∧ y < wr.heap.size) → ¬ F2 y := fun y hy hf => (f1 y hf).elim (H1.out.disj y hy) fun h => by have := hy.2; omega
        have HW2 := Lib.hid f2
        have HO2 := Lib.hid o2
        have HC2 := Lib.hid c2
        have HM2 := Lib.hid m2
        have HB2 := Lib.hid hb2
        have HF2 := Lib.hid hF2
        have HR2 := Lib.hid hr2
        have HD2 := Lib.hid hd2
        clear f1 f2 f3 o2 c2 m2 hb2 hF2 hr2 hd2 y2
        go_wp2_with fail
        refine (does_app w2 F2 (fun y => y < w.heap.size) wp (0 + k + 1) s2 (opA b) (.slice Al b.length dl) _ _ HW2.out (by omega) HO2.out (opA_val (HT.out.last.below HB2.out) HT.out.bL) (fun y hy hf => by have := HF2.out y hf; have hy : y < w.heap.size := hy; omega) (.inl rfl)).mono ?_
        rintro e w3 ⟨rfl, s3, ⟨F3, f1, f2, f3⟩, o3, ct⟩
        have hs3 := f3.size
        have hb3 := HB2.out.trans (f3.toBelow HF2.out (by omega))
        have hF3 : ∀ y, F3 y → w.heap.size ≤ y := fun y hy => (f1 y hy).elim (HF2.out y) fun h => by omega
        have hr3 : RecsR w3 (fun y => G y ∧ y < wr.heap.size) (.slice A0 m0 d0) s.c := HR2.out.far f3 HD2.out
        have hd3 : ∀ y, (G y ∧ y < wr.heap.size) → ¬ F3 y := fun y hy hf => (f1 y hf).elim (HD2.out y hy) fun h => by have := hy.2; omega
        have HW3 := Lib.hid f2
        have HO3 := Lib.hid o3
        have HCT := Lib.hid ct
        have HB3 := Lib.hid hb3
        have HF3 := Lib.hid hF3
        have HR3 := Lib.hid hr3
        have HD3 := Lib.hid hd3
        clear f1 f2 f3 o3 ct hb3 hF3 hr3 hd3
        go_wp2_with fail
        refine (does_crash w3 F3 (fun y => y < w.heap.size) wp (0 + k + 1 + 1) s3 ⟨5, 0, 0, [], [], cs⟩ (.slice none 0 0) (.slice none 0 0) (.slice A nc c) HW3.out (by omega) HO3.out ⟨by_nil _ _, (RecsAt.nil _ _).read, ⟨A, c, by rw [HNC.out], HT.out.cC, (HT.out.cuts.below HB3.out).more (by have := HB3.out.size; omega)⟩, Nat.zero_le _, Nat.zero_le _, (fun b hb => by cases hb), (show I64 5 from ⟨by decide, by decide⟩), i64_0⟩ rfl).mono ?_
        rintro e w4 ⟨rfl, s4, ⟨F4, f1, f2, f3⟩, o4, cr⟩
        have hs4 := f3.size
        have hb4 := HB3.out.trans (f3.toBelow HF3.out (by omega))
        have hr4 : RecsR w4 (fun y => G y ∧ y < wr.heap.size) (.slice A0 m0 d0) s.c := HR3.out.far f3 HD3.out
        obtain ⟨G4, lp4, p4, Fl4, vc4, vm4, vs4, h4⟩ := f2
        obtain ⟨A4, m4, d4, hvc4⟩ := recs_slice h4.cont
        subst hvc4
        have y4 : w4.cell? ⟨wp, 2, none⟩ = some (.slice A4 m4 d4) := h4.blk.cell 2
        have hm4 : m4 = s4.c.length ∧ m4 ≤ d4 := by obtain ⟨A9, c9, v9, e9, hc9, -⟩ := h4.cont; injection e9 with e1 e2 e3; subst e3; omega
        -- what the content may be
        have hcont : s4.c = s.c ∨ s4.c = s.c ++ [clipL b] := by
          have hmay : s2.may = [] := by rw [HM2.out]; exact H3.out.2.2
          rcases HCT.out.res with ⟨e1, e2, -⟩ | ⟨e1, e2, -⟩
          · rcases cr.c with e3 | e3
            · right; rw [e3, e1, HC2.out]; rfl
            · rw [e2] at e3; cases e3
          · rcases cr.c with e3 | e3
            · left; rw [e3, e1, HC2.out]
            · rw [e2, hmay, HC2.out] at e3
              right
              rw [List.mem_singleton.1 e3]; rfl
        obtain ⟨Ab, db, hbv, hbc⟩ := clip_val w _ _ b HT.out.last HT.out.bL
        obtain ⟨b2, hb2e⟩ : ∃ b2, b2 = clipL b := ⟨_, rfl⟩
        rw [← hb2e] at hbv hbc hcont
        have HB4 := Lib.hid hb4
        have htk : s4.c.take m0 = s.c := by
          rw [HM0.out]
          rcases hcont with e | e
          · rw [e, List.take_length]
          · rw [e, List.take_left]
        have hml4 : m0 ≤ m4 := by
          rcases hcont with e | e
          · rw [hm4.1, e, HM0.out]; omega
          · rw [hm4.1, e, HM0.out, List.length_append]; omega
        have hcs4 := o4.cS
        have HROW := Lib.hid (show ∀ σ : Cls w4, Calls Tryz.prog 20 #[.slice A4 m0 d4, .slice A0 m0 d0] σ.val fun e w' => e = .returned (.bool true) ∧ Below σ.val.heap.size σ.val w' from fun σ => by
          refine (rows_any σ.val _ _ _ _ (s4.c.take m0) s.c ((h4.cont.take hml4).below σ.2) (hr4.below σ.2) (by rw [List.length_take]; omega) (fun y hy => by have := hcs4.2 y (List.mem_of_mem_take hy); omega) (fun y hy => by have := H2.out.cS.2 y hy; omega)).mono ?_
          rintro e w' ⟨rfl, q, rfl⟩
          rw [decide_eq_true htk]
          exact ⟨rfl, below_drewN (Below.refl _ _) q⟩)
        have HWK := Lib.hid (show ∀ σ : Cls w4, Calls Tryz.prog 18 #[] σ.val fun e w' => e = .returned (.bool true) ∧ Below σ.val.heap.size σ.val w' from fun σ => wakes_any σ.val (HS.out.below (hb4.trans (σ.2.mono hb4.size)) h0w))
        have HCL := Lib.hid (show ∀ σ : Cls w4, Calls Tryz.prog 21 #[.slice Al b.length dl] σ.val fun e w' => e = .returned (.slice Ab b2.length db) ∧ Below σ.val.heap.size σ.val w' from fun σ => (hbc σ.val).mono fun e w' ⟨e1, e2⟩ => ⟨e1, by rw [e2]; exact Below.refl _ _⟩)
        have hx2 : ∀ σ : Cls w4, σ.val.cell? ⟨wp, 2, none⟩ = some (.slice A4 m4 d4) := fun σ => (h4.blk.below σ.2 h4.blk.lt).cell 2
        have jb : ∀ σ : Cls w4, (convert 25 9 (.slice Ab b2.length db)).run Tryz.prog σ.val = .ok (.string ⟨b2.toArray⟩) σ.val := fun σ => by
          obtain ⟨A9, c9, e9, -, hR9, -⟩ := hbv
          injection e9 with e1 e2 e3
          subst e1 e3
          exact run_str_reads _ ((hR9.below hb4).below (σ.2.mono hb4.size))
        have hwr : IntKind.i64.wrap ((m0 : Int) + 1) = (m0 : Int) + 1 := IntWalk.i64_in _ (by omega)
        have q0 : decide ((m4 : Int) ≤ (m0 : Int) + 1) = true := decide_eq_true (by
          rcases hcont with e | e
          · rw [hm4.1, e, HM0.out]; omega
          · rw [hm4.1, e, HM0.out, List.length_append]; simp)
        have hmd := hm4.2
        have hmd2 : m0 ≤ d4 := by omega
        rcases hcont with hc4 | hc4
        · have hmm : m4 = m0 := by rw [hm4.1, hc4, HM0.out]
          have q1 : ((m4 : Int) == (m0 : Int)) = true := by simp [hmm]
          have q2 : decide ((m4 : Int) = (m0 : Int)) = true := by simp [hmm]
          have q3 : decide (m4 = m0) = true := by simp [hmm]
          clear hmm cr o4 f1 f3 hr4 h4 hm4 htk hcs4 hc4 hbc hb4 hb2e hbv y4
          go_wp2_with fail
          refine wp_region_cls (by kernel_rfl) (by kernel_rfl) ?_
          repeat (go_big_quiet_step ((first | (go_at_call 20; exact Cls.call (HROW.out _)) | (go_at_call 18; exact Cls.call (HWK.out _)) | (go_at_call 21; exact Cls.call (HCL.out _)))))
          refine wpQuiet_nil ?_
          rintro w9 ⟨σ, rfl⟩
          clear hwr hx2 jb
          go_wp2
          go_ret
          exact ⟨rfl, HB4.out.trans (σ.2.mono HB4.out.size)⟩
        · have hmm : m4 = m0 + 1 := by rw [hm4.1, hc4, HM0.out, List.length_append]; rfl
          have q1 : ((m4 : Int) == (m0 : Int)) = false := beq_eq_false_iff_ne.2 (by omega)
          have q2 : decide ((m4 : Int) = (m0 : Int)) = false := decide_eq_false (by omega)
          have q3 : decide (m4 = m0) = false := by simp [hmm]
          have hlt4 : m0 < m4 := by omega
          obtain ⟨A9, c9, us4, e9, -, hR4, -, hr44⟩ := id h4.cont
          injection e9 with e1 e2 e3
          subst e1 e3
          obtain ⟨ad, hA4, hg4, hcell4⟩ := hR4.2 (by omega)
          subst hA4
          have hul4 : us4.length = s4.c.length := by have := hR4.1; omega
          have hju : m0 < us4.length := by omega
          have hjb : s4.c[m0]? = some b2 := by rw [hc4, HM0.out]; simp
          obtain ⟨Ay, dy, hy, -, hRy, -⟩ := hr44 m0 us4[m0] b2 (List.getElem?_eq_getElem hju) hjb
          have hxe : ∀ σ : Cls w4, σ.val.cell? (ad.add m0) = some (.slice Ay b2.length dy) := fun σ => (σ.2.cell (p := ad.add m0) (by rw [block_of_add]; exact hg4)).trans (hcell4 m0 _ (by rw [List.getElem?_eq_getElem hju, hy]))
          have jy : ∀ σ : Cls w4, (convert 25 9 (.slice Ay b2.length dy)).run Tryz.prog σ.val = .ok (.string ⟨b2.toArray⟩) σ.val := fun σ => run_str_reads dy (hRy.below σ.2)
          clear hmm cr o4 f1 f3 hr4 h4 hm4 htk hcs4 hc4 hbc hb4 hb2e hbv y4 hR4 hr44 hcell4 hul4 hju hjb hy hRy e2
          go_wp2_with fail
          refine wp_region_cls (by kernel_rfl) (by kernel_rfl) ?_
          repeat (go_big_quiet_step ((first | (go_at_call 20; exact Cls.call (HROW.out _)) | (go_at_call 18; exact Cls.call (HWK.out _)) | (go_at_call 21; exact Cls.call (HCL.out _)))))
          refine wpQuiet_nil ?_
          rintro w9 ⟨σ, rfl⟩
          clear hwr hx2 jb hxe jy
          go_wp2
          go_ret
          exact ⟨rfl, HB4.out.trans (σ.2.mono HB4.out.size)⟩
end Go.Proofs.YtfchnpdgnhoffaaGreatDoor
