/- The walk of unentry (68), over an entry's bytes. -/
import Derived.Test.YtfchnpdgnhoffaaGreatDoorJ10WRfunc
import Derived.Test.YtfchnpdgnhoffaaGreatDoorJ06Turn
import Derived.WalkMore
namespace Go.Proofs.YtfchnpdgnhoffaaGreatDoor
open Go.RowKit Go.Shelf Go.Maps
attribute [local simp] wide_fn
attribute [local go_sem] Oper.semAt_some

theorem raw_own {w : World} {base g C : Nat} {bs : List UInt8} (h : w.ownsRow base 5 1 (.slice (some ⟨g, 0, none⟩) bs.length C) bs.length (bytesV bs)) (hl : 0 < bs.length) : RawAt w g 0 bs := by
  obtain ⟨g2, cap, hv, hb, hlt⟩ := h.form hl
  injection hv with hv
  injection hv with hv
  injection hv with hv
  subst hv
  exact ⟨hlt, fun j u hu => by
    have := h.cells (g := g) rfl j u hu
    rwa [add_at] at this⟩
theorem own_cap {w : World} {base g C n : Nat} {xs : List Value} (h : w.ownsRow base 5 1 (.slice (some ⟨g, 0, none⟩) n C) n xs) : n ≤ C ∧ C ≤ maxLen := by
  rcases h.2 with ⟨e, -⟩ | ⟨g2, cap, cur, e, -, -, hc, hm, -⟩
  · cases e
  · injection e with _ _ e
    rw [e]; exact ⟨hc, hm⟩
set_option maxRecDepth 100000 in
set_option maxHeartbeats 12800000 in
theorem unentry_any (e : Ent) (n : Nat) (v : Value) (base : Nat) (w : World) (hn : n < 100) (he : e.ok) (h : w.ownsRow base 5 1 v (entL e n).length (bytesV (entL e n))) (hL : (entL e n).length ≤ 90000) :
    Calls Tryz.prog 68 #[v, .int .i64 (n : Int)] w fun en w' => ∃ v2, en = .returned (.tuple #[.int .u8 ((kindB e.all).toNat : Int), v2, .bool true]) ∧ RecsN w' w.heap.size v2 e.recs ∧ Below w.heap.size w w' := by
  obtain ⟨i5, hi5, hz50, hz51, hz52⟩ := info_parts info5
  obtain ⟨i25, hi25, hz250, hz251, hz252⟩ := info_parts info25
  have HI5 := Lib.hid hi5
  have HZ50 := Lib.hid hz50
  have HZ51 := Lib.hid hz51
  have HZ52 := Lib.hid hz52
  have HI25 := Lib.hid hi25
  have HZ250 := Lib.hid hz250
  have HZ251 := Lib.hid hz251
  have HZ252 := Lib.hid hz252
  -- the bytes
  obtain ⟨K, hKe⟩ : ∃ K, K = (bodyL e n).length := ⟨_, rfl⟩
  have hbl : (bodyL e n).length = 17 + (recsL e.recs).length := by
    show (kindB e.all :: (nameL n ++ recsL e.recs)).length = _
    rw [List.length_cons, List.length_append, nameL_len]; omega
  have hLe : K + 4 = (entL e n).length := by rw [hKe]; unfold entL; rw [List.length_append, fourL_len]
  obtain ⟨M, hM⟩ : ∃ M, M = (recsL e.recs).length := ⟨_, rfl⟩
  have hLM : K = 17 + M := by omega
  rw [← hLe] at h hL
  obtain ⟨g, C, hv⟩ := own_succ h (by omega)
  subst hv
  obtain ⟨hLC, hCm⟩ := own_cap h
  have hraw : RawAt w g 0 (entL e n) := by rw [hLe] at h; exact raw_own h (by omega)
  have hgl := hraw.1
  have hraw1 : RawAt w g 1 (nameL n ++ (recsL e.recs ++ fourL (crcL (bodyL e n)))) := by
    have h1 := hraw
    unfold entL at h1
    rw [show bodyL e n = [kindB e.all] ++ (nameL n ++ recsL e.recs) from rfl, List.append_assoc, List.append_assoc] at h1
    exact h1.drop
  have hraw17 : RawAt w g 17 (recsL e.recs ++ fourL (crcL (bodyL e n))) := hraw1.drop
  have k0 : w.cell? ⟨g, 0, none⟩ = some (.int .u8 ((kindB e.all).toNat : Int)) := hraw.2 0 _ rfl
  have HR0 := Lib.hid (show RawAt w g 0 (bodyL e n ++ fourL (crcL (bodyL e n))) from hraw)
  have HR1 := Lib.hid hraw1
  have HR17 := Lib.hid hraw17
  have HBL := Lib.hid (show (bodyL e n).length = K by omega)
  have hcr := crcL_lt (bodyL e n)
  have HMM := Lib.hid hM
  have hL21 : 17 ≤ K := by omega
  have HLM := Lib.hid hLM
  clear h hraw hraw1 hraw17 hi5 hz50 hz51 hz52 hi25 hz250 hz251 hz252 hLe hbl hKe hM hLM
  refine (callsIn_wide (n := 9)).1 ?_
  refine callsIn_of_wp_marks Tryz.func68 rfl trivial ?_ rfl
  simp only [Tryz.ntmps68, List.size_toArray, List.length_cons, List.length_nil, Nat.reduceAdd, Nat.reduceSub, Array.replicate_succ, Array.replicate_zero, List.push_toArray, List.append_toArray, List.nil_append, List.cons_append]
  refine wpIn_wide.2 ?_
  go_wp2_with fail
  go_step3
  go_wp2_with fail
  refine (named_any n hn _).mono ?_
  rintro en w2 ⟨rfl, hb2⟩
  have hb02 : Below w.heap.size w w2 := ((Below.refl _ w).alloc (Nat.le_refl _) _).trans (hb2.mono (by simp))
  have hX2 : Blk w2 w.heap.size 29 #[.slice none 0 0] := (Blk.new w 29 #[.slice none 0 0]).below hb2 (by simp)
  have HB02 := Lib.hid hb02
  have HX2 := Lib.hid hX2
  obtain ⟨cr, hcre⟩ : ∃ cr, cr = crcL (bodyL e n) := ⟨_, rfl⟩
  rw [← hcre] at hcr HR0 HR1 HR17
  have HCR := Lib.hid hcre
  have hrdn : ∀ t : Cls w2, (convert 25 9 (.slice (some ⟨g, 1, none⟩) 16 (C - 1))).run Tryz.prog t.val = .ok (.string (nB n)) t.val := fun t => by
    have h1 := (HR1.out.take.reads.below HB02.out).below (t.2.mono (by have := HB02.out.size; omega))
    exact run_str_reads (C - 1) h1
  have hN : ∀ t : Cls w2, Calls Tryz.prog 57 #[.int .i64 (n : Int)] t.val fun e w' => e = .returned (.string (nB n)) ∧ Below t.val.heap.size t.val w' := fun t => named_any n hn t.val
  have hS : ∀ t : Cls w2, Calls Tryz.prog 75 #[.slice (some ⟨g, 0, none⟩) K C] t.val fun e w' => e = .returned (.int .u32 (cr : Int)) ∧ Below t.val.heap.size t.val w' := fun t => by
    have h1 := ((HR0.out.take.reads.below HB02.out).below (t.2.mono (by have := HB02.out.size; omega))).more (B' := t.val.heap.size) (by have := t.2.size; have := HB02.out.size; omega)
    have h2 := sum_any _ C (bodyL e n) t.val h1 (by rw [HBL.out]; omega)
    rw [HBL.out, ← HCR.out] at h2
    exact h2.mono fun e w' ⟨h3, h4⟩ => ⟨h3, h4 ▸ Below.refl _ _⟩
  have hU : ∀ t : Cls w2, Calls Tryz.prog 84 #[.slice (some ⟨g, K, none⟩) 4 (C - K)] t.val fun e w' => e = .returned (.int .u32 (cr : Int)) ∧ Below t.val.heap.size t.val w' := fun t => by
    have h1 := ((HR0.out.drop.reads.below HB02.out).below (t.2.mono (by have := HB02.out.size; omega)))
    rw [HBL.out, Nat.zero_add] at h1
    have h2 := unfour_any _ w.heap.size 4 (C - K) cr [] t.val hcr (by rw [List.append_nil]; exact h1)
    exact h2.mono fun e w' ⟨h3, q, h4⟩ => ⟨h3, h4 ▸ below_drewN (Below.refl _ _) q⟩
  have HN := Lib.hid hN
  have HS := Lib.hid hS
  have HU := Lib.hid hU
  clear hb2 hb02 hX2 hcre hN hS hU
  have hnsz : (nB n).size = 16 := rfl
  generalize nB n = nm at *
  have c1 : decide ((K : Int) + 4 < 21) = false := by simp; omega
  have c2 : K + 4 ≤ C := by omega
  have c3 : ¬ C = K := by omega
  go_wp2_with fail
  have q17 : (17 : Int) ≤ C := by omega
  refine wp_region_cls (by kernel_rfl) (by kernel_rfl) ?_
  iterate 29 (go_big_quiet_step (first | (go_at_call 57; exact Cls.call (HN.out _)) | (go_at_call 75; exact Cls.call (HS.out _)) | (go_at_call 84; exact Cls.call (HU.out _))))
  refine wpQuiet_nil ?_
  rintro _ ⟨t, rfl⟩
  have HT := Lib.hid (HB02.out.trans (t.2.mono HB02.out.size))
  have hX3 : Blk t.val w.heap.size 29 #[.slice none 0 0] := HX2.out.below t.2 (by have := HX2.out.lt; omega)
  have HX3 := Lib.hid hX3
  obtain ⟨w3, hw3⟩ : ∃ w3, w3 = t.val := ⟨_, rfl⟩
  rw [← hw3] at HT HX3 ⊢
  clear hX3 hw3 HX2 hrdn
  go_wp2_with fail
  obtain ⟨w4, hw4⟩ : ∃ w4, w4 = w3.alloc (.cells #[Value.int IntKind.i64 ((K : Int) - 17)] 3) := ⟨_, rfl⟩
  rw [← hw4]
  have HL4 := Lib.hid (show Blk w4 w3.heap.size 3 #[.int .i64 ((K : Int) - 17)] by rw [hw4]; exact Blk.new _ _ _)
  have HX4 := Lib.hid (show Blk w4 w.heap.size 29 #[.slice none 0 0] by rw [hw4]; exact HX3.out.alloc _)
  have HB4 := Lib.hid (show Below w.heap.size w w4 by rw [hw4]; exact HT.out.alloc HT.out.size _)
  have hs4 : w4.heap.size = w3.heap.size + 1 := by rw [hw4]; simp
  have HS4 := Lib.hid hs4
  clear hw4 hs4
  go_step3
  go_wp2_with fail
  refine (told_any (some ⟨g, 17, none⟩) (K - 17) (C - 17) w4).mono ?_
  rintro en w5 ⟨rfl, hw5⟩
  have HX5 := Lib.hid (show Blk w5 w4.heap.size 25 #[.slice (some ⟨g, 17, none⟩) (K - 17) (C - 17)] by rw [hw5]; exact Blk.new _ _ _)
  have HL5 := Lib.hid (show Blk w5 w3.heap.size 3 #[.int .i64 ((K : Int) - 17)] by rw [hw5]; exact HL4.out.alloc _)
  have HR5 := Lib.hid (show Blk w5 w.heap.size 29 #[.slice none 0 0] by rw [hw5]; exact HX4.out.alloc _)
  have HB5 := Lib.hid (show Below w.heap.size w w5 by rw [hw5]; exact HB4.out.alloc HB4.out.size _)
  have hs5 : w5.heap.size = w4.heap.size + 1 := by rw [hw5]; simp
  have HS5 := Lib.hid hs5
  clear hw5 hs5
  go_wp2_with fail
  have hs3 := HT.out.size
  have hs2 := HX3.out.lt
  have hs4 := HS4.out
  have hs5 := HS5.out
  refine (wpIn_wide (n := 9)).1 ?_
  have hraw5 : RawAt w5 g 17 (recsL e.recs) := HR17.out.take.keep (HB5.out.block g hgl) HB5.out.size
  have hM1 : K - 17 = M := by have := HLM.out; omega
  have hseq := told_seq 8 e.recs 17 g C w4.heap.size w5 (by rw [← HMM.out, ← hM1]; exact HX5.out) hraw5 (by rw [← HMM.out]; omega) hCm (fun b hb => by have := rec_le e.recs b hb; rw [← HMM.out] at this; omega) (by omega)
  have HSEQ := Lib.hid hseq
  have HRAW := Lib.hid hraw5
  clear hseq hraw5
  refine wpIn_rangeFunc_two (s1 := 9) (s2 := 10) (gf := 118) (lb := #[.pointer (some ⟨w4.heap.size, 0, none⟩)]) rfl (by omega) rfl trivial (enters_of Tryz.func118 (by kernel_rfl) rfl) (u := fun x : Nat × Rec => .slice (some ⟨g, x.1, none⟩) x.2.length (C - x.1)) (v := fun _ => .bool true) HSEQ.out (Below.refl _ _)
    (fun k hk => by rcases hk with rfl | rfl <;> omega) (UnI w w.heap.size w3.heap.size w5.heap.size M)
    (fun s A B r hs hg hr => hs.step hg (by omega) (by omega) (by omega) (by omega))
    ⟨_, HR5.out, RecsN.nil _ _, (by have := HL5.out; rw [show ((M : Nat) : Int) - ((recsL (([] : List (Nat × Rec)).map (·.2))).length : Int) = (K : Int) - 17 by rw [show (recsL (([] : List (Nat × Rec)).map (·.2))).length = 0 from rfl]; omega]; exact this), HB5.out⟩ ?assign ?body ?done
  case assign =>
    intro lp x W K' hK'
    simp only [List.setIfInBounds_toArray, List.set_cons_succ, List.set_cons_zero] at hK' ⊢
    gi_wp2
    exact hK'
  case body =>
    rintro lp pre x W ⟨v1, hx1, hn1, hl1, hb1⟩ hpre hbig
    simp only [List.setIfInBounds_toArray, List.set_cons_succ, List.set_cons_zero]
    have hmem : x ∈ partsT 17 e.recs := hpre.subset (by simp)
    have hrx := (partsT_raw e.recs 17 HRAW.out x hmem).keep (w' := W) ((hb1.block g hgl).trans (HB5.out.block g hgl).symm) (by omega)
    have hmap : pre.map (·.2) ++ [x.2] <+: e.recs := by
      have h1 := hpre.map (·.2)
      rw [partsT_map, List.map_append] at h1
      exact h1
    have hlen : pre.length + 1 ≤ M := by
      have h1 := hmap.length_le
      rw [List.length_append, List.length_map] at h1
      have h2 := recs_len e.recs
      have h3 := HMM.out
      simp only [List.length_singleton] at h1
      omega
    have hq : x.2.length + 4 ≤ M := by
      have h1 := rec_le e.recs x.2 (hmap.subset (by simp))
      have h3 := HMM.out
      omega
    obtain ⟨vs, ho1, hv1⟩ := hn1
    obtain ⟨pl, hpl⟩ : ∃ pl, pl = pre.map (·.2) := ⟨_, rfl⟩
    have hpll : pl.length = pre.length := by rw [hpl, List.length_map]
    rw [← hpl] at ho1 hv1 hl1
    obtain ⟨Pn, hPn⟩ : ∃ Pn, Pn = (recsL pl).length := ⟨_, rfl⟩
    have hPq : Pn + (4 + x.2.length) ≤ M := by
      obtain ⟨r, hr⟩ := hmap
      have h3 := HMM.out
      rw [← hr, ← hpl, show recsL (pl ++ [x.2] ++ r) = recsL (pl ++ [x.2]) ++ recsL r by unfold recsL; rw [List.flatMap_append], List.length_append, recsL_snoc, List.length_append, List.length_append, fourL_len, ← hPn] at h3
      omega
    rw [← hPn] at hl1
    have HPN := Lib.hid hPn
    clear hPn
    rw [hpll] at ho1
    obtain ⟨o, b⟩ := x
    obtain ⟨A1, c1, hvv⟩ := own_slice ho1
    subst hvv
    have x1 : W.cell? ⟨w.heap.size, 0, none⟩ = some (.slice A1 pre.length c1) := hx1.cell 0
    have xf := hx1.frozen 0
    have y1 : W.cell? ⟨w3.heap.size, 0, none⟩ = some (.int .i64 ((M : Int) - (Pn : Int))) := hl1.cell 0
    have yf := hl1.frozen 0
    obtain ⟨q, hqe⟩ : ∃ q, q = b.length := ⟨_, rfl⟩
    have hrd : Reads W W.heap.size 1 (some ⟨g, o, none⟩) q (bytesV b) := by rw [hqe]; exact hrx.reads
    obtain ⟨n1, hn1e⟩ : ∃ n1, n1 = pre.length := ⟨_, rfl⟩
    rw [← hn1e] at ho1 hlen x1 hpll hx1
    rw [← hqe] at hq hPq
    have HO1 := Lib.hid ho1
    have HV1 := Lib.hid hv1
    have HX1 := Lib.hid hx1
    have HL1 := Lib.hid hl1
    have HB1 := Lib.hid hb1
    have HRD := Lib.hid hrd
    have HQE := Lib.hid hqe
    have HPL := Lib.hid hpl
    have HPLL := Lib.hid hpll
    have HN1E := Lib.hid hn1e
    dsimp only
    rw [← hqe]
    clear hx1 ho1 hv1 hl1 hb1 hrd hqe hpl hpll hn1e hmap hmem hrx hpre
    gi_wp2_with fail
    -- BEGIN REGION 9
    refine wpIn_region_any (by kernel_rfl) ?_
    change wpAnyIn _ _ _ _ _ _ _ _ _ (World.drew _)
    refine wpAnyIn_ready (rs := [0, 1]) (by kernel_rfl) (by simp) ?_
    refine AllReadyIn.cons rfl (fun Kc hK => ?_) (AllReadyIn.cons rfl (fun Kc hK => ?_) AllReadyIn.nil)
    · go_simp
      refine hK _ _ ?_
      clear hK Kc
      refine wpAnyIn_ready (rs := [1]) (by kernel_rfl) (by simp) ?_
      refine AllReadyIn.cons rfl (fun Kc hK => ?_) AllReadyIn.nil
      go_simp
      refine hK _ _ ?_
      clear hK Kc
      refine wpAnyIn_ready (rs := [2]) (by kernel_rfl) (by simp) ?_
      refine AllReadyIn.cons rfl (fun Kc hK => ?_) AllReadyIn.nil
      refine step_append_in W.drew (fun _ => trivial) (by rfl) (.const (.slice none 0 0)) (.tmp 61) 25 (by rfl) (w5.heap.size + 2) 5 i5 (.int .u8 0) 1 1 Tryz.underlying25 HI5.out HZ50.out HZ51.out HZ52.out rfl (by omega) (.slice none 0 0) 0 [] (by rfl) (World.ownsRow_nil _ _ _ _) W.heap.size (some ⟨g, o, none⟩) q (C - o) (bytesV b) (by rfl) HRD.out.drew (bytesV_one _) (by simp [maxLen]; omega) (by omega) (by exact hbig) ?_
      intro v4 wa hown4 hgrow4 _
      have HW4 := Lib.hid (show wa.ownsRow (w5.heap.size + 2) 5 1 v4 q (bytesV b) by rwa [Nat.zero_add, List.nil_append] at hown4)
      have HG4 := Lib.hid hgrow4
      obtain ⟨A4, d4, hv4⟩ := own_slice HW4.out
      subst hv4
      clear hown4 hgrow4
      refine hK _ _ ?_
      clear hK Kc
      have x4 : wa.cell? ⟨w.heap.size, 0, none⟩ = some (.slice A1 n1 c1) := (World.cell?_of_block (HG4.out.block _ (show w.heap.size < W.heap.size by omega) (by simp [Value.ownBlock]))).trans x1
      have x5 : (wa.alloc (.cells #[.slice A4 q d4] 25)).cell? ⟨w.heap.size, 0, none⟩ = some (.slice A1 n1 c1) := (World.cell?_alloc_lt wa _ _ (by have := HG4.out.size; have : W.heap.size ≤ wa.heap.size := this; show w.heap.size < _; omega)).trans x4
      refine wpAnyIn_ready (rs := [3]) (by kernel_rfl) (by simp) ?_
      refine AllReadyIn.cons rfl (fun Kc hK => ?_) AllReadyIn.nil
      go_simp
      refine hK _ _ ?_
      clear hK Kc
      refine wpAnyIn_ready (rs := [4]) (by kernel_rfl) (by simp) ?_
      refine AllReadyIn.cons rfl (fun Kc hK => ?_) AllReadyIn.nil
      refine step_append_in (wa.alloc (.cells #[.slice A4 q d4] 25)) (fun _ => trivial) (by rfl) (.tmp 60) (.tmp 63) 29 (by rfl) (w5.heap.size + 2) 25 i25 (.slice none 0 0) 1 24 Tryz.underlying29 HI25.out HZ250.out HZ251.out HZ252.out rfl (by omega) (.slice A1 n1 c1) n1 vs (by rfl) ((own_keep HO1.out (fun x _ hx => HG4.out.block x hx (fun e => by cases e))).alloc _) (wa.heap.size + 1) (some ⟨wa.heap.size, 0, none⟩) 1 1 [.slice A4 q d4] (by rfl) (reads_new1 _ _ _) (slice_one _ _ _) (by simp [maxLen]; omega) (by omega) (by have := HG4.out.size; have : W.heap.size ≤ wa.heap.size := this; simp; omega) ?_
      intro v6 wb hown6 hgrow6 _
      have hs4 : W.heap.size ≤ wa.heap.size := HG4.out.size
      have hg6 := hgrow6
      obtain ⟨A6, d6, hv6⟩ := own_slice hown6
      subst hv6
      have hnR : ∀ k, k < w5.heap.size → (Value.slice A1 n1 c1).ownBlock ≠ some k := fun k hk e2 => by have := (HO1.out.lt k e2).1; omega
      have hX4 : Blk (wa.alloc (.cells #[.slice A4 q d4] 25)) w.heap.size 29 #[.slice A1 n1 c1] := ((HX1.out.drew.grown HG4.out (fun e => by cases e)).alloc _)
      have hX6 := hX4.grown hgrow6 (fun e2 => hnR w.heap.size (by omega) e2.symm)
      have hL4 : Blk (wa.alloc (.cells #[.slice A4 q d4] 25)) w3.heap.size 3 #[.int .i64 ((M : Int) - (Pn : Int))] := ((HL1.out.drew.grown HG4.out (fun e => by cases e)).alloc _)
      have hL6 := hL4.grown hgrow6 (fun e2 => hnR w3.heap.size (by omega) e2.symm)
      have x6 : wb.cell? ⟨w.heap.size, 0, none⟩ = some (.slice A1 n1 c1) := hX6.cell 0
      have xf6 := hX6.frozen 0
      have y6 : wb.cell? ⟨w3.heap.size, 0, none⟩ = some (.int .i64 ((M : Int) - (Pn : Int))) := hL6.cell 0
      have yf6 := hL6.frozen 0
      have HX6 := Lib.hid hX6
      have HL6 := Lib.hid hL6
      have HW6 := Lib.hid hown6
      have HG6 := Lib.hid hgrow6
      have hs6 := hgrow6.size
      rw [World.size_alloc] at hs6
      clear hown6 hgrow6 hg6 hX4 hX6 hL4 hL6 hnR
      refine hK _ _ ?_
      clear hK Kc
      refine wpAnyIn_ready (rs := [5]) (by kernel_rfl) (by simp) ?_
      refine AllReadyIn.cons rfl (fun Kc hK => ?_) AllReadyIn.nil
      go_simp
      refine hK _ _ ?_
      clear hK Kc
      refine wpAnyIn_done (by kernel_rfl) ?_ _
      gi_wp2
      have hq4 : (recsL (pl ++ [b])).length = Pn + (4 + q) := by rw [recsL_snoc, List.length_append, List.length_append, fourL_len, HQE.out, HPN.out]
      have hz1 := HL6.out.far (p := ⟨w.heap.size, 0, none⟩) (by show w3.heap.size ≠ w.heap.size; omega) (.slice A6 (n1 + 1) d6)
      have hz2 := hz1.set_ 0 (.int .i64 ((M : Int) - (Pn : Int) - (4 + (q : Int))))
      have hr1 := HX6.out.set_ 0 (.slice A6 (n1 + 1) d6)
      have hr2 := hr1.far (p := ⟨w3.heap.size, 0, none⟩) (by show w.heap.size ≠ w3.heap.size; omega) (.int .i64 ((M : Int) - (Pn : Int) - (4 + (q : Int))))
      have hvn : VecN wb (w5.heap.size + 2) (vs ++ [.slice A4 q d4]) (pl ++ [b]) := by
        have h1 : VecN (wa.alloc (.cells #[Value.slice A4 q d4] 25)) (w5.heap.size + 2) (vs ++ [.slice A4 q d4]) (pl ++ [b]) := by
          have h0 : VecN wa (w5.heap.size + 2) vs pl := VecN.grown (w := W.drew) HV1.out HG4.out (fun x e2 => by cases e2)
          exact (h0.snoc (by rw [← HQE.out]; exact HW4.out)).below ((Below.refl _ wa).alloc (Nat.le_refl _) _)
        have h2 : (wa.alloc (.cells #[Value.slice A4 q d4] 25)).ownsRow (w5.heap.size + 2) 25 1 (.slice A1 n1 c1) n1 vs := (own_keep HO1.out (fun x _ hx => HG4.out.block x hx (fun e2 => by cases e2))).alloc _
        exact h1.rowed h2 (by decide) HG6.out
      have hfar : ∀ k, k < W.heap.size → k ≠ w.heap.size → k ≠ w3.heap.size → k < w5.heap.size + 2 → ((wb.setCell ⟨w.heap.size, 0, none⟩ (.slice A6 (n1 + 1) d6)).setCell ⟨w3.heap.size, 0, none⟩ (.int .i64 ((M : Int) - (Pn : Int) - (4 + (q : Int))))).heap[k]? = W.heap[k]? := fun k hk h1 h2 h3 => by
        rw [Below.heap_setCell _ _ _ _ h2, Below.heap_setCell _ _ _ _ h1, HG6.out.block k (by simp; omega) (fun e2 => by have := (HO1.out.lt k e2.symm).1; omega), Below.heap_alloc _ _ k (by omega), HG4.out.block k hk (fun e2 => by cases e2)]
        rfl
      refine ⟨by simp [World.setCell]; omega, fun k hk => hfar k (by rcases hk with hk | rfl | rfl <;> omega) (by rcases hk with hk | rfl | rfl <;> omega) (by rcases hk with hk | rfl | rfl <;> omega) (by rcases hk with hk | rfl | rfl <;> omega), _, hr2, ⟨vs ++ [.slice A4 q d4], ?_, ?_⟩, ?_, ?_⟩
      · have h1 := HW6.out
        rw [List.map_append, List.length_append, ← HPL.out, HPLL.out]
        exact ownsRow_setCell_below (ownsRow_setCell_below h1 (by show w.heap.size < _; omega) _) (by show w3.heap.size < _; omega) _
      · rw [List.map_append, ← HPL.out]
        exact ⟨hvn.1, fun i u b2 e1 e2 => ownsRow_setCell_below (ownsRow_setCell_below (hvn.2 i u b2 e1 e2) (by show w.heap.size < _; omega) _) (by show w3.heap.size < _; omega) _⟩
      · rw [List.map_append, ← HPL.out]
        show Blk _ _ _ #[.int .i64 ((M : Int) - ((recsL (pl ++ [b])).length : Int))]
        rw [hq4, show (M : Int) - ((Pn + (4 + q) : Nat) : Int) = (M : Int) - (Pn : Int) - (4 + (q : Int)) by omega]
        exact hz2
      · have hbz : Below w.heap.size w wb := (((HB1.out.drew.grown HG4.out (by have : w.heap.size ≤ W.heap.size := by omega
                                                                               exact this) (fun x e2 => by cases e2)).alloc (by omega) _).grown HG6.out (by simp; omega) (fun x hx => by have := (HO1.out.lt x hx).1; omega))
        exact (hbz.setCell (p := ⟨w.heap.size, 0, none⟩) (Nat.le_refl _) _).setCell (p := ⟨w3.heap.size, 0, none⟩) (by show w.heap.size ≤ w3.heap.size; omega) _
    · go_simp
      refine hK _ _ ?_
      clear hK Kc
      refine wpAnyIn_ready (rs := [0, 2]) (by kernel_rfl) (by simp) ?_
      refine AllReadyIn.cons rfl (fun Kc hK => ?_) (AllReadyIn.cons rfl (fun Kc hK => ?_) AllReadyIn.nil)
      · go_simp
        refine hK _ _ ?_
        clear hK Kc
        refine wpAnyIn_ready (rs := [2]) (by kernel_rfl) (by simp) ?_
        refine AllReadyIn.cons rfl (fun Kc hK => ?_) AllReadyIn.nil
        refine step_append_in W.drew (fun _ => trivial) (by rfl) (.const (.slice none 0 0)) (.tmp 61) 25 (by rfl) (w5.heap.size + 2) 5 i5 (.int .u8 0) 1 1 Tryz.underlying25 HI5.out HZ50.out HZ51.out HZ52.out rfl (by omega) (.slice none 0 0) 0 [] (by rfl) (World.ownsRow_nil _ _ _ _) W.heap.size (some ⟨g, o, none⟩) q (C - o) (bytesV b) (by rfl) HRD.out.drew (bytesV_one _) (by simp [maxLen]; omega) (by omega) (by exact hbig) ?_
        intro v4 wa hown4 hgrow4 _
        have HW4 := Lib.hid (show wa.ownsRow (w5.heap.size + 2) 5 1 v4 q (bytesV b) by rwa [Nat.zero_add, List.nil_append] at hown4)
        have HG4 := Lib.hid hgrow4
        obtain ⟨A4, d4, hv4⟩ := own_slice HW4.out
        subst hv4
        clear hown4 hgrow4
        refine hK _ _ ?_
        clear hK Kc
        have x4 : wa.cell? ⟨w.heap.size, 0, none⟩ = some (.slice A1 n1 c1) := (World.cell?_of_block (HG4.out.block _ (show w.heap.size < W.heap.size by omega) (by simp [Value.ownBlock]))).trans x1
        have x5 : (wa.alloc (.cells #[.slice A4 q d4] 25)).cell? ⟨w.heap.size, 0, none⟩ = some (.slice A1 n1 c1) := (World.cell?_alloc_lt wa _ _ (by have := HG4.out.size; have : W.heap.size ≤ wa.heap.size := this; show w.heap.size < _; omega)).trans x4
        refine wpAnyIn_ready (rs := [3]) (by kernel_rfl) (by simp) ?_
        refine AllReadyIn.cons rfl (fun Kc hK => ?_) AllReadyIn.nil
        go_simp
        refine hK _ _ ?_
        clear hK Kc
        refine wpAnyIn_ready (rs := [4]) (by kernel_rfl) (by simp) ?_
        refine AllReadyIn.cons rfl (fun Kc hK => ?_) AllReadyIn.nil
        refine step_append_in (wa.alloc (.cells #[.slice A4 q d4] 25)) (fun _ => trivial) (by rfl) (.tmp 60) (.tmp 63) 29 (by rfl) (w5.heap.size + 2) 25 i25 (.slice none 0 0) 1 24 Tryz.underlying29 HI25.out HZ250.out HZ251.out HZ252.out rfl (by omega) (.slice A1 n1 c1) n1 vs (by rfl) ((own_keep HO1.out (fun x _ hx => HG4.out.block x hx (fun e => by cases e))).alloc _) (wa.heap.size + 1) (some ⟨wa.heap.size, 0, none⟩) 1 1 [.slice A4 q d4] (by rfl) (reads_new1 _ _ _) (slice_one _ _ _) (by simp [maxLen]; omega) (by omega) (by have := HG4.out.size; have : W.heap.size ≤ wa.heap.size := this; simp; omega) ?_
        intro v6 wb hown6 hgrow6 _
        have hs4 : W.heap.size ≤ wa.heap.size := HG4.out.size
        have hg6 := hgrow6
        obtain ⟨A6, d6, hv6⟩ := own_slice hown6
        subst hv6
        have hnR : ∀ k, k < w5.heap.size → (Value.slice A1 n1 c1).ownBlock ≠ some k := fun k hk e2 => by have := (HO1.out.lt k e2).1; omega
        have hX4 : Blk (wa.alloc (.cells #[.slice A4 q d4] 25)) w.heap.size 29 #[.slice A1 n1 c1] := ((HX1.out.drew.grown HG4.out (fun e => by cases e)).alloc _)
        have hX6 := hX4.grown hgrow6 (fun e2 => hnR w.heap.size (by omega) e2.symm)
        have hL4 : Blk (wa.alloc (.cells #[.slice A4 q d4] 25)) w3.heap.size 3 #[.int .i64 ((M : Int) - (Pn : Int))] := ((HL1.out.drew.grown HG4.out (fun e => by cases e)).alloc _)
        have hL6 := hL4.grown hgrow6 (fun e2 => hnR w3.heap.size (by omega) e2.symm)
        have x6 : wb.cell? ⟨w.heap.size, 0, none⟩ = some (.slice A1 n1 c1) := hX6.cell 0
        have xf6 := hX6.frozen 0
        have y6 : wb.cell? ⟨w3.heap.size, 0, none⟩ = some (.int .i64 ((M : Int) - (Pn : Int))) := hL6.cell 0
        have yf6 := hL6.frozen 0
        have HX6 := Lib.hid hX6
        have HL6 := Lib.hid hL6
        have HW6 := Lib.hid hown6
        have HG6 := Lib.hid hgrow6
        have hs6 := hgrow6.size
        rw [World.size_alloc] at hs6
        clear hown6 hgrow6 hg6 hX4 hX6 hL4 hL6 hnR
        refine hK _ _ ?_
        clear hK Kc
        refine wpAnyIn_ready (rs := [5]) (by kernel_rfl) (by simp) ?_
        refine AllReadyIn.cons rfl (fun Kc hK => ?_) AllReadyIn.nil
        go_simp
        refine hK _ _ ?_
        clear hK Kc
        refine wpAnyIn_done (by kernel_rfl) ?_ _
        gi_wp2
        have hq4 : (recsL (pl ++ [b])).length = Pn + (4 + q) := by rw [recsL_snoc, List.length_append, List.length_append, fourL_len, HQE.out, HPN.out]
        have hz1 := HL6.out.far (p := ⟨w.heap.size, 0, none⟩) (by show w3.heap.size ≠ w.heap.size; omega) (.slice A6 (n1 + 1) d6)
        have hz2 := hz1.set_ 0 (.int .i64 ((M : Int) - (Pn : Int) - (4 + (q : Int))))
        have hr1 := HX6.out.set_ 0 (.slice A6 (n1 + 1) d6)
        have hr2 := hr1.far (p := ⟨w3.heap.size, 0, none⟩) (by show w.heap.size ≠ w3.heap.size; omega) (.int .i64 ((M : Int) - (Pn : Int) - (4 + (q : Int))))
        have hvn : VecN wb (w5.heap.size + 2) (vs ++ [.slice A4 q d4]) (pl ++ [b]) := by
          have h1 : VecN (wa.alloc (.cells #[Value.slice A4 q d4] 25)) (w5.heap.size + 2) (vs ++ [.slice A4 q d4]) (pl ++ [b]) := by
            have h0 : VecN wa (w5.heap.size + 2) vs pl := VecN.grown (w := W.drew) HV1.out HG4.out (fun x e2 => by cases e2)
            exact (h0.snoc (by rw [← HQE.out]; exact HW4.out)).below ((Below.refl _ wa).alloc (Nat.le_refl _) _)
          have h2 : (wa.alloc (.cells #[Value.slice A4 q d4] 25)).ownsRow (w5.heap.size + 2) 25 1 (.slice A1 n1 c1) n1 vs := (own_keep HO1.out (fun x _ hx => HG4.out.block x hx (fun e2 => by cases e2))).alloc _
          exact h1.rowed h2 (by decide) HG6.out
        have hfar : ∀ k, k < W.heap.size → k ≠ w.heap.size → k ≠ w3.heap.size → k < w5.heap.size + 2 → ((wb.setCell ⟨w.heap.size, 0, none⟩ (.slice A6 (n1 + 1) d6)).setCell ⟨w3.heap.size, 0, none⟩ (.int .i64 ((M : Int) - (Pn : Int) - (4 + (q : Int))))).heap[k]? = W.heap[k]? := fun k hk h1 h2 h3 => by
          rw [Below.heap_setCell _ _ _ _ h2, Below.heap_setCell _ _ _ _ h1, HG6.out.block k (by simp; omega) (fun e2 => by have := (HO1.out.lt k e2.symm).1; omega), Below.heap_alloc _ _ k (by omega), HG4.out.block k hk (fun e2 => by cases e2)]
          rfl
        refine ⟨by simp [World.setCell]; omega, fun k hk => hfar k (by rcases hk with hk | rfl | rfl <;> omega) (by rcases hk with hk | rfl | rfl <;> omega) (by rcases hk with hk | rfl | rfl <;> omega) (by rcases hk with hk | rfl | rfl <;> omega), _, hr2, ⟨vs ++ [.slice A4 q d4], ?_, ?_⟩, ?_, ?_⟩
        · have h1 := HW6.out
          rw [List.map_append, List.length_append, ← HPL.out, HPLL.out]
          exact ownsRow_setCell_below (ownsRow_setCell_below h1 (by show w.heap.size < _; omega) _) (by show w3.heap.size < _; omega) _
        · rw [List.map_append, ← HPL.out]
          exact ⟨hvn.1, fun i u b2 e1 e2 => ownsRow_setCell_below (ownsRow_setCell_below (hvn.2 i u b2 e1 e2) (by show w.heap.size < _; omega) _) (by show w3.heap.size < _; omega) _⟩
        · rw [List.map_append, ← HPL.out]
          show Blk _ _ _ #[.int .i64 ((M : Int) - ((recsL (pl ++ [b])).length : Int))]
          rw [hq4, show (M : Int) - ((Pn + (4 + q) : Nat) : Int) = (M : Int) - (Pn : Int) - (4 + (q : Int)) by omega]
          exact hz2
        · have hbz : Below w.heap.size w wb := (((HB1.out.drew.grown HG4.out (by have : w.heap.size ≤ W.heap.size := by omega
                                                                                 exact this) (fun x e2 => by cases e2)).alloc (by omega) _).grown HG6.out (by simp; omega) (fun x hx => by have := (HO1.out.lt x hx).1; omega))
          exact (hbz.setCell (p := ⟨w.heap.size, 0, none⟩) (Nat.le_refl _) _).setCell (p := ⟨w3.heap.size, 0, none⟩) (by show w.heap.size ≤ w3.heap.size; omega) _
      · refine step_append_in W.drew (fun _ => trivial) (by rfl) (.const (.slice none 0 0)) (.tmp 61) 25 (by rfl) (w5.heap.size + 2) 5 i5 (.int .u8 0) 1 1 Tryz.underlying25 HI5.out HZ50.out HZ51.out HZ52.out rfl (by omega) (.slice none 0 0) 0 [] (by rfl) (World.ownsRow_nil _ _ _ _) W.heap.size (some ⟨g, o, none⟩) q (C - o) (bytesV b) (by rfl) HRD.out.drew (bytesV_one _) (by simp [maxLen]; omega) (by omega) (by exact hbig) ?_
        intro v4 wa hown4 hgrow4 _
        have HW4 := Lib.hid (show wa.ownsRow (w5.heap.size + 2) 5 1 v4 q (bytesV b) by rwa [Nat.zero_add, List.nil_append] at hown4)
        have HG4 := Lib.hid hgrow4
        obtain ⟨A4, d4, hv4⟩ := own_slice HW4.out
        subst hv4
        clear hown4 hgrow4
        refine hK _ _ ?_
        clear hK Kc
        have x4 : wa.cell? ⟨w.heap.size, 0, none⟩ = some (.slice A1 n1 c1) := (World.cell?_of_block (HG4.out.block _ (show w.heap.size < W.heap.size by omega) (by simp [Value.ownBlock]))).trans x1
        have x5 : (wa.alloc (.cells #[.slice A4 q d4] 25)).cell? ⟨w.heap.size, 0, none⟩ = some (.slice A1 n1 c1) := (World.cell?_alloc_lt wa _ _ (by have := HG4.out.size; have : W.heap.size ≤ wa.heap.size := this; show w.heap.size < _; omega)).trans x4
        refine wpAnyIn_ready (rs := [0, 3]) (by kernel_rfl) (by simp) ?_
        refine AllReadyIn.cons rfl (fun Kc hK => ?_) (AllReadyIn.cons rfl (fun Kc hK => ?_) AllReadyIn.nil)
        · go_simp
          refine hK _ _ ?_
          clear hK Kc
          refine wpAnyIn_ready (rs := [3]) (by kernel_rfl) (by simp) ?_
          refine AllReadyIn.cons rfl (fun Kc hK => ?_) AllReadyIn.nil
          go_simp
          refine hK _ _ ?_
          clear hK Kc
          refine wpAnyIn_ready (rs := [4]) (by kernel_rfl) (by simp) ?_
          refine AllReadyIn.cons rfl (fun Kc hK => ?_) AllReadyIn.nil
          refine step_append_in (wa.alloc (.cells #[.slice A4 q d4] 25)) (fun _ => trivial) (by rfl) (.tmp 60) (.tmp 63) 29 (by rfl) (w5.heap.size + 2) 25 i25 (.slice none 0 0) 1 24 Tryz.underlying29 HI25.out HZ250.out HZ251.out HZ252.out rfl (by omega) (.slice A1 n1 c1) n1 vs (by rfl) ((own_keep HO1.out (fun x _ hx => HG4.out.block x hx (fun e => by cases e))).alloc _) (wa.heap.size + 1) (some ⟨wa.heap.size, 0, none⟩) 1 1 [.slice A4 q d4] (by rfl) (reads_new1 _ _ _) (slice_one _ _ _) (by simp [maxLen]; omega) (by omega) (by have := HG4.out.size; have : W.heap.size ≤ wa.heap.size := this; simp; omega) ?_
          intro v6 wb hown6 hgrow6 _
          have hs4 : W.heap.size ≤ wa.heap.size := HG4.out.size
          have hg6 := hgrow6
          obtain ⟨A6, d6, hv6⟩ := own_slice hown6
          subst hv6
          have hnR : ∀ k, k < w5.heap.size → (Value.slice A1 n1 c1).ownBlock ≠ some k := fun k hk e2 => by have := (HO1.out.lt k e2).1; omega
          have hX4 : Blk (wa.alloc (.cells #[.slice A4 q d4] 25)) w.heap.size 29 #[.slice A1 n1 c1] := ((HX1.out.drew.grown HG4.out (fun e => by cases e)).alloc _)
          have hX6 := hX4.grown hgrow6 (fun e2 => hnR w.heap.size (by omega) e2.symm)
          have hL4 : Blk (wa.alloc (.cells #[.slice A4 q d4] 25)) w3.heap.size 3 #[.int .i64 ((M : Int) - (Pn : Int))] := ((HL1.out.drew.grown HG4.out (fun e => by cases e)).alloc _)
          have hL6 := hL4.grown hgrow6 (fun e2 => hnR w3.heap.size (by omega) e2.symm)
          have x6 : wb.cell? ⟨w.heap.size, 0, none⟩ = some (.slice A1 n1 c1) := hX6.cell 0
          have xf6 := hX6.frozen 0
          have y6 : wb.cell? ⟨w3.heap.size, 0, none⟩ = some (.int .i64 ((M : Int) - (Pn : Int))) := hL6.cell 0
          have yf6 := hL6.frozen 0
          have HX6 := Lib.hid hX6
          have HL6 := Lib.hid hL6
          have HW6 := Lib.hid hown6
          have HG6 := Lib.hid hgrow6
          have hs6 := hgrow6.size
          rw [World.size_alloc] at hs6
          clear hown6 hgrow6 hg6 hX4 hX6 hL4 hL6 hnR
          refine hK _ _ ?_
          clear hK Kc
          refine wpAnyIn_ready (rs := [5]) (by kernel_rfl) (by simp) ?_
          refine AllReadyIn.cons rfl (fun Kc hK => ?_) AllReadyIn.nil
          go_simp
          refine hK _ _ ?_
          clear hK Kc
          refine wpAnyIn_done (by kernel_rfl) ?_ _
          gi_wp2
          have hq4 : (recsL (pl ++ [b])).length = Pn + (4 + q) := by rw [recsL_snoc, List.length_append, List.length_append, fourL_len, HQE.out, HPN.out]
          have hz1 := HL6.out.far (p := ⟨w.heap.size, 0, none⟩) (by show w3.heap.size ≠ w.heap.size; omega) (.slice A6 (n1 + 1) d6)
          have hz2 := hz1.set_ 0 (.int .i64 ((M : Int) - (Pn : Int) - (4 + (q : Int))))
          have hr1 := HX6.out.set_ 0 (.slice A6 (n1 + 1) d6)
          have hr2 := hr1.far (p := ⟨w3.heap.size, 0, none⟩) (by show w.heap.size ≠ w3.heap.size; omega) (.int .i64 ((M : Int) - (Pn : Int) - (4 + (q : Int))))
          have hvn : VecN wb (w5.heap.size + 2) (vs ++ [.slice A4 q d4]) (pl ++ [b]) := by
            have h1 : VecN (wa.alloc (.cells #[Value.slice A4 q d4] 25)) (w5.heap.size + 2) (vs ++ [.slice A4 q d4]) (pl ++ [b]) := by
              have h0 : VecN wa (w5.heap.size + 2) vs pl := VecN.grown (w := W.drew) HV1.out HG4.out (fun x e2 => by cases e2)
              exact (h0.snoc (by rw [← HQE.out]; exact HW4.out)).below ((Below.refl _ wa).alloc (Nat.le_refl _) _)
            have h2 : (wa.alloc (.cells #[Value.slice A4 q d4] 25)).ownsRow (w5.heap.size + 2) 25 1 (.slice A1 n1 c1) n1 vs := (own_keep HO1.out (fun x _ hx => HG4.out.block x hx (fun e2 => by cases e2))).alloc _
            exact h1.rowed h2 (by decide) HG6.out
          have hfar : ∀ k, k < W.heap.size → k ≠ w.heap.size → k ≠ w3.heap.size → k < w5.heap.size + 2 → ((wb.setCell ⟨w.heap.size, 0, none⟩ (.slice A6 (n1 + 1) d6)).setCell ⟨w3.heap.size, 0, none⟩ (.int .i64 ((M : Int) - (Pn : Int) - (4 + (q : Int))))).heap[k]? = W.heap[k]? := fun k hk h1 h2 h3 => by
            rw [Below.heap_setCell _ _ _ _ h2, Below.heap_setCell _ _ _ _ h1, HG6.out.block k (by simp; omega) (fun e2 => by have := (HO1.out.lt k e2.symm).1; omega), Below.heap_alloc _ _ k (by omega), HG4.out.block k hk (fun e2 => by cases e2)]
            rfl
          refine ⟨by simp [World.setCell]; omega, fun k hk => hfar k (by rcases hk with hk | rfl | rfl <;> omega) (by rcases hk with hk | rfl | rfl <;> omega) (by rcases hk with hk | rfl | rfl <;> omega) (by rcases hk with hk | rfl | rfl <;> omega), _, hr2, ⟨vs ++ [.slice A4 q d4], ?_, ?_⟩, ?_, ?_⟩
          · have h1 := HW6.out
            rw [List.map_append, List.length_append, ← HPL.out, HPLL.out]
            exact ownsRow_setCell_below (ownsRow_setCell_below h1 (by show w.heap.size < _; omega) _) (by show w3.heap.size < _; omega) _
          · rw [List.map_append, ← HPL.out]
            exact ⟨hvn.1, fun i u b2 e1 e2 => ownsRow_setCell_below (ownsRow_setCell_below (hvn.2 i u b2 e1 e2) (by show w.heap.size < _; omega) _) (by show w3.heap.size < _; omega) _⟩
          · rw [List.map_append, ← HPL.out]
            show Blk _ _ _ #[.int .i64 ((M : Int) - ((recsL (pl ++ [b])).length : Int))]
            rw [hq4, show (M : Int) - ((Pn + (4 + q) : Nat) : Int) = (M : Int) - (Pn : Int) - (4 + (q : Int)) by omega]
            exact hz2
          · have hbz : Below w.heap.size w wb := (((HB1.out.drew.grown HG4.out (by have : w.heap.size ≤ W.heap.size := by omega
                                                                                   exact this) (fun x e2 => by cases e2)).alloc (by omega) _).grown HG6.out (by simp; omega) (fun x hx => by have := (HO1.out.lt x hx).1; omega))
            exact (hbz.setCell (p := ⟨w.heap.size, 0, none⟩) (Nat.le_refl _) _).setCell (p := ⟨w3.heap.size, 0, none⟩) (by show w.heap.size ≤ w3.heap.size; omega) _
        · go_simp
          refine hK _ _ ?_
          clear hK Kc
          refine wpAnyIn_ready (rs := [0]) (by kernel_rfl) (by simp) ?_
          refine AllReadyIn.cons rfl (fun Kc hK => ?_) AllReadyIn.nil
          go_simp
          refine hK _ _ ?_
          clear hK Kc
          refine wpAnyIn_ready (rs := [4]) (by kernel_rfl) (by simp) ?_
          refine AllReadyIn.cons rfl (fun Kc hK => ?_) AllReadyIn.nil
          refine step_append_in (wa.alloc (.cells #[.slice A4 q d4] 25)) (fun _ => trivial) (by rfl) (.tmp 60) (.tmp 63) 29 (by rfl) (w5.heap.size + 2) 25 i25 (.slice none 0 0) 1 24 Tryz.underlying29 HI25.out HZ250.out HZ251.out HZ252.out rfl (by omega) (.slice A1 n1 c1) n1 vs (by rfl) ((own_keep HO1.out (fun x _ hx => HG4.out.block x hx (fun e => by cases e))).alloc _) (wa.heap.size + 1) (some ⟨wa.heap.size, 0, none⟩) 1 1 [.slice A4 q d4] (by rfl) (reads_new1 _ _ _) (slice_one _ _ _) (by simp [maxLen]; omega) (by omega) (by have := HG4.out.size; have : W.heap.size ≤ wa.heap.size := this; simp; omega) ?_
          intro v6 wb hown6 hgrow6 _
          have hs4 : W.heap.size ≤ wa.heap.size := HG4.out.size
          have hg6 := hgrow6
          obtain ⟨A6, d6, hv6⟩ := own_slice hown6
          subst hv6
          have hnR : ∀ k, k < w5.heap.size → (Value.slice A1 n1 c1).ownBlock ≠ some k := fun k hk e2 => by have := (HO1.out.lt k e2).1; omega
          have hX4 : Blk (wa.alloc (.cells #[.slice A4 q d4] 25)) w.heap.size 29 #[.slice A1 n1 c1] := ((HX1.out.drew.grown HG4.out (fun e => by cases e)).alloc _)
          have hX6 := hX4.grown hgrow6 (fun e2 => hnR w.heap.size (by omega) e2.symm)
          have hL4 : Blk (wa.alloc (.cells #[.slice A4 q d4] 25)) w3.heap.size 3 #[.int .i64 ((M : Int) - (Pn : Int))] := ((HL1.out.drew.grown HG4.out (fun e => by cases e)).alloc _)
          have hL6 := hL4.grown hgrow6 (fun e2 => hnR w3.heap.size (by omega) e2.symm)
          have x6 : wb.cell? ⟨w.heap.size, 0, none⟩ = some (.slice A1 n1 c1) := hX6.cell 0
          have xf6 := hX6.frozen 0
          have y6 : wb.cell? ⟨w3.heap.size, 0, none⟩ = some (.int .i64 ((M : Int) - (Pn : Int))) := hL6.cell 0
          have yf6 := hL6.frozen 0
          have HX6 := Lib.hid hX6
          have HL6 := Lib.hid hL6
          have HW6 := Lib.hid hown6
          have HG6 := Lib.hid hgrow6
          have hs6 := hgrow6.size
          rw [World.size_alloc] at hs6
          clear hown6 hgrow6 hg6 hX4 hX6 hL4 hL6 hnR
          refine hK _ _ ?_
          clear hK Kc
          refine wpAnyIn_ready (rs := [5]) (by kernel_rfl) (by simp) ?_
          refine AllReadyIn.cons rfl (fun Kc hK => ?_) AllReadyIn.nil
          go_simp
          refine hK _ _ ?_
          clear hK Kc
          refine wpAnyIn_done (by kernel_rfl) ?_ _
          gi_wp2
          have hq4 : (recsL (pl ++ [b])).length = Pn + (4 + q) := by rw [recsL_snoc, List.length_append, List.length_append, fourL_len, HQE.out, HPN.out]
          have hz1 := HL6.out.far (p := ⟨w.heap.size, 0, none⟩) (by show w3.heap.size ≠ w.heap.size; omega) (.slice A6 (n1 + 1) d6)
          have hz2 := hz1.set_ 0 (.int .i64 ((M : Int) - (Pn : Int) - (4 + (q : Int))))
          have hr1 := HX6.out.set_ 0 (.slice A6 (n1 + 1) d6)
          have hr2 := hr1.far (p := ⟨w3.heap.size, 0, none⟩) (by show w.heap.size ≠ w3.heap.size; omega) (.int .i64 ((M : Int) - (Pn : Int) - (4 + (q : Int))))
          have hvn : VecN wb (w5.heap.size + 2) (vs ++ [.slice A4 q d4]) (pl ++ [b]) := by
            have h1 : VecN (wa.alloc (.cells #[Value.slice A4 q d4] 25)) (w5.heap.size + 2) (vs ++ [.slice A4 q d4]) (pl ++ [b]) := by
              have h0 : VecN wa (w5.heap.size + 2) vs pl := VecN.grown (w := W.drew) HV1.out HG4.out (fun x e2 => by cases e2)
              exact (h0.snoc (by rw [← HQE.out]; exact HW4.out)).below ((Below.refl _ wa).alloc (Nat.le_refl _) _)
            have h2 : (wa.alloc (.cells #[Value.slice A4 q d4] 25)).ownsRow (w5.heap.size + 2) 25 1 (.slice A1 n1 c1) n1 vs := (own_keep HO1.out (fun x _ hx => HG4.out.block x hx (fun e2 => by cases e2))).alloc _
            exact h1.rowed h2 (by decide) HG6.out
          have hfar : ∀ k, k < W.heap.size → k ≠ w.heap.size → k ≠ w3.heap.size → k < w5.heap.size + 2 → ((wb.setCell ⟨w.heap.size, 0, none⟩ (.slice A6 (n1 + 1) d6)).setCell ⟨w3.heap.size, 0, none⟩ (.int .i64 ((M : Int) - (Pn : Int) - (4 + (q : Int))))).heap[k]? = W.heap[k]? := fun k hk h1 h2 h3 => by
            rw [Below.heap_setCell _ _ _ _ h2, Below.heap_setCell _ _ _ _ h1, HG6.out.block k (by simp; omega) (fun e2 => by have := (HO1.out.lt k e2.symm).1; omega), Below.heap_alloc _ _ k (by omega), HG4.out.block k hk (fun e2 => by cases e2)]
            rfl
          refine ⟨by simp [World.setCell]; omega, fun k hk => hfar k (by rcases hk with hk | rfl | rfl <;> omega) (by rcases hk with hk | rfl | rfl <;> omega) (by rcases hk with hk | rfl | rfl <;> omega) (by rcases hk with hk | rfl | rfl <;> omega), _, hr2, ⟨vs ++ [.slice A4 q d4], ?_, ?_⟩, ?_, ?_⟩
          · have h1 := HW6.out
            rw [List.map_append, List.length_append, ← HPL.out, HPLL.out]
            exact ownsRow_setCell_below (ownsRow_setCell_below h1 (by show w.heap.size < _; omega) _) (by show w3.heap.size < _; omega) _
          · rw [List.map_append, ← HPL.out]
            exact ⟨hvn.1, fun i u b2 e1 e2 => ownsRow_setCell_below (ownsRow_setCell_below (hvn.2 i u b2 e1 e2) (by show w.heap.size < _; omega) _) (by show w3.heap.size < _; omega) _⟩
          · rw [List.map_append, ← HPL.out]
            show Blk _ _ _ #[.int .i64 ((M : Int) - ((recsL (pl ++ [b])).length : Int))]
            rw [hq4, show (M : Int) - ((Pn + (4 + q) : Nat) : Int) = (M : Int) - (Pn : Int) - (4 + (q : Int)) by omega]
            exact hz2
          · have hbz : Below w.heap.size w wb := (((HB1.out.drew.grown HG4.out (by have : w.heap.size ≤ W.heap.size := by omega
                                                                                   exact this) (fun x e2 => by cases e2)).alloc (by omega) _).grown HG6.out (by simp; omega) (fun x hx => by have := (HO1.out.lt x hx).1; omega))
            exact (hbz.setCell (p := ⟨w.heap.size, 0, none⟩) (Nat.le_refl _) _).setCell (p := ⟨w3.heap.size, 0, none⟩) (by show w.heap.size ≤ w3.heap.size; omega) _
  case done =>
    rintro W ⟨v1, hx1, hn1, hl1, hb1⟩ hdf
    rw [partsT_map] at hn1 hl1
    rename_i Kc hKc
    show Kc _ _
    refine hKc _ _ ?_
    clear hKc
    have hM0 : (M : Int) - ((recsL e.recs).length : Int) = 0 := by have := HMM.out; omega
    rw [hM0] at hl1
    obtain ⟨vs, ho1, hv1⟩ := hn1
    obtain ⟨n1, hn1e⟩ : ∃ n1, n1 = e.recs.length := ⟨_, rfl⟩
    rw [← hn1e] at ho1
    obtain ⟨A1, c1, hvv⟩ := own_slice ho1
    subst hvv
    have x1 : W.cell? ⟨w.heap.size, 0, none⟩ = some (.slice A1 n1 c1) := hx1.cell 0
    have xf := hx1.frozen 0
    have y1 : W.cell? ⟨w3.heap.size, 0, none⟩ = some (.int .i64 0) := hl1.cell 0
    have k1 : W.cell? ⟨g, 0, none⟩ = some (.int .u8 ((kindB e.all).toNat : Int)) := (hb1.cell (p := ⟨g, 0, none⟩) hgl).trans k0
    have HO1 := Lib.hid ho1
    have HV1 := Lib.hid hv1
    have HX1 := Lib.hid hx1
    have HB1 := Lib.hid hb1
    have HDF := Lib.hid hdf
    have HN1 := Lib.hid hn1e
    clear hx1 ho1 hv1 hl1 hb1 hn1e hdf hM0
    have hokc : e.all = true ∨ (e.all = false ∧ n1 = 1) := by
      cases h : e.all with
      | true => exact .inl rfl
      | false =>
        rcases he with h2 | h2
        · rw [h] at h2; cases h2
        · exact .inr ⟨rfl, by rw [HN1.out]; exact h2⟩
    have qK : (0 : Int) < (K : Int) + 4 := by omega
    rcases hokc with ha | ⟨ha, rfl⟩
    · have k2 : W.cell? ⟨g, 0, none⟩ = some (.int .u8 99) := by rw [ha] at k1; exact k1
      have HA := Lib.hid ha
      clear k1 ha
      go_wp2_with fail
      go_region
      all_goals
        go_wp2
        rw [Exit.noGoto_ret]
        obtain ⟨Wf, hWf⟩ : ∃ Wf, Wf = (W.setCell ⟨w.heap.size, 0, none⟩ (.slice A1 n1 c1)).drew := ⟨_, rfl⟩
        have hXf : Blk Wf w.heap.size 29 #[.slice A1 n1 c1] := by rw [hWf]; exact (HX1.out.set_ 0 _).drew
        have hDf : Wf.heap[w5.heap.size]? = some (.deferred (some [])) := by rw [hWf]; exact (Below.heap_setCell _ _ _ _ (by show w5.heap.size ≠ w.heap.size; omega)).trans HDF.out
        have hBf : Below w.heap.size w Wf := by rw [hWf]; exact (HB1.out.setCell (p := ⟨w.heap.size, 0, none⟩) (Nat.le_refl _) _).drew
        have hOf : Wf.ownsRow (w5.heap.size + 2) 25 1 (.slice A1 n1 c1) n1 vs := by rw [hWf]; exact ownsRow_setCell_below HO1.out (by show w.heap.size < _; omega) _
        have hVf : VecN Wf (w5.heap.size + 2) vs e.recs := ⟨HV1.out.1, fun i u b e1 e2 => by rw [hWf]; exact ownsRow_setCell_below (HV1.out.2 i u b e1 e2) (by show w.heap.size < _; omega) _⟩
        have hD5 : w5.heap.size = w3.heap.size + 1 + 1 := by omega
        rw [← hWf]
        have hg9 : Wf.grownBy (Wf.putObj w5.heap.size (.deferred none)) (some w5.heap.size) := grownBy_putObj' Wf _ _
        have hcell : (Wf.putObj w5.heap.size (.deferred none)).cell? ⟨w.heap.size, 0, none⟩ = some (.slice A1 n1 c1) := (World.cell?_of_block (hg9.block w.heap.size hXf.lt (by simp; omega))).trans (hXf.cell 0)
        refine ⟨by simp, .inl ⟨_, _, rfl, run_takeDeferred (by rw [hD5] at hDf; exact hDf), ?_⟩⟩
        rw [← hD5]
        refine ⟨_, results_tct rfl _ _ _ _ _ rfl (loadVar_slice _ _ _ hcell), _, (by rw [HA.out]; rfl), ⟨vs, ?_, ?_⟩, hBf.grown hg9 hBf.size (fun k hk => by cases hk; omega)⟩
        · rw [← HN1.out]
          exact own_low (own_keep hOf fun k hk hlt => hg9.block k hlt (by have := (hOf.lt k hk).1; simp; omega)) (by omega)
        · exact ⟨hVf.1, fun i u b e1 e2 => own_low (own_keep (hVf.2 i u b e1 e2) fun k hk hlt => hg9.block k hlt (by have := ((hVf.2 i u b e1 e2).lt k hk).1; simp; omega)) (by omega)⟩
    · have k2 : W.cell? ⟨g, 0, none⟩ = some (.int .u8 114) := by rw [ha] at k1; exact k1
      have HA := Lib.hid ha
      clear k1 ha
      go_wp2_with fail
      go_region
      all_goals
        go_wp2
        rw [Exit.noGoto_ret]
        obtain ⟨Wf, hWf⟩ : ∃ Wf, Wf = (W.setCell ⟨w.heap.size, 0, none⟩ (.slice A1 1 c1)).drew := ⟨_, rfl⟩
        have hXf : Blk Wf w.heap.size 29 #[.slice A1 1 c1] := by rw [hWf]; exact (HX1.out.set_ 0 _).drew
        have hDf : Wf.heap[w5.heap.size]? = some (.deferred (some [])) := by rw [hWf]; exact (Below.heap_setCell _ _ _ _ (by show w5.heap.size ≠ w.heap.size; omega)).trans HDF.out
        have hBf : Below w.heap.size w Wf := by rw [hWf]; exact (HB1.out.setCell (p := ⟨w.heap.size, 0, none⟩) (Nat.le_refl _) _).drew
        have hOf : Wf.ownsRow (w5.heap.size + 2) 25 1 (.slice A1 1 c1) 1 vs := by rw [hWf]; exact ownsRow_setCell_below HO1.out (by show w.heap.size < _; omega) _
        have hVf : VecN Wf (w5.heap.size + 2) vs e.recs := ⟨HV1.out.1, fun i u b e1 e2 => by rw [hWf]; exact ownsRow_setCell_below (HV1.out.2 i u b e1 e2) (by show w.heap.size < _; omega) _⟩
        have hD5 : w5.heap.size = w3.heap.size + 1 + 1 := by omega
        rw [← hWf]
        have hg9 : Wf.grownBy (Wf.putObj w5.heap.size (.deferred none)) (some w5.heap.size) := grownBy_putObj' Wf _ _
        have hcell : (Wf.putObj w5.heap.size (.deferred none)).cell? ⟨w.heap.size, 0, none⟩ = some (.slice A1 1 c1) := (World.cell?_of_block (hg9.block w.heap.size hXf.lt (by simp; omega))).trans (hXf.cell 0)
        refine ⟨by simp, .inl ⟨_, _, rfl, run_takeDeferred (by rw [hD5] at hDf; exact hDf), ?_⟩⟩
        rw [← hD5]
        refine ⟨_, results_tct rfl _ _ _ _ _ rfl (loadVar_slice _ _ _ hcell), _, (by rw [HA.out]; rfl), ⟨vs, ?_, ?_⟩, hBf.grown hg9 hBf.size (fun k hk => by cases hk; omega)⟩
        · rw [← HN1.out]
          exact own_low (own_keep hOf fun k hk hlt => hg9.block k hlt (by have := (hOf.lt k hk).1; simp; omega)) (by omega)
        · exact ⟨hVf.1, fun i u b e1 e2 => own_low (own_keep (hVf.2 i u b e1 e2) fun k hk hlt => hg9.block k hlt (by have := ((hVf.2 i u b e1 e2).lt k hk).1; simp; omega)) (by omega)⟩
end Go.Proofs.YtfchnpdgnhoffaaGreatDoor
