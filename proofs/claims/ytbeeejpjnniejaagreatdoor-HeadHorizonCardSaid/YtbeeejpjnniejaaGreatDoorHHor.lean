/- Law HeadHorizon (5). -/
import Derived.Test.YtbeeejpjnniejaaGreatDoorHHorS
import Derived.Test.YtbeeejpjnniejaaGreatDoorHOrder
namespace Go.Proofs.YtbeeejpjnniejaaGreatDoor
open Go.RowKit Go.Shelf Go.Maps
attribute [local go_sem] run_store_float
attribute [-go_sem] Builtin.append_
theorem info3 : (Tryz.prog.info? 3).map (fun i => (i.zero, i.size, i.bytes)) = some (some (.int .i64 0), 1, 8) := by kernel_rfl
set_option maxRecDepth 100000 in
set_option maxHeartbeats 6400000 in
theorem horizon_law (w : World) (B N cap : Nat) (A : Option Addr) (r0 d : Int) (ts : List Int) (hT : Tabs w) (hr0 : -9223372036854775808 ≤ r0 ∧ r0 ≤ 9223372036854775807) (hd : -9223372036854775808 ≤ d ∧ d ≤ 9223372036854775807)
    (hb : Reads w B 1 A N (intsV ts)) (hN : N = ts.length) (hts : ∀ x ∈ ts, -9223372036854775808 ≤ x ∧ x ≤ 9223372036854775807) (hN2 : N ≤ 9223372036854775807) (hB : B ≤ w.heap.size) :
    Calls Tryz.prog 5 #[.int .i64 r0, .slice A N cap, .int .i64 d] w fun e w' => e = .returned (.bool true) ∧ Below w.heap.size w w' := by
  have hT3 := hT.lt
  obtain ⟨i0, hi, hz0, hz1, hz2⟩ := info_parts info3
  have HI := Lib.hid hi
  have HZ0 := Lib.hid hz0
  have HZ1 := Lib.hid hz1
  have HZ2 := Lib.hid hz2
  obtain ⟨r, hr⟩ : ∃ r, r = r0 % 1000 := ⟨_, rfl⟩
  obtain ⟨dd, hdd⟩ : ∃ dd, dd = d % 100 := ⟨_, rfl⟩
  have hr1 : 0 ≤ r ∧ r ≤ 1000 := by rw [hr]; omega
  have hdd1 : 0 ≤ dd ∧ dd ≤ 100 := by rw [hdd]; omega
  have HW0 := Lib.hid (within_eq r0 1000 w (by omega) (by omega) hr0 hr)
  have HWD := Lib.hid (fun W => within_eq d 100 W (by omega) (by omega) hd hdd)
  have HN0 := Lib.hid (new_any r w (by omega))
  have HT := Lib.hid hT
  have HB := Lib.hid hb
  have HN := Lib.hid hN
  have HTS := Lib.hid hts
  have HBB := Lib.hid hB
  have HR1 := Lib.hid hr1
  obtain ⟨hr2, hr3⟩ := hr1
  obtain ⟨hdd2, hdd3⟩ := hdd1
  clear hT hr hdd hr0 hd hb hN hts hB hi hz0 hz1 hz2
  go_enter Tryz.func5, Tryz.ntmps5
  go_wp2_with fail
  refine HW0.out.mono ?_
  rintro e w' ⟨rfl, rfl⟩
  clear HW0
  go_wp2_with fail
  refine HN0.out.mono ?_
  rintro e w1 ⟨p, rfl, hh1, hb1⟩
  have hs1 := hb1.size
  have q1 : Blk (w1.alloc (.cells #[.string la, .string l1] 55)) w1.heap.size 55 #[.string la, .string l1] := Blk.new w1 55 _
  have hba : Below w1.heap.size w1 (w1.alloc (.cells #[.string la, .string l1] 55)) := (Below.refl _ w1).alloc (Nat.le_refl _) _
  have hst : HoS w (w1.alloc (.cells #[.string la, .string l1] 55)) p w1.heap.size 0 (.slice none 0 0) r 0 [] [] (fun k => w.heap.size ≤ k ∧ k < w1.heap.size) (Hd.empty r) :=
    ⟨hb1.trans (hba.mono hs1), hh1.below hba, HorI.start r hr2, ⟨List.Pairwise.nil, fun x hx => (by cases hx), fun h => absurd rfl h⟩, World.ownsRow_nil _ _ _ _, q1, fun j hj => ⟨hj.1, by simp; omega, by omega⟩, fun j hj => (by cases hj), hs1⟩
  have HST := Lib.hid (show HorR w r p N w1.heap.size (.int .i64 0) (.slice none 0 0) (.int .i64 0) (w1.alloc (.cells #[.string la, .string l1] 55)) from ⟨0, 0, [], _, _, rfl, rfl, Nat.zero_le _, Nat.zero_le _, Int.le_refl _, Int.le_refl _, rfl, hst⟩)
  obtain ⟨L, hL⟩ : ∃ L, L = w1.heap.size := ⟨_, rfl⟩
  rw [← hL] at HST
  have HL := Lib.hid hL
  clear hh1 hb1 HN0 q1 hba hst hL
  go_upto_region 6 with fail
  rw [← HL.out]
  go_wp2_with fail
  go_loopw [9, 10, 11] (fun t all i wr => HorR w r p N L t all i wr) (fun _ _ i _ => 30 - (intOf i).toNat)
  case atStart => exact HST.out
  case round =>
    obtain ⟨k, tt, xs, F, H, rfl, rfl, hkN, hk30, ht0, ht2, hxl, hS⟩ := hrel
    obtain ⟨Aa, ca, rfl⟩ := own_slice hS.own
    rw [hxl] at hS
    have HS := Lib.hid hS
    have hxe := Lib.hid hxl
    have hws : w.heap.size ≤ wr.heap.size := hS.bel.size
    clear hS
    rw [hxl]
    clear hxl
    by_cases hlt : k < N
    · have i1 : (k : Int) < (N : Int) := by omega
      by_cases h30 : k < 30
      · have i2 : (k : Int) < 30 := by omega
        obtain ⟨d0, x, rfl, hdB, hx, x0⟩ := HB.out.at_ (k := k) (by have := HN.out; omega)
        obtain ⟨z, hz, rfl⟩ : ∃ z, ts[k]? = some z ∧ x = .int .i64 z := by
          unfold intsV at hx
          rw [List.getElem?_map] at hx
          obtain ⟨z, h1, h2⟩ := Option.map_eq_some_iff.1 hx
          exact ⟨z, h1, h2.symm⟩
        have hzb := HTS.out z (List.mem_of_getElem? hz)
        have hBB := HBB.out
        have y0 : wr.cell? (d0.add k) = some (.int .i64 z) := (HS.out.bel.cell (by rw [block_of_add]; omega)).trans x0
        obtain ⟨u, hu⟩ : ∃ u, u = z % 200 := ⟨_, rfl⟩
        have hu1 : 0 ≤ u ∧ u < 200 := by rw [hu]; omega
        have HWZ := Lib.hid (fun W => within_eq z 200 W (by omega) (by omega) hzb hu)
        obtain ⟨hu2, hu3⟩ := hu1
        clear hx hz hzb x0 hu hdB
        go_wp2_with fail
        refine (HWZ.out _).mono ?_
        rintro e w' ⟨rfl, rfl⟩
        clear HWZ y0
        obtain ⟨t', ht'⟩ : ∃ t', t' = tt + 1 + u := ⟨_, rfl⟩
        have ht1 : tt < t' := by omega
        have ht3 : t' ≤ 200 * (k + 1) := by omega
        go_upto_region 12 with fail
        rw [← ht']
        have HTE := Lib.hid ht'
        clear ht'
        obtain ⟨W4, hW4⟩ : ∃ W, W = wr.alloc (.cells #[.slice (some ⟨L, 0, none⟩) 1 1, .int .i64 t', .float .f64 4607182418800017408] 57) := ⟨_, rfl⟩
        have hba4 : Below wr.heap.size wr W4 := by rw [hW4]; exact (Below.refl _ wr).alloc (Nat.le_refl _) _
        have q4 : Blk W4 wr.heap.size 57 #[.slice (some ⟨L, 0, none⟩) 1 1, .int .i64 t', .float .f64 4607182418800017408] := by rw [hW4]; exact Blk.new wr 57 _
        have hz4 : W4.heap.size = wr.heap.size + 1 := by rw [hW4]; simp
        have hS4 := HS.out.below hba4
        have hT4 := HT.out.below_ hS4.bel
        have hLlt := hS4.lab.lt
        have hp4 : PtsAt W4 W4.heap.size (fun j => ¬ F j) (.slice (some ⟨wr.heap.size, 0, none⟩) 1 1) [ptA t'] := pts_one hS4.lab q4 (by decide) (by decide) (by omega) (fun h => (hS4.f1 _ h).2.2 rfl)
        have htk := HS.out.inv.take HS.out.ok (by exact HR1.out) ht0 ht1 (by omega)
        have HC := Lib.hid (show Calls Tryz.prog 14 #[.pointer (some ⟨p, 0, none⟩), .slice (some ⟨wr.heap.size, 0, none⟩) 1 1] W4 fun e w' => e = .returned (.int .i64 1) ∧ HoS w w' p L (k + 1) (.slice Aa k ca) r t' xs (xs ++ [t']) (Grs F W4 w') (H.take [ptA t']).2 from
          (commit_any W4 F p k W4.heap.size H _ [ptA t'] hS4.hd hp4 hT4 ⟨hT4.lt, Nat.le_refl _⟩ (fun j hj => (hS4.f1 j hj).2.1) (by simp) (by omega)).mono fun e w' ⟨h1, h2, h3⟩ => by
            rw [htk.1] at h1
            exact ⟨h1, hS4.chg h3 h2 htk.2 (HS.out.ok.snoc ht1 ht0)⟩)
        have HW4 := Lib.hid hW4
        clear hba4 q4 hz4 hS4 hT4 hLlt hp4 htk hW4
        go_wp2_with fail
        rw [← HW4.out]
        refine HC.out.mono ?_
        rintro e w5 ⟨rfl, hS5⟩
        have HS5 := Lib.hid hS5
        clear hS5 HC
        obtain ⟨F5, hF5⟩ : ∃ F5, F5 = Grs F W4 w5 := ⟨_, rfl⟩
        obtain ⟨H5, hH5⟩ : ∃ H5, H5 = (H.take [ptA t']).2 := ⟨_, rfl⟩
        rw [← hF5, ← hH5] at HS5
        clear hF5 hH5 HW4
        have hba6 : Below w5.heap.size w5 (w5.alloc (.cells #[.int .i64 t'] 3)) := (Below.refl _ w5).alloc (Nat.le_refl _) _
        have q6 : Blk (w5.alloc (.cells #[.int .i64 t'] 3)) w5.heap.size 3 #[.int .i64 t'] := Blk.new w5 3 _
        have HS6 := Lib.hid (HS5.out.below hba6)
        have HR6 := Lib.hid (blk_reads q6 (w5.heap.size + 1) 1 1 [.int .i64 t'] rfl rfl (by omega))
        have hs5 : w.heap.size ≤ w5.heap.size := HS5.out.bel.size
        have hzk : k ≤ 30 := hk30
        have HOX := Lib.hid (show (w5.alloc (.cells #[.int .i64 t'] 3)).ownsRow w.heap.size 3 1 (.slice Aa k ca) k (intsV xs) by have h1 := HS6.out.own; rw [hxe.out] at h1; exact h1)
        clear hba6 q6 HS5
        go_upto_region 15 with (at_builtin; go_loud (refine wpList_append_any _ rfl (.tmp 49) (.tmp 51) 52 rfl w.heap.size 3 i0 (.int .i64 0) 1 8 Tryz.underlying52 HI.out HZ0.out HZ1.out HZ2.out rfl (by decide) (.slice Aa k ca) k (intsV xs) rfl HOX.out (w5.heap.size + 1) (some ⟨w5.heap.size, 0, none⟩) 1 1 [.int .i64 t'] rfl HR6.out (intsV_one [t']) (by simp [maxLen]; omega) (by omega) (by simp; omega) ?_; intro v7 w7 hown7 hgrow7 hor7; have HO7 := Lib.hid hown7; have HG7 := Lib.hid hgrow7; have HR7 := Lib.hid hor7; clear hown7 hgrow7 hor7))
        obtain ⟨ys, hys⟩ : ∃ ys, ys = xs ++ [t'] := ⟨_, rfl⟩
        have hyl : ys.length = k + 1 := by rw [hys, List.length_append, hxe.out]; rfl
        have hS7 : HoS w w7 p L (k + 1) v7 r t' ys ys F5 H5 := by
          have h1 := HS6.out.grown HG7.out (all' := v7) (ys' := ys) (by rw [hyl, hys, intsV_snoc]; exact HO7.out) (.inr HR7.out)
          rw [← hys] at h1
          exact h1
        obtain ⟨A7, c7, rfl⟩ := own_slice hS7.own
        obtain ⟨K, hK⟩ : ∃ K, K = k + 1 := ⟨_, rfl⟩
        rw [← hK] at hyl
        rw [hyl] at hS7 ⊢
        have hK1 : K ≤ 31 := by omega
        have hK2 : t' ≤ 200 * K := by omega
        have HK := Lib.hid hK
        have HYL := Lib.hid hyl
        have HS7 := Lib.hid hS7
        have hynil : ys ≠ [] := by intro e; rw [e] at hyl; simp at hyl; omega
        have hHZ := HS7.out.inv.hz HR1.out hynil (by omega)
        clear hys hyl hS7 hK HS6 HO7 HG7 HR7 HOX HR6
        have hs7 : w.heap.size ≤ w7.heap.size := HS7.out.bel.size
        obtain ⟨m7, hm7⟩ := HS7.out.hd.blk
        have HH7 := Lib.hid (show Calls Tryz.prog 23 #[.pointer (some ⟨p, 0, none⟩)] w7 fun e w' => e = .returned (.int .i64 (t' - r)) ∧ w7 = w' from
          (horizon23_any w7 p m7 H5 hm7 HS7.out.hd.ok).mono fun e w' ⟨h1, h2⟩ => ⟨by rw [h1, hHZ], h2.symm⟩)
        have HD7 := Lib.hid (show Calls Tryz.prog 25 #[.pointer (some ⟨p, 0, none⟩), .int .i64 (t' - r - dd)] w7 fun e w' => (∃ z, e = .returned (.int .i64 z)) ∧ HoS w w' p L (k + 1) (.slice A7 K c7) r t' ys ys (Grs F5 w7 w') (H5.drop (t' - r - dd)) from
          (drop_any w7 F5 p (k + 1) H5 (t' - r - dd) HS7.out.hd (by omega) (fun j hj => (HS7.out.f1 j hj).2.1)).mono fun e w' ⟨h1, h2, h3⟩ => ⟨h1, HS7.out.chg h3 h2 (HS7.out.inv.drop (by omega)) HS7.out.ok⟩)
        clear hm7 hHZ hynil
        by_cases h3 : k % 3 = 2
        case' pos =>
          have e3 : ((k : Int) % 3 == 2) = true := by simp; omega
          go_wp2_with fail
          refine HH7.out.mono ?_
          rintro e w' ⟨rfl, rfl⟩
          clear HH7
          go_wp2_with fail
          refine (HWD.out _).mono ?_
          rintro e w' ⟨rfl, rfl⟩
          go_wp2_with fail
          refine HD7.out.mono ?_
          rintro e w8 ⟨⟨z8, rfl⟩, hS8⟩
          have HH7 := Lib.hid hS8
          go_upto_region 17 with fail
          obtain ⟨F8, hF8⟩ : ∃ F8, F8 = Grs F5 w7 w8 := ⟨_, rfl⟩
          obtain ⟨H8, hH8⟩ : ∃ H8, H8 = H5.drop (t' - r - dd) := ⟨_, rfl⟩
          rw [← hF8, ← hH8] at hS8
          clear hF8 hH8 e3
        case' neg =>
          have e3 : ((k : Int) % 3 == 2) = false := by simp; omega
          go_upto_region 17 with fail
          have hS8 := HS7.out
          obtain ⟨F8, hF8⟩ : ∃ F8, F8 = F5 := ⟨_, rfl⟩
          obtain ⟨H8, hH8⟩ : ∃ H8, H8 = H5 := ⟨_, rfl⟩
          obtain ⟨w8, hw8⟩ : ∃ w8, w8 = w7 := ⟨_, rfl⟩
          rw [← hF8, ← hH8, ← hw8] at hS8
          rw [← hw8]
          clear hF8 hH8 e3 hw8
        all_goals
          have HS8 := Lib.hid hS8
          clear hS8 HS7 HH7 HD7 h3
          have hynil : ys ≠ [] := by intro e; have := HYL.out; rw [e] at this; simp at this; omega
          have hsel := HS8.out.inv.sel HS8.out.ok HR1.out hynil (by omega)
          have hHZ := HS8.out.inv.hz HR1.out hynil (by omega)
          have hnew : H8.newest = t' := by rw [HS8.out.inv.newE, if_neg hynil]
          have HSE := Lib.hid (select_any w8 F8 p (k + 1) H8 (.slice none 0 0) 0 (fun _ => true) (-9007199254740992) 9007199254740992 HS8.out.hd (fun _ => True) (rdy_nil w8) (fun _ _ => trivial) (by omega) (fun j hj => (HS8.out.f1 j hj).2.1))
          rw [hsel] at HSE
          have HSL := Lib.hid hsel
          have HHZ := Lib.hid hHZ
          have HNW := Lib.hid hnew
          clear hsel hHZ hnew hynil
          go_wp2_with fail
          refine HSE.out.mono ?_
          rintro e w9 ⟨vs, rfl, hb9, hsl⟩
          rw [if_pos rfl] at hsl
          obtain ⟨l, hvl, hown, heach⟩ := hsl
          obtain ⟨q0, hq0⟩ : ∃ q0, l[0]? = some q0 := ⟨_, List.getElem?_eq_getElem (by rw [hvl]; simp)⟩
          obtain ⟨fl, hfl⟩ : ∃ fl, fl = ys.filter fun x => decide (t' - r ≤ x) := ⟨_, rfl⟩
          rw [← hfl] at hown heach
          obtain ⟨A9, c9, rfl⟩ := own_slice (show w9.ownsRow w8.heap.size 40 2 vs 1 (flatV l) from hown)
          have hse := heach 0 q0 _ hq0 rfl
          have hrdv : Reads w9 w9.heap.size 2 A9 l.length (flatV l) := by rw [hvl]; exact Reads.of_own hown
          obtain ⟨d9, rfl, -, -, x1⟩ := hrdv.two hq0
          have e0 : d9.add (0 * 2) = d9 := by unfold Addr.add; simp
          rw [e0] at x1
          obtain ⟨As, cs, es⟩ := own_slice (show w9.ownsRow w8.heap.size 49 2 q0.2 (fl.map fun x => (x, onesB)).length (flatS (fl.map fun x => (x, onesB))) from hse.2)
          obtain ⟨nS, hnS⟩ : ∃ n, n = fl.length := ⟨_, rfl⟩
          have hml : (fl.map fun x => (x, onesB)).length = nS := by rw [List.length_map, hnS]
          rw [hml] at es
          have hrds : Reads w9 w9.heap.size 2 As nS (flatS (fl.map fun x => (x, onesB))) := by
            have h1 : w9.ownsRow w8.heap.size 49 2 q0.2 (fl.map fun x => (x, onesB)).length (flatS (fl.map fun x => (x, onesB))) := hse.2
            rw [hml, es] at h1
            exact Reads.of_own h1
          rw [es] at x1
          have hS9 := HS8.out.below hb9
          obtain ⟨m9, hm9⟩ := hS9.hd.blk
          have HNT := Lib.hid (show Calls Tryz.prog 26 #[.pointer (some ⟨p, 0, none⟩)] w9 fun e w' => e = .returned (.int .i64 t') ∧ w9 = w' from
            (newest_any w9 p t' (by have h1 := hm9.cell 1; rw [HNW.out] at h1; exact h1)).mono fun e w' ⟨h1, h2⟩ => ⟨h1, h2.symm⟩)
          have HH9 := Lib.hid (show Calls Tryz.prog 23 #[.pointer (some ⟨p, 0, none⟩)] w9 fun e w' => e = .returned (.int .i64 (t' - r)) ∧ w9 = w' from
            (horizon23_any w9 p m9 H8 hm9 hS9.hd.ok).mono fun e w' ⟨h1, h2⟩ => ⟨by rw [h1, HHZ.out], h2.symm⟩)
          have HOX := Lib.hid (Reads.of_own (show w9.ownsRow w.heap.size 3 1 (.slice A7 K c7) K (intsV ys) by have h1 := hS9.own; rw [HYL.out] at h1; exact h1))
          have HS9 := Lib.hid hS9
          have HFL := Lib.hid hfl
          have HNS := Lib.hid hnS
          have HRS := Lib.hid hrds
          have HX1 := Lib.hid x1
          have hnSK : nS ≤ K := by rw [hnS, hfl, ← HYL.out]; exact List.length_filter_le _ _
          have hm0 : (0 : Int) ≤ t' - r ∨ t' - r < 0 := by omega
          have hc0 : cnt (fun x => decide (t' - r ≤ x)) ys 0 = 0 := by unfold cnt; simp
          have HC0 := Lib.hid hc0
          clear hvl hown heach hq0 hfl hse hrdv e0 es hnS hml hrds x1 hb9 hS9 hm9 HSE HSL hm0 hc0
          go_wp2_with (first | ((with_reducible refine HNT.out.mono ?_); rintro e w' ⟨rfl, rfl⟩) | ((with_reducible refine HH9.out.mono ?_); rintro e w' ⟨rfl, rfl⟩))
          clear HNT HH9
          go_loopw [14, 15] (fun nn kk wq => ∃ j q : Nat, kk = .int .i64 (j : Int) ∧ nn = .int .i64 ((cnt (fun x => decide (t' - r ≤ x)) ys j : Nat) : Int) ∧ j ≤ K ∧ wq = w9.drewN q) (fun _ kk _ => K - (intOf kk).toNat)
          case atStart => exact ⟨0, 0, rfl, by rw [HC0.out]; rfl, Nat.zero_le _, rfl⟩
          case round =>
            obtain ⟨j, q, rfl, rfl, hjK, hwq⟩ := hrel
            have HWQ := Lib.hid hwq
            obtain ⟨cn, hcn⟩ : ∃ c, c = cnt (fun x => decide (t' - r ≤ x)) ys j := ⟨_, rfl⟩
            rw [← hcn]
            have hcj : cn ≤ j := by rw [hcn]; exact cnt_le _ _ _
            have HCN := Lib.hid hcn
            clear hcn
            by_cases hjl : j < K
            · have j1 : (j : Int) < (K : Int) := by omega
              obtain ⟨a7, xv, rfl, -, hxv, y0⟩ := HOX.out.at_ hjl
              obtain ⟨x, hx, rfl⟩ : ∃ x, ys[j]? = some x ∧ xv = .int .i64 x := by
                unfold intsV at hxv
                rw [List.getElem?_map] at hxv
                obtain ⟨z, h1, h2⟩ := Option.map_eq_some_iff.1 hxv
                exact ⟨z, h1, h2.symm⟩
              replace y0 : wr.cell? (a7.add j) = some (.int .i64 x) := by rw [hwq]; exact y0
              have hxb := HS9.out.ok.lo x (List.mem_of_getElem? hx)
              obtain ⟨hxb1, hxb2⟩ := hxb
              have HX := Lib.hid hx
              clear hxv hx
              by_cases hlow : x < t' - r
              · have HCS := Lib.hid (show cnt (fun x => decide (t' - r ≤ x)) ys (j + 1) = cn by rw [cnt_succ (p := fun x => decide (t' - r ≤ x)) HX.out, if_neg (show ¬ (decide (t' - r ≤ x) = true) by simp; omega), HCN.out]; rfl)
                clear hwq
                go_wp2
                exact ⟨⟨j + 1, q, rfl, by rw [HCS.out], by omega, HWQ.out⟩, by simp only [intOf]; omega⟩
              · have hdec : decide (t' - r ≤ x) = true := by simp; omega
                have hget := cnt_get (p := fun x => decide (t' - r ≤ x)) HX.out hdec
                rw [← HCN.out, ← HFL.out] at hget
                have HCS := Lib.hid (show cnt (fun x => decide (t' - r ≤ x)) ys (j + 1) = cn + 1 by rw [cnt_succ (p := fun x => decide (t' - r ≤ x)) HX.out, if_pos (show decide (t' - r ≤ x) = true from hdec), HCN.out])
                have hcl : cn < nS := by rw [HNS.out]; exact (List.getElem?_eq_some_iff.1 hget).1
                have hsm : (fl.map fun x => (x, onesB))[cn]? = some (x, onesB) := by rw [List.getElem?_map, hget]; rfl
                obtain ⟨dS, rfl, -, z0, -⟩ := HRS.out.two hsm
                replace z0 : wr.cell? (dS.add (cn * 2)) = some (.int .i64 x) := by rw [hwq]; exact z0
                have x1 : wr.cell? ⟨d9.block, d9.off + 1, none⟩ = some (.slice (some dS) nS cs) := by rw [hwq]; exact HX1.out
                have j2 : (cn : Int) < (nS : Int) := by omega
                have j3 : (0 : Int) ≤ (cn : Int) := by omega
                have j4 : decide (nS ≤ cn) = false := by simpa using hcl
                have j5 : decide ((nS : Int) ≤ (cn : Int)) = false := by simp; omega
                have j6 : (0 : Int) ≤ (j : Int) := by omega
                clear hwq hget hsm hdec
                go_upto_region 25 with fail
                refine wp_region_quiet_lit (by kernel_rfl) (by kernel_rfl) ?_
                repeat (go_big_quiet_step (fail))
                refine wpQuiet_nil ?_
                intro _ hw'
                obtain ⟨nq, hw''⟩ := hw'
                subst hw''
                go_wp2
                exact ⟨⟨j + 1, q + nq, rfl, by rw [HCS.out]; go_num, by omega, by rw [HWQ.out, World.drewN_drewN]⟩, by simp only [intOf]; omega⟩
            · have j1 : ¬ (j : Int) < (K : Int) := by omega
              have hj : j = K := by omega
              have HCE := Lib.hid (show cn = nS by rw [HCN.out, hj, ← HYL.out, cnt_all, HNS.out, HFL.out])
              have x1 : wr.cell? ⟨d9.block, d9.off + 1, none⟩ = some (.slice As nS cs) := by rw [hwq]; exact HX1.out
              have hce := HCE.out
              subst hce
              have HSW := Lib.hid (show HoS w wr p L (k + 1) (.slice A7 K c7) r t' ys ys F8 H8 from by rw [hwq]; exact HS9.out.below ⟨rfl, rfl, rfl, Nat.le_refl _, fun _ _ => rfl⟩)
              have HKY := Lib.hid (HYL.out.trans HK.out)
              clear hwq HCN
              go_wp2
              exact ⟨⟨k + 1, t', ys, F8, H8, rfl, by first | rfl | go_num, by omega, by omega, by omega, by omega, HKY.out, HSW.out⟩, by simp only [intOf]; omega⟩
      · have i2 : ¬ (k : Int) < 30 := by omega
        have HWK := Lib.hid (wakes_any wr (HT.out.below_ HS.out.bel))
        go_wp2_with fail
        refine HWK.out.mono ?_
        rintro e w2 ⟨rfl, hb2⟩
        have HB2 := Lib.hid (HS.out.bel.trans (hb2.mono hws))
        clear hb2 HWK
        go_wp2
        go_ret
        exact ⟨rfl, HB2.out⟩
    · have i1 : ¬ (k : Int) < (N : Int) := by omega
      have HWK := Lib.hid (wakes_any wr (HT.out.below_ HS.out.bel))
      go_wp2_with fail
      refine HWK.out.mono ?_
      rintro e w2 ⟨rfl, hb2⟩
      have HB2 := Lib.hid (HS.out.bel.trans (hb2.mono hws))
      clear hb2 HWK
      go_wp2
      go_ret
      exact ⟨rfl, HB2.out⟩
end Go.Proofs.YtbeeejpjnniejaaGreatDoor
