/- Law HeadOrder (4). -/
import Derived.Test.YtbeeejpjnniejaaGreatDoorJ13HWakes
namespace Go.Proofs.YtbeeejpjnniejaaGreatDoor
open Go.RowKit Go.Shelf Go.Maps
/-- batches of points in memory -/
def BatsAt (w : World) (B : Nat) (A : Option Addr) (bs : List (List Pt)) : Prop :=
  ∃ xs : List Value, Reads w B 1 A bs.length xs ∧ ∀ (i : Nat) (x : Value) (b : List Pt), xs[i]? = some x → bs[i]? = some b → PtsAt w B (fun k => k < B) x b ∧ CapsOk w x ∧ b.length ≤ 9223372036854775807
theorem PtsAt.q {w : World} {B : Nat} {Q R : Nat → Prop} {v : Value} {pts : List Pt} (h : PtsAt w B Q v pts) (hq : ∀ k, Q k → R k) : PtsAt w B R v pts := by
  obtain ⟨A, c, vs, e1, e2, r, h1⟩ := h
  exact ⟨A, c, vs, e1, e2, r, fun i x p a b => ⟨(h1 i x p a b).1, (h1 i x p a b).2.1, (h1 i x p a b).2.2.1, fun k hk => hq k ((h1 i x p a b).2.2.2 k hk)⟩⟩
theorem batch_len (pts : List Pt) : (batchP pts).length ≤ 20 := by unfold batchP; rw [List.length_map, List.length_take]; omega
theorem sel_len (H : Hd) (mean : List Lbl → Bool) (a b : Int) : (H.sel mean a b).length ≤ H.ss.length := List.length_filterMap_le _ _
theorem sel_lens {H : Hd} {mean : List Lbl → Bool} {a b : Int} {n : Nat} (h : ∀ x ∈ H.ss, x.2.length ≤ n) : ∀ s ∈ H.sel mean a b, s.2.length ≤ n := fun s hs => by
  obtain ⟨x, hx, e⟩ := List.mem_filterMap.1 hs
  obtain ⟨-, rfl, -⟩ := selS_some e
  show (selP x.2 _ _).length ≤ n
  unfold selP
  rw [List.length_map]
  exact Nat.le_trans (List.length_filter_le _ _) (h x hx)
theorem HdAt.blk {w : World} {F : Nat → Prop} {p n : Nat} {H : Hd} (h : HdAt w F p n H) : ∃ m, Blk w p 126 #[.int .i64 H.ret, .int .i64 H.newest, .map (some m)] := by
  obtain ⟨s, h1, h2, -⟩ := h
  exact ⟨s.m, by rw [← h2.ret, ← h2.newest]; exact h1.blk⟩
theorem HdAt.lens {w : World} {F : Nat → Prop} {p n : Nat} {H : Hd} (h : HdAt w F p n H) : H.ss.length ≤ n ∧ ∀ x ∈ H.ss, x.2.length ≤ n := by
  obtain ⟨s, h1, h2, h3, h4, h5⟩ := h
  exact ⟨h4, h5⟩
/-- between two batches -/
def OrR (w : World) (p N : Nat) (i : Value) (W : World) : Prop := ∃ (k : Nat) (F : Nat → Prop) (H : Hd), i = .int .i64 (k : Int) ∧ k ≤ N ∧ k ≤ 10 ∧ HdAt W F p (20 * k) H ∧ (∀ j, F j → w.heap.size ≤ j ∧ j < W.heap.size) ∧ Below w.heap.size w W
set_option maxRecDepth 100000 in
set_option maxHeartbeats 6400000 in
theorem order_any (w : World) (B N cap : Nat) (A : Option Addr) (r : Int) (bs : List (List Pt)) (hT : Tabs w) (hr : r ≤ 9223372036854775807) (hb : BatsAt w B A bs) (hN : N = bs.length) (hN2 : N ≤ 9223372036854775807) (hB : B ≤ w.heap.size) :
    Calls Tryz.prog 4 #[.int .i64 r, .slice A N cap] w fun e w' => e = .returned (.bool true) ∧ Below w.heap.size w w' := by
  have HN := Lib.hid hN
  have HB := Lib.hid hb
  have HT := Lib.hid hT
  have HBB := Lib.hid hB
  have HNW := Lib.hid (new_any r w hr)
  clear hT hr hb hN hB
  go_enter Tryz.func4, Tryz.ntmps4
  go_wp2_with fail
  refine HNW.out.mono ?_
  rintro e w1 ⟨p, rfl, hh1, hb1⟩
  have HST := Lib.hid (show OrR w p N (.int .i64 0) w1 from ⟨0, _, _, rfl, Nat.zero_le _, Nat.zero_le _, hh1, fun j h => h, hb1⟩)
  clear hh1 hb1 HNW
  go_wp2_with fail
  go_loopw [6] (fun i wr => OrR w p N i wr) (fun i _ => 10 - (intOf i).toNat)
  case atStart => exact HST.out
  case round =>
    obtain ⟨k, F, H, rfl, hkN, hk10, hh, hF, hbel⟩ := hrel
    have HH := Lib.hid hh
    have HF := Lib.hid hF
    have HBL := Lib.hid hbel
    have hws : w.heap.size ≤ wr.heap.size := hbel.size
    clear hh hF hbel
    by_cases hlt : k < N
    · have i1 : (k : Int) < (N : Int) := by omega
      by_cases h10 : k < 10
      · have i2 : (k : Int) < 10 := by omega
        obtain ⟨xs, hrd, hea⟩ := HB.out
        obtain ⟨d, x, rfl, hdB, hx, x0⟩ := hrd.at_ (k := k) (by have := HN.out; omega)
        obtain ⟨b, hbk⟩ : ∃ b, bs[k]? = some b := ⟨_, List.getElem?_eq_getElem (by have := HN.out; omega)⟩
        obtain ⟨hpt, hcap, hbl⟩ := hea k x b hx hbk
        have hBB := HBB.out
        have y0 : wr.cell? (d.add k) = some x := (HBL.out.cell (by rw [block_of_add]; omega)).trans x0
        have hcell : ∀ q : Addr, q.block < B → wr.cell? q = w.cell? q := fun q hq => HBL.out.cell (by omega)
        have sk : IntKind.i64.wrap ((k : Int) + 1) = ((k + 1 : Nat) : Int) := (IntWalk.i64_in _ (by omega)).trans (by omega)
        have HBT := Lib.hid (batch_any wr B x b (hpt.keep hcell) (by omega) hbl (fun d' m c' e j A' n' c'' hj hc => by
          have hpx := hpt
          obtain ⟨Ax, cx, vx, ex, -, rx, -⟩ := hpx
          rw [ex] at e
          injection e with e1 e2 e3
          obtain ⟨ad, had, hadB, -⟩ := rx.2 (by omega)
          rw [had] at e1
          injection e1 with e1
          subst e1
          exact hcap ad m c' (by rw [ex, had, e2, e3]) j A' n' c'' hj (by rw [← hcell _ (by rw [block_of_add]; exact hadB)]; exact hc)))
        clear hrd hea hx hbk hpt hcap hbl x0 hdB hcell
        go_wp2_with fail
        refine HBT.out.mono ?_
        rintro e w2 ⟨v2, rfl, hb2, hp2⟩
        have hn20 := batch_len b
        obtain ⟨pts, hpts⟩ : ∃ l, l = batchP b := ⟨_, rfl⟩
        rw [← hpts] at hp2 hn20
        have hT2 := HT.out.below_ (HBL.out.trans (hb2.mono hws))
        have hh2 := HH.out.below hb2
        obtain ⟨A2, c2, rfl⟩ : ∃ A2 c2, v2 = .slice A2 pts.length c2 := by obtain ⟨A2, c2, _, e, -⟩ := hp2; exact ⟨A2, c2, e⟩
        have HP1 := Lib.hid (hplan_any w2 F _ p (20 * k) w2.heap.size H _ pts hh2 hp2 hT2 ⟨hT2.lt, Nat.le_refl _⟩ (by omega) (by omega))
        have HH2 := Lib.hid hh2
        have HPT := Lib.hid hp2
        have HB2 := Lib.hid (HBL.out.trans (hb2.mono hws))
        have hs2 : w.heap.size ≤ w2.heap.size := HB2.out.size
        have hsr : wr.heap.size ≤ w2.heap.size := hb2.size
        obtain ⟨nP, hnP⟩ : ∃ n, n = pts.length := ⟨_, rfl⟩
        have HNP := Lib.hid hnP
        rw [← hnP] at HP1 hn20 ⊢
        clear hb2 hp2 hT2 hh2 HBT y0 hpts hnP
        go_wp2_with fail
        refine HP1.out.mono ?_
        rintro e w3 ⟨o1, rfl, ho1, hb3⟩
        obtain ⟨A3, c3, rfl⟩ := own_slice ho1
        have hp3 := HPT.out.keep (w' := w3) fun q hq => hb3.cell hq
        have hT3 := HT.out.below_ (HB2.out.trans (hb3.mono hs2))
        have hh3 := HH2.out.below hb3
        have hs23 := hb3.size
        have HP2 := Lib.hid (hplan_any w3 F _ p (20 * k) w2.heap.size H _ pts hh3 hp3 hT3 ⟨by have := hT3.lt; have := HT.out.lt; omega, hs23⟩ (by rw [← HNP.out]; omega) (by omega))
        rw [← HNP.out] at HP2
        have HO1 := Lib.hid ho1
        have HP3 := Lib.hid hp3
        have HT3 := Lib.hid hT3
        have HH3 := Lib.hid hh3
        have HB3 := Lib.hid (HB2.out.trans (hb3.mono hs2))
        clear ho1 hp3 hT3 hh3 hb3 HP1
        go_wp2_with fail
        refine HP2.out.mono ?_
        rintro e w4 ⟨o2, rfl, ho2, hb4⟩
        obtain ⟨A4, c4, rfl⟩ := own_slice ho2
        have hs34 := hb4.size
        have hp4 := (HP3.out.keep (w' := w4) fun q hq => hb4.cell (by omega)).q (R := fun j => ¬ F j) (fun j hj hf => by have := (HF.out j hf).1; have := HBB.out; omega)
        have hT4 := HT3.out.below_ hb4
        have hh4 := HH3.out.below hb4
        have hr1 := (Reads.of_own HO1.out).below hb4
        have HE := Lib.hid (errs_any w4 _ _ _ A3 A4 c3 c4 nP hr1 (Reads.of_own ho2) (by omega))
        have HC := Lib.hid (fun q => show Calls Tryz.prog 14 #[.pointer (some ⟨p, 0, none⟩), .slice A2 nP c2] (w4.drewN q) (CommitPost (w4.drewN q) F p (20 * k) H pts) by
          rw [HNP.out]
          exact commit_any (w4.drewN q) F p (20 * k) w2.heap.size H _ pts (hh4.keep (fun _ _ _ => rfl) (Nat.le_refl _)) hp4 hT4 ⟨by have := HT.out.lt; omega, by show w2.heap.size ≤ w4.heap.size; omega⟩ (fun j hj => by have := (HF.out j hj).2; show j < w4.heap.size; omega) (by rw [← HNP.out]; omega) (by omega))
        have HB4 := Lib.hid (HB3.out.trans (hb4.mono (by omega)))
        have HT4 := Lib.hid hT4
        clear ho2 hp4 hT4 hh4 hr1 hb4 HP2
        go_wp2_with fail
        refine HE.out.mono ?_
        rintro e w5 ⟨rfl, q5, hw5⟩
        subst hw5
        clear HE
        go_wp2_with fail
        refine (HC.out q5).mono ?_
        rintro e w6 ⟨rfl, hh6, hc6⟩
        obtain ⟨F6, hF6e⟩ : ∃ F6, F6 = Grs F (w4.drewN q5) w6 := ⟨_, rfl⟩
        rw [← hF6e] at hh6
        obtain ⟨H6, hH6⟩ : ∃ H6, H6 = (H.take pts).2 := ⟨_, rfl⟩
        rw [← hH6, ← HNP.out] at hh6
        have hs46 : w4.heap.size ≤ w6.heap.size := hc6.size
        have hF6 : ∀ j, F6 j → w.heap.size ≤ j ∧ j < w6.heap.size := fun j hj => by
          rw [hF6e] at hj
          refine ⟨?_, hj.2⟩
          rcases hj.1 with h1 | h1
          · exact (HF.out j h1).1
          · have h2 : w4.heap.size ≤ j := h1
            omega
        have hb6 : Below w.heap.size w w6 := HB4.out.trans (⟨hc6.os, hc6.tape, hc6.output, hc6.size, fun j hj => hc6.block j (by show j < w4.heap.size; omega) fun hf => by have := (HF.out j hf).1; omega⟩)
        have HS := Lib.hid (select_any w6 F6 p (20 * k + nP) H6 (.slice none 0 0) 0 (fun _ => true) (-9007199254740993) 9007199254740992 hh6 (fun _ => True) (rdy_nil w6) (fun _ _ => trivial) (by omega) (fun j hj => (hF6 j hj).2))
        have HH6 := Lib.hid hh6
        have HF6 := Lib.hid hF6
        have HB6 := Lib.hid hb6
        clear hh6 hc6 hF6e hH6 hF6 hb6 HC
        go_wp2_with fail
        refine HS.out.mono ?_
        rintro e w7 ⟨vs, rfl, hb7, hsel⟩
        rw [if_pos rfl] at hsel
        obtain ⟨l, hvl, hown, heach⟩ := hsel
        obtain ⟨ss, hss⟩ : ∃ ss, ss = H6.sel (fun _ => true) (-9007199254740993) 9007199254740992 := ⟨_, rfl⟩
        have hok : SelOk H6 ss := by rw [hss]; exact sel_ok HH6.out.ok _ _ _
        have hsl : ss.length ≤ 1000 := by rw [hss]; have h1 := sel_len H6 (fun _ => true) (-9007199254740993) 9007199254740992; have h2 := HH6.out.lens.1; omega
        have hsls : ∀ s ∈ ss, s.2.length ≤ 1000 := fun s hs => by rw [hss] at hs; have h1 := sel_lens HH6.out.lens.2 s hs; omega
        rw [← hss] at hvl hown heach
        obtain ⟨n, hn⟩ : ∃ n, n = ss.length := ⟨_, rfl⟩
        rw [← hn] at hvl hown
        obtain ⟨A7, c7, rfl⟩ := own_slice hown
        have hh7 := HH6.out.below hb7
        have HSN := Lib.hid hn
        have HOK := Lib.hid hok
        have HSL := Lib.hid hsl
        have HSLS := Lib.hid hsls
        have HVL := Lib.hid hvl
        have HOW := Lib.hid hown
        have HEA := Lib.hid heach
        have HH7 := Lib.hid hh7
        have HB7 := Lib.hid (HB6.out.trans (hb7.mono HB6.out.size))
        have hs67 : w6.heap.size ≤ w7.heap.size := hb7.size
        have hn1 : n ≤ 1000 := by rw [hn]; exact hsl
        clear hss hn hok hsl hsls hvl hown heach hh7 hb7 HS
        go_wp2_with fail
        go_loopw [12] (fun i wq => ∃ m q : Nat, i = .int .i64 (m : Int) ∧ m ≤ n ∧ wq = w7.drewN q) (fun i _ => n - (intOf i).toNat)
        case atStart => exact ⟨0, 0, rfl, Nat.zero_le _, rfl⟩
        case round =>
          obtain ⟨m, q0, rfl, hm, hw⟩ := hrel
          have HW := Lib.hid hw
          by_cases hlm : m < n
          · have j1 : (m : Int) < (n : Int) := by omega
            have j0 : (0 : Int) ≤ (m : Int) := by omega
            obtain ⟨sr, hsr⟩ : ∃ sr, ss[m]? = some sr := ⟨_, List.getElem?_eq_getElem (by have := HSN.out; omega)⟩
            obtain ⟨qv, hqv⟩ : ∃ qv, l[m]? = some qv := ⟨_, List.getElem?_eq_getElem (by have := HVL.out; omega)⟩
            have hmem := List.mem_of_getElem? hsr
            have hse := HEA.out m qv sr hqv hsr
            have hrdv : Reads w7 w7.heap.size 2 A7 l.length (flatV l) := by rw [HVL.out]; exact Reads.of_own HOW.out
            obtain ⟨d7, rfl, -, x0, x1⟩ := hrdv.two hqv
            obtain ⟨Al, cl, el⟩ := own_slice hse.1
            obtain ⟨As, cs, es⟩ := own_slice hse.2
            rw [el] at x0
            rw [es] at x1
            obtain ⟨nS, hnS⟩ : ∃ nS, nS = sr.2.length := ⟨_, rfl⟩
            rw [← hnS] at x1
            have hpos : 0 < nS := by rw [hnS]; exact List.length_pos_iff.2 (HOK.out.pos sr hmem)
            have hnS1 : nS ≤ 1000 := by rw [hnS]; exact HSLS.out sr hmem
            have hown2 := hse.2
            rw [es] at hown2
            have hrds := Reads.of_own hown2
            obtain ⟨t0, ht0⟩ : ∃ t0, sr.2[0]? = some t0 := ⟨_, List.getElem?_eq_getElem (by omega)⟩
            obtain ⟨dS, rfl, -, z0, -⟩ := hrds.two ht0
            have eS : dS.add (0 * 2) = dS := by unfold Addr.add; simp
            rw [eS] at z0
            have hlate := HOK.out.late sr hmem t0 (List.mem_of_getElem? ht0)
            obtain ⟨tt, htt⟩ : ∃ tt, tt = t0.1 := ⟨_, rfl⟩
            obtain ⟨hz, hhz⟩ : ∃ hz, hz = H6.horizon := ⟨_, rfl⟩
            rw [← htt] at z0 hlate
            rw [← hhz] at hlate
            have j2 : ¬ tt < hz := by omega
            have j3 : ¬ nS = 0 := by omega
            have j4 : ¬ (nS : Int) = 0 := by omega
            have j5 : (0 : Int) < (nS : Int) := by omega
            have j6 : ((nS : Int) == 0) = false := by simpa using j4
            have j7 : (nS == 0) = false := by simpa using j3
            have j8 : decide (tt < hz) = false := by simpa using j2
            have HHZ := Lib.hid (fun q => show Calls Tryz.prog 23 #[.pointer (some ⟨p, 0, none⟩)] (w7.drewN q) fun e w' => e = .returned (.int .i64 hz) ∧ w' = w7.drewN q by
              obtain ⟨mm, hbm⟩ := HH7.out.blk
              rw [hhz]
              exact horizon23_any (w7.drewN q) p mm H6 hbm HH7.out.ok)
            have X1 := Lib.hid x1
            replace x0 : wr.cell? (d7.add (m * 2)) = some (.slice Al sr.1.length cl) := by rw [hw]; exact x0
            replace x1 : wr.cell? ⟨(d7.add (m * 2)).block, (d7.add (m * 2)).off + 1, none⟩ = some (.slice (some dS) nS cs) := by rw [hw]; exact x1
            replace z0 : wr.cell? dS = some (.int .i64 tt) := by rw [hw]; exact z0
            have s1 : IntKind.i64.wrap ((m : Int) + 1) = ((m + 1 : Nat) : Int) := (IntWalk.i64_in _ (by omega)).trans (by omega)
            have HSE := Lib.hid hse
            have HSR := Lib.hid hsr
            have HQV := Lib.hid hqv
            have HEL := Lib.hid el
            have HES := Lib.hid es
            have HNS := Lib.hid hnS
            have HRS := Lib.hid hrds
            have HRV := Lib.hid hrdv
            have HMEM := Lib.hid hmem
            have hlL : sr.1.length ≤ 64 := (fitP_fit (HOK.out.fit sr hmem)).1
            obtain ⟨nL, hnL⟩ : ∃ nL, nL = sr.1.length := ⟨_, rfl⟩
            rw [← hnL] at x0 hlL
            have HNL := Lib.hid hnL
            have hHZ' : ∀ q, Calls Tryz.prog 23 #[.pointer (some ⟨p, 0, none⟩)] (wr.drewN q) fun e w' => e = .returned (.int .i64 hz) ∧ w' = wr.drewN q := fun q => by rw [hw, World.drewN_drewN]; exact HHZ.out _
            have HHZ' := Lib.hid hHZ'
            clear hse hsr hqv el es hnS hrds hrdv hmem hnL hHZ' hown2 ht0 htt hhz hlate eS hw HHZ
            rcases Nat.eq_zero_or_pos m with rfl | hmp
            · have e0 : ((0 : Nat) : Int) = 0 := rfl
              have ed : d7.add (0 * 2) = d7 := by unfold Addr.add; simp
              have X1D := Lib.hid (show w7.cell? ⟨d7.block, d7.off + 1, none⟩ = some (.slice (some dS) nS cs) by have h1 := X1.out; rw [ed] at h1; exact h1)
              rw [ed] at x0 x1
              rw [e0] at s1 j1 ⊢
              clear ed e0 j0
              go_upto_region 19 with fail
              refine wp_region_quiet_lit (by kernel_rfl) (by kernel_rfl) ?_
              repeat (go_big_quiet_step ((go_at_call 23; exact Calls.quiet_of_same (HHZ'.out _))))
              refine wpQuiet_nil ?_
              intro _ hw'
              obtain ⟨nq, hw''⟩ := hw'
              subst hw''
              go_wp2_with fail
              clear x0 x1 z0
              go_loopw [13] (fun j wq => ∃ jj q : Nat, j = .int .i64 (jj : Int) ∧ 1 ≤ jj ∧ jj ≤ nS ∧ wq = w7.drewN q) (fun j _ => nS - (intOf j).toNat)
              case atStart => exact ⟨1, q0 + nq, rfl, Nat.le_refl _, hpos, by rw [HW.out, World.drewN_drewN]⟩
              case round =>
                obtain ⟨jj, q1, rfl, hj1, hjn, hwq⟩ := hrel
                have HWQ := Lib.hid hwq
                have x1 : wr.cell? ⟨d7.block, d7.off + 1, none⟩ = some (.slice (some dS) nS cs) := by rw [hwq]; exact X1D.out
                by_cases hlj : jj < nS
                · obtain ⟨jm, hjm⟩ : ∃ jm, jm + 1 = jj := ⟨jj - 1, by omega⟩
                  obtain ⟨u, hu⟩ : ∃ u, sr.2[jj]? = some u := ⟨_, List.getElem?_eq_getElem (by have := HNS.out; omega)⟩
                  obtain ⟨u', hu'⟩ : ∃ u', sr.2[jm]? = some u' := ⟨_, List.getElem?_eq_getElem (by have := HNS.out; omega)⟩
                  have hris : u'.1 < u.1 := by
                    have h1 := HOK.out.rises sr HMEM.out
                    obtain ⟨b1, b2⟩ := List.getElem?_eq_some_iff.1 hu
                    obtain ⟨b3, b4⟩ := List.getElem?_eq_some_iff.1 hu'
                    have h2 := List.pairwise_iff_getElem.1 h1 jm jj b3 b1 (by omega)
                    rw [b2, b4] at h2
                    exact h2
                  obtain ⟨dx, hdx, -, z1, -⟩ := HRS.out.two hu
                  obtain ⟨dy, hdy, -, z2, -⟩ := HRS.out.two hu'
                  injection hdx with hdx
                  injection hdy with hdy
                  subst hdx
                  subst hdy
                  obtain ⟨ut, hut⟩ : ∃ ut, ut = u.1 := ⟨_, rfl⟩
                  obtain ⟨ut', hut'⟩ : ∃ ut', ut' = u'.1 := ⟨_, rfl⟩
                  rw [← hut] at z1 hris
                  rw [← hut'] at z2 hris
                  replace z1 : wr.cell? (dS.add (jj * 2)) = some (.int .i64 ut) := by rw [hwq]; exact z1
                  replace z2 : wr.cell? (dS.add (jm * 2)) = some (.int .i64 ut') := by rw [hwq]; exact z2
                  have k1 : (jj : Int) < (nS : Int) := by omega
                  have k2 : (0 : Int) ≤ (jj : Int) := by omega
                  have k3 : (jm : Int) < (nS : Int) := by omega
                  have k4 : (0 : Int) ≤ (jm : Int) := by omega
                  have k5 : IntKind.i64.wrap ((jj : Int) - 1) = (jm : Int) := (IntWalk.i64_in _ (by omega)).trans (by omega)
                  have k6 : IntKind.i64.wrap ((jj : Int) + 1) = ((jj + 1 : Nat) : Int) := (IntWalk.i64_in _ (by omega)).trans (by omega)
                  have k7 : decide (ut ≤ ut') = false := by simpa using hris
                  have HJM := Lib.hid hjm
                  clear hu hu' hut hut' hwq hris hjm
                  go_upto_region 24 with fail
                  refine wp_region_quiet_lit (by kernel_rfl) (by kernel_rfl) ?_
                  repeat (go_big_quiet_step (fail))
                  refine wpQuiet_nil ?_
                  intro _ hw'
                  obtain ⟨nq, hw''⟩ := hw'
                  subst hw''
                  go_wp2
                  exact ⟨⟨jj + 1, q1 + nq, rfl, by omega, by omega, by rw [HWQ.out, World.drewN_drewN]⟩, by simp only [intOf]; omega⟩
                · have k1 : ¬ (jj : Int) < (nS : Int) := by omega
                  clear hwq
                  go_wp2
                  exact ⟨⟨1, q1, rfl, by omega, HWQ.out⟩, by simp only [intOf]; omega⟩
            · obtain ⟨m1, hm1⟩ : ∃ m1, m1 + 1 = m := ⟨m - 1, by omega⟩
              obtain ⟨sr1, hsr1⟩ : ∃ sr1, ss[m1]? = some sr1 := ⟨_, List.getElem?_eq_getElem (by have := HSN.out; omega)⟩
              obtain ⟨qv1, hqv1⟩ : ∃ qv1, l[m1]? = some qv1 := ⟨_, List.getElem?_eq_getElem (by have := HVL.out; omega)⟩
              have hse1 := HEA.out m1 qv1 sr1 hqv1 hsr1
              obtain ⟨dd, hdd, -, w0, -⟩ := HRV.out.two hqv1
              injection hdd with hdd
              subst hdd
              obtain ⟨Al1, cl1, el1⟩ := own_slice hse1.1
              rw [el1] at w0
              have hcm : cmpL sr1.1 sr.1 < 0 := by
                have h1 := HOK.out.sorted
                obtain ⟨b1, b2⟩ := List.getElem?_eq_some_iff.1 HSR.out
                obtain ⟨b3, b4⟩ := List.getElem?_eq_some_iff.1 hsr1
                have h2 := List.pairwise_iff_getElem.1 h1 m1 m b3 b1 (by omega)
                rw [b2, b4] at h2
                exact h2
              obtain ⟨cm, hcme⟩ : ∃ cm, cm = cmpL sr1.1 sr.1 := ⟨_, rfl⟩
              obtain ⟨nL1, hnL1⟩ : ∃ nL1, nL1 = sr1.1.length := ⟨_, rfl⟩
              rw [← hnL1] at w0
              have HCM := Lib.hid (fun q => show Calls Tryz.prog 19 #[.slice Al1 nL1 cl1, .slice Al nL cl] (wr.drewN q) fun e w' => e = .returned (.int .i64 cm) ∧ ∃ q', w' = (wr.drewN q).drewN q' by
                have o1 := hse1.1
                have o2 := HSE.out.1
                rw [el1] at o1
                rw [HEL.out] at o2
                rw [hcme, hnL1, HNL.out, HW.out]
                exact rcompare_any ((w7.drewN q0).drewN q) w7.heap.size _ _ sr1.1 sr.1 (labs_of_own (w := w7) (own_low o1 (Nat.zero_le _))) (labs_of_own (w := w7) (own_low o2 (Nat.zero_le _))) (by have := (fitP_fit (HOK.out.fit sr1 (List.mem_of_getElem? hsr1))).1; omega) (by have := HNL.out; omega))
              rw [← hcme] at hcm
              replace w0 : wr.cell? (d7.add (m1 * 2)) = some (.slice Al1 nL1 cl1) := by rw [HW.out]; exact w0
              have k1 : (m1 : Int) < (n : Int) := by omega
              have k2 : (0 : Int) ≤ (m1 : Int) := by omega
              have k3 : IntKind.i64.wrap ((m : Int) - 1) = (m1 : Int) := (IntWalk.i64_in _ (by omega)).trans (by omega)
              have k4 : (0 : Int) < (m : Int) := by omega
              have k5 : decide ((0 : Int) ≤ cm) = false := by simpa using hcm
              clear hsr1 hqv1 hse1 el1 hcme hnL1 hm1 hcm
              go_upto_region 19 with fail
              refine wp_region_quiet_lit (by kernel_rfl) (by kernel_rfl) ?_
              repeat (go_big_quiet_step ((first | (go_at_call 19; exact Calls.quiet_of (HCM.out _)) | (go_at_call 23; exact Calls.quiet_of_same (HHZ'.out _)))))
              refine wpQuiet_nil ?_
              intro _ hw'
              obtain ⟨nq, hw''⟩ := hw'
              subst hw''
              clear w0 k1 k2 k3 k4 k5
              go_wp2_with fail
              clear x0 x1 z0
              go_loopw [13] (fun j wq => ∃ jj q : Nat, j = .int .i64 (jj : Int) ∧ 1 ≤ jj ∧ jj ≤ nS ∧ wq = w7.drewN q) (fun j _ => nS - (intOf j).toNat)
              case atStart => exact ⟨1, q0 + nq, rfl, Nat.le_refl _, hpos, by rw [HW.out, World.drewN_drewN]⟩
              case round =>
                obtain ⟨jj, q1, rfl, hj1, hjn, hwq⟩ := hrel
                have HWQ := Lib.hid hwq
                have x1 : wr.cell? ⟨(d7.add (m * 2)).block, (d7.add (m * 2)).off + 1, none⟩ = some (.slice (some dS) nS cs) := by rw [hwq]; exact X1.out
                by_cases hlj : jj < nS
                · obtain ⟨jm, hjm⟩ : ∃ jm, jm + 1 = jj := ⟨jj - 1, by omega⟩
                  obtain ⟨u, hu⟩ : ∃ u, sr.2[jj]? = some u := ⟨_, List.getElem?_eq_getElem (by have := HNS.out; omega)⟩
                  obtain ⟨u', hu'⟩ : ∃ u', sr.2[jm]? = some u' := ⟨_, List.getElem?_eq_getElem (by have := HNS.out; omega)⟩
                  have hris : u'.1 < u.1 := by
                    have h1 := HOK.out.rises sr HMEM.out
                    obtain ⟨b1, b2⟩ := List.getElem?_eq_some_iff.1 hu
                    obtain ⟨b3, b4⟩ := List.getElem?_eq_some_iff.1 hu'
                    have h2 := List.pairwise_iff_getElem.1 h1 jm jj b3 b1 (by omega)
                    rw [b2, b4] at h2
                    exact h2
                  obtain ⟨dx, hdx, -, z1, -⟩ := HRS.out.two hu
                  obtain ⟨dy, hdy, -, z2, -⟩ := HRS.out.two hu'
                  injection hdx with hdx
                  injection hdy with hdy
                  subst hdx
                  subst hdy
                  obtain ⟨ut, hut⟩ : ∃ ut, ut = u.1 := ⟨_, rfl⟩
                  obtain ⟨ut', hut'⟩ : ∃ ut', ut' = u'.1 := ⟨_, rfl⟩
                  rw [← hut] at z1 hris
                  rw [← hut'] at z2 hris
                  replace z1 : wr.cell? (dS.add (jj * 2)) = some (.int .i64 ut) := by rw [hwq]; exact z1
                  replace z2 : wr.cell? (dS.add (jm * 2)) = some (.int .i64 ut') := by rw [hwq]; exact z2
                  have k1 : (jj : Int) < (nS : Int) := by omega
                  have k2 : (0 : Int) ≤ (jj : Int) := by omega
                  have k3 : (jm : Int) < (nS : Int) := by omega
                  have k4 : (0 : Int) ≤ (jm : Int) := by omega
                  have k5 : IntKind.i64.wrap ((jj : Int) - 1) = (jm : Int) := (IntWalk.i64_in _ (by omega)).trans (by omega)
                  have k6 : IntKind.i64.wrap ((jj : Int) + 1) = ((jj + 1 : Nat) : Int) := (IntWalk.i64_in _ (by omega)).trans (by omega)
                  have k7 : decide (ut ≤ ut') = false := by simpa using hris
                  have HJM := Lib.hid hjm
                  clear hu hu' hut hut' hwq hris hjm
                  go_upto_region 24 with fail
                  refine wp_region_quiet_lit (by kernel_rfl) (by kernel_rfl) ?_
                  repeat (go_big_quiet_step (fail))
                  refine wpQuiet_nil ?_
                  intro _ hw'
                  obtain ⟨nq, hw''⟩ := hw'
                  subst hw''
                  go_wp2
                  exact ⟨⟨jj + 1, q1 + nq, rfl, by omega, by omega, by rw [HWQ.out, World.drewN_drewN]⟩, by simp only [intOf]; omega⟩
                · have k1 : ¬ (jj : Int) < (nS : Int) := by omega
                  clear hwq
                  go_wp2
                  exact ⟨⟨m + 1, q1, rfl, by omega, HWQ.out⟩, by simp only [intOf]; omega⟩
          · have j1 : ¬ (m : Int) < (n : Int) := by omega
            have hm2 : m = n := by omega
            clear hw
            go_wp2
            have hH : HdAt wr F6 p (20 * (k + 1)) H6 := by
              rw [HW.out]
              exact (HH7.out.keep (w' := w7.drewN q0) (fun _ _ _ => rfl) (Nat.le_refl _)).mono (by omega)
            have hbw : Below w.heap.size w wr := by rw [HW.out]; exact ⟨HB7.out.1, HB7.out.2, HB7.out.3, HB7.out.4, HB7.out.5⟩
            exact ⟨⟨k + 1, F6, H6, rfl, by omega, by omega, hH, fun j hj => ⟨(HF6.out j hj).1, by rw [HW.out]; have := (HF6.out j hj).2; show j < w7.heap.size; omega⟩, hbw⟩, by simp only [intOf]; omega⟩
      · have i2 : ¬ (k : Int) < 10 := by omega
        have HW := Lib.hid (wakes_any wr (HT.out.below_ HBL.out))
        go_wp2_with fail
        refine HW.out.mono ?_
        rintro e w2 ⟨rfl, hb2⟩
        have HB2 := Lib.hid (HBL.out.trans (hb2.mono hws))
        clear hb2 HW
        go_wp2
        go_ret
        exact ⟨rfl, HB2.out⟩
    · have i1 : ¬ (k : Int) < (N : Int) := by omega
      have HW := Lib.hid (wakes_any wr (HT.out.below_ HBL.out))
      go_wp2_with fail
      refine HW.out.mono ?_
      rintro e w2 ⟨rfl, hb2⟩
      have HB2 := Lib.hid (HBL.out.trans (hb2.mono hws))
      clear hb2 HW
      go_wp2
      go_ret
      exact ⟨rfl, HB2.out⟩
end Go.Proofs.YtbeeejpjnniejaaGreatDoor
