/- symMerge of smp (58), where both rows are longer than one. symMerge of smp (58): two rows in order, side by side, become one. The stable sort of smp (46, 27): blocks of twenty, put in order one by one, then merged two by two. What the merge's iterator does with the samples of one set of labels: the sort by time, of each time the first. -/
import Derived.Test.YtnglejopbpnknaaJ11Merge3
import Derived.Test.YtnglejopbpnknaaJ05InsSmp
namespace Go.Proofs.Ytnglejopbpnknaa
open Go.RowKit
def Sea3SmpR (w0 : World) (g : Nat) (lt : Value × Value → Value × Value → Bool) (L : List (Value × Value)) (p1 s0 r0 : Nat) (i j : Value) (wr : World) : Prop :=
  ∃ ci cj : Nat, i = .int .i64 (ci : Int) ∧ j = .int .i64 (cj : Int) ∧ Srch3 lt (fun c => L.getD c (.nilFunc, .nilFunc)) p1 s0 r0 ci cj ∧ RowAt wr g 51 L ∧ w0.grownBy wr (some g)
set_option maxRecDepth 100000 in
set_option maxHeartbeats 12800000 in
theorem sym3_smp (w0 w : World) (g n c : Nat) (S : Value × Value → Prop) (lt : Value × Value → Value × Value → Bool) (hr : Rank lt) (hIs : ∀ p, S p → IsSmp p) (hC : CmpSmp w0 g S lt) (N : Nat) (hIH : SymSmpLaw w0 g n c S lt N) (x u v z : List (Value × Value)) (a m b : Int) (hN : u.length + v.length = N) (hu2 : 2 ≤ u.length) (hv2 : 2 ≤ v.length) (hw : w0.grownBy w (some g))
    (h : RowAt w g 51 (x ++ u ++ v ++ z)) (hS : ∀ p ∈ x ++ u ++ v ++ z, S p) (hn : n = (x ++ u ++ v ++ z).length) (hl : n ≤ 100000) (hu : Asc lt u) (hv : Asc lt v) (ha : a = x.length) (hm : m = ((x.length + u.length : Nat) : Int)) (hb : b = ((x.length + u.length + v.length : Nat) : Int)) :
    Calls Try.prog 58 #[.slice (some ⟨g, 0, none⟩) n c, .int .i64 a, .int .i64 m, .int .i64 b, .func (.func 28) #[] #[]] w (SymSmpPost w0 g lt x u v z) := by
  obtain ⟨na, hna⟩ : ∃ n, n = x.length := ⟨_, rfl⟩
  obtain ⟨nu, hnu⟩ : ∃ n, n = u.length := ⟨_, rfl⟩
  obtain ⟨nv, hnv⟩ : ∃ n, n = v.length := ⟨_, rfl⟩
  obtain ⟨nm, hnm⟩ : ∃ k, k = na + nu := ⟨_, rfl⟩
  obtain ⟨nb, hnb⟩ : ∃ k, k = nm + nv := ⟨_, rfl⟩
  rw [← hna] at ha
  rw [← hna, ← hnu, ← hnm] at hm
  rw [← hna, ← hnu, ← hnm, ← hnv, ← hnb] at hb
  subst ha hm hb
  obtain ⟨L, hL⟩ : ∃ L, L = x ++ u ++ v ++ z := ⟨_, rfl⟩
  have hlies : Lies L x u v z na nm nb := ⟨hL, hna, by rw [hnm, hnu], by rw [hnb, hnv]⟩
  have hbn : nb ≤ n := by rw [hn, ← hL]; exact hlies.len
  rw [← hL] at h hn hS
  have hd1 : IntKind.i64.wrap ((nm : Int) - (na : Int)) = (nu : Int) := (IntWalk.i64_in _ (by omega)).trans (by omega)
  have hd2 : IntKind.i64.wrap ((nb : Int) - (nm : Int)) = (nv : Int) := (IntWalk.i64_in _ (by omega)).trans (by omega)
  have hd3 : ((nu : Int) == 1) = false := beq_eq_false_iff_ne.2 (by omega)
  have hd4 : ((nv : Int) == 1) = false := beq_eq_false_iff_ne.2 (by omega)
  obtain ⟨mid, hmid⟩ : ∃ mid, mid = (na + nb) / 2 := ⟨_, rfl⟩
  obtain ⟨nn, hnn⟩ : ∃ nn, nn = mid + nm := ⟨_, rfl⟩
  obtain ⟨pp, hpp⟩ : ∃ pp, pp = mid + nm - 1 := ⟨_, rfl⟩
  have s1 : IntKind.i64.wrap ((na : Int) + (nb : Int)) = (na : Int) + (nb : Int) := IntWalk.i64_in _ (by omega)
  have s3 : ((na : Int) + (nb : Int)) / 2 = (mid : Int) := by omega
  have s4 : IntKind.i64.wrap ((mid : Int) + (nm : Int)) = (nn : Int) := (IntWalk.i64_in _ (by omega)).trans (by omega)
  have s6 : IntKind.i64.wrap ((nn : Int) - 1) = (pp : Int) := (IntWalk.i64_in _ (by omega)).trans (by omega)
  obtain ⟨s0, hs0⟩ : ∃ s0, s0 = if mid < nm then mid + nm - nb else na := ⟨_, rfl⟩
  obtain ⟨r0, hr0⟩ : ∃ r0, r0 = if mid < nm then mid else nm := ⟨_, rfl⟩
  have hcut : Cut na nm nb mid s0 r0 := ⟨by omega, by omega, hmid, hs0, hr0⟩
  obtain ⟨b1, b2, b3, b4, b5, b6⟩ := hcut.bounds
  have s5 : mid < nm → IntKind.i64.wrap ((nn : Int) - (nb : Int)) = (s0 : Int) := fun h0 => by
    rw [if_pos h0] at hs0
    exact (IntWalk.i64_in _ (by omega)).trans (by omega)
  have hs0n : ¬ mid < nm → s0 = na := fun h0 => by rw [if_neg h0] at hs0; exact hs0
  have hr0p : mid < nm → r0 = mid := fun h0 => by rw [if_pos h0] at hr0; exact hr0
  have hr0n : ¬ mid < nm → r0 = nm := fun h0 => by rw [if_neg h0] at hr0; exact hr0
  have w1 : (mid : Int) + (nm : Int) = (nn : Int) := by omega
  have w2 : (nn : Int) - 1 = (pp : Int) := by omega
  have v1 : na ≤ 100000 := by omega
  have v2 : nb ≤ 100000 := by omega
  have v3 : nm ≤ 100000 := by omega
  have v4 : mid ≤ 100000 := by omega
  have v5 : nn ≤ 200000 := by omega
  have hI : Sea3SmpR w0 g lt L pp s0 r0 (.int .i64 (s0 : Int)) (.int .i64 (r0 : Int)) w := ⟨s0, r0, rfl, rfl, Srch3.start b2, h, hw⟩
  have HI := Lib.hid hI
  have HS := Lib.hid hS
  have HN := Lib.hid hn
  have HNN := Lib.hid hN
  have HLI := Lib.hid hlies
  have HCUT := Lib.hid hcut
  have HU := Lib.hid hu
  have HV := Lib.hid hv
  have HRK := Lib.hid hr
  have HIS := Lib.hid hIs
  have HCM := Lib.hid hC
  have HIH := Lib.hid hIH
  have HB6 := Lib.hid b6
  have HPP := Lib.hid hpp
  have HNNE := Lib.hid hnn
  have HAB := Lib.hid (show na ≤ s0 ∧ s0 ≤ r0 ∧ r0 ≤ nm ∧ r0 ≤ mid ∧ nm = na + nu ∧ nb = nm + nv ∧ nb ≤ n ∧ n ≤ 100000 ∧ mid < nb from ⟨b1, b2, b3, b4, hnm, hnb, hbn, hl, by omega⟩)
  have HNA := Lib.hid hna
  have HNU := Lib.hid hnu
  have HNV := Lib.hid hnv
  clear h hS hn hN hlies hcut hu hv hr hIs hC hIH b6 hpp hnn hna hnu hnv hI hw hs0 hr0 b1 b2 b3 b4 b5 hnm hnb hmid hL hu2 hv2 hbn
  go_enter Try.func58, Try.ntmps58
  go_upto_if 140 with fail
  go_cut [20, 21] from 140 to 146 (fun i j wx => wx = w ∧ i = .int .i64 (s0 : Int) ∧ j = .int .i64 (r0 : Int))
  case first =>
    by_cases hmm : mid < nm
    · have s5' := s5 hmm
      have k9 := hr0p hmm
      have hmm2 : decide ((mid : Int) < (nm : Int)) = true := decide_eq_true (by omega)
      have hmm3 : (mid : Int) < (nm : Int) := by omega
      have K9 := Lib.hid k9
      clear s5 hs0n hr0p hr0n hmm k9
      go_wp2_with fail
      go_meet
      exact ⟨rfl, rfl, by rw [K9.out]⟩
    · have hmm2 : decide ((mid : Int) < (nm : Int)) = false := decide_eq_false (by omega)
      have hmm3 : ¬ (mid : Int) < (nm : Int) := by omega
      have K9 := Lib.hid (hs0n hmm)
      have K8 := Lib.hid (hr0n hmm)
      clear s5 hs0n hr0p hr0n hmm
      go_wp2_with fail
      go_meet
      exact ⟨rfl, by rw [K9.out], by rw [K8.out]⟩
  case rest =>
    obtain ⟨rfl, rfl, rfl⟩ := hcut
    clear s5 hs0n hr0p hr0n
    go_upto_region 33 with fail
    clear hd1 hd2 hd3 hd4 s1 s3 s6 w1 w2
    go_loopw [20, 21] (fun i j wr => Sea3SmpR w0 g lt L pp s0 r0 i j wr) (fun i j _ => (intOf j).toNat - (intOf i).toNat)
    case atStart => exact HI.out
    case round =>
      obtain ⟨ci, cj, rfl, rfl, hsr, hrow, hg⟩ := hrel
      have HR := Lib.hid hrow
      have HG := Lib.hid hg
      have HSR := Lib.hid hsr
      have l0 := hsr.lo0
      have l1 := hsr.hi0
      obtain ⟨t1, t2, t3, t4, t5, t6, t7, t8, t9⟩ := HAB.out
      have hppv := HPP.out
      by_cases hlt : ci < cj
      · obtain ⟨hh, hhh⟩ : ∃ hh, hh = (ci + cj) / 2 := ⟨_, rfl⟩
        have c1 : ci ≤ hh := by omega
        have c2 : hh < cj := by omega
        obtain ⟨k1, k2, k3⟩ := HB6.out hh (by omega) (by omega)
        obtain ⟨ph, hph⟩ : ∃ ph, ph = mid + nm - 1 - hh := ⟨_, rfl⟩
        rw [← hph] at k2 k3
        have s1 : IntKind.i64.wrap ((ci : Int) + (cj : Int)) = (ci : Int) + (cj : Int) := IntWalk.i64_in _ (by omega)
        have s3 : ((ci : Int) + (cj : Int)) / 2 = (hh : Int) := by omega
        have s7 : IntKind.i64.wrap ((pp : Int) - (hh : Int)) = (ph : Int) := (IntWalk.i64_in _ (by omega)).trans (by omega)
        have s9 : pp ≤ 200000 := by omega
        have s10 : hh < pp + 1 := by omega
        have s4 : IntKind.i64.wrap ((hh : Int) + 1) = (hh : Int) + 1 := IntWalk.i64_in _ (by omega)
        have hLl : n = L.length := HN.out
        obtain ⟨e, he⟩ : ∃ e, L[ph]? = some e := ⟨_, List.getElem?_eq_getElem (by omega)⟩
        obtain ⟨q, hq⟩ : ∃ q, L[hh]? = some q := ⟨_, List.getElem?_eq_getElem (by omega)⟩
        have hSE : S e := HS.out e (List.mem_of_getElem? he)
        have hSD : S q := HS.out q (List.mem_of_getElem? hq)
        have ge : L.getD (mid + nm - 1 - hh) (.nilFunc, .nilFunc) = e := by rw [← hph, List.getD_eq_getElem?_getD, he]; rfl
        have gq : L.getD hh (.nilFunc, .nilFunc) = q := by rw [List.getD_eq_getElem?_getD, hq]; rfl
        have hup := fun hl => (hppv ▸ hsr).up HRK.out HLI.out HU.out HV.out HCUT.out c1 c2 hl
        have hdn := fun hl => (hppv ▸ hsr).down HRK.out HLI.out HU.out HV.out HCUT.out c1 c2 hl
        rw [ge, gq] at hup hdn
        rw [← hppv] at hup hdn
        obtain ⟨q1, q2⟩ := q
        obtain ⟨f1, f2⟩ := e
        obtain ⟨⟨A3, q3⟩, A4, q4⟩ := HIS.out _ hSD
        dsimp only at q3 q4
        subst q3 q4
        obtain ⟨⟨A1, q1⟩, A2, q2⟩ := HIS.out _ hSE
        dsimp only at q1 q2
        subst q1 q2
        have x1 := hrow.fst he
        have x2 := hrow.snd he
        have y1 := hrow.fst hq
        have y2 := hrow.snd hq
        dsimp only at x1 x2 y1 y2
        have d1 : (ph : Int) < (n : Int) := by omega
        have d5 : (0 : Int) ≤ (pp : Int) - (hh : Int) := by omega
        have d6 : (pp : Int) - (hh : Int) < (n : Int) := by omega
        have d7 : ((pp : Int) - (hh : Int)).toNat = ph := by omega
        have d2 : (hh : Int) < (n : Int) := by omega
        have d3 : (0 : Int) ≤ (ph : Int) := by omega
        have d4 : (0 : Int) ≤ (hh : Int) := by omega
        have HHH := Lib.hid hhh
        have HLH := Lib.hid hq
        have HLP := Lib.hid he
        have HSE := Lib.hid hSE
        have HSD := Lib.hid hSD
        have HUP := Lib.hid hup
        have HDN := Lib.hid hdn
        have hlti : (ci : Int) < (cj : Int) := by omega
        clear hrow hg hsr hhh hq he hSE hSD hup hdn ge gq hph hppv t1 t2 t3 t4 t5 t6 t7 t8 t9 hLl
        cases hlt2 : lt (.int .i64 A1, .float .f64 A2) (.int .i64 A3, .float .f64 A4) with
        | false =>
          have HLT := Lib.hid hlt2
          clear hlt2
          have HC := Lib.hid (show ∀ z, Calls Try.prog 28 #[.agg #[.int .i64 A1, .float .f64 A2], .agg #[.int .i64 A3, .float .f64 A4]] (wr.drewN z) fun e W' => ∃ q : Int, e = .returned (.int .i64 q) ∧ 0 ≤ q ∧ Below wr.heap.size wr W' from fun z => (HCM.out (wr.drewN z) (only_drewN HG.out z) (.int .i64 A1, .float .f64 A2) (.int .i64 A3, .float .f64 A4) HSE.out HSD.out).mono fun e W' ⟨q, h1, h2, h3⟩ => ⟨q, h1, by rw [HLT.out] at h2; simp at h2; omega, (below_drewN (Below.refl _ _) z).trans h3⟩)
          go_upto_region 35 with fail
          go_region_held3 (fun w' => w'.cell? ⟨g, ph * 2, none⟩ = some (.int .i64 A1) ∧ w'.cell? ⟨g, ph * 2 + 1, none⟩ = some (.float .f64 A2) ∧ w'.cell? ⟨g, hh * 2, none⟩ = some (.int .i64 A3) ∧ w'.cell? ⟨g, hh * 2 + 1, none⟩ = some (.float .f64 A4))
            (first | exact ⟨x1, x2, y1, y2⟩ | exact ⟨u1, u2, u3, u4⟩)
            (first | (go_at_call 28; refine (HC.out 1).mono ?_; rintro e w4 ⟨q, rfl, hq, hb4⟩; have hq2 : decide (q < 0) = false := by { first | exact decide_eq_false (by omega) | exact decide_eq_true hq }; have hq3 : decide (0 ≤ q) = true := by { first | exact decide_eq_false (by omega) | exact decide_eq_true hq }; have hr4 := HR.out.below hb4; have u1 := hr4.fst HLP.out; have u2 := hr4.snd HLP.out; have u3 := hr4.fst HLH.out; have u4 := hr4.snd HLH.out; dsimp only at u1 u2 u3 u4; have HR4 := Lib.hid hr4; have HB4 := Lib.hid hb4; clear hr4 hb4))
          clear x1 x2 y1 y2 u1 u2 u3 u4
          go_wp2
          exact ⟨⟨hh + 1, cj, rfl, rfl, HUP.out HLT.out, HR4.out, only_trans HG.out (only_of_below HB4.out _)⟩, by simp [intOf]; omega⟩
        | true =>
          have HLT := Lib.hid hlt2
          clear hlt2
          have HC := Lib.hid (show ∀ z, Calls Try.prog 28 #[.agg #[.int .i64 A1, .float .f64 A2], .agg #[.int .i64 A3, .float .f64 A4]] (wr.drewN z) fun e W' => ∃ q : Int, e = .returned (.int .i64 q) ∧ q < 0 ∧ Below wr.heap.size wr W' from fun z => (HCM.out (wr.drewN z) (only_drewN HG.out z) (.int .i64 A1, .float .f64 A2) (.int .i64 A3, .float .f64 A4) HSE.out HSD.out).mono fun e W' ⟨q, h1, h2, h3⟩ => ⟨q, h1, by rw [HLT.out] at h2; simp at h2; omega, (below_drewN (Below.refl _ _) z).trans h3⟩)
          go_upto_region 35 with fail
          go_region_held3 (fun w' => w'.cell? ⟨g, ph * 2, none⟩ = some (.int .i64 A1) ∧ w'.cell? ⟨g, ph * 2 + 1, none⟩ = some (.float .f64 A2) ∧ w'.cell? ⟨g, hh * 2, none⟩ = some (.int .i64 A3) ∧ w'.cell? ⟨g, hh * 2 + 1, none⟩ = some (.float .f64 A4))
            (first | exact ⟨x1, x2, y1, y2⟩ | exact ⟨u1, u2, u3, u4⟩)
            (first | (go_at_call 28; refine (HC.out 1).mono ?_; rintro e w4 ⟨q, rfl, hq, hb4⟩; have hq2 : decide (q < 0) = true := by { first | exact decide_eq_false (by omega) | exact decide_eq_true hq }; have hq3 : decide (0 ≤ q) = false := by { first | exact decide_eq_false (by omega) | exact decide_eq_true hq }; have hr4 := HR.out.below hb4; have u1 := hr4.fst HLP.out; have u2 := hr4.snd HLP.out; have u3 := hr4.fst HLH.out; have u4 := hr4.snd HLH.out; dsimp only at u1 u2 u3 u4; have HR4 := Lib.hid hr4; have HB4 := Lib.hid hb4; clear hr4 hb4))
          clear x1 x2 y1 y2 u1 u2 u3 u4
          go_wp2
          exact ⟨⟨ci, hh, rfl, rfl, HDN.out HLT.out, HR4.out, only_trans HG.out (only_of_below HB4.out _)⟩, by simp [intOf]; omega⟩
      · have hij : cj = ci := by have := hsr.ij; omega
        subst hij
        obtain ⟨en, hen⟩ : ∃ en, en = mid + nm - cj := ⟨_, rfl⟩
        obtain ⟨st, hst⟩ : ∃ st, st = cj := ⟨_, rfl⟩
        obtain ⟨u1, u2, v1, v2, hp⟩ := (hppv ▸ hsr).parts HRK.out HLI.out HU.out HV.out HCUT.out
        rw [← hen] at hp
        subst hst
        have HP := Lib.hid hp
        have hLe := HLI.out.eq
        have s5 : IntKind.i64.wrap ((nn : Int) - (st : Int)) = (en : Int) := (IntWalk.i64_in _ (by have := HNNE.out; omega)).trans (by have := HNNE.out; omega)
        have HR1 := Lib.hid (show RowAt wr g 51 (x ++ u ++ v ++ z) from hLe ▸ hrow)
        have HS1 := Lib.hid (show ∀ p ∈ x ++ u ++ v ++ z, S p from hLe ▸ HS.out)
        have HN1 := Lib.hid (show n = (x ++ u ++ v ++ z).length from hLe ▸ HN.out)
        have HL1 := Lib.hid t8
        have HN2 := Lib.hid (show nb - na = N by have := HNN.out; have := HNU.out; have := HNV.out; omega)
        have HMB := Lib.hid t9
        have HMA := Lib.hid (show na < mid by have h1 := HCUT.out.md; have h2 := HCUT.out.am; have h3 := HCUT.out.mb; omega)
        clear hrow hg hsr l0 l1 t1 t2 t3 t4 t5 t6 t7 t8 t9 hppv hlt hen hp hLe
        obtain ⟨w1, hw1⟩ : ∃ w1, w1 = wr := ⟨_, rfl⟩
        rw [← hw1] at HR1 HG
        have HW1 := Lib.hid hw1
        clear hw1
        go_upto_region 39 with fail
        go_cut [185] from 178 to 185 (fun s wx => wx = wr ∧ ∃ B : Bool, s = .bool B ∧ (B = true ↔ st < nm ∧ nm < en))
        case first =>
          by_cases g1 : st < nm
          · have i1 : (st : Int) < (nm : Int) := by omega
            by_cases g2 : nm < en
            · have i2 : (nm : Int) < (en : Int) := by omega
              go_wp2_with fail
              go_meet
              exact ⟨rfl, _, rfl, by simp [g1, g2]⟩
            · have i2 : ¬ (nm : Int) < (en : Int) := by omega
              go_wp2_with fail
              go_meet
              exact ⟨rfl, _, rfl, by simp [g1, g2]⟩
          · have i1 : ¬ (st : Int) < (nm : Int) := by omega
            go_wp2_with fail
            go_meet
            exact ⟨rfl, _, rfl, by simp [g1]⟩
        case rest =>
          obtain ⟨rfl, B1, rfl, hB1⟩ := hcut
          have HB1 := Lib.hid hB1
          clear hB1
          go_upto_if 185 with fail
          go_cut [] from 185 to 191 (fun wx => Aft1 w0 g 51 x u1 v1 u2 v2 z wx)
          case first =>
            cases B1 with
            | true =>
              have HC1 := Lib.hid (step1_smp (c := c) HIS.out HP.out HS1.out HN1.out HL1.out HR1.out HG.out (HB1.out.1 rfl))
              rw [HW1.out] at HC1
              go_wp2_with (go_at_call 73; refine HC1.out.mono ?_; rintro e w2 ⟨rfl, hA⟩; have HA := Lib.hid hA; clear hA)
              go_meet
              exact HA.out
            | false =>
              go_wp2_with fail
              go_meet
              rw [← HW1.out]
              have := HR1.out
              rw [HP.out.skip1 (fun h => absurd (HB1.out.2 h) (by decide))] at this
              exact ⟨this, HG.out⟩
          case rest =>
            have HA := Lib.hid hcut
            obtain ⟨w3, hw3⟩ : ∃ w3, w3 = wc := ⟨_, rfl⟩
            rw [← hw3] at HA
            have HW3 := Lib.hid hw3
            clear hcut hw3
            go_upto_region 41 with fail
            go_cut [199] from 192 to 199 (fun s wx => wx = wc ∧ ∃ B : Bool, s = .bool B ∧ (B = true ↔ na < st ∧ st < mid))
            case first =>
              by_cases g1 : na < st
              · have i1 : (na : Int) < (st : Int) := by omega
                by_cases g2 : st < mid
                · have i2 : (st : Int) < (mid : Int) := by omega
                  go_wp2_with fail
                  go_meet
                  exact ⟨rfl, _, rfl, by simp [g1, g2]⟩
                · have i2 : ¬ (st : Int) < (mid : Int) := by omega
                  go_wp2_with fail
                  go_meet
                  exact ⟨rfl, _, rfl, by simp [g1, g2]⟩
              · have i1 : ¬ (na : Int) < (st : Int) := by omega
                go_wp2_with fail
                go_meet
                exact ⟨rfl, _, rfl, by simp [g1]⟩
            case rest =>
              obtain ⟨rfl, B2, rfl, hB2⟩ := hcut
              have HB2 := Lib.hid hB2
              clear hB2
              go_upto_if 199 with fail
              go_cut [] from 199 to 205 (fun wx => Aft2 w0 g 51 lt x u1 v1 u2 v2 z wx)
              case first =>
                cases B2 with
                | true =>
                  have HC1 := Lib.hid (step2_smp HRK.out HIH.out HP.out HN2.out HMB.out HU.out HV.out HS1.out HN1.out HA.out (HB2.out.1 rfl))
                  rw [HW3.out] at HC1
                  go_wp2_with (go_at_call 58; refine HC1.out.mono ?_; rintro e w4 ⟨rfl, hA4⟩; have HA4 := Lib.hid hA4; clear hA4)
                  go_meet
                  exact HA4.out
                | false =>
                  go_wp2_with fail
                  go_meet
                  rw [← HW3.out]
                  exact skip2_smp HP.out HU.out HV.out HA.out (fun h => absurd (HB2.out.2 h) (by decide))
              case rest =>
                have HA5 := Lib.hid hcut
                obtain ⟨w5, hw5⟩ : ∃ w5, w5 = wc := ⟨_, rfl⟩
                rw [← hw5] at HA5
                have HW5 := Lib.hid hw5
                clear hcut hw5
                go_upto_region 43 with fail
                go_cut [213] from 206 to 213 (fun s wx => wx = wc ∧ ∃ B : Bool, s = .bool B ∧ (B = true ↔ mid < en ∧ en < nb))
                case first =>
                  by_cases g1 : mid < en
                  · have i1 : (mid : Int) < (en : Int) := by omega
                    by_cases g2 : en < nb
                    · have i2 : (en : Int) < (nb : Int) := by omega
                      go_wp2_with fail
                      go_meet
                      exact ⟨rfl, _, rfl, by simp [g1, g2]⟩
                    · have i2 : ¬ (en : Int) < (nb : Int) := by omega
                      go_wp2_with fail
                      go_meet
                      exact ⟨rfl, _, rfl, by simp [g1, g2]⟩
                  · have i1 : ¬ (mid : Int) < (en : Int) := by omega
                    go_wp2_with fail
                    go_meet
                    exact ⟨rfl, _, rfl, by simp [g1]⟩
                case rest =>
                  obtain ⟨rfl, B3, rfl, hB3⟩ := hcut
                  have HB3 := Lib.hid hB3
                  clear hB3
                  go_upto_if 213 with fail
                  cases B3 with
                  | true =>
                    have HC1 := Lib.hid (step3_smp HRK.out HIH.out HP.out HN2.out HMA.out HU.out HV.out HS1.out HN1.out HA5.out (HB3.out.1 rfl))
                    rw [HW5.out] at HC1
                    go_wp2_with (go_at_call 58; refine HC1.out.mono ?_; rintro e w6 ⟨rfl, hA6⟩; have HA6 := Lib.hid hA6; clear hA6)
                    go_end0
                    exact ⟨rfl, HA6.out⟩
                  | false =>
                    go_wp2_with fail
                    go_end0
                    exact ⟨rfl, HW5.out ▸ skip3_smp HRK.out HP.out HU.out HV.out HA5.out (fun h => absurd (HB3.out.2 h) (by decide))⟩
end Go.Proofs.Ytnglejopbpnknaa
namespace Go.Proofs.Ytnglejopbpnknaa
open Go.RowKit
theorem sym_smp (w0 : World) (g n c : Nat) (S : Value × Value → Prop) (lt : Value × Value → Value × Value → Bool) (hr : Rank lt) (hIs : ∀ p, S p → IsSmp p) (hC : CmpSmp w0 g S lt) (hl : n ≤ 100000) (N : Nat) : SymSmpLaw w0 g n c S lt N := by
  induction N with
  | zero => intro w x u v z a m b h1; omega
  | succ N ih =>
    intro w x u v z a m b h1 h2 h3 hw h hS hn hu hv ha hm hb
    by_cases e1 : u.length = 1
    · obtain ⟨e, rfl⟩ := List.length_eq_one_iff.1 e1
      have e2 : x ++ [e] ++ v ++ z = x ++ e :: (v ++ z) := by simp
      rw [e2] at h hS hn
      refine (sym1_smp w0 w g n c S lt hr hIs hC x v z e a m b hw h hS hn hl hv ha hm hb).mono ?_
      rintro e' w' ⟨rfl, s', k1, k2, k3, k4, k5⟩
      exact ⟨rfl, s', k1, k2, by rw [k3, e1]; omega, k4, k5⟩
    · by_cases e2 : v.length = 1
      · obtain ⟨e, rfl⟩ := List.length_eq_one_iff.1 e2
        have e3 : x ++ u ++ [e] ++ z = x ++ u ++ e :: z := by simp
        rw [e3] at h hS hn
        refine (sym2_smp w0 w g n c S lt hr hIs hC x u z e a m b hw h hS hn hl hu e1 ha hm hb).mono ?_
        rintro e' w' ⟨rfl, s', k1, k2, k3, k4, k5⟩
        exact ⟨rfl, s', k1, k2, by rw [k3, e2], k4, k5⟩
      · by_cases e3 : u.length + v.length = N
        · exact sym3_smp w0 w g n c S lt hr hIs hC N ih x u v z a m b e3 (by omega) (by omega) hw h hS hn hl hu hv ha hm hb
        · exact ih w x u v z a m b (by omega) h2 h3 hw h hS hn hu hv ha hm hb
end Go.Proofs.Ytnglejopbpnknaa
namespace Go.Proofs.Ytnglejopbpnknaa
open Go.RowKit
def S1Smp (w0 : World) (g : Nat) (lt : Value × Value → Value × Value → Bool) (L0 : List (Value × Value)) (n j : Nat) (W : World) : Prop :=
  ∃ L, L.length = n ∧ Alike lt L0 L ∧ (∀ k, k < j → Asc lt (bk L (k * 20) 20)) ∧ RowAt W g 51 L ∧ w0.grownBy W (some g)
def S2Smp (w0 : World) (g : Nat) (lt : Value × Value → Value × Value → Bool) (L0 : List (Value × Value)) (n B : Nat) (W : World) : Prop :=
  ∃ L, L.length = n ∧ Alike lt L0 L ∧ (∀ k, Asc lt (bk L (k * B) B)) ∧ RowAt W g 51 L ∧ w0.grownBy W (some g)
def S3Smp (w0 : World) (g : Nat) (lt : Value × Value → Value × Value → Bool) (L0 : List (Value × Value)) (n B j : Nat) (W : World) : Prop :=
  ∃ L, L.length = n ∧ Alike lt L0 L ∧ (∀ k, k < j → Asc lt (bk L (k * (2 * B)) (2 * B))) ∧ (∀ k, 2 * j ≤ k → Asc lt (bk L (k * B) B)) ∧ RowAt W g 51 L ∧ w0.grownBy W (some g)
section
variable {w0 : World} {g n c : Nat} {S : Value × Value → Prop} {lt : Value × Value → Value × Value → Bool} {L0 : List (Value × Value)}
theorem c1_smp (hr : Rank lt) (hIs : ∀ p, S p → IsSmp p) (hC : CmpSmp w0 g S lt) (hS : ∀ p ∈ L0, S p) (hl : n ≤ 100000) {j a b : Nat} (ha : a = j * 20) (hb : b = a + 20) (hbn : b ≤ n) {W : World} (h : S1Smp w0 g lt L0 n j W) :
    Calls Try.prog 57 #[.slice (some ⟨g, 0, none⟩) n c, .int .i64 (a : Int), .int .i64 (b : Int), .func (.func 28) #[] #[]] W fun e W' => e = .returned (.tuple #[]) ∧ S1Smp w0 g lt L0 n (j + 1) W' := by
  obtain ⟨L, h1, h2, h3, h4, h5⟩ := h
  have hSL : ∀ p ∈ L, S p := fun p hp => hS p (h2.symm.mem hr hp)
  have hc := cut_three L a 20
  have hxl : (L.take a).length = a := by rw [List.length_take]; omega
  have hsl : (bk L a 20).length = 20 := bk_len (by omega)
  obtain ⟨x, hx⟩ : ∃ x, x = L.take a := ⟨_, rfl⟩
  obtain ⟨s, hs⟩ : ∃ s, s = bk L a 20 := ⟨_, rfl⟩
  obtain ⟨z, hz⟩ : ∃ z, z = L.drop (a + 20) := ⟨_, rfl⟩
  rw [← hx, ← hs, ← hz] at hc
  rw [← hx] at hxl
  rw [← hs] at hsl
  subst hc
  refine (ins_smp w0 W g n c S lt hr hIs hC x s z _ _ h5 h4 hSL h1.symm hl (by omega) (by rw [List.length_append]; omega)).mono ?_
  rintro e W' ⟨rfl, s', k1, k2, k3, k4, k5⟩
  refine ⟨rfl, _, ?_, alike_mid h2 k2, blk_step (by omega) k3 hsl h3 k1, k4, k5⟩
  rw [← h1]; simp only [List.length_append]; omega
theorem c1e_smp (hr : Rank lt) (hIs : ∀ p, S p → IsSmp p) (hC : CmpSmp w0 g S lt) (hS : ∀ p ∈ L0, S p) (hl : n ≤ 100000) {j a : Nat} (ha : a = j * 20) (han : a ≤ n) (hbn : n < a + 20) {W : World} (h : S1Smp w0 g lt L0 n j W) :
    Calls Try.prog 57 #[.slice (some ⟨g, 0, none⟩) n c, .int .i64 (a : Int), .int .i64 (n : Int), .func (.func 28) #[] #[]] W fun e W' => e = .returned (.tuple #[]) ∧ S2Smp w0 g lt L0 n 20 W' := by
  obtain ⟨L, h1, h2, h3, h4, h5⟩ := h
  have hSL : ∀ p ∈ L, S p := fun p hp => hS p (h2.symm.mem hr hp)
  have hc := cut_three L a 20
  have hxl : (L.take a).length = a := by rw [List.length_take]; omega
  have hz : L.drop (a + 20) = [] := List.drop_of_length_le (by omega)
  obtain ⟨x, hx⟩ : ∃ x, x = L.take a := ⟨_, rfl⟩
  obtain ⟨s, hs⟩ : ∃ s, s = bk L a 20 := ⟨_, rfl⟩
  rw [← hx, ← hs, hz] at hc
  rw [← hx] at hxl
  subst hc
  have hln := h1
  simp only [List.length_append, List.length_nil] at hln
  refine (ins_smp w0 W g n c S lt hr hIs hC x s [] _ _ h5 h4 hSL h1.symm hl (by omega) (by rw [List.length_append]; omega)).mono ?_
  rintro e W' ⟨rfl, s', k1, k2, k3, k4, k5⟩
  refine ⟨rfl, _, ?_, alike_mid h2 k2, blk_all (j := j) (fun k hk => ?_) ?_ ?_, k4, k5⟩
  · rw [← h1]; simp only [List.length_append]; omega
  · have e1 := block_le (B := 20) hk
    have := h3 k hk
    rw [List.append_assoc, bk_left (by omega)] at this
    rw [List.append_assoc, bk_left (by omega)]
    exact this
  · rw [← ha, List.append_nil, List.drop_append, List.drop_of_length_le (by omega), List.nil_append, show a - x.length = 0 by omega, List.drop_zero]
    exact k1
  · simp only [List.length_append, List.length_nil]; omega
theorem s23_smp {B : Nat} {W : World} (h : S2Smp w0 g lt L0 n B W) : S3Smp w0 g lt L0 n B 0 W := by
  obtain ⟨L, h1, h2, h3, h4, h5⟩ := h
  exact ⟨L, h1, h2, fun k hk => absurd hk (Nat.not_lt_zero _), fun k _ => h3 k, h4, h5⟩
theorem c3_smp (hr : Rank lt) (hIs : ∀ p, S p → IsSmp p) (hC : CmpSmp w0 g S lt) (hS : ∀ p ∈ L0, S p) (hl : n ≤ 100000) {B j a m b : Nat} (hB : 0 < B) (ha : a = j * (2 * B)) (hm : m = a + B) (hb : b = a + 2 * B) (hbn : b ≤ n) {W : World} (h : S3Smp w0 g lt L0 n B j W) :
    Calls Try.prog 58 #[.slice (some ⟨g, 0, none⟩) n c, .int .i64 (a : Int), .int .i64 (m : Int), .int .i64 (b : Int), .func (.func 28) #[] #[]] W fun e W' => e = .returned (.tuple #[]) ∧ S3Smp w0 g lt L0 n B (j + 1) W' := by
  obtain ⟨L, h1, h2, h3, h3b, h4, h5⟩ := h
  have hSL : ∀ p ∈ L, S p := fun p hp => hS p (h2.symm.mem hr hp)
  have ha2 : a = 2 * j * B := by rw [ha]; ac_rfl
  have hm2 : a + B = (2 * j + 1) * B := by rw [Nat.succ_mul, ← ha2]
  have hb2 : b = (2 * j + 2) * B := by rw [show 2 * j + 2 = (2 * j + 1) + 1 from rfl, Nat.succ_mul, ← hm2]; omega
  have hu0 := h3b (2 * j) (Nat.le_refl _)
  have hv0 := h3b (2 * j + 1) (by omega)
  rw [← ha2] at hu0
  rw [← hm2] at hv0
  have hc := cut_four L a B
  have hxl : (L.take a).length = a := by rw [List.length_take]; omega
  have hul : (bk L a B).length = B := bk_len (by omega)
  have hvl : (bk L (a + B) B).length = B := bk_len (by omega)
  obtain ⟨x, hx⟩ : ∃ x, x = L.take a := ⟨_, rfl⟩
  obtain ⟨u, hu⟩ : ∃ s, s = bk L a B := ⟨_, rfl⟩
  obtain ⟨v, hv⟩ : ∃ s, s = bk L (a + B) B := ⟨_, rfl⟩
  obtain ⟨z, hz⟩ : ∃ z, z = L.drop (a + B + B) := ⟨_, rfl⟩
  rw [← hx, ← hu, ← hv, ← hz] at hc
  rw [← hx] at hxl
  rw [← hu] at hul hu0
  rw [← hv] at hvl hv0
  subst hc
  refine (sym_smp w0 g n c S lt hr hIs hC hl (u.length + v.length + 1) W x u v z _ _ _ (by omega) (by omega) (by omega) h5 h4 hSL h1.symm hu0 hv0 (by omega) (by omega) (by omega)).mono ?_
  rintro e W' ⟨rfl, s', k1, k2, k3, k4, k5⟩
  have k6 : s'.length = (u ++ v).length := by rw [k3, List.length_append]
  have e1 : x ++ u ++ v ++ z = x ++ (u ++ v) ++ z := by simp
  rw [e1] at h1 h2 h3 h3b
  refine ⟨rfl, _, ?_, alike_mid h2 k2, blk_step (by omega) k6 (by rw [List.length_append]; omega) h3 k1, fun k hk => blk_rest (j := 2 * j) k6 h3b (by omega) ?_, k4, k5⟩
  · rw [← h1]; simp only [List.length_append]; omega
  · have := Nat.mul_le_mul_right B (show 2 * j + 2 ≤ k by omega)
    simp only [List.length_append]
    omega
theorem c3e_smp (hr : Rank lt) (hIs : ∀ p, S p → IsSmp p) (hC : CmpSmp w0 g S lt) (hS : ∀ p ∈ L0, S p) (hl : n ≤ 100000) {B j a m : Nat} (hB : 0 < B) (ha : a = j * (2 * B)) (hm : m = a + B) (hmn : m < n) (hbn : n < a + 2 * B) {W : World} (h : S3Smp w0 g lt L0 n B j W) :
    Calls Try.prog 58 #[.slice (some ⟨g, 0, none⟩) n c, .int .i64 (a : Int), .int .i64 (m : Int), .int .i64 (n : Int), .func (.func 28) #[] #[]] W fun e W' => e = .returned (.tuple #[]) ∧ S2Smp w0 g lt L0 n (2 * B) W' := by
  obtain ⟨L, h1, h2, h3, h3b, h4, h5⟩ := h
  have hSL : ∀ p ∈ L, S p := fun p hp => hS p (h2.symm.mem hr hp)
  have ha2 : a = 2 * j * B := by rw [ha]; ac_rfl
  have hm2 : a + B = (2 * j + 1) * B := by rw [Nat.succ_mul, ← ha2]
  have hu0 := h3b (2 * j) (Nat.le_refl _)
  have hv0 := h3b (2 * j + 1) (by omega)
  rw [← ha2] at hu0
  rw [← hm2] at hv0
  have hc := cut_four L a B
  have hxl : (L.take a).length = a := by rw [List.length_take]; omega
  have hul : (bk L a B).length = B := bk_len (by omega)
  have hz : L.drop (a + B + B) = [] := List.drop_of_length_le (by omega)
  obtain ⟨x, hx⟩ : ∃ x, x = L.take a := ⟨_, rfl⟩
  obtain ⟨u, hu⟩ : ∃ s, s = bk L a B := ⟨_, rfl⟩
  obtain ⟨v, hv⟩ : ∃ s, s = bk L (a + B) B := ⟨_, rfl⟩
  rw [← hx, ← hu, ← hv, hz] at hc
  rw [← hx] at hxl
  rw [← hu] at hul hu0
  rw [← hv] at hv0
  subst hc
  have hln := h1
  simp only [List.length_append, List.length_nil] at hln
  refine (sym_smp w0 g n c S lt hr hIs hC hl (u.length + v.length + 1) W x u v [] _ _ _ (by omega) (by omega) (by omega) h5 h4 hSL h1.symm hu0 hv0 (by omega) (by omega) (by omega)).mono ?_
  rintro e W' ⟨rfl, s', k1, k2, k3, k4, k5⟩
  have e1 : x ++ u ++ v ++ [] = x ++ (u ++ v) ++ [] := by simp
  rw [e1] at h1 h2 h3
  refine ⟨rfl, _, ?_, alike_mid h2 k2, blk_all (j := j) (fun k hk => ?_) ?_ ?_, k4, k5⟩
  · rw [← h1]; simp only [List.length_append]; omega
  · have e1 := block_le (B := 2 * B) hk
    have := h3 k hk
    rw [List.append_assoc, bk_left (by omega)] at this
    rw [List.append_assoc, bk_left (by omega)]
    exact this
  · rw [← ha, List.append_nil, List.drop_append, List.drop_of_length_le (by omega), List.nil_append, show a - x.length = 0 by omega, List.drop_zero]
    exact k1
  · simp only [List.length_append, List.length_nil]; omega
theorem c3n_smp {B j a : Nat} (ha : a = j * (2 * B)) (hbn : n ≤ a + B) {W : World} (h : S3Smp w0 g lt L0 n B j W) : S2Smp w0 g lt L0 n (2 * B) W := by
  obtain ⟨L, h1, h2, h3, h3b, h4, h5⟩ := h
  have ha2 : a = 2 * j * B := by rw [ha]; ac_rfl
  have hu0 := h3b (2 * j) (Nat.le_refl _)
  rw [← ha2, bk_last (by omega), ha] at hu0
  exact ⟨L, h1, h2, blk_all h3 hu0 (by omega), h4, h5⟩
def SortedSmp (w0 : World) (g : Nat) (lt : Value × Value → Value × Value → Bool) (L0 : List (Value × Value)) (W : World) : Prop :=
  ∃ L, Asc lt L ∧ Alike lt L0 L ∧ L.length = L0.length ∧ RowAt W g 51 L ∧ w0.grownBy W (some g)
theorem s2e_smp {B : Nat} (hn : n = L0.length) (hbn : n ≤ B) {W : World} (h : S2Smp w0 g lt L0 n B W) : SortedSmp w0 g lt L0 W := by
  obtain ⟨L, h1, h2, h3, h4, h5⟩ := h
  exact ⟨L, blk_end h3 (by omega), h2, by omega, h4, h5⟩
end
def St1SmpR (w0 : World) (g : Nat) (lt : Value × Value → Value × Value → Bool) (L0 : List (Value × Value)) (n : Nat) (a b : Value) (wr : World) : Prop :=
  ∃ j ca cb : Nat, ca = j * 20 ∧ cb = ca + 20 ∧ ca ≤ n ∧ a = .int .i64 (ca : Int) ∧ b = .int .i64 (cb : Int) ∧ S1Smp w0 g lt L0 n j wr
def St2SmpR (w0 : World) (g : Nat) (lt : Value × Value → Value × Value → Bool) (L0 : List (Value × Value)) (n : Nat) (b : Value) (wr : World) : Prop :=
  ∃ B : Nat, b = .int .i64 (B : Int) ∧ 20 ≤ B ∧ B ≤ 200020 ∧ S2Smp w0 g lt L0 n B wr
def St3SmpR (w0 : World) (g : Nat) (lt : Value × Value → Value × Value → Bool) (L0 : List (Value × Value)) (n B : Nat) (a b : Value) (wr : World) : Prop :=
  ∃ j ca cb : Nat, ca = j * (2 * B) ∧ cb = ca + 2 * B ∧ ca ≤ n ∧ a = .int .i64 (ca : Int) ∧ b = .int .i64 (cb : Int) ∧ S3Smp w0 g lt L0 n B j wr
set_option maxRecDepth 100000 in
set_option maxHeartbeats 6400000 in
theorem stable_smp (w0 w : World) (g n c : Nat) (S : Value × Value → Prop) (lt : Value × Value → Value × Value → Bool) (hr : Rank lt) (hIs : ∀ p, S p → IsSmp p) (hC : CmpSmp w0 g S lt) (L0 : List (Value × Value)) (hw : w0.grownBy w (some g))
    (h : RowAt w g 51 L0) (hS : ∀ p ∈ L0, S p) (hn : n = L0.length) (hl : n ≤ 100000) :
    Calls Try.prog 46 #[.slice (some ⟨g, 0, none⟩) n c, .int .i64 (n : Int), .func (.func 28) #[] #[]] w fun e w' => e = .returned (.tuple #[]) ∧ SortedSmp w0 g lt L0 w' := by
  have HI := Lib.hid (show St1SmpR w0 g lt L0 n (.int .i64 0) (.int .i64 20) w from ⟨0, 0, 20, rfl, rfl, Nat.zero_le _, rfl, rfl, L0, hn.symm, Alike.refl _, (fun k hk => absurd hk (Nat.not_lt_zero _)), h, hw⟩)
  have HC1 := Lib.hid (fun (W : World) (j a b : Nat) ha hb hbn h => c1_smp (c := c) (w0 := w0) (g := g) (n := n) (S := S) (lt := lt) (L0 := L0) (j := j) (a := a) (b := b) (W := W) hr hIs hC hS hl ha hb hbn h)
  have HC1E := Lib.hid (fun (W : World) (j a : Nat) ha hb hbn h => c1e_smp (c := c) (w0 := w0) (g := g) (n := n) (S := S) (lt := lt) (L0 := L0) (j := j) (a := a) (W := W) hr hIs hC hS hl ha hb hbn h)
  have HC3 := Lib.hid (fun (W : World) (B j a m b : Nat) hB ha hm hb hbn h => c3_smp (c := c) (w0 := w0) (g := g) (n := n) (S := S) (lt := lt) (L0 := L0) (B := B) (j := j) (a := a) (m := m) (b := b) (W := W) hr hIs hC hS hl hB ha hm hb hbn h)
  have HC3E := Lib.hid (fun (W : World) (B j a m : Nat) hB ha hm hb hbn h => c3e_smp (c := c) (w0 := w0) (g := g) (n := n) (S := S) (lt := lt) (L0 := L0) (B := B) (j := j) (a := a) (m := m) (W := W) hr hIs hC hS hl hB ha hm hb hbn h)
  have HN := Lib.hid hn
  clear h hS hn hr hIs hC hw
  go_enter Try.func46, Try.ntmps46
  go_wp2_with fail
  go_loopw [7, 8] (fun a b wr => St1SmpR w0 g lt L0 n a b wr) (fun _ b _ => n + 20 - (intOf b).toNat)
  case atStart => exact HI.out
  case round =>
    obtain ⟨j, ca, cb, hca, hcb, han, rfl, rfl, hs⟩ := hrel
    have HS := Lib.hid hs
    have HCA := Lib.hid hca
    have HCB := Lib.hid hcb
    by_cases hlt : cb ≤ n
    · have i1 : (cb : Int) ≤ (n : Int) := by omega
      have s1 : IntKind.i64.wrap ((cb : Int) + 20) = ((cb + 20 : Nat) : Int) := (IntWalk.i64_in _ (by omega)).trans (by omega)
      have HCC := Lib.hid (HC1.out wr j ca cb hca hcb hlt hs)
      clear hs hca hcb han
      go_wp2_with (go_at_call 57; refine HCC.out.mono ?_; rintro e w1 ⟨rfl, hA⟩; have HA := Lib.hid hA; clear hA)
      exact ⟨⟨j + 1, cb, cb + 20, by rw [HCB.out, HCA.out, Nat.succ_mul], rfl, hlt, rfl, rfl, HA.out⟩, by simp [intOf]; omega⟩
    · have i1 : ¬ (cb : Int) ≤ (n : Int) := by omega
      have HCC := Lib.hid (HC1E.out wr j ca hca han (by omega) hs)
      clear hs hca hcb han
      go_wp2_with (go_at_call 57; refine HCC.out.mono ?_; rintro e w1 ⟨rfl, hA⟩; have HA := Lib.hid hA; clear hA)
      go_loopw [6, 7, 8, 9] (fun b _ _ _ wr => St2SmpR w0 g lt L0 n b wr) (fun b _ _ _ _ => n - (intOf b).toNat)
      case atStart => exact ⟨20, rfl, Nat.le_refl _, by omega, HA.out⟩
      case round =>
        obtain ⟨B, rfl, hB1, hB2, hs⟩ := hrel
        have HS2 := Lib.hid hs
        by_cases hBn : B < n
        · have i2 : (B : Int) < (n : Int) := by omega
          have s2 : IntKind.i64.wrap (2 * (B : Int)) = ((2 * B : Nat) : Int) := (IntWalk.i64_in _ (by omega)).trans (by omega)
          have s3 : IntKind.i64.wrap ((B : Int) * 2) = ((2 * B : Nat) : Int) := (IntWalk.i64_in _ (by omega)).trans (by omega)
          have HI3 := Lib.hid (show St3SmpR w0 g lt L0 n B (.int .i64 0) (.int .i64 ((2 * B : Nat) : Int)) wr from ⟨0, 0, 2 * B, by omega, by omega, Nat.zero_le _, rfl, rfl, s23_smp hs⟩)
          obtain ⟨B2, hB3⟩ : ∃ B2, B2 = 2 * B := ⟨_, rfl⟩
          rw [← hB3] at s2 s3 HI3
          have HB3 := Lib.hid hB3
          clear hs hB3
          go_wp2_with fail
          go_loopw [7, 8] (fun a b wr => St3SmpR w0 g lt L0 n B a b wr) (fun _ b _ => n + B2 - (intOf b).toNat)
          case atStart => exact HI3.out
          case round =>
            obtain ⟨j2, ca2, cb2, hca2, hcb2, han2, rfl, rfl, hs⟩ := hrel
            have hB3 := HB3.out
            obtain ⟨cm, hcm⟩ : ∃ cm, cm = ca2 + B := ⟨_, rfl⟩
            have s4 : IntKind.i64.wrap ((ca2 : Int) + (B : Int)) = (cm : Int) := (IntWalk.i64_in _ (by omega)).trans (by omega)
            by_cases hlt2 : cb2 ≤ n
            · have i3 : (cb2 : Int) ≤ (n : Int) := by omega
              obtain ⟨cd, hcd⟩ : ∃ cd, cd = cb2 + B2 := ⟨_, rfl⟩
              have s5 : IntKind.i64.wrap ((cb2 : Int) + (B2 : Int)) = (cd : Int) := (IntWalk.i64_in _ (by omega)).trans (by omega)
              have HCC2 := Lib.hid (HC3.out wr B j2 ca2 cm cb2 (by omega) hca2 hcm hcb2 hlt2 hs)
              have HCA2 := Lib.hid hca2
              have HCB2 := Lib.hid hcb2
              have HCD := Lib.hid hcd
              clear hs hca2 hcb2 han2 hcm hcd hB3
              go_wp2_with (go_at_call 58; refine HCC2.out.mono ?_; rintro e w3 ⟨rfl, hA3⟩; have HA3 := Lib.hid hA3; clear hA3)
              exact ⟨⟨j2 + 1, cb2, cd, by rw [HCB2.out, HCA2.out, Nat.succ_mul j2], by rw [HCD.out, HB3.out], hlt2, rfl, rfl, HA3.out⟩, by have := HCD.out; have := HB3.out; simp [intOf]; omega⟩
            · have i3 : ¬ (cb2 : Int) ≤ (n : Int) := by omega
              by_cases hmn : cm < n
              · have i4 : (cm : Int) < (n : Int) := by omega
                have HCC2 := Lib.hid (HC3E.out wr B j2 ca2 cm (by omega) hca2 hcm hmn (by omega) hs)
                clear hs hca2 hcb2 han2 hcm hB3
                go_wp2_with (go_at_call 58; refine HCC2.out.mono ?_; rintro e w3 ⟨rfl, hA3⟩; have HA3 := Lib.hid hA3; clear hA3)
                exact ⟨⟨B2, rfl, by have := HB3.out; omega, by have := HB3.out; omega, by rw [HB3.out]; exact HA3.out⟩, by have := HB3.out; simp [intOf]; omega⟩
              · have i4 : ¬ (cm : Int) < (n : Int) := by omega
                have HA3 := Lib.hid (c3n_smp hca2 (by omega) hs)
                clear hs hca2 hcb2 han2 hcm hB3
                go_wp2_with fail
                exact ⟨⟨B2, rfl, by have := HB3.out; omega, by have := HB3.out; omega, by rw [HB3.out]; exact HA3.out⟩, by have := HB3.out; simp [intOf]; omega⟩
        · have i2 : ¬ (B : Int) < (n : Int) := by omega
          have HF := Lib.hid (s2e_smp HN.out (by omega) hs)
          clear hs
          go_wp2_with fail
          go_end0
          exact ⟨rfl, HF.out⟩
set_option maxRecDepth 100000 in
/-- no row at all -/
theorem stable0_smp (w : World) (o : Option Addr) (c : Nat) :
    Calls Try.prog 46 #[.slice o 0 c, .int .i64 0, .func (.func 28) #[] #[]] w fun e w' => e = .returned (.tuple #[]) ∧ w = w' := by
  go_enter Try.func46, Try.ntmps46
  go_wp2_with fail
  go_rounds 1
  go_rounds 1
  go_rounds 1
  go_end0
  exact ⟨rfl, rfl⟩
theorem sort_smp (w0 w : World) (g n c : Nat) (S : Value × Value → Prop) (lt : Value × Value → Value × Value → Bool) (hr : Rank lt) (hIs : ∀ p, S p → IsSmp p) (hC : CmpSmp w0 g S lt) (L0 : List (Value × Value)) (hw : w0.grownBy w (some g))
    (h : RowAt w g 51 L0) (hS : ∀ p ∈ L0, S p) (hn : n = L0.length) (hl : n ≤ 100000) :
    Calls Try.prog 27 #[.slice (some ⟨g, 0, none⟩) n c, .func (.func 28) #[] #[]] w fun e w' => e = .returned (.tuple #[]) ∧ SortedSmp w0 g lt L0 w' := by
  have HC := Lib.hid (stable_smp w0 w g n c S lt hr hIs hC L0 hw h hS hn hl)
  clear hr hIs hC hw h hS hn
  go_enter Try.func27, Try.ntmps27
  go_wp2_with (go_at_call 46; refine HC.out.mono ?_; rintro e w1 ⟨rfl, hA⟩; have HA := Lib.hid hA; clear hA)
  go_end0
  exact ⟨rfl, HA.out⟩
theorem sort0_smp (w : World) (o : Option Addr) (c : Nat) :
    Calls Try.prog 27 #[.slice o 0 c, .func (.func 28) #[] #[]] w fun e w' => e = .returned (.tuple #[]) ∧ w = w' := by
  go_enter Try.func27, Try.ntmps27
  go_wp2_with (go_at_call 46; refine (stable0_smp _ o c).mono ?_; rintro e w1 ⟨rfl, rfl⟩)
  go_end0
  exact ⟨rfl, rfl⟩
end Go.Proofs.Ytnglejopbpnknaa
namespace Go.Proofs.Ytnglejopbpnknaa
open Go.RowKit
def toV (p : Smp) : VV := (.int .i64 p.1, .float .f64 p.2)
def ofV (p : VV) : Smp := (timeOf p, match p.2 with | .float _ b => b | _ => 0)
theorem of_to (p : Smp) : ofV (toV p) = p := rfl
theorem to_of {p : VV} (h : IsSmp p) : toV (ofV p) = p := by
  obtain ⟨p1, p2⟩ := p
  obtain ⟨⟨a, e1⟩, b, e2⟩ := h
  dsimp only at e1 e2
  subst e1 e2
  rfl
theorem ltT_of : ltT = fun p q => ltP (ofV p) (ofV q) := by
  funext p q
  unfold ltT ltP cmpT ofV
  by_cases h : timeOf p < timeOf q
  · rw [decide_eq_true h, decide_eq_true (by dsimp only; omega)]
  · rw [decide_eq_false h, decide_eq_false (by dsimp only; omega)]
theorem map_of_to (ys : List Smp) : (ys.map toV).map ofV = ys := by
  rw [List.map_map]
  exact List.map_id'' (fun p => rfl) ys
theorem map_to_of {l : List VV} (h : ∀ p ∈ l, IsSmp p) : (l.map ofV).map toV = l := by
  rw [List.map_map]
  exact (List.map_congr_left fun p hp => to_of (h p hp)).trans (List.map_id l)
theorem toV_smp (ys : List Smp) : ∀ p ∈ ys.map toV, IsSmp p := fun p hp => by
  obtain ⟨y, -, rfl⟩ := List.mem_map.1 hp
  exact ⟨⟨_, rfl⟩, _, rfl⟩
theorem flat_toV (ys : List Smp) : flat2 Prod.fst Prod.snd (ys.map toV) = flatS ys := by
  unfold flatS flat2
  rw [List.flatMap_map]
  rfl
theorem ddr_map (p : Smp) (l : List Smp) : ddr (toV p) (l.map toV) = (ddP p l).map toV := by
  induction l generalizing p with
  | nil => rfl
  | cons b l ih =>
    show (if timeOf (toV b) = timeOf (toV p) then ddr (toV b) (l.map toV) else toV b :: ddr (toV b) (l.map toV)) = _
    unfold ddP
    rw [ih b]
    show (if b.1 = p.1 then _ else _) = _
    split <;> rfl
theorem ddup_map (l : List Smp) : ddup (l.map toV) = (dupP l).map toV := by
  cases l with
  | nil => rfl
  | cons a l => show toV a :: ddr (toV a) (l.map toV) = _; rw [ddr_map]; rfl
/-- a slice that begins with the rows zs -/
def RowV (w : World) (v : Value) (zs : List Smp) : Prop :=
  ∃ o c, v = .slice o zs.length c ∧ zs.length ≤ c ∧ c ≤ maxLen ∧ (0 < zs.length → ∃ g, o = some ⟨g, 0, none⟩ ∧ RowAt w g 51 (zs.map toV))
theorem row_of_own51 {w : World} {b g n c : Nat} {ys : List Smp} (h : w.ownsRow b 51 2 (.slice (some ⟨g, 0, none⟩) n c) n (flatS ys)) (hn : ys.length = n) : RowAt w g 51 (ys.map toV) ∧ n ≤ c ∧ c ≤ maxLen := by
  rcases h.2 with ⟨e, _⟩ | ⟨g', cap, cur, e, _, hh, hc, hm, hs, ht⟩
  · cases e
  · injection e with e1 e2 e3
    injection e1 with e1
    injection e1 with e1
    subst e1 e3
    refine ⟨⟨cur, hh, by rw [List.length_map]; omega, fun i p hp => ?_⟩, hc, hm⟩
    have hi := (List.getElem?_eq_some_iff.1 hp).1
    rw [List.length_map] at hi
    obtain ⟨k1, k2⟩ := flat2_get Prod.fst Prod.snd _ i p hp
    rw [flat_toV] at k1 k2
    rw [← ht, List.getElem?_take_of_lt (by omega)] at k1 k2
    exact ⟨by simpa using k1, by simpa using k2⟩
theorem RowV.of_own {w : World} {b : Nat} {v : Value} {ys : List Smp} (h : w.ownsRow b 51 2 v ys.length (flatS ys)) : RowV w v ys := by
  by_cases h0 : 0 < ys.length
  · obtain ⟨g, c, rfl⟩ := own_succ h h0
    obtain ⟨k1, k2, k3⟩ := row_of_own51 h rfl
    exact ⟨_, c, rfl, k2, k3, fun _ => ⟨g, rfl, k1⟩⟩
  · rcases h.2 with ⟨rfl, e⟩ | ⟨g, cap, cur, rfl, _, _, hc, hm, _⟩
    · exact ⟨none, 0, by rw [e], by omega, Nat.zero_le _, fun h => absurd h h0⟩
    · exact ⟨_, cap, rfl, hc, hm, fun h => absurd h h0⟩
theorem RowV.keep {w w' : World} {v : Value} {zs : List Smp} (h : RowV w v zs) (hk : ∀ g, v.ownBlock = some g → w'.heap[g]? = w.heap[g]?) : RowV w' v zs := by
  obtain ⟨o, c, rfl, h1, h2, h3⟩ := h
  refine ⟨o, c, rfl, h1, h2, fun h0 => ?_⟩
  obtain ⟨g, rfl, hr⟩ := h3 h0
  exact ⟨g, rfl, hr.keep (hk g rfl)⟩
theorem RowV.below {w w' : World} {v : Value} {zs : List Smp} (h : RowV w v zs) (hb : Below w.heap.size w w') : RowV w' v zs := by
  obtain ⟨o, c, rfl, h1, h2, h3⟩ := h
  refine ⟨o, c, rfl, h1, h2, fun h0 => ?_⟩
  obtain ⟨g, rfl, hr⟩ := h3 h0
  exact ⟨g, rfl, hr.below hb⟩
theorem RowV.rd {w : World} {v : Value} {zs : List Smp} (h : RowV w v zs) : SmpsRd w w.heap.size v zs := by
  obtain ⟨o, c, rfl, h1, h2, h3⟩ := h
  refine ⟨o, c, rfl, by rw [flat2_len], fun h0 => ?_⟩
  obtain ⟨g, rfl, hr⟩ := h3 h0
  refine ⟨_, rfl, hr.lt, fun j u hu => ?_⟩
  have e : (⟨g, 0, none⟩ : Addr).add j = ⟨g, j, none⟩ := by unfold Addr.add; split <;> simp_all
  rw [e]
  have hj : j < zs.length * 2 := by have := (List.getElem?_eq_some_iff.1 hu).1; rwa [flat2_len] at this
  have hz : (zs.map toV)[j / 2]? = some (toV zs[j / 2]) := by rw [List.getElem?_map, List.getElem?_eq_getElem (by omega)]; rfl
  obtain ⟨k1, k2⟩ := flat2_get Prod.fst Prod.snd _ _ _ hz
  rw [flat_toV] at k1 k2
  rcases Nat.mod_two_eq_zero_or_one j with hm | hm
  · rw [show j / 2 * 2 = j by omega, hu] at k1
    have := hr.fst hz
    rw [show j / 2 * 2 = j by omega] at this
    rw [this, k1]
  · rw [show j / 2 * 2 + 1 = j by omega, hu] at k2
    have := hr.snd hz
    rw [show j / 2 * 2 + 1 = j by omega] at this
    rw [this, k2]
/-- behind the sort -/
def SortedV (w : World) (v : Value) (ys : List Smp) : Prop := ∃ zs, Asc ltP zs ∧ Alike ltP ys zs ∧ RowV w v zs ∧ zs.length = ys.length
theorem sortv (w : World) (b : Nat) (v : Value) (ys : List Smp) (h : w.ownsRow b 51 2 v ys.length (flatS ys)) (hl : ys.length ≤ 100000) :
    Calls Try.prog 27 #[v, .func (.func 28) #[] #[]] w fun e w' => e = .returned (.tuple #[]) ∧ SortedV w' v ys ∧ w.grownBy w' v.ownBlock := by
  by_cases h0 : 0 < ys.length
  · obtain ⟨g, c, rfl⟩ := own_succ h h0
    obtain ⟨k1, k2, k3⟩ := row_of_own51 h rfl
    refine (sort_smp w w g ys.length c IsSmp ltT ltT_rank (fun _ h => h) (cmp_times w g) (ys.map toV) (only_refl _ _) k1 (toV_smp ys) (by simp) hl).mono ?_
    rintro e w' ⟨rfl, L, j1, j2, j3, j4, j5⟩
    have hL : ∀ p ∈ L, IsSmp p := fun p hp => toV_smp ys p ((Alike.symm j2).mem ltT_rank hp)
    have hlen : (L.map ofV).length = ys.length := by rw [List.length_map, j3, List.length_map]
    refine ⟨rfl, ⟨L.map ofV, ?_, ?_, ⟨_, c, by rw [hlen], by omega, k3, fun _ => ⟨g, rfl, ?_⟩⟩, hlen⟩, j5⟩
    · rw [ltT_of] at j1
      exact List.pairwise_map.2 j1
    · rw [ltT_of] at j2
      have := alike_map ltP_rank ofV j2
      rwa [map_of_to] at this
    · rw [map_to_of hL]
      exact j4
  · have e0 : ys = [] := List.length_eq_zero_iff.1 (by omega)
    subst e0
    have hv := RowV.of_own h
    obtain ⟨A, c, rfl⟩ := own_slice h
    refine (sort0_smp w A c).mono ?_
    rintro e w' ⟨rfl, rfl⟩
    exact ⟨rfl, ⟨[], List.Pairwise.nil, Alike.refl _, hv, rfl⟩, only_refl _ _⟩
theorem uniq0 (w : World) (o : Option Addr) (c : Nat) : Calls Try.prog 30 #[.slice o 0 c, .func (.func 31) #[] #[]] w fun e w' => e = .returned (.slice o 0 c) ∧ w = w' := by
  go_enter Try.func30, Try.ntmps30
  go_wp2
  refine bodyPost_ret (results_tmp rfl _ _ _) rfl ?_
  exact ⟨rfl, rfl⟩
theorem uniqv (w : World) (v : Value) (ys : List Smp) (h : SortedV w v ys) (hl : ys.length ≤ 100000) :
    Calls Try.prog 30 #[v, .func (.func 31) #[] #[]] w fun e w' => (∃ v', e = .returned v' ∧ RowV w' v' (putAll [] ys) ∧ v'.ownBlock = v.ownBlock ∧ ∃ o n c, v' = .slice o n c) ∧ w.grownBy w' v.ownBlock := by
  obtain ⟨zs, h1, h2, ⟨o, c, rfl, h3, h4, h5⟩, h6⟩ := h
  have hf := fin_eq h1 h2
  by_cases h0 : 0 < zs.length
  · obtain ⟨g, rfl, hr⟩ := h5 h0
    refine (uniq_smp w g zs.length c (zs.map toV) hr (toV_smp zs) (by simp) h0 h3 (by omega) h4).mono ?_
    rintro e w' ⟨rfl, k1, k2⟩
    rw [ddup_map, hf] at k1
    rw [ddup_map, List.length_map, hf]
    have hle : (putAll [] ys).length ≤ zs.length := by
      rw [← hf]
      have := ddup_len (zs.map toV)
      rwa [ddup_map, List.length_map, List.length_map] at this
    exact ⟨⟨_, rfl, ⟨_, c, rfl, by omega, h4, fun _ => ⟨g, rfl, k1⟩⟩, rfl, _, _, _, rfl⟩, k2⟩
  · have e0 : zs = [] := List.length_eq_zero_iff.1 (by omega)
    subst e0
    have e1 : putAll [] ys = [] := by rw [← hf]; rfl
    refine (uniq0 w o c).mono ?_
    rintro e w' ⟨rfl, rfl⟩
    exact ⟨⟨_, rfl, ⟨o, c, by rw [e1]; rfl, by rw [e1]; exact Nat.zero_le _, h4, fun h => by rw [e1] at h; exact absurd h (Nat.lt_irrefl _)⟩, rfl, _, _, _, rfl⟩, only_refl _ _⟩
end Go.Proofs.Ytnglejopbpnknaa
