/- The walk of the law ChunkBits. -/
import Derived.Test.YtjlfkdopkhejbaaDoorSpoil
namespace Go.Proofs.YtjlfkdopkhejbaaDoor
open Go.RowKit Go.Shelf Ck
attribute [local go_sem] frombits_call tobits_call run_store_float

theorem smp_reads {w : World} {lim : Nat} {A : Option Addr} {l : List Smp} (h : SmpAt w lim A l) : Reads w lim 2 A l.length (smpV l) := by
  refine ⟨smpV_length l, fun hn => ?_⟩
  obtain ⟨g, off, hA, hg, hc⟩ := h hn
  refine ⟨_, hA, hg, fun j u hu => ?_⟩
  have hj : j < (smpV l).length := (List.getElem?_eq_some_iff.1 hu).1
  rw [smpV_length] at hj
  have hi : j / 2 < l.length := by omega
  obtain ⟨a, b⟩ := smpV_get l (j / 2) l[j / 2] (List.getElem?_eq_getElem hi)
  obtain ⟨p, q⟩ := hc (j / 2) l[j / 2] (List.getElem?_eq_getElem hi)
  have e : (⟨g, off, none⟩ : Addr).add j = ⟨g, off + j, none⟩ := by unfold Addr.add; split <;> simp_all
  rw [e]
  rcases Nat.mod_two_eq_zero_or_one j with h0 | h0
  · have ej : j / 2 * 2 = j := by omega
    rw [ej] at a p
    rw [p, ← a, hu]
  · have ej : j / 2 * 2 + 1 = j := by omega
    rw [Nat.add_assoc, ej] at q
    rw [ej] at b
    rw [q, ← b, hu]
theorem smpV_one (l : List Smp) : ∀ u ∈ smpV l, u.oneCell' = true := by
  intro u hu
  obtain ⟨x, _, hx⟩ := List.mem_flatMap.1 hu
  rcases List.mem_cons.1 hx with rfl | hx
  · rfl
  · obtain rfl := List.mem_singleton.1 hx; rfl

theorem bitsN_ref (l : List Smp) (h : l.length ≤ 120) : bitsN l = (refBits l).length := by
  unfold bitsN
  rw [if_pos h, refBits_length]
theorem bitsN_none (l : List Smp) (h : ¬ l.length ≤ 120) : bitsN l = 0 := by
  unfold bitsN
  rw [if_neg h]

theorem chunkOf_len (l : List Smp) : (chunkOf l).length = 2 + ((encBits St.zero l).length + 7) / 8 := by
  rw [← pack_length]; simp [chunkOf]; omega
theorem conv_nil (w : World) : (convert 23 9 (.slice none 0 0)).run Tryd.prog w = .ok (.string (strOf [])) w :=
  conv_any (bs := []) (A := none) (lim := 0) (fun h => absurd h (by simp)) 0

def BitsR (w : World) (B : Nat) (k : List Smp) (i : Value) (wr : World) : Prop :=
  ∃ j : Nat, j ≤ k.length ∧ i = .int .i64 j ∧ WrAt wr B (encSt St.zero (k.take (min j 120))) (encBits St.zero (k.take (min j 120))) ∧ Below w.heap.size w wr

set_option maxRecDepth 100000 in
set_option maxHeartbeats 3200000 in
theorem lawbits_any (A : Option Addr) (c : Nat) (l : List Smp) (w : World) (h : SmpAt w w.heap.size A l) (hc : l.length ≤ c) (ho : ∀ x ∈ l, x.ok) (hT : TabW w) :
    Calls Tryd.prog 9 #[.slice A l.length c] w fun e w' => e = .returned (.bool true) ∧ Below w.heap.size w w' := by
  obtain ⟨i0, hi, hz0, hz1, hz2⟩ := info_parts info41
  have HCUT := Lib.hid (cut_any A c l w hc)
  obtain ⟨k, hk⟩ : ∃ k, k = l.take 130 := ⟨_, rfl⟩
  have hk1 : k.length ≤ 130 := by rw [hk]; simp; omega
  have hkc : k.length ≤ c := by rw [hk]; simp; omega
  have H := Lib.hid (show SmpAt w w.heap.size A k by rw [hk]; exact h.take 130)
  have HO := Lib.hid (show ∀ x ∈ k, x.ok by rw [hk]; exact fun x hx => ho x (List.mem_of_mem_take hx))
  rw [← hk] at HCUT
  have HT := Lib.hid hT
  have HI := Lib.hid hi
  have HZ0 := Lib.hid hz0
  have HZ1 := Lib.hid hz1
  have HZ2 := Lib.hid hz2
  clear h ho hT hk hi hz0 hz1 hz2 hc
  go_enter Tryd.func9, Tryd.ntmps9
  go_wp2_with fail
  refine HCUT.out.mono ?_
  rintro e w' ⟨rfl, rfl⟩
  clear HCUT
  go_wp2_with fail
  refine (refenc_any A c k w H.out (by omega) HO.out).mono ?_
  rintro e w1 ⟨hb1, hq⟩
  have HB1 := Lib.hid hb1
  have hsz1 := hb1.size
  clear hb1
  by_cases h120 : k.length ≤ 120
  · rw [if_pos h120] at hq
    obtain ⟨v1, rfl, ho1⟩ := hq
    obtain ⟨A1, c1, rfl, hby1⟩ := own_byt ho1
    have HY1 := Lib.hid hby1
    clear hby1 ho1
    go_wp2_with (at_builtin; (refine wpList_append_any _ rfl (.tmp 20) (.tmp 21) 22 rfl w1.heap.size 41 i0 (.agg #[.int .i64 0, .float .f64 0]) 2 16 Tryd.underlying22 HI.out HZ0.out HZ1.out HZ2.out rfl (by decide) (.slice (some ⟨w1.heap.size, 0, none⟩) 0 0) 0 [] rfl (World.ownsRow_lit w1 #[] 0 (Nat.le_refl _) (by simp [maxLen]) rfl) w1.heap.size A k.length c (smpV k) rfl (smp_reads (((H.out.below HB1.out).mono hsz1).below ((Below.refl _ w1).alloc (Nat.le_refl _) _))) (smpV_one _) (by simp [maxLen]; omega) (by omega) (by simp) ?_; intro v' w2 hown1 hgrow1 _; rw [Nat.zero_add, List.nil_append] at hown1; obtain ⟨A2, c2, hv2, hs2⟩ := own_smp hown1; subst hv2; have HS2 := Lib.hid hs2; have HG := Lib.hid hgrow1; clear hown1 hgrow1 hs2))
    have HB2 := Lib.hid ((HB1.out.alloc hsz1 (.cells #[] 41)).grown HG.out (by simp; omega) (fun k hk => by simp [Value.ownBlock] at hk; omega))
    have hsz2 : w1.heap.size ≤ w2.heap.size := Nat.le_trans (by simp) HG.out.size
    have HY2 := Lib.hid ((HY1.out.below ((Below.refl w1.heap.size w1).alloc (Nat.le_refl _) (.cells #[] 41))).below ((Below.refl w1.heap.size _).grown HG.out (by simp) (fun k hk => by simp [Value.ownBlock] at hk; omega)))
    clear HG HY1
    have HT2 := Lib.hid (HT.out.below HB2.out HT.out.lt)
    refine (encode_any A2 c2 k w2 HS2.out (by omega) HO.out HT2.out).mono ?_
    rintro e w3 ⟨hb3, hq⟩
    rw [if_pos h120] at hq
    obtain ⟨v3, rfl, ho3⟩ := hq
    obtain ⟨A3, c3, rfl, hby3⟩ := own_byt ho3
    have HY3 := Lib.hid hby3
    have HB3 := Lib.hid (HB2.out.trans (hb3.mono HB2.out.size))
    have HY23 := Lib.hid ((HY2.out.mono hsz2).below hb3)
    have hsz3 := HB3.out.size
    have hsz23 := hb3.size
    clear hby3 ho3 hb3 HY2 HT2 HS2
    obtain ⟨cb, hcb⟩ : ∃ cb, cb = chunkOf k := ⟨_, rfl⟩
    rw [← hcb] at HY3 HY23 ⊢
    clear hcb
    go_wp2_with fail
    refine (new_any _).mono ?_
    rintro e w4 ⟨rfl, hw4⟩
    have H4 := wrAt_new w3
    have hb4 := (Below.refl w3.heap.size w3).alloc (Nat.le_refl _) (.cells (wrCells St.zero (.slice none 0 0) 0) 76)
    rw [hw4] at H4 hb4
    have HB4 := Lib.hid (HB3.out.trans (hb4.mono hsz3))
    have j1 := conv_any (HY3.out.below hb4) c3
    have j2 := conv_any ((HY23.out.mono (Nat.le_refl _)).below (hb4.mono hsz23)) c1
    have HWR := Lib.hid H4
    clear hw4 H4 hb4 HY3 HY23
    go_wp2_with fail
    refine (row_any A c k w4 ((H.out.below HB4.out).mono HB4.out.size) hk1 HO.out).mono ?_
    rintro e w5 ⟨v5, rfl, ho5, hb5⟩
    have hbn := bitsN_ref k h120
    obtain ⟨R, hR⟩ : ∃ R, R = refBits k := ⟨_, rfl⟩
    rw [← hR] at ho5 hbn
    obtain ⟨A5, c5, hv5⟩ : ∃ A5 c5, v5 = .slice A5 R.length c5 := by
      rcases ho5.2 with ⟨rfl, h0⟩ | ⟨g, cap, cur, rfl, _⟩
      · exact ⟨none, 0, by rw [h0]⟩
      · exact ⟨_, _, rfl⟩
    subst hv5
    have HB5 := Lib.hid (HB4.out.trans (hb5.mono HB4.out.size))
    have HWR5 := Lib.hid (HWR.out.far hb5)
    have HBN := Lib.hid hbn
    clear hR ho5 hb5 hbn HWR HB4 j1 j2
    go_wp2_with fail
    refine (bits_any A c k w5 ((H.out.below HB5.out).mono HB5.out.size) (by omega) HO.out (HT.out.below HB5.out HT.out.lt)).mono ?_
    rintro e w6 ⟨rfl, hb6⟩
    rw [HBN.out]
    have HB6 := Lib.hid (HB5.out.trans (hb6.mono HB5.out.size))
    have HWR6 := Lib.hid (HWR5.out.far hb6)
    clear hb6 HB5 HWR5 HBN
    obtain ⟨B, hB⟩ : ∃ B, B = w3.heap.size := ⟨_, rfl⟩
    rw [← hB] at HWR6 hsz3 ⊢
    clear hB
    have h1B : 1 < B := Nat.lt_of_lt_of_le HT.out.lt hsz3
    go_wp2_with fail
    go_loopw [9] (fun i wr => BitsR w B k i wr) (fun i _ => k.length - (intOf i).toNat)
    case atStart => exact ⟨0, Nat.zero_le _, rfl, HWR6.out, HB6.out⟩
    case round =>
      obtain ⟨j, hj, rfl, hr, hb⟩ := hrel
      have HR := Lib.hid hr
      have HB := Lib.hid hb
      clear hr hb HWR6 HB6
      by_cases hlt : j < k.length
      · obtain ⟨g, off, hA, hg, hcc⟩ := H.out (by omega)
        obtain ⟨x, hx⟩ : ∃ x, x = k[j] := ⟨_, rfl⟩
        obtain ⟨q1, q2⟩ := hcc j x (by rw [hx, List.getElem?_eq_getElem hlt])
        have d1 := (HB.out.cell (p := ⟨g, off + j * 2, none⟩) hg).trans q1
        have d2 := (HB.out.cell (p := ⟨g, off + j * 2 + 1, none⟩) hg).trans q2
        have hxo : x.ok := HO.out x (by rw [hx]; exact List.getElem_mem hlt)
        have HX := Lib.hid hx
        have HXO := Lib.hid hxo
        have hst : (encSt St.zero (k.take (min j 120))).ok := encSt_ok _ _ St.zero_ok (fun y hy => HO.out y (List.mem_of_mem_take hy))
        have hsn : (encSt St.zero (k.take (min j 120))).n = min j 120 := by rw [encSt_n]; simp [St.zero]; omega
        have hel := encBits_length St.zero (k.take (min j 120)) St.zero_ok (fun y hy => HO.out y (List.mem_of_mem_take hy))
        have hel2 : (encBits St.zero (k.take (min j 120))).length ≤ 90000 := by
          have : (k.take (min j 120)).length ≤ 120 := by simp; omega
          omega
        have hstep : j < 120 → k.take (min (j + 1) 120) = k.take (min j 120) ++ [x] := fun hj => by
          rw [show min (j + 1) 120 = j + 1 by omega, show min j 120 = j by omega, sample_snoc k j hlt, hx]
        have hstay : ¬ j < 120 → k.take (min (j + 1) 120) = k.take (min j 120) := fun hj => by
          rw [show min (j + 1) 120 = 120 by omega, show min j 120 = 120 by omega]
        have HSTEP := Lib.hid hstep
        have HSTAY := Lib.hid hstay
        have HST := Lib.hid hst
        have HSN := Lib.hid hsn
        subst hA
        clear hcc q1 q2 hx hxo hstep hstay hst hsn hel
        have hj120 : j < 120 := by omega
        have hji : (j : Int) < 120 := by omega
        go_wp2_with fail
        go_region_held3 (fun w' => w'.cell? ⟨g, off + j * 2, none⟩ = some (.int .i64 x.t) ∧ w'.cell? ⟨g, off + j * 2 + 1, none⟩ = some (.float .f64 x.v))
          (first | exact ⟨d1, d2⟩ | exact ⟨e1, e2⟩)
          (first | (go_at_call 26; refine (append_any B _ _ x _ (HR.out.drewN 1) HST.out HXO.out (by rw [HSN.out]; omega) hel2 (HT.out.below (below_drewN HB.out 1) HT.out.lt) h1B).mono ?_; rintro e w2 ⟨rfl, hr2, hg2⟩; have hb2 := (below_drewN HB.out 1).trans (hg2.below.mono hsz3); have e1 := (hb2.cell (p := ⟨g, off + j * 2, none⟩) hg).trans ((HB.out.cell (p := ⟨g, off + j * 2, none⟩) hg).symm.trans d1); have e2 := (hb2.cell (p := ⟨g, off + j * 2 + 1, none⟩) hg).trans ((HB.out.cell (p := ⟨g, off + j * 2 + 1, none⟩) hg).symm.trans d2); have HR2 := Lib.hid (show WrAt w2 B (encSt St.zero (k.take (min (j + 1) 120))) (encBits St.zero (k.take (min (j + 1) 120))) by rw [HSTEP.out hj120, encSt_append, encBits_append]; simpa [encSt, encBits] using hr2); have HB2 := Lib.hid hb2; clear hr2 hg2 hb2))
        clear d1 d2 e1 e2 HR HB HST HSN HSTEP HSTAY hel2
        by_cases h37 : j % 37 = 5
        · have h37' : ((j : Int) % 37 == 5) = true := by simp; omega
          obtain ⟨M, hM⟩ : ∃ M, M = k.take (min (j + 1) 120) := ⟨_, rfl⟩
          have hMo : ∀ x ∈ M, x.ok := by rw [hM]; exact fun x hx => HO.out x (List.mem_of_mem_take hx)
          have hMl : M.length ≤ 120 := by rw [hM]; simp; omega
          have hel := encBits_length St.zero M St.zero_ok hMo
          have hbl : (encBits St.zero M).length ≤ 100000 := by omega
          have hcl : (chunkOf M).length ≤ 100000 := by rw [chunkOf_len]; omega
          rw [← hM] at HR2
          have HM := Lib.hid hM
          clear hM hel hMo h37
          go_wp2_with fail
          refine (bytes_any B _ _ _ HR2.out hbl).mono ?_
          rintro e w7 ⟨v7, rfl, ho7, hb7⟩
          rw [rawChunk_enc] at ho7
          have HB7 := Lib.hid hb7
          have HO7 := Lib.hid ho7
          have hs7 := hb7.size
          clear ho7 hb7
          go_wp2_with fail
          refine (spoil_any v7 (chunkOf M) _ w7 HO7.out (chunkOf_lt M) hs7 hcl).mono ?_
          rintro e w8 ⟨rfl, hb8⟩
          have HR8 := Lib.hid (HR2.out.far (HB7.out.trans hb8))
          have HB8 := Lib.hid (HB2.out.trans ((HB7.out.trans hb8).mono HB2.out.size))
          rw [HM.out] at HR8
          clear hb8
          go_wp2
          exact ⟨⟨j + 1, by omega, by go_num, HR8.out, HB8.out⟩, by simp [intOf]; omega⟩
        · have h37' : ((j : Int) % 37 == 5) = false := by simp; omega
          clear h37
          go_wp2
          exact ⟨⟨j + 1, by omega, by go_num, HR2.out, HB2.out⟩, by simp [intOf]; omega⟩
      · have hjk : j = k.length := by omega
        obtain ⟨M, hM⟩ : ∃ M, M = k.take (min j 120) := ⟨_, rfl⟩
        have hMl : M.length = k.length := by rw [hM]; simp; omega
        have hMo : ∀ x ∈ M, x.ok := by rw [hM]; exact fun x hx => HO.out x (List.mem_of_mem_take hx)
        have hMs : SmpAt wr wr.heap.size A M := by rw [hM]; exact ((H.out.below HB.out).mono HB.out.size).take _
        have hsn : (encSt St.zero M).n = k.length := by rw [encSt_n, hMl]; simp [St.zero]
        have hel := encBits_length St.zero M St.zero_ok hMo
        have hbl : (encBits St.zero M).length ≤ 100000 := by omega
        rw [← hM] at HR
        have HREF := refenc_any A c M wr hMs (by omega) hMo
        rw [hMl] at HREF
        have HRF := Lib.hid HREF
        have HSN := Lib.hid hsn
        have h120M : M.length ≤ 120 := by omega
        have hn120 : (k.length : Int) ≤ 120 := by omega
        have hkc' : (120 : Int) ≤ (c : Int) ∨ (k.length : Int) ≤ 120 := by omega
        have hkc2 : (k.length : Int) ≤ (c : Int) := by omega
        clear hM hMs hMo hsn hel HREF
        go_wp2_with fail
        refine HRF.out.mono ?_
        rintro e w7 ⟨hb7, hq7⟩
        rw [if_pos h120M] at hq7
        obtain ⟨v7, rfl, ho7⟩ := hq7
        obtain ⟨A7, c7, rfl, hby7⟩ := own_byt ho7
        have HY7 := Lib.hid hby7
        have HR7 := Lib.hid (HR.out.far hb7)
        have HB7 := Lib.hid (HB.out.trans (hb7.mono HB.out.size))
        clear ho7 hby7 hb7 HRF
        go_wp2_with fail
        obtain ⟨cM, hcM⟩ : ∃ cM, cM = chunkOf M := ⟨_, rfl⟩
        rw [← hcM] at HY7 ⊢
        have HCM := Lib.hid hcM
        clear hcM
        have j0 := conv_any (HY7.out.drewN 1) c7
        go_region_with
          (first
            | (go_at_call 29; refine (count_any B _ _ _ (HR7.out.drewN 1)).mono ?_; rintro e w8 ⟨rfl, rfl⟩; rw [HSN.out])
            | (go_at_call 28; refine (bytes_any B _ _ _ (HR7.out.drewN 1) hbl).mono ?_; rintro e w9 ⟨v9, rfl, ho9, hb9⟩; rw [rawChunk_enc, ← HCM.out] at ho9; obtain ⟨A9, c9, rfl, hby9⟩ := own_byt ho9; have j1 := conv_any hby9 c9; have hy9 := (HY7.out.drewN 1).below hb9; have j2 := conv_any hy9 c7; have HY9 := Lib.hid (hy9.mono hb9.size); have HB9 := Lib.hid ((below_drewN HB7.out 1).trans (hb9.mono HB7.out.size)); clear ho9 hby9 hb9 hy9)
            | (go_at_call 13; refine (wakes_any _ (HT.out.below HB9.out HT.out.lt)).mono ?_; rintro e w10 ⟨rfl, hb10⟩; have j3 := conv_any (HY9.out.below hb10) c7; have HB10 := Lib.hid (HB9.out.trans (hb10.mono HB9.out.size)); clear hb10))
        all_goals
          go_wp2
          go_ret
          exact ⟨rfl, HB10.out⟩
  · rw [if_neg h120] at hq
    subst hq
    go_wp2_with (at_builtin; (refine wpList_append_any _ rfl (.tmp 20) (.tmp 21) 22 rfl w1.heap.size 41 i0 (.agg #[.int .i64 0, .float .f64 0]) 2 16 Tryd.underlying22 HI.out HZ0.out HZ1.out HZ2.out rfl (by decide) (.slice (some ⟨w1.heap.size, 0, none⟩) 0 0) 0 [] rfl (World.ownsRow_lit w1 #[] 0 (Nat.le_refl _) (by simp [maxLen]) rfl) w1.heap.size A k.length c (smpV k) rfl (smp_reads (((H.out.below HB1.out).mono hsz1).below ((Below.refl _ w1).alloc (Nat.le_refl _) _))) (smpV_one _) (by simp [maxLen]; omega) (by omega) (by simp) ?_; intro v' w2 hown1 hgrow1 _; rw [Nat.zero_add, List.nil_append] at hown1; obtain ⟨A2, c2, hv2, hs2⟩ := own_smp hown1; subst hv2; have HS2 := Lib.hid hs2; have HG := Lib.hid hgrow1; clear hown1 hgrow1 hs2))
    have HB2 := Lib.hid ((HB1.out.alloc hsz1 (.cells #[] 41)).grown HG.out (by simp; omega) (fun k hk => by simp [Value.ownBlock] at hk; omega))
    clear HG
    have HT2 := Lib.hid (HT.out.below HB2.out HT.out.lt)
    refine (encode_any A2 c2 k w2 HS2.out (by omega) HO.out HT2.out).mono ?_
    rintro e w3 ⟨hb3, hq⟩
    rw [if_neg h120] at hq
    subst hq
    have HB3 := Lib.hid (HB2.out.trans (hb3.mono HB2.out.size))
    have hsz3 := HB3.out.size
    clear hb3 HT2 HS2
    go_wp2_with fail
    refine (new_any _).mono ?_
    rintro e w4 ⟨rfl, hw4⟩
    have H4 := wrAt_new w3
    have hb4 := (Below.refl w3.heap.size w3).alloc (Nat.le_refl _) (.cells (wrCells St.zero (.slice none 0 0) 0) 76)
    rw [hw4] at H4 hb4
    have HB4 := Lib.hid (HB3.out.trans (hb4.mono hsz3))
    have j1 := conv_nil w4
    have HWR := Lib.hid H4
    clear hw4 H4 hb4
    go_wp2_with fail
    have hbn := bitsN_none k h120
    refine (bits_any A c k w4 ((H.out.below HB4.out).mono HB4.out.size) (by omega) HO.out (HT.out.below HB4.out HT.out.lt)).mono ?_
    rintro e w6 ⟨rfl, hb6⟩
    rw [hbn]
    have HB6 := Lib.hid (HB4.out.trans (hb6.mono HB4.out.size))
    have HWR6 := Lib.hid (HWR.out.far hb6)
    clear hb6 HB4 HWR j1 hbn
    obtain ⟨B, hB⟩ : ∃ B, B = w3.heap.size := ⟨_, rfl⟩
    rw [← hB] at HWR6 hsz3 ⊢
    clear hB
    have h1B : 1 < B := Nat.lt_of_lt_of_le HT.out.lt hsz3
    go_wp2_with fail
    go_loopw [9] (fun i wr => BitsR w B k i wr) (fun i _ => k.length - (intOf i).toNat)
    case atStart => exact ⟨0, Nat.zero_le _, rfl, HWR6.out, HB6.out⟩
    case round =>
      obtain ⟨j, hj, rfl, hr, hb⟩ := hrel
      have HR := Lib.hid hr
      have HB := Lib.hid hb
      clear hr hb HWR6 HB6
      by_cases hlt : j < k.length
      · obtain ⟨g, off, hA, hg, hcc⟩ := H.out (by omega)
        obtain ⟨x, hx⟩ : ∃ x, x = k[j] := ⟨_, rfl⟩
        obtain ⟨q1, q2⟩ := hcc j x (by rw [hx, List.getElem?_eq_getElem hlt])
        have d1 := (HB.out.cell (p := ⟨g, off + j * 2, none⟩) hg).trans q1
        have d2 := (HB.out.cell (p := ⟨g, off + j * 2 + 1, none⟩) hg).trans q2
        have hxo : x.ok := HO.out x (by rw [hx]; exact List.getElem_mem hlt)
        have HX := Lib.hid hx
        have HXO := Lib.hid hxo
        have hst : (encSt St.zero (k.take (min j 120))).ok := encSt_ok _ _ St.zero_ok (fun y hy => HO.out y (List.mem_of_mem_take hy))
        have hsn : (encSt St.zero (k.take (min j 120))).n = min j 120 := by rw [encSt_n]; simp [St.zero]; omega
        have hel := encBits_length St.zero (k.take (min j 120)) St.zero_ok (fun y hy => HO.out y (List.mem_of_mem_take hy))
        have hel2 : (encBits St.zero (k.take (min j 120))).length ≤ 90000 := by
          have : (k.take (min j 120)).length ≤ 120 := by simp; omega
          omega
        have hstep : j < 120 → k.take (min (j + 1) 120) = k.take (min j 120) ++ [x] := fun hj => by
          rw [show min (j + 1) 120 = j + 1 by omega, show min j 120 = j by omega, sample_snoc k j hlt, hx]
        have hstay : ¬ j < 120 → k.take (min (j + 1) 120) = k.take (min j 120) := fun hj => by
          rw [show min (j + 1) 120 = 120 by omega, show min j 120 = 120 by omega]
        have HSTEP := Lib.hid hstep
        have HSTAY := Lib.hid hstay
        have HST := Lib.hid hst
        have HSN := Lib.hid hsn
        subst hA
        clear hcc q1 q2 hx hxo hstep hstay hst hsn hel
        by_cases hj120 : j < 120
        case' pos =>
          have hji : (j : Int) < 120 := by omega
          go_wp2_with fail
          go_region_held3 (fun w' => w'.cell? ⟨g, off + j * 2, none⟩ = some (.int .i64 x.t) ∧ w'.cell? ⟨g, off + j * 2 + 1, none⟩ = some (.float .f64 x.v))
            (first | exact ⟨d1, d2⟩ | exact ⟨e1, e2⟩)
            (first | (go_at_call 26; refine (append_any B _ _ x _ (HR.out.drewN 1) HST.out HXO.out (by rw [HSN.out]; omega) hel2 (HT.out.below (below_drewN HB.out 1) HT.out.lt) h1B).mono ?_; rintro e w2 ⟨rfl, hr2, hg2⟩; have hb2 := (below_drewN HB.out 1).trans (hg2.below.mono hsz3); have e1 := (hb2.cell (p := ⟨g, off + j * 2, none⟩) hg).trans ((HB.out.cell (p := ⟨g, off + j * 2, none⟩) hg).symm.trans d1); have e2 := (hb2.cell (p := ⟨g, off + j * 2 + 1, none⟩) hg).trans ((HB.out.cell (p := ⟨g, off + j * 2 + 1, none⟩) hg).symm.trans d2); have HR2 := Lib.hid (show WrAt w2 B (encSt St.zero (k.take (min (j + 1) 120))) (encBits St.zero (k.take (min (j + 1) 120))) by rw [HSTEP.out hj120, encSt_append, encBits_append]; simpa [encSt, encBits] using hr2); have HB2 := Lib.hid hb2; clear hr2 hg2 hb2))
        case' neg =>
          have hji : (120 : Int) ≤ (j : Int) := by omega
          go_wp2_with fail
          go_region_held3 (fun w' => w'.cell? ⟨g, off + j * 2, none⟩ = some (.int .i64 x.t) ∧ w'.cell? ⟨g, off + j * 2 + 1, none⟩ = some (.float .f64 x.v))
            (first | exact ⟨d1, d2⟩ | exact ⟨e1, e2⟩)
            (first | (go_at_call 26; refine (append_full B _ _ x.t x.v _ (HR.out.drewN 1) (by rw [HSN.out]; omega)).mono ?_; rintro e w2 ⟨rfl, hw2⟩; have e1 : w2.cell? ⟨g, off + j * 2, none⟩ = some (.int .i64 x.t) := (by rw [← hw2]; exact d1); have e2 : w2.cell? ⟨g, off + j * 2 + 1, none⟩ = some (.float .f64 x.v) := (by rw [← hw2]; exact d2); have HR2 := Lib.hid (show WrAt w2 B (encSt St.zero (k.take (min (j + 1) 120))) (encBits St.zero (k.take (min (j + 1) 120))) by rw [HSTAY.out hj120, ← hw2]; exact HR.out.drewN 1); have HB2 := Lib.hid (show Below w.heap.size w w2 by rw [← hw2]; exact below_drewN HB.out 1); clear hw2))
        all_goals
          clear d1 d2 e1 e2 HR HB HST HSN HSTEP HSTAY hel2
          by_cases h37 : j % 37 = 5
          · have h37' : ((j : Int) % 37 == 5) = true := by simp; omega
            obtain ⟨M, hM⟩ : ∃ M, M = k.take (min (j + 1) 120) := ⟨_, rfl⟩
            have hMo : ∀ x ∈ M, x.ok := by rw [hM]; exact fun x hx => HO.out x (List.mem_of_mem_take hx)
            have hMl : M.length ≤ 120 := by rw [hM]; simp; omega
            have hel := encBits_length St.zero M St.zero_ok hMo
            have hbl : (encBits St.zero M).length ≤ 100000 := by omega
            have hcl : (chunkOf M).length ≤ 100000 := by rw [chunkOf_len]; omega
            rw [← hM] at HR2
            have HM := Lib.hid hM
            clear hM hel hMo h37
            go_wp2_with fail
            refine (bytes_any B _ _ _ HR2.out hbl).mono ?_
            rintro e w7 ⟨v7, rfl, ho7, hb7⟩
            rw [rawChunk_enc] at ho7
            have HB7 := Lib.hid hb7
            have HO7 := Lib.hid ho7
            have hs7 := hb7.size
            clear ho7 hb7
            go_wp2_with fail
            refine (spoil_any v7 (chunkOf M) _ w7 HO7.out (chunkOf_lt M) hs7 hcl).mono ?_
            rintro e w8 ⟨rfl, hb8⟩
            have HR8 := Lib.hid (HR2.out.far (HB7.out.trans hb8))
            have HB8 := Lib.hid (HB2.out.trans ((HB7.out.trans hb8).mono HB2.out.size))
            rw [HM.out] at HR8
            clear hb8
            go_wp2
            exact ⟨⟨j + 1, by omega, by go_num, HR8.out, HB8.out⟩, by simp [intOf]; omega⟩
          · have h37' : ((j : Int) % 37 == 5) = false := by simp; omega
            clear h37
            go_wp2
            exact ⟨⟨j + 1, by omega, by go_num, HR2.out, HB2.out⟩, by simp [intOf]; omega⟩
      · have hjk : j = k.length := by omega
        obtain ⟨M, hM⟩ : ∃ M, M = k.take (min j 120) := ⟨_, rfl⟩
        have hMl : M.length = 120 := by rw [hM]; simp; omega
        have hMo : ∀ x ∈ M, x.ok := by rw [hM]; exact fun x hx => HO.out x (List.mem_of_mem_take hx)
        have hMs : SmpAt wr wr.heap.size A M := by rw [hM]; exact ((H.out.below HB.out).mono HB.out.size).take _
        have hsn : (encSt St.zero M).n = 120 := by rw [encSt_n, hMl]; simp [St.zero]
        have hel := encBits_length St.zero M St.zero_ok hMo
        have hbl : (encBits St.zero M).length ≤ 100000 := by omega
        rw [← hM] at HR
        have HREF := refenc_any A c M wr hMs (by omega) hMo
        rw [hMl] at HREF
        have HRF := Lib.hid HREF
        have HSN := Lib.hid hsn
        have h120M : M.length ≤ 120 := by omega
        have hn120 : (120 : Int) < (k.length : Int) := by omega
        have hkc' : (120 : Int) ≤ (c : Int) ∨ (k.length : Int) ≤ 120 := by omega
        have hkc2 : (k.length : Int) ≤ (c : Int) := by omega
        clear hM hMs hMo hsn hel HREF
        go_wp2_with fail
        refine HRF.out.mono ?_
        rintro e w7 ⟨hb7, hq7⟩
        rw [if_pos h120M] at hq7
        obtain ⟨v7, rfl, ho7⟩ := hq7
        obtain ⟨A7, c7, rfl, hby7⟩ := own_byt ho7
        have HY7 := Lib.hid hby7
        have HR7 := Lib.hid (HR.out.far hb7)
        have HB7 := Lib.hid (HB.out.trans (hb7.mono HB.out.size))
        clear ho7 hby7 hb7 HRF
        go_wp2_with fail
        obtain ⟨cM, hcM⟩ : ∃ cM, cM = chunkOf M := ⟨_, rfl⟩
        rw [← hcM] at HY7 ⊢
        have HCM := Lib.hid hcM
        clear hcM
        have j0 := conv_any (HY7.out.drewN 1) c7
        go_region_with
          (first
            | (go_at_call 29; refine (count_any B _ _ _ (HR7.out.drewN 1)).mono ?_; rintro e w8 ⟨rfl, rfl⟩; rw [HSN.out])
            | (go_at_call 28; refine (bytes_any B _ _ _ (HR7.out.drewN 1) hbl).mono ?_; rintro e w9 ⟨v9, rfl, ho9, hb9⟩; rw [rawChunk_enc, ← HCM.out] at ho9; obtain ⟨A9, c9, rfl, hby9⟩ := own_byt ho9; have j1 := conv_any hby9 c9; have hy9 := (HY7.out.drewN 1).below hb9; have j2 := conv_any hy9 c7; have HY9 := Lib.hid (hy9.mono hb9.size); have HB9 := Lib.hid ((below_drewN HB7.out 1).trans (hb9.mono HB7.out.size)); clear ho9 hby9 hb9 hy9)
            | (go_at_call 13; refine (wakes_any _ (HT.out.below HB9.out HT.out.lt)).mono ?_; rintro e w10 ⟨rfl, hb10⟩; have j3 := conv_any (HY9.out.below hb10) c7; have HB10 := Lib.hid (HB9.out.trans (hb10.mono HB9.out.size)); clear hb10))
        all_goals
          go_wp2
          go_ret
          exact ⟨rfl, HB10.out⟩
end Go.Proofs.YtjlfkdopkhejbaaDoor
