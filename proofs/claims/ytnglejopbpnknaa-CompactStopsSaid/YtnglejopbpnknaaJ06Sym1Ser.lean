/- symMerge of ser (55), where one element lies ahead. symMerge of ser (55), where one element lies behind. Stable sorting, plainly: the search for the symmetric cut, over a list x ++ u ++ v ++ z. Stable sorting, plainly: the four parts that the symmetric cut makes of two rows, and what is left to do with them. symMerge of ser (55): the rotation and the two smaller merges behind the search. -/
import Derived.Test.YtnglejopbpnknaaJ03InsSer
import Derived.Test.YtnglejopbpnknaaJ05InsSmp
namespace Go.Proofs.Ytnglejopbpnknaa
open Go.RowKit
def Mov1SerR (w0 : World) (g na ci : Nat) (x v z : List (Value × Value)) (e : Value × Value) (i : Value) (wr : World) : Prop :=
  ∃ l : Nat, l ≤ ci ∧ i = .int .i64 ((na + l : Nat) : Int) ∧ RowAt wr g 34 (x ++ v.take l ++ e :: (v.drop l ++ z)) ∧ w0.grownBy wr (some g)
def Sea1SerR (w0 : World) (g nm : Nat) (lt : Value × Value → Value × Value → Bool) (L v : List (Value × Value)) (e : Value × Value) (i j : Value) (wr : World) : Prop :=
  ∃ ci cj : Nat, i = .int .i64 ((nm + ci : Nat) : Int) ∧ j = .int .i64 ((nm + cj : Nat) : Int) ∧ Srch1 lt v e ci cj ∧ RowAt wr g 34 L ∧ w0.grownBy wr (some g)
set_option maxRecDepth 100000 in
set_option maxHeartbeats 6400000 in
theorem sym1_ser (w0 w : World) (g n c : Nat) (S : Value × Value → Prop) (lt : Value × Value → Value × Value → Bool) (hr : Rank lt) (hIs : ∀ p, S p → IsSer p) (hC : CmpSer w0 g S lt) (x v z : List (Value × Value)) (e : Value × Value) (a m b : Int) (hw : w0.grownBy w (some g))
    (h : RowAt w g 34 (x ++ e :: (v ++ z))) (hS : ∀ p ∈ x ++ e :: (v ++ z), S p) (hn : n = (x ++ e :: (v ++ z)).length) (hl : n ≤ 100000) (hv : Asc lt v) (ha : a = x.length) (hm : m = ((x.length + 1 : Nat) : Int)) (hb : b = ((x.length + 1 + v.length : Nat) : Int)) :
    Calls Try.prog 55 #[.slice (some ⟨g, 0, none⟩) n c, .int .i64 a, .int .i64 m, .int .i64 b, .func (.func 24) #[] #[]] w fun e' w' => e' = .returned (.tuple #[]) ∧ ∃ s', Asc lt s' ∧ Alike lt ([e] ++ v) s' ∧ s'.length = v.length + 1 ∧ RowAt w' g 34 (x ++ s' ++ z) ∧ w0.grownBy w' (some g) := by
  obtain ⟨na, hna⟩ : ∃ n, n = x.length := ⟨_, rfl⟩
  obtain ⟨nv, hnv⟩ : ∃ n, n = v.length := ⟨_, rfl⟩
  obtain ⟨nm, hnm⟩ : ∃ k, k = na + 1 := ⟨_, rfl⟩
  obtain ⟨nb, hnb⟩ : ∃ k, k = nm + nv := ⟨_, rfl⟩
  have hbn : nb ≤ n := by rw [hnb, hnm, hna, hnv, hn]; simp only [List.length_append, List.length_cons]; omega
  rw [← hna] at ha
  rw [← hna, ← hnm] at hm
  rw [← hna, ← hnm, ← hnv, ← hnb] at hb
  subst ha hm hb
  have hd1 : IntKind.i64.wrap ((nm : Int) - (na : Int)) = 1 := (IntWalk.i64_in _ (by omega)).trans (by omega)
  obtain ⟨L, hL⟩ : ∃ L, L = x ++ e :: (v ++ z) := ⟨_, rfl⟩
  rw [← hL] at h hn
  have hsr : Srch1 lt v e 0 nv := by rw [hnv]; exact Srch1.start v e
  have HI := Lib.hid (show Sea1SerR w0 g nm lt L v e (.int .i64 (nm : Int)) (.int .i64 (nb : Int)) w from ⟨0, nv, rfl, by rw [hnb], hsr, h, hw⟩)
  have HS := Lib.hid hS
  have HN := Lib.hid hn
  have HNA := Lib.hid hna
  have HNV := Lib.hid hnv
  have HNM := Lib.hid hnm
  have HNB := Lib.hid hnb
  have HL := Lib.hid hL
  have HV := Lib.hid hv
  have HRK := Lib.hid hr
  have HIS := Lib.hid hIs
  have HCM := Lib.hid hC
  have hnm9 : nm ≤ 100000 := by omega
  have hna9 : na < n := by omega
  clear h hS hn hna hnv hnm hnb hr hIs hC hw hL hv hsr
  go_enter Try.func55, Try.ntmps55
  go_wp2_with fail
  clear hd1
  go_loopw [10, 11] (fun i j wr => Sea1SerR w0 g nm lt L v e i j wr) (fun i j _ => (intOf j).toNat - (intOf i).toNat)
  case atStart => exact HI.out
  case round =>
    obtain ⟨ci, cj, rfl, rfl, hsr, hrow, hg⟩ := hrel
    have HR := Lib.hid hrow
    have HG := Lib.hid hg
    have HSR := Lib.hid hsr
    have hjl := hsr.jl
    rw [← HNV.out] at hjl
    obtain ⟨i', hi'⟩ : ∃ i', i' = nm + ci := ⟨_, rfl⟩
    obtain ⟨j', hj'⟩ : ∃ j', j' = nm + cj := ⟨_, rfl⟩
    rw [← hi', ← hj']
    have hjn : j' ≤ nb := by have := HNB.out; omega
    have HII := Lib.hid hi'
    have HJJ := Lib.hid hj'
    by_cases hlt : i' < j'
    · obtain ⟨hh, hhh⟩ : ∃ hh, hh = (i' + j') / 2 := ⟨_, rfl⟩
      obtain ⟨ch, hch⟩ : ∃ ch, hh = nm + ch := ⟨hh - nm, by omega⟩
      have s1 : IntKind.i64.wrap ((i' : Int) + (j' : Int)) = (i' : Int) + (j' : Int) := IntWalk.i64_in _ (by omega)
      have s3 : ((i' : Int) + (j' : Int)) / 2 = (hh : Int) := by omega
      have hc1 : ci ≤ ch := by omega
      have hc2 : ch < cj := by omega
      obtain ⟨q, hq⟩ : ∃ q, v[ch]? = some q := ⟨_, List.getElem?_eq_getElem (show ch < v.length by rw [← HNV.out]; omega)⟩
      have hLh : L[hh]? = some q := by
        rw [HL.out, List.getElem?_append_right (by rw [← HNA.out]; have := HNM.out; omega), ← HNA.out, show hh - na = ch + 1 by have := HNM.out; omega, List.getElem?_cons_succ, List.getElem?_append_left (by rw [← HNV.out]; omega)]
        exact hq
      have hLa : L[na]? = some e := by rw [HL.out, HNA.out]; exact get_one _ _ _
      have hSE : S e := HS.out e (by simp)
      have hSD : S q := HS.out q (by have := List.mem_of_getElem? hq; simp [this])
      have hup := fun hl => hsr.up HRK.out HV.out hc1 hc2 hq hl
      have hdn := fun hl => hsr.down HRK.out HV.out hc1 hc2 hq hl
      obtain ⟨q1, q2⟩ := q
      obtain ⟨f1, f2⟩ := e
      obtain ⟨⟨A3, n3, c3, q3⟩, A4, n4, c4, q4⟩ := HIS.out _ hSD
      dsimp only at q3 q4
      subst q3 q4
      obtain ⟨⟨A1, n1, c1, q1⟩, A2, n2, c2, q2⟩ := HIS.out _ hSE
      dsimp only at q1 q2
      subst q1 q2
      have x1 := hrow.fst hLa
      have x2 := hrow.snd hLa
      have y1 := hrow.fst hLh
      have y2 := hrow.snd hLh
      dsimp only at x1 x2 y1 y2
      have hhn : hh < n := by omega
      have b1 : (na : Int) < (n : Int) := by omega
      have b2 : (hh : Int) < (n : Int) := by omega
      have b3 : (0 : Int) ≤ (na : Int) := by omega
      have b4 : (0 : Int) ≤ (hh : Int) := by omega
      have s4 : IntKind.i64.wrap ((hh : Int) + 1) = (hh : Int) + 1 := IntWalk.i64_in _ (by omega)
      have HHH := Lib.hid hhh
      have HCH := Lib.hid hch
      have HLH := Lib.hid hLh
      have HLA := Lib.hid hLa
      have HSE := Lib.hid hSE
      have HSD := Lib.hid hSD
      have HUP := Lib.hid hup
      have HDN := Lib.hid hdn
      clear hrow hg hsr hhh hch hq hLh hLa hSE hSD hup hdn hi' hj'
      cases hlt2 : lt (.slice A3 n3 c3, .slice A4 n4 c4) (.slice A1 n1 c1, .slice A2 n2 c2) with
      | true =>
        have HLT := Lib.hid hlt2
        clear hlt2
        have HC := Lib.hid (show ∀ z, Calls Try.prog 24 #[.agg #[.slice A3 n3 c3, .slice A4 n4 c4], .agg #[.slice A1 n1 c1, .slice A2 n2 c2]] (wr.drewN z) fun e W' => ∃ q : Int, e = .returned (.int .i64 q) ∧ q < 0 ∧ Below wr.heap.size wr W' from fun z => (HCM.out (wr.drewN z) (only_drewN HG.out z) (.slice A3 n3 c3, .slice A4 n4 c4) (.slice A1 n1 c1, .slice A2 n2 c2) HSD.out HSE.out).mono fun e W' ⟨q, h1, h2, h3⟩ => ⟨q, h1, by rw [HLT.out] at h2; simp at h2; omega, (below_drewN (Below.refl _ _) z).trans h3⟩)
        go_upto_region 5 with fail
        go_region_held3 (fun w' => w'.cell? ⟨g, na * 2, none⟩ = some (.slice A1 n1 c1) ∧ w'.cell? ⟨g, na * 2 + 1, none⟩ = some (.slice A2 n2 c2) ∧ w'.cell? ⟨g, hh * 2, none⟩ = some (.slice A3 n3 c3) ∧ w'.cell? ⟨g, hh * 2 + 1, none⟩ = some (.slice A4 n4 c4))
          (first | exact ⟨x1, x2, y1, y2⟩ | exact ⟨v1, v2, v3, v4⟩)
          (first | (go_at_call 24; refine (HC.out 1).mono ?_; rintro e w4 ⟨q, rfl, hq, hb4⟩; have hr4 := HR.out.below hb4; have v1 := hr4.fst HLA.out; have v2 := hr4.snd HLA.out; have v3 := hr4.fst HLH.out; have v4 := hr4.snd HLH.out; dsimp only at v1 v2 v3 v4; have HR4 := Lib.hid hr4; have HB4 := Lib.hid hb4; clear hr4 hb4))
        clear x1 x2 y1 y2 v1 v2 v3 v4
        go_wp2
        have h8 := HCH.out
        have h9 := HHH.out
        refine ⟨⟨ch + 1, cj, by rw [show ((nm + (ch + 1) : Nat) : Int) = (hh : Int) + 1 by omega], by rw [HJJ.out], HUP.out HLT.out, HR4.out, only_trans HG.out (only_of_below HB4.out _)⟩, by simp [intOf]; omega⟩
      | false =>
        have HLT := Lib.hid hlt2
        clear hlt2
        have HC := Lib.hid (show ∀ z, Calls Try.prog 24 #[.agg #[.slice A3 n3 c3, .slice A4 n4 c4], .agg #[.slice A1 n1 c1, .slice A2 n2 c2]] (wr.drewN z) fun e W' => ∃ q : Int, e = .returned (.int .i64 q) ∧ 0 ≤ q ∧ Below wr.heap.size wr W' from fun z => (HCM.out (wr.drewN z) (only_drewN HG.out z) (.slice A3 n3 c3, .slice A4 n4 c4) (.slice A1 n1 c1, .slice A2 n2 c2) HSD.out HSE.out).mono fun e W' ⟨q, h1, h2, h3⟩ => ⟨q, h1, by rw [HLT.out] at h2; simp at h2; omega, (below_drewN (Below.refl _ _) z).trans h3⟩)
        go_upto_region 5 with fail
        go_region_held3 (fun w' => w'.cell? ⟨g, na * 2, none⟩ = some (.slice A1 n1 c1) ∧ w'.cell? ⟨g, na * 2 + 1, none⟩ = some (.slice A2 n2 c2) ∧ w'.cell? ⟨g, hh * 2, none⟩ = some (.slice A3 n3 c3) ∧ w'.cell? ⟨g, hh * 2 + 1, none⟩ = some (.slice A4 n4 c4))
          (first | exact ⟨x1, x2, y1, y2⟩ | exact ⟨v1, v2, v3, v4⟩)
          (first | (go_at_call 24; refine (HC.out 1).mono ?_; rintro e w4 ⟨q, rfl, hq, hb4⟩; have hr4 := HR.out.below hb4; have v1 := hr4.fst HLA.out; have v2 := hr4.snd HLA.out; have v3 := hr4.fst HLH.out; have v4 := hr4.snd HLH.out; dsimp only at v1 v2 v3 v4; have HR4 := Lib.hid hr4; have HB4 := Lib.hid hb4; clear hr4 hb4))
        clear x1 x2 y1 y2 v1 v2 v3 v4
        go_wp2
        have h8 := HCH.out
        have h9 := HHH.out
        refine ⟨⟨ci, ch, by rw [HII.out], by rw [HCH.out], HDN.out HLT.out, HR4.out, only_trans HG.out (only_of_below HB4.out _)⟩, by simp [intOf]; omega⟩
    · have hij : ci = cj := by have := hsr.ij; omega
      subst hij
      have hdone := hsr.done HRK.out HV.out
      have HD := Lib.hid hdone
      have hge : ¬ (i' : Int) < (j' : Int) := by omega
      have s5 : IntKind.i64.wrap ((i' : Int) - 1) = ((na + ci : Nat) : Int) := (IntWalk.i64_in _ (by omega)).trans (by have := HNM.out; omega)
      obtain ⟨nc, hnc⟩ : ∃ nc, nc = na + ci := ⟨_, rfl⟩
      rw [← hnc] at s5
      have hcv : ci ≤ nv := hjl
      have HNC := Lib.hid hnc
      have HI2 := Lib.hid (show Mov1SerR w0 g na ci x v z e (.int .i64 (na : Int)) wr from ⟨0, Nat.zero_le _, rfl, by rw [List.take_zero, List.drop_zero, List.append_nil, ← HL.out]; exact HR.out, HG.out⟩)
      clear hrow hg hsr hdone hnc hi' hj' hlt
      go_wp2_with fail
      go_loopw [13] (fun i wr => Mov1SerR w0 g na ci x v z e i wr) (fun i _ => nc - (intOf i).toNat)
      case atStart => exact HI2.out
      case round =>
        obtain ⟨l, hlc, rfl, hrow, hg⟩ := hrel
        obtain ⟨kk, hkk⟩ : ∃ kk, kk = na + l := ⟨_, rfl⟩
        rw [← hkk]
        have HR5 := Lib.hid hrow
        have HG5 := Lib.hid hg
        have HKK := Lib.hid hkk
        by_cases hlt : kk < nc
        · have hll : l < ci := by have := HNC.out; omega
          have hlv : l < v.length := by rw [← HNV.out]; omega
          obtain ⟨q, hq⟩ : ∃ q, q = v[l] := ⟨_, rfl⟩
          have htk : v.take (l + 1) = v.take l ++ [q] := by rw [List.take_succ_eq_append_getElem hlv, hq]
          have hdr : v.drop l = q :: v.drop (l + 1) := by rw [List.drop_eq_getElem_cons hlv, hq]
          have hXl : (x ++ v.take l).length = kk := by rw [List.length_append, List.length_take, ← HNA.out, hkk, Nat.min_eq_left (by omega)]
          have e6 : x ++ v.take l ++ e :: (v.drop l ++ z) = (x ++ v.take l) ++ e :: [] ++ q :: (v.drop (l + 1) ++ z) := by rw [hdr]; simp
          have e7 : x ++ v.take (l + 1) ++ e :: (v.drop (l + 1) ++ z) = (x ++ v.take l) ++ q :: [] ++ e :: (v.drop (l + 1) ++ z) := by rw [htk]; simp
          have k1 := set_two (x ++ v.take l) [] (v.drop (l + 1) ++ z) e q
          rw [hXl, show kk + 1 + ([] : List (Value × Value)).length = kk + 1 from rfl, ← e7, ← e6] at k1
          have hPA : (x ++ v.take l ++ e :: (v.drop l ++ z))[kk]? = some e := by
            have := get_one (x ++ v.take l) (v.drop l ++ z) e
            rwa [hXl] at this
          have hPB : (x ++ v.take l ++ e :: (v.drop l ++ z))[kk + 1]? = some q := by
            have := get_one (x ++ v.take l ++ [e]) (v.drop (l + 1) ++ z) q
            rw [show (x ++ v.take l ++ [e]).length = kk + 1 by rw [List.length_append, hXl]; rfl] at this
            rw [hdr]
            simpa using this
          have hln : (x ++ v.take l ++ e :: (v.drop l ++ z)).length = n := by
            rw [HN.out, HL.out]
            simp only [List.length_append, List.length_cons, List.length_take, List.length_drop]
            omega
          have hSE : S e := HS.out e (by simp)
          have hSD : S q := HS.out q (by rw [hq]; simp [List.getElem_mem])
          have K1 := Lib.hid k1
          have HLN := Lib.hid hln
          clear hkk hq htk hdr hXl e6 e7 k1 hln
          obtain ⟨q1, q2⟩ := q
          obtain ⟨f1, f2⟩ := e
          obtain ⟨⟨A3, n3, c3, q3⟩, A4, n4, c4, q4⟩ := HIS.out _ hSD
          dsimp only at q3 q4
          subst q3 q4
          obtain ⟨⟨A1, n1, c1, q1⟩, A2, n2, c2, q2⟩ := HIS.out _ hSE
          dsimp only at q1 q2
          subst q1 q2
          have x1 := hrow.fst hPA
          have x2 := hrow.snd hPA
          have y1 := hrow.fst hPB
          have y2 := hrow.snd hPB
          dsimp only at x1 x2 y1 y2
          have z1 := hrow.frozen (kk * 2)
          have z2 := hrow.frozen (kk * 2 + 1)
          have z3 := hrow.frozen ((kk + 1) * 2)
          have z4 := hrow.frozen ((kk + 1) * 2 + 1)
          have hkn : kk + 1 < n := by have := HNC.out; have := HNB.out; have := HNM.out; omega
          have s6 : IntKind.i64.wrap ((kk : Int) + 1) = ((kk + 1 : Nat) : Int) := (IntWalk.i64_in _ (by omega)).trans (by omega)
          obtain ⟨k2, hk2⟩ : ∃ k2, k2 = kk + 1 := ⟨_, rfl⟩
          rw [← hk2] at y1 y2 z3 z4 s6 hkn
          have hkl : kk < k2 := by omega
          have HK2 := Lib.hid hk2
          clear hrow hg hPA hPB hSE hSD hk2 hge
          go_upto_region 11 with fail
          clear s5
          go_region
          clear x1 x2 y1 y2 z1 z2 z3 z4
          go_wp2
          refine ⟨⟨l + 1, hll, by rw [HK2.out, HKK.out]; rfl, ?_, only_drew (only_setCell (only_setCell (only_setCell (only_setCell HG5.out (.inl rfl) _) (.inl rfl) _) (.inl rfl) _) (.inl rfl) _)⟩, by have := HK2.out; simp [intOf]; omega⟩
          have h9 := (HR5.out.set_ kk (.slice A3 n3 c3, .slice A4 n4 c4) (by rw [HLN.out]; omega)).set_ k2 (.slice A1 n1 c1, .slice A2 n2 c2) (by rw [List.length_set, HLN.out]; exact hkn)
          have hk9 := K1.out
          rw [← HK2.out] at hk9
          rw [hk9] at h9
          exact h9
        · have hll : l = ci := by have := HNC.out; omega
          subst hll
          have HF := Lib.hid (show ∃ s', Asc lt s' ∧ Alike lt ([e] ++ v) s' ∧ s'.length = v.length + 1 ∧ RowAt wr g 34 (x ++ s' ++ z) ∧ w0.grownBy wr (some g) from ⟨v.take l ++ e :: v.drop l, HD.out.1, HD.out.2, by
              simp only [List.length_append, List.length_cons, List.length_take, List.length_drop]
              rw [← HNV.out]
              omega, by have := HR5.out; simpa using this, HG5.out⟩)
          clear hrow hg hkk hge
          go_wp2
          (try simp only [Exit.inBlock, Exit.then])
          refine bodyPost_ret (results_none rfl _ _ _) rfl ?_
          obtain ⟨s', h1, h2, h3, h4, h5⟩ := HF.out
          exact ⟨rfl, s', h1, h2, h3, by first | exact h4 | (rw [← List.append_assoc]; exact h4), h5⟩
end Go.Proofs.Ytnglejopbpnknaa
namespace Go.Proofs.Ytnglejopbpnknaa
open Go.RowKit
def Mov2SerR (w0 : World) (g na ci : Nat) (x u z : List (Value × Value)) (e : Value × Value) (i : Value) (wr : World) : Prop :=
  ∃ p : Nat, ci ≤ p ∧ p ≤ u.length ∧ i = .int .i64 ((na + p : Nat) : Int) ∧ RowAt wr g 34 (x ++ u.take p ++ e :: (u.drop p ++ z)) ∧ w0.grownBy wr (some g)
def Sea2SerR (w0 : World) (g na : Nat) (lt : Value × Value → Value × Value → Bool) (L u : List (Value × Value)) (e : Value × Value) (i j : Value) (wr : World) : Prop :=
  ∃ ci cj : Nat, i = .int .i64 ((na + ci : Nat) : Int) ∧ j = .int .i64 ((na + cj : Nat) : Int) ∧ Srch2 lt u e ci cj ∧ RowAt wr g 34 L ∧ w0.grownBy wr (some g)
set_option maxRecDepth 100000 in
set_option maxHeartbeats 6400000 in
theorem sym2_ser (w0 w : World) (g n c : Nat) (S : Value × Value → Prop) (lt : Value × Value → Value × Value → Bool) (hr : Rank lt) (hIs : ∀ p, S p → IsSer p) (hC : CmpSer w0 g S lt) (x u z : List (Value × Value)) (e : Value × Value) (a m b : Int) (hw : w0.grownBy w (some g))
    (h : RowAt w g 34 (x ++ u ++ e :: z)) (hS : ∀ p ∈ x ++ u ++ e :: z, S p) (hn : n = (x ++ u ++ e :: z).length) (hl : n ≤ 100000) (hu : Asc lt u) (hu1 : u.length ≠ 1) (ha : a = x.length) (hm : m = ((x.length + u.length : Nat) : Int)) (hb : b = ((x.length + u.length + 1 : Nat) : Int)) :
    Calls Try.prog 55 #[.slice (some ⟨g, 0, none⟩) n c, .int .i64 a, .int .i64 m, .int .i64 b, .func (.func 24) #[] #[]] w fun e' w' => e' = .returned (.tuple #[]) ∧ ∃ s', Asc lt s' ∧ Alike lt (u ++ [e]) s' ∧ s'.length = u.length + 1 ∧ RowAt w' g 34 (x ++ s' ++ z) ∧ w0.grownBy w' (some g) := by
  obtain ⟨na, hna⟩ : ∃ n, n = x.length := ⟨_, rfl⟩
  obtain ⟨nu, hnu⟩ : ∃ n, n = u.length := ⟨_, rfl⟩
  obtain ⟨nm, hnm⟩ : ∃ k, k = na + nu := ⟨_, rfl⟩
  obtain ⟨nb, hnb⟩ : ∃ k, k = nm + 1 := ⟨_, rfl⟩
  have hbn : nb ≤ n := by rw [hnb, hnm, hna, hnu, hn]; simp only [List.length_append, List.length_cons]; omega
  rw [← hna] at ha
  rw [← hna, ← hnu, ← hnm] at hm
  rw [← hna, ← hnu, ← hnm, ← hnb] at hb
  subst ha hm hb
  have hd1 : IntKind.i64.wrap ((nm : Int) - (na : Int)) = (nu : Int) := (IntWalk.i64_in _ (by omega)).trans (by omega)
  have hd2 : IntKind.i64.wrap ((nb : Int) - (nm : Int)) = 1 := (IntWalk.i64_in _ (by omega)).trans (by omega)
  have hd3 : ¬ (nu : Int) = 1 := by omega
  have hd4 : ((nu : Int) == 1) = false := beq_eq_false_iff_ne.2 hd3
  obtain ⟨L, hL⟩ : ∃ L, L = x ++ u ++ e :: z := ⟨_, rfl⟩
  rw [← hL] at h hn
  have hsr : Srch2 lt u e 0 nu := by rw [hnu]; exact Srch2.start u e
  have HI := Lib.hid (show Sea2SerR w0 g na lt L u e (.int .i64 (na : Int)) (.int .i64 (nm : Int)) w from ⟨0, nu, rfl, by rw [hnm], hsr, h, hw⟩)
  have HS := Lib.hid hS
  have HN := Lib.hid hn
  have HNA := Lib.hid hna
  have HNU := Lib.hid hnu
  have HNM := Lib.hid hnm
  have HNB := Lib.hid hnb
  have HL := Lib.hid hL
  have HU := Lib.hid hu
  have HRK := Lib.hid hr
  have HIS := Lib.hid hIs
  have HCM := Lib.hid hC
  have hnm9 : nm < n := by omega
  have hna9 : na ≤ 100000 := by omega
  clear h hS hn hna hnu hnm hnb hr hIs hC hw hL hu hsr hu1
  go_enter Try.func55, Try.ntmps55
  go_wp2_with fail
  clear hd1 hd2 hd3 hd4
  go_loopw [14, 15] (fun i j wr => Sea2SerR w0 g na lt L u e i j wr) (fun i j _ => (intOf j).toNat - (intOf i).toNat)
  case atStart => exact HI.out
  case round =>
    obtain ⟨ci, cj, rfl, rfl, hsr, hrow, hg⟩ := hrel
    have HR := Lib.hid hrow
    have HG := Lib.hid hg
    have HSR := Lib.hid hsr
    have hjl := hsr.jl
    rw [← HNU.out] at hjl
    obtain ⟨i', hi'⟩ : ∃ i', i' = na + ci := ⟨_, rfl⟩
    obtain ⟨j', hj'⟩ : ∃ j', j' = na + cj := ⟨_, rfl⟩
    rw [← hi', ← hj']
    have hjn : j' ≤ nm := by have := HNM.out; omega
    have HII := Lib.hid hi'
    have HJJ := Lib.hid hj'
    by_cases hlt : i' < j'
    · obtain ⟨hh, hhh⟩ : ∃ hh, hh = (i' + j') / 2 := ⟨_, rfl⟩
      obtain ⟨ch, hch⟩ : ∃ ch, hh = na + ch := ⟨hh - na, by omega⟩
      have s1 : IntKind.i64.wrap ((i' : Int) + (j' : Int)) = (i' : Int) + (j' : Int) := IntWalk.i64_in _ (by omega)
      have s3 : ((i' : Int) + (j' : Int)) / 2 = (hh : Int) := by omega
      have hc1 : ci ≤ ch := by omega
      have hc2 : ch < cj := by omega
      have hcu : ch < u.length := by rw [← HNU.out]; omega
      obtain ⟨q, hq⟩ : ∃ q, u[ch]? = some q := ⟨_, List.getElem?_eq_getElem hcu⟩
      have hLh : L[hh]? = some q := by
        rw [HL.out, List.getElem?_append_left (by rw [List.length_append, ← HNA.out]; omega), List.getElem?_append_right (by rw [← HNA.out]; omega), ← HNA.out, show hh - na = ch by omega]
        exact hq
      have hLa : L[nm]? = some e := by
        have := get_one (x ++ u) z e
        rw [show (x ++ u).length = nm by rw [List.length_append, ← HNA.out, ← HNU.out, HNM.out]] at this
        rw [HL.out]
        exact this
      have hSE : S e := HS.out e (by simp)
      have hSD : S q := HS.out q (by have := List.mem_of_getElem? hq; simp [this])
      have hup := fun hl => hsr.up HRK.out HU.out hc1 hc2 hq hl
      have hdn := fun hl => hsr.down HRK.out HU.out hc1 hc2 hq hl
      obtain ⟨q1, q2⟩ := q
      obtain ⟨f1, f2⟩ := e
      obtain ⟨⟨A3, n3, c3, q3⟩, A4, n4, c4, q4⟩ := HIS.out _ hSD
      dsimp only at q3 q4
      subst q3 q4
      obtain ⟨⟨A1, n1, c1, q1⟩, A2, n2, c2, q2⟩ := HIS.out _ hSE
      dsimp only at q1 q2
      subst q1 q2
      have x1 := hrow.fst hLa
      have x2 := hrow.snd hLa
      have y1 := hrow.fst hLh
      have y2 := hrow.snd hLh
      dsimp only at x1 x2 y1 y2
      have hhn : hh < n := by omega
      have b1 : (nm : Int) < (n : Int) := by omega
      have b2 : (hh : Int) < (n : Int) := by omega
      have b3 : (0 : Int) ≤ (nm : Int) := by omega
      have b4 : (0 : Int) ≤ (hh : Int) := by omega
      have s4 : IntKind.i64.wrap ((hh : Int) + 1) = (hh : Int) + 1 := IntWalk.i64_in _ (by omega)
      have HHH := Lib.hid hhh
      have HCH := Lib.hid hch
      have HLH := Lib.hid hLh
      have HLA := Lib.hid hLa
      have HSE := Lib.hid hSE
      have HSD := Lib.hid hSD
      have HUP := Lib.hid hup
      have HDN := Lib.hid hdn
      clear hrow hg hsr hhh hch hq hLh hLa hSE hSD hup hdn hi' hj' hcu
      cases hlt2 : lt (.slice A1 n1 c1, .slice A2 n2 c2) (.slice A3 n3 c3, .slice A4 n4 c4) with
      | false =>
        have HLT := Lib.hid hlt2
        clear hlt2
        have HC := Lib.hid (show ∀ z, Calls Try.prog 24 #[.agg #[.slice A1 n1 c1, .slice A2 n2 c2], .agg #[.slice A3 n3 c3, .slice A4 n4 c4]] (wr.drewN z) fun e W' => ∃ q : Int, e = .returned (.int .i64 q) ∧ 0 ≤ q ∧ Below wr.heap.size wr W' from fun z => (HCM.out (wr.drewN z) (only_drewN HG.out z) (.slice A1 n1 c1, .slice A2 n2 c2) (.slice A3 n3 c3, .slice A4 n4 c4) HSE.out HSD.out).mono fun e W' ⟨q, h1, h2, h3⟩ => ⟨q, h1, by rw [HLT.out] at h2; simp at h2; omega, (below_drewN (Below.refl _ _) z).trans h3⟩)
        go_upto_region 17 with fail
        go_region_held3 (fun w' => w'.cell? ⟨g, nm * 2, none⟩ = some (.slice A1 n1 c1) ∧ w'.cell? ⟨g, nm * 2 + 1, none⟩ = some (.slice A2 n2 c2) ∧ w'.cell? ⟨g, hh * 2, none⟩ = some (.slice A3 n3 c3) ∧ w'.cell? ⟨g, hh * 2 + 1, none⟩ = some (.slice A4 n4 c4))
          (first | exact ⟨x1, x2, y1, y2⟩ | exact ⟨v1, v2, v3, v4⟩)
          (first | (go_at_call 24; refine (HC.out 1).mono ?_; rintro e w4 ⟨q, rfl, hq, hb4⟩; have hq2 : decide (q < 0) = false := by { first | exact decide_eq_false (by omega) | exact decide_eq_true hq }; have hq3 : decide (0 ≤ q) = true := by { first | exact decide_eq_false (by omega) | exact decide_eq_true hq }; have hr4 := HR.out.below hb4; have v1 := hr4.fst HLA.out; have v2 := hr4.snd HLA.out; have v3 := hr4.fst HLH.out; have v4 := hr4.snd HLH.out; dsimp only at v1 v2 v3 v4; have HR4 := Lib.hid hr4; have HB4 := Lib.hid hb4; clear hr4 hb4))
        clear x1 x2 y1 y2 v1 v2 v3 v4
        go_wp2
        have h8 := HCH.out
        have h9 := HHH.out
        refine ⟨⟨ch + 1, cj, by rw [show ((na + (ch + 1) : Nat) : Int) = (hh : Int) + 1 by omega], by rw [HJJ.out], HUP.out HLT.out, HR4.out, only_trans HG.out (only_of_below HB4.out _)⟩, by simp [intOf]; omega⟩
      | true =>
        have HLT := Lib.hid hlt2
        clear hlt2
        have HC := Lib.hid (show ∀ z, Calls Try.prog 24 #[.agg #[.slice A1 n1 c1, .slice A2 n2 c2], .agg #[.slice A3 n3 c3, .slice A4 n4 c4]] (wr.drewN z) fun e W' => ∃ q : Int, e = .returned (.int .i64 q) ∧ q < 0 ∧ Below wr.heap.size wr W' from fun z => (HCM.out (wr.drewN z) (only_drewN HG.out z) (.slice A1 n1 c1, .slice A2 n2 c2) (.slice A3 n3 c3, .slice A4 n4 c4) HSE.out HSD.out).mono fun e W' ⟨q, h1, h2, h3⟩ => ⟨q, h1, by rw [HLT.out] at h2; simp at h2; omega, (below_drewN (Below.refl _ _) z).trans h3⟩)
        go_upto_region 17 with fail
        go_region_held3 (fun w' => w'.cell? ⟨g, nm * 2, none⟩ = some (.slice A1 n1 c1) ∧ w'.cell? ⟨g, nm * 2 + 1, none⟩ = some (.slice A2 n2 c2) ∧ w'.cell? ⟨g, hh * 2, none⟩ = some (.slice A3 n3 c3) ∧ w'.cell? ⟨g, hh * 2 + 1, none⟩ = some (.slice A4 n4 c4))
          (first | exact ⟨x1, x2, y1, y2⟩ | exact ⟨v1, v2, v3, v4⟩)
          (first | (go_at_call 24; refine (HC.out 1).mono ?_; rintro e w4 ⟨q, rfl, hq, hb4⟩; have hq2 : decide (q < 0) = true := by { first | exact decide_eq_false (by omega) | exact decide_eq_true hq }; have hq3 : decide (0 ≤ q) = false := by { first | exact decide_eq_false (by omega) | exact decide_eq_true hq }; have hr4 := HR.out.below hb4; have v1 := hr4.fst HLA.out; have v2 := hr4.snd HLA.out; have v3 := hr4.fst HLH.out; have v4 := hr4.snd HLH.out; dsimp only at v1 v2 v3 v4; have HR4 := Lib.hid hr4; have HB4 := Lib.hid hb4; clear hr4 hb4))
        clear x1 x2 y1 y2 v1 v2 v3 v4
        go_wp2
        have h8 := HCH.out
        have h9 := HHH.out
        refine ⟨⟨ci, ch, by rw [HII.out], by rw [HCH.out], HDN.out HLT.out, HR4.out, only_trans HG.out (only_of_below HB4.out _)⟩, by simp [intOf]; omega⟩
    · have hij : ci = cj := by have := hsr.ij; omega
      subst hij
      have hdone := hsr.done HRK.out HU.out
      have HD := Lib.hid hdone
      have hge : ¬ (i' : Int) < (j' : Int) := by omega
      have hcv : ci ≤ nu := hjl
      have HI2 := Lib.hid (show Mov2SerR w0 g na ci x u z e (.int .i64 (nm : Int)) wr from ⟨nu, hcv, by rw [HNU.out]; exact Nat.le_refl _, by rw [HNM.out], by rw [HNU.out, List.take_length, List.drop_length, List.nil_append, ← HL.out]; exact HR.out, HG.out⟩)
      clear hrow hg hsr hdone hi' hj' hlt
      go_wp2_with fail
      go_loopw [17] (fun i wr => Mov2SerR w0 g na ci x u z e i wr) (fun i _ => (intOf i).toNat)
      case atStart => exact HI2.out
      case round =>
        obtain ⟨p, hcp, hpl, rfl, hrow, hg⟩ := hrel
        rw [← HNU.out] at hpl
        obtain ⟨kk, hkk⟩ : ∃ kk, kk = na + p := ⟨_, rfl⟩
        rw [← hkk]
        have HR5 := Lib.hid hrow
        have HG5 := Lib.hid hg
        have HKK := Lib.hid hkk
        by_cases hlt : i' < kk
        · have hpp : ci < p := by have := HII.out; omega
          obtain ⟨l, rfl⟩ : ∃ l, p = l + 1 := ⟨p - 1, by omega⟩
          have hlv : l < u.length := by rw [← HNU.out]; omega
          obtain ⟨q, hq⟩ : ∃ q, q = u[l] := ⟨_, rfl⟩
          have htk : u.take (l + 1) = u.take l ++ [q] := by rw [List.take_succ_eq_append_getElem hlv, hq]
          have hdr : u.drop l = q :: u.drop (l + 1) := by rw [List.drop_eq_getElem_cons hlv, hq]
          obtain ⟨kd, hkd⟩ : ∃ kd, kd = na + l := ⟨_, rfl⟩
          have hXl : (x ++ u.take l).length = kd := by rw [List.length_append, List.length_take, ← HNA.out, hkd, Nat.min_eq_left (by omega)]
          have e6 : x ++ u.take (l + 1) ++ e :: (u.drop (l + 1) ++ z) = (x ++ u.take l) ++ q :: [] ++ e :: (u.drop (l + 1) ++ z) := by rw [htk]; simp
          have e7 : x ++ u.take l ++ e :: (u.drop l ++ z) = (x ++ u.take l) ++ e :: [] ++ q :: (u.drop (l + 1) ++ z) := by rw [hdr]; simp
          have k1 := set_two (x ++ u.take l) [] (u.drop (l + 1) ++ z) q e
          rw [hXl, show kd + 1 + ([] : List (Value × Value)).length = kk by rw [hkd, hkk]; rfl, ← e7, ← e6, List.set_comm _ _ (by omega)] at k1
          have hPA : (x ++ u.take (l + 1) ++ e :: (u.drop (l + 1) ++ z))[kk]? = some e := by
            have := get_one (x ++ u.take (l + 1)) (u.drop (l + 1) ++ z) e
            rwa [show (x ++ u.take (l + 1)).length = kk by rw [List.length_append, List.length_take, ← HNA.out, hkk, Nat.min_eq_left (by omega)]] at this
          have hPB : (x ++ u.take (l + 1) ++ e :: (u.drop (l + 1) ++ z))[kd]? = some q := by
            have := get_one (x ++ u.take l) ([] ++ e :: (u.drop (l + 1) ++ z)) q
            rw [hXl] at this
            rw [e6, List.append_assoc]
            exact this
          have hln : (x ++ u.take (l + 1) ++ e :: (u.drop (l + 1) ++ z)).length = n := by
            rw [HN.out, HL.out]
            simp only [List.length_append, List.length_cons, List.length_take, List.length_drop]
            omega
          have hSE : S e := HS.out e (by simp)
          have hSD : S q := HS.out q (by rw [hq]; simp [List.getElem_mem])
          have K1 := Lib.hid k1
          have HLN := Lib.hid hln
          have hkl : kd < kk := by omega
          have s6 : IntKind.i64.wrap ((kk : Int) - 1) = (kd : Int) := (IntWalk.i64_in _ (by have := HNM.out; omega)).trans (by omega)
          have hkn : kk < n := by have := HNM.out; omega
          have HKD := Lib.hid hkd
          clear hkk hq htk hdr hXl e6 e7 k1 hln hkd
          obtain ⟨q1, q2⟩ := q
          obtain ⟨f1, f2⟩ := e
          obtain ⟨⟨A3, n3, c3, q3⟩, A4, n4, c4, q4⟩ := HIS.out _ hSD
          dsimp only at q3 q4
          subst q3 q4
          obtain ⟨⟨A1, n1, c1, q1⟩, A2, n2, c2, q2⟩ := HIS.out _ hSE
          dsimp only at q1 q2
          subst q1 q2
          have x1 := hrow.fst hPA
          have x2 := hrow.snd hPA
          have y1 := hrow.fst hPB
          have y2 := hrow.snd hPB
          dsimp only at x1 x2 y1 y2
          have z1 := hrow.frozen (kk * 2)
          have z2 := hrow.frozen (kk * 2 + 1)
          have z3 := hrow.frozen (kd * 2)
          have z4 := hrow.frozen (kd * 2 + 1)
          clear hrow hg hPA hPB hSE hSD hge
          go_upto_region 23 with fail
          go_region
          clear x1 x2 y1 y2 z1 z2 z3 z4
          go_wp2
          refine ⟨⟨l, by omega, by rw [← HNU.out]; omega, by rw [HKD.out], ?_, only_drew (only_setCell (only_setCell (only_setCell (only_setCell HG5.out (.inl rfl) _) (.inl rfl) _) (.inl rfl) _) (.inl rfl) _)⟩, by simp [intOf]; omega⟩
          have h9 := (HR5.out.set_ kk (.slice A3 n3 c3, .slice A4 n4 c4) (by rw [HLN.out]; exact hkn)).set_ kd (.slice A1 n1 c1, .slice A2 n2 c2) (by rw [List.length_set, HLN.out]; omega)
          rw [K1.out] at h9
          exact h9
        · have hll : p = ci := by have := HII.out; omega
          subst hll
          have HF := Lib.hid (show ∃ s', Asc lt s' ∧ Alike lt (u ++ [e]) s' ∧ s'.length = u.length + 1 ∧ RowAt wr g 34 (x ++ s' ++ z) ∧ w0.grownBy wr (some g) from ⟨u.take p ++ e :: u.drop p, HD.out.1, HD.out.2, by
              simp only [List.length_append, List.length_cons, List.length_take, List.length_drop]
              rw [← HNU.out]
              omega, by have := HR5.out; simpa using this, HG5.out⟩)
          clear hrow hg hkk hge
          go_wp2
          (try simp only [Exit.inBlock, Exit.then])
          refine bodyPost_ret (results_none rfl _ _ _) rfl ?_
          obtain ⟨s', h1, h2, h3, h4, h5⟩ := HF.out
          exact ⟨rfl, s', h1, h2, h3, by first | exact h4 | (rw [← List.append_assoc]; exact h4), h5⟩
end Go.Proofs.Ytnglejopbpnknaa
namespace Go.Proofs.Ytnglejopbpnknaa
section
variable {α : Type} {lt : α → α → Bool}
/-- where the rows lie: a, m, b are the bounds of u and v in L -/
structure Lies (L x u v z : List α) (a m b : Nat) : Prop where
  eq : L = x ++ u ++ v ++ z
  aE : a = x.length
  mE : m = a + u.length
  bE : b = m + v.length
theorem Lies.inU {L x u v z : List α} {a m b : Nat} (h : Lies L x u v z a m b) {i : Nat} (h1 : a ≤ i) (h2 : i < m) : L[i]? = u[i - a]? := by
  have ha := h.aE
  have hm := h.mE
  rw [h.eq, List.append_assoc, List.getElem?_append_left (by rw [List.length_append]; omega), List.getElem?_append_right (by omega), ha]
theorem Lies.inV {L x u v z : List α} {a m b : Nat} (h : Lies L x u v z a m b) {i : Nat} (h1 : m ≤ i) (h2 : i < b) : L[i]? = v[i - m]? := by
  have ha := h.aE
  have hm := h.mE
  have hb := h.bE
  rw [h.eq, List.getElem?_append_left (by simp only [List.length_append]; omega), List.getElem?_append_right (by rw [List.length_append]; omega), List.length_append, ← ha, ← hm]
theorem Lies.len {L x u v z : List α} {a m b : Nat} (h : Lies L x u v z a m b) : b ≤ L.length := by
  have ha := h.aE
  have hm := h.mE
  have hb := h.bE
  rw [h.eq]
  simp only [List.length_append]
  omega
theorem Lies.ascU (hr : Rank lt) {L x u v z : List α} {a m b : Nat} (h : Lies L x u v z a m b) (hu : Asc lt u) (e0 : α) : ∀ i j, a ≤ i → i ≤ j → j < m → lt (L.getD j e0) (L.getD i e0) = false := fun i j h1 h2 h3 => by
  rcases Nat.lt_or_ge i j with h4 | h4
  · have hm := h.mE
    have e1 : u[i - a]? = some u[i - a] := List.getElem?_eq_getElem (by omega)
    have e2 : u[j - a]? = some u[j - a] := List.getElem?_eq_getElem (by omega)
    rw [List.getD_eq_getElem?_getD, List.getD_eq_getElem?_getD, h.inU h1 (by omega), h.inU (by omega) h3, e1, e2]
    exact asc_get hu (by omega) e1 e2
  · have : i = j := by omega
    rw [this]; exact hr.irr _
theorem Lies.ascV (hr : Rank lt) {L x u v z : List α} {a m b : Nat} (h : Lies L x u v z a m b) (hv : Asc lt v) (e0 : α) : ∀ i j, m ≤ i → i ≤ j → j < b → lt (L.getD j e0) (L.getD i e0) = false := fun i j h1 h2 h3 => by
  rcases Nat.lt_or_ge i j with h4 | h4
  · have hb := h.bE
    have e1 : v[i - m]? = some v[i - m] := List.getElem?_eq_getElem (by omega)
    have e2 : v[j - m]? = some v[j - m] := List.getElem?_eq_getElem (by omega)
    rw [List.getD_eq_getElem?_getD, List.getD_eq_getElem?_getD, h.inV h1 (by omega), h.inV (by omega) h3, e1, e2]
    exact asc_get hv (by omega) e1 e2
  · have : i = j := by omega
    rw [this]; exact hr.irr _
/-- the search: i and j close in between s0 and r0 -/
structure Srch3 (lt : α → α → Bool) (f : Nat → α) (p1 s0 r0 i j : Nat) : Prop where
  lo0 : s0 ≤ i
  ij : i ≤ j
  hi0 : j ≤ r0
  lo : ∀ c, s0 ≤ c → c < i → lt (f (p1 - c)) (f c) = false
  hi : ∀ c, j ≤ c → c < r0 → lt (f (p1 - c)) (f c) = true
theorem Srch3.start {f : Nat → α} {p1 s0 r0 : Nat} (h : s0 ≤ r0) : Srch3 lt f p1 s0 r0 s0 r0 := ⟨Nat.le_refl _, h, Nat.le_refl _, fun c h1 h2 => by omega, fun c h1 h2 => by omega⟩
section
variable {L x u v z : List α} {a m b mid s0 r0 i j h : Nat} {e0 : α}
theorem Srch3.up (hr : Rank lt) (hL : Lies L x u v z a m b) (hu : Asc lt u) (hv : Asc lt v) (hc : Cut a m b mid s0 r0) (s : Srch3 lt (fun c => L.getD c e0) (mid + m - 1) s0 r0 i j) (h1 : i ≤ h) (h2 : h < j) (hl : lt (L.getD (mid + m - 1 - h) e0) (L.getD h e0) = false) :
    Srch3 lt (fun c => L.getD c e0) (mid + m - 1) s0 r0 (h + 1) j :=
  ⟨by have := s.lo0; omega, h2, s.hi0, fun c c1 c2 => sym_mono hr (fun c => L.getD c e0) hc (hL.ascU hr hu e0) (hL.ascV hr hv e0) c1 (show c ≤ h by omega) (by have := s.hi0; omega) hl, s.hi⟩
theorem Srch3.down (hr : Rank lt) (hL : Lies L x u v z a m b) (hu : Asc lt u) (hv : Asc lt v) (hc : Cut a m b mid s0 r0) (s : Srch3 lt (fun c => L.getD c e0) (mid + m - 1) s0 r0 i j) (h1 : i ≤ h) (h2 : h < j) (hl : lt (L.getD (mid + m - 1 - h) e0) (L.getD h e0) = true) :
    Srch3 lt (fun c => L.getD c e0) (mid + m - 1) s0 r0 i h :=
  ⟨s.lo0, h1, by have := s.hi0; omega, s.lo, fun c c1 c2 => by
    cases e : lt (L.getD (mid + m - 1 - c) e0) (L.getD c e0) with
    | true => rfl
    | false =>
      have := sym_mono hr (fun c => L.getD c e0) hc (hL.ascU hr hu e0) (hL.ascV hr hv e0) (show s0 ≤ h by have := s.lo0; omega) c1 c2 e
      rw [hl] at this
      exact absurd this (by decide)⟩
/-- what the found cut says of the rows' parts -/
theorem Srch3.done (hr : Rank lt) (hL : Lies L x u v z a m b) (hu : Asc lt u) (hv : Asc lt v) (hc : Cut a m b mid s0 r0) (s : Srch3 lt (fun c => L.getD c e0) (mid + m - 1) s0 r0 i i) :
    a ≤ i ∧ i ≤ m ∧ i ≤ mid ∧ mid - i ≤ v.length ∧ (∀ p ∈ u.take (i - a), ∀ q ∈ v.drop (mid - i), lt q p = false) ∧ ∀ p ∈ u.drop (i - a), ∀ q ∈ v.take (mid - i), lt q p = true := by
  obtain ⟨b1, b2, b3, b4, b5, b6⟩ := hc.bounds
  obtain ⟨k1, k2, k3, k4, k5, k6⟩ := sym_cut hr (fun c => L.getD c e0) hc (hL.ascU hr hu e0) (hL.ascV hr hv e0) s.lo0 s.hi0 s.lo s.hi
  have hm := hL.mE
  have hb := hL.bE
  have hi0 := s.hi0
  have gu : ∀ c p, u[c]? = some p → L.getD (a + c) e0 = p := fun c p hp => by
    have := (List.getElem?_eq_some_iff.1 hp).1
    rw [List.getD_eq_getElem?_getD, hL.inU (by omega) (by omega), show a + c - a = c by omega, hp]; rfl
  have gv : ∀ c q, v[c]? = some q → L.getD (m + c) e0 = q := fun c q hq => by
    have := (List.getElem?_eq_some_iff.1 hq).1
    rw [List.getD_eq_getElem?_getD, hL.inV (by omega) (by omega), show m + c - m = c by omega, hq]; rfl
  refine ⟨k1, k2, by omega, by omega, fun p hp q hq => ?_, fun p hp q hq => ?_⟩
  · obtain ⟨c, hc1⟩ := List.mem_iff_getElem?.1 hp
    obtain ⟨d, hd1⟩ := List.mem_iff_getElem?.1 hq
    have hcl := (List.getElem?_eq_some_iff.1 hc1).1
    rw [List.length_take] at hcl
    rw [List.getElem?_take_of_lt (by omega)] at hc1
    rw [List.getElem?_drop] at hd1
    have hdl := (List.getElem?_eq_some_iff.1 hd1).1
    have := k5 (a + c) (m + (mid - i + d)) (by omega) (by omega) (by omega) (by omega)
    rw [gu c p hc1, gv _ q hd1] at this
    exact this
  · obtain ⟨c, hc1⟩ := List.mem_iff_getElem?.1 hp
    obtain ⟨d, hd1⟩ := List.mem_iff_getElem?.1 hq
    have hdl := (List.getElem?_eq_some_iff.1 hd1).1
    rw [List.length_take] at hdl
    rw [List.getElem?_take_of_lt (by omega)] at hd1
    rw [List.getElem?_drop] at hc1
    have hcl := (List.getElem?_eq_some_iff.1 hc1).1
    have := k6 (a + (i - a + c)) (m + d) (by omega) (by omega) (by omega) (by omega)
    rw [gu _ p hc1, gv d q hd1] at this
    exact this
end
end
end Go.Proofs.Ytnglejopbpnknaa
namespace Go.Proofs.Ytnglejopbpnknaa
open Go.RowKit
section
variable {α : Type} {lt : α → α → Bool}
structure Parts3 (lt : α → α → Bool) (x u v u1 u2 v1 v2 : List α) (na nm nb mid st en : Nat) : Prop where
  ue : u = u1 ++ u2
  ve : v = v1 ++ v2
  l0 : na = x.length
  l1 : st = na + u1.length
  l2 : nm = st + u2.length
  l3 : en = nm + v1.length
  l4 : nb = en + v2.length
  l5 : mid = st + v1.length
  c1 : ∀ p ∈ u1, ∀ q ∈ v2, lt q p = false
  c2 : ∀ p ∈ u2, ∀ q ∈ v1, lt q p = true
theorem Srch3.parts {L x u v z : List α} {a m b mid s0 r0 i : Nat} {e0 : α} (hr : Rank lt) (hL : Lies L x u v z a m b) (hu : Asc lt u) (hv : Asc lt v) (hc : Cut a m b mid s0 r0) (s : Srch3 lt (fun c => L.getD c e0) (mid + m - 1) s0 r0 i i) :
    ∃ u1 u2 v1 v2, Parts3 lt x u v u1 u2 v1 v2 a m b mid i (mid + m - i) := by
  obtain ⟨k1, k2, k3, k4, k5, k6⟩ := s.done hr hL hu hv hc
  have hm := hL.mE
  have hb := hL.bE
  refine ⟨_, _, _, _, (List.take_append_drop (i - a) u).symm, (List.take_append_drop (mid - i) v).symm, hL.aE, ?_, ?_, ?_, ?_, ?_, k5, k6⟩ <;> simp only [List.length_take, List.length_drop] <;> omega
variable {x u v u1 u2 v1 v2 z : List α} {na nm nb mid st en : Nat}
theorem Parts3.row0 (h : Parts3 lt x u v u1 u2 v1 v2 na nm nb mid st en) : x ++ u ++ v ++ z = (x ++ u1) ++ u2 ++ v1 ++ (v2 ++ z) := by rw [h.ue, h.ve]; simp
theorem Parts3.row1 : (x ++ u1) ++ v1 ++ u2 ++ (v2 ++ z) = x ++ u1 ++ v1 ++ (u2 ++ v2 ++ z) := by simp
/-- where there is nothing to turn -/
theorem Parts3.skip1 (h : Parts3 lt x u v u1 u2 v1 v2 na nm nb mid st en) (hc : ¬ (st < nm ∧ nm < en)) : x ++ u ++ v ++ z = x ++ u1 ++ v1 ++ (u2 ++ v2 ++ z) := by
  have h2 := h.l2
  have h3 := h.l3
  rw [h.row0]
  by_cases e : st < nm
  · have : v1 = [] := List.length_eq_zero_iff.1 (by omega)
    subst this; simp
  · have : u2 = [] := List.length_eq_zero_iff.1 (by omega)
    subst this; simp
theorem Parts3.skip2 (h : Parts3 lt x u v u1 u2 v1 v2 na nm nb mid st en) (hu : Asc lt u) (hv : Asc lt v) (hc : ¬ (na < st ∧ st < mid)) : Asc lt (u1 ++ v1) := by
  have h1 := h.l1
  have h5 := h.l5
  rw [h.ue] at hu
  rw [h.ve] at hv
  by_cases e : na < st
  · have : v1 = [] := List.length_eq_zero_iff.1 (by omega)
    subst this; rw [List.append_nil]; exact (asc_app.1 hu).1
  · have : u1 = [] := List.length_eq_zero_iff.1 (by omega)
    subst this; exact (asc_app.1 hv).1
theorem Parts3.skip3 (h : Parts3 lt x u v u1 u2 v1 v2 na nm nb mid st en) (hu : Asc lt u) (hv : Asc lt v) (hc : ¬ (mid < en ∧ en < nb)) : Asc lt (u2 ++ v2) := by
  have h2 := h.l2
  have h3 := h.l3
  have h4 := h.l4
  have h5 := h.l5
  rw [h.ue] at hu
  rw [h.ve] at hv
  by_cases e : mid < en
  · have : v2 = [] := List.length_eq_zero_iff.1 (by omega)
    subst this; rw [List.append_nil]; exact (asc_app.1 hu).2.1
  · have : u2 = [] := List.length_eq_zero_iff.1 (by omega)
    subst this; exact (asc_app.1 hv).2.1
theorem Parts3.join (hr : Rank lt) (h : Parts3 lt x u v u1 u2 v1 v2 na nm nb mid st en) (hu : Asc lt u) (hv : Asc lt v) {w1 w2 : List α} (h1 : Asc lt w1) (h2 : Asc lt w2) (a1 : Alike lt (u1 ++ v1) w1) (a2 : Alike lt (u2 ++ v2) w2) :
    Asc lt (w1 ++ w2) ∧ Alike lt (u ++ v) (w1 ++ w2) := by
  have hu' := hu
  have hv' := hv
  rw [h.ue] at hu' ⊢
  rw [h.ve] at hv' ⊢
  exact sym_split hr hu' hv' h.c1 h.c2 h1 h2 a1 a2
end
/-- behind the rotation -/
def Aft1 (w0 : World) (g : Nat) (t : TypeId) (x u1 v1 u2 v2 z : List (Value × Value)) (W : World) : Prop := RowAt W g t (x ++ u1 ++ v1 ++ (u2 ++ v2 ++ z)) ∧ w0.grownBy W (some g)
/-- behind the first half's merge -/
def Aft2 (w0 : World) (g : Nat) (t : TypeId) (lt : Value × Value → Value × Value → Bool) (x u1 v1 u2 v2 z : List (Value × Value)) (W : World) : Prop :=
  ∃ w1, Asc lt w1 ∧ Alike lt (u1 ++ v1) w1 ∧ w1.length = u1.length + v1.length ∧ RowAt W g t ((x ++ w1) ++ u2 ++ v2 ++ z) ∧ w0.grownBy W (some g)
end Go.Proofs.Ytnglejopbpnknaa
namespace Go.Proofs.Ytnglejopbpnknaa
open Go.RowKit
def FinSer (w0 : World) (g : Nat) (lt : Value × Value → Value × Value → Bool) (x u v z : List (Value × Value)) (w' : World) : Prop :=
  ∃ s', Asc lt s' ∧ Alike lt (u ++ v) s' ∧ s'.length = u.length + v.length ∧ RowAt w' g 34 (x ++ s' ++ z) ∧ w0.grownBy w' (some g)
def SymSerPost (w0 : World) (g : Nat) (lt : Value × Value → Value × Value → Bool) (x u v z : List (Value × Value)) (e' : Ending) (w' : World) : Prop :=
  e' = .returned (.tuple #[]) ∧ FinSer w0 g lt x u v z w'
/-- the merge of rows shorter than N together -/
def SymSerLaw (w0 : World) (g n c : Nat) (S : Value × Value → Prop) (lt : Value × Value → Value × Value → Bool) (N : Nat) : Prop :=
  ∀ (w : World) (x u v z : List (Value × Value)) (a m b : Int), u.length + v.length < N → 0 < u.length → 0 < v.length → w0.grownBy w (some g) → RowAt w g 34 (x ++ u ++ v ++ z) → (∀ p ∈ x ++ u ++ v ++ z, S p) → n = (x ++ u ++ v ++ z).length → Asc lt u → Asc lt v →
    a = x.length → m = ((x.length + u.length : Nat) : Int) → b = ((x.length + u.length + v.length : Nat) : Int) →
    Calls Try.prog 55 #[.slice (some ⟨g, 0, none⟩) n c, .int .i64 a, .int .i64 m, .int .i64 b, .func (.func 24) #[] #[]] w (SymSerPost w0 g lt x u v z)
section
variable {w0 : World} {g n c : Nat} {S : Value × Value → Prop} {lt : Value × Value → Value × Value → Bool} {x u v u1 u2 v1 v2 z : List (Value × Value)} {na nm nb mid st en : Nat}
theorem step1_ser (hIs : ∀ p, S p → IsSer p) (hp : Parts3 lt x u v u1 u2 v1 v2 na nm nb mid st en) (hS : ∀ p ∈ x ++ u ++ v ++ z, S p) (hn : n = (x ++ u ++ v ++ z).length) (hl : n ≤ 100000) {W : World} (h : RowAt W g 34 (x ++ u ++ v ++ z)) (hg : w0.grownBy W (some g)) (hc : st < nm ∧ nm < en) :
    Calls Try.prog 72 #[.slice (some ⟨g, 0, none⟩) n c, .int .i64 (st : Int), .int .i64 (nm : Int), .int .i64 (en : Int), .func (.func 24) #[] #[]] W fun e W' => e = .returned (.tuple #[]) ∧ Aft1 w0 g 34 x u1 v1 u2 v2 z W' := by
  have h0 := hp.l0
  have h1 := hp.l1
  have h2 := hp.l2
  have h3 := hp.l3
  rw [hp.row0] at h hS hn
  refine (rot_ser W g n c (x ++ u1) u2 v1 (v2 ++ z) _ _ _ _ h (fun p q => hIs p (hS p q)) hn hl (by omega) (by omega) (by rw [List.length_append]; omega) (by simp only [List.length_append]; omega) (by simp only [List.length_append]; omega)).mono ?_
  rintro e W' ⟨rfl, k1, k2⟩
  exact ⟨rfl, by rwa [Parts3.row1] at k1, only_trans hg k2⟩
theorem step2_ser (hr : Rank lt) {N : Nat} (hIH : SymSerLaw w0 g n c S lt N) (hp : Parts3 lt x u v u1 u2 v1 v2 na nm nb mid st en) (hN : nb - na = N) (hmb : mid < nb) (hu : Asc lt u) (hv : Asc lt v) (hS : ∀ p ∈ x ++ u ++ v ++ z, S p) (hn : n = (x ++ u ++ v ++ z).length) {W : World} (h : Aft1 w0 g 34 x u1 v1 u2 v2 z W) (hc : na < st ∧ st < mid) :
    Calls Try.prog 55 #[.slice (some ⟨g, 0, none⟩) n c, .int .i64 (na : Int), .int .i64 (st : Int), .int .i64 (mid : Int), .func (.func 24) #[] #[]] W fun e W' => e = .returned (.tuple #[]) ∧ Aft2 w0 g 34 lt x u1 v1 u2 v2 z W' := by
  have h0 := hp.l0
  have h1 := hp.l1
  have h2 := hp.l2
  have h3 := hp.l3
  have h4 := hp.l4
  have h5 := hp.l5
  rw [hp.ue] at hu hS hn
  rw [hp.ve] at hv hS hn
  refine (hIH W x u1 v1 (u2 ++ v2 ++ z) _ _ _ (by omega) (by omega) (by omega) h.2 h.1 (fun p q => hS p ?_) ?_ (asc_app.1 hu).1 (asc_app.1 hv).1 (by omega) (by omega) (by omega)).mono ?_
  · simp only [List.mem_append] at q ⊢
    rcases q with ((q | q) | q) | (q | q) | q <;> simp [q]
  · rw [hn]; simp only [List.length_append]; omega
  rintro e W' ⟨rfl, s', k1, k2, k3, k4, k5⟩
  refine ⟨rfl, s', k1, k2, k3, ?_, k5⟩
  rw [show x ++ s' ++ u2 ++ v2 ++ z = x ++ s' ++ (u2 ++ v2 ++ z) by simp]
  exact k4
theorem skip2_ser (hp : Parts3 lt x u v u1 u2 v1 v2 na nm nb mid st en) (hu : Asc lt u) (hv : Asc lt v) {W : World} (h : Aft1 w0 g 34 x u1 v1 u2 v2 z W) (hc : ¬ (na < st ∧ st < mid)) : Aft2 w0 g 34 lt x u1 v1 u2 v2 z W :=
  ⟨u1 ++ v1, hp.skip2 hu hv hc, Alike.refl _, by simp, by have := h.1; simpa using this, h.2⟩
theorem step3_ser (hr : Rank lt) {N : Nat} (hIH : SymSerLaw w0 g n c S lt N) (hp : Parts3 lt x u v u1 u2 v1 v2 na nm nb mid st en) (hN : nb - na = N) (hma : na < mid) (hu : Asc lt u) (hv : Asc lt v) (hS : ∀ p ∈ x ++ u ++ v ++ z, S p) (hn : n = (x ++ u ++ v ++ z).length) {W : World} (h : Aft2 w0 g 34 lt x u1 v1 u2 v2 z W) (hc : mid < en ∧ en < nb) :
    Calls Try.prog 55 #[.slice (some ⟨g, 0, none⟩) n c, .int .i64 (mid : Int), .int .i64 (en : Int), .int .i64 (nb : Int), .func (.func 24) #[] #[]] W fun e W' => e = .returned (.tuple #[]) ∧ FinSer w0 g lt x u v z W' := by
  have h0 := hp.l0
  have h1 := hp.l1
  have h2 := hp.l2
  have h3 := hp.l3
  have h4 := hp.l4
  have h5 := hp.l5
  obtain ⟨w1, k1, k2, k3, k4, k5⟩ := h
  have hu' := hu
  have hv' := hv
  rw [hp.ue] at hu' hS hn
  rw [hp.ve] at hv' hS hn
  refine (hIH W (x ++ w1) u2 v2 z _ _ _ (by omega) (by omega) (by omega) k5 k4 (fun p q => hS p ?_) ?_ (asc_app.1 hu').2.1 (asc_app.1 hv').2.1 (by rw [List.length_append]; omega) (by rw [List.length_append]; omega) (by rw [List.length_append]; omega)).mono ?_
  · simp only [List.mem_append] at q ⊢
    rcases q with (((q | q) | q) | q) | q
    · simp [q]
    · rcases List.mem_append.1 (k2.symm.mem hr q) with q | q <;> simp [q]
    · simp [q]
    · simp [q]
    · simp [q]
  · rw [hn]; simp only [List.length_append]; omega
  rintro e W' ⟨rfl, s', j1, j2, j3, j4, j5⟩
  obtain ⟨m1, m2⟩ := hp.join hr hu hv k1 j1 k2 j2
  refine ⟨rfl, w1 ++ s', m1, m2, ?_, ?_, j5⟩
  · rw [hp.ue, hp.ve]; simp only [List.length_append]; omega
  · rw [show x ++ (w1 ++ s') ++ z = x ++ w1 ++ s' ++ z by simp]
    exact j4
theorem skip3_ser (hr : Rank lt) (hp : Parts3 lt x u v u1 u2 v1 v2 na nm nb mid st en) (hu : Asc lt u) (hv : Asc lt v) {W : World} (h : Aft2 w0 g 34 lt x u1 v1 u2 v2 z W) (hc : ¬ (mid < en ∧ en < nb)) : FinSer w0 g lt x u v z W := by
  obtain ⟨w1, k1, k2, k3, k4, k5⟩ := h
  obtain ⟨m1, m2⟩ := hp.join hr hu hv k1 (hp.skip3 hu hv hc) k2 (Alike.refl _)
  refine ⟨w1 ++ (u2 ++ v2), m1, m2, ?_, ?_, k5⟩
  · rw [hp.ue, hp.ve]; simp only [List.length_append]; omega
  · rw [show x ++ (w1 ++ (u2 ++ v2)) ++ z = x ++ w1 ++ u2 ++ v2 ++ z by simp]
    exact k4
end
end Go.Proofs.Ytnglejopbpnknaa
