/- insertion sort of smp (57). The comparison that a series' samples are sorted by: of two times. Series in memory: as they are given, and as the merge owns them. Stable sorting, plainly: rows that are in order block by block. slices.CompactFunc of any row of samples: of those side by side with one time the first stays. The plain law of the merge: what is known by strict order and by what is found of each key. Stable sorting, plainly: one that goes into a row by a binary search, from either side. -/
import Derived.Test.YtnglejopbpnknaaJ04Utf
import Derived.Test.YtnglejopbpnknaaJ02Floor
import Derived.Test.YtnglejopbpnknaaJ03InsSer
import Derived.Laws.CopyRow
namespace Go.Proofs.Ytnglejopbpnknaa
open Go.RowKit
attribute [local go_sem] run_store_float
/-- the comparison that is handed in, wherever only block g and what is new has turned -/
def CmpSmp (w0 : World) (g : Nat) (S : Value × Value → Prop) (lt : Value × Value → Value × Value → Bool) : Prop :=
  ∀ W, w0.grownBy W (some g) → ∀ p q, S p → S q → Calls Try.prog 28 #[.agg #[p.1, p.2], .agg #[q.1, q.2]] W fun e W' => ∃ z : Int, e = .returned (.int .i64 z) ∧ (z < 0 ↔ lt p q = true) ∧ Below W.heap.size W W'
def InsSmpR (w0 : World) (g na : Nat) (lt : Value × Value → Value × Value → Bool) (x s z : List (Value × Value)) (i : Value) (wr : World) : Prop :=
  ∃ (k : Nat) (s1 : List (Value × Value)), 1 ≤ k ∧ i = .int .i64 ((na + k : Nat) : Int) ∧ (k ≤ s.length ∨ (s = [] ∧ k = 1)) ∧ s1.length = (s.take k).length ∧ Asc lt s1 ∧ Alike lt (s.take k) s1 ∧ RowAt wr g 51 (x ++ s1 ++ s.drop k ++ z) ∧ w0.grownBy wr (some g)
def In2SmpR (w0 : World) (g na : Nat) (lt : Value × Value → Value × Value → Bool) (e : Value × Value) (x s1 r : List (Value × Value)) (j : Value) (wr : World) : Prop :=
  ∃ (p1 p2 : List (Value × Value)) (l : Nat), l = p1.length ∧ j = .int .i64 ((na + l : Nat) : Int) ∧ s1 = p1 ++ p2 ∧ (∀ q ∈ p2, lt e q = true) ∧ RowAt wr g 51 (x ++ p1 ++ e :: (p2 ++ r)) ∧ w0.grownBy wr (some g)
set_option maxRecDepth 100000 in
set_option maxHeartbeats 6400000 in
theorem ins_smp (w0 w : World) (g n c : Nat) (S : Value × Value → Prop) (lt : Value × Value → Value × Value → Bool) (hr : Rank lt) (hIs : ∀ p, S p → IsSmp p) (hC : CmpSmp w0 g S lt) (x s z : List (Value × Value)) (a b : Int) (hw : w0.grownBy w (some g))
    (h : RowAt w g 51 (x ++ s ++ z)) (hS : ∀ p ∈ x ++ s ++ z, S p) (hn : n = (x ++ s ++ z).length) (hl : n ≤ 100000) (ha : a = x.length) (hb : b = (x ++ s).length) :
    Calls Try.prog 57 #[.slice (some ⟨g, 0, none⟩) n c, .int .i64 a, .int .i64 b, .func (.func 28) #[] #[]] w fun e w' => e = .returned (.tuple #[]) ∧ ∃ s', Asc lt s' ∧ Alike lt s s' ∧ s'.length = s.length ∧ RowAt w' g 51 (x ++ s' ++ z) ∧ w0.grownBy w' (some g) := by
  obtain ⟨na, hna⟩ : ∃ n, n = x.length := ⟨_, rfl⟩
  obtain ⟨ns, hns⟩ : ∃ n, n = s.length := ⟨_, rfl⟩
  obtain ⟨nb, hnb⟩ : ∃ k, k = na + ns := ⟨_, rfl⟩
  have hbn : nb ≤ n := by rw [hnb, hna, hns, hn]; simp only [List.length_append]; omega
  rw [← hna] at ha
  rw [show (x ++ s).length = nb by rw [List.length_append]; omega] at hb
  subst ha hb
  have hd1 : IntKind.i64.wrap ((na : Int) + 1) = ((na + 1 : Nat) : Int) := (IntWalk.i64_in _ (by omega)).trans (by omega)
  have h1 : InsSmpR w0 g na lt x s z (.int .i64 ((na + 1 : Nat) : Int)) w := by
    refine ⟨1, s.take 1, Nat.le_refl _, rfl, ?_, rfl, ?_, Alike.refl _, by rw [List.append_assoc x, List.take_append_drop]; exact h, hw⟩
    · cases s with
      | nil => exact .inr ⟨rfl, rfl⟩
      | cons e r => exact .inl (by simp)
    · cases s with
      | nil => exact List.Pairwise.nil
      | cons e r => simp [Asc]
  have HI := Lib.hid h1
  have HS := Lib.hid hS
  have HN := Lib.hid hn
  have HNA := Lib.hid hna
  have HNS := Lib.hid hns
  have HNB := Lib.hid hnb
  have HRK := Lib.hid hr
  have HIS := Lib.hid hIs
  have HCM := Lib.hid hC
  clear h hS hn hna hns hnb h1 hr hIs hC hw
  go_enter Try.func57, Try.ntmps57
  go_wp2_with fail
  clear hd1
  go_loopw [8] (fun i wr => InsSmpR w0 g na lt x s z i wr) (fun i _ => na + ns + 1 - (intOf i).toNat)
  case atStart => exact HI.out
  case round =>
    obtain ⟨k, s1, hk1, rfl, hks, hs1, hasc, hal, hrow, hg⟩ := hrel
    by_cases hlt : k < ns
    · have hkl : k < s.length := by rw [← HNS.out]; exact hlt
      obtain ⟨e, he⟩ : ∃ e, e = s[k] := ⟨_, rfl⟩
      obtain ⟨r, hr⟩ : ∃ r, r = s.drop (k + 1) ++ z := ⟨_, rfl⟩
      have hsd : s.drop k = e :: s.drop (k + 1) := by rw [List.drop_eq_getElem_cons hkl, he]
      have hst : s.take (k + 1) = s.take k ++ [e] := by rw [List.take_succ_eq_append_getElem hkl, he]
      have hsl : s1.length = k := by rw [hs1, List.length_take]; omega
      have hrow2 : RowAt wr g 51 (x ++ s1 ++ e :: ([] ++ r)) := by
        have := hrow
        rw [hsd] at this
        rw [hr]
        simpa using this
      have hnn : n = (x ++ s1 ++ e :: r).length := by
        rw [HN.out, hr]
        simp only [List.length_append, List.length_cons, List.length_drop]
        omega
      obtain ⟨i, hi⟩ : ∃ i, i = na + k := ⟨_, rfl⟩
      rw [← hi]
      have hin : i < nb := by have := HNB.out; omega
      have h2 : In2SmpR w0 g na lt e x s1 r (.int .i64 (i : Int)) wr := ⟨s1, [], k, hsl.symm, by rw [hi], by simp, (fun q hq => by cases hq), hrow2, hg⟩
      have hSS : ∀ p, p = e ∨ p ∈ s1 → S p := fun p hp => by
        rcases hp with rfl | hp
        · exact HS.out _ (by rw [he]; simp [List.getElem_mem])
        · have := List.mem_of_mem_take (hal.symm.mem HRK.out hp)
          exact HS.out _ (by simp [this])
      have HSS := Lib.hid hSS
      have HI2 := Lib.hid h2
      have HASC := Lib.hid hasc
      have HAL := Lib.hid hal
      have HST := Lib.hid hst
      have HSL := Lib.hid hsl
      have HII := Lib.hid hi
      have HRR := Lib.hid hr
      have HNN := Lib.hid hnn
      clear hks hs1 hasc hal hrow hg hkl he hr hsd hst hsl hrow2 hnn h2 hSS hi
      go_wp2_with fail
      go_loopw [9] (fun j wr => In2SmpR w0 g na lt e x s1 r j wr) (fun j _ => (intOf j).toNat)
      case atStart => exact HI2.out
      case round =>
        obtain ⟨p1, p2, l, hl1, rfl, hp, hq, hrow, hg⟩ := hrel
        have HR := Lib.hid hrow
        have HG := Lib.hid hg
        have hlk : l ≤ k := by rw [hl1, ← HSL.out, hp, List.length_append]; omega
        have hend : (∀ d, p1.getLast? = some d → lt e d = false) → ∀ W, RowAt W g 51 (x ++ p1 ++ e :: (p2 ++ r)) → w0.grownBy W (some g) → ∀ v : Int, v = ((na + (k + 1) : Nat) : Int) → InsSmpR w0 g na lt x s z (.int .i64 v) W := fun hd W hW hGW v hv => by
          subst hv
          refine ⟨k + 1, p1 ++ e :: p2, by omega, rfl, .inl (by rw [← HNS.out]; omega), ?_, ins_done HRK.out (hp ▸ HASC.out) hq hd, ?_, ?_, hGW⟩
          · rw [HST.out, List.length_append, List.length_append, List.length_cons, List.length_singleton]
            have h8 := HSL.out
            rw [hp, List.length_append] at h8
            have h9 := HNS.out
            rw [List.length_take]
            omega
          · rw [HST.out]
            refine (HAL.out.app (Alike.refl [e])).trans ?_
            rw [hp, List.append_assoc]
            exact (Alike.refl p1).app (ins_alike HRK.out hq)
          · have := hW
            rw [HRR.out] at this
            simpa using this
        obtain ⟨jn, hjn⟩ : ∃ jn, jn = na + l := ⟨_, rfl⟩
        rw [← hjn]
        by_cases hl0 : l = 0
        · have hend2 := hend (by
            have : p1 = [] := List.length_eq_zero_iff.1 (by omega)
            rw [this]
            intro d hd
            cases hd)
          have HE := Lib.hid hend2
          have hj1 : decide ((jn : Int) > (na : Int)) = false := decide_eq_false (by omega)
          have hj2 : decide ((na : Int) < (jn : Int)) = false := decide_eq_false (by omega)
          have hj3 : ¬ (na : Int) < (jn : Int) := by omega
          have hsum : IntKind.i64.wrap ((i : Int) + 1) = (i : Int) + 1 := IntWalk.i64_in _ (by omega)
          clear hend hend2 hrow hg hl1 hp hq
          go_upto_region 4 with fail
          go_quiet (fail)
          clear hj1 hj2 hj3
          go_wp2
          exact ⟨HE.out (wr.drewN nq) (HR.out.drewN nq) (only_drewN HG.out nq) _ (by have := HII.out; omega), by have := HII.out; simp [intOf]; omega⟩
        · obtain ⟨p0, dd, hp0⟩ : ∃ p0 dd, p1 = p0 ++ [dd] := by
            have hne : p1 ≠ [] := fun h => hl0 (by rw [hl1, h]; rfl)
            exact ⟨p1.dropLast, p1.getLast hne, (List.dropLast_concat_getLast hne).symm⟩
          obtain ⟨jd, hjd⟩ : ∃ jd, jd = na + p0.length := ⟨_, rfl⟩
          have hpl : p1.length = p0.length + 1 := by rw [hp0]; simp
          have hjj : jn = jd + 1 := by omega
          have hPJ : (x ++ p1 ++ e :: (p2 ++ r))[jn]? = some e := by
            have := get_one (x ++ p1) (p2 ++ r) e
            rwa [show (x ++ p1).length = jn by rw [List.length_append, hjn, hl1, HNA.out]] at this
          have hPD : (x ++ p1 ++ e :: (p2 ++ r))[jd]? = some dd := by
            have := get_one (x ++ p0) (e :: (p2 ++ r)) dd
            rw [show (x ++ p0).length = jd by rw [List.length_append, hjd, HNA.out]] at this
            rw [hp0]
            simpa using this
          have hSE : S e := HSS.out _ (.inl rfl)
          have hSD : S dd := HSS.out _ (.inr (by rw [hp, hp0]; simp))
          obtain ⟨e1, e2⟩ := e
          obtain ⟨f1, f2⟩ := dd
          obtain ⟨⟨A1, q1⟩, A2, q2⟩ := HIS.out _ hSE
          obtain ⟨⟨A3, q3⟩, A4, q4⟩ := HIS.out _ hSD
          dsimp only at q1 q2 q3 q4
          subst q1 q2 q3 q4
          have x1 := hrow.fst hPJ
          have x2 := hrow.snd hPJ
          have y1 := hrow.fst hPD
          have y2 := hrow.snd hPD
          dsimp only at x1 x2 y1 y2
          have hjb : jn < n := by have := HNB.out; omega
          have hj9 : jd < jn := by omega
          have b1 : (jn : Int) < (n : Int) := by omega
          have b2 : (jd : Int) < (n : Int) := by omega
          have b3 : (0 : Int) ≤ (jn : Int) := by omega
          have b4 : (0 : Int) ≤ (jd : Int) := by omega
          have hw1 : IntKind.i64.wrap ((jn : Int) - 1) = (jd : Int) := (IntWalk.i64_in _ (by omega)).trans (by omega)
          have hj1 : decide ((na : Int) < (jn : Int)) = true := decide_eq_true (by omega)
          have hj2 : (na : Int) < (jn : Int) := by omega
          have hsum : IntKind.i64.wrap ((i : Int) + 1) = (i : Int) + 1 := IntWalk.i64_in _ (by omega)
          have HPJ := Lib.hid hPJ
          have HPD := Lib.hid hPD
          have HSE := Lib.hid hSE
          have HSD := Lib.hid hSD
          have HP0 := Lib.hid hp0
          have HP := Lib.hid hp
          have HQ := Lib.hid hq
          have HEND := Lib.hid hend
          have HJD := Lib.hid hjd
          have HJJ := Lib.hid hjj
          have HLL := Lib.hid hl1
          clear hPJ hPD hSE hSD hp0 hp hq hend hjd hjj hl1 hpl hrow hg hjn hl0
          cases hlt2 : lt (.int .i64 A1, .float .f64 A2) (.int .i64 A3, .float .f64 A4) with
          | true =>
            have HLT := Lib.hid hlt2
            clear hlt2
            have HC := Lib.hid (show ∀ z, Calls Try.prog 28 #[.agg #[.int .i64 A1, .float .f64 A2], .agg #[.int .i64 A3, .float .f64 A4]] (wr.drewN z) fun e W' => ∃ q : Int, e = .returned (.int .i64 q) ∧ q < 0 ∧ Below wr.heap.size wr W' from fun z => (HCM.out (wr.drewN z) (only_drewN HG.out z) (.int .i64 A1, .float .f64 A2) (.int .i64 A3, .float .f64 A4) HSE.out HSD.out).mono fun e W' ⟨q, h1, h2, h3⟩ => ⟨q, h1, by rw [HLT.out] at h2; simp at h2; omega, (below_drewN (Below.refl _ _) z).trans h3⟩)
            go_upto_region 4 with fail
            go_region_held3 (fun w' => w'.cell? ⟨g, jn * 2, none⟩ = some (.int .i64 A1) ∧ w'.cell? ⟨g, jn * 2 + 1, none⟩ = some (.float .f64 A2) ∧ w'.cell? ⟨g, jd * 2, none⟩ = some (.int .i64 A3) ∧ w'.cell? ⟨g, jd * 2 + 1, none⟩ = some (.float .f64 A4))
              (first | exact ⟨x1, x2, y1, y2⟩ | exact ⟨v1, v2, v3, v4⟩)
              (first | (go_at_call 28; refine (HC.out 1).mono ?_; rintro e w4 ⟨q, rfl, hq, hb4⟩; have hr4 := HR.out.below hb4; have v1 := hr4.fst HPJ.out; have v2 := hr4.snd HPJ.out; have v3 := hr4.fst HPD.out; have v4 := hr4.snd HPD.out; dsimp only at v1 v2 v3 v4; have HR4 := Lib.hid hr4; have HB4 := Lib.hid hb4; clear hr4 hb4))
            clear x1 x2 y1 y2
            have z1 := HR4.out.frozen (jn * 2)
            have z2 := HR4.out.frozen (jn * 2 + 1)
            have z3 := HR4.out.frozen (jd * 2)
            have z4 := HR4.out.frozen (jd * 2 + 1)
            go_upto_region 6 with fail
            go_region
            clear v1 v2 v3 v4 z1 z2 z3 z4
            go_wp2
            refine ⟨⟨p0, (.int .i64 A3, .float .f64 A4) :: p2, p0.length, rfl, by rw [← HJD.out], by rw [HP.out, HP0.out]; simp, fun q hq => ?_, ?_, ?_⟩, by have := HJJ.out; simp [intOf]; omega⟩
            · rcases List.mem_cons.1 hq with rfl | hq
              · exact HLT.out
              · exact HQ.out q hq
            · have hln : (x ++ p1 ++ (.int .i64 A1, .float .f64 A2) :: (p2 ++ r)).length = n := by
                rw [HNN.out, HP.out]
                simp only [List.length_append, List.length_cons]
                omega
              have h9 := (HR4.out.set_ jn (.int .i64 A3, .float .f64 A4) (by rw [hln]; exact hjb)).set_ jd (.int .i64 A1, .float .f64 A2) (by rw [List.length_set, hln]; have := HJJ.out; omega)
              have e9 : ((x ++ p1 ++ (.int .i64 A1, .float .f64 A2) :: (p2 ++ r)).set jn (.int .i64 A3, .float .f64 A4)).set jd (.int .i64 A1, .float .f64 A2) = x ++ p0 ++ (.int .i64 A1, .float .f64 A2) :: (((.int .i64 A3, .float .f64 A4) :: p2) ++ r) := by
                have k1 := set_two (x ++ p0) [] (p2 ++ r) (.int .i64 A3, .float .f64 A4) (.int .i64 A1, .float .f64 A2)
                rw [List.set_comm _ _ (by simp), show (x ++ p0).length = jd by rw [List.length_append, ← HNA.out, HJD.out], show jd + 1 + ([] : List (Value × Value)).length = jn by rw [HJJ.out]; rfl] at k1
                rw [HP0.out]
                simpa using k1
              rw [e9] at h9
              exact h9
            · exact only_drew (only_setCell (only_setCell (only_setCell (only_setCell (only_trans HG.out (only_of_below HB4.out _)) (.inl rfl) _) (.inl rfl) _) (.inl rfl) _) (.inl rfl) _)
          | false =>
            have HLT := Lib.hid hlt2
            clear hlt2
            have HC := Lib.hid (show ∀ z, Calls Try.prog 28 #[.agg #[.int .i64 A1, .float .f64 A2], .agg #[.int .i64 A3, .float .f64 A4]] (wr.drewN z) fun e W' => ∃ q : Int, e = .returned (.int .i64 q) ∧ 0 ≤ q ∧ Below wr.heap.size wr W' from fun z => (HCM.out (wr.drewN z) (only_drewN HG.out z) (.int .i64 A1, .float .f64 A2) (.int .i64 A3, .float .f64 A4) HSE.out HSD.out).mono fun e W' ⟨q, h1, h2, h3⟩ => ⟨q, h1, by rw [HLT.out] at h2; simp at h2; omega, (below_drewN (Below.refl _ _) z).trans h3⟩)
            go_upto_region 4 with fail
            go_region_held3 (fun w' => w'.cell? ⟨g, jn * 2, none⟩ = some (.int .i64 A1) ∧ w'.cell? ⟨g, jn * 2 + 1, none⟩ = some (.float .f64 A2) ∧ w'.cell? ⟨g, jd * 2, none⟩ = some (.int .i64 A3) ∧ w'.cell? ⟨g, jd * 2 + 1, none⟩ = some (.float .f64 A4))
              (first | exact ⟨x1, x2, y1, y2⟩ | exact ⟨v1, v2, v3, v4⟩)
              (first | (go_at_call 28; refine (HC.out 1).mono ?_; rintro e w4 ⟨q, rfl, hq, hb4⟩; have hr4 := HR.out.below hb4; have v1 := hr4.fst HPJ.out; have v2 := hr4.snd HPJ.out; have v3 := hr4.fst HPD.out; have v4 := hr4.snd HPD.out; dsimp only at v1 v2 v3 v4; have HR4 := Lib.hid hr4; have HB4 := Lib.hid hb4; clear hr4 hb4))
            clear x1 x2 y1 y2 v1 v2 v3 v4
            go_wp2
            exact ⟨HEND.out (fun d hd => by
              rw [HP0.out] at hd
              simp at hd
              rw [← hd]
              exact HLT.out) w4 HR4.out (only_trans HG.out (only_of_below HB4.out _)) _ (by have := HII.out; omega), by have := HII.out; simp [intOf]; omega⟩
    · have hk2 : s.take k = s ∧ s.drop k = [] := by
        rcases hks with h | ⟨h, -⟩
        · rw [← HNS.out] at h
          have : s.length ≤ k := by rw [← HNS.out]; omega
          exact ⟨List.take_of_length_le this, List.drop_eq_nil_iff.2 this⟩
        · rw [h]; simp
      rw [hk2.1] at hs1 hal
      rw [hk2.2, List.append_nil] at hrow
      have hge : ¬ ((na + k : Nat) : Int) < (nb : Int) := by have := HNB.out; omega
      have HF := Lib.hid (show ∃ s', Asc lt s' ∧ Alike lt s s' ∧ s'.length = s.length ∧ RowAt wr g 51 (x ++ s' ++ z) ∧ w0.grownBy wr (some g) from ⟨s1, hasc, hal, hs1, hrow, hg⟩)
      have HGE := Lib.hid hge
      obtain ⟨i, hi⟩ : ∃ i, i = na + k := ⟨_, rfl⟩
      rw [← hi] at hge ⊢
      clear hks hs1 hasc hal hrow hg hk2 hlt
      clear hi
      go_wp2
      go_end0
      obtain ⟨s', h1, h2, h3, h4, h5⟩ := HF.out
      exact ⟨rfl, s', h1, h2, h3, by first | exact h4 | (rw [← List.append_assoc]; exact h4), h5⟩
end Go.Proofs.Ytnglejopbpnknaa
namespace Go.Proofs.Ytnglejopbpnknaa
open Go.RowKit
theorem isnan_any (x : Int) (w : World) : Calls Try.prog 47 #[.int .i64 x] w fun e w' => e = .returned (.bool false) ∧ w = w' := by
  go_enter Try.func47, Try.ntmps47
  go_wp2
  go_ret
  exact ⟨by simp, rfl⟩
theorem cmpi_any (a b : Int) (w : World) : Calls Try.prog 29 #[.int .i64 a, .int .i64 b] w fun e w' => (∃ q : Int, e = .returned (.int .i64 q) ∧ (q < 0 ↔ a < b)) ∧ w = w' := by
  rcases Int.lt_trichotomy a b with h1 | h1 | h1
  · go_enter Try.func29, Try.ntmps29
    go_wp2_with (first | (go_at_call 47; refine (isnan_any _ _).mono ?_; rintro e w' ⟨rfl, rfl⟩))
    refine bodyPost_ret (results_tmp rfl _ _ _) rfl ?_
    exact ⟨⟨-1, rfl, by omega⟩, rfl⟩
  · subst h1
    go_enter Try.func29, Try.ntmps29
    go_wp2_with (first | (go_at_call 47; refine (isnan_any _ _).mono ?_; rintro e w' ⟨rfl, rfl⟩))
    refine bodyPost_ret (results_tmp rfl _ _ _) rfl ?_
    exact ⟨⟨0, rfl, by omega⟩, rfl⟩
  · go_enter Try.func29, Try.ntmps29
    go_wp2_with (first | (go_at_call 47; refine (isnan_any _ _).mono ?_; rintro e w' ⟨rfl, rfl⟩))
    refine bodyPost_ret (results_tmp rfl _ _ _) rfl ?_
    exact ⟨⟨1, rfl, by omega⟩, rfl⟩
theorem tcmp_any (a b : Int) (va vb : Nat) (w : World) :
    Calls Try.prog 28 #[.agg #[.int .i64 a, .float .f64 va], .agg #[.int .i64 b, .float .f64 vb]] w fun e w' => (∃ q : Int, e = .returned (.int .i64 q) ∧ (q < 0 ↔ a < b)) ∧ Below w.heap.size w w' := by
  go_enter Try.func28, Try.ntmps28
  go_wp2_with fail
  refine (cmpi_any a b _).mono ?_
  rintro e w' ⟨⟨q, rfl, h0⟩, rfl⟩
  have H0 := Lib.hid h0
  clear h0
  go_wp2
  go_ret
  exact ⟨⟨q, rfl, H0.out⟩, ((Below.refl w.heap.size w).alloc (Nat.le_refl _) _).alloc (by simp) _⟩
/-- the time of a sample, as a value -/
def timeOf (p : Value × Value) : Int := match p.1 with | .int _ a => a | _ => 0
def ltT (p q : Value × Value) : Bool := decide (timeOf p < timeOf q)
theorem ltT_rank : Rank ltT where
  asym a b h := by
    have h1 := of_decide_eq_true (p := timeOf a < timeOf b) h
    exact decide_eq_false (by omega)
  neg a b c h1 h2 := by
    have h1 := of_decide_eq_false (p := timeOf a < timeOf b) h1
    have h2 := of_decide_eq_false (p := timeOf b < timeOf c) h2
    exact decide_eq_false (by omega)
theorem cmp_times (w0 : World) (g : Nat) : CmpSmp w0 g IsSmp ltT := fun W _ p q hp hq => by
  obtain ⟨p1, p2⟩ := p
  obtain ⟨q1, q2⟩ := q
  obtain ⟨⟨A1, e1⟩, A2, e2⟩ := hp
  obtain ⟨⟨A3, e3⟩, A4, e4⟩ := hq
  dsimp only at e1 e2 e3 e4
  subst e1 e2 e3 e4
  refine (tcmp_any A1 A3 A2 A4 W).mono ?_
  rintro e w' ⟨⟨z, rfl, hz⟩, hb⟩
  exact ⟨z, rfl, hz.trans (by unfold ltT timeOf; simp), hb⟩
end Go.Proofs.Ytnglejopbpnknaa
namespace Go.Proofs.Ytnglejopbpnknaa
open Go.RowKit
abbrev VV := Value × Value
/-- a sample: its time and its value's bits -/
abbrev Smp := Int × Nat
/-- a series: its labels, its samples -/
abbrev Ser := List Lbl × List Smp
abbrev flatS (l : List Smp) : List Value := flat2 (fun p : Smp => .int .i64 p.1) (fun p : Smp => .float .f64 p.2) l
abbrev flatV (l : List VV) : List Value := flat2 Prod.fst Prod.snd l
theorem own_less {w : World} {base b2 : Nat} {e : TypeId} {size n : Nat} {v : Value} {xs : List Value} (h : w.ownsRow base e size v n xs) (hb : b2 ≤ base) : w.ownsRow b2 e size v n xs := by
  refine ⟨h.1, ?_⟩
  rcases h.2 with h | ⟨g, cap, cur, h1, h2, h3⟩
  · exact .inl h
  · exact .inr ⟨g, cap, cur, h1, Nat.le_trans hb h2, h3⟩
theorem flatL_one (l : List Lbl) : ∀ u ∈ flatL l, u.oneCell' = true := fun u hu => by
  simp only [flat2, List.mem_flatMap] at hu
  obtain ⟨p, -, hu⟩ := hu
  simp only [List.mem_cons, List.not_mem_nil, or_false] at hu
  rcases hu with rfl | rfl <;> rfl
theorem flatS_one (l : List Smp) : ∀ u ∈ flatS l, u.oneCell' = true := fun u hu => by
  simp only [flat2, List.mem_flatMap] at hu
  obtain ⟨p, -, hu⟩ := hu
  simp only [List.mem_cons, List.not_mem_nil, or_false] at hu
  rcases hu with rfl | rfl <;> rfl
/-- the two slices own their rows -/
def SerOwn (w : World) (base : Nat) (p : VV) (s : Ser) : Prop := w.ownsRow base 61 2 p.1 s.1.length (flatL s.1) ∧ w.ownsRow base 51 2 p.2 s.2.length (flatS s.2)
def SmpsRd (w : World) (B : Nat) (v : Value) (l : List Smp) : Prop := ∃ A c, v = .slice A l.length c ∧ Reads w B 2 A l.length (flatS l)
/-- the two slices read as rows -/
def SerRd (w : World) (B : Nat) (p : VV) (s : Ser) : Prop := LabsAt w B p.1 s.1 ∧ SmpsRd w B p.2 s.2
def SersRd (w : World) (B : Nat) (v : Value) (ss : List Ser) : Prop :=
  ∃ A c vs, v = .slice A ss.length c ∧ vs.length = ss.length ∧ Reads w B 2 A ss.length (flatV vs) ∧ ∀ (i : Nat) (p : VV) (s : Ser), vs[i]? = some p → ss[i]? = some s → SerRd w B p s
def Small (ss : List Ser) : Prop := ∀ s ∈ ss, s.1.length ≤ 1000 ∧ s.2.length ≤ 1000
/-- the box that the merge's iterator holds: a row of series of its own -/
def AllAt (w : World) (T : Nat) (ss : List Ser) : Prop :=
  ∃ v vs, Blk w T 22 #[v] ∧ vs.length = ss.length ∧ w.ownsRow (T + 1) 34 2 v ss.length (flatV vs) ∧ ∀ (i : Nat) (p : VV) (s : Ser), vs[i]? = some p → ss[i]? = some s → SerOwn w (T + 1) p s
section
variable {w w' : World} {B B2 : Nat} {p : VV} {s : Ser} {v : Value}
theorem SmpsRd.below {l : List Smp} (h : SmpsRd w B v l) (hb : Below B2 w w') (hB : B ≤ B2) : SmpsRd w' B v l := by
  obtain ⟨A, c, rfl, h2⟩ := h
  exact ⟨A, c, rfl, h2.keep fun p hp => hb.cell (by omega)⟩
theorem SmpsRd.more {l : List Smp} (h : SmpsRd w B v l) (hB : B ≤ B2) : SmpsRd w B2 v l := by
  obtain ⟨A, c, rfl, h2⟩ := h
  exact ⟨A, c, rfl, h2.more hB⟩
theorem SerRd.below (h : SerRd w B p s) (hb : Below B2 w w') (hB : B ≤ B2) : SerRd w' B p s := ⟨h.1.below hb hB, h.2.below hb hB⟩
theorem SerRd.more (h : SerRd w B p s) (hB : B ≤ B2) : SerRd w B2 p s := ⟨h.1.more hB, h.2.more hB⟩
theorem SersRd.below {ss : List Ser} (h : SersRd w B v ss) (hb : Below B2 w w') (hB : B ≤ B2) : SersRd w' B v ss := by
  obtain ⟨A, c, vs, rfl, h1, h2, h3⟩ := h
  exact ⟨A, c, vs, rfl, h1, h2.keep fun p hp => hb.cell (by omega), fun i p s a b => (h3 i p s a b).below hb hB⟩
theorem SersRd.more {ss : List Ser} (h : SersRd w B v ss) (hB : B ≤ B2) : SersRd w B2 v ss := by
  obtain ⟨A, c, vs, rfl, h1, h2, h3⟩ := h
  exact ⟨A, c, vs, rfl, h1, h2.more hB, fun i p s a b => (h3 i p s a b).more hB⟩
theorem SerOwn.kept {base : Nat} {row : Option Nat} (h : SerOwn w base p s) (hg : w.grownBy w' row) (h1 : p.1.ownBlock = none ∨ p.1.ownBlock ≠ row) (h2 : p.2.ownBlock = none ∨ p.2.ownBlock ≠ row) : SerOwn w' base p s := ⟨h.1.kept hg h1, h.2.kept hg h2⟩
theorem SerOwn.below {base : Nat} (h : SerOwn w base p s) (hb : Below w.heap.size w w') : SerOwn w' base p s := h.kept (only_of_below hb none) (by cases p.1.ownBlock <;> simp) (by cases p.2.ownBlock <;> simp)
theorem SerOwn.alloc {base : Nat} (h : SerOwn w base p s) (o : Obj) : SerOwn (w.alloc o) base p s := ⟨h.1.alloc o, h.2.alloc o⟩
theorem SerOwn.less {base b2 : Nat} (h : SerOwn w base p s) (hb : b2 ≤ base) : SerOwn w b2 p s := ⟨own_less h.1 hb, own_less h.2 hb⟩
theorem SerOwn.setCell {base : Nat} (h : SerOwn w base p s) {a : Addr} (ha : a.block < base) (u : Value) : SerOwn (w.setCell a u) base p s := ⟨ownsRow_setCell_below h.1 ha u, ownsRow_setCell_below h.2 ha u⟩
/-- what a block of another type keeps -/
theorem SerOwn.far {base g : Nat} {t : TypeId} {cs : Array Value} (h : SerOwn w base p s) (hg : Blk w g t cs) (h1 : (61 : TypeId) ≠ t) (h2 : (51 : TypeId) ≠ t) (hr : w.grownBy w' (some g)) : SerOwn w' base p s :=
  h.kept hr (.inr (own_blk_ne h.1 hg h1)) (.inr (own_blk_ne h.2 hg h2))
theorem SerOwn.slices {base : Nat} (h : SerOwn w base p s) : ∃ A c A2 c2, p = (.slice A s.1.length c, .slice A2 s.2.length c2) := by
  obtain ⟨A, c, e1⟩ := own_slice h.1
  obtain ⟨A2, c2, e2⟩ := own_slice h.2
  exact ⟨A, c, A2, c2, Prod.ext e1 e2⟩
theorem SerOwn.rd {base : Nat} (h : SerOwn w base p s) : SerRd w w.heap.size p s := by
  obtain ⟨h1, h2⟩ := h
  obtain ⟨A, c, e1⟩ := own_slice h1
  obtain ⟨A2, c2, e2⟩ := own_slice h2
  rw [e1] at h1
  rw [e2] at h2
  exact ⟨⟨A, c, e1, Reads.of_own h1⟩, ⟨A2, c2, e2, Reads.of_own h2⟩⟩
theorem AllAt.below {T : Nat} {ss : List Ser} (h : AllAt w T ss) (hb : Below w.heap.size w w') : AllAt w' T ss := by
  obtain ⟨v, vs, h1, h2, h3, h4⟩ := h
  exact ⟨v, vs, h1.below hb h1.lt, h2, h3.kept (only_of_below hb none) (by cases v.ownBlock <;> simp), fun i p s a b => (h4 i p s a b).below hb⟩
end
end Go.Proofs.Ytnglejopbpnknaa
namespace Go.Proofs.Ytnglejopbpnknaa
section
variable {α : Type} {lt : α → α → Bool}
def bk (L : List α) (i B : Nat) : List α := (L.drop i).take B
theorem bk_left {x r : List α} {i B : Nat} (h : i + B ≤ x.length) : bk (x ++ r) i B = bk x i B := by
  unfold bk
  rw [List.drop_append_of_le_length (by omega), List.take_append_of_le_length (by rw [List.length_drop]; omega)]
theorem bk_right {x r : List α} {i B : Nat} (h : x.length ≤ i) : bk (x ++ r) i B = bk r (i - x.length) B := by
  unfold bk
  rw [List.drop_append, List.drop_of_length_le h, List.nil_append]
theorem bk_last {L : List α} {i B : Nat} (h : L.length ≤ i + B) : bk L i B = L.drop i := by
  unfold bk
  exact List.take_of_length_le (by rw [List.length_drop]; omega)
theorem bk_none {L : List α} {i B : Nat} (h : L.length ≤ i) : bk L i B = [] := by
  unfold bk
  rw [List.drop_of_length_le h, List.take_nil]
theorem Asc.nil : Asc lt ([] : List α) := List.Pairwise.nil
theorem block_le {k j B : Nat} (h : k < j) : k * B + B ≤ j * B := by
  have := Nat.mul_le_mul_right B (show k + 1 ≤ j from h)
  rwa [Nat.succ_mul] at this
/-- one more block in order -/
theorem blk_step {x s s' z : List α} {j B : Nat} (hx : x.length = j * B) (hs : s'.length = s.length) (hB : s.length = B) (h : ∀ k, k < j → Asc lt (bk (x ++ s ++ z) (k * B) B)) (ha : Asc lt s') : ∀ k, k < j + 1 → Asc lt (bk (x ++ s' ++ z) (k * B) B) := fun k hk => by
  by_cases e : k < j
  · have h1 := block_le (B := B) e
    have := h k e
    rw [List.append_assoc, bk_left (by omega)] at this
    rw [List.append_assoc, bk_left (by omega)]
    exact this
  · have : k = j := by omega
    subst this
    rw [List.append_assoc, bk_right (by omega), hx, Nat.sub_self]
    unfold bk
    rw [List.drop_zero, List.take_append_of_le_length (by omega), List.take_of_length_le (by omega)]
    exact ha
theorem blk_rest {x s s' z : List α} {j B : Nat} (hs : s'.length = s.length) (h : ∀ k, j ≤ k → Asc lt (bk (x ++ s ++ z) (k * B) B)) {k : Nat} (hk : j ≤ k) (hl : (x ++ s).length ≤ k * B) : Asc lt (bk (x ++ s' ++ z) (k * B) B) := by
  have := h k hk
  rw [bk_right hl] at this
  rw [bk_right (by rw [List.length_append, hs, ← List.length_append]; exact hl)]
  rwa [List.length_append, hs, ← List.length_append]
theorem blk_all {L : List α} {j B : Nat} (h : ∀ k, k < j → Asc lt (bk L (k * B) B)) (hd : Asc lt (L.drop (j * B))) (hl : L.length ≤ j * B + B) (k : Nat) : Asc lt (bk L (k * B) B) := by
  by_cases e : k < j
  · exact h k e
  · by_cases e2 : k = j
    · subst e2
      rwa [bk_last hl]
    · have h1 := block_le (B := B) (show j < k by omega)
      rw [bk_none (by omega)]
      exact Asc.nil
theorem blk_end {L : List α} {B : Nat} (h : ∀ k, Asc lt (bk L (k * B) B)) (hl : L.length ≤ B) : Asc lt L := by
  have := h 0
  rwa [Nat.zero_mul, bk_last (by omega), List.drop_zero] at this
/-- the row, cut at a block -/
theorem cut_three (L : List α) (a B : Nat) : L = L.take a ++ bk L a B ++ L.drop (a + B) := by
  unfold bk
  rw [List.append_assoc, ← List.drop_drop, List.take_append_drop, List.take_append_drop]
theorem cut_four (L : List α) (a B : Nat) : L = L.take a ++ bk L a B ++ bk L (a + B) B ++ L.drop (a + B + B) := by
  have := cut_three L a B
  rw [List.append_assoc _ (bk L (a + B) B)]
  have e : bk L (a + B) B ++ L.drop (a + B + B) = L.drop (a + B) := by
    have e0 : L.drop (a + B + B) = (L.drop (a + B)).drop B := by rw [List.drop_drop]
    unfold bk
    rw [e0, List.take_append_drop]
  rw [e]; exact this
theorem bk_len {L : List α} {a B : Nat} (h : a + B ≤ L.length) : (bk L a B).length = B := by
  unfold bk
  rw [List.length_take, List.length_drop]
  omega
theorem alike_mid {x s s' z L0 : List α} (h : Alike lt L0 (x ++ s ++ z)) (h2 : Alike lt s s') : Alike lt L0 (x ++ s' ++ z) := h.trans (((Alike.refl x).app h2).app (Alike.refl z))
end
end Go.Proofs.Ytnglejopbpnknaa
namespace Go.Proofs.Ytnglejopbpnknaa
open Go.RowKit
/-- the closure that says whether two samples bear one time -/
theorem teq2_any (a b : Int) (va vb : Nat) (w : World) :
    Calls Try.prog 31 #[.agg #[.int .i64 a, .float .f64 va], .agg #[.int .i64 b, .float .f64 vb]] w fun e w' => e = .returned (.bool (a == b)) ∧ Below w.heap.size w w' := by
  go_enter Try.func31, Try.ntmps31
  go_wp2
  go_ret
  exact ⟨rfl, ((Below.refl w.heap.size w).alloc (Nat.le_refl _) _).alloc (by simp) _⟩

def nilP : VV := (.nilFunc, .nilFunc)
def ddr (p : VV) : List VV → List VV
  | [] => []
  | b :: l => if timeOf b = timeOf p then ddr b l else b :: ddr b l
def ddup : List VV → List VV
  | [] => []
  | a :: l => a :: ddr a l
theorem ddr_len (p : VV) (l : List VV) : (ddr p l).length ≤ l.length := by
  induction l generalizing p with
  | nil => exact Nat.le_refl _
  | cons b l ih =>
    unfold ddr
    split
    · have := ih b; simp; omega
    · have := ih b; simp; omega
theorem ddr_mem (p : VV) (l : List VV) (x : VV) (h : x ∈ ddr p l) : x ∈ l := by
  induction l generalizing p with
  | nil => exact h
  | cons b l ih =>
    unfold ddr at h
    split at h
    · exact List.mem_cons_of_mem _ (ih b h)
    · rcases List.mem_cons.1 h with rfl | h
      · exact List.mem_cons_self
      · exact List.mem_cons_of_mem _ (ih b h)
theorem ddup_mem (l : List VV) (x : VV) (h : x ∈ ddup l) : x ∈ l := by
  cases l with
  | nil => exact h
  | cons a l =>
    rcases List.mem_cons.1 h with rfl | h
    · exact List.mem_cons_self
    · exact List.mem_cons_of_mem _ (ddr_mem _ _ _ h)
theorem ddup_len (l : List VV) : (ddup l).length ≤ l.length := by
  cases l with
  | nil => exact Nat.le_refl _
  | cons a l => have := ddr_len a l; show (ddr a l).length + 1 ≤ _; simp; omega
/-- the rows behind the first are cleared -/
theorem clear_rows {w : World} {g : Nat} {q r : List VV} (h : RowAt w g 51 (q ++ r)) (hr : 0 < r.length) (c : Nat) :
    ∃ w', (∀ ty, (Builtin.clear_ #[32] ty #[.slice (some ⟨g, q.length * 2, none⟩) r.length c]).run Try.prog w = .ok (.tuple #[]) w') ∧ RowAt w' g 51 q ∧ w.grownBy w' (some g) := by
  obtain ⟨cs, h1, h2, h3⟩ := h
  rw [List.length_append] at h2
  obtain ⟨vs, hvs⟩ : ∃ vs, vs = (Builtin.zeroCells (Value.agg #[.int .i64 0, .float .f64 0]).cells r.length).toList := ⟨_, rfl⟩
  have hvl : vs.length = r.length * 2 := by rw [hvs]; simp [Builtin.zeroCells, Value.cells]
  have hv1 : ∀ v ∈ vs, v.oneCell' = true := fun v hv => by
    rw [hvs] at hv
    simp only [Builtin.zeroCells, Value.cells, Array.toList_map, List.mem_map] at hv
    obtain ⟨i, -, rfl⟩ := hv
    have : i % 2 = 0 ∨ i % 2 = 1 := by omega
    rcases this with e | e <;> simp [e, Value.oneCell']
  have hst := run_storeCells_at (P := Try.prog) g (q.length * 2) 51 vs 0 cs w h1 (by omega) hv1
  obtain ⟨ar, har⟩ : ∃ ar : Array Value, ar = (cs.toList.take (q.length * 2 + 0) ++ vs ++ cs.toList.drop (q.length * 2 + 0 + vs.length)).toArray := ⟨_, rfl⟩
  rw [← har] at hst
  refine ⟨w.setRow g ar, fun ty => ?_, ⟨ar, setRow_heap w g cs ar 51 (0, 0) h1, ?_, fun i p hp => ?_⟩, ⟨rfl, rfl, rfl, by simp, fun i hi hne => setRow_other w g i _ (fun e => hne (by rw [e]))⟩⟩
  · obtain ⟨m, hm⟩ : ∃ m, r.length = m + 1 := ⟨r.length - 1, by omega⟩
    rw [hm] at hvs ⊢
    rw [hvs] at hst
    simp only [Builtin.clear_, List.getElem?_toArray, List.getElem?_cons_zero, Sem.run_bind, run_underlying Try.underlying32, Result.andThen_ok, Try.zeroValue51, go_sem]
    rw [show (Value.agg #[.int .i64 0, .float .f64 0]).cells = #[.int .i64 0, .float .f64 0] by simp [Value.cells]] at hst
    simp [hst]
  · rw [har]
    simp
    omega
  · have hi : i < q.length := (List.getElem?_eq_some_iff.1 hp).1
    obtain ⟨k1, k2⟩ := h3 i p (by rw [List.getElem?_append_left hi]; exact hp)
    rw [har]
    constructor
    · simp only [List.getElem?_toArray, List.append_assoc]
      rw [List.getElem?_append_left (by simp; omega), List.getElem?_take_of_lt (by omega)]
      simpa using k1
    · simp only [List.getElem?_toArray, List.append_assoc]
      rw [List.getElem?_append_left (by simp; omega), List.getElem?_take_of_lt (by omega)]
      simpa using k2
/-- the first loop: none is alike yet -/
def U1R (w : World) (g : Nat) (L : List VV) (i : Value) (wr : World) : Prop :=
  ∃ k : Nat, i = .int .i64 (k : Int) ∧ 1 ≤ k ∧ k ≤ L.length ∧ ddup L = L.take k ++ ddr (L.getD (k - 1) nilP) (L.drop k) ∧ RowAt wr g 51 L ∧ w.grownBy wr (some g)
/-- the second: what stays is written ahead -/
def U2R (w : World) (g : Nat) (L : List VV) (k0 : Nat) (i j : Value) (wr : World) : Prop :=
  ∃ (k j2 : Nat) (M : List VV), i = .int .i64 (k : Int) ∧ j = .int .i64 (j2 : Int) ∧ 1 ≤ j2 ∧ k0 + j2 ≤ L.length ∧ k < k0 + j2 ∧ M.length = L.length ∧ M.drop (k0 + j2 - 1) = L.drop (k0 + j2 - 1) ∧ ddup L = M.take k ++ ddr (L.getD (k0 + j2 - 1) nilP) (L.drop (k0 + j2)) ∧ RowAt wr g 51 M ∧ w.grownBy wr (some g)
theorem U1R.start {w : World} {g : Nat} {L : List VV} (h : RowAt w g 51 L) (hl : 1 ≤ L.length) : U1R w g L (.int .i64 1) w := by
  refine ⟨1, rfl, Nat.le_refl _, hl, ?_, h, only_refl _ _⟩
  cases L with
  | nil => simp at hl
  | cons a l => rfl
theorem getD_of {L : List VV} {i : Nat} {p : VV} (h : L[i]? = some p) : L.getD i nilP = p := by rw [List.getD_eq_getElem?_getD, h]; rfl
theorem drop_of {L : List VV} {i : Nat} {p : VV} (h : L[i]? = some p) : L.drop i = p :: L.drop (i + 1) := by
  obtain ⟨h8, h9⟩ := List.getElem?_eq_some_iff.1 h
  rw [List.drop_eq_getElem_cons h8, h9]
theorem take_of {L : List VV} {i : Nat} {p : VV} (h : L[i]? = some p) : L.take (i + 1) = L.take i ++ [p] := by
  obtain ⟨h8, h9⟩ := List.getElem?_eq_some_iff.1 h
  rw [List.take_succ_eq_append_getElem h8, h9]
/-- one more that differs from the one ahead -/
theorem u1_step {L : List VV} {k : Nat} {p q : VV} (hk : 1 ≤ k) (h : ddup L = L.take k ++ ddr (L.getD (k - 1) nilP) (L.drop k)) (hp : L[k]? = some p) (hq : L[k - 1]? = some q) (hne : ¬ timeOf p = timeOf q) :
    ddup L = L.take (k + 1) ++ ddr (L.getD (k + 1 - 1) nilP) (L.drop (k + 1)) := by
  rw [h, getD_of hq, drop_of hp, take_of hp, Nat.add_sub_cancel, getD_of hp]
  simp only [ddr, if_neg hne]
  simp
theorem u1_turn {L : List VV} {k : Nat} {p q : VV} (hk : 1 ≤ k) (h : ddup L = L.take k ++ ddr (L.getD (k - 1) nilP) (L.drop k)) (hp : L[k]? = some p) (hq : L[k - 1]? = some q) (he : timeOf p = timeOf q) :
    ddup L = L.take k ++ ddr (L.getD (k + 1 - 1) nilP) (L.drop (k + 1)) := by
  rw [h, getD_of hq, drop_of hp, Nat.add_sub_cancel, getD_of hp]
  simp only [ddr, if_pos he]
theorem drop_get {L M : List VV} {a i : Nat} (h : M.drop a = L.drop a) (hi : a ≤ i) : M[i]? = L[i]? := by
  have := congrArg (fun l => l[i - a]?) h
  simp only [List.getElem?_drop] at this
  rwa [show a + (i - a) = i by omega] at this
/-- a round of the second loop that leaves one out -/
theorem u2_skip {L M : List VV} {k j : Nat} {p q : VV} (hj : 1 ≤ j) (h : ddup L = M.take k ++ ddr (L.getD (j - 1) nilP) (L.drop j)) (hp : L[j]? = some p) (hq : L[j - 1]? = some q) (he : timeOf p = timeOf q) :
    ddup L = M.take k ++ ddr (L.getD (j + 1 - 1) nilP) (L.drop (j + 1)) := by
  rw [h, getD_of hq, drop_of hp, Nat.add_sub_cancel, getD_of hp]
  simp only [ddr, if_pos he]
/-- and one that takes one -/
theorem u2_take {L M : List VV} {k j : Nat} {p q : VV} (hj : 1 ≤ j) (hk : k < j) (hM : M.length = L.length) (h : ddup L = M.take k ++ ddr (L.getD (j - 1) nilP) (L.drop j)) (hp : L[j]? = some p) (hq : L[j - 1]? = some q) (he : ¬ timeOf p = timeOf q) :
    ddup L = (M.set k p).take (k + 1) ++ ddr (L.getD (j + 1 - 1) nilP) (L.drop (j + 1)) := by
  have hj2 := (List.getElem?_eq_some_iff.1 hp).1
  have e : (M.set k p).take (k + 1) = M.take k ++ [p] := by
    rw [List.take_succ_eq_append_getElem (by rw [List.length_set]; omega), List.getElem_set_self, List.take_set_of_le (Nat.le_refl _)]
  rw [h, getD_of hq, drop_of hp, Nat.add_sub_cancel, getD_of hp, e]
  simp only [ddr, if_neg he]
  simp
theorem u2_drop {L M : List VV} {k j : Nat} {p : VV} (hk : k < j) (h : M.drop (j - 1) = L.drop (j - 1)) : (M.set k p).drop (j + 1 - 1) = L.drop (j + 1 - 1) := by
  rw [Nat.add_sub_cancel, List.drop_set_of_lt hk]
  have := congrArg (List.drop 1) h
  rw [List.drop_drop, List.drop_drop] at this
  rwa [show j - 1 + 1 = j by omega] at this
theorem u2_drop0 {L M : List VV} {j : Nat} (hj : 1 ≤ j) (h : M.drop (j - 1) = L.drop (j - 1)) : M.drop (j + 1 - 1) = L.drop (j + 1 - 1) := by
  rw [Nat.add_sub_cancel]
  have := congrArg (List.drop 1) h
  rw [List.drop_drop, List.drop_drop] at this
  rwa [show j - 1 + 1 = j by omega] at this
end Go.Proofs.Ytnglejopbpnknaa
namespace Go.Proofs.Ytnglejopbpnknaa
section
variable {κ α : Type} {c : κ → κ → Int} {key : α → κ}
def SAsc (c : κ → κ → Int) (key : α → κ) (l : List α) : Prop := l.Pairwise fun a b => c (key a) (key b) < 0
def fd (c : κ → κ → Int) (key : α → κ) (l : List α) (k : κ) : Option α := l.find? fun a => decide (c (key a) k = 0)
theorem fd_cons (a : α) (l : List α) (k : κ) : fd c key (a :: l) k = if c (key a) k = 0 then some a else fd c key l k := by
  unfold fd
  rw [List.find?_cons]
  by_cases h : c (key a) k = 0 <;> simp [h]
theorem fd_none {l : List α} {k : κ} (h : ∀ a ∈ l, c (key a) k ≠ 0) : fd c key l k = none := List.find?_eq_none.2 fun a ha => by simpa using h a ha
theorem fd_append (l m : List α) (k : κ) : fd c key (l ++ m) k = (fd c key l k).or (fd c key m k) := List.find?_append
theorem fd_mem {l : List α} {k : κ} {a : α} (h : fd c key l k = some a) : a ∈ l ∧ c (key a) k = 0 := ⟨List.mem_of_find?_eq_some h, by simpa using List.find?_some h⟩
theorem fd_nil (k : κ) : fd c key ([] : List α) k = none := rfl
/-- behind one that is greater nothing is found -/
theorem fd_above (hc : Three c) {l : List α} {k : κ} (h : ∀ a ∈ l, c k (key a) < 0) : fd c key l k = none := fd_none fun a ha => by
  have := h a ha
  have := hc.anti k (key a)
  omega
theorem sasc_eq (hc : Three c) : ∀ l m : List α, SAsc c key l → SAsc c key m → (∀ k, fd c key l k = fd c key m k) → l = m
  | [], [], _, _, _ => rfl
  | [], b :: m, _, _, h => by
    have := h (key b)
    rw [fd_cons, if_pos (hc.self _), fd_nil] at this
    cases this
  | a :: l, [], _, _, h => by
    have := h (key a)
    rw [fd_cons, if_pos (hc.self _), fd_nil] at this
    cases this
  | a :: l, b :: m, h1, h2, h => by
    obtain ⟨a1, a2⟩ := List.pairwise_cons.1 h1
    obtain ⟨b1, b2⟩ := List.pairwise_cons.1 h2
    have hlt : ∀ {a b : α} {l m : List α}, (∀ x ∈ m, c (key b) (key x) < 0) → fd c key (a :: l) (key a) = fd c key (b :: m) (key a) → ¬ c (key a) (key b) < 0 := fun {a b l m} hb he hn => by
      rw [fd_cons, if_pos (hc.self _), fd_above hc (fun x hx => ?_)] at he
      · cases he
      · rcases List.mem_cons.1 hx with rfl | hx
        · exact hn
        · exact hc.trans _ _ _ hn (hb x hx)
    have e1 := hlt b1 (h (key a))
    have e2 := hlt a1 (h (key b)).symm
    have e3 := hc.anti (key a) (key b)
    have e4 : c (key a) (key b) = 0 := by omega
    have e5 : a = b := by
      have := h (key a)
      rw [fd_cons, if_pos (hc.self _), fd_cons, if_pos (by omega)] at this
      exact Option.some.inj this
    subst e5
    rw [sasc_eq hc l m a2 b2 fun k => ?_]
    by_cases hk : c (key a) k = 0
    · have : key a = k := (hc.zero _ _).1 hk
      subst this
      rw [fd_above hc a1, fd_above hc b1]
    · have := h k
      rwa [fd_cons, if_neg hk, fd_cons, if_neg hk] at this
end
/-! ### samples -/
def cmpT (a b : Int) : Int := a - b
theorem cmpT_three : Three cmpT where
  zero a b := by unfold cmpT; omega
  anti a b := by unfold cmpT; omega
  trans a b d := by unfold cmpT; omega
def ltP (p q : Smp) : Bool := decide (cmpT p.1 q.1 < 0)
theorem ltP_rank : Rank ltP := cmpT_three.rank (fun p : Smp => p.1)
abbrev TAsc (l : List Smp) : Prop := SAsc cmpT Prod.fst l
abbrev tfd (l : List Smp) (t : Int) : Option Smp := fd cmpT Prod.fst l t
/-- the document's: one sample into a row -/
def putP : List Smp → Smp → List Smp
  | [], x => [x]
  | y :: l, x => if x.1 < y.1 then x :: y :: l else if y.1 = x.1 then y :: l else y :: putP l x
theorem putP_mem {l : List Smp} {x y : Smp} (h : y ∈ putP l x) : y ∈ l ∨ y = x := by
  induction l with
  | nil => simp [putP] at h; exact .inr h
  | cons z l ih =>
    unfold putP at h
    split at h
    · rcases List.mem_cons.1 h with h | h
      · exact .inr h
      · exact .inl h
    · split at h
      · exact .inl h
      · rcases List.mem_cons.1 h with h | h
        · exact .inl (by rw [h]; exact List.mem_cons_self)
        · rcases ih h with h | h
          · exact .inl (List.mem_cons_of_mem _ h)
          · exact .inr h
theorem putP_asc {l : List Smp} {x : Smp} (h : TAsc l) : TAsc (putP l x) := by
  induction l with
  | nil => exact List.pairwise_singleton _ _
  | cons y l ih =>
    obtain ⟨h1, h2⟩ := List.pairwise_cons.1 h
    unfold putP
    split
    · rename_i e
      refine List.pairwise_cons.2 ⟨fun z hz => ?_, h⟩
      have e2 : cmpT x.1 y.1 < 0 := by unfold cmpT; omega
      rcases List.mem_cons.1 hz with rfl | hz
      · exact e2
      · exact cmpT_three.trans _ _ _ e2 (h1 z hz)
    · split
      · exact h
      · rename_i e1 e2
        refine List.pairwise_cons.2 ⟨fun z hz => ?_, ih h2⟩
        rcases putP_mem hz with hz | rfl
        · exact h1 z hz
        · unfold cmpT; omega
theorem putP_fd {l : List Smp} {x : Smp} (h : TAsc l) (t : Int) : tfd (putP l x) t = tfd (l ++ [x]) t := by
  induction l with
  | nil => rfl
  | cons y l ih =>
    obtain ⟨h1, h2⟩ := List.pairwise_cons.1 h
    have ih := ih h2
    unfold putP
    split
    · rename_i e
      unfold tfd
      rw [fd_append, fd_cons, fd_cons (l := [])]
      by_cases ht : cmpT x.1 t = 0
      · rw [if_pos ht, if_pos ht, fd_above cmpT_three (fun z hz => ?_)]
        · rfl
        · unfold cmpT at ht
          rcases List.mem_cons.1 hz with rfl | hz
          · unfold cmpT; omega
          · have := h1 z hz
            unfold cmpT at this ⊢; omega
      · rw [if_neg ht, if_neg ht, fd_nil]
        cases fd cmpT Prod.fst (y :: l) t <;> rfl
    · split
      · rename_i e1 e2
        unfold tfd
        rw [fd_append, fd_cons (l := [])]
        by_cases ht : cmpT x.1 t = 0
        · rw [fd_cons, if_pos (by rw [e2]; exact ht)]; rfl
        · rw [if_neg ht, fd_nil]
          cases fd cmpT Prod.fst (y :: l) t <;> rfl
      · show fd cmpT Prod.fst (y :: putP l x) t = fd cmpT Prod.fst (y :: (l ++ [x])) t
        rw [fd_cons, fd_cons]
        split
        · rfl
        · exact ih
def putAll (l : List Smp) (xs : List Smp) : List Smp := xs.foldl putP l
theorem putAll_spec (xs : List Smp) : ∀ l : List Smp, TAsc l → TAsc (putAll l xs) ∧ ∀ t, tfd (putAll l xs) t = tfd (l ++ xs) t := by
  induction xs with
  | nil => intro l h; exact ⟨h, fun t => by rw [List.append_nil]; rfl⟩
  | cons x xs ih =>
    intro l h
    obtain ⟨k1, k2⟩ := ih (putP l x) (putP_asc h)
    refine ⟨k1, fun t => (k2 t).trans ?_⟩
    show fd _ _ _ _ = fd _ _ _ _
    rw [fd_append, show l ++ x :: xs = (l ++ [x]) ++ xs by simp, fd_append (l := l ++ [x])]
    have := putP_fd (x := x) h t
    unfold tfd at this
    rw [this]
/-- the program's: a row in order, of one time the first -/
def ddP (p : Smp) : List Smp → List Smp
  | [] => []
  | b :: l => if b.1 = p.1 then ddP b l else b :: ddP b l
def dupP : List Smp → List Smp
  | [] => []
  | a :: l => a :: ddP a l
theorem ddP_mem {p x : Smp} {l : List Smp} (h : x ∈ ddP p l) : x ∈ l := by
  induction l generalizing p with
  | nil => exact h
  | cons b l ih =>
    unfold ddP at h
    split at h
    · exact List.mem_cons_of_mem _ (ih h)
    · rcases List.mem_cons.1 h with rfl | h
      · exact List.mem_cons_self
      · exact List.mem_cons_of_mem _ (ih h)
theorem ddP_asc {p : Smp} {l : List Smp} (h : Asc ltP (p :: l)) : TAsc (p :: ddP p l) := by
  induction l generalizing p with
  | nil => exact List.pairwise_singleton _ _
  | cons b l ih =>
    obtain ⟨h1, h2⟩ := List.pairwise_cons.1 h
    have hbp := of_decide_eq_false (h1 b List.mem_cons_self)
    have hb := ih h2
    unfold ddP
    split
    · rename_i e
      obtain ⟨b1, b2⟩ := List.pairwise_cons.1 hb
      exact List.pairwise_cons.2 ⟨fun z hz => by have := b1 z hz; rwa [e] at this, b2⟩
    · rename_i e
      refine List.pairwise_cons.2 ⟨fun z hz => ?_, hb⟩
      have e2 : cmpT p.1 b.1 < 0 := by unfold cmpT at hbp ⊢; omega
      rcases List.mem_cons.1 hz with rfl | hz
      · exact e2
      · exact cmpT_three.trans _ _ _ e2 ((List.pairwise_cons.1 hb).1 z hz)
theorem ddP_fd {p : Smp} {l : List Smp} (t : Int) : tfd (p :: ddP p l) t = tfd (p :: l) t := by
  induction l generalizing p with
  | nil => rfl
  | cons b l ih =>
    have ih := ih (p := b)
    unfold tfd at ih ⊢
    unfold ddP
    split
    · rename_i e
      rw [fd_cons, fd_cons, fd_cons, ]
      rw [fd_cons, fd_cons] at ih
      by_cases hp : cmpT p.1 t = 0
      · rw [if_pos hp, if_pos hp]
      · rw [if_neg hp, if_neg hp]
        rw [e] at ih ⊢
        rw [if_neg hp, if_neg hp] at ih
        rw [if_neg hp]
        exact ih
    · rw [fd_cons, fd_cons (l := b :: l), ih]
theorem dupP_spec {l : List Smp} (h : Asc ltP l) : TAsc (dupP l) ∧ ∀ t, tfd (dupP l) t = tfd l t := by
  cases l with
  | nil => exact ⟨List.Pairwise.nil, fun _ => rfl⟩
  | cons a l => exact ⟨ddP_asc h, fun t => ddP_fd t⟩
theorem alike_fd {l m : List Smp} (h : Alike ltP l m) (t : Int) : tfd l t = tfd m t := by
  have h1 := h (t, 0)
  have e : (eqv ltP ((t, 0) : Smp)) = fun a : Smp => decide (cmpT a.1 t = 0) := by
    funext a
    unfold eqv ltP cmpT
    by_cases hh : a.1 - t = 0
    · have e1 : decide (t - a.1 < 0) = false := decide_eq_false (by omega)
      have e2 : decide (a.1 - t < 0) = false := decide_eq_false (by omega)
      simp only [e1, e2, decide_eq_true hh]; rfl
    · rcases Int.lt_trichotomy a.1 t with h2 | h2 | h2
      · have e2 : decide (a.1 - t < 0) = true := decide_eq_true (by omega)
        simp only [e2, decide_eq_false hh]; simp
      · omega
      · have e1 : decide (t - a.1 < 0) = true := decide_eq_true (by omega)
        simp only [e1, decide_eq_false hh]; simp
  rw [e] at h1
  unfold tfd fd
  rw [← List.head?_filter, ← List.head?_filter, h1]
/-- both are one -/
theorem fin_eq {l m : List Smp} (h1 : Asc ltP m) (h2 : Alike ltP l m) : dupP m = putAll [] l := by
  obtain ⟨a1, a2⟩ := dupP_spec h1
  obtain ⟨b1, b2⟩ := putAll_spec l [] List.Pairwise.nil
  exact sasc_eq cmpT_three _ _ a1 b1 fun t => by
    have k1 := a2 t
    have k2 := b2 t
    unfold tfd at k1 k2
    rw [k1, k2]
    exact (alike_fd h2 t).symm
end Go.Proofs.Ytnglejopbpnknaa
namespace Go.Proofs.Ytnglejopbpnknaa
section
variable {α : Type} {lt : α → α → Bool}
theorem asc_get {l : List α} (h : Asc lt l) {i j : Nat} (hij : i < j) {p q : α} (hp : l[i]? = some p) (hq : l[j]? = some q) : lt q p = false := by
  obtain ⟨h1, rfl⟩ := List.getElem?_eq_some_iff.1 hp
  obtain ⟨h2, rfl⟩ := List.getElem?_eq_some_iff.1 hq
  exact List.pairwise_iff_getElem.1 h i j h1 h2 hij
/-- the search for the place of e ahead of all that are not less: i and j close in -/
structure Srch1 (lt : α → α → Bool) (v : List α) (e : α) (i j : Nat) : Prop where
  ij : i ≤ j
  jl : j ≤ v.length
  lo : ∀ c q, c < i → v[c]? = some q → lt q e = true
  hi : ∀ c q, j ≤ c → v[c]? = some q → lt q e = false
theorem Srch1.start (v : List α) (e : α) : Srch1 lt v e 0 v.length := ⟨Nat.zero_le _, Nat.le_refl _, fun c q h => absurd h (Nat.not_lt_zero _), fun c q h hq => by rw [List.getElem?_eq_none h] at hq; cases hq⟩
theorem Srch1.up (hr : Rank lt) {v : List α} {e : α} {i j h : Nat} (hv : Asc lt v) (s : Srch1 lt v e i j) (h1 : i ≤ h) (h2 : h < j) {q : α} (hq : v[h]? = some q) (hl : lt q e = true) : Srch1 lt v e (h + 1) j := by
  refine ⟨h2, s.jl, fun c p hc hp => ?_, s.hi⟩
  rcases Nat.lt_or_ge c h with h3 | h3
  · cases e1 : lt p e with
    | true => rfl
    | false =>
      have := hr.neg _ _ _ (asc_get hv h3 hp hq) e1
      rw [hl] at this
      exact absurd this (by decide)
  · have : c = h := by omega
    subst this
    rw [hq] at hp
    injection hp with hp
    rw [← hp]; exact hl
theorem Srch1.down (hr : Rank lt) {v : List α} {e : α} {i j h : Nat} (hv : Asc lt v) (s : Srch1 lt v e i j) (h1 : i ≤ h) (h2 : h < j) {q : α} (hq : v[h]? = some q) (hl : lt q e = false) : Srch1 lt v e i h := by
  refine ⟨h1, by have := s.jl; omega, s.lo, fun c p hc hp => ?_⟩
  rcases Nat.lt_or_ge h c with h3 | h3
  · exact hr.neg _ _ _ (asc_get hv h3 hq hp) hl
  · have : c = h := by omega
    subst this
    rw [hq] at hp
    injection hp with hp
    rw [← hp]; exact hl
theorem Srch1.done (hr : Rank lt) {v : List α} {e : α} {i : Nat} (hv : Asc lt v) (s : Srch1 lt v e i i) : Asc lt (v.take i ++ e :: v.drop i) ∧ Alike lt ([e] ++ v) (v.take i ++ e :: v.drop i) := by
  have h1 : ∀ q ∈ v.take i, lt q e = true := fun q hq => by
    obtain ⟨c, hc2⟩ := List.mem_iff_getElem?.1 hq
    have hc := (List.getElem?_eq_some_iff.1 hc2).1
    rw [List.length_take] at hc
    rw [List.getElem?_take_of_lt (by omega)] at hc2
    exact s.lo c q (by omega) hc2
  have h2 : ∀ q ∈ v.drop i, lt q e = false := fun q hq => by
    obtain ⟨c, hc2⟩ := List.mem_iff_getElem?.1 hq
    rw [List.getElem?_drop] at hc2
    exact s.hi (i + c) q (by omega) hc2
  have hvv : Asc lt (v.take i ++ v.drop i) := by rw [List.take_append_drop]; exact hv
  obtain ⟨a1, a2, a3⟩ := asc_app.1 hvv
  refine ⟨asc_app.2 ⟨a1, List.pairwise_cons.2 ⟨h2, a2⟩, fun p hp q hq => ?_⟩, ?_⟩
  · rcases List.mem_cons.1 hq with rfl | hq
    · exact hr.asym _ _ (h1 p hp)
    · exact a3 p hp q hq
  · have e1 : [e] ++ v = ([e] ++ v.take i) ++ v.drop i := by rw [List.append_assoc, List.take_append_drop]
    have e2 : v.take i ++ e :: v.drop i = (v.take i ++ [e]) ++ v.drop i := by simp
    rw [e1, e2]
    exact (alike_swap hr fun p hp q hq => by rw [List.mem_singleton.1 hp]; exact h1 q hq).app (Alike.refl _)
/-- the search for the place of e ahead of all that are greater -/
structure Srch2 (lt : α → α → Bool) (u : List α) (e : α) (i j : Nat) : Prop where
  ij : i ≤ j
  jl : j ≤ u.length
  lo : ∀ c q, c < i → u[c]? = some q → lt e q = false
  hi : ∀ c q, j ≤ c → u[c]? = some q → lt e q = true
theorem Srch2.start (u : List α) (e : α) : Srch2 lt u e 0 u.length := ⟨Nat.zero_le _, Nat.le_refl _, fun c q h => absurd h (Nat.not_lt_zero _), fun c q h hq => by rw [List.getElem?_eq_none h] at hq; cases hq⟩
theorem Srch2.up (hr : Rank lt) {u : List α} {e : α} {i j h : Nat} (hu : Asc lt u) (s : Srch2 lt u e i j) (h1 : i ≤ h) (h2 : h < j) {q : α} (hq : u[h]? = some q) (hl : lt e q = false) : Srch2 lt u e (h + 1) j := by
  refine ⟨h2, s.jl, fun c p hc hp => ?_, s.hi⟩
  rcases Nat.lt_or_ge c h with h3 | h3
  · exact hr.neg _ _ _ hl (asc_get hu h3 hp hq)
  · have : c = h := by omega
    subst this
    rw [hq] at hp
    injection hp with hp
    rw [← hp]; exact hl
theorem Srch2.down (hr : Rank lt) {u : List α} {e : α} {i j h : Nat} (hu : Asc lt u) (s : Srch2 lt u e i j) (h1 : i ≤ h) (h2 : h < j) {q : α} (hq : u[h]? = some q) (hl : lt e q = true) : Srch2 lt u e i h := by
  refine ⟨h1, by have := s.jl; omega, s.lo, fun c p hc hp => ?_⟩
  rcases Nat.lt_or_ge h c with h3 | h3
  · exact hr.lt_trans hl (asc_get hu h3 hq hp)
  · have : c = h := by omega
    subst this
    rw [hq] at hp
    injection hp with hp
    rw [← hp]; exact hl
theorem Srch2.done (hr : Rank lt) {u : List α} {e : α} {i : Nat} (hu : Asc lt u) (s : Srch2 lt u e i i) : Asc lt (u.take i ++ e :: u.drop i) ∧ Alike lt (u ++ [e]) (u.take i ++ e :: u.drop i) := by
  have h1 : ∀ q ∈ u.take i, lt e q = false := fun q hq => by
    obtain ⟨c, hc2⟩ := List.mem_iff_getElem?.1 hq
    have hc := (List.getElem?_eq_some_iff.1 hc2).1
    rw [List.length_take] at hc
    rw [List.getElem?_take_of_lt (by omega)] at hc2
    exact s.lo c q (by omega) hc2
  have h2 : ∀ q ∈ u.drop i, lt e q = true := fun q hq => by
    obtain ⟨c, hc2⟩ := List.mem_iff_getElem?.1 hq
    rw [List.getElem?_drop] at hc2
    exact s.hi (i + c) q (by omega) hc2
  have huu : Asc lt (u.take i ++ u.drop i) := by rw [List.take_append_drop]; exact hu
  obtain ⟨a1, a2, a3⟩ := asc_app.1 huu
  refine ⟨asc_app.2 ⟨a1, List.pairwise_cons.2 ⟨fun q hq => hr.asym _ _ (h2 q hq), a2⟩, fun p hp q hq => ?_⟩, ?_⟩
  · rcases List.mem_cons.1 hq with rfl | hq
    · exact h1 p hp
    · exact a3 p hp q hq
  · have e1 : u ++ [e] = u.take i ++ (u.drop i ++ [e]) := by rw [← List.append_assoc, List.take_append_drop]
    rw [e1]
    exact (Alike.refl _).app (ins_alike hr h2)
end
end Go.Proofs.Ytnglejopbpnknaa
