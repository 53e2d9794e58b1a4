/- insertion sort of ser (54). The comparison of any two rows of labels, in the program (42 to 45, 24, 25). The comparison of any two rows of labels, in the program: the loop, and the closure that the merge sorts by. The document's tests of labels' texts: they answer, and touch nothing. -/
import Derived.Test.YtnglejopbpnknaaJ02Floor
import Derived.Test.YtnglejopbpnknaaJ01Merge
namespace Go.Proofs.Ytnglejopbpnknaa
open Go.RowKit
/-- the comparison that is handed in, wherever only block g and what is new has turned -/
def CmpSer (w0 : World) (g : Nat) (S : Value × Value → Prop) (lt : Value × Value → Value × Value → Bool) : Prop :=
  ∀ W, w0.grownBy W (some g) → ∀ p q, S p → S q → Calls Try.prog 24 #[.agg #[p.1, p.2], .agg #[q.1, q.2]] W fun e W' => ∃ z : Int, e = .returned (.int .i64 z) ∧ (z < 0 ↔ lt p q = true) ∧ Below W.heap.size W W'
def InsSerR (w0 : World) (g na : Nat) (lt : Value × Value → Value × Value → Bool) (x s z : List (Value × Value)) (i : Value) (wr : World) : Prop :=
  ∃ (k : Nat) (s1 : List (Value × Value)), 1 ≤ k ∧ i = .int .i64 ((na + k : Nat) : Int) ∧ (k ≤ s.length ∨ (s = [] ∧ k = 1)) ∧ s1.length = (s.take k).length ∧ Asc lt s1 ∧ Alike lt (s.take k) s1 ∧ RowAt wr g 34 (x ++ s1 ++ s.drop k ++ z) ∧ w0.grownBy wr (some g)
def In2SerR (w0 : World) (g na : Nat) (lt : Value × Value → Value × Value → Bool) (e : Value × Value) (x s1 r : List (Value × Value)) (j : Value) (wr : World) : Prop :=
  ∃ (p1 p2 : List (Value × Value)) (l : Nat), l = p1.length ∧ j = .int .i64 ((na + l : Nat) : Int) ∧ s1 = p1 ++ p2 ∧ (∀ q ∈ p2, lt e q = true) ∧ RowAt wr g 34 (x ++ p1 ++ e :: (p2 ++ r)) ∧ w0.grownBy wr (some g)
set_option maxRecDepth 100000 in
set_option maxHeartbeats 6400000 in
theorem ins_ser (w0 w : World) (g n c : Nat) (S : Value × Value → Prop) (lt : Value × Value → Value × Value → Bool) (hr : Rank lt) (hIs : ∀ p, S p → IsSer p) (hC : CmpSer w0 g S lt) (x s z : List (Value × Value)) (a b : Int) (hw : w0.grownBy w (some g))
    (h : RowAt w g 34 (x ++ s ++ z)) (hS : ∀ p ∈ x ++ s ++ z, S p) (hn : n = (x ++ s ++ z).length) (hl : n ≤ 100000) (ha : a = x.length) (hb : b = (x ++ s).length) :
    Calls Try.prog 54 #[.slice (some ⟨g, 0, none⟩) n c, .int .i64 a, .int .i64 b, .func (.func 24) #[] #[]] w fun e w' => e = .returned (.tuple #[]) ∧ ∃ s', Asc lt s' ∧ Alike lt s s' ∧ s'.length = s.length ∧ RowAt w' g 34 (x ++ s' ++ z) ∧ w0.grownBy w' (some g) := by
  obtain ⟨na, hna⟩ : ∃ n, n = x.length := ⟨_, rfl⟩
  obtain ⟨ns, hns⟩ : ∃ n, n = s.length := ⟨_, rfl⟩
  obtain ⟨nb, hnb⟩ : ∃ k, k = na + ns := ⟨_, rfl⟩
  have hbn : nb ≤ n := by rw [hnb, hna, hns, hn]; simp only [List.length_append]; omega
  rw [← hna] at ha
  rw [show (x ++ s).length = nb by rw [List.length_append]; omega] at hb
  subst ha hb
  have hd1 : IntKind.i64.wrap ((na : Int) + 1) = ((na + 1 : Nat) : Int) := (IntWalk.i64_in _ (by omega)).trans (by omega)
  have h1 : InsSerR w0 g na lt x s z (.int .i64 ((na + 1 : Nat) : Int)) w := by
    refine ⟨1, s.take 1, Nat.le_refl _, rfl, ?_, rfl, ?_, Alike.refl _, by rw [List.append_assoc x, List.take_append_drop]; exact h, hw⟩
    · cases s with
      | nil => exact .inr ⟨rfl, rfl⟩
      | cons e r => exact .inl (by simp)
    · cases s with
      | nil => exact List.Pairwise.nil
      | cons e r => simp [Asc]
  have HI := Lib.hid h1
  have HS := Lib.hid hS
  have HN := Lib.hid hn
  have HNA := Lib.hid hna
  have HNS := Lib.hid hns
  have HNB := Lib.hid hnb
  have HRK := Lib.hid hr
  have HIS := Lib.hid hIs
  have HCM := Lib.hid hC
  clear h hS hn hna hns hnb h1 hr hIs hC hw
  go_enter Try.func54, Try.ntmps54
  go_wp2_with fail
  clear hd1
  go_loopw [8] (fun i wr => InsSerR w0 g na lt x s z i wr) (fun i _ => na + ns + 1 - (intOf i).toNat)
  case atStart => exact HI.out
  case round =>
    obtain ⟨k, s1, hk1, rfl, hks, hs1, hasc, hal, hrow, hg⟩ := hrel
    by_cases hlt : k < ns
    · have hkl : k < s.length := by rw [← HNS.out]; exact hlt
      obtain ⟨e, he⟩ : ∃ e, e = s[k] := ⟨_, rfl⟩
      obtain ⟨r, hr⟩ : ∃ r, r = s.drop (k + 1) ++ z := ⟨_, rfl⟩
      have hsd : s.drop k = e :: s.drop (k + 1) := by rw [List.drop_eq_getElem_cons hkl, he]
      have hst : s.take (k + 1) = s.take k ++ [e] := by rw [List.take_succ_eq_append_getElem hkl, he]
      have hsl : s1.length = k := by rw [hs1, List.length_take]; omega
      have hrow2 : RowAt wr g 34 (x ++ s1 ++ e :: ([] ++ r)) := by
        have := hrow
        rw [hsd] at this
        rw [hr]
        simpa using this
      have hnn : n = (x ++ s1 ++ e :: r).length := by
        rw [HN.out, hr]
        simp only [List.length_append, List.length_cons, List.length_drop]
        omega
      obtain ⟨i, hi⟩ : ∃ i, i = na + k := ⟨_, rfl⟩
      rw [← hi]
      have hin : i < nb := by have := HNB.out; omega
      have h2 : In2SerR w0 g na lt e x s1 r (.int .i64 (i : Int)) wr := ⟨s1, [], k, hsl.symm, by rw [hi], by simp, (fun q hq => by cases hq), hrow2, hg⟩
      have hSS : ∀ p, p = e ∨ p ∈ s1 → S p := fun p hp => by
        rcases hp with rfl | hp
        · exact HS.out _ (by rw [he]; simp [List.getElem_mem])
        · have := List.mem_of_mem_take (hal.symm.mem HRK.out hp)
          exact HS.out _ (by simp [this])
      have HSS := Lib.hid hSS
      have HI2 := Lib.hid h2
      have HASC := Lib.hid hasc
      have HAL := Lib.hid hal
      have HST := Lib.hid hst
      have HSL := Lib.hid hsl
      have HII := Lib.hid hi
      have HRR := Lib.hid hr
      have HNN := Lib.hid hnn
      clear hks hs1 hasc hal hrow hg hkl he hr hsd hst hsl hrow2 hnn h2 hSS hi
      go_wp2_with fail
      go_loopw [9] (fun j wr => In2SerR w0 g na lt e x s1 r j wr) (fun j _ => (intOf j).toNat)
      case atStart => exact HI2.out
      case round =>
        obtain ⟨p1, p2, l, hl1, rfl, hp, hq, hrow, hg⟩ := hrel
        have HR := Lib.hid hrow
        have HG := Lib.hid hg
        have hlk : l ≤ k := by rw [hl1, ← HSL.out, hp, List.length_append]; omega
        have hend : (∀ d, p1.getLast? = some d → lt e d = false) → ∀ W, RowAt W g 34 (x ++ p1 ++ e :: (p2 ++ r)) → w0.grownBy W (some g) → ∀ v : Int, v = ((na + (k + 1) : Nat) : Int) → InsSerR w0 g na lt x s z (.int .i64 v) W := fun hd W hW hGW v hv => by
          subst hv
          refine ⟨k + 1, p1 ++ e :: p2, by omega, rfl, .inl (by rw [← HNS.out]; omega), ?_, ins_done HRK.out (hp ▸ HASC.out) hq hd, ?_, ?_, hGW⟩
          · rw [HST.out, List.length_append, List.length_append, List.length_cons, List.length_singleton]
            have h8 := HSL.out
            rw [hp, List.length_append] at h8
            have h9 := HNS.out
            rw [List.length_take]
            omega
          · rw [HST.out]
            refine (HAL.out.app (Alike.refl [e])).trans ?_
            rw [hp, List.append_assoc]
            exact (Alike.refl p1).app (ins_alike HRK.out hq)
          · have := hW
            rw [HRR.out] at this
            simpa using this
        obtain ⟨jn, hjn⟩ : ∃ jn, jn = na + l := ⟨_, rfl⟩
        rw [← hjn]
        by_cases hl0 : l = 0
        · have hend2 := hend (by
            have : p1 = [] := List.length_eq_zero_iff.1 (by omega)
            rw [this]
            intro d hd
            cases hd)
          have HE := Lib.hid hend2
          have hj1 : decide ((jn : Int) > (na : Int)) = false := decide_eq_false (by omega)
          have hj2 : decide ((na : Int) < (jn : Int)) = false := decide_eq_false (by omega)
          have hj3 : ¬ (na : Int) < (jn : Int) := by omega
          have hsum : IntKind.i64.wrap ((i : Int) + 1) = (i : Int) + 1 := IntWalk.i64_in _ (by omega)
          clear hend hend2 hrow hg hl1 hp hq
          go_upto_region 4 with fail
          go_quiet (fail)
          clear hj1 hj2 hj3
          go_wp2
          exact ⟨HE.out (wr.drewN nq) (HR.out.drewN nq) (only_drewN HG.out nq) _ (by have := HII.out; omega), by have := HII.out; simp [intOf]; omega⟩
        · obtain ⟨p0, dd, hp0⟩ : ∃ p0 dd, p1 = p0 ++ [dd] := by
            have hne : p1 ≠ [] := fun h => hl0 (by rw [hl1, h]; rfl)
            exact ⟨p1.dropLast, p1.getLast hne, (List.dropLast_concat_getLast hne).symm⟩
          obtain ⟨jd, hjd⟩ : ∃ jd, jd = na + p0.length := ⟨_, rfl⟩
          have hpl : p1.length = p0.length + 1 := by rw [hp0]; simp
          have hjj : jn = jd + 1 := by omega
          have hPJ : (x ++ p1 ++ e :: (p2 ++ r))[jn]? = some e := by
            have := get_one (x ++ p1) (p2 ++ r) e
            rwa [show (x ++ p1).length = jn by rw [List.length_append, hjn, hl1, HNA.out]] at this
          have hPD : (x ++ p1 ++ e :: (p2 ++ r))[jd]? = some dd := by
            have := get_one (x ++ p0) (e :: (p2 ++ r)) dd
            rw [show (x ++ p0).length = jd by rw [List.length_append, hjd, HNA.out]] at this
            rw [hp0]
            simpa using this
          have hSE : S e := HSS.out _ (.inl rfl)
          have hSD : S dd := HSS.out _ (.inr (by rw [hp, hp0]; simp))
          obtain ⟨e1, e2⟩ := e
          obtain ⟨f1, f2⟩ := dd
          obtain ⟨⟨A1, n1, c1, q1⟩, A2, n2, c2, q2⟩ := HIS.out _ hSE
          obtain ⟨⟨A3, n3, c3, q3⟩, A4, n4, c4, q4⟩ := HIS.out _ hSD
          dsimp only at q1 q2 q3 q4
          subst q1 q2 q3 q4
          have x1 := hrow.fst hPJ
          have x2 := hrow.snd hPJ
          have y1 := hrow.fst hPD
          have y2 := hrow.snd hPD
          dsimp only at x1 x2 y1 y2
          have hjb : jn < n := by have := HNB.out; omega
          have hj9 : jd < jn := by omega
          have b1 : (jn : Int) < (n : Int) := by omega
          have b2 : (jd : Int) < (n : Int) := by omega
          have b3 : (0 : Int) ≤ (jn : Int) := by omega
          have b4 : (0 : Int) ≤ (jd : Int) := by omega
          have hw1 : IntKind.i64.wrap ((jn : Int) - 1) = (jd : Int) := (IntWalk.i64_in _ (by omega)).trans (by omega)
          have hj1 : decide ((na : Int) < (jn : Int)) = true := decide_eq_true (by omega)
          have hj2 : (na : Int) < (jn : Int) := by omega
          have hsum : IntKind.i64.wrap ((i : Int) + 1) = (i : Int) + 1 := IntWalk.i64_in _ (by omega)
          have HPJ := Lib.hid hPJ
          have HPD := Lib.hid hPD
          have HSE := Lib.hid hSE
          have HSD := Lib.hid hSD
          have HP0 := Lib.hid hp0
          have HP := Lib.hid hp
          have HQ := Lib.hid hq
          have HEND := Lib.hid hend
          have HJD := Lib.hid hjd
          have HJJ := Lib.hid hjj
          have HLL := Lib.hid hl1
          clear hPJ hPD hSE hSD hp0 hp hq hend hjd hjj hl1 hpl hrow hg hjn hl0
          cases hlt2 : lt (.slice A1 n1 c1, .slice A2 n2 c2) (.slice A3 n3 c3, .slice A4 n4 c4) with
          | true =>
            have HLT := Lib.hid hlt2
            clear hlt2
            have HC := Lib.hid (show ∀ z, Calls Try.prog 24 #[.agg #[.slice A1 n1 c1, .slice A2 n2 c2], .agg #[.slice A3 n3 c3, .slice A4 n4 c4]] (wr.drewN z) fun e W' => ∃ q : Int, e = .returned (.int .i64 q) ∧ q < 0 ∧ Below wr.heap.size wr W' from fun z => (HCM.out (wr.drewN z) (only_drewN HG.out z) (.slice A1 n1 c1, .slice A2 n2 c2) (.slice A3 n3 c3, .slice A4 n4 c4) HSE.out HSD.out).mono fun e W' ⟨q, h1, h2, h3⟩ => ⟨q, h1, by rw [HLT.out] at h2; simp at h2; omega, (below_drewN (Below.refl _ _) z).trans h3⟩)
            go_upto_region 4 with fail
            go_region_held3 (fun w' => w'.cell? ⟨g, jn * 2, none⟩ = some (.slice A1 n1 c1) ∧ w'.cell? ⟨g, jn * 2 + 1, none⟩ = some (.slice A2 n2 c2) ∧ w'.cell? ⟨g, jd * 2, none⟩ = some (.slice A3 n3 c3) ∧ w'.cell? ⟨g, jd * 2 + 1, none⟩ = some (.slice A4 n4 c4))
              (first | exact ⟨x1, x2, y1, y2⟩ | exact ⟨v1, v2, v3, v4⟩)
              (first | (go_at_call 24; refine (HC.out 1).mono ?_; rintro e w4 ⟨q, rfl, hq, hb4⟩; have hr4 := HR.out.below hb4; have v1 := hr4.fst HPJ.out; have v2 := hr4.snd HPJ.out; have v3 := hr4.fst HPD.out; have v4 := hr4.snd HPD.out; dsimp only at v1 v2 v3 v4; have HR4 := Lib.hid hr4; have HB4 := Lib.hid hb4; clear hr4 hb4))
            clear x1 x2 y1 y2
            have z1 := HR4.out.frozen (jn * 2)
            have z2 := HR4.out.frozen (jn * 2 + 1)
            have z3 := HR4.out.frozen (jd * 2)
            have z4 := HR4.out.frozen (jd * 2 + 1)
            go_upto_region 6 with fail
            go_region
            clear v1 v2 v3 v4 z1 z2 z3 z4
            go_wp2
            refine ⟨⟨p0, (.slice A3 n3 c3, .slice A4 n4 c4) :: p2, p0.length, rfl, by rw [← HJD.out], by rw [HP.out, HP0.out]; simp, fun q hq => ?_, ?_, ?_⟩, by have := HJJ.out; simp [intOf]; omega⟩
            · rcases List.mem_cons.1 hq with rfl | hq
              · exact HLT.out
              · exact HQ.out q hq
            · have hln : (x ++ p1 ++ (.slice A1 n1 c1, .slice A2 n2 c2) :: (p2 ++ r)).length = n := by
                rw [HNN.out, HP.out]
                simp only [List.length_append, List.length_cons]
                omega
              have h9 := (HR4.out.set_ jn (.slice A3 n3 c3, .slice A4 n4 c4) (by rw [hln]; exact hjb)).set_ jd (.slice A1 n1 c1, .slice A2 n2 c2) (by rw [List.length_set, hln]; have := HJJ.out; omega)
              have e9 : ((x ++ p1 ++ (.slice A1 n1 c1, .slice A2 n2 c2) :: (p2 ++ r)).set jn (.slice A3 n3 c3, .slice A4 n4 c4)).set jd (.slice A1 n1 c1, .slice A2 n2 c2) = x ++ p0 ++ (.slice A1 n1 c1, .slice A2 n2 c2) :: (((.slice A3 n3 c3, .slice A4 n4 c4) :: p2) ++ r) := by
                have k1 := set_two (x ++ p0) [] (p2 ++ r) (.slice A3 n3 c3, .slice A4 n4 c4) (.slice A1 n1 c1, .slice A2 n2 c2)
                rw [List.set_comm _ _ (by simp), show (x ++ p0).length = jd by rw [List.length_append, ← HNA.out, HJD.out], show jd + 1 + ([] : List (Value × Value)).length = jn by rw [HJJ.out]; rfl] at k1
                rw [HP0.out]
                simpa using k1
              rw [e9] at h9
              exact h9
            · exact only_drew (only_setCell (only_setCell (only_setCell (only_setCell (only_trans HG.out (only_of_below HB4.out _)) (.inl rfl) _) (.inl rfl) _) (.inl rfl) _) (.inl rfl) _)
          | false =>
            have HLT := Lib.hid hlt2
            clear hlt2
            have HC := Lib.hid (show ∀ z, Calls Try.prog 24 #[.agg #[.slice A1 n1 c1, .slice A2 n2 c2], .agg #[.slice A3 n3 c3, .slice A4 n4 c4]] (wr.drewN z) fun e W' => ∃ q : Int, e = .returned (.int .i64 q) ∧ 0 ≤ q ∧ Below wr.heap.size wr W' from fun z => (HCM.out (wr.drewN z) (only_drewN HG.out z) (.slice A1 n1 c1, .slice A2 n2 c2) (.slice A3 n3 c3, .slice A4 n4 c4) HSE.out HSD.out).mono fun e W' ⟨q, h1, h2, h3⟩ => ⟨q, h1, by rw [HLT.out] at h2; simp at h2; omega, (below_drewN (Below.refl _ _) z).trans h3⟩)
            go_upto_region 4 with fail
            go_region_held3 (fun w' => w'.cell? ⟨g, jn * 2, none⟩ = some (.slice A1 n1 c1) ∧ w'.cell? ⟨g, jn * 2 + 1, none⟩ = some (.slice A2 n2 c2) ∧ w'.cell? ⟨g, jd * 2, none⟩ = some (.slice A3 n3 c3) ∧ w'.cell? ⟨g, jd * 2 + 1, none⟩ = some (.slice A4 n4 c4))
              (first | exact ⟨x1, x2, y1, y2⟩ | exact ⟨v1, v2, v3, v4⟩)
              (first | (go_at_call 24; refine (HC.out 1).mono ?_; rintro e w4 ⟨q, rfl, hq, hb4⟩; have hr4 := HR.out.below hb4; have v1 := hr4.fst HPJ.out; have v2 := hr4.snd HPJ.out; have v3 := hr4.fst HPD.out; have v4 := hr4.snd HPD.out; dsimp only at v1 v2 v3 v4; have HR4 := Lib.hid hr4; have HB4 := Lib.hid hb4; clear hr4 hb4))
            clear x1 x2 y1 y2 v1 v2 v3 v4
            go_wp2
            exact ⟨HEND.out (fun d hd => by
              rw [HP0.out] at hd
              simp at hd
              rw [← hd]
              exact HLT.out) w4 HR4.out (only_trans HG.out (only_of_below HB4.out _)) _ (by have := HII.out; omega), by have := HII.out; simp [intOf]; omega⟩
    · have hk2 : s.take k = s ∧ s.drop k = [] := by
        rcases hks with h | ⟨h, -⟩
        · rw [← HNS.out] at h
          have : s.length ≤ k := by rw [← HNS.out]; omega
          exact ⟨List.take_of_length_le this, List.drop_eq_nil_iff.2 this⟩
        · rw [h]; simp
      rw [hk2.1] at hs1 hal
      rw [hk2.2, List.append_nil] at hrow
      have hge : ¬ ((na + k : Nat) : Int) < (nb : Int) := by have := HNB.out; omega
      have HF := Lib.hid (show ∃ s', Asc lt s' ∧ Alike lt s s' ∧ s'.length = s.length ∧ RowAt wr g 34 (x ++ s' ++ z) ∧ w0.grownBy wr (some g) from ⟨s1, hasc, hal, hs1, hrow, hg⟩)
      have HGE := Lib.hid hge
      obtain ⟨i, hi⟩ : ∃ i, i = na + k := ⟨_, rfl⟩
      rw [← hi] at hge ⊢
      clear hks hs1 hasc hal hrow hg hk2 hlt
      clear hi
      go_wp2
      go_end0
      obtain ⟨s', h1, h2, h3, h4, h5⟩ := HF.out
      exact ⟨rfl, s', h1, h2, h3, by first | exact h4 | (rw [← List.append_assoc]; exact h4), h5⟩
end Go.Proofs.Ytnglejopbpnknaa
namespace Go.Proofs.Ytnglejopbpnknaa
open Go.RowKit
section
variable {α : Type}
/-- rows of two cells each, cell by cell -/
def flat2 (f g : α → Value) (l : List α) : List Value := l.flatMap fun a => [f a, g a]
theorem flat2_len (f g : α → Value) (l : List α) : (flat2 f g l).length = l.length * 2 := by
  unfold flat2
  induction l with
  | nil => rfl
  | cons a l ih =>
    rw [List.flatMap_cons, List.length_append, ih, List.length_cons]
    simp; omega
theorem flat2_get (f g : α → Value) : ∀ (l : List α) (i : Nat) (p : α), l[i]? = some p → (flat2 f g l)[i * 2]? = some (f p) ∧ (flat2 f g l)[i * 2 + 1]? = some (g p)
  | [], i, p, h => by simp at h
  | a :: l, 0, p, h => by
    simp at h; subst h
    exact ⟨rfl, rfl⟩
  | a :: l, i + 1, p, h => by
    have := flat2_get f g l i p (by simpa using h)
    unfold flat2 at this ⊢
    rw [List.flatMap_cons]
    rw [show (i + 1) * 2 = i * 2 + 2 by omega, show i * 2 + 2 + 1 = i * 2 + 1 + 2 by omega]
    exact this
theorem flat2_append (f g : α → Value) (l m : List α) : flat2 f g (l ++ m) = flat2 f g l ++ flat2 f g m := by simp [flat2]
theorem Reads.two {w : World} {B n : Nat} {A : Option Addr} {f g : α → Value} {l : List α} (h : Reads w B 2 A n (flat2 f g l)) {i : Nat} {p : α} (hi : l[i]? = some p) :
    ∃ d, A = some d ∧ d.block < B ∧ w.cell? (d.add (i * 2)) = some (f p) ∧ w.cell? ⟨(d.add (i * 2)).block, (d.add (i * 2)).off + 1, none⟩ = some (g p) := by
  have h1 := h.1
  rw [flat2_len] at h1
  have hlt := (List.getElem?_eq_some_iff.1 hi).1
  obtain ⟨d, e, hb, hc⟩ := h.2 (by omega)
  obtain ⟨k1, k2⟩ := flat2_get f g l i p hi
  refine ⟨d, e, hb, hc _ _ k1, ?_⟩
  have := hc _ _ k2
  rw [← add_of_add] at this
  generalize d.add (i * 2) = b at this ⊢
  unfold Addr.add at this
  rwa [if_neg (by omega)] at this
end
abbrev flatL (ls : List Lbl) : List Value := flat2 (fun p : Lbl => .string p.1) (fun p : Lbl => .string p.2) ls
/-- a slice that reads as a row of labels -/
def LabsAt (w : World) (B : Nat) (v : Value) (ls : List Lbl) : Prop := ∃ A c, v = .slice A ls.length c ∧ Reads w B 2 A ls.length (flatL ls)
theorem LabsAt.below {w w' : World} {B : Nat} {v : Value} {ls : List Lbl} (h : LabsAt w B v ls) {B2 : Nat} (hb : Below B2 w w') (hB : B ≤ B2) : LabsAt w' B v ls := by
  obtain ⟨A, c, rfl, h2⟩ := h
  exact ⟨A, c, rfl, h2.keep fun p hp => hb.cell (by omega)⟩
theorem LabsAt.more {w : World} {B B2 : Nat} {v : Value} {ls : List Lbl} (h : LabsAt w B v ls) (hB : B ≤ B2) : LabsAt w B2 v ls := by
  obtain ⟨A, c, rfl, h2⟩ := h
  exact ⟨A, c, rfl, h2.more hB⟩
theorem cmps_any (x y : ByteArray) (w : World) : Calls Try.prog 45 #[.string x, .string y] w fun e w' => e = .returned (.int .i64 (cmpS x y)) ∧ w = w' := by
  cases h1 : Op.bytesLess x.toList y.toList with
  | true =>
    have hc := Lib.hid (show cmpS x y = -1 by unfold cmpS cmpB; rw [h1]; rfl)
    go_enter Try.func45, Try.ntmps45
    go_wp2_with (go_at_call 56; refine (isnan_s _ _).mono ?_; rintro e w' ⟨rfl, rfl⟩)
    refine bodyPost_ret (results_tmp rfl _ _ _) rfl ?_
    exact ⟨by rw [hc.out]; rfl, rfl⟩
  | false =>
    cases h2 : x.toList == y.toList with
    | true =>
      have hc := Lib.hid (show cmpS x y = 0 by unfold cmpS cmpB; rw [h1, eq_of_beq h2, bytesLess_self]; rfl)
      go_enter Try.func45, Try.ntmps45
      go_wp2_with (go_at_call 56; refine (isnan_s _ _).mono ?_; rintro e w' ⟨rfl, rfl⟩)
      refine bodyPost_ret (results_tmp rfl _ _ _) rfl ?_
      exact ⟨by rw [hc.out]; rfl, rfl⟩
    | false =>
      have hc := Lib.hid (show cmpS x y = 1 by
        have h3 : Op.bytesLess y.toList x.toList = true := by
          cases h4 : Op.bytesLess y.toList x.toList with
          | true => rfl
          | false => exact absurd (bl_tri _ _ h1 h4) (by simpa using h2)
        unfold cmpS cmpB
        rw [h1, h3]; rfl)
      go_enter Try.func45, Try.ntmps45
      go_wp2_with (go_at_call 56; refine (isnan_s _ _).mono ?_; rintro e w' ⟨rfl, rfl⟩)
      refine bodyPost_ret (results_tmp rfl _ _ _) rfl ?_
      exact ⟨by rw [hc.out]; rfl, rfl⟩
set_option maxHeartbeats 800000 in
theorem or_any (g : Nat) (a b : Int) (w : World) (h0 : w.cell? ⟨g, 0, none⟩ = some (.int .i64 a)) (h1 : w.cell? ⟨g, 1, none⟩ = some (.int .i64 b)) :
    Calls Try.prog 44 #[.slice (some ⟨g, 0, none⟩) 2 2] w fun e w' => e = .returned (.int .i64 (lex a b)) ∧ w = w' := by
  by_cases ha : a = 0
  · subst ha
    by_cases hb : b = 0
    · subst hb
      go_enter Try.func44, Try.ntmps44
      go_wp2_with fail
      go_rounds 3
      refine bodyPost_ret (results_tmp rfl _ _ _) rfl ?_
      exact ⟨rfl, rfl⟩
    · have hb2 : (b == 0) = false := beq_eq_false_iff_ne.2 hb
      have HB := Lib.hid hb
      clear hb
      go_enter Try.func44, Try.ntmps44
      go_wp2_with fail
      go_rounds 2
      refine bodyPost_ret (results_tmp rfl _ _ _) rfl ?_
      exact ⟨rfl, rfl⟩
  · have ha2 : (a == 0) = false := beq_eq_false_iff_ne.2 ha
    have HA := Lib.hid ha
    clear ha
    go_enter Try.func44, Try.ntmps44
    go_wp2_with fail
    go_rounds 1
    refine bodyPost_ret (results_tmp rfl _ _ _) rfl ?_
    exact ⟨by unfold lex; rw [if_neg HA.out]; rfl, rfl⟩
set_option maxHeartbeats 1600000 in
theorem lcl_any (x y x' y' : ByteArray) (w : World) :
    Calls Try.prog 43 #[.agg #[.string x, .string y], .agg #[.string x', .string y']] w fun e w' => e = .returned (.int .i64 (cmpLab (x, y) (x', y'))) ∧ Below w.heap.size w w' := by
  go_enter Try.func43, Try.ntmps43
  go_wp2_with fail
  obtain ⟨w2, hw2⟩ : ∃ w2, (w.alloc (.cells #[.string x, .string y] 61)).alloc (.cells #[.string x', .string y'] 61) = w2 := ⟨_, rfl⟩
  have b0 : Blk w2 w.heap.size 61 #[.string x, .string y] := by rw [← hw2]; exact (Blk.new w 61 _).alloc _
  have b1 : Blk w2 (w.heap.size + 1) 61 #[.string x', .string y'] := by rw [← hw2]; have := Blk.new (w.alloc (.cells #[.string x, .string y] 61)) 61 #[.string x', .string y']; rwa [World.size_alloc] at this
  have hb : Below w.heap.size w w2 := by rw [← hw2]; exact ((Below.refl _ w).alloc (Nat.le_refl _) _).alloc (by simp) _
  have hs := hb.size
  rw [hw2]
  clear hw2
  have c0 : w2.cell? ⟨w.heap.size, 0, none⟩ = some (.string x) := b0.cell 0
  have c1 : w2.cell? ⟨w.heap.size, 1, none⟩ = some (.string y) := b0.cell 1
  have d0 : w2.cell? ⟨w.heap.size + 1, 0, none⟩ = some (.string x') := b1.cell 0
  have d1 : w2.cell? ⟨w.heap.size + 1, 1, none⟩ = some (.string y') := b1.cell 1
  have hl0 := b0.lt
  have hl1 := b1.lt
  have k0 : ∀ o, (w2.alloc o).cell? ⟨w.heap.size, 0, none⟩ = some (.string x) := fun o => (World.cell?_alloc_lt w2 o ⟨w.heap.size, 0, none⟩ hl0).trans c0
  have k1 : ∀ o, (w2.alloc o).cell? ⟨w.heap.size, 1, none⟩ = some (.string y) := fun o => (World.cell?_alloc_lt w2 o ⟨w.heap.size, 1, none⟩ hl0).trans c1
  have k2 : ∀ o, (w2.alloc o).cell? ⟨w.heap.size + 1, 0, none⟩ = some (.string x') := fun o => (World.cell?_alloc_lt w2 o ⟨w.heap.size + 1, 0, none⟩ hl1).trans d0
  have k3 : ∀ o, (w2.alloc o).cell? ⟨w.heap.size + 1, 1, none⟩ = some (.string y') := fun o => (World.cell?_alloc_lt w2 o ⟨w.heap.size + 1, 1, none⟩ hl1).trans d1
  have HB := Lib.hid hb
  clear b0 b1 hb
  go_region_held3 (fun w' => w'.cell? ⟨w.heap.size, 0, none⟩ = some (.string x) ∧ w'.cell? ⟨w.heap.size, 1, none⟩ = some (.string y) ∧ w'.cell? ⟨w.heap.size + 1, 0, none⟩ = some (.string x') ∧ w'.cell? ⟨w.heap.size + 1, 1, none⟩ = some (.string y'))
    (first | exact ⟨c0, c1, d0, d1⟩ | exact ⟨k0 _, k1 _, k2 _, k3 _⟩)
    (first
      | (go_at_call 45; refine (cmps_any _ _ _).mono ?_; rintro e w' ⟨rfl, rfl⟩)
      | (go_at_call 44; refine (or_any w2.heap.size (cmpS x x') (cmpS y y') _ (by exact (Blk.new w2 3 #[.int .i64 (cmpS x x'), .int .i64 (cmpS y y')]).cell 0) (by exact (Blk.new w2 3 #[.int .i64 (cmpS x x'), .int .i64 (cmpS y y')]).cell 1)).mono ?_; rintro e w' ⟨rfl, rfl⟩))
  go_wp2
  go_ret
  exact ⟨rfl, (HB.out.alloc hs _).drew⟩
end Go.Proofs.Ytnglejopbpnknaa
namespace Go.Proofs.Ytnglejopbpnknaa
open Go.RowKit
def CfR (w : World) (a b : List Lbl) (i : Value) (wr : World) : Prop :=
  ∃ k : Nat, i = .int .i64 (k : Int) ∧ k ≤ a.length ∧ k ≤ b.length ∧ cmpL a b = cmpL (a.drop k) (b.drop k) ∧ Below w.heap.size w wr
set_option maxRecDepth 100000 in
set_option maxHeartbeats 3200000 in
theorem cmpfunc_any (w : World) (v1 v2 : Value) (a b : List Lbl) (h1 : LabsAt w w.heap.size v1 a) (h2 : LabsAt w w.heap.size v2 b) (ha : a.length ≤ 100000) (hb : b.length ≤ 100000) :
    Calls Try.prog 42 #[v1, v2, .func (.func 43) #[] #[]] w fun e w' => e = .returned (.int .i64 (cmpL a b)) ∧ Below w.heap.size w w' := by
  obtain ⟨A1, c1, rfl, hr1⟩ := h1
  obtain ⟨A2, c2, rfl, hr2⟩ := h2
  obtain ⟨n1, hn1⟩ : ∃ n, n = a.length := ⟨_, rfl⟩
  obtain ⟨n2, hn2⟩ : ∃ n, n = b.length := ⟨_, rfl⟩
  rw [← hn1] at hr1 ha ⊢
  rw [← hn2] at hr2 hb ⊢
  have HR1 := Lib.hid hr1
  have HR2 := Lib.hid hr2
  have HN1 := Lib.hid hn1
  have HN2 := Lib.hid hn2
  have HI := Lib.hid (show CfR w a b (.int .i64 0) w from ⟨0, rfl, Nat.zero_le _, Nat.zero_le _, rfl, Below.refl _ w⟩)
  clear hr1 hr2 hn1 hn2
  go_enter Try.func42, Try.ntmps42
  go_wp2_with fail
  go_loopw [13] (fun i wr => CfR w a b i wr) (fun i _ => n1 - (intOf i).toNat)
  case atStart => exact HI.out
  case round =>
    obtain ⟨k, rfl, hka, hkb, hc, hbl⟩ := hrel
    have HC := Lib.hid hc
    have HB := Lib.hid hbl
    have hn1 := HN1.out
    have hn2 := HN2.out
    by_cases hlt : k < n1
    · have i1 : (k : Int) < (n1 : Int) := by omega
      obtain ⟨p, hp⟩ : ∃ p, a[k]? = some p := ⟨_, List.getElem?_eq_getElem (by omega)⟩
      have hda : a.drop k = p :: a.drop (k + 1) := by
        obtain ⟨h8, h9⟩ := List.getElem?_eq_some_iff.1 hp
        rw [List.drop_eq_getElem_cons h8, h9]
      obtain ⟨d1, rfl, hd1, x1, x2⟩ := (HR1.out.keep fun p hp => hbl.cell hp).two hp
      obtain ⟨p1, p2⟩ := p
      dsimp only at x1 x2
      have HDA := Lib.hid hda
      by_cases hlt2 : k < n2
      · have i2 : decide ((n2 : Int) ≤ (k : Int)) = false := decide_eq_false (by omega)
        obtain ⟨q, hq⟩ : ∃ p, b[k]? = some p := ⟨_, List.getElem?_eq_getElem (by omega)⟩
        have hdb : b.drop k = q :: b.drop (k + 1) := by
          obtain ⟨h8, h9⟩ := List.getElem?_eq_some_iff.1 hq
          rw [List.drop_eq_getElem_cons h8, h9]
        obtain ⟨d2, rfl, hd2, y1, y2⟩ := (HR2.out.keep fun p hp => hbl.cell hp).two hq
        obtain ⟨q1, q2⟩ := q
        dsimp only at y1 y2
        have HDB := Lib.hid hdb
        have hbs := hbl.size
        have i3 : (k : Int) < (n2 : Int) := by omega
        have i4 : ¬ (n2 : Int) ≤ (k : Int) := by omega
        have hal := fun o (p : Addr) (hp : p.block < w.heap.size) => World.cell?_alloc_lt wr o p (by omega)
        have z1 : ∀ o, (wr.alloc o).cell? (d2.add (k * 2)) = some (.string q1) := fun o => (hal o _ (by rw [block_of_add]; exact hd2)).trans y1
        have z2 : ∀ o, (wr.alloc o).cell? ⟨(d2.add (k * 2)).block, (d2.add (k * 2)).off + 1, none⟩ = some (.string q2) := fun o => (hal o _ (by show (d2.add (k * 2)).block < _; rw [block_of_add]; exact hd2)).trans y2
        have s1 : IntKind.i64.wrap ((k : Int) + 1) = ((k + 1 : Nat) : Int) := (IntWalk.i64_in _ (by omega)).trans (by omega)
        clear hc hbl hp hda hq hdb hn1 hn2 hal
        go_wp2_with fail
        refine (lcl_any p1 p2 q1 q2 _).mono ?_
        rintro e w4 ⟨rfl, hb4⟩
        have HB4 := Lib.hid (HB.out.trans (((((Below.refl wr.heap.size wr).alloc (Nat.le_refl _) (.cells #[.string p1, .string p2] 61)).alloc (by simp) (.cells #[.string q1, .string q2] 61)).trans (hb4.mono (by simp; omega))).mono hbs))
        clear hb4 x1 x2 y1 y2 z1 z2
        cases hz : cmpLab (p1, p2) (q1, q2) != 0 with
        | true =>
          have HZ := Lib.hid hz
          go_wp2_with fail
          refine bodyPost_ret (results_tmp rfl _ _ _) rfl ?_
          refine ⟨?_, HB4.out⟩
          have hz := HZ.out
          rw [HC.out, HDA.out, HDB.out]
          show _ = Ending.returned (Value.int IntKind.i64 (lex (cmpLab (p1, p2) (q1, q2)) _))
          unfold lex
          rw [if_neg (by simpa using hz)]
          rfl
        | false =>
          have HZ := Lib.hid hz
          go_wp2_with fail
          refine ⟨⟨k + 1, rfl, by have := HN1.out; omega, by have := HN2.out; omega, ?_, HB4.out⟩, by simp [intOf]; omega⟩
          have hz := HZ.out
          rw [HC.out, HDA.out, HDB.out]
          show lex (cmpLab (p1, p2) (q1, q2)) _ = _
          unfold lex
          rw [if_pos (by simpa using hz)]
          rfl
      · have i2 : decide ((n2 : Int) ≤ (k : Int)) = true := decide_eq_true (by omega)
        have i4 : (n2 : Int) ≤ (k : Int) := by omega
        have HDB := Lib.hid (show b.drop k = [] from List.drop_of_length_le (by omega))
        have HBA := Lib.hid (HB.out.alloc hbl.size (.cells #[.string p1, .string p2] 61))
        clear hc hbl hp hda hn1 hn2
        go_wp2_with fail
        refine bodyPost_ret (results_tmp rfl _ _ _) rfl ?_
        refine ⟨?_, HBA.out⟩
        rw [HC.out, HDA.out, HDB.out]
        rfl
    · have i1 : ¬ (k : Int) < (n1 : Int) := by omega
      by_cases hlt2 : n1 < n2
      · have i2 : (n1 : Int) < (n2 : Int) := by omega
        have HDA := Lib.hid (show a.drop k = [] from List.drop_of_length_le (by omega))
        have HDB := Lib.hid (show ∃ q r, b.drop k = q :: r by
          cases e : b.drop k with
          | nil => have := congrArg List.length e; rw [List.length_drop] at this; simp at this; omega
          | cons q r => exact ⟨q, r, rfl⟩)
        clear hc hbl hn1 hn2
        go_wp2_with fail
        refine bodyPost_ret (results_tmp rfl _ _ _) rfl ?_
        obtain ⟨q, r, e⟩ := HDB.out
        refine ⟨?_, HB.out⟩
        rw [HC.out, HDA.out, e]
        rfl
      · have i2 : ¬ (n1 : Int) < (n2 : Int) := by omega
        have HDA := Lib.hid (show a.drop k = [] from List.drop_of_length_le (by omega))
        have HDB := Lib.hid (show b.drop k = [] from List.drop_of_length_le (by omega))
        clear hc hbl hn1 hn2
        go_wp2_with fail
        refine bodyPost_ret (results_tmp rfl _ _ _) rfl ?_
        refine ⟨?_, HB.out⟩
        rw [HC.out, HDA.out, HDB.out]
        rfl
theorem lcompare_any (w : World) (v1 v2 : Value) (a b : List Lbl) (h1 : LabsAt w w.heap.size v1 a) (h2 : LabsAt w w.heap.size v2 b) (ha : a.length ≤ 100000) (hb : b.length ≤ 100000) :
    Calls Try.prog 25 #[v1, v2] w fun e w' => e = .returned (.int .i64 (cmpL a b)) ∧ Below w.heap.size w w' := by
  have HC := Lib.hid (cmpfunc_any w v1 v2 a b h1 h2 ha hb)
  clear h1 h2
  go_enter Try.func25, Try.ntmps25
  go_wp2_with fail
  refine HC.out.mono ?_
  rintro e w' ⟨rfl, hb⟩
  have HB := Lib.hid hb
  clear hb
  go_wp2
  go_ret
  exact ⟨rfl, HB.out⟩
/-- the closure that the merge sorts by -/
theorem scmp_any (w : World) (v1 v2 s1 s2 : Value) (a b : List Lbl) (h1 : LabsAt w w.heap.size v1 a) (h2 : LabsAt w w.heap.size v2 b) (ha : a.length ≤ 100000) (hb : b.length ≤ 100000) :
    Calls Try.prog 24 #[.agg #[v1, s1], .agg #[v2, s2]] w fun e w' => e = .returned (.int .i64 (cmpL a b)) ∧ Below w.heap.size w w' := by
  have H1 := Lib.hid h1
  have H2 := Lib.hid h2
  clear h1 h2
  go_enter Try.func24, Try.ntmps24
  go_wp2_with fail
  have hb0 := ((Below.refl w.heap.size w).alloc (Nat.le_refl _) (.cells #[v1, s1] 34)).alloc (by simp) (.cells #[v2, s2] 34)
  refine (lcompare_any _ v1 v2 a b ((H1.out.below hb0 (Nat.le_refl _)).more (by simp; omega)) ((H2.out.below hb0 (Nat.le_refl _)).more (by simp; omega)) ha hb).mono ?_
  rintro e w' ⟨rfl, hb⟩
  have HB := Lib.hid (hb0.trans (hb.mono (by simp; omega)))
  clear hb hb0
  go_wp2
  go_ret
  exact ⟨rfl, HB.out⟩
end Go.Proofs.Ytnglejopbpnknaa
namespace Go.Proofs.Ytnglejopbpnknaa
open Go.RowKit
def okW (x z : Int) (col : Bool) : Bool := ((decide (97 ≤ x) && decide (x ≤ 122)) || (decide (65 ≤ x) && decide (x ≤ 90)) || (x == 95) || (decide (48 ≤ x) && decide (x ≤ 57) && decide (0 < z))) || ((x == 58) && col)
def wordF (s : ByteArray) (col : Bool) : Nat → Nat → Bool
  | 0, _ => true
  | f + 1, k => if h : k < s.size then okW (s[k].toNat : Int) (k : Int) col && wordF s col f (k + 1) else true
def wordB (s : ByteArray) (col : Bool) : Bool := wordF s col (s.size + 1) 0 && decide (1 ≤ s.size) && decide (s.size ≤ 1024)
def WordR (s : ByteArray) (col : Bool) (i : Value) : Prop := ∃ k f : Nat, k ≤ s.size ∧ i = .int .i64 k ∧ s.size < k + f ∧ wordF s col (s.size + 1) 0 = wordF s col f k
def BoolIs (v : Value) (b : Bool) : Prop := v = .bool b
set_option maxRecDepth 100000 in
set_option maxHeartbeats 3200000 in
theorem word_any (s : ByteArray) (col : Bool) (w : World) (hs : s.size ≤ 9223372036854775807) : Calls Try.prog 70 #[.string s, .bool col] w fun e w' => e = .returned (.bool (wordB s col)) ∧ w = w' := by
  go_enter Try.func70, Try.ntmps70
  go_wp2_with fail
  go_loop [5] (fun i => WordR s col i) (fun i => s.size - (intOf i).toNat)
  case atStart => exact ⟨0, s.size + 1, Nat.zero_le _, rfl, by omega, rfl⟩
  case round =>
    obtain ⟨k, f, hk, rfl, hf, hw⟩ := hrel
    by_cases hlt : k < s.size
    · obtain ⟨f, rfl⟩ : ∃ f', f = f' + 1 := ⟨f - 1, by omega⟩
      have HWF := Lib.hid (show wordF s col (s.size + 1) 0 = (okW (s[k].toNat : Int) (k : Int) col && wordF s col f (k + 1)) by rw [hw, wordF, dif_pos hlt])
      clear hw
      have hx : s[k].toNat < 256 := s[k].toNat_lt
      obtain ⟨x, hxe⟩ : ∃ x, x = s[k].toNat := ⟨_, rfl⟩
      have HX := Lib.hid hxe
      rw [← hxe] at hx
      clear hxe
      have sk : IntKind.i64.wrap ((k : Int) + 1) = ((k + 1 : Nat) : Int) := (IntWalk.i64_in _ (by omega)).trans (by omega)
      go_upto_region 5 with fail
      rw [← HX.out]
      obtain ⟨z, hz⟩ : ∃ z : Int, z = (k : Int) := ⟨_, rfl⟩
      rw [← hz] at sk ⊢
      have HZ := Lib.hid hz
      clear hz
      go_cut [7] from 17 to 53 (fun c wx => wx = w ∧ BoolIs c (okW (x : Int) z col))
      case first =>
        by_cases hc : 0 ≤ x ∧ x ≤ 47
        · obtain ⟨h1, h2⟩ := hc
          have f0 : ¬ (97 : Int) ≤ (x : Int) := by omega
          have f1 : (x : Int) ≤ 122 := by omega
          have f2 : ¬ (65 : Int) ≤ (x : Int) := by omega
          have f3 : (x : Int) ≤ 90 := by omega
          have f4 : ¬ (48 : Int) ≤ (x : Int) := by omega
          have f5 : (x : Int) ≤ 57 := by omega
          have f6 : ((x : Int) == 95) = false := beq_eq_false_iff_ne.2 (by omega)
          have f7 : ((x : Int) == 58) = false := beq_eq_false_iff_ne.2 (by omega)
          clear h1 h2 hx
          go_wp2
          all_goals
            go_meet
            exact ⟨rfl, by unfold BoolIs okW; simp [*] <;> (try intro hh) <;> omega⟩
        by_cases hc : 48 ≤ x ∧ x ≤ 57
        · obtain ⟨h1, h2⟩ := hc
          have f0 : ¬ (97 : Int) ≤ (x : Int) := by omega
          have f1 : (x : Int) ≤ 122 := by omega
          have f2 : ¬ (65 : Int) ≤ (x : Int) := by omega
          have f3 : (x : Int) ≤ 90 := by omega
          have f4 : (48 : Int) ≤ (x : Int) := by omega
          have f5 : (x : Int) ≤ 57 := by omega
          have f6 : ((x : Int) == 95) = false := beq_eq_false_iff_ne.2 (by omega)
          have f7 : ((x : Int) == 58) = false := beq_eq_false_iff_ne.2 (by omega)
          clear h1 h2 hx
          go_wp2
          all_goals
            go_meet
            exact ⟨rfl, by unfold BoolIs okW; simp [*] <;> (try intro hh) <;> omega⟩
        by_cases hc : 58 ≤ x ∧ x ≤ 58
        · obtain ⟨h1, h2⟩ := hc
          have f0 : ¬ (97 : Int) ≤ (x : Int) := by omega
          have f1 : (x : Int) ≤ 122 := by omega
          have f2 : ¬ (65 : Int) ≤ (x : Int) := by omega
          have f3 : (x : Int) ≤ 90 := by omega
          have f4 : (48 : Int) ≤ (x : Int) := by omega
          have f5 : ¬ (x : Int) ≤ 57 := by omega
          have f6 : ((x : Int) == 95) = false := beq_eq_false_iff_ne.2 (by omega)
          have f7 : ((x : Int) == 58) = true := beq_iff_eq.2 (by omega)
          clear h1 h2 hx
          go_wp2
          all_goals
            go_meet
            exact ⟨rfl, by unfold BoolIs okW; simp [*] <;> (try intro hh) <;> omega⟩
        by_cases hc : 59 ≤ x ∧ x ≤ 64
        · obtain ⟨h1, h2⟩ := hc
          have f0 : ¬ (97 : Int) ≤ (x : Int) := by omega
          have f1 : (x : Int) ≤ 122 := by omega
          have f2 : ¬ (65 : Int) ≤ (x : Int) := by omega
          have f3 : (x : Int) ≤ 90 := by omega
          have f4 : (48 : Int) ≤ (x : Int) := by omega
          have f5 : ¬ (x : Int) ≤ 57 := by omega
          have f6 : ((x : Int) == 95) = false := beq_eq_false_iff_ne.2 (by omega)
          have f7 : ((x : Int) == 58) = false := beq_eq_false_iff_ne.2 (by omega)
          clear h1 h2 hx
          go_wp2
          all_goals
            go_meet
            exact ⟨rfl, by unfold BoolIs okW; simp [*] <;> (try intro hh) <;> omega⟩
        by_cases hc : 65 ≤ x ∧ x ≤ 90
        · obtain ⟨h1, h2⟩ := hc
          have f0 : ¬ (97 : Int) ≤ (x : Int) := by omega
          have f1 : (x : Int) ≤ 122 := by omega
          have f2 : (65 : Int) ≤ (x : Int) := by omega
          have f3 : (x : Int) ≤ 90 := by omega
          have f4 : (48 : Int) ≤ (x : Int) := by omega
          have f5 : ¬ (x : Int) ≤ 57 := by omega
          have f6 : ((x : Int) == 95) = false := beq_eq_false_iff_ne.2 (by omega)
          have f7 : ((x : Int) == 58) = false := beq_eq_false_iff_ne.2 (by omega)
          clear h1 h2 hx
          go_wp2
          all_goals
            go_meet
            exact ⟨rfl, by unfold BoolIs okW; simp [*] <;> (try intro hh) <;> omega⟩
        by_cases hc : 91 ≤ x ∧ x ≤ 94
        · obtain ⟨h1, h2⟩ := hc
          have f0 : ¬ (97 : Int) ≤ (x : Int) := by omega
          have f1 : (x : Int) ≤ 122 := by omega
          have f2 : (65 : Int) ≤ (x : Int) := by omega
          have f3 : ¬ (x : Int) ≤ 90 := by omega
          have f4 : (48 : Int) ≤ (x : Int) := by omega
          have f5 : ¬ (x : Int) ≤ 57 := by omega
          have f6 : ((x : Int) == 95) = false := beq_eq_false_iff_ne.2 (by omega)
          have f7 : ((x : Int) == 58) = false := beq_eq_false_iff_ne.2 (by omega)
          clear h1 h2 hx
          go_wp2
          all_goals
            go_meet
            exact ⟨rfl, by unfold BoolIs okW; simp [*] <;> (try intro hh) <;> omega⟩
        by_cases hc : 95 ≤ x ∧ x ≤ 95
        · obtain ⟨h1, h2⟩ := hc
          have f0 : ¬ (97 : Int) ≤ (x : Int) := by omega
          have f1 : (x : Int) ≤ 122 := by omega
          have f2 : (65 : Int) ≤ (x : Int) := by omega
          have f3 : ¬ (x : Int) ≤ 90 := by omega
          have f4 : (48 : Int) ≤ (x : Int) := by omega
          have f5 : ¬ (x : Int) ≤ 57 := by omega
          have f6 : ((x : Int) == 95) = true := beq_iff_eq.2 (by omega)
          have f7 : ((x : Int) == 58) = false := beq_eq_false_iff_ne.2 (by omega)
          clear h1 h2 hx
          go_wp2
          all_goals
            go_meet
            exact ⟨rfl, by unfold BoolIs okW; simp [*] <;> (try intro hh) <;> omega⟩
        by_cases hc : 96 ≤ x ∧ x ≤ 96
        · obtain ⟨h1, h2⟩ := hc
          have f0 : ¬ (97 : Int) ≤ (x : Int) := by omega
          have f1 : (x : Int) ≤ 122 := by omega
          have f2 : (65 : Int) ≤ (x : Int) := by omega
          have f3 : ¬ (x : Int) ≤ 90 := by omega
          have f4 : (48 : Int) ≤ (x : Int) := by omega
          have f5 : ¬ (x : Int) ≤ 57 := by omega
          have f6 : ((x : Int) == 95) = false := beq_eq_false_iff_ne.2 (by omega)
          have f7 : ((x : Int) == 58) = false := beq_eq_false_iff_ne.2 (by omega)
          clear h1 h2 hx
          go_wp2
          all_goals
            go_meet
            exact ⟨rfl, by unfold BoolIs okW; simp [*] <;> (try intro hh) <;> omega⟩
        by_cases hc : 97 ≤ x ∧ x ≤ 122
        · obtain ⟨h1, h2⟩ := hc
          have f0 : (97 : Int) ≤ (x : Int) := by omega
          have f1 : (x : Int) ≤ 122 := by omega
          have f2 : (65 : Int) ≤ (x : Int) := by omega
          have f3 : ¬ (x : Int) ≤ 90 := by omega
          have f4 : (48 : Int) ≤ (x : Int) := by omega
          have f5 : ¬ (x : Int) ≤ 57 := by omega
          have f6 : ((x : Int) == 95) = false := beq_eq_false_iff_ne.2 (by omega)
          have f7 : ((x : Int) == 58) = false := beq_eq_false_iff_ne.2 (by omega)
          clear h1 h2 hx
          go_wp2
          all_goals
            go_meet
            exact ⟨rfl, by unfold BoolIs okW; simp [*] <;> (try intro hh) <;> omega⟩
        by_cases hc : 123 ≤ x ∧ x ≤ 255
        · obtain ⟨h1, h2⟩ := hc
          have f0 : (97 : Int) ≤ (x : Int) := by omega
          have f1 : ¬ (x : Int) ≤ 122 := by omega
          have f2 : (65 : Int) ≤ (x : Int) := by omega
          have f3 : ¬ (x : Int) ≤ 90 := by omega
          have f4 : (48 : Int) ≤ (x : Int) := by omega
          have f5 : ¬ (x : Int) ≤ 57 := by omega
          have f6 : ((x : Int) == 95) = false := beq_eq_false_iff_ne.2 (by omega)
          have f7 : ((x : Int) == 58) = false := beq_eq_false_iff_ne.2 (by omega)
          clear h1 h2 hx
          go_wp2
          all_goals
            go_meet
            exact ⟨rfl, by unfold BoolIs okW; simp [*] <;> (try intro hh) <;> omega⟩
        exfalso
        omega
      case rest =>
        obtain ⟨rfl, hb⟩ := hcut
        unfold BoolIs at hb
        subst hb
        have HWG := HWF.out
        rw [← HX.out] at HWG
        rw [HZ.out] at sk ⊢
        generalize okW (x : Int) (k : Int) col = b at HWG ⊢
        have HWG := Lib.hid HWG
        cases b with
        | true =>
          go_wp2
          exact ⟨⟨k + 1, f, by omega, rfl, by omega, by rw [HWG.out, Bool.true_and]⟩, by simp [intOf]; omega⟩
        | false =>
          go_wp2
          refine bodyPost_ret (results_tmp rfl _ _ _) rfl ?_
          exact ⟨by unfold wordB; rw [HWG.out]; rfl, rfl⟩
    · have hks : k = s.size := by omega
      have HWE := Lib.hid (show wordF s col (s.size + 1) 0 = true by
        rw [hw]
        cases f with
        | zero => rfl
        | succ f => rw [wordF, dif_neg hlt])
      clear hw
      subst hks
      by_cases h1 : 1 ≤ s.size
      · have g1 : (1 : Int) ≤ (s.size : Int) := by omega
        by_cases h2 : s.size ≤ 1024
        · have g2 : (s.size : Int) ≤ 1024 := by omega
          have HV := Lib.hid (show wordB s col = true by unfold wordB; rw [HWE.out, decide_eq_true h1, decide_eq_true h2]; rfl)
          clear h1 h2
          go_wp2
          refine bodyPost_ret (results_tmp rfl _ _ _) rfl ?_
          exact ⟨by rw [HV.out]; rfl, rfl⟩
        · have g2 : ¬ (s.size : Int) ≤ 1024 := by omega
          have HV := Lib.hid (show wordB s col = false by unfold wordB; rw [HWE.out, decide_eq_true h1, decide_eq_false h2]; rfl)
          clear h1 h2
          go_wp2
          refine bodyPost_ret (results_tmp rfl _ _ _) rfl ?_
          exact ⟨by rw [HV.out]; rfl, rfl⟩
      · have g1 : ¬ (1 : Int) ≤ (s.size : Int) := by omega
        have HV := Lib.hid (show wordB s col = false by unfold wordB; rw [HWE.out, decide_eq_false h1]; rfl)
        clear h1
        go_wp2
        refine bodyPost_ret (results_tmp rfl _ _ _) rfl ?_
        exact ⟨by rw [HV.out]; rfl, rfl⟩
end Go.Proofs.Ytnglejopbpnknaa
