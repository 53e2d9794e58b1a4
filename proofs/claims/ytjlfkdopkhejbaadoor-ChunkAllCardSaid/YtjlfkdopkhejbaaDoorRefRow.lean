/- The walk of the keep's own Row: it writes just the document's bits. -/
import Derived.Test.YtjlfkdopkhejbaaDoorRefZeros
import Derived.Test.YtjlfkdopkhejbaaDoorRefRd
namespace Go.Proofs.YtjlfkdopkhejbaaDoor
open Go.RowKit Go.Shelf Ck
attribute [local go_sem] frombits_call tobits_call run_store_float

theorem RefS.alloc {w : World} {B : Nat} {l : List Bool} (h : RefS w B l) (o : Obj) : RefS (w.alloc o) B l := let ⟨r, hr⟩ := h; ⟨r, hr.blk.alloc o, hr.own.alloc o⟩
theorem refS_new (w : World) : RefS (w.alloc (.cells #[.slice none 0 0] 79)) w.heap.size [] := ⟨_, Blk.new _ _ _, World.ownsRow_nil _ _ _ _⟩

def RowRel (w : World) (l : List Smp) (d le ta i : Value) (wr : World) : Prop :=
  ∃ (k : Nat) (a b : Int), k ≤ l.length ∧ i = .int .i64 k ∧ d = .int .i64 (encSt St.zero (l.take k)).delta ∧ le = .int .i64 a ∧ ta = .int .i64 b ∧ WinSim (encSt St.zero (l.take k)) a b ∧
    RefS wr w.heap.size (bitsOf l.length 16 ++ encBits St.zero (l.take k)) ∧ Below w.heap.size w wr

theorem encSt_last (l : List Smp) (k : Nat) (h : k < l.length) : (encSt St.zero (l.take (k + 1))).t = l[k].t ∧ (encSt St.zero (l.take (k + 1))).v = l[k].v := by
  rw [sample_snoc l k h, encSt_append]
  simp only [encSt]
  unfold appendBits
  split <;> exact ⟨rfl, rfl⟩
theorem RefS.drewN {w : World} {B : Nat} {l : List Bool} (h : RefS w B l) (n : Nat) : RefS (w.drewN n) B l := let ⟨r, hr⟩ := h; ⟨r, hr.blk.drewN n, hr.own⟩

/-- the bits of what differs where the window is kept -/
theorem refvalue_keep (s : St) (x : Nat) (a b : Nat) (hw : WinSim s a b) (hx : x ≠ 0) (ha : (a : Int) ≤ (min (clz x) 31 : Nat)) (hb : (b : Int) ≤ (ctz x : Nat)) :
    valueBits s x = (bitsOf 1 1 ++ (bitsOf 0 1 ++ bitsOf (x / 2 ^ b) (64 - (a : Int) - (b : Int)).toNat), s) := by
  have ho : s.opn = true := by
    cases ho : s.opn with
    | true => rfl
    | false => obtain ⟨h1, _⟩ := hw.2 ho; omega
  obtain ⟨e1, e2, _⟩ := hw.1 ho
  unfold valueBits
  rw [if_neg hx, if_pos ⟨ho, by omega, by omega⟩, ← e1, ← e2, Int.toNat_natCast]
theorem refvalue_new (s : St) (x : Nat) (a b : Int) (hw : WinSim s a b) (hx : x ≠ 0) (hn : ¬ (0 ≤ a ∧ a ≤ (min (clz x) 31 : Nat) ∧ b ≤ (ctz x : Nat))) :
    valueBits s x = (bitsOf 1 1 ++ (bitsOf 1 1 ++ (bitsOf (min (clz x) 31) 5 ++ (bitsOf (64 - (min (clz x) 31 : Nat) - (ctz x : Nat) - 1 : Int).toNat 6 ++ bitsOf (x / 2 ^ ctz x) (64 - (min (clz x) 31 : Nat) - (ctz x : Nat) : Int).toNat))),
      { s with lead := (min (clz x) 31 : Nat), tail := (ctz x : Nat), opn := true }) := by
  unfold valueBits
  rw [if_neg hx, if_neg]
  rintro ⟨ho, h1, h2⟩
  obtain ⟨e1, e2, e3⟩ := hw.1 ho
  exact hn ⟨e3, by omega, by omega⟩

set_option maxRecDepth 100000 in
set_option maxHeartbeats 3200000 in
theorem row_any (A : Option Addr) (cap : Nat) (l : List Smp) (w : World) (h : SmpAt w w.heap.size A l) (hl : l.length ≤ 130) (hok : ∀ x ∈ l, x.ok) :
    Calls Tryd.prog 25 #[.slice A l.length cap] w fun e w' => ∃ v, e = .returned v ∧ w'.ownsRow w.heap.size 5 1 v (refBits l).length (bytesV (boolN (refBits l))) ∧ Below w.heap.size w w' := by
  have H := Lib.hid h
  have HO := Lib.hid hok
  clear h hok
  go_enter Tryd.func25, Tryd.ntmps25
  go_wp2_with fail
  refine (refput_int w.heap.size [] _ _ _ (refS_new w) (by omega) (by omega) (by omega) (by omega) (by simp)).mono ?_
  rintro e w1 ⟨rfl, hr1, hb1⟩
  rw [Int.toNat_natCast, show Int.toNat 16 = 16 from rfl, List.nil_append] at hr1
  have HR1 := Lib.hid hr1
  have HB1 := Lib.hid (((Below.refl w.heap.size w).alloc (Nat.le_refl _) (.cells #[.slice none 0 0] 79)).trans hb1)
  clear hr1 hb1
  go_wp2_with fail
  go_loopw [4, 5, 6, 7] (fun d le ta i wr => RowRel w l d le ta i wr) (fun _ _ _ i _ => l.length - (intOf i).toNat)
  case atStart => exact ⟨0, -1, -1, Nat.zero_le _, rfl, rfl, rfl, rfl, ⟨(fun h => by cases h), fun _ => ⟨rfl, rfl⟩⟩, by simpa [encBits] using HR1.out, HB1.out⟩
  case round =>
    obtain ⟨k, a, b, hk, rfl, rfl, rfl, rfl, hws, hr, hb⟩ := hrel
    have HR := Lib.hid hr
    have HB := Lib.hid hb
    have HW := Lib.hid hws
    clear hr hb hws HR1 HB1
    by_cases hlt : k < l.length
    · obtain ⟨g, off, hA, hg, hc⟩ := H.out (by omega)
      obtain ⟨x, hx⟩ : ∃ x, x = l[k] := ⟨_, rfl⟩
      obtain ⟨h1, h2⟩ := hc k x (by rw [hx, List.getElem?_eq_getElem hlt])
      have d1 := (HB.out.cell (p := ⟨g, off + k * 2, none⟩) hg).trans h1
      have d2 := (HB.out.cell (p := ⟨g, off + k * 2 + 1, none⟩) hg).trans h2
      have hxo : x.ok := HO.out x (by rw [hx]; exact List.getElem_mem hlt)
      have hst : (encSt St.zero (l.take k)).ok := encSt_ok _ _ St.zero_ok (fun y hy => HO.out y (List.mem_of_mem_take hy))
      have hsn : (encSt St.zero (l.take k)).n = k := by rw [encSt_n]; simp [St.zero]; omega
      have hel := encBits_length St.zero (l.take k) St.zero_ok (fun y hy => HO.out y (List.mem_of_mem_take hy))
      have hel2 : (encBits St.zero (l.take k)).length ≤ 19500 := by
        have : (l.take k).length ≤ 130 := by simp; omega
        omega
      have e1 : encBits St.zero (l.take (k + 1)) = encBits St.zero (l.take k) ++ (appendBits (encSt St.zero (l.take k)) x).1 := by
        rw [sample_snoc l k hlt, encBits_append, hx]; simp [encBits]
      have e2 : encSt St.zero (l.take (k + 1)) = (appendBits (encSt St.zero (l.take k)) x).2 := by
        rw [sample_snoc l k hlt, encSt_append, hx]; simp [encSt]
      have hprev : 0 < k → ∃ y : Smp, (encSt St.zero (l.take k)).t = y.t ∧ (encSt St.zero (l.take k)).v = y.v ∧ y.v < 2 ^ 64 ∧ wr.cell? ⟨g, off + (k - 1) * 2, none⟩ = some (.int .i64 y.t) ∧ wr.cell? ⟨g, off + (k - 1) * 2 + 1, none⟩ = some (.float .f64 y.v) := by
        intro hk0
        obtain ⟨m, rfl⟩ : ∃ m, k = m + 1 := ⟨k - 1, by omega⟩
        obtain ⟨q1, q2⟩ := hc m l[m] (by rw [List.getElem?_eq_getElem (by omega)])
        obtain ⟨t1, t2⟩ := encSt_last l m (by omega)
        exact ⟨l[m], t1, t2, (HO.out _ (List.getElem_mem (by omega))).2, (HB.out.cell (p := ⟨g, off + m * 2, none⟩) hg).trans q1, (HB.out.cell (p := ⟨g, off + m * 2 + 1, none⟩) hg).trans q2⟩
      obtain ⟨st, hste⟩ : ∃ s, s = encSt St.zero (l.take k) := ⟨_, rfl⟩
      obtain ⟨L0, hL0⟩ : ∃ L, L = bitsOf l.length 16 ++ encBits St.zero (l.take k) := ⟨_, rfl⟩
      have hL0l : L0.length ≤ 19600 := by rw [hL0, List.length_append, bitsOf_length]; omega
      have hgoal : ∀ d le ta wr', d = .int .i64 (appendBits st x).2.delta → (∃ a' b' : Int, le = .int .i64 a' ∧ ta = .int .i64 b' ∧ WinSim (appendBits st x).2 a' b') → RefS wr' w.heap.size (L0 ++ (appendBits st x).1) → Below w.heap.size w wr' → RowRel w l d le ta (.int .i64 ((k : Int) + 1)) wr' := by
        rintro d le ta wr' hd ⟨a', b', h1, h2, h3⟩ h4 h5
        refine ⟨k + 1, a', b', by omega, by go_num, ?_, h1, h2, ?_, ?_, h5⟩
        · rw [e2, ← hste]; exact hd
        · rw [e2, ← hste]; exact h3
        · rw [e1, ← List.append_assoc, ← hL0, ← hste]; exact h4
      rw [← hste] at hst hsn hprev HW ⊢
      rw [← hL0] at HR
      have HG := Lib.hid hgoal
      have HST := Lib.hid hst
      have HSN := Lib.hid hsn
      have HP := Lib.hid hprev
      subst hA
      clear hc h1 h2 hx hst hsn hel hel2 e1 e2 hprev hste hL0 hgoal
      obtain ⟨⟨hx1, hx2⟩, hx3⟩ := hxo
      by_cases hk0 : k = 0
      · have hab : appendBits st x = (bitsOf (Ck.u64 x.t) 64 ++ bitsOf x.v 64, { st with n := st.n + 1, t := x.t, v := x.v }) := by
          unfold appendBits; rw [if_pos (by rw [HSN.out, hk0])]
        have HAB := Lib.hid hab
        have hu := u64_lt x.t
        obtain ⟨tt, htt⟩ : ∃ tt, tt = x.t := ⟨_, rfl⟩
        obtain ⟨vv, hvv⟩ : ∃ vv, vv = x.v := ⟨_, rfl⟩
        have HTT := Lib.hid htt
        have HVV := Lib.hid hvv
        rw [← htt] at hx1 hx2 hu d1
        rw [← hvv] at hx3 d2
        have hk0' : (k : Int) = 0 := by omega
        have d1' : wr.cell? ⟨g, off, none⟩ = some (.int .i64 tt) := by rw [hk0, Nat.zero_mul, Nat.add_zero] at d1; exact d1
        have d2' : wr.cell? ⟨g, off + 1, none⟩ = some (.float .f64 vv) := by rw [hk0, Nat.zero_mul, Nat.add_zero] at d2; exact d2
        clear hab htt hvv HP HST d1
        go_wp2_with fail
        rw [u64_wrap]
        refine (refput_int _ _ _ _ _ HR.out (by omega) (by omega) (by omega) (by omega) (by omega)).mono ?_
        rintro e w2 ⟨rfl, hr2, hb2⟩
        have HR2 := Lib.hid hr2
        have HB2 := Lib.hid (HB.out.trans hb2)
        clear hr2 hb2
        go_wp2_with fail
        refine (refput_int _ _ _ _ _ HR2.out (by omega) (by omega) (by omega) (by omega) (by simp [bitsOf_length]; omega)).mono ?_
        rintro e w3 ⟨rfl, hr3, hb3⟩
        have HR3 := Lib.hid hr3
        have HB3 := Lib.hid (HB2.out.trans hb3)
        clear hr3 hb3
        go_wp2
        have hfin : RowRel w l (.int .i64 st.delta) (.int .i64 a) (.int .i64 b) (.int .i64 ((k : Int) + 1)) w3 := by
          refine HG.out _ _ _ _ (by rw [HAB.out]) ⟨a, b, rfl, rfl, ?_⟩ ?_ HB3.out
          · rw [HAB.out]; exact HW.out
          · have := HR3.out
            rw [Int.toNat_natCast, Int.toNat_natCast, List.append_assoc] at this
            rw [HAB.out, ← HTT.out, ← HVV.out]
            exact this
        rw [hk0'] at hfin
        exact ⟨hfin, by simp [intOf]; omega⟩
      · obtain ⟨y, ht, hv, hyv, p1, p2⟩ := HP.out (by omega)
        have hs2 : y.v < 2 ^ 64 := hyv
        obtain ⟨tt, htt⟩ : ∃ tt, tt = x.t := ⟨_, rfl⟩
        obtain ⟨vv, hvv⟩ : ∃ vv, vv = x.v := ⟨_, rfl⟩
        obtain ⟨t0, ht0⟩ : ∃ t0, t0 = y.t := ⟨_, rfl⟩
        obtain ⟨v0, hv0⟩ : ∃ v0, v0 = y.v := ⟨_, rfl⟩
        rw [← htt] at hx1 hx2 d1
        rw [← hvv] at hx3 d2
        rw [← ht0] at p1 ht
        rw [← hv0] at p2 hv hs2 hyv
        have hwr := wrap64_range (wrap64 (tt - t0) - st.delta)
        have hdl := dodBits_length (wrap64 (wrap64 (tt - t0) - st.delta))
        obtain ⟨D, hD⟩ : ∃ D, D = wrap64 (tt - t0) := ⟨_, rfl⟩
        obtain ⟨E, hE⟩ : ∃ E, E = wrap64 (D - st.delta) := ⟨_, rfl⟩
        rw [← hD, ← hE] at hwr hdl
        have hxor := u64_xor_nat vv v0 hx3 hs2
        have hxv : vv ^^^ v0 < 2 ^ 64 := Nat.xor_lt_two_pow hx3 hs2
        obtain ⟨X, hX⟩ : ∃ X, X = vv ^^^ v0 := ⟨_, rfl⟩
        rw [← hX] at hxor hxv
        have hab : appendBits st x = (dodBits E ++ (valueBits st X).1, { (valueBits st X).2 with n := st.n + 1, t := tt, delta := D, v := vv }) := by
          unfold appendBits
          rw [if_neg (by rw [HSN.out]; omega), hX, hE, hD, htt, hvv, ht, hv]
        have HAB := Lib.hid hab
        have HD := Lib.hid hD
        have HE := Lib.hid hE
        clear hab htt hvv ht0 hv0 HP hD hE hX hyv ht hv
        have hk1 : (k : Int) - 1 < (l.length : Int) := by omega
        have hk2 : (0 : Int) ≤ (k : Int) - 1 := by omega
        have hkz : ((k : Int) == 0) = false := by simp; omega
        go_wp2_with fail
        go_quiet (fail)
        go_wp2_with fail
        rw [← HD.out, ← HE.out]
        refine (refdod_any w.heap.size L0 E _ (HR.out.drewN nq) hwr.1 hwr.2 (by omega)).mono ?_
        rintro e w2 ⟨rfl, hr2, hb2⟩
        have p2' : w2.cell? ⟨g, off + (k - 1) * 2 + 1, none⟩ = some (.float .f64 v0) := (hb2.cell (p := ⟨g, off + (k - 1) * 2 + 1, none⟩) hg).trans p2
        have HR2 := Lib.hid hr2
        have HB2 := Lib.hid ((below_drewN HB.out nq).trans hb2)
        clear hr2 hb2 d1 d2 p1 p2 HR HB hwr
        by_cases hX0 : X = 0
        · have hv : valueBits st X = (bitsOf 0 1, st) := by unfold valueBits; rw [if_pos hX0]
          have HV := Lib.hid hv
          rw [hX0] at hxor
          clear hv hxv
          go_wp2_with fail
          refine (refput_int _ _ _ _ _ HR2.out (by omega) (by omega) (by omega) (by omega) (by simp; omega)).mono ?_
          rintro e w3 ⟨rfl, hr3, hb3⟩
          have HR3 := Lib.hid hr3
          have HB3 := Lib.hid (HB2.out.trans hb3)
          clear hr3 hb3
          go_wp2
          have hfin : RowRel w l (.int .i64 D) (.int .i64 a) (.int .i64 b) (.int .i64 ((k : Int) + 1)) w3 := by
            refine HG.out _ _ _ _ (by rw [HAB.out]) ⟨a, b, rfl, rfl, ?_⟩ ?_ HB3.out
            · rw [HAB.out, HV.out]; exact HW.out
            · have := HR3.out
              rw [List.append_assoc] at this
              rw [HAB.out, HV.out]
              exact this
          exact ⟨hfin, by simp [intOf]; omega⟩
        · have hxz : ((X : Int) == 0) = false := by simp; omega
          have hcc := clz_ctz X hX0 hxv
          go_wp2_with fail
          refine (refput_int _ _ _ _ _ HR2.out (by omega) (by omega) (by omega) (by omega) (by simp; omega)).mono ?_
          rintro e w3 ⟨rfl, hr3, hb3⟩
          have HR3 := Lib.hid hr3
          have HB3 := Lib.hid (HB2.out.trans hb3)
          clear hr3 hb3
          go_wp2_with fail
          refine (zeros_any X _ hX0 hxv).mono ?_
          rintro e w3' ⟨rfl, rfl⟩
          have hfits := HST.out.1
          have hkeep : (0 ≤ a ∧ a ≤ (min (clz X) 31 : Nat) ∧ b ≤ (ctz X : Nat)) → ∃ aN bN : Nat, a = aN ∧ b = bN ∧ aN + bN ≤ 63 ∧ valueBits st X = (bitsOf 1 1 ++ (bitsOf 0 1 ++ bitsOf (X / 2 ^ bN) (64 - (aN : Int) - (bN : Int)).toNat), st) := by
            rintro ⟨q1, q2, q3⟩
            have ho : st.opn = true := by
              cases ho : st.opn with
              | true => rfl
              | false => obtain ⟨h1, _⟩ := HW.out.2 ho; omega
            obtain ⟨e1, e2, _⟩ := HW.out.1 ho
            obtain ⟨f1, f2, f3⟩ := hfits ho
            have hb0 : 0 ≤ b := by omega
            obtain ⟨aN, rfl⟩ := Int.eq_ofNat_of_zero_le q1
            obtain ⟨bN, rfl⟩ := Int.eq_ofNat_of_zero_le hb0
            exact ⟨aN, bN, rfl, rfl, by omega, refvalue_keep st X aN bN HW.out hX0 q2 q3⟩
          have hnew := refvalue_new st X a b HW.out hX0
          obtain ⟨C, hC⟩ : ∃ C, C = clz X := ⟨_, rfl⟩
          obtain ⟨T, hT⟩ : ∃ T, T = ctz X := ⟨_, rfl⟩
          rw [← hC, ← hT] at hcc hkeep hnew ⊢
          have HKEEP := Lib.hid hkeep
          have HNEW := Lib.hid hnew
          have hxs : ∀ q, X / 2 ^ q ≤ 18446744073709551615 := fun q => by have := Nat.div_le_self X (2 ^ q); omega
          have HXS := Lib.hid hxs
          have HX0 := Lib.hid hX0
          clear hC hT hfits hkeep hnew hX0 hxs
          by_cases hC : 31 < C
          · have hc31 : (31 : Int) < (C : Int) := by omega
            have hmin : min C 31 = (31 : Nat) := by omega
            have K1 := HKEEP.out
            have N1 := HNEW.out
            rw [hmin] at K1 N1
            clear HKEEP HNEW hmin
            by_cases hK : 0 ≤ a ∧ a ≤ 31 ∧ b ≤ (T : Int)
            · obtain ⟨aN, bN, rfl, rfl, hab, hv⟩ := K1 ⟨hK.1, by omega, hK.2.2⟩
              have HV := Lib.hid hv
              obtain ⟨q1, q2, q3⟩ := hK
              obtain ⟨y, hy⟩ : ∃ y, y = X / 2 ^ bN := ⟨_, rfl⟩
              have ed : ((X : Int) / 2 ^ bN) = ((y : Nat) : Int) := by rw [hy]; norm_cast
              have hys : y ≤ 18446744073709551615 := by rw [hy]; exact HXS.out bN
              rw [← hy] at HV
              have ED := Lib.hid ed
              clear hv N1 K1 ed hy
              go_wp2_with fail
              refine (refput_int _ _ _ _ _ HR3.out (by omega) (by omega) (by omega) (by omega) (by simp [bitsOf_length]; omega)).mono ?_
              rintro e w4 ⟨rfl, hr4, hb4⟩
              have HR4 := Lib.hid hr4
              have HB4 := Lib.hid (HB3.out.trans hb4)
              clear hr4 hb4
              go_wp2_with fail
              rw [ED.out]
              refine (refput_int _ _ _ _ _ HR4.out (by omega) (by omega) (by omega) (by omega) (by simp [bitsOf_length]; omega)).mono ?_
              rintro e w5 ⟨rfl, hr5, hb5⟩
              have HR5 := Lib.hid hr5
              have HB5 := Lib.hid (HB4.out.trans hb5)
              clear hr5 hb5
              go_wp2
              have hfin : RowRel w l (.int .i64 D) (.int .i64 aN) (.int .i64 bN) (.int .i64 ((k : Int) + 1)) w5 := by
                refine HG.out _ _ _ _ (by rw [HAB.out]) ⟨aN, bN, rfl, rfl, ?_⟩ ?_ HB5.out
                · rw [HAB.out, HV.out]; exact HW.out
                · have := HR5.out
                  simp only [List.append_assoc, Int.toNat_natCast] at this
                  rw [HAB.out, HV.out]
                  exact this
              exact ⟨hfin, by simp [intOf]; omega⟩
            · have hv := N1 (fun h => hK ⟨h.1, by omega, h.2.2⟩)
              have HV := Lib.hid hv
              obtain ⟨y, hy⟩ : ∃ y, y = X / 2 ^ T := ⟨_, rfl⟩
              have ed : ((X : Int) / 2 ^ T) = ((y : Nat) : Int) := by rw [hy]; norm_cast
              have hys : y ≤ 18446744073709551615 := by rw [hy]; exact HXS.out T
              rw [← hy] at HV
              have ED := Lib.hid ed
              have hK3 : (a < 0) ∨ ((0 ≤ a) ∧ 31 < a) ∨ ((0 ≤ a) ∧ (a ≤ 31) ∧ (T : Int) < b) := by omega
              clear hv N1 K1 ed hy hK
              rcases hK3 with q1 | ⟨q1, q2⟩ | ⟨q1, q2, q3⟩
              all_goals
                go_wp2_with fail
                refine (refput_int _ _ _ _ _ HR3.out (by omega) (by omega) (by omega) (by omega) (by simp [bitsOf_length]; omega)).mono ?_
                rintro e w4 ⟨rfl, hr4, hb4⟩
                have HR4 := Lib.hid hr4
                have HB4 := Lib.hid (HB3.out.trans hb4)
                clear hr4 hb4
                go_wp2_with fail
                refine (refput_int _ _ _ _ _ HR4.out (by omega) (by omega) (by omega) (by omega) (by simp [bitsOf_length]; omega)).mono ?_
                rintro e w5 ⟨rfl, hr5, hb5⟩
                have HR5 := Lib.hid hr5
                have HB5 := Lib.hid (HB4.out.trans hb5)
                clear hr5 hb5
                go_wp2_with fail
                refine (refput_int _ _ _ _ _ HR5.out (by omega) (by omega) (by omega) (by omega) (by simp [bitsOf_length]; omega)).mono ?_
                rintro e w6 ⟨rfl, hr6, hb6⟩
                have HR6 := Lib.hid hr6
                have HB6 := Lib.hid (HB5.out.trans hb6)
                clear hr6 hb6
                go_wp2_with fail
                rw [ED.out]
                refine (refput_int _ _ _ _ _ HR6.out (by omega) (by omega) (by omega) (by omega) (by simp [bitsOf_length]; omega)).mono ?_
                rintro e w7 ⟨rfl, hr7, hb7⟩
                have HR7 := Lib.hid hr7
                have HB7 := Lib.hid (HB6.out.trans hb7)
                clear hr7 hb7
                go_wp2
                have hfin : RowRel w l (.int .i64 D) (.int .i64 (((31 : Nat) : Nat) : Int)) (.int .i64 (T : Int)) (.int .i64 ((k : Int) + 1)) w7 := by
                  refine HG.out _ _ _ _ (by rw [HAB.out]) ⟨_, _, rfl, rfl, ?_⟩ ?_ HB7.out
                  · rw [HAB.out, HV.out]; exact ⟨fun _ => ⟨rfl, rfl, by omega⟩, fun h => by cases h⟩
                  · have := HR7.out
                    rw [HAB.out, HV.out]
                    simp only [List.append_assoc] at this ⊢
                    have z1 : (32 - (T : Int)).toNat = (64 - (((31 : Nat) : Nat) : Int) - (T : Int) - 1).toNat := by omega
                    have z2 : (33 - (T : Int)).toNat = (64 - (((31 : Nat) : Nat) : Int) - (T : Int)).toNat := by omega
                    have z3 : Int.toNat 31 = (31 : Nat) := by omega
                    try rw [z1] at this
                    try rw [z2] at this
                    try rw [z3] at this
                    rw [Int.toNat_natCast] at this
                    exact this
                exact ⟨hfin, by simp [intOf]; omega⟩
          · have hc31 : (C : Int) ≤ 31 := by omega
            have hmin : min C 31 = C := by omega
            have K1 := HKEEP.out
            have N1 := HNEW.out
            rw [hmin] at K1 N1
            clear HKEEP HNEW hmin
            by_cases hK : 0 ≤ a ∧ a ≤ (C : Int) ∧ b ≤ (T : Int)
            · obtain ⟨aN, bN, rfl, rfl, hab, hv⟩ := K1 ⟨hK.1, by omega, hK.2.2⟩
              have HV := Lib.hid hv
              obtain ⟨q1, q2, q3⟩ := hK
              obtain ⟨y, hy⟩ : ∃ y, y = X / 2 ^ bN := ⟨_, rfl⟩
              have ed : ((X : Int) / 2 ^ bN) = ((y : Nat) : Int) := by rw [hy]; norm_cast
              have hys : y ≤ 18446744073709551615 := by rw [hy]; exact HXS.out bN
              rw [← hy] at HV
              have ED := Lib.hid ed
              clear hv N1 K1 ed hy
              go_wp2_with fail
              refine (refput_int _ _ _ _ _ HR3.out (by omega) (by omega) (by omega) (by omega) (by simp [bitsOf_length]; omega)).mono ?_
              rintro e w4 ⟨rfl, hr4, hb4⟩
              have HR4 := Lib.hid hr4
              have HB4 := Lib.hid (HB3.out.trans hb4)
              clear hr4 hb4
              go_wp2_with fail
              rw [ED.out]
              refine (refput_int _ _ _ _ _ HR4.out (by omega) (by omega) (by omega) (by omega) (by simp [bitsOf_length]; omega)).mono ?_
              rintro e w5 ⟨rfl, hr5, hb5⟩
              have HR5 := Lib.hid hr5
              have HB5 := Lib.hid (HB4.out.trans hb5)
              clear hr5 hb5
              go_wp2
              have hfin : RowRel w l (.int .i64 D) (.int .i64 aN) (.int .i64 bN) (.int .i64 ((k : Int) + 1)) w5 := by
                refine HG.out _ _ _ _ (by rw [HAB.out]) ⟨aN, bN, rfl, rfl, ?_⟩ ?_ HB5.out
                · rw [HAB.out, HV.out]; exact HW.out
                · have := HR5.out
                  simp only [List.append_assoc, Int.toNat_natCast] at this
                  rw [HAB.out, HV.out]
                  exact this
              exact ⟨hfin, by simp [intOf]; omega⟩
            · have hv := N1 (fun h => hK ⟨h.1, by omega, h.2.2⟩)
              have HV := Lib.hid hv
              obtain ⟨y, hy⟩ : ∃ y, y = X / 2 ^ T := ⟨_, rfl⟩
              have ed : ((X : Int) / 2 ^ T) = ((y : Nat) : Int) := by rw [hy]; norm_cast
              have hys : y ≤ 18446744073709551615 := by rw [hy]; exact HXS.out T
              rw [← hy] at HV
              have ED := Lib.hid ed
              have hK3 : (a < 0) ∨ ((0 ≤ a) ∧ (C : Int) < a) ∨ ((0 ≤ a) ∧ (a ≤ (C : Int)) ∧ (T : Int) < b) := by omega
              clear hv N1 K1 ed hy hK
              rcases hK3 with q1 | ⟨q1, q2⟩ | ⟨q1, q2, q3⟩
              all_goals
                go_wp2_with fail
                refine (refput_int _ _ _ _ _ HR3.out (by omega) (by omega) (by omega) (by omega) (by simp [bitsOf_length]; omega)).mono ?_
                rintro e w4 ⟨rfl, hr4, hb4⟩
                have HR4 := Lib.hid hr4
                have HB4 := Lib.hid (HB3.out.trans hb4)
                clear hr4 hb4
                go_wp2_with fail
                refine (refput_int _ _ _ _ _ HR4.out (by omega) (by omega) (by omega) (by omega) (by simp [bitsOf_length]; omega)).mono ?_
                rintro e w5 ⟨rfl, hr5, hb5⟩
                have HR5 := Lib.hid hr5
                have HB5 := Lib.hid (HB4.out.trans hb5)
                clear hr5 hb5
                go_wp2_with fail
                refine (refput_int _ _ _ _ _ HR5.out (by omega) (by omega) (by omega) (by omega) (by simp [bitsOf_length]; omega)).mono ?_
                rintro e w6 ⟨rfl, hr6, hb6⟩
                have HR6 := Lib.hid hr6
                have HB6 := Lib.hid (HB5.out.trans hb6)
                clear hr6 hb6
                go_wp2_with fail
                rw [ED.out]
                refine (refput_int _ _ _ _ _ HR6.out (by omega) (by omega) (by omega) (by omega) (by simp [bitsOf_length]; omega)).mono ?_
                rintro e w7 ⟨rfl, hr7, hb7⟩
                have HR7 := Lib.hid hr7
                have HB7 := Lib.hid (HB6.out.trans hb7)
                clear hr7 hb7
                go_wp2
                have hfin : RowRel w l (.int .i64 D) (.int .i64 ((C : Nat) : Int)) (.int .i64 (T : Int)) (.int .i64 ((k : Int) + 1)) w7 := by
                  refine HG.out _ _ _ _ (by rw [HAB.out]) ⟨_, _, rfl, rfl, ?_⟩ ?_ HB7.out
                  · rw [HAB.out, HV.out]; exact ⟨fun _ => ⟨rfl, rfl, by omega⟩, fun h => by cases h⟩
                  · have := HR7.out
                    rw [HAB.out, HV.out]
                    simp only [List.append_assoc] at this ⊢
                    have z1 : (63 - (C : Int) - (T : Int)).toNat = (64 - ((C : Nat) : Int) - (T : Int) - 1).toNat := by omega
                    have z2 : (64 - (C : Int) - (T : Int)).toNat = (64 - ((C : Nat) : Int) - (T : Int)).toNat := by omega
                    have z3 : Int.toNat (C : Int) = C := by omega
                    try rw [z1] at this
                    try rw [z2] at this
                    try rw [z3] at this
                    rw [Int.toNat_natCast] at this
                    exact this
                exact ⟨hfin, by simp [intOf]; omega⟩
    · have hkl : k = l.length := by omega
      have HK := Lib.hid hkl
      obtain ⟨raw, hraw⟩ := HR.out
      have c0 : wr.cell? ⟨w.heap.size, 0, none⟩ = some raw := hraw.blk.cell 0
      have HRW := Lib.hid hraw.own
      clear hkl hraw
      go_wp2
      go_ret
      have := HRW.out
      rw [HK.out, List.take_length] at this
      exact ⟨raw, rfl, this, HB.out⟩
end Go.Proofs.YtjlfkdopkhejbaaDoor
