/- The walk of the keep's own All. -/
import Derived.StillTailTactics
import Derived.Test.YtjlfkdopkhejbaaDoorRefDodR
namespace Go.Proofs.YtjlfkdopkhejbaaDoor
open Go.RowKit Go.Shelf Ck
attribute [local go_sem] frombits_call tobits_call run_store_float

theorem RbAt.other {w w' : World} {R lim : Nat} {A : Option Addr} {cap : Nat} {bs : List Nat} {s : RB} (h : RbAt w R lim A cap bs s) (hb : Below (R + 1) w w') : RbAt w' R lim A cap bs s :=
  ⟨h.blk.below hb (by omega), h.byt.below (hb.mono (by have := h.lim_; omega)), h.lim_, h.small, h.lt, h.pos⟩

/-- the numbers of a window, as the walk's sums need them -/
def WinN (a b : Int) : Prop := -1 ≤ a ∧ a ≤ 31 ∧ -100 ≤ b ∧ b ≤ 63 ∧ a + b ≤ 63

theorem winB_n (rb : List Bool) (s : RB) (a b : Int) (h : WinN a b) : WinN (winB rb s a b).2.1 (winB rb s a b).2.2 := by
  unfold winB
  split
  · have h1 := rget_lt rb (rget rb s 1).2 5
    have h2 := rget_lt rb (rget rb (rget rb s 1).2 5).2 6
    simp only
    unfold WinN
    omega
  · exact h
theorem valB_n (rb : List Bool) (s : RB) (a b : Int) (h : WinN a b) : WinN (valB rb s a b).2.2.1 (valB rb s a b).2.2.2 ∧ (valB rb s a b).1 < 2 ^ 64 := by
  unfold valB
  split
  · have := winB_n rb (rget rb s 1).2 a b h
    simp only
    split
    · exact ⟨this, Nat.two_pow_pos 64⟩
    · exact ⟨this, Nat.mod_lt _ (by omega)⟩
  · exact ⟨h, Nat.two_pow_pos 64⟩

/-- what the next round needs of what has been read -/
structure On (rb : List Bool) (all pre : List Smp) (cnt : Nat) (s : RB) (a b dl : Int) (r : Rd) : Prop where
  sim : Sim r s
  n : r.s.n = pre.length
  delta : r.s.delta = dl
  win : WinSim r.s a b
  all_ : all = pre ++ decGo rb (cnt - pre.length) r
  last : ∀ x, pre.getLast? = some x → r.s.t = x.t ∧ r.s.v = x.v

def AllR (w : World) (A : Option Addr) (cap : Nat) (bs : List Nat) (rb : List Bool) (all : List Smp) (cnt : Nat) (l d le ta i : Value) (wr : World) : Prop :=
  ∃ (k : Nat) (pre : List Smp) (u : Value) (s : RB) (a b dl : Int), u = l ∧ i = .int .i64 k ∧ k ≤ cnt ∧ d = .int .i64 dl ∧ le = .int .i64 a ∧ ta = .int .i64 b ∧
    wr.ownsRow (w.heap.size + 1) 41 2 u pre.length (smpV pre) ∧ RbAt wr w.heap.size w.heap.size A cap bs s ∧ Below w.heap.size w wr ∧ pre.length ≤ k ∧ WinN a b ∧ (∀ x ∈ pre, x.v < 2 ^ 64) ∧
    ((s.bad = true ∧ all = pre) ∨ (s.bad = false ∧ k = pre.length ∧ ∃ r, On rb all pre cnt s a b dl r))

theorem on_next {rb : List Bool} {all pre : List Smp} {cnt : Nat} {s : RB} {a b dl : Int} {r : Rd} (h : On rb all pre cnt s a b dl r) (hk : pre.length < cnt) :
    all = pre ++ (if (nextR rb r).short = true then [] else ⟨(nextR rb r).s.t, (nextR rb r).s.v⟩ :: decGo rb (cnt - (pre.length + 1)) (nextR rb r)) := by
  rw [h.all_]
  obtain ⟨m, hm⟩ : ∃ m, cnt - pre.length = m + 1 := ⟨cnt - pre.length - 1, by omega⟩
  rw [hm, decGo, show cnt - (pre.length + 1) = m by omega]

theorem on_bad {rb : List Bool} {all pre : List Smp} {cnt : Nat} {s s' : RB} {a b dl : Int} {r : Rd} (h : On rb all pre cnt s a b dl r) (hk : pre.length < cnt) (hs : Sim (nextR rb r) s') (hb : s'.bad = true) : all = pre := by
  rw [on_next h hk, if_pos (hs.short hb), List.append_nil]
theorem on_good {rb : List Bool} {all pre : List Smp} {cnt : Nat} {s s' : RB} {a b dl a' b' dl' : Int} {r : Rd} (h : On rb all pre cnt s a b dl r) (hk : pre.length < cnt) (hs : Sim (nextR rb r) s') (hb : s'.bad = false)
    (x : Smp) (ht : (nextR rb r).s.t = x.t) (hv : (nextR rb r).s.v = x.v) (hd : (nextR rb r).s.delta = dl') (hw : WinSim (nextR rb r).s a' b') (hn : (nextR rb r).s.n = r.s.n + 1) : On rb all (pre ++ [x]) cnt s' a' b' dl' (nextR rb r) := by
  have hsh : (nextR rb r).short = false := by
    rcases hs with ⟨h1, _⟩ | ⟨_, h1, _⟩
    · rw [hb] at h1; cases h1
    · exact h1
  have ha := on_next h hk
  rw [if_neg (by rw [hsh]; simp), ht, hv] at ha
  refine ⟨hs, by rw [hn, h.n]; simp, hd, hw, ?_, ?_⟩
  · rw [ha]; simp
  · intro y hy
    rw [List.getLast?_append] at hy
    simp at hy
    subst hy
    exact ⟨ht, hv⟩
theorem nextR_n (rb : List Bool) (r : Rd) : (nextR rb r).s.n = r.s.n + 1 := by unfold nextR; split <;> rfl

set_option maxRecDepth 100000 in
set_option maxHeartbeats 3200000 in
theorem refall_long (A : Option Addr) (cap : Nat) (bs : List Nat) (w : World) (h : BytAt w w.heap.size A bs) (hl : bs.length ≤ 1000000) (hlt : ∀ b ∈ bs, b < 256)
    (hd rb : List Bool) (cnt : Nat) (hrb : 0 < cnt → hd.length = 16 ∧ ofBytes bs = hd ++ rb) (all : List Smp) (hcnt : cnt < 65536) (s0 : RB) (hg16 : rget (ofBytes bs) ⟨0, false⟩ 16 = (cnt, s0))
    (hs0 : (s0.bad = true ∧ all = []) ∨ (s0.bad = false ∧ Sim Rd.zero s0 ∧ all = decGo rb cnt Rd.zero)) :
    Calls Tryd.prog 17 #[.slice A bs.length cap] w fun e w' => ∃ v, e = .returned v ∧ w'.ownsRow (w.heap.size + 1) 41 2 v all.length (smpV all) ∧ Below w.heap.size w w' := by
  obtain ⟨i0, hi, hz0, hz1, hz2⟩ := info_parts info41
  have H := Lib.hid h
  have HLT := Lib.hid hlt
  have HRB0 := Lib.hid hrb
  have HG := Lib.hid hg16
  have HS0 := Lib.hid hs0
  have HI := Lib.hid hi
  have HZ0 := Lib.hid hz0
  have HZ1 := Lib.hid hz1
  have HZ2 := Lib.hid hz2
  clear h hlt hrb hg16 hs0 hi hz0 hz1 hz2
  go_enter Tryd.func17, Tryd.ntmps17
  go_wp2_with fail
  have hR0 : RbAt (w.alloc (.cells #[.slice A bs.length cap, .int .i64 0, .bool false] 61)) w.heap.size w.heap.size A cap bs ⟨0, false⟩ :=
    ⟨Blk.new _ _ _, H.out.below ((Below.refl _ w).alloc (Nat.le_refl _) _), Nat.le_refl _, hl, HLT.out, Nat.zero_le _⟩
  refine (rget_any w.heap.size w.heap.size A cap bs ⟨0, false⟩ _ _ hR0 (by omega) (by omega)).mono ?_
  rintro e w1 ⟨rfl, hr1, hb1⟩
  rw [show Int.toNat 16 = 16 from rfl, HG.out] at hr1
  rw [show Int.toNat 16 = 16 from rfl, HG.out]
  have HR1 := Lib.hid hr1
  have HB1 := Lib.hid (((Below.refl w.heap.size w).alloc (Nat.le_refl _) (.cells #[.slice A bs.length cap, .int .i64 0, .bool false] 61)).trans (below_of_grown (by simp) hb1))
  clear hr1 hb1 hR0 HG
  dsimp only
  go_wp2_with fail
  go_loopw [5, 6, 7, 8, 9] (fun l d le ta i wr => AllR w A cap bs rb all cnt l d le ta i wr) (fun _ _ _ _ i _ => cnt - (intOf i).toNat)
  case atStart =>
    refine ⟨0, [], _, s0, -1, -1, 0, rfl, rfl, Nat.zero_le _, rfl, rfl, rfl, World.ownsRow_nil _ _ _ _, HR1.out, HB1.out, Nat.le_refl _, by unfold WinN; omega, (fun x hx => by cases hx), ?_⟩
    rcases HS0.out with ⟨hb, ha⟩ | ⟨hb, hsim, ha⟩
    · exact .inl ⟨hb, ha⟩
    · exact .inr ⟨hb, rfl, Rd.zero, hsim, rfl, rfl, ⟨(fun h => by cases h), fun _ => ⟨rfl, rfl⟩⟩, ha, fun x hx => by cases hx⟩
  case round =>
    obtain ⟨k, pre, u, s, a, b, dl, hu, rfl, hk, rfl, rfl, rfl, ho, hr, hb, hpk, hwn, hpv, hst⟩ := hrel
    subst hu
    have HO := Lib.hid ho
    have HR := Lib.hid hr
    have HB := Lib.hid hb
    have HW := Lib.hid hwn
    have HPV := Lib.hid hpv
    have HST := Lib.hid hst
    have c2 : wr.cell? ⟨w.heap.size, 2, none⟩ = some (.bool s.bad) := hr.blk.cell 2
    clear ho hr hb hwn hpv hst HR1 HB1 HS0
    by_cases hend : k < cnt ∧ s.bad = false
    · obtain ⟨hkc, hsb⟩ := hend
      obtain ⟨hh, hrb⟩ := HRB0.out (by omega)
      have HRB := Lib.hid hrb
      clear hrb
      rw [hsb] at c2
      obtain ⟨r, hon, hkp⟩ : ∃ r, On rb all pre cnt s a b dl r ∧ k = pre.length := by
        rcases HST.out with ⟨h1, _⟩ | ⟨_, h1, r, h2⟩
        · rw [hsb] at h1; cases h1
        · exact ⟨r, h2, h1⟩
      subst hkp
      have HON := Lib.hid hon
      clear hon HST hpk
      have hlen : pre.length ≤ 65536 := by omega
      by_cases hk0 : pre.length = 0
      · have hkz : (pre.length : Int) = 0 := by omega
        have hrn : r.s.n = 0 := by rw [HON.out.n]; omega
        have hsim := first_sim (rb := rb) hh HON.out.sim hrn a b (fun _ => HON.out.win)
        rw [← HRB.out] at hsim
        have HSIM := Lib.hid hsim
        clear hsim hrn
        go_wp2_with fail
        refine (rget_any w.heap.size w.heap.size A cap bs s _ _ HR.out (by omega) (by omega)).mono ?_
        rintro e w2 ⟨rfl, hr2, hg2⟩
        rw [show Int.toNat 64 = 64 from rfl] at hr2 ⊢
        have HR2 := Lib.hid hr2
        have HG2 := Lib.hid hg2
        obtain ⟨v1, hv1⟩ : ∃ v, v = (rget (ofBytes bs) s 64).1 := ⟨_, rfl⟩
        obtain ⟨s1, hs1⟩ : ∃ v, v = (rget (ofBytes bs) s 64).2 := ⟨_, rfl⟩
        rw [← hs1] at HR2
        rw [← hv1] at HSIM ⊢
        rw [← hs1] at HSIM
        clear hr2 hg2 hv1 hs1
        go_wp2_with fail
        refine (rget_any w.heap.size w.heap.size A cap bs s1 _ _ HR2.out (by omega) (by omega)).mono ?_
        rintro e w3 ⟨rfl, hr3, hg3⟩
        rw [show Int.toNat 64 = 64 from rfl] at hr3 ⊢
        have hsz2 : w.heap.size + 1 ≤ wr.heap.size := HR.out.blk.lt
        have HR3 := Lib.hid hr3
        have hg13 := only_trans HG2.out hg3
        have HB3 := Lib.hid (HB.out.trans (below_of_grown HR.out.blk.lt hg13))
        have HO3 := Lib.hid (HO.out.kept hg13 (by
          cases hv : u.ownBlock with
          | none => exact .inl rfl
          | some j => have := (HO.out.lt j hv).1; right; simp; omega))
        obtain ⟨v2, hv2⟩ : ∃ v, v = (rget (ofBytes bs) s1 64).1 := ⟨_, rfl⟩
        have hv2l : v2 < 2 ^ 64 := by rw [hv2]; exact rget_lt _ _ _
        obtain ⟨s2, hs2⟩ : ∃ v, v = (rget (ofBytes bs) s1 64).2 := ⟨_, rfl⟩
        rw [← hs2] at HR3 HSIM
        rw [← hv2] at HSIM ⊢
        have c3 : w3.cell? ⟨w.heap.size, 2, none⟩ = some (.bool s2.bad) := HR3.out.blk.cell 2
        clear hr3 hg3 hg13 hv2 hs2 HR2 HG2 HR HB HO c2
        cases hb2 : s2.bad with
        | true =>
          rw [hb2] at c3
          have hbad := on_bad HON.out (by omega) HSIM.out.1 hb2
          have HBAD := Lib.hid hbad
          have HS2 := Lib.hid hb2
          clear hbad hb2
          go_wp2
          refine ⟨⟨pre.length + 1, pre, u, s2, a, b, dl, rfl, by go_num, by omega, rfl, rfl, rfl, HO3.out, HR3.out, HB3.out, by omega, HW.out, HPV.out, .inl ⟨HS2.out, HBAD.out⟩⟩, by simp [intOf]; omega⟩
        | false =>
          rw [hb2] at c3
          obtain ⟨z1, z2, z3, z4⟩ := HSIM.out.2 hb2
          have hon2 := on_good HON.out (by omega) HSIM.out.1 hb2 ⟨wrap64 (v1 : Nat), v2⟩ z1 z3 (z2.trans HON.out.delta) z4 (nextR_n _ _)
          have HON2 := Lib.hid hon2
          have HS2 := Lib.hid hb2
          have hsz3 : w.heap.size + 1 ≤ w3.heap.size := HR3.out.blk.lt
          clear hon2 z1 z2 z3 z4 hb2
          go_wp2_with (at_builtin; go_loud (refine wpList_append_own _ rfl (.tmp 44) (.tmp 49) 22 rfl (w.heap.size + 1) 41 i0 (.agg #[.int .i64 0, .float .f64 0]) 2 16 Tryd.underlying22 HI.out HZ0.out HZ1.out HZ2.out rfl (by decide) u pre.length (smpV pre) rfl (HO3.out.alloc _) ⟨w3.heap.size, 0, none⟩ 1 1 [.int .i64 (wrap64 (v1 : Nat)), .float .f64 v2] rfl rfl (cells_new2 w3 41 _ _) (by simp [Value.oneCell']) (by simp [maxLen]; omega) (by omega) (by simp; omega) ?_; intro v' w4 hown1 hgrow1 _; have HOW := Lib.hid hown1; have HGR := Lib.hid hgrow1; clear hown1 hgrow1))
          have hbw : Below (w.heap.size + 1) w3 w4 := ((Below.refl (w.heap.size + 1) w3).alloc hsz3 _).grown HGR.out (by simp; omega) (fun k hk => (HO3.out.lt k hk).1)
          refine ⟨⟨pre.length + 1, pre ++ [⟨wrap64 (v1 : Nat), v2⟩], v', s2, a, b, dl, rfl, by go_num, by omega, rfl, rfl, rfl, ?_, HR3.out.other hbw, HB3.out.trans (hbw.mono (by omega)), by simp, HW.out, ?_, .inr ⟨HS2.out, by simp, _, HON2.out⟩⟩, by simp [intOf]; omega⟩
          · rw [List.length_append, smpV_snoc]; exact HOW.out
          · intro x hx
            rcases List.mem_append.1 hx with hx | hx
            · exact HPV.out x hx
            · obtain rfl := List.mem_singleton.1 hx; exact hv2l
      · have hkz : ((pre.length : Int) == 0) = false := beq_eq_false_iff_ne.2 (by omega)
        have hrn : r.s.n ≠ 0 := by rw [HON.out.n]; omega
        have hsim := next_sim (rb := rb) hh HON.out.sim hrn a b (fun _ => HON.out.win)
        rw [← HRB.out] at hsim
        obtain ⟨D, hD⟩ : ∃ D, D = (dodB (ofBytes bs) s).1 := ⟨_, rfl⟩
        obtain ⟨sD, hsD⟩ : ∃ D, D = (dodB (ofBytes bs) s).2 := ⟨_, rfl⟩
        rw [← hD, ← hsD] at hsim
        obtain ⟨V, hV⟩ : ∃ V, V = valB (ofBytes bs) sD a b := ⟨_, rfl⟩
        have hVn := valB_n (ofBytes bs) sD a b HW.out
        rw [← hV] at hsim hVn
        have HSIM := Lib.hid hsim
        have HD := Lib.hid hD
        have HSD := Lib.hid hsD
        have HV := Lib.hid hV
        have HVN := Lib.hid hVn
        clear hsim hrn hD hsD hV hVn
        have hnb : ∀ j, u.ownBlock = some j → w.heap.size + 1 ≤ j := fun j hj => (HO.out.lt j hj).1
        have HNB := Lib.hid (show ∀ W W' : World, W.ownsRow (w.heap.size + 1) 41 2 u pre.length (smpV pre) → W.grownBy W' (some w.heap.size) → W'.ownsRow (w.heap.size + 1) 41 2 u pre.length (smpV pre) from fun W W' h1 h2 => h1.kept h2 (by
          cases hv : u.ownBlock with
          | none => exact .inl rfl
          | some j => exact .inr (fun e => by cases e; have := hnb _ hv; omega)))
        clear hnb
        go_wp2_with fail
        refine (rdod_any w.heap.size w.heap.size A cap bs s _ HR.out).mono ?_
        rintro e w2 ⟨rfl, hr2, hg2⟩
        rw [← HD.out]
        rw [← HSD.out] at hr2
        have HR2 := Lib.hid hr2
        have HB2 := Lib.hid (HB.out.trans (below_of_grown HR.out.blk.lt hg2))
        have HO2 := Lib.hid (HNB.out _ _ HO.out hg2)
        clear hr2 hg2 HR HB HO c2
        go_wp2_with fail
        refine (rget_any w.heap.size w.heap.size A cap bs sD _ _ HR2.out (by omega) (by omega)).mono ?_
        rintro e w3 ⟨rfl, hr3, hg3⟩
        rw [show Int.toNat 1 = 1 from rfl] at hr3 ⊢
        have HR3 := Lib.hid hr3
        have HB3 := Lib.hid (HB2.out.trans (below_of_grown HR2.out.blk.lt hg3))
        have HO3 := Lib.hid (HNB.out _ _ HO2.out hg3)
        have hg1l := rget_lt (ofBytes bs) sD 1
        obtain ⟨g1, hg1⟩ : ∃ v, v = (rget (ofBytes bs) sD 1).1 := ⟨_, rfl⟩
        obtain ⟨s3, hs3⟩ : ∃ v, v = (rget (ofBytes bs) sD 1).2 := ⟨_, rfl⟩
        have hval : V = if g1 = 1 then (if (winB (ofBytes bs) s3 a b).2.1 < 0 ∨ (winB (ofBytes bs) s3 a b).2.2 < 0 then (0, { (winB (ofBytes bs) s3 a b).1 with bad := true }, (winB (ofBytes bs) s3 a b).2.1, (winB (ofBytes bs) s3 a b).2.2)
            else ((rget (ofBytes bs) (winB (ofBytes bs) s3 a b).1 (64 - (winB (ofBytes bs) s3 a b).2.1 - (winB (ofBytes bs) s3 a b).2.2).toNat).1 * 2 ^ (winB (ofBytes bs) s3 a b).2.2.toNat % 18446744073709551616, (rget (ofBytes bs) (winB (ofBytes bs) s3 a b).1 (64 - (winB (ofBytes bs) s3 a b).2.1 - (winB (ofBytes bs) s3 a b).2.2).toNat).2, (winB (ofBytes bs) s3 a b).2.1, (winB (ofBytes bs) s3 a b).2.2)) else (0, s3, a, b) := by
          rw [HV.out, hg1, hs3]; rfl
        rw [← hs3] at HR3
        rw [← hg1] at hg1l ⊢
        have HVAL := Lib.hid hval
        clear hr3 hg3 hg1 hs3 hval HV HR2 HB2 HO2
        go_upto_if 57 with fail
        go_cut [7, 8, 12] (fun l7 l8 l12 wx => l7 = .int .i64 V.2.2.1 ∧ l8 = .int .i64 V.2.2.2 ∧ l12 = .int .u64 (V.1 : Nat) ∧ RbAt wx w.heap.size w.heap.size A cap bs V.2.1 ∧ wx.ownsRow (w.heap.size + 1) 41 2 u pre.length (smpV pre) ∧ Below w.heap.size w wx)
        case first =>
          by_cases hg1 : g1 = 1
          · have hv := HVAL.out
            rw [if_pos hg1] at hv
            subst hg1
            obtain ⟨W, hW⟩ : ∃ W, W = winB (ofBytes bs) s3 a b := ⟨_, rfl⟩
            have hwn := winB_n (ofBytes bs) s3 a b HW.out
            rw [← hW] at hv hwn
            have HV := Lib.hid hv
            have HWN := Lib.hid hwn
            clear hv hwn HVAL
            go_wp2_with fail
            refine (rget_any w.heap.size w.heap.size A cap bs s3 _ _ HR3.out (by omega) (by omega)).mono ?_
            rintro e w4 ⟨rfl, hr4, hg4⟩
            rw [show Int.toNat 1 = 1 from rfl] at hr4 ⊢
            have HR4 := Lib.hid hr4
            have HB4 := Lib.hid (HB3.out.trans (below_of_grown HR3.out.blk.lt hg4))
            have HO4 := Lib.hid (HNB.out _ _ HO3.out hg4)
            have hg2l := rget_lt (ofBytes bs) s3 1
            have hw2 : W = if (rget (ofBytes bs) s3 1).1 = 1 then
    ((rget (ofBytes bs) (rget (ofBytes bs) (rget (ofBytes bs) s3 1).2 5).2 6).2, ((rget (ofBytes bs) (rget (ofBytes bs) s3 1).2 5).1 : Int), 63 - ((rget (ofBytes bs) (rget (ofBytes bs) s3 1).2 5).1 : Int) - ((rget (ofBytes bs) (rget (ofBytes bs) (rget (ofBytes bs) s3 1).2 5).2 6).1 : Int))
  else ((rget (ofBytes bs) s3 1).2, a, b) := by rw [hW]; rfl
            obtain ⟨g2, hg2⟩ : ∃ v, v = (rget (ofBytes bs) s3 1).1 := ⟨_, rfl⟩
            obtain ⟨s4, hs4⟩ : ∃ v, v = (rget (ofBytes bs) s3 1).2 := ⟨_, rfl⟩
            rw [← hg2, ← hs4] at hw2
            rw [← hs4] at HR4
            rw [← hg2] at hg2l ⊢
            clear hr4 hg4 hg2 hs4 HR3 HB3 HO3 hg1l
            by_cases hg2 : g2 = 1
            · rw [if_pos hg2] at hw2
              subst hg2
              have HW2 := Lib.hid hw2
              clear hw2 hW
              go_wp2_with fail
              refine (rget_any w.heap.size w.heap.size A cap bs s4 _ _ HR4.out (by omega) (by omega)).mono ?_
              rintro e w5 ⟨rfl, hr5, hg5⟩
              rw [show Int.toNat 5 = 5 from rfl] at hr5 ⊢
              have HR5 := Lib.hid hr5
              have HB5 := Lib.hid (HB4.out.trans (below_of_grown HR4.out.blk.lt hg5))
              have HO5 := Lib.hid (HNB.out _ _ HO4.out hg5)
              have hg3l := rget_lt (ofBytes bs) s4 5
              obtain ⟨g3, hg3⟩ : ∃ v, v = (rget (ofBytes bs) s4 5).1 := ⟨_, rfl⟩
              obtain ⟨s5, hs5⟩ : ∃ v, v = (rget (ofBytes bs) s4 5).2 := ⟨_, rfl⟩
              rw [← hg3, ← hs5] at HW2
              rw [← hs5] at HR5
              rw [← hg3] at hg3l ⊢
              have hg3b : g3 < 32 := hg3l
              clear hr5 hg5 hg3 hs5 HR4 HB4 HO4 hg3l
              go_wp2_with fail
              refine (rget_any w.heap.size w.heap.size A cap bs s5 _ _ HR5.out (by omega) (by omega)).mono ?_
              rintro e w6 ⟨rfl, hr6, hg6⟩
              rw [show Int.toNat 6 = 6 from rfl] at hr6 ⊢
              have HR6 := Lib.hid hr6
              have HB6 := Lib.hid (HB5.out.trans (below_of_grown HR5.out.blk.lt hg6))
              have HO6 := Lib.hid (HNB.out _ _ HO5.out hg6)
              have hg4l := rget_lt (ofBytes bs) s5 6
              obtain ⟨g4, hg4⟩ : ∃ v, v = (rget (ofBytes bs) s5 6).1 := ⟨_, rfl⟩
              obtain ⟨s6, hs6⟩ : ∃ v, v = (rget (ofBytes bs) s5 6).2 := ⟨_, rfl⟩
              rw [← hg4, ← hs6] at HW2
              rw [← hs6] at HR6
              rw [← hg4] at hg4l ⊢
              have hg4b : g4 < 64 := hg4l
              have hv := HV.out
              rw [HW2.out] at hv
              have c6 : w6.cell? ⟨w.heap.size, 2, none⟩ = some (.bool s6.bad) := HR6.out.blk.cell 2
              have f6 := HR6.out.blk.frozen 2
              clear hr6 hg6 hg4 hs6 HR5 HB5 HO5 hg4l HV HW2
              dsimp only at hv
              by_cases ht : 63 - (g3 : Int) - (g4 : Int) < 0
              · rw [if_pos (.inr ht)] at hv
                have HV := Lib.hid hv
                clear hv
                go_wp2
                go_meet
                case rel =>
                  have hg := only_setCell (only_refl w6 (some w.heap.size)) (p := ⟨w.heap.size, 2, none⟩) (.inl rfl) (.bool true)
                  rw [HV.out]
                  exact ⟨rfl, rfl, rfl, HR6.out.set hg (HR6.out.blk.set_ 2 (.bool true)) HR6.out.pos, HNB.out _ _ HO6.out hg, HB6.out.trans (below_of_grown HR6.out.blk.lt hg)⟩
              · rw [if_neg (by omega), show (63 - (g3 : Int) - (g4 : Int)).toNat = 63 - g3 - g4 by omega] at hv
                have HV := Lib.hid hv
                clear hv
                go_wp2_with fail
                refine (rget_any w.heap.size w.heap.size A cap bs s6 _ _ HR6.out (by omega) (by omega)).mono ?_
                rintro e w7 ⟨rfl, hr7, hg7⟩
                have HR7 := Lib.hid hr7
                have HB7 := Lib.hid (HB6.out.trans (below_of_grown HR6.out.blk.lt hg7))
                have HO7 := Lib.hid (HNB.out _ _ HO6.out hg7)
                clear hr7 hg7
                obtain ⟨g7, hg7⟩ : ∃ v, v = (rget (ofBytes bs) s6 (64 - (g3 : Int) - (63 - (g3 : Int) - (g4 : Int))).toNat).1 := ⟨_, rfl⟩
                rw [← hg7] at HV ⊢
                clear hg7
                go_wp2
                go_meet
                case rel =>
                  rw [HV.out]
                  exact ⟨rfl, rfl, congrArg (Value.int IntKind.u64) (shl_eq _ _), HR7.out, HO7.out, HB7.out⟩
            · rw [if_neg hg2] at hw2
              have hg0 : g2 = 0 := by omega
              subst hg0
              have hv := HV.out
              rw [hw2] at hv
              have c6 : w4.cell? ⟨w.heap.size, 2, none⟩ = some (.bool s4.bad) := HR4.out.blk.cell 2
              have f6 := HR4.out.blk.frozen 2
              clear hw2 hW HV hg2 hg2l
              dsimp only at hv
              obtain ⟨q1, q2, q3, q4, q5⟩ := HW.out
              by_cases ht : a < 0 ∨ b < 0
              · rw [if_pos ht] at hv
                have HV := Lib.hid hv
                clear hv
                rcases ht with ht | ht
                · go_wp2
                  go_meet
                  case rel =>
                    have hg := only_setCell (only_refl w4 (some w.heap.size)) (p := ⟨w.heap.size, 2, none⟩) (.inl rfl) (.bool true)
                    rw [HV.out]
                    exact ⟨rfl, rfl, rfl, HR4.out.set hg (HR4.out.blk.set_ 2 (.bool true)) HR4.out.pos, HNB.out _ _ HO4.out hg, HB4.out.trans (below_of_grown HR4.out.blk.lt hg)⟩
                · by_cases hta : a < 0
                  all_goals
                    go_wp2
                    go_meet
                    case rel =>
                      have hg := only_setCell (only_refl w4 (some w.heap.size)) (p := ⟨w.heap.size, 2, none⟩) (.inl rfl) (.bool true)
                      rw [HV.out]
                      exact ⟨rfl, rfl, rfl, HR4.out.set hg (HR4.out.blk.set_ 2 (.bool true)) HR4.out.pos, HNB.out _ _ HO4.out hg, HB4.out.trans (below_of_grown HR4.out.blk.lt hg)⟩
              · rw [if_neg ht] at hv
                have HV := Lib.hid hv
                have ht1 : 0 ≤ a := by omega
                have ht2 : 0 ≤ b := by omega
                clear hv ht
                go_wp2_with fail
                refine (rget_any w.heap.size w.heap.size A cap bs s4 _ _ HR4.out (by omega) (by omega)).mono ?_
                rintro e w7 ⟨rfl, hr7, hg7⟩
                have HR7 := Lib.hid hr7
                have HB7 := Lib.hid (HB4.out.trans (below_of_grown HR4.out.blk.lt hg7))
                have HO7 := Lib.hid (HNB.out _ _ HO4.out hg7)
                clear hr7 hg7
                obtain ⟨g7, hg7⟩ : ∃ v, v = (rget (ofBytes bs) s4 (64 - a - b).toNat).1 := ⟨_, rfl⟩
                rw [← hg7] at HV ⊢
                clear hg7
                go_wp2
                go_meet
                case rel =>
                  rw [HV.out]
                  exact ⟨rfl, rfl, congrArg (Value.int IntKind.u64) (shl_eq _ _), HR7.out, HO7.out, HB7.out⟩
          · have hv := HVAL.out
            rw [if_neg hg1] at hv
            have hg0 : g1 = 0 := by omega
            subst hg0
            have HV := Lib.hid hv
            clear hv HVAL hg1 hg1l
            go_wp2
            go_meet
            case rel => rw [HV.out]; exact ⟨rfl, rfl, rfl, HR3.out, HO3.out, HB3.out⟩
        case rest =>
          obtain ⟨rfl, rfl, rfl, hr, ho, hb⟩ := hcut
          have HR4 := Lib.hid hr
          have HO4 := Lib.hid ho
          have HB4 := Lib.hid hb
          have c4 : wc.cell? ⟨w.heap.size, 2, none⟩ = some (.bool V.2.1.bad) := hr.blk.cell 2
          clear hr ho hb HR3 HO3 HB3 HVAL hg1l
          obtain ⟨hvn, hvl⟩ := HVN.out
          obtain ⟨V1, s4, a4, b4⟩ := V
          dsimp only at *
          have HVW := Lib.hid hvn
          clear hvn
          cases hb4 : s4.bad with
          | true =>
            rw [hb4] at c4
            have hbad := on_bad HON.out (by omega) HSIM.out.1 hb4
            have HBAD := Lib.hid hbad
            have HS4 := Lib.hid hb4
            clear hbad hb4 hvl
            go_wp2
            refine ⟨⟨pre.length + 1, pre, u, s4, a4, b4, _, rfl, by go_num, by omega, rfl, rfl, rfl, HO4.out, HR4.out, HB4.out, by omega, HVW.out, HPV.out, .inl ⟨HS4.out, HBAD.out⟩⟩, by simp [intOf]; omega⟩
          | false =>
            rw [hb4] at c4
            have HS4 := Lib.hid hb4
            obtain ⟨y, hy⟩ : ∃ y, y = pre[pre.length - 1]'(by omega) := ⟨_, rfl⟩
            have hyl : pre.getLast? = some y := by rw [List.getLast?_eq_getElem?, hy, List.getElem?_eq_getElem]
            obtain ⟨l1, l2⟩ := HON.out.last y hyl
            obtain ⟨z1, z2, z3, z4⟩ := HSIM.out.2 hb4
            have hyv := HPV.out y (by rw [hy]; exact List.getElem_mem _)
            rw [l1, HON.out.delta] at z1
            rw [HON.out.delta] at z2
            rw [l2] at z3
            have hon2 := on_good HON.out (by omega) HSIM.out.1 hb4 ⟨wrap64 (y.t + wrap64 (dl + D)), y.v ^^^ V1⟩ z1 z3 z2 z4 (nextR_n _ _)
            have HON2 := Lib.hid hon2
            obtain ⟨g, c, hu⟩ := own_succ HO4.out (by omega)
            obtain ⟨e1, e2⟩ := smpV_get pre (pre.length - 1) y (by rw [hy, List.getElem?_eq_getElem])
            have d1 : wc.cell? ⟨g, (pre.length - 1) * 2, none⟩ = some (.int .i64 y.t) := by
              subst hu
              rw [HO4.out.cellAt ((pre.length - 1) * 2) (by omega), e1]
            have d2 : wc.cell? ⟨g, (pre.length - 1) * 2 + 1, none⟩ = some (.float .f64 y.v) := by
              subst hu
              rw [HO4.out.cellAt ((pre.length - 1) * 2 + 1) (by omega), e2]
            subst hu
            have hxor := u64_xor_nat y.v V1 hyv hvl
            have hxv : y.v ^^^ V1 < 2 ^ 64 := Nat.xor_lt_two_pow hyv hvl
            have hsz4 : w.heap.size + 1 ≤ wc.heap.size := HR4.out.blk.lt
            have hp1 : (0 : Int) ≤ (pre.length : Int) - 1 := by omega
            have hp2 : (pre.length : Int) - 1 < (pre.length : Int) := by omega
            clear hy hyl l1 l2 z1 z2 z3 z4 hon2 e1 e2 hb4
            go_wp2_with fail
            have b5 := Blk.new wc 41 #[.int .i64 y.t, .float .f64 y.v]
            have hbw5 : Below (w.heap.size + 1) wc (wc.alloc (.cells #[.int .i64 y.t, .float .f64 y.v] 41)) := (Below.refl (w.heap.size + 1) wc).alloc hsz4 _
            have ho5 := HO4.out.alloc (.cells #[.int .i64 y.t, .float .f64 y.v] 41)
            have hs5 : w.heap.size + 1 ≤ (wc.alloc (.cells #[.int .i64 y.t, .float .f64 y.v] 41)).heap.size := by simp; omega
            obtain ⟨L, hL⟩ : ∃ L, L = wc.heap.size := ⟨_, rfl⟩
            rw [← hL] at b5 ⊢
            obtain ⟨w5, hw5⟩ : ∃ w5, wc.alloc (.cells #[.int .i64 y.t, .float .f64 y.v] 41) = w5 := ⟨_, rfl⟩
            rw [hw5] at b5 hbw5 ho5 hs5 ⊢
            have t0 : w5.cell? ⟨L, 0, none⟩ = some (.int .i64 y.t) := b5.cell 0
            have t1 : w5.cell? ⟨L, 1, none⟩ = some (.float .f64 y.v) := b5.cell 1
            have hLlt : L < w5.heap.size := b5.lt
            have hgL : g < L := by rw [hL]; exact (HO4.out.lt g rfl).2
            have k0 : ∀ o, (w5.drew.alloc o).cell? ⟨L, 0, none⟩ = some (.int .i64 y.t) := fun o => (World.cell?_alloc_lt w5.drew o ⟨L, 0, none⟩ hLlt).trans t0
            have k1 : ∀ o, (w5.drew.alloc o).cell? ⟨L, 1, none⟩ = some (.float .f64 y.v) := fun o => (World.cell?_alloc_lt w5.drew o ⟨L, 1, none⟩ hLlt).trans t1
            have HWE := Lib.hid (show IntKind.i64.wrap (y.t + wrap64 (dl + D)) = wrap64 (y.t + wrap64 (dl + D)) by rw [IntKind.wrap_i64]; unfold wrap64; omega)
            have HO5 := Lib.hid ho5
            have HR5 := Lib.hid (HR4.out.other hbw5)
            have HB5 := Lib.hid (HB4.out.trans (hbw5.mono (by omega)))
            clear hw5 b5 hbw5 ho5 hL d1 d2 c4 HO4 HR4 HB4 hsz4
            go_region_held3 (fun w' => w'.cell? ⟨L, 0, none⟩ = some (.int .i64 y.t) ∧ w'.cell? ⟨L, 1, none⟩ = some (.float .f64 y.v)) (first | exact ⟨t0, t1⟩ | exact ⟨u0, u1⟩ | exact ⟨k0 _, k1 _⟩)
              ((refine step_append_any _ (by rfl) _ _ _ (by rfl) (w.heap.size + 1) 41 i0 _ 2 16 Tryd.underlying22 HI.out HZ0.out HZ1.out HZ2.out rfl (by omega) (.slice (some ⟨g, 0, none⟩) pre.length c) pre.length (smpV pre) (by rfl) ((HO5.out.alloc _).drew) (w5.heap.size + 1) (some ⟨w5.heap.size, 0, none⟩) 1 1 [.int .i64 (IntKind.i64.wrap (y.t + wrap64 (dl + D))), .float .f64 ((y.v ^^^ V1 : Nat))] (by rfl) ⟨rfl, fun _ => ⟨_, rfl, Nat.lt_succ_self _, cells_new2 w5 41 _ _⟩⟩ (by simp [Value.oneCell']) (by simp [maxLen]; omega) (by omega) (by show w.heap.size + 1 ≤ (w5.alloc _).heap.size; rw [World.size_alloc]; omega) ?_; intro v' w6 hown1 hgrow1 _; have u0 := (World.cell?_of_block (hgrow1.block L (by show L < (w5.alloc _).heap.size; rw [World.size_alloc]; omega) (by simp [Value.ownBlock]; omega))).trans (k0 _); have u1 := (World.cell?_of_block (hgrow1.block L (by show L < (w5.alloc _).heap.size; rw [World.size_alloc]; omega) (by simp [Value.ownBlock]; omega))).trans (k1 _); rw [HWE.out] at hown1; have HOW := Lib.hid hown1; have HBW := Lib.hid ((((Below.refl (w.heap.size + 1) w5).alloc hs5 _).drew).grown hgrow1 (by show w.heap.size + 1 ≤ (w5.alloc _).heap.size; rw [World.size_alloc]; omega) (fun k hk => (HO5.out.lt k hk).1)); clear hown1 hgrow1))
            clear u0 u1 t0 t1 k0 k1
            go_wp2
            have hbw := HBW.out
            refine ⟨⟨pre.length + 1, pre ++ [⟨wrap64 (y.t + wrap64 (dl + D)), y.v ^^^ V1⟩], v', s4, a4, b4, _, rfl, by go_num, by omega, rfl, rfl, rfl, ?_, HR5.out.other hbw, HB5.out.trans (hbw.mono (by omega)), by simp, HVW.out, ?_, .inr ⟨HS4.out, by simp, _, HON2.out⟩⟩, by simp [intOf]; omega⟩
            · rw [List.length_append, smpV_snoc]; exact HOW.out
            · intro x hx
              rcases List.mem_append.1 hx with hx | hx
              · exact HPV.out x hx
              · obtain rfl := List.mem_singleton.1 hx; exact hxv
    · have hfin : all = pre := by
        rcases HST.out with ⟨_, h1⟩ | ⟨h1, h2, r, hon⟩
        · exact h1
        · have hkc : k = cnt := by
            rcases Nat.lt_or_ge k cnt with hlt | hge
            · exact absurd ⟨hlt, h1⟩ hend
            · omega
          rw [hon.all_, ← h2, hkc, Nat.sub_self, decGo, List.append_nil]
      have HF := Lib.hid hfin
      clear hfin HST
      have hor : (s.bad = true) ∨ k = cnt := by
        cases hs : s.bad with
        | true => exact .inl rfl
        | false =>
          right
          rcases Nat.lt_or_ge k cnt with hlt | hge
          · exact absurd ⟨hlt, hs⟩ hend
          · omega
      clear hend
      by_cases hkc : k < cnt
      · have hsb : s.bad = true := by
          rcases hor with h | h
          · exact h
          · omega
        rw [hsb] at c2
        clear hor
        go_wp2
        first | go_ret | (refine bodyPost_ret (results_tmp rfl _ _ _) rfl ?_)
        refine ⟨u, rfl, ?_, HB.out⟩
        rw [HF.out]
        exact HO.out
      · clear hor
        go_wp2
        first | go_ret | (refine bodyPost_ret (results_tmp rfl _ _ _) rfl ?_)
        refine ⟨u, rfl, ?_, HB.out⟩
        rw [HF.out]
        exact HO.out

/-- THE KEEP'S All TELLS WHAT THE CHUNK'S READER TELLS. -/
theorem refall_any (A : Option Addr) (cap : Nat) (bs : List Nat) (w : World) (h : BytAt w w.heap.size A bs) (hl : bs.length ≤ 1000000) (hlt : ∀ b ∈ bs, b < 256) :
    Calls Tryd.prog 17 #[.slice A bs.length cap] w fun e w' => ∃ v, e = .returned v ∧ w'.ownsRow (w.heap.size + 1) 41 2 v (allOf bs).length (smpV (allOf bs)) ∧ Below w.heap.size w w' := by
  by_cases h2 : 2 ≤ bs.length
  · obtain ⟨hd, h16, hsplit, hg, hsim⟩ := head_sim bs h2 hlt
    have h0 := getD_lt hlt 0
    have h1 := getD_lt hlt 1
    exact refall_long A cap bs w h hl hlt hd (ofBytes (bs.drop 2)) _ (fun _ => ⟨h16, hsplit⟩) (allOf bs) (by omega) _ hg (.inr ⟨rfl, hsim, allOf_long bs h2⟩)
  · have hall : allOf bs = [] := by unfold allOf; rw [if_pos (by omega)]
    rw [hall]
    exact refall_long A cap bs w h hl hlt [] [] 0 (fun h => absurd h (by omega)) [] (by omega) _ (head_bad bs h2) (.inl ⟨rfl, rfl⟩)
end Go.Proofs.YtjlfkdopkhejbaaDoor
