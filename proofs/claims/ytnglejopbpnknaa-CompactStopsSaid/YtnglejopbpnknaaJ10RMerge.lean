/- The document's merge (7), walked. -/
import Derived.Test.YtnglejopbpnknaaJ09RCmp
namespace Go.Proofs.Ytnglejopbpnknaa
open Go.RowKit
def Rm1R (w : World) (lists : List (List Ser)) (v i : Value) (wr : World) : Prop :=
  ∃ k : Nat, i = .int .i64 (k : Int) ∧ k ≤ lists.length ∧ OutAt wr w.heap.size v (mergeP (lists.take k).flatten) ∧ Below w.heap.size w wr
def Rm2R (w : World) (pre ss : List Ser) (v i : Value) (wr : World) : Prop :=
  ∃ j : Nat, i = .int .i64 (j : Int) ∧ j ≤ ss.length ∧ OutAt wr w.heap.size v (mergeP (pre ++ ss.take j)) ∧ Below w.heap.size w wr
def Rm3R (w2 : World) (out : List Ser) (s : Ser) (i : Value) (wr : World) : Prop :=
  ∃ k q : Nat, i = .int .i64 (k : Int) ∧ Place out s k ∧ wr = w2.drewN q
def Rm4R (w wq : World) (sx : Nat) (a1 a2 vq : Value) (oq : List Ser) (k : Nat) (c0 s : Ser) (i : Value) (wr : World) : Prop :=
  ∃ m : Nat, i = .int .i64 (m : Int) ∧ m ≤ s.2.length ∧ OutAt wr w.heap.size vq (oq.set k (c0.1, putAll c0.2 (s.2.take m))) ∧ Below w.heap.size w wr ∧ Blk wr sx 34 #[a1, a2]
set_option maxRecDepth 100000 in
set_option maxHeartbeats 12800000 in
theorem rmerge_any (w : World) (v : Value) (lists : List (List Ser)) (h : ListsRd w w.heap.size v lists) (hsm : ∀ ss ∈ lists, Small ss) (hl : lists.flatten.length ≤ 10000) (hl2 : lists.length ≤ 1000) (htot : (lists.flatten.flatMap Prod.snd).length ≤ 90000) :
    Calls Try.prog 7 #[v] w fun e w' => ∃ v', e = .returned v' ∧ OutAt w' w.heap.size v' (mergeP lists.flatten) ∧ Below w.heap.size w w' := by
  obtain ⟨j0, hj, hz0, hz1, hz2⟩ := info_parts info34
  have HJ := Lib.hid hj
  have HZ0 := Lib.hid hz0
  have HZ1 := Lib.hid hz1
  have HZ2 := Lib.hid hz2
  have HSM := Lib.hid hsm
  have HFL := Lib.hid hl
  have HALLS := Lib.hid (show Small lists.flatten from fun s hs => by
    obtain ⟨ss, h1, h2⟩ := List.mem_flatten.1 hs
    exact hsm ss h1 s h2)
  have HTOT := Lib.hid htot
  obtain ⟨A, c, lvs, rfl, hlv, hrd, hls⟩ := h
  have HLS := Lib.hid hls
  obtain ⟨nl, hnl⟩ : ∃ n, n = lists.length := ⟨_, rfl⟩
  rw [← hnl] at hlv hrd hl2 ⊢
  have HNL := Lib.hid hnl
  have HLV := Lib.hid hlv
  have HRD := Lib.hid hrd
  have HI1 := Lib.hid (show Rm1R w lists (.slice none 0 0) (.int .i64 0) w from ⟨0, rfl, Nat.zero_le _, OutAt.nil _ _, Below.refl _ _⟩)
  clear hj hz0 hz1 hz2 hsm hl hlv hrd hnl hls htot
  go_enter Try.func7, Try.ntmps7
  go_wp2_with fail
  go_loopw [3, 4] (fun v i wr => Rm1R w lists v i wr) (fun _ i _ => nl - (intOf i).toNat)
  case atStart => exact HI1.out
  case round =>
    obtain ⟨k, rfl, hk, hout, hb⟩ := hrel
    rw [← HNL.out] at hk
    by_cases hlt : k < nl
    · have i1 : (k : Int) < (nl : Int) := by omega
      obtain ⟨ss, hss⟩ : ∃ ss, lists[k]? = some ss := ⟨_, List.getElem?_eq_getElem (by have := HNL.out; omega)⟩
      obtain ⟨ad, u, rfl, hadb, hu, hcell⟩ := HRD.out.at_ hlt
      obtain ⟨A2, c2, vs, rfl, hv1, hv2, hv3⟩ := HLS.out k u ss hu hss
      obtain ⟨m, hm⟩ : ∃ m, m = ss.length := ⟨_, rfl⟩
      rw [← hm] at hcell hv1 hv2
      have hpre := flat_len_le lists (j := m) hss
      obtain ⟨pre, hpreq⟩ : ∃ pre, pre = (lists.take k).flatten := ⟨_, rfl⟩
      have HPRE := Lib.hid (show pre.length + m ≤ 10000 by
        have h1 := HFL.out
        rw [hm, List.take_length, List.length_append, ← hm, ← hpreq] at hpre
        omega)
      rw [← hpreq] at hout
      have HI2 := Lib.hid (show ∀ v9, OutAt wr w.heap.size v9 (mergeP pre) → Rm2R w pre ss v9 (.int .i64 0) wr from fun v9 h9 => ⟨0, rfl, Nat.zero_le _, by rw [List.take_zero, List.append_nil]; exact h9, hb⟩)
      have HNX := Lib.hid (show (lists.take (k + 1)).flatten = pre ++ ss.take m by rw [flat_take lists hss, hpreq, hm, List.take_length])
      have HPT := Lib.hid (show ∀ j, ((pre ++ ss.take j).flatMap Prod.snd).length ≤ 90000 from fun j => by
        have h1 := HTOT.out
        have h2 : (pre ++ ss.take j).Sublist lists.flatten := by
          have e : lists = lists.take k ++ ss :: lists.drop (k + 1) := by
            obtain ⟨h8, h9⟩ := List.getElem?_eq_some_iff.1 hss
            rw [← h9, ← List.drop_eq_getElem_cons h8, List.take_append_drop]
          have h3 : lists.flatten = (lists.take k).flatten ++ (ss ++ (lists.drop (k + 1)).flatten) := by
            conv => lhs; rw [e]
            rw [List.flatten_append]; simp
          rw [h3, hpreq]
          exact (List.Sublist.refl _).append ((List.take_sublist j ss).trans (List.sublist_append_left _ _))
        have h4 : ∀ {a b : List Ser}, a.Sublist b → (a.flatMap Prod.snd).length ≤ (b.flatMap Prod.snd).length := fun {a b} hs => by
          induction hs with
          | slnil => exact Nat.le_refl _
          | cons x _ ih => rw [List.flatMap_cons, List.length_append]; omega
          | cons_cons x _ ih => rw [List.flatMap_cons, List.flatMap_cons, List.length_append, List.length_append]; omega
        exact Nat.le_trans (h4 h2) h1)
      have HPIN := Lib.hid (show ∀ x ∈ pre, x ∈ lists.flatten from fun x hx => by
        rw [hpreq] at hx
        obtain ⟨l9, h1, h2⟩ := List.mem_flatten.1 hx
        exact List.mem_flatten.2 ⟨l9, List.mem_of_mem_take h1, h2⟩)
      have HSIN := Lib.hid (show ∀ x ∈ ss, x ∈ lists.flatten from fun x hx => List.mem_flatten.2 ⟨ss, List.mem_of_getElem? hss, hx⟩)
      have HM := Lib.hid hm
      have HSS := Lib.hid (HSM.out ss (List.mem_of_getElem? hss))
      have HV1 := Lib.hid hv1
      have HV2 := Lib.hid hv2
      have HV3 := Lib.hid hv3
      have HCELL := Lib.hid hcell
      have HADB := Lib.hid hadb
      have HOU := Lib.hid hout
      have sk : IntKind.i64.wrap ((k : Int) + 1) = ((k + 1 : Nat) : Int) := (IntWalk.i64_in _ (by omega)).trans (by omega)
      have dk : (0 : Int) ≤ (k : Int) := by omega
      clear hss hu hcell hout hb hv1 hv2 hv3 hm hpre hpreq hadb
      go_wp2_with fail
      go_loopw [3, 5] (fun v i wr => Rm2R w pre ss v i wr) (fun _ i _ => m - (intOf i).toNat)
      case atStart => exact HI2.out _ HOU.out
      case round =>
        obtain ⟨j, rfl, hj, hout, hb⟩ := hrel
        rw [← HM.out] at hj
        have x0 : wr.cell? (ad.add k) = some (.slice A2 m c2) := (hb.cell (by rw [block_of_add]; exact HADB.out)).trans HCELL.out
        by_cases hlt2 : j < m
        · have i2 : (j : Int) < (m : Int) := by omega
          obtain ⟨p, hp⟩ : ∃ p, vs[j]? = some p := ⟨_, List.getElem?_eq_getElem (by have := HV1.out; omega)⟩
          obtain ⟨s, hs⟩ : ∃ s, ss[j]? = some s := ⟨_, List.getElem?_eq_getElem (by have := HM.out; omega)⟩
          obtain ⟨dd, rfl, hdd, x1, x2⟩ := (HV2.out.keep fun p hp => hb.cell hp).two hp
          obtain ⟨hs1, hs2⟩ := HV3.out j p s hp hs
          obtain ⟨p1, p2⟩ := p
          obtain ⟨AL, cL, e1, hrL⟩ := hs1
          obtain ⟨AS, cS, e2, hrS⟩ := hs2
          dsimp only at x1 x2 e1 e2
          subst e1 e2
          obtain ⟨nL, hnL⟩ : ∃ n, n = s.1.length := ⟨_, rfl⟩
          obtain ⟨nS, hnS⟩ : ∃ n, n = s.2.length := ⟨_, rfl⟩
          have hlab : LabsAt w w.heap.size (.slice AL nL cL) s.1 := ⟨AL, cL, by rw [hnL], hrL⟩
          obtain ⟨bL, bS⟩ := HSS.out s (List.mem_of_getElem? hs)
          rw [← hnL] at x1
          rw [← hnS] at x2 hrS
          obtain ⟨out, houte⟩ : ∃ out, out = mergeP (pre ++ ss.take j) := ⟨_, rfl⟩
          rw [← houte] at hout
          obtain ⟨no, hno⟩ : ∃ no, no = out.length := ⟨_, rfl⟩
          obtain ⟨vs0, ho1, ho2, ho3⟩ := hout
          rw [← hno] at ho2
          obtain ⟨Ao, co, hv⟩ := own_slice ho2
          subst hv
          have hcc : no ≤ co := by
            rcases ho2.2 with ⟨e, e0⟩ | ⟨g, cap, cur, e, -, -, hc, -⟩
            · omega
            · injection e with _ _ e; omega
          have hnol : no ≤ 10000 := by
            have h1 := (mergeP_facts (pre ++ ss.take j)).2
            have h2 := HPRE.out
            rw [← houte, ← hno, List.length_append, List.length_take] at h1
            omega
          have HTA := Lib.hid (show ∀ y ∈ out, TAsc y.2 ∧ y.2.length ≤ 90000 from fun y hy => by
            rw [houte] at hy
            obtain ⟨a, b⟩ := (mergeP_facts (pre ++ ss.take j)).1 y hy
            exact ⟨a, Nat.le_trans b (HPT.out j)⟩)
          have HLE := Lib.hid (show ∀ y ∈ out, y.1.length ≤ 1000 from fun y hy => by
            rw [houte] at hy
            obtain ⟨x, hx, e⟩ := mergeP_key hy
            rw [← e]
            exact (HALLS.out x (by
              rcases List.mem_append.1 hx with hx | hx
              · exact HPIN.out x hx
              · exact HSIN.out x (List.mem_of_mem_take hx))).1)
          obtain ⟨wx, hwx⟩ : ∃ wx, wx = wr.alloc (.cells #[.slice AL nL cL, .slice AS nS cS] 34) := ⟨_, rfl⟩
          obtain ⟨sx, hsx⟩ : ∃ sx, sx = wr.heap.size := ⟨_, rfl⟩
          have hbx : Below wr.heap.size wr wx := by rw [hwx]; exact (Below.refl _ wr).alloc (Nat.le_refl _) _
          have hB := hb.size
          have HBX := Lib.hid (hb.trans (hbx.mono hB))
          have HSXX := Lib.hid (show Blk wx sx 34 #[.slice AL nL cL, .slice AS nS cS] by rw [hwx, hsx]; exact Blk.new wr 34 _)
          have HOX1 := Lib.hid ho1
          have HOX2 := Lib.hid (ho2.kept (only_of_below hbx none) (by cases (Value.slice Ao no co).ownBlock <;> simp))
          have HOX3 := Lib.hid (show ∀ (i : Nat) (p : VV) (s' : Ser), vs0[i]? = some p → out[i]? = some s' → LabsAt wx w.heap.size p.1 s'.1 ∧ wx.ownsRow w.heap.size 51 2 p.2 s'.2.length (flatS s'.2) from fun i p s' a b => by
            obtain ⟨k1, k2⟩ := ho3 i p s' a b
            exact ⟨k1.below hbx hB, k2.kept (only_of_below hbx none) (by cases p.2.ownBlock <;> simp)⟩)
          have HSGX := Lib.hid (show ∀ g, Ao = some ⟨g, 0, none⟩ → sx ≠ g from fun g e e2 => by
            have := (ho2.lt g (by rw [e]; rfl)).2
            omega)
          have HI3 := Lib.hid (show Rm3R wx out s (.int .i64 0) wx from ⟨0, 0, rfl, ⟨Nat.zero_le _, fun i y h => absurd h (Nat.not_lt_zero _)⟩, rfl⟩)
          have HRS := Lib.hid hrS
          have HLAB := Lib.hid hlab
          have HJS := Lib.hid hs
          have HNL2 := Lib.hid hnL
          have HNS := Lib.hid hnS
          have HNO := Lib.hid hno
          have HOUT := Lib.hid houte
          have HWX := Lib.hid hwx
          have HSXE := Lib.hid hsx
          have HTS := Lib.hid (show s.2.length ≤ 1000 from bS)
          rw [← hnL] at bL
          rw [← hnS] at bS
          have sj : IntKind.i64.wrap ((j : Int) + 1) = ((j + 1 : Nat) : Int) := (IntWalk.i64_in _ (by have := HPRE.out; omega)).trans (by omega)
          have dj : (0 : Int) ≤ (j : Int) := by omega
          clear hp hs hrL hrS hnL hnS hlab houte hno ho1 ho2 ho3 hwx hsx hbx hb
          go_wp2_with fail
          rw [← HWX.out, ← HSXE.out]
          go_loopw [7] (fun i wr => Rm3R wx out s i wr) (fun i _ => no - (intOf i).toNat)
          case atStart => exact HI3.out
          case round =>
            obtain ⟨k, q0, rfl, hpl, hw⟩ := hrel
            have HPL := Lib.hid hpl
            have hkn := hpl.1
            rw [← HNO.out] at hkn
            have b0 : wr.cell? ⟨sx, 0, none⟩ = some (.slice AL nL cL) := by rw [hw]; exact HSXX.out.cell 0
            have HW := Lib.hid hw
            clear hpl hw
            by_cases hk3 : k < no
            · have i3 : (k : Int) < (no : Int) := by omega
              have i4 : decide ((k : Int) < (no : Int)) = true := decide_eq_true i3
              have i5 : ((k : Int) == (no : Int)) = false := beq_eq_false_iff_ne.2 (by omega)
              have dk3 : (0 : Int) ≤ (k : Int) := by omega
              obtain ⟨y, hy⟩ : ∃ y, out[k]? = some y := ⟨_, List.getElem?_eq_getElem (by have := HNO.out; omega)⟩
              obtain ⟨p3, hp3⟩ : ∃ p, vs0[k]? = some p := ⟨_, List.getElem?_eq_getElem (by have := HNO.out; have := HOX1.out; omega)⟩
              obtain ⟨gq, cq, hAg⟩ := own_succ HOX2.out (by omega)
              injection hAg with e1 e2 e3
              subst e1 e3
              obtain ⟨kl3, -⟩ := HOX3.out k p3 y hp3 hy
              obtain ⟨Ay, cy, ey, -⟩ := id kl3
              have a0 : wr.cell? ⟨gq, k * 2, none⟩ = some (.slice Ay y.1.length cy) := by
                rw [HW.out]
                show wx.cell? _ = _
                rw [HOX2.out.cellAt _ (by omega), show flatV vs0 = flat2 Prod.fst Prod.snd vs0 from rfl, (flat2_get _ _ vs0 k p3 hp3).1, ey]
              have hyl := HLE.out y (List.mem_of_getElem? hy)
              obtain ⟨qq, hqq⟩ : ∃ qq, qq = cmpL y.1 s.1 := ⟨_, rfl⟩
              have HC := Lib.hid (fun z => show Calls Try.prog 20 #[.slice Ay y.1.length cy, .slice AL nL cL] (wx.drewN z) fun e w' => e = .returned (.int .i64 qq) ∧ ∃ m, w' = (wx.drewN z).drewN m by
                rw [hqq]
                rw [ey] at kl3
                refine rcompare_any (wx.drewN z) w.heap.size _ _ y.1 s.1 kl3 ?_ (by omega) (by have := HNL2.out; omega)
                exact HLAB.out.below (below_drewN HBX.out z) (Nat.le_refl _))
              have HY := Lib.hid hy
              have HQQ := Lib.hid hqq
              clear hy hp3 kl3 ey hyl hqq e2
              obtain ⟨wo, hwo⟩ : ∃ wo, wo = wr := ⟨_, rfl⟩
              subst hwo
              have HCW := Lib.hid (fun z => show Calls Try.prog 20 #[.slice Ay y.1.length cy, .slice AL nL cL] (wo.drewN z) fun e w' => e = .returned (.int .i64 qq) ∧ ∃ m, w' = (wo.drewN z).drewN m by rw [HW.out, World.drewN_drewN]; exact HC.out _)
              by_cases hq : qq < 0
              · have i6 : decide (qq < 0) = true := decide_eq_true hq
                go_upto_region 10 with fail
                go_quiet ((go_at_call 20; exact Calls.quiet_of (HCW.out _)))
                have sk3 : IntKind.i64.wrap ((k : Int) + 1) = ((k + 1 : Nat) : Int) := (IntWalk.i64_in _ (by omega)).trans (by omega)
                go_wp2_with fail
                refine ⟨⟨k + 1, q0 + nq, rfl, ⟨by have := HNO.out; omega, fun i t hi ht => ?_⟩, by rw [HW.out, World.drewN_drewN]⟩, by simp [intOf]; omega⟩
                rcases Nat.lt_or_eq_of_le (Nat.lt_succ_iff.1 hi) with h | h
                · exact HPL.out.2 i t h ht
                · subst h
                  rw [HY.out] at ht
                  injection ht with ht
                  rw [← ht, ← HQQ.out]; exact hq
              · have i6 : decide (qq < 0) = false := decide_eq_false hq
                go_upto_region 10 with fail
                go_quiet ((go_at_call 20; exact Calls.quiet_of (HCW.out _)))
                obtain ⟨wB, hwB⟩ : ∃ wB, wB = wo.drewN nq := ⟨_, rfl⟩
                rw [← hwB]
                have HWB := Lib.hid (show wB = wx.drewN (q0 + nq) by rw [hwB, HW.out, World.drewN_drewN])
                have a1 : wB.cell? ⟨gq, k * 2, none⟩ = some (.slice Ay y.1.length cy) := by rw [hwB]; exact a0
                have b1 : wB.cell? ⟨sx, 0, none⟩ = some (.slice AL nL cL) := by rw [hwB]; exact b0
                have HCB := Lib.hid (fun z => show Calls Try.prog 20 #[.slice Ay y.1.length cy, .slice AL nL cL] (wB.drewN z) fun e w' => e = .returned (.int .i64 qq) ∧ ∃ m, w' = (wB.drewN z).drewN m by rw [HWB.out, World.drewN_drewN]; exact HC.out _)
                clear hwB a0 b0 HCW HC i6
                by_cases hq0 : qq = 0
                · have i7 : (qq != 0) = false := by simp [hq0]
                  have i8 : (qq == 0) = true := by simp [hq0]
                  have HADD := Lib.hid (addS_there out s k y HPL.out HY.out (by rw [← HQQ.out]; exact hq0))
                  clear hq0
                  go_upto_region 12 with fail
                  go_quiet ((go_at_call 20; exact Calls.quiet_of (HCB.out _)))
                  obtain ⟨wq, hwq⟩ : ∃ wq, wq = wB.drewN nq := ⟨_, rfl⟩
                  rw [← hwq]
                  obtain ⟨Q9, hQ9⟩ : ∃ Q, wq = wx.drewN Q := ⟨_, by rw [hwq, HWB.out, World.drewN_drewN]⟩
                  obtain ⟨oq, hoq⟩ : ∃ oq, oq = out := ⟨_, rfl⟩
                  obtain ⟨c0, hc0⟩ : ∃ c0, c0 = y := ⟨_, rfl⟩
                  have HOQ := Lib.hid (show OutAt wq w.heap.size (.slice (some ⟨gq, 0, none⟩) no co) oq by rw [hQ9, hoq]; exact ⟨vs0, HOX1.out, by rw [← HNO.out]; exact HOX2.out, HOX3.out⟩)
                  have HC0 := Lib.hid (show oq[k]? = some c0 by rw [hoq, hc0]; exact HY.out)
                  replace HADD := Lib.hid (show addS out s = oq.set k (c0.1, putAll c0.2 s.2) by rw [hoq, hc0]; exact HADD.out)
                  have HTC := Lib.hid (show TAsc c0.2 ∧ c0.2.length + s.2.length ≤ 100000 by
                    obtain ⟨a, b⟩ := HTA.out y (List.mem_of_getElem? HY.out)
                    have := HTS.out
                    rw [hc0]; exact ⟨a, by omega⟩)
                  have HBQ := Lib.hid (show Below w.heap.size w wq by rw [hQ9]; exact below_drewN HBX.out _)
                  have HSX := Lib.hid (show Blk wq sx 34 #[.slice AL nL cL, .slice AS nS cS] by rw [hQ9]; exact HSXX.out)
                  have HNQ := Lib.hid (show no = oq.length by rw [hoq]; exact HNO.out)
                  have HSG := Lib.hid (HSGX.out gq rfl)
                  have sq0 : wq.cell? ⟨sx, 1, none⟩ = some (.slice AS nS cS) := HSX.out.cell 1
                  clear hwq hQ9 hoq hc0 a1 b1 HCB i7 i8 i3 i4 i5
                  have HQ0 := Lib.hid (show Rm4R w wq sx (.slice AL nL cL) (.slice AS nS cS) (.slice (some ⟨gq, 0, none⟩) no co) oq k c0 s (.int .i64 0) wq from ⟨0, rfl, Nat.zero_le _, by
                    have e : oq.set k (c0.1, putAll c0.2 (s.2.take 0)) = oq := by
                      have := (List.getElem?_eq_some_iff.1 HC0.out).2
                      have hk9 := (List.getElem?_eq_some_iff.1 HC0.out).1
                      rw [List.take_zero, show (c0.1, putAll c0.2 []) = c0 from rfl, ← this, List.set_getElem_self]
                    rw [e]; exact HOQ.out, HBQ.out, HSX.out⟩)
                  go_wp2_with fail
                  go_loopw [9] (fun i wr => Rm4R w wq sx (.slice AL nL cL) (.slice AS nS cS) (.slice (some ⟨gq, 0, none⟩) no co) oq k c0 s i wr) (fun i _ => nS - (intOf i).toNat)
                  case atStart => exact HQ0.out
                  case round =>
                    obtain ⟨m4, rfl, hm4, hout4, hb4, hbx4⟩ := hrel
                    rw [← HNS.out] at hm4
                    have y0 : wr.cell? ⟨sx, 1, none⟩ = some (.slice AS nS cS) := hbx4.cell 1
                    have HB4 := Lib.hid hb4
                    have HX4 := Lib.hid hbx4
                    have HO4 := Lib.hid hout4
                    by_cases hlt4 : m4 < nS
                    · have i4 : (m4 : Int) < (nS : Int) := by omega
                      obtain ⟨x, hx⟩ : ∃ x, s.2[m4]? = some x := ⟨_, List.getElem?_eq_getElem (by have := HNS.out; omega)⟩
                      obtain ⟨dS, hdS, hdb, z1, z2⟩ := (HRS.out.keep fun p hp => hb4.cell hp).two hx
                      subst hdS
                      obtain ⟨l4, hl4⟩ : ∃ l4, l4 = putAll c0.2 (s.2.take m4) := ⟨_, rfl⟩
                      rw [← hl4] at hout4
                      obtain ⟨vs4, h41, h42, h43⟩ := hout4
                      obtain ⟨hk9, -⟩ := List.getElem?_eq_some_iff.1 HC0.out
                      have hs4 : (oq.set k (c0.1, l4))[k]? = some (c0.1, l4) := by rw [List.getElem?_set, if_pos rfl, if_pos hk9]
                      obtain ⟨p4, hp4⟩ : ∃ p, vs4[k]? = some p := ⟨_, List.getElem?_eq_getElem (by rw [h41, List.length_set]; exact hk9)⟩
                      obtain ⟨kl4, ko4⟩ := h43 k p4 _ hp4 hs4
                      rw [List.length_set, ← HNQ.out] at h42
                      obtain ⟨A4, c4, e4⟩ := own_slice ko4
                      have g1 : wr.cell? ⟨gq, k * 2 + 1, none⟩ = some (.slice A4 l4.length c4) := by
                        rw [h42.cellAt _ (by have := HNQ.out; omega), show flatV vs4 = flat2 Prod.fst Prod.snd vs4 from rfl, (flat2_get _ _ vs4 k p4 hp4).2, e4]
                      have hta : TAsc l4 := by rw [hl4]; exact (putAll_spec _ _ HTC.out.1).1
                      have hll : l4.length ≤ 100000 := by
                        have h1 := putAll_len (s.2.take m4) c0.2
                        have h2 := HTC.out.2
                        rw [← hl4, List.length_take] at h1
                        omega
                      rw [e4] at ko4
                      have hbw : w.heap.size ≤ wr.heap.size := hb4.size
                      have HPT := Lib.hid (put_any wr.drew w.heap.size _ l4 x hbw ko4 hta hll)
                      have HX := Lib.hid hx
                      have HL4 := Lib.hid hl4
                      have H41 := Lib.hid h41
                      have H42 := Lib.hid h42
                      have H43 := Lib.hid h43
                      have HP4 := Lib.hid hp4
                      have HS4 := Lib.hid hs4
                      have HHB := Lib.hid (show w.heap.size ≤ wr.heap.size ∧ dS.block < w.heap.size from ⟨hbw, hdb⟩)
                      have d1 : (k : Int) < (no : Int) := by have := HNQ.out; omega
                      have d2 : (0 : Int) ≤ (k : Int) := by omega
                      have d3 : (0 : Int) ≤ (m4 : Int) := by omega
                      have s9 : IntKind.i64.wrap ((m4 : Int) + 1) = ((m4 + 1 : Nat) : Int) := (IntWalk.i64_in _ (by omega)).trans (by omega)
                      clear hbx4 hb4 hx hl4 h41 h42 h43 hp4 hs4 kl4 ko4 hta hll e4 hk9 hdb hbw
                      go_upto_region 19 with fail
                      go_region_law (first | (go_simp; go_at_call 21; refine HPT.out.mono ?_; rintro e w5 ⟨u5, rfl, ho5, hb5⟩; obtain ⟨A5, c5, hu5⟩ := own_slice ho5; subst hu5; replace hb5 : Below wr.heap.size wr w5 := ((Below.refl wr.heap.size wr).drew).trans hb5; have o42 := H42.out.kept (only_of_below hb5 none) (by simp [Value.ownBlock]); have t1 : w5.cell? ⟨gq, k * 2 + 1, none⟩ = some (.slice A4 l4.length c4) := (hb5.cell (p := ⟨gq, k * 2 + 1, none⟩) (H42.out.lt gq rfl).2).trans g1; have t2 : w5.cell? ⟨sx, 1, none⟩ = some (.slice (some dS) nS cS) := (hb5.cell (p := ⟨sx, 1, none⟩) HX4.out.lt).trans y0; have t3 := (hb5.cell (p := dS.add (m4 * 2)) (by rw [block_of_add]; exact Nat.lt_of_lt_of_le HHB.out.2 HHB.out.1)).trans z1; have t4 := (hb5.cell (p := ⟨(dS.add (m4 * 2)).block, (dS.add (m4 * 2)).off + 1, none⟩) (by show (dS.add (m4 * 2)).block < _; rw [block_of_add]; exact Nat.lt_of_lt_of_le HHB.out.2 HHB.out.1)).trans z2; have t5 := o42.frozenAt (k * 2 + 1); have HO5 := Lib.hid ho5; have HB5 := Lib.hid hb5; have HO42 := Lib.hid o42; clear ho5 hb5 o42))
                      all_goals
                        clear g1 y0 z1 z2
                        go_wp2
                        refine ⟨⟨m4 + 1, rfl, by have := HNS.out; omega, ?_, ?_, ?_⟩, by simp [intOf]; omega⟩
                        · rw [putAll_take c0.2 HX.out, ← HL4.out]
                          have hB := HHB.out.1
                          have := OutAt.put (k := k) (out := oq.set k (c0.1, l4)) (by rw [List.length_set]; exact HNQ.out) H41.out HO42.out (fun i p s' a b => by
                            obtain ⟨k1, k2⟩ := H43.out i p s' a b
                            exact ⟨k1.below HB5.out hB, k2.kept (only_of_below HB5.out none) (by cases p.2.ownBlock <;> simp)⟩) HP4.out HS4.out HO5.out
                          rw [List.set_set] at this
                          exact this
                        · exact (HB4.out.trans (HB5.out.mono HHB.out.1)).setCell (p := ⟨gq, k * 2 + 1, none⟩) (HO42.out.lt gq rfl).1 _
                        · exact (HX4.out.below HB5.out HX4.out.lt).far HSG.out _
                    · have i4 : ¬ (m4 : Int) < (nS : Int) := by omega
                      have hm9 : m4 = nS := by omega
                      have HF := Lib.hid (show Rm2R w pre ss (.slice (some ⟨gq, 0, none⟩) no co) (.int .i64 ((j + 1 : Nat) : Int)) wr from ⟨j + 1, rfl, by have := HM.out; omega, by
                        rw [take_one ss HJS.out, ← List.append_assoc, mergeP_snoc, ← HOUT.out, HADD.out]
                        rw [hm9, HNS.out, List.take_length] at hout4
                        exact hout4, hb4⟩)
                      clear hout4 hb4 hbx4
                      go_wp2
                      exact ⟨HF.out, by simp [intOf]; omega⟩
                · have i7 : (qq != 0) = true := by simp [hq0]
                  have i8 : (qq == 0) = false := by simp [hq0]
                  have HNEW := Lib.hid (show ∀ y9, out[k]? = some y9 → 0 < cmpL y9.1 s.1 from fun y9 h9 => by
                    rw [HY.out] at h9
                    injection h9 with h9
                    rw [← h9, ← HQQ.out]; omega)
                  clear hq0
                  go_upto_region 12 with fail
                  go_quiet ((go_at_call 20; exact Calls.quiet_of (HCB.out _)))
                  obtain ⟨wo, hwo⟩ : ∃ wo, wo = wB.drewN nq := ⟨_, rfl⟩
                  rw [← hwo]
                  obtain ⟨Q9, hQ9⟩ : ∃ Q, wo = wx.drewN Q := ⟨_, by rw [hwo, HWB.out, World.drewN_drewN]⟩
                  obtain ⟨Ao, hA⟩ : ∃ A : Option Addr, A = some ⟨gq, 0, none⟩ := ⟨_, rfl⟩
                  have HO1 := HOX1
                  have HO2 := Lib.hid (show wo.ownsRow w.heap.size 34 2 (.slice Ao no co) no (flatV vs0) by rw [hQ9, hA]; exact HOX2.out)
                  have HO3 := Lib.hid (show ∀ (i : Nat) (p : VV) (s' : Ser), vs0[i]? = some p → out[i]? = some s' → LabsAt wo w.heap.size p.1 s'.1 ∧ wo.ownsRow w.heap.size 51 2 p.2 s'.2.length (flatS s'.2) by rw [hQ9]; exact HOX3.out)
                  have HBO := Lib.hid (show Below w.heap.size w wo by rw [hQ9]; exact below_drewN HBX.out _)
                  have HSX0 := Lib.hid (show Blk wo sx 34 #[.slice AL nL cL, .slice AS nS cS] by rw [hQ9]; exact HSXX.out)
                  rw [← hA]
                  clear hwo hQ9 hA a1 b1 HCB i7 i8 i3 i4 i5 HSGX HOX2 HOX3
                  have HRT := Lib.hid ((Reads.of_own HO2.out).take2 (k := k) (by omega))
                  have HRD := Lib.hid ((Reads.of_own HO2.out).cut (k := k) (by omega) hcc)
                  have e4 : (0 : Int) ≤ (k : Int) := by omega
                  have e5 : (k : Int) ≤ (no : Int) := by omega
                  have e6 : (k : Int) ≤ (co : Int) := by omega
                  have e7 : (no : Int) ≤ (co : Int) := by omega
                  obtain ⟨lt1, hlt1⟩ : ∃ l1, l1 = (flatV vs0).take (k * 2) := ⟨_, rfl⟩
                  obtain ⟨lt2, hlt2⟩ : ∃ l2, l2 = (flatV vs0).drop (k * 2) := ⟨_, rfl⟩
                  rw [← hlt1] at HRT
                  rw [← hlt2] at HRD
                  have ho1 : ∀ u ∈ lt1, u.oneCell' = true := fun u hu => OutAt.one HO1.out HO3.out u (by rw [hlt1] at hu; exact List.mem_of_mem_take hu)
                  have ho2 : ∀ u ∈ lt2, u.oneCell' = true := fun u hu => OutAt.one HO1.out HO3.out u (by rw [hlt2] at hu; exact List.mem_of_mem_drop hu)
                  have H1 := Lib.hid ho1
                  have H2 := Lib.hid ho2
                  have HL1 := Lib.hid hlt1
                  have HL2 := Lib.hid hlt2
                  clear hlt1 hlt2 ho1 ho2
                  rw [if_neg (by omega : ¬ co = k)] at HRD
                  go_upto_region 13 with fail
                  go_wp2_with (first
                    | (at_builtin; (refine wpList_append_any _ rfl (.tmp 64) (.tmp 67) 22 rfl wo.heap.size 34 j0 (.agg #[.slice none 0 0, .slice none 0 0]) 2 48 Try.underlying22 HJ.out HZ0.out HZ1.out HZ2.out rfl (by omega) (.slice (some ⟨wo.heap.size, 0, none⟩) 0 0) 0 [] rfl (World.ownsRow_made wo #[] 0 (Nat.le_refl _) (by simp [maxLen]) rfl) wo.heap.size Ao k co lt1 rfl (HRT.out.alloc (Nat.le_refl _) _) H1.out (by simp [maxLen]; omega) (by omega) (by simp) ?_; intro v1 w1 hown1 hgrow1 _; have HW1 := Lib.hid hown1; have HG1 := Lib.hid hgrow1; have hs1 := hgrow1.size; rw [World.size_alloc] at hs1; have hqc := HSX0.out.grown (only_trans (only_alloc (only_refl wo (some wo.heap.size)) (.cells #[] 34)) hgrow1) (by intro e; injection e with e; have := HSX0.out.lt; omega); have xb1 := hqc.cell 0; have xb2 := hqc.cell 1; have HQC := Lib.hid hqc; clear hown1 hgrow1 hqc))
                    | (at_builtin; (refine wpList_append_any _ rfl (.tmp 69) (.tmp 73) 22 rfl wo.heap.size 34 j0 (.agg #[.slice none 0 0, .slice none 0 0]) 2 48 Try.underlying22 HJ.out HZ0.out HZ1.out HZ2.out rfl (by omega) v1 (0 + k) ([] ++ lt1) rfl (HW1.out.alloc _) (w1.heap.size + 1) (some ⟨w1.heap.size, 0, none⟩) 1 1 [.slice AL nL cL, .slice none 0 0] rfl ⟨rfl, fun _ => ⟨_, rfl, Nat.lt_succ_self _, cells_newL w1 34 _ _ rfl⟩⟩ (by simp [Value.oneCell']) (by simp [maxLen]; omega) (by omega) (by rw [World.size_alloc]; omega) ?_; intro v2 w2 hown2 hgrow2 _; have HW2 := Lib.hid hown2; have HG2 := Lib.hid hgrow2; have hs2 := hgrow2.size; rw [World.size_alloc] at hs2; clear hown2 hgrow2))
                    | (at_builtin; (refine wpList_append_any _ rfl (.tmp 75) (.tmp 78) 22 rfl wo.heap.size 34 j0 (.agg #[.slice none 0 0, .slice none 0 0]) 2 48 Try.underlying22 HJ.out HZ0.out HZ1.out HZ2.out rfl (by omega) v2 (0 + k + 1) ([] ++ lt1 ++ [.slice AL nL cL, .slice none 0 0]) rfl HW2.out wo.heap.size _ (no - k) (co - k) lt2 rfl (((HRD.out.alloc (Nat.le_refl _) _).grown HG1.out (by simp) (fun g hg => by cases hg; exact Nat.le_refl _)).alloc (by omega) _ |>.grown HG2.out (by rw [World.size_alloc]; omega) (fun g hg => (HW1.out.lt g hg).1)) H2.out (by simp [maxLen]; omega) (by omega) (by omega) ?_; intro v3 w3 hown3 hgrow3 _; have HW3 := Lib.hid hown3; have HG3 := Lib.hid hgrow3; have hs3 := hgrow3.size; clear hown3 hgrow3)))
                  all_goals
                    have hB := HBO.out.size
                    have g1 := ((Below.refl wo.heap.size wo).alloc (Nat.le_refl _) (.cells #[] 34)).grown HG1.out (by rw [World.size_alloc]; omega) (fun g hg => by cases hg; exact Nat.le_refl _)
                    have g2 := (g1.alloc g1.size (.cells #[.slice AL nL cL, .slice none 0 0] 34)).grown HG2.out (by rw [World.size_alloc]; have := g1.size; omega) (fun g hg => (HW1.out.lt g hg).1)
                    have g3 := g2.grown HG3.out g2.size (fun g hg => (HW2.out.lt g hg).1)
                    obtain ⟨wq, hwq⟩ : ∃ wq, wq = w3 := ⟨_, rfl⟩
                    subst hwq
                    have h9 := HW3.out
                    rw [show 0 + k + 1 + (no - k) = no + 1 by omega, HL1.out, HL2.out] at h9
                    obtain ⟨gq, cq, hvq⟩ := own_succ h9 (by omega)
                    subst hvq
                    obtain ⟨vq, hvq⟩ : ∃ vq : Value, vq = .slice (some ⟨gq, 0, none⟩) (no + 1) cq := ⟨_, rfl⟩
                    obtain ⟨oq, hoq⟩ : ∃ oq, oq = out.take k ++ (s.1, []) :: out.drop k := ⟨_, rfl⟩
                    obtain ⟨c0, hc0⟩ : ∃ c0 : Ser, c0 = (s.1, []) := ⟨_, rfl⟩
                    have hkl : k ≤ out.length := by have := HNO.out; omega
                    have HOQ := Lib.hid (show OutAt wq w.heap.size vq oq by
                      rw [hvq, hoq]
                      refine OutAt.ins (vl := .slice AL nL cL) hkl HO1.out ?_ (fun i p s' a b => ?_) ?_
                      · rw [← HNO.out]; exact own_less h9 hB
                      · obtain ⟨k1, k2⟩ := HO3.out i p s' a b
                        exact ⟨k1.below g3 hB, k2.kept (only_of_below g3 none) (by cases p.2.ownBlock <;> simp)⟩
                      · have := HLAB.out; exact this.below (HBO.out.trans (g3.mono hB)) (Nat.le_refl _))
                    have HC0 := Lib.hid (show oq[k]? = some c0 by rw [hoq, hc0, List.getElem?_append_right (by rw [List.length_take]; omega), List.length_take, Nat.min_eq_left hkl, Nat.sub_self]; rfl)
                    have HADD := Lib.hid (show addS out s = oq.set k (c0.1, putAll c0.2 s.2) by rw [hoq, hc0]; exact addS_new out s k HPL.out HNEW.out)
                    have HTC := Lib.hid (show TAsc c0.2 ∧ c0.2.length + s.2.length ≤ 100000 by rw [hc0]; exact ⟨List.Pairwise.nil, by have := HTS.out; simp; omega⟩)
                    have HBQ := Lib.hid (HBO.out.trans (g3.mono hB))
                    have HSX := Lib.hid (HSX0.out.below g3 HSX0.out.lt)
                    obtain ⟨nr, hnr⟩ : ∃ nr, nr = no + 1 := ⟨_, rfl⟩
                    rw [← hnr] at hvq
                    simp only [← hnr]
                    have HNQ := Lib.hid (show nr = oq.length by rw [hnr, hoq, HNO.out]; simp; omega)
                    have HSG := Lib.hid (show sx ≠ gq from fun e => by have := (HW3.out.lt gq rfl).1; have := HSX0.out.lt; omega)
                    have sq0 : wq.cell? ⟨sx, 1, none⟩ = some (.slice AS nS cS) := HSX.out.cell 1
                    clear xb1 xb2 g1 g2 g3 h9 hoq hc0 hkl hnr hB
                    subst hvq
                    have HQ0 := Lib.hid (show Rm4R w wq sx (.slice AL nL cL) (.slice AS nS cS) (.slice (some ⟨gq, 0, none⟩) nr cq) oq k c0 s (.int .i64 0) wq from ⟨0, rfl, Nat.zero_le _, by
                      have e : oq.set k (c0.1, putAll c0.2 (s.2.take 0)) = oq := by
                        have := (List.getElem?_eq_some_iff.1 HC0.out).2
                        have hk9 := (List.getElem?_eq_some_iff.1 HC0.out).1
                        rw [List.take_zero, show (c0.1, putAll c0.2 []) = c0 from rfl, ← this, List.set_getElem_self]
                      rw [e]; exact HOQ.out, HBQ.out, HSX.out⟩)
                    go_wp2_with fail
                    go_loopw [9] (fun i wr => Rm4R w wq sx (.slice AL nL cL) (.slice AS nS cS) (.slice (some ⟨gq, 0, none⟩) nr cq) oq k c0 s i wr) (fun i _ => nS - (intOf i).toNat)
                    case atStart => exact HQ0.out
                    case round =>
                      obtain ⟨m4, rfl, hm4, hout4, hb4, hbx4⟩ := hrel
                      rw [← HNS.out] at hm4
                      have y0 : wr.cell? ⟨sx, 1, none⟩ = some (.slice AS nS cS) := hbx4.cell 1
                      have HB4 := Lib.hid hb4
                      have HX4 := Lib.hid hbx4
                      have HO4 := Lib.hid hout4
                      by_cases hlt4 : m4 < nS
                      · have i4 : (m4 : Int) < (nS : Int) := by omega
                        obtain ⟨x, hx⟩ : ∃ x, s.2[m4]? = some x := ⟨_, List.getElem?_eq_getElem (by have := HNS.out; omega)⟩
                        obtain ⟨dS, hdS, hdb, z1, z2⟩ := (HRS.out.keep fun p hp => hb4.cell hp).two hx
                        subst hdS
                        obtain ⟨l4, hl4⟩ : ∃ l4, l4 = putAll c0.2 (s.2.take m4) := ⟨_, rfl⟩
                        rw [← hl4] at hout4
                        obtain ⟨vs4, h41, h42, h43⟩ := hout4
                        obtain ⟨hk9, -⟩ := List.getElem?_eq_some_iff.1 HC0.out
                        have hs4 : (oq.set k (c0.1, l4))[k]? = some (c0.1, l4) := by rw [List.getElem?_set, if_pos rfl, if_pos hk9]
                        obtain ⟨p4, hp4⟩ : ∃ p, vs4[k]? = some p := ⟨_, List.getElem?_eq_getElem (by rw [h41, List.length_set]; exact hk9)⟩
                        obtain ⟨kl4, ko4⟩ := h43 k p4 _ hp4 hs4
                        rw [List.length_set, ← HNQ.out] at h42
                        obtain ⟨A4, c4, e4⟩ := own_slice ko4
                        have g1 : wr.cell? ⟨gq, k * 2 + 1, none⟩ = some (.slice A4 l4.length c4) := by
                          rw [h42.cellAt _ (by have := HNQ.out; omega), show flatV vs4 = flat2 Prod.fst Prod.snd vs4 from rfl, (flat2_get _ _ vs4 k p4 hp4).2, e4]
                        have hta : TAsc l4 := by rw [hl4]; exact (putAll_spec _ _ HTC.out.1).1
                        have hll : l4.length ≤ 100000 := by
                          have h1 := putAll_len (s.2.take m4) c0.2
                          have h2 := HTC.out.2
                          rw [← hl4, List.length_take] at h1
                          omega
                        rw [e4] at ko4
                        have hbw : w.heap.size ≤ wr.heap.size := hb4.size
                        have HPT := Lib.hid (put_any wr.drew w.heap.size _ l4 x hbw ko4 hta hll)
                        have HX := Lib.hid hx
                        have HL4 := Lib.hid hl4
                        have H41 := Lib.hid h41
                        have H42 := Lib.hid h42
                        have H43 := Lib.hid h43
                        have HP4 := Lib.hid hp4
                        have HS4 := Lib.hid hs4
                        have HHB := Lib.hid (show w.heap.size ≤ wr.heap.size ∧ dS.block < w.heap.size from ⟨hbw, hdb⟩)
                        have d1 : (k : Int) < (nr : Int) := by have := HNQ.out; omega
                        have d2 : (0 : Int) ≤ (k : Int) := by omega
                        have d3 : (0 : Int) ≤ (m4 : Int) := by omega
                        have s9 : IntKind.i64.wrap ((m4 : Int) + 1) = ((m4 + 1 : Nat) : Int) := (IntWalk.i64_in _ (by omega)).trans (by omega)
                        clear hbx4 hb4 hx hl4 h41 h42 h43 hp4 hs4 kl4 ko4 hta hll e4 hk9 hdb hbw
                        go_upto_region 19 with fail
                        go_region_law (first | (go_simp; go_at_call 21; refine HPT.out.mono ?_; rintro e w5 ⟨u5, rfl, ho5, hb5⟩; obtain ⟨A5, c5, hu5⟩ := own_slice ho5; subst hu5; replace hb5 : Below wr.heap.size wr w5 := ((Below.refl wr.heap.size wr).drew).trans hb5; have o42 := H42.out.kept (only_of_below hb5 none) (by simp [Value.ownBlock]); have t1 : w5.cell? ⟨gq, k * 2 + 1, none⟩ = some (.slice A4 l4.length c4) := (hb5.cell (p := ⟨gq, k * 2 + 1, none⟩) (H42.out.lt gq rfl).2).trans g1; have t2 : w5.cell? ⟨sx, 1, none⟩ = some (.slice (some dS) nS cS) := (hb5.cell (p := ⟨sx, 1, none⟩) HX4.out.lt).trans y0; have t3 := (hb5.cell (p := dS.add (m4 * 2)) (by rw [block_of_add]; exact Nat.lt_of_lt_of_le HHB.out.2 HHB.out.1)).trans z1; have t4 := (hb5.cell (p := ⟨(dS.add (m4 * 2)).block, (dS.add (m4 * 2)).off + 1, none⟩) (by show (dS.add (m4 * 2)).block < _; rw [block_of_add]; exact Nat.lt_of_lt_of_le HHB.out.2 HHB.out.1)).trans z2; have t5 := o42.frozenAt (k * 2 + 1); have HO5 := Lib.hid ho5; have HB5 := Lib.hid hb5; have HO42 := Lib.hid o42; clear ho5 hb5 o42))
                        all_goals
                          clear g1 y0 z1 z2
                          go_wp2
                          refine ⟨⟨m4 + 1, rfl, by have := HNS.out; omega, ?_, ?_, ?_⟩, by simp [intOf]; omega⟩
                          · rw [putAll_take c0.2 HX.out, ← HL4.out]
                            have hB := HHB.out.1
                            have := OutAt.put (k := k) (out := oq.set k (c0.1, l4)) (by rw [List.length_set]; exact HNQ.out) H41.out HO42.out (fun i p s' a b => by
                              obtain ⟨k1, k2⟩ := H43.out i p s' a b
                              exact ⟨k1.below HB5.out hB, k2.kept (only_of_below HB5.out none) (by cases p.2.ownBlock <;> simp)⟩) HP4.out HS4.out HO5.out
                            rw [List.set_set] at this
                            exact this
                          · exact (HB4.out.trans (HB5.out.mono HHB.out.1)).setCell (p := ⟨gq, k * 2 + 1, none⟩) (HO42.out.lt gq rfl).1 _
                          · exact (HX4.out.below HB5.out HX4.out.lt).far HSG.out _
                      · have i4 : ¬ (m4 : Int) < (nS : Int) := by omega
                        have hm9 : m4 = nS := by omega
                        have HF := Lib.hid (show Rm2R w pre ss (.slice (some ⟨gq, 0, none⟩) nr cq) (.int .i64 ((j + 1 : Nat) : Int)) wr from ⟨j + 1, rfl, by have := HM.out; omega, by
                          rw [take_one ss HJS.out, ← List.append_assoc, mergeP_snoc, ← HOUT.out, HADD.out]
                          rw [hm9, HNS.out, List.take_length] at hout4
                          exact hout4, hb4⟩)
                        clear hout4 hb4 hbx4
                        go_wp2
                        exact ⟨HF.out, by simp [intOf]; omega⟩
            · have i3 : ¬ (k : Int) < (no : Int) := by omega
              have i4 : decide ((k : Int) < (no : Int)) = false := decide_eq_false i3
              have hkno : k = no := by omega
              have i5 : ((k : Int) == (no : Int)) = true := by simp [hkno]
              have HNEW := Lib.hid (show ∀ y9, out[k]? = some y9 → 0 < cmpL y9.1 s.1 from fun y9 h9 => by
                have h8 := (List.getElem?_eq_some_iff.1 h9).1
                have := HNO.out
                omega)
              obtain ⟨wo, hwo⟩ : ∃ wo, wo = wr := ⟨_, rfl⟩
              subst hwo
              clear hkno
              go_upto_region 10 with fail
              go_quiet (fail)
              obtain ⟨wB, hwB⟩ : ∃ wB, wB = wo.drewN nq := ⟨_, rfl⟩
              rw [← hwB]
              have HWB := Lib.hid (show wB = wx.drewN (q0 + nq) by rw [hwB, HW.out, World.drewN_drewN])
              clear hwB b0
              go_upto_region 12 with fail
              go_quiet (fail)
              obtain ⟨wo, hwo⟩ : ∃ wo, wo = wB.drewN nq := ⟨_, rfl⟩
              rw [← hwo]
              obtain ⟨Q9, hQ9⟩ : ∃ Q, wo = wx.drewN Q := ⟨_, by rw [hwo, HWB.out, World.drewN_drewN]⟩
              have HO1 := HOX1
              have HO2 := Lib.hid (show wo.ownsRow w.heap.size 34 2 (.slice Ao no co) no (flatV vs0) by rw [hQ9]; exact HOX2.out)
              have HO3 := Lib.hid (show ∀ (i : Nat) (p : VV) (s' : Ser), vs0[i]? = some p → out[i]? = some s' → LabsAt wo w.heap.size p.1 s'.1 ∧ wo.ownsRow w.heap.size 51 2 p.2 s'.2.length (flatS s'.2) by rw [hQ9]; exact HOX3.out)
              have HBO := Lib.hid (show Below w.heap.size w wo by rw [hQ9]; exact below_drewN HBX.out _)
              have HSX0 := Lib.hid (show Blk wo sx 34 #[.slice AL nL cL, .slice AS nS cS] by rw [hQ9]; exact HSXX.out)
              clear hwo hQ9 i3 i4 i5 HSGX HOX2 HOX3
              have HRT := Lib.hid ((Reads.of_own HO2.out).take2 (k := k) (by omega))
              have HRD := Lib.hid ((Reads.of_own HO2.out).cut (k := k) (by omega) hcc)
              have e4 : (0 : Int) ≤ (k : Int) := by omega
              have e5 : (k : Int) ≤ (no : Int) := by omega
              have e6 : (k : Int) ≤ (co : Int) := by omega
              have e7 : (no : Int) ≤ (co : Int) := by omega
              obtain ⟨lt1, hlt1⟩ : ∃ l1, l1 = (flatV vs0).take (k * 2) := ⟨_, rfl⟩
              obtain ⟨lt2, hlt2⟩ : ∃ l2, l2 = (flatV vs0).drop (k * 2) := ⟨_, rfl⟩
              rw [← hlt1] at HRT
              rw [← hlt2] at HRD
              have ho1 : ∀ u ∈ lt1, u.oneCell' = true := fun u hu => OutAt.one HO1.out HO3.out u (by rw [hlt1] at hu; exact List.mem_of_mem_take hu)
              have ho2 : ∀ u ∈ lt2, u.oneCell' = true := fun u hu => OutAt.one HO1.out HO3.out u (by rw [hlt2] at hu; exact List.mem_of_mem_drop hu)
              have H1 := Lib.hid ho1
              have H2 := Lib.hid ho2
              have HL1 := Lib.hid hlt1
              have HL2 := Lib.hid hlt2
              clear hlt1 hlt2 ho1 ho2
              go_upto_region 13 with fail
              go_wp2_with (first
                | (at_builtin; (refine wpList_append_any _ rfl (.tmp 64) (.tmp 67) 22 rfl wo.heap.size 34 j0 (.agg #[.slice none 0 0, .slice none 0 0]) 2 48 Try.underlying22 HJ.out HZ0.out HZ1.out HZ2.out rfl (by omega) (.slice (some ⟨wo.heap.size, 0, none⟩) 0 0) 0 [] rfl (World.ownsRow_made wo #[] 0 (Nat.le_refl _) (by simp [maxLen]) rfl) wo.heap.size Ao k co lt1 rfl (HRT.out.alloc (Nat.le_refl _) _) H1.out (by simp [maxLen]; omega) (by omega) (by simp) ?_; intro v1 w1 hown1 hgrow1 _; have HW1 := Lib.hid hown1; have HG1 := Lib.hid hgrow1; have hs1 := hgrow1.size; rw [World.size_alloc] at hs1; have hqc := HSX0.out.grown (only_trans (only_alloc (only_refl wo (some wo.heap.size)) (.cells #[] 34)) hgrow1) (by intro e; injection e with e; have := HSX0.out.lt; omega); have xb1 := hqc.cell 0; have xb2 := hqc.cell 1; have HQC := Lib.hid hqc; clear hown1 hgrow1 hqc))
                | (at_builtin; (refine wpList_append_any _ rfl (.tmp 69) (.tmp 73) 22 rfl wo.heap.size 34 j0 (.agg #[.slice none 0 0, .slice none 0 0]) 2 48 Try.underlying22 HJ.out HZ0.out HZ1.out HZ2.out rfl (by omega) v1 (0 + k) ([] ++ lt1) rfl (HW1.out.alloc _) (w1.heap.size + 1) (some ⟨w1.heap.size, 0, none⟩) 1 1 [.slice AL nL cL, .slice none 0 0] rfl ⟨rfl, fun _ => ⟨_, rfl, Nat.lt_succ_self _, cells_newL w1 34 _ _ rfl⟩⟩ (by simp [Value.oneCell']) (by simp [maxLen]; omega) (by omega) (by rw [World.size_alloc]; omega) ?_; intro v2 w2 hown2 hgrow2 _; have HW2 := Lib.hid hown2; have HG2 := Lib.hid hgrow2; have hs2 := hgrow2.size; rw [World.size_alloc] at hs2; clear hown2 hgrow2))
                | (at_builtin; (refine wpList_append_any _ rfl (.tmp 75) (.tmp 78) 22 rfl wo.heap.size 34 j0 (.agg #[.slice none 0 0, .slice none 0 0]) 2 48 Try.underlying22 HJ.out HZ0.out HZ1.out HZ2.out rfl (by omega) v2 (0 + k + 1) ([] ++ lt1 ++ [.slice AL nL cL, .slice none 0 0]) rfl HW2.out wo.heap.size _ (no - k) (co - k) lt2 rfl (((HRD.out.alloc (Nat.le_refl _) _).grown HG1.out (by simp) (fun g hg => by cases hg; exact Nat.le_refl _)).alloc (by omega) _ |>.grown HG2.out (by rw [World.size_alloc]; omega) (fun g hg => (HW1.out.lt g hg).1)) H2.out (by simp [maxLen]; omega) (by omega) (by omega) ?_; intro v3 w3 hown3 hgrow3 _; have HW3 := Lib.hid hown3; have HG3 := Lib.hid hgrow3; have hs3 := hgrow3.size; clear hown3 hgrow3)))
              all_goals
                have hB := HBO.out.size
                have g1 := ((Below.refl wo.heap.size wo).alloc (Nat.le_refl _) (.cells #[] 34)).grown HG1.out (by rw [World.size_alloc]; omega) (fun g hg => by cases hg; exact Nat.le_refl _)
                have g2 := (g1.alloc g1.size (.cells #[.slice AL nL cL, .slice none 0 0] 34)).grown HG2.out (by rw [World.size_alloc]; have := g1.size; omega) (fun g hg => (HW1.out.lt g hg).1)
                have g3 := g2.grown HG3.out g2.size (fun g hg => (HW2.out.lt g hg).1)
                obtain ⟨wq, hwq⟩ : ∃ wq, wq = w3 := ⟨_, rfl⟩
                subst hwq
                have h9 := HW3.out
                rw [show 0 + k + 1 + (no - k) = no + 1 by omega, HL1.out, HL2.out] at h9
                obtain ⟨gq, cq, hvq⟩ := own_succ h9 (by omega)
                subst hvq
                obtain ⟨vq, hvq⟩ : ∃ vq : Value, vq = .slice (some ⟨gq, 0, none⟩) (no + 1) cq := ⟨_, rfl⟩
                obtain ⟨oq, hoq⟩ : ∃ oq, oq = out.take k ++ (s.1, []) :: out.drop k := ⟨_, rfl⟩
                obtain ⟨c0, hc0⟩ : ∃ c0 : Ser, c0 = (s.1, []) := ⟨_, rfl⟩
                have hkl : k ≤ out.length := by have := HNO.out; omega
                have HOQ := Lib.hid (show OutAt wq w.heap.size vq oq by
                  rw [hvq, hoq]
                  refine OutAt.ins (vl := .slice AL nL cL) hkl HO1.out ?_ (fun i p s' a b => ?_) ?_
                  · rw [← HNO.out]; exact own_less h9 hB
                  · obtain ⟨k1, k2⟩ := HO3.out i p s' a b
                    exact ⟨k1.below g3 hB, k2.kept (only_of_below g3 none) (by cases p.2.ownBlock <;> simp)⟩
                  · have := HLAB.out; exact this.below (HBO.out.trans (g3.mono hB)) (Nat.le_refl _))
                have HC0 := Lib.hid (show oq[k]? = some c0 by rw [hoq, hc0, List.getElem?_append_right (by rw [List.length_take]; omega), List.length_take, Nat.min_eq_left hkl, Nat.sub_self]; rfl)
                have HADD := Lib.hid (show addS out s = oq.set k (c0.1, putAll c0.2 s.2) by rw [hoq, hc0]; exact addS_new out s k HPL.out HNEW.out)
                have HTC := Lib.hid (show TAsc c0.2 ∧ c0.2.length + s.2.length ≤ 100000 by rw [hc0]; exact ⟨List.Pairwise.nil, by have := HTS.out; simp; omega⟩)
                have HBQ := Lib.hid (HBO.out.trans (g3.mono hB))
                have HSX := Lib.hid (HSX0.out.below g3 HSX0.out.lt)
                obtain ⟨nr, hnr⟩ : ∃ nr, nr = no + 1 := ⟨_, rfl⟩
                rw [← hnr] at hvq
                simp only [← hnr]
                have HNQ := Lib.hid (show nr = oq.length by rw [hnr, hoq, HNO.out]; simp; omega)
                have HSG := Lib.hid (show sx ≠ gq from fun e => by have := (HW3.out.lt gq rfl).1; have := HSX0.out.lt; omega)
                have sq0 : wq.cell? ⟨sx, 1, none⟩ = some (.slice AS nS cS) := HSX.out.cell 1
                clear xb1 xb2 g1 g2 g3 h9 hoq hc0 hkl hnr hB
                subst hvq
                have HQ0 := Lib.hid (show Rm4R w wq sx (.slice AL nL cL) (.slice AS nS cS) (.slice (some ⟨gq, 0, none⟩) nr cq) oq k c0 s (.int .i64 0) wq from ⟨0, rfl, Nat.zero_le _, by
                  have e : oq.set k (c0.1, putAll c0.2 (s.2.take 0)) = oq := by
                    have := (List.getElem?_eq_some_iff.1 HC0.out).2
                    have hk9 := (List.getElem?_eq_some_iff.1 HC0.out).1
                    rw [List.take_zero, show (c0.1, putAll c0.2 []) = c0 from rfl, ← this, List.set_getElem_self]
                  rw [e]; exact HOQ.out, HBQ.out, HSX.out⟩)
                go_wp2_with fail
                go_loopw [9] (fun i wr => Rm4R w wq sx (.slice AL nL cL) (.slice AS nS cS) (.slice (some ⟨gq, 0, none⟩) nr cq) oq k c0 s i wr) (fun i _ => nS - (intOf i).toNat)
                case atStart => exact HQ0.out
                case round =>
                  obtain ⟨m4, rfl, hm4, hout4, hb4, hbx4⟩ := hrel
                  rw [← HNS.out] at hm4
                  have y0 : wr.cell? ⟨sx, 1, none⟩ = some (.slice AS nS cS) := hbx4.cell 1
                  have HB4 := Lib.hid hb4
                  have HX4 := Lib.hid hbx4
                  have HO4 := Lib.hid hout4
                  by_cases hlt4 : m4 < nS
                  · have i4 : (m4 : Int) < (nS : Int) := by omega
                    obtain ⟨x, hx⟩ : ∃ x, s.2[m4]? = some x := ⟨_, List.getElem?_eq_getElem (by have := HNS.out; omega)⟩
                    obtain ⟨dS, hdS, hdb, z1, z2⟩ := (HRS.out.keep fun p hp => hb4.cell hp).two hx
                    subst hdS
                    obtain ⟨l4, hl4⟩ : ∃ l4, l4 = putAll c0.2 (s.2.take m4) := ⟨_, rfl⟩
                    rw [← hl4] at hout4
                    obtain ⟨vs4, h41, h42, h43⟩ := hout4
                    obtain ⟨hk9, -⟩ := List.getElem?_eq_some_iff.1 HC0.out
                    have hs4 : (oq.set k (c0.1, l4))[k]? = some (c0.1, l4) := by rw [List.getElem?_set, if_pos rfl, if_pos hk9]
                    obtain ⟨p4, hp4⟩ : ∃ p, vs4[k]? = some p := ⟨_, List.getElem?_eq_getElem (by rw [h41, List.length_set]; exact hk9)⟩
                    obtain ⟨kl4, ko4⟩ := h43 k p4 _ hp4 hs4
                    rw [List.length_set, ← HNQ.out] at h42
                    obtain ⟨A4, c4, e4⟩ := own_slice ko4
                    have g1 : wr.cell? ⟨gq, k * 2 + 1, none⟩ = some (.slice A4 l4.length c4) := by
                      rw [h42.cellAt _ (by have := HNQ.out; omega), show flatV vs4 = flat2 Prod.fst Prod.snd vs4 from rfl, (flat2_get _ _ vs4 k p4 hp4).2, e4]
                    have hta : TAsc l4 := by rw [hl4]; exact (putAll_spec _ _ HTC.out.1).1
                    have hll : l4.length ≤ 100000 := by
                      have h1 := putAll_len (s.2.take m4) c0.2
                      have h2 := HTC.out.2
                      rw [← hl4, List.length_take] at h1
                      omega
                    rw [e4] at ko4
                    have hbw : w.heap.size ≤ wr.heap.size := hb4.size
                    have HPT := Lib.hid (put_any wr.drew w.heap.size _ l4 x hbw ko4 hta hll)
                    have HX := Lib.hid hx
                    have HL4 := Lib.hid hl4
                    have H41 := Lib.hid h41
                    have H42 := Lib.hid h42
                    have H43 := Lib.hid h43
                    have HP4 := Lib.hid hp4
                    have HS4 := Lib.hid hs4
                    have HHB := Lib.hid (show w.heap.size ≤ wr.heap.size ∧ dS.block < w.heap.size from ⟨hbw, hdb⟩)
                    have d1 : (k : Int) < (nr : Int) := by have := HNQ.out; omega
                    have d2 : (0 : Int) ≤ (k : Int) := by omega
                    have d3 : (0 : Int) ≤ (m4 : Int) := by omega
                    have s9 : IntKind.i64.wrap ((m4 : Int) + 1) = ((m4 + 1 : Nat) : Int) := (IntWalk.i64_in _ (by omega)).trans (by omega)
                    clear hbx4 hb4 hx hl4 h41 h42 h43 hp4 hs4 kl4 ko4 hta hll e4 hk9 hdb hbw
                    go_upto_region 19 with fail
                    go_region_law (first | (go_simp; go_at_call 21; refine HPT.out.mono ?_; rintro e w5 ⟨u5, rfl, ho5, hb5⟩; obtain ⟨A5, c5, hu5⟩ := own_slice ho5; subst hu5; replace hb5 : Below wr.heap.size wr w5 := ((Below.refl wr.heap.size wr).drew).trans hb5; have o42 := H42.out.kept (only_of_below hb5 none) (by simp [Value.ownBlock]); have t1 : w5.cell? ⟨gq, k * 2 + 1, none⟩ = some (.slice A4 l4.length c4) := (hb5.cell (p := ⟨gq, k * 2 + 1, none⟩) (H42.out.lt gq rfl).2).trans g1; have t2 : w5.cell? ⟨sx, 1, none⟩ = some (.slice (some dS) nS cS) := (hb5.cell (p := ⟨sx, 1, none⟩) HX4.out.lt).trans y0; have t3 := (hb5.cell (p := dS.add (m4 * 2)) (by rw [block_of_add]; exact Nat.lt_of_lt_of_le HHB.out.2 HHB.out.1)).trans z1; have t4 := (hb5.cell (p := ⟨(dS.add (m4 * 2)).block, (dS.add (m4 * 2)).off + 1, none⟩) (by show (dS.add (m4 * 2)).block < _; rw [block_of_add]; exact Nat.lt_of_lt_of_le HHB.out.2 HHB.out.1)).trans z2; have t5 := o42.frozenAt (k * 2 + 1); have HO5 := Lib.hid ho5; have HB5 := Lib.hid hb5; have HO42 := Lib.hid o42; clear ho5 hb5 o42))
                    all_goals
                      clear g1 y0 z1 z2
                      go_wp2
                      refine ⟨⟨m4 + 1, rfl, by have := HNS.out; omega, ?_, ?_, ?_⟩, by simp [intOf]; omega⟩
                      · rw [putAll_take c0.2 HX.out, ← HL4.out]
                        have hB := HHB.out.1
                        have := OutAt.put (k := k) (out := oq.set k (c0.1, l4)) (by rw [List.length_set]; exact HNQ.out) H41.out HO42.out (fun i p s' a b => by
                          obtain ⟨k1, k2⟩ := H43.out i p s' a b
                          exact ⟨k1.below HB5.out hB, k2.kept (only_of_below HB5.out none) (by cases p.2.ownBlock <;> simp)⟩) HP4.out HS4.out HO5.out
                        rw [List.set_set] at this
                        exact this
                      · exact (HB4.out.trans (HB5.out.mono HHB.out.1)).setCell (p := ⟨gq, k * 2 + 1, none⟩) (HO42.out.lt gq rfl).1 _
                      · exact (HX4.out.below HB5.out HX4.out.lt).far HSG.out _
                  · have i4 : ¬ (m4 : Int) < (nS : Int) := by omega
                    have hm9 : m4 = nS := by omega
                    have HF := Lib.hid (show Rm2R w pre ss (.slice (some ⟨gq, 0, none⟩) nr cq) (.int .i64 ((j + 1 : Nat) : Int)) wr from ⟨j + 1, rfl, by have := HM.out; omega, by
                      rw [take_one ss HJS.out, ← List.append_assoc, mergeP_snoc, ← HOUT.out, HADD.out]
                      rw [hm9, HNS.out, List.take_length] at hout4
                      exact hout4, hb4⟩)
                    clear hout4 hb4 hbx4
                    go_wp2
                    exact ⟨HF.out, by simp [intOf]; omega⟩
        · have i2 : ¬ (j : Int) < (m : Int) := by omega
          have hjm : j = m := by omega
          subst hjm
          have HF := Lib.hid (show ∀ v9, OutAt wr w.heap.size v9 (mergeP (pre ++ ss.take j)) → Rm1R w lists v9 (.int .i64 ((k + 1 : Nat) : Int)) wr from fun v9 h9 => ⟨k + 1, rfl, by have := HNL.out; omega, by rw [HNX.out]; exact h9, hb⟩)
          have HO9 := Lib.hid hout
          clear hout hb
          go_wp2
          exact ⟨HF.out _ HO9.out, by simp [intOf]; omega⟩
    · have i1 : ¬ (k : Int) < (nl : Int) := by omega
      have hkn : k = nl := by omega
      subst hkn
      rw [HNL.out, List.take_length] at hout
      have HF := Lib.hid hout
      have HBF := Lib.hid hb
      clear hout hb
      go_wp2
      refine bodyPost_ret (results_tmp rfl _ _ _) rfl ?_
      exact ⟨_, rfl, HF.out, HBF.out⟩
end Go.Proofs.Ytnglejopbpnknaa
