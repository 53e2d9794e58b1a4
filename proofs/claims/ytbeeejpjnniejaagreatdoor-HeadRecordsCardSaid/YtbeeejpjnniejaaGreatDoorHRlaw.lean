/- Law HeadRecords (12). -/
import Derived.Test.YtbeeejpjnniejaaGreatDoorHRlaw0
namespace Go.Proofs.YtbeeejpjnniejaaGreatDoor
open Go.RowKit Go.Shelf Go.Maps
attribute [-go_sem] Builtin.append_
def RecoR (w : World) (pa pb pr N : Nat) (i : Value) (W : World) : Prop := ∃ (k : Nat) (Fa Fb Fr : Nat → Prop) (H : Hd), i = .int .i64 (k : Int) ∧ k ≤ N ∧ k ≤ 8 ∧ RcS w pa pb pr (20 * k) (20 * k) (20 * k) Fa Fb Fr H H H W
/-- what a replayed record does -/
theorem replay_rec {w w2 : World} {F : Nat → Prop} {p n : Nat} {H : Hd} {pts : List Pt} {e : Ending} (hf : ∀ q ∈ H.taken pts, PtFit q) (hl : (H.taken pts).length ≤ (recB (H.taken pts)).length) (h : ReplayPost w F p n H (recB (H.taken pts)) e w2) :
    e = .returned (.int .i64 0) ∧ HdAt w2 (Grs F w w2) p (n + pts.length) (H.take pts).2 ∧ Chg F w w2 := by
  unfold ReplayPost at h
  rw [pointsP_rec (H.taken pts) _ [] hf (by omega)] at h
  dsimp only at h
  rw [List.nil_append, take_taken] at h
  exact ⟨h.1, h.2.1.mono (by have := taken_len pts H; omega), h.2.2⟩
set_option maxRecDepth 100000 in
set_option maxHeartbeats 12800000 in
theorem records_any (w : World) (B N cap : Nat) (A : Option Addr) (r0 : Int) (bs : List (List Pt)) (A2 : Option Addr) (n2 c2 : Nat) (raw : List UInt8) (hT : Tabs w) (hr : r0 ≤ 9223372036854775807) (hb : BatsAt w B A bs) (hbits : ∀ b ∈ bs, ∀ q ∈ b, q.2.2 < 18446744073709551616) (hN : N = bs.length) (hN2 : N ≤ 9223372036854775807) (hB : B ≤ w.heap.size)
    (hraw : Reads w w.heap.size 1 A2 n2 (bytesV raw)) (hc2 : n2 ≤ c2) (hn2 : n2 ≤ 9223372036854775807) :
    Calls Tryz.prog 12 #[.int .i64 r0, .slice A N cap, .slice A2 n2 c2] w fun e w' => e = .returned (.bool true) ∧ Below w.heap.size w w' := by
  have hrl : raw.length = n2 := by have := hraw.1; rw [bytesV_length] at this; omega
  have HN := Lib.hid hN
  have HB := Lib.hid hb
  have HT := Lib.hid hT
  have HBB := Lib.hid hB
  have HBITS := Lib.hid hbits
  have HRAW := Lib.hid hraw
  have HRL := Lib.hid hrl
  have HC2 := Lib.hid hc2
  have HNW := Lib.hid (new_any r0 w hr)
  have HNW2 := Lib.hid (fun W => new_any r0 W hr)
  have HRN := Lib.hid (fun W => rnew_any r0 W hr)
  clear hT hr hb hN hB hbits hraw hrl hc2
  go_enter Tryz.func12, Tryz.ntmps12
  go_wp2_with fail
  refine HNW.out.mono ?_
  rintro e w1 ⟨pa, rfl, ha1, hb1⟩
  have HA1 := Lib.hid ha1
  have HB1 := Lib.hid hb1
  have hs1 : w.heap.size ≤ w1.heap.size := hb1.size
  clear ha1 hb1 HNW
  go_wp2_with fail
  refine (HNW2.out w1).mono ?_
  rintro e w2 ⟨pb, rfl, hb2, hbl2⟩
  have HB2 := Lib.hid hb2
  have HBL2 := Lib.hid hbl2
  have hs2 : w1.heap.size ≤ w2.heap.size := hbl2.size
  clear hb2 hbl2 HNW2
  go_wp2_with fail
  refine (HRN.out w2).mono ?_
  rintro e w3 ⟨rfl, hr3, hb3⟩
  have hs3 : w2.heap.size ≤ w3.heap.size := hb3.size
  obtain ⟨pr, hpr⟩ : ∃ pr, pr = w2.heap.size := ⟨_, rfl⟩
  have hr3' := hr3
  rw [show (RHd w3 (fun k => w2.heap.size ≤ k ∧ k < w3.heap.size) w2.heap.size 0 (Hd.empty r0)) = RHd w3 (fun k => w2.heap.size ≤ k ∧ k < w3.heap.size) pr 0 (Hd.empty r0) by rw [hpr]] at hr3'
  have HST := Lib.hid (show RecoR w pa pb pr N (.int .i64 0) w3 from by
    refine ⟨0, (fun k => w.heap.size ≤ k ∧ k < w1.heap.size), (fun k => w1.heap.size ≤ k ∧ k < w2.heap.size), (fun k => w2.heap.size ≤ k ∧ k < w3.heap.size), Hd.empty r0, rfl, Nat.zero_le _, Nat.zero_le _, ?_⟩
    refine ⟨(HA1.out.below HBL2.out).below (hb3), HB2.out.below hb3, hr3', fun j hj => ⟨hj.1, by omega⟩, fun j hj => ⟨by omega, by omega⟩, fun j hj => ⟨by omega, hj.2⟩, fun j hj hk => by omega, fun j hj hk => by omega, fun j hj hk => by omega, HB1.out.trans ((HBL2.out.mono hs1).trans (hb3.mono (by omega)))⟩)
  rw [← hpr]
  clear hr3 hr3' hb3 HRN HA1 HB1 HB2 HBL2 hpr hs1 hs2 hs3
  go_wp2_with fail
  go_loopw [10] (fun i wr => RecoR w pa pb pr N i wr) (fun i _ => 8 - (intOf i).toNat)
  case atStart => exact HST.out
  case round =>
    obtain ⟨k, Fa, Fb, Fr, H, rfl, hkN, hk8, hS⟩ := hrel
    have HS := Lib.hid hS
    have hws : w.heap.size ≤ wr.heap.size := hS.bel.size
    clear hS
    by_cases hgo : k < N ∧ k < 8
    · obtain ⟨hlt, h8⟩ := hgo
      have i1 : (k : Int) < (N : Int) := by omega
      have i2 : (k : Int) < 8 := by omega
      obtain ⟨xs, hrd, hea⟩ := HB.out
      obtain ⟨d, x, rfl, hdB, hx, x0⟩ := hrd.at_ (k := k) (by have := HN.out; omega)
      obtain ⟨b, hbk⟩ : ∃ b, bs[k]? = some b := ⟨_, List.getElem?_eq_getElem (by have := HN.out; omega)⟩
      obtain ⟨hpt, hcap, hbl⟩ := hea k x b hx hbk
      have hBB := HBB.out
      have hbel := HS.out.bel
      have y0 : wr.cell? (d.add k) = some x := (hbel.cell (by rw [block_of_add]; omega)).trans x0
      have hcell : ∀ q : Addr, q.block < B → wr.cell? q = w.cell? q := fun q hq => hbel.cell (by omega)
      have sk : IntKind.i64.wrap ((k : Int) + 1) = ((k + 1 : Nat) : Int) := (IntWalk.i64_in _ (by omega)).trans (by omega)
      have HBT := Lib.hid (batch_any2 wr B x b (hpt.keep hcell) (by omega) hbl (fun d' m c' e j A' n' c'' hj hc => by
        have hpx := hpt
        obtain ⟨Ax, cx, vx, ex, -, rx, -⟩ := hpx
        rw [ex] at e
        injection e with e1 e2 e3
        obtain ⟨ad, had, hadB, -⟩ := rx.2 (by omega)
        rw [had] at e1
        injection e1 with e1
        subst e1
        exact hcap ad m c' (by rw [ex, had, e2, e3]) j A' n' c'' hj (by rw [← hcell _ (by rw [block_of_add]; exact hadB)]; exact hc)))
      have hbb := HBITS.out b (List.mem_of_getElem? hbk)
      have hpf : ∀ q ∈ H.taken (batchP b), PtFit q := fun q hq => by
        obtain ⟨h1, h2, h3, h4⟩ := taken_mem hq
        unfold big at h3 h4
        unfold batchP at h1
        obtain ⟨q0, hq0, rfl⟩ := List.mem_map.1 h1
        exact ⟨h2, h3, h4, hbb q0 (List.mem_of_mem_take hq0)⟩
      have HPF := Lib.hid hpf
      clear hrd hea hx hbk hpt hcap hbl x0 hdB hcell hbel hbb hpf
      go_wp2_with fail
      refine HBT.out.mono ?_
      rintro e w2 ⟨v2, rfl, hb2, hp2, hv2⟩
      have hn20 := batch_len b
      have hl8 : ∀ q ∈ batchP b, q.1.length ≤ 100000 := fun q hq => by
        unfold batchP at hq
        obtain ⟨q0, -, rfl⟩ := List.mem_map.1 hq
        show (q0.1.take 8).length ≤ 100000
        rw [List.length_take]; omega
      obtain ⟨pts, hpts⟩ : ∃ l, l = batchP b := ⟨_, rfl⟩
      rw [← hpts] at hp2 hn20 hl8 HPF
      have hS2 := HS.out.below hb2
      have hT2 := HT.out.below_ hS2.bel
      have hs2 : wr.heap.size ≤ w2.heap.size := hb2.size
      obtain ⟨A9, c9, rfl⟩ : ∃ A2 c2, v2 = .slice A2 pts.length c2 := by obtain ⟨A2, c2, _, e, -⟩ := hp2; exact ⟨A2, c2, e⟩
      obtain ⟨rec, hrec⟩ : ∃ rec, rec = recB (H.taken pts) := ⟨_, rfl⟩
      have hrl := recB_len (H.taken pts) (fun q hq => (HPF.out q hq).fit)
      have htl := taken_len pts H
      have HRC := Lib.hid (record_any w2 Fa (fun k => k < B) pa (20 * k) w2.heap.size H _ pts hS2.a hp2 hT2 ⟨hT2.lt, Nat.le_refl _⟩ (fun j hj => (hS2.fa j hj).2) (by omega) (by omega))
      rw [← hrec] at hrl HRC
      obtain ⟨L, hL⟩ : ∃ L, L = rec.length := ⟨_, rfl⟩
      rw [← hL] at hrl HRC
      have hL1 : (H.taken pts).length ≤ L := by omega
      have hL2 : L ≤ 4000000 := by omega
      have HS2 := Lib.hid hS2
      have HP2 := Lib.hid hp2
      have HT2 := Lib.hid hT2
      have HV2 := Lib.hid hv2
      have HL8 := Lib.hid hl8
      have HRE := Lib.hid hrec
      have HLE := Lib.hid hL
      obtain ⟨nP, hnP⟩ : ∃ n, n = pts.length := ⟨_, rfl⟩
      have HNP := Lib.hid hnP
      rw [← hnP] at HRC HP2 HV2 hn20 ⊢
      clear hb2 hp2 hv2 hl8 hT2 hS2 HBT y0 hpts hnP hrec hL hrl htl
      go_wp2_with fail
      refine HRC.out.mono ?_
      rintro e w3 ⟨ro, rfl, hro, hb3⟩
      obtain ⟨A3, c3, e3⟩ := own_slice hro
      subst e3
      have hS3 := HS2.out.below hb3
      have hs3 : w2.heap.size ≤ w3.heap.size := hb3.size
      have hp3 := HP2.out.keep (w' := w3) fun q hq => hb3.cell hq
      have hT3 := HT2.out.below_ hb3
      have HC := Lib.hid (show Calls Tryz.prog 14 #[.pointer (some ⟨pa, 0, none⟩), .slice A9 nP c9] w3 (CommitPost w3 Fa pa (20 * k) H pts) from
        commit_any w3 Fa pa (20 * k) w2.heap.size H _ pts hS3.a (hp3.q fun j hj hf => by have := (hS3.fa j hf).1; omega) hT3 ⟨HT2.out.lt, hs3⟩ (fun j hj => (hS3.fa j hj).2) (by rw [← HNP.out]; omega) (by omega))
      have HRO := Lib.hid hro
      have HS3 := Lib.hid hS3
      have HP3 := Lib.hid hp3
      have HT3 := Lib.hid hT3
      clear hro hb3 hS3 hp3 hT3 HRC
      go_wp2_with fail
      refine HC.out.mono ?_
      rintro e w4 ⟨rfl, hd4, hc4⟩
      have hS4 := HS3.out.chgA hd4 hc4
      have hs4 : w3.heap.size ≤ w4.heap.size := hc4.size
      have hFa : ∀ j, Fa j → j < wr.heap.size := fun j hj => (HS.out.fa j hj).2
      have hFb : ∀ j, Fb j → j < wr.heap.size := fun j hj => (HS.out.fb j hj).2
      have hFr : ∀ j, Fr j → j < wr.heap.size := fun j hj => (HS.out.fr j hj).2
      have hp4 := (HP3.out.keepQ (w' := w4) (fun j hj hlt => hc4.block j (by omega) fun hf => by have := HV2.out j hj; have := hFa j hf; omega) (fun j hj hlt => hc4.block j (by omega) fun hf => by have := (HS.out.fa j hf).1; omega)).q (R := fun j => ¬ Fr j) fun j hj hf => by have := (HS.out.fr j hf).1; omega
      have HTK := Lib.hid (show Calls Tryz.prog 56 #[.pointer (some ⟨pr, 0, none⟩), .slice A9 nP c9] w4 (fun e w' => (∃ u, e = .returned u) ∧ RHd w' (Grs Fr w4 w') pr (20 * k + nP) (H.take pts).2 ∧ Chg Fr w4 w') from by
        have h1 := rtake_any w4 Fr pr (20 * k) w2.heap.size H (.slice A9 nP c9) pts hS4.r hp4 (fun j hj hf => by have := HV2.out j hj; have := hFr j hf; omega) (by omega) (fun j hj => (hS4.fr j hj).2) (by rw [← HNP.out]; omega) HL8.out
        rw [← HNP.out] at h1
        exact h1)
      have HO4 := Lib.hid (own_blk HRO.out fun j hj => hc4.block j (HRO.out.lt j hj).2 fun hf => by have := (HRO.out.lt j hj).1; have := hFa j hf; omega)
      have HS4 := Lib.hid hS4
      have HFA := Lib.hid hFa
      have HFB := Lib.hid hFb
      have HFR := Lib.hid hFr
      clear hd4 hc4 hS4 hp4 hFa hFb hFr HC
      go_wp2_with fail
      refine HTK.out.mono ?_
      rintro e w5 ⟨⟨u5, rfl⟩, hd5, hc5⟩
      have hS5 := HS4.out.chgR hd5 hc5
      have hs5 : w4.heap.size ≤ w5.heap.size := hc5.size
      have HO5 := Lib.hid (own_blk HO4.out fun j hj => hc5.block j (HO4.out.lt j hj).2 fun hf => by have := (HO4.out.lt j hj).1; have := HFR.out j hf; omega)
      have HL5 := Lib.hid (lend_any w5 A3 L c3 rec (Reads.of_own HO5.out) (by omega))
      have HS5 := Lib.hid hS5
      clear hd5 hc5 hS5 HTK
      go_wp2_with fail
      refine HL5.out.mono ?_
      rintro e w6 ⟨g, cg, rfl, hlo, hb6⟩
      have hS6 := HS5.out.below hb6
      have hs6 : w5.heap.size ≤ w6.heap.size := hb6.size
      obtain ⟨hg5, hg6⟩ := hlo.lt g rfl
      have hcg : L ≤ cg := by have := own_capv hlo; omega
      have hpre : Reads w6 w6.heap.size 1 (some ⟨g, 0, none⟩) L (bytesV rec) := by
        have h1 := reads_prefix (m := L) (Reads.of_own hlo) (by omega)
        rw [HLE.out, List.take_left] at h1
        rw [HLE.out]
        exact h1
      have HRP := Lib.hid (show Calls Tryz.prog 58 #[.pointer (some ⟨pb, 0, none⟩), .slice (some ⟨g, 0, none⟩) L cg] w6 (fun e w' => e = .returned (.int .i64 0) ∧ HdAt w' (Grs Fb w6 w') pb (20 * k + nP) (H.take pts).2 ∧ Chg Fb w6 w') from by
        rw [HLE.out, HNP.out]
        rw [HLE.out] at hpre
        refine (replay_any w6 Fb pb (20 * k) H (some ⟨g, 0, none⟩) cg rec hS6.b hpre (by rw [← HLE.out]; exact hcg) (HT.out.below_ hS6.bel) (HT.out.below_ hS6.bel).lt (fun j hj => (hS6.fb j hj).2) (by rw [← HLE.out]; omega) (fun l hl => ?_) (by omega)).mono fun e w' h => ?_
        · have h1 := pointsP_len _ _ _ _ hl
          rw [← HLE.out] at h1
          simp at h1
          have h2 := recB_len (H.taken pts) (fun q hq => (HPF.out q hq).fit)
          rw [HRE.out, pointsP_rec (H.taken pts) _ [] HPF.out (by omega)] at hl
          injection hl with hl
          rw [← hl, List.nil_append]
          have h3 := taken_len pts H
          have h4 := HNP.out
          omega
        · have h2 := recB_len (H.taken pts) (fun q hq => (HPF.out q hq).fit)
          exact replay_rec HPF.out (by omega) (HRE.out ▸ h))
      have HO6 := Lib.hid (own_below HO5.out hb6)
      have HLO := Lib.hid hlo
      have HS6 := Lib.hid hS6
      clear hlo hb6 hS6 hpre HL5
      go_wp2_with fail
      refine HRP.out.mono ?_
      rintro e w7 ⟨rfl, hd7, hc7⟩
      have hS7 := HS6.out.chgB hd7 hc7
      have hs7 : w6.heap.size ≤ w7.heap.size := hc7.size
      have ho7 := own_blk HO6.out fun j hj => hc7.block j (HO6.out.lt j hj).2 fun hf => by have := (HO6.out.lt j hj).1; have := HFB.out j hf; omega
      have hl7 := own_blk HLO.out fun j hj => hc7.block j (HLO.out.lt j hj).2 fun hf => by have := (HLO.out.lt j hj).1; have := HFB.out j hf; omega
      have HIN := Lib.hid (show Calls Tryz.prog 59 #[.slice (some ⟨g, 0, none⟩) L cg, .slice A3 L c3] w7 (fun e w' => e = .returned (.bool true) ∧ w7.grownBy w' (some g)) from by
        rw [HLE.out] at ho7 hl7 ⊢
        exact intact_any w7 A3 c3 g cg w7.heap.size w5.heap.size rec (Reads.of_own ho7) hl7 (by rw [← HLE.out]; omega))
      have HS7 := Lib.hid hS7
      clear hd7 hc7 hS7 ho7 hl7 HRP
      go_wp2_with fail
      refine HIN.out.mono ?_
      rintro e w8 ⟨rfl, hg8⟩
      have hS8 := HS7.out.spoil hg8 (by omega) (fun hf => by have := hf.2; omega) (fun hf => by
        rcases hf.1 with h1 | h1
        · have := HFB.out g h1; omega
        · omega) (fun hf => by have := hf.2; omega)
      have HS8 := Lib.hid (show RecoR w pa pb pr N (.int .i64 ((k + 1 : Nat) : Int)) w8 from ⟨k + 1, _, _, _, _, rfl, by omega, by omega, hS8.mono (by have := HNP.out; omega) (by omega) (by omega)⟩)
      clear hg8 hS8 HIN
      go_wp2
      exact ⟨HS8.out, by simp only [intOf]; omega⟩
    · have hx : (¬ k < N) ∨ (k < N ∧ ¬ k < 8) := by omega
      have HSA := Lib.hid (select_any wr Fa pa (20 * k) H (.slice none 0 0) 0 (fun _ => true) (-9007199254740993) 9007199254740992 HS.out.a (fun _ => True) (rdy_nil wr) (fun _ _ => trivial) (by omega) (fun j hj => (HS.out.fa j hj).2))
      obtain ⟨ss, hss⟩ : ∃ ss, ss = H.sel (fun _ => true) (-9007199254740993) 9007199254740992 := ⟨_, rfl⟩
      have hssl : ss.length ≤ 100000 := by rw [hss]; have h1 := sel_len H (fun _ => true) (-9007199254740993) 9007199254740992; have h2 := HS.out.a.lens.1; omega
      have HSL := Lib.hid (show ∀ s ∈ ss, s.1.length ≤ 100000 ∧ s.2.length ≤ 100000 by rw [hss]; exact sel_lens2 HS.out.a.ok HS.out.a.lens.2 (by omega))
      have HSS := Lib.hid hss
      rw [← hss] at HSA
      obtain ⟨n, hn⟩ : ∃ n, n = 20 * k := ⟨_, rfl⟩
      rw [← hn] at HS
      have hn160 : n ≤ 160 := by omega
      clear hss hn
      rcases hx with h1 | ⟨h1, h2⟩
      case' inl =>
        have i1 : ¬ (k : Int) < (N : Int) := by omega
      case' inr =>
        have i1 : (k : Int) < (N : Int) := by omega
        have i2 : ¬ (k : Int) < 8 := by omega
      all_goals
        go_wp2_with fail
        refine HSA.out.mono ?_
        intro e w1 hs1
        obtain ⟨vx, rfl, hb1, hvx⟩ := hs1.rd
        clear hs1
        have HVX := Lib.hid hvx
        have hS1 := HS.out.below hb1
        have HSB := Lib.hid (select_any w1 Fb pb n H (.slice none 0 0) 0 (fun _ => true) (-9007199254740993) 9007199254740992 hS1.b (fun _ => True) (rdy_nil w1) (fun _ _ => trivial) (by omega) (fun j hj => (hS1.fb j hj).2))
        rw [← HSS.out] at HSB
        have HS1 := Lib.hid hS1
        have hs1 : wr.heap.size ≤ w1.heap.size := hb1.size
        clear hb1 hvx hS1 HSA
        go_wp2_with fail
        refine HSB.out.mono ?_
        intro e w2 hs2
        obtain ⟨vy, rfl, hb2, hvy⟩ := hs2.rd
        clear hs2
        have HVY := Lib.hid hvy
        have hS2 := HS1.out.below hb2
        have HSR := Lib.hid (rsel_any w2 Fr pr n H (-9007199254740993) 9007199254740992 hS2.r (by omega))
        rw [← HSS.out] at HSR
        have HS2 := Lib.hid hS2
        have hs2 : w1.heap.size ≤ w2.heap.size := hb2.size
        have HVX2 := Lib.hid (HVX.out.below hb2 (Nat.le_refl _))
        clear hb2 hvy hS2 HSB
        go_wp2_with fail
        refine HSR.out.mono ?_
        rintro e w3 ⟨vz, rfl, hvz, hb3⟩
        have hS3 := HS2.out.below hb3
        have hs3 : w2.heap.size ≤ w3.heap.size := hb3.size
        have HVX3 := Lib.hid (HVX2.out.below hb3 hs2)
        have HVY3 := Lib.hid (HVY.out.below hb3 (Nat.le_refl _))
        have HK1 := Lib.hid (kseries_any w3 _ _ vx vz ss HVX3.out hvz hssl HSL.out)
        have HK2 := Lib.hid (fun q => kseries_any (w3.drewN q) _ _ vy vz ss HVY3.out hvz hssl HSL.out)
        obtain ⟨nw, hnw⟩ : ∃ nw, nw = H.newest := ⟨_, rfl⟩
        have HNA := Lib.hid (fun q => newest_any (w3.drewN q) pa nw (by obtain ⟨m, hm⟩ := hS3.a.blk; have h1 := hm.cell 1; rw [hnw]; exact h1))
        have HNB := Lib.hid (fun q => newest_any (w3.drewN q) pb nw (by obtain ⟨m, hm⟩ := hS3.b.blk; have h1 := hm.cell 1; rw [hnw]; exact h1))
        have HS3 := Lib.hid hS3
        clear hb3 hS3 hvz HSR hnw
        go_wp2_with fail
        refine HK1.out.mono ?_
        rintro e w4 ⟨rfl, q, rfl⟩
        clear HK1
        go_wp2_with fail
        refine (HK2.out q).mono ?_
        rintro e w4 ⟨rfl, q2, rfl⟩
        rw [World.drewN_drewN]
        obtain ⟨q3, hq3⟩ : ∃ q3, q3 = q + q2 := ⟨_, rfl⟩
        rw [← hq3]
        clear hq3 HK2
        go_wp2_with fail
        refine (HNA.out q3).mono ?_
        rintro e w4 ⟨rfl, hw4⟩
        replace hw4 := hw4.symm
        subst hw4
        go_wp2_with fail
        refine (HNB.out q3).mono ?_
        rintro e w4 ⟨rfl, hw4⟩
        replace hw4 := hw4.symm
        subst hw4
        clear HNA HNB
        have HS4 := Lib.hid (HS3.out.below (below_drewN (Below.refl _ w3) q3))
        have HX4 := Lib.hid (show SersRd (w3.drewN q3) w1.heap.size vx ss from HVX3.out)
        obtain ⟨w4, hw4⟩ : ∃ w4, w4 = w3.drewN q3 := ⟨_, rfl⟩
        rw [← hw4] at HS4 HX4 ⊢
        have hs4 : w3.heap.size ≤ w4.heap.size := by rw [hw4]; exact Nat.le_refl _
        clear hw4 HVX3 HVY3 HVX2 HVX HVY
        by_cases h5 : 500 < n2
        case' pos =>
          have i5 : (500 : Int) < (n2 : Int) := by omega
          have hcc := HC2.out
          have i6 : (500 : Int) ≤ (c2 : Int) := by omega
          have hrw := reads_prefix HRAW.out (m := 500) (by omega)
          obtain ⟨rw', hrw'⟩ : ∃ l, l = raw.take 500 := ⟨_, rfl⟩
          rw [← hrw'] at hrw
          have hlen : 500 = rw'.length := by rw [hrw', List.length_take, HRL.out]; omega
          have HRP := Lib.hid (show Calls Tryz.prog 58 #[.pointer (some ⟨pb, 0, none⟩), .slice A2 500 c2] w4 (ReplayPost w4 Fb pb n H rw') from by
            rw [hlen] at hrw ⊢
            exact replay_any w4 Fb pb n H A2 c2 rw' HS4.out.b ((hrw.below HS4.out.bel).more HS4.out.bel.size) (by omega) (HT.out.below_ HS4.out.bel) (HT.out.below_ HS4.out.bel).lt (fun j hj => (HS4.out.fb j hj).2) (by omega) (fun l hl => by have h1 := pointsP_len _ _ _ _ hl; simp at h1; omega) (by omega))
          have hl500 : rw'.length ≤ 500 := by omega
          clear hrw hrw' hlen hcc
          go_wp2_with fail
        case' neg =>
          have i5 : ¬ (500 : Int) < (n2 : Int) := by omega
          have hrw := HRAW.out
          obtain ⟨rw', hrw'⟩ : ∃ l, l = raw := ⟨_, rfl⟩
          rw [← hrw'] at hrw
          have hlen : n2 = rw'.length := by rw [hrw', HRL.out]
          have hcc := HC2.out
          have HRP := Lib.hid (show Calls Tryz.prog 58 #[.pointer (some ⟨pb, 0, none⟩), .slice A2 n2 c2] w4 (ReplayPost w4 Fb pb n H rw') from by
            rw [hlen] at hrw hcc h5 ⊢
            exact replay_any w4 Fb pb n H A2 c2 rw' HS4.out.b ((hrw.below HS4.out.bel).more HS4.out.bel.size) hcc (HT.out.below_ HS4.out.bel) (HT.out.below_ HS4.out.bel).lt (fun j hj => (HS4.out.fb j hj).2) (by omega) (fun l hl => by have h1 := pointsP_len _ _ _ _ hl; simp at h1; omega) (by omega))
          have hl500 : rw'.length ≤ 500 := by omega
          clear hrw hrw' hlen hcc
          go_wp2_with fail
        all_goals
          refine HRP.out.mono ?_
          intro e w5 hpost
          unfold ReplayPost at hpost
          clear HRP
          cases hpp : pointsP (rw'.length + 1) [] rw' with
          | none =>
            rw [hpp] at hpost
            obtain ⟨rfl, hb5⟩ := hpost
            have hS5 := HS4.out.below hb5
            have HSB := Lib.hid (select_any w5 Fb pb n H (.slice none 0 0) 0 (fun _ => true) (-9007199254740993) 9007199254740992 hS5.b (fun _ => True) (rdy_nil w5) (fun _ _ => trivial) (by omega) (fun j hj => (hS5.fb j hj).2))
            rw [← HSS.out] at HSB
            have HX5 := Lib.hid (HX4.out.below hb5 (by omega))
            have HS5 := Lib.hid hS5
            have hs5 : w4.heap.size ≤ w5.heap.size := hb5.size
            clear hb5 hS5 hpp
            go_wp2_with fail
            refine HSB.out.mono ?_
            intro e w6 hs6
            obtain ⟨vy6, rfl, hb6, hvy6⟩ := hs6.rd
            clear hs6
            have hS6 := HS5.out.below hb6
            have HX6 := Lib.hid (HX5.out.below hb6 (by omega))
            have HK1 := Lib.hid (kseries_any w6 _ _ vx vy6 ss HX6.out hvy6 hssl HSL.out)
            have HWK := Lib.hid (fun q => wakes_any (w6.drewN q) (HT.out.below_ (below_drewN hS6.bel q)))
            have HB6 := Lib.hid hS6.bel
            clear hb6 hvy6 hS6 HSB
            go_wp2_with fail
            refine HK1.out.mono ?_
            rintro e w7 ⟨rfl, q7, rfl⟩
            go_wp2_with fail
            refine (HWK.out q7).mono ?_
            rintro e w8 ⟨rfl, hb8⟩
            have HB8 := Lib.hid ((below_drewN HB6.out q7).trans (hb8.mono HB6.out.size))
            clear hb8 HK1 HWK
            go_wp2
            go_ret
            exact ⟨rfl, HB8.out⟩
          | some pts =>
            have hpl := pointsP_len _ _ _ _ hpp
            rw [List.length_nil] at hpl
            rw [hpp] at hpost
            obtain ⟨rfl, hd5, hc5⟩ := hpost
            have hS5 := HS4.out.chgB hd5 hc5
            have HSB := Lib.hid (select_any w5 (Grs Fb w4 w5) pb (n + pts.length) (H.take pts).2 (.slice none 0 0) 0 (fun _ => true) (-9007199254740993) 9007199254740992 hS5.b (fun _ => True) (rdy_nil w5) (fun _ _ => trivial) (by omega) (fun j hj => (hS5.fb j hj).2))
            have HB5 := Lib.hid hS5.bel
            clear hd5 hc5 hS5 hpp hpl
            go_wp2_with fail
            refine HSB.out.mono ?_
            intro e w6 hs6
            obtain ⟨vy6, rfl, hb6, -⟩ := hs6.rd
            clear hs6
            have HB6 := Lib.hid (HB5.out.trans (hb6.mono HB5.out.size))
            have HWK := Lib.hid (wakes_any w6 (HT.out.below_ HB6.out))
            clear hb6 HSB
            go_wp2_with fail
            refine HWK.out.mono ?_
            rintro e w8 ⟨rfl, hb8⟩
            have HB8 := Lib.hid (HB6.out.trans (hb8.mono HB6.out.size))
            clear hb8 HWK
            go_wp2
            go_ret
            exact ⟨rfl, HB8.out⟩
end Go.Proofs.YtbeeejpjnniejaaGreatDoor
