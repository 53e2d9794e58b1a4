/- The walk of WalGreat (3). -/
import Derived.Deep.RegionHeld3
import Derived.Laws.OwnMore
import Derived.Test.YtfchnpdgnhoffaaGreatDoorWOpenLaw
namespace Go.Proofs.YtfchnpdgnhoffaaGreatDoor
open Go.RowKit Go.Shelf Go.Maps

theorem u8_wrap (z : Int) : 0 ≤ IntKind.u8.wrap z ∧ IntKind.u8.wrap z < 256 := by
  have : IntKind.u8.wrap z = z % 256 := rfl
  rw [this]; omega
theorem bytes_set (bs : List UInt8) (k : Nat) (z : Int) : bytesV (bs.set k (UInt8.ofNat (IntKind.u8.wrap z).toNat)) = (bytesV bs).set k (.int .u8 (IntKind.u8.wrap z)) := by
  obtain ⟨h1, h2⟩ := u8_wrap z
  unfold bytesV
  rw [List.map_set]
  congr 2
  rw [UInt8.toNat_ofNat']
  omega
theorem zeros_bytes (n : Nat) : (madeCells #[Value.int .u8 0] n).toList = bytesV (List.replicate n 0) := by
  rw [toList_madeCells_one]
  unfold bytesV
  rw [List.map_replicate]
  rfl
def FillR (wr : World) (g n : Nat) (i : Value) (wx : World) : Prop :=
  ∃ (j : Nat) (bs : List UInt8), j ≤ n ∧ i = .int .i64 j ∧ bs.length = n ∧ wx.ownsRow wr.heap.size 5 1 (.slice (some ⟨g, 0, none⟩) n n) n (bytesV bs) ∧ Below wr.heap.size wr wx
def GreatR (w : World) (wp m : Nat) (i : Value) (wr : World) : Prop := ∃ k : Nat, k ≤ m ∧ k ≤ 12 ∧ i = .int .i64 k ∧ Cur w wp k LS.Free wr
/-- the region that draws its order: the row told, and the log's word, in whichever order -/
theorem great_app {w wr wx : World} {wp k : Nat} {u : Value} {b : Rec} (h : Cur w wp k LS.Free wr) (hk : k ≤ 80) (hbx : Below wr.heap.size wr wx) (hu : ByR wx (fun y => y = wr.heap.size) u b) (hb : b.length ≤ 40000) (hgl : wr.heap.size < wx.heap.size) :
    ∃ (p lp m0 d0 : Nat) (A0 : Option Addr) (x : Int), wx.cell? ⟨wp, 0, none⟩ = some (.pointer (some ⟨p, 0, none⟩)) ∧ wx.cell? ⟨wp, 1, none⟩ = some (.pointer (some ⟨lp, 0, none⟩)) ∧ wx.cell? ⟨wp, 2, none⟩ = some (.slice A0 m0 d0) ∧
      Calls Tryz.prog 11 #[.pointer (some ⟨p, 0, none⟩)] wx (fun e w' => e = .returned (.int .i64 x) ∧ w' = wx) ∧
      (∀ z, Calls Tryz.prog 13 #[.slice A0 m0 d0, u] (wx.drewN z) fun e w1 => ∃ A5 m5 d5, e = .returned (.slice A5 m5 d5) ∧ w1.cell? ⟨wp, 1, none⟩ = some (.pointer (some ⟨lp, 0, none⟩)) ∧
        Calls Tryz.prog 14 #[.pointer (some ⟨lp, 0, none⟩), u] w1 fun e w2 => ∃ er, e = .returned (.int .i64 er) ∧
          Calls Tryz.prog 12 #[.pointer (some ⟨wp, 0, none⟩), .slice A5 m5 d5, .int .i64 er, .int .i64 x] w2 fun e w3 => e = .returned (.bool true) ∧ Cur w wp (k + 1) LS.Free w3) ∧
      (∀ z, Calls Tryz.prog 14 #[.pointer (some ⟨lp, 0, none⟩), u] (wx.drewN z) fun e w1 => ∃ er, e = .returned (.int .i64 er) ∧ w1.cell? ⟨wp, 2, none⟩ = some (.slice A0 m0 d0) ∧
        Calls Tryz.prog 13 #[.slice A0 m0 d0, u] w1 fun e w2 => ∃ A5 m5 d5, e = .returned (.slice A5 m5 d5) ∧
          Calls Tryz.prog 12 #[.pointer (some ⟨wp, 0, none⟩), .slice A5 m5 d5, .int .i64 er, .int .i64 x] w2 fun e w3 => e = .returned (.bool true) ∧ Cur w wp (k + 1) LS.Free w3) := by
  obtain ⟨s, F, ⟨G, lp, p, Fl, vc, vm, vs, h1⟩, hs, hfree, h4, h5⟩ := h
  have hx := h1.below hbx
  obtain ⟨A0, m0, d0, hvc⟩ := recs_slice hx.cont
  subst hvc
  have hcnt : s.x.count ≤ 107 * k := (hx.log.dk.pb).count
  have hel := entL_len ⟨false, [b]⟩ (s.last + 1) 40000 (fun y hy => by rw [List.mem_singleton.1 hy]; exact hb)
  simp only [List.length_singleton] at hel
  obtain ⟨s', haf, hok, hct, hbad⟩ := LS.call hs (by omega) ⟨false, [b]⟩ (.inr rfl) ⟨by simp, fun y hy => by rw [List.mem_singleton.1 hy]; exact hb⟩ (by omega) (by omega)
  obtain ⟨a1, a2, a3, a4⟩ := after_log haf
  have htold := hct.told (from_ := (s.x.count : Int)) a1 a4 hbad
  rw [next_one] at a2 htold hct
  have hlast := hs.last
  have hcS := hs.cS
  have hsz := hbx.size
  have hfl : ∀ y, F y → y < wr.heap.size := h1.lt
  have hbw : Below w.heap.size w wx := h4.trans (hbx.mono h4.size)
  have h4s := hbw.size
  refine ⟨p, lp, m0, d0, A0, (s.x.count : Int), hx.blk.cell 0, hx.blk.cell 1, hx.blk.cell 2, dk_ops wx Fl p _ s.x hx.log.dk, fun z => ?_, fun z => ?_⟩
  · have hW := hx.drewN z
    refine (with_any (wx.drewN z) G _ _ u s.c b hW.cont (hu.drewN z) (by have := hcS.1; omega) (by omega)).mono ?_
    rintro e w1 ⟨v5, rfl, hv5, hb5⟩
    obtain ⟨A5, m5, d5, hve⟩ := recs_slice hv5
    subst hve
    have hW1 := hW.below hb5
    have hs5 := hb5.size
    have hs5' : wx.heap.size ≤ w1.heap.size := hs5
    refine ⟨A5, m5, d5, rfl, hW1.blk.cell 1, ?_⟩
    refine (log_append b u (fun y => y = wr.heap.size) w1 Fl lp p _ s.x s.c s.last s.fl hW1.log (fun y hy => hW1.lt y (hW1.sub y hy)) (by omega) (by omega) (hcS.sm (by omega)) ((hu.drewN z).below hb5) (fun y hy hf => by subst hy; have := hfl _ (h1.sub _ hf); omega) (by omega) (by omega)).mono ?_
    rintro e w2 ⟨rfl, hlog, hch⟩
    rw [← a1, ← a2, ← a3, ← a4] at hlog
    have h3 := hW1.logged (b := s') hch hlog
    refine ⟨_, rfl, ?_⟩
    have hd5 : ∀ y, (G y ∨ ((wx.drewN z).heap.size ≤ y ∧ y < w1.heap.size)) → ¬ F y := fun y hy hf => hy.elim (fun hy => h1.disj y hy hf) fun hy => by
      have := hfl y hf
      have h2 : wx.heap.size ≤ y := hy.1
      omega
    have hv2 := (RecsR.mono hv5 fun y hlt hy => (⟨hy, hlt⟩ : (G y ∨ ((wx.drewN z).heap.size ≤ y ∧ y < w1.heap.size)) ∧ y < w1.heap.size)).keep hch.size fun y hy hlt => hch.block y hlt fun hf => hd5 y hy.1 (h1.sub y hf)
    refine (calls_any w2 (New F w1 w2) _ _ wp _ s' s lp p (New Fl w1 w2) _ vm vs _ h3 (s.c ++ [b]) hv2 (fun y hy hf => hf.elim (hd5 y hy.1) fun hf => by have := hy.2; omega) _ (s.x.count : Int) htold (by have := hs.mL; omega) (by have := hs.sL; omega)).mono ?_
    rintro e w3 ⟨rfl, hp6⟩
    have hc2 := hch.weak (G := F) fun y hy => h1.sub y hy
    have hb1 : Below w.heap.size w w1 := (below_drewN hbw z).trans (hb5.mono h4s)
    exact ⟨rfl, Cur.post hp6 (hb1.trans (hc2.toBelow h5 hb1.size)) (fun y hy => hy.elim (h5 y) fun hy => by have := hb1.size; omega) hok (by omega) (free_call hfree hct)⟩
  · have hW := hx.drewN z
    refine (log_append b u (fun y => y = wr.heap.size) (wx.drewN z) Fl lp p _ s.x s.c s.last s.fl hW.log (fun y hy => hW.lt y (hW.sub y hy)) (by omega) (by omega) (hcS.sm (by omega)) (hu.drewN z) (fun y hy hf => by subst hy; have := hfl _ (h1.sub _ hf); omega) (by omega) (by omega)).mono ?_
    rintro e w1 ⟨rfl, hlog, hch⟩
    rw [← a1, ← a2, ← a3, ← a4] at hlog
    have h3 := hW.logged (b := s') hch hlog
    refine ⟨_, rfl, h3.blk.cell 2, ?_⟩
    have hu1 : ByR w1 (fun y => y = wr.heap.size) u b := (hu.drewN z).keep hch.size fun y hy hlt => hch.block y hlt fun hf => by subst hy; have := hfl _ (h1.sub _ hf); omega
    refine (with_any w1 _ _ _ u s.c b h3.cont hu1 (by have := hcS.1; omega) (by omega)).mono ?_
    rintro e w2 ⟨v5, rfl, hv5, hb5⟩
    obtain ⟨A5, m5, d5, hve⟩ := recs_slice hv5
    subst hve
    have hs1 := hch.size
    have hs1' : wx.heap.size ≤ w1.heap.size := hs1
    refine ⟨A5, m5, d5, rfl, ?_⟩
    refine (calls_any w2 (New F (wx.drewN z) w1) _ _ wp _ s' s lp p (New Fl (wx.drewN z) w1) _ vm vs _ (h3.below hb5) (s.c ++ [b]) hv5 (fun y hy hf => ?_) _ (s.x.count : Int) htold (by have := hs.mL; omega) (by have := hs.sL; omega)).mono ?_
    · rcases hy with hy | hy
      · exact h3.disj y hy hf
      · have := h3.lt y hf
        omega
    rintro e w3 ⟨rfl, hp6⟩
    have hc2 := hch.weak (G := F) fun y hy => h1.sub y hy
    have hb1 : Below w.heap.size w w1 := (below_drewN hbw z).trans (hc2.toBelow h5 h4s)
    exact ⟨rfl, Cur.post hp6 (hb1.trans (hb5.mono hb1.size)) (fun y hy => hy.elim (h5 y) fun hy => by have h2 : wx.heap.size ≤ y := hy.1; omega) hok (by omega) (free_call hfree hct)⟩
set_option maxRecDepth 100000 in
set_option maxHeartbeats 25600000 in
theorem great_any (w : World) (hS : SynW w) (A1 A2 : Option Addr) (c1 c2 : Nat) (l1 l2 : List Int) (hR1 : Reads w w.heap.size 1 A1 l1.length (l1.map (Value.int .i64))) (_hw1 : ∀ x ∈ l1, (Lit.int .i64 x).wf = true) (_hc1 : l1.length ≤ c1) (hm1 : l1.length ≤ maxLen)
    (hR2 : Reads w w.heap.size 1 A2 l2.length (l2.map (Value.int .i64))) (hc2 : l2.length ≤ c2) (_hm2 : l2.length ≤ maxLen) :
    Calls Tryz.prog 3 #[.slice A1 l1.length c1, .slice A2 l2.length c2] w fun e w' => e = .returned (.bool true) ∧ Below w.heap.size w w' := by
  obtain ⟨i5, hi5, hz50, hz51, hz52⟩ := info_parts info5
  have HI5 := Lib.hid hi5
  have HZ50 := Lib.hid hz50
  have HZ51 := Lib.hid hz51
  have HZ52 := Lib.hid hz52
  obtain ⟨n1, hn1⟩ : ∃ n, n = l1.length := ⟨_, rfl⟩
  obtain ⟨n2, hn2⟩ : ∃ n, n = l2.length := ⟨_, rfl⟩
  have hnl : n1 ≤ 9223372036854775807 := by unfold maxLen at hm1; omega
  have HN1 := Lib.hid hn1
  have HN2 := Lib.hid hn2
  have HR1 := Lib.hid (show Reads w w.heap.size 1 A1 n1 (intsV l1) by rw [hn1]; exact hR1)
  have HR2 := Lib.hid (show Reads w w.heap.size 1 A2 n2 (intsV l2) by rw [hn2]; exact hR2)
  have HC2 := Lib.hid hc2
  have HS := Lib.hid hS
  have h0w := hS.lt
  rw [← hn1, ← hn2]
  clear hi5 hz50 hz51 hz52 hn1 hn2 hR1 _hw1 _hc1 hm1 hR2 hc2 _hm2 hS
  go_enter Tryz.func3, Tryz.ntmps3
  go_wp2_with fail
  refine (begun_any w HS.out).mono ?_
  rintro e w1 ⟨wp, rfl, hwp, hat, hb1⟩
  have HC1 := Lib.hid ((ls0_cur hat hb1).turn (T' := LS.Free) fun s h => h.1)
  clear hat hb1
  go_wp2_with fail
  go_loopw [6] (fun i wr => GreatR w wp n1 i wr) (fun i _ => n1 - (intOf i).toNat)
  case atStart => exact ⟨0, Nat.zero_le _, Nat.zero_le _, rfl, HC1.out⟩
  case round =>
    obtain ⟨k, hk, hk20, rfl, hcur⟩ := hrel
    have HCU := Lib.hid hcur
    have hbw := hcur.world
    have HBW := Lib.hid hbw
    obtain ⟨wr0, hwr0⟩ : ∃ wr0, wr0 = wr := ⟨_, rfl⟩
    subst hwr0
    by_cases hlt : k < n1 ∧ k < 12
    · obtain ⟨hl1, hl2⟩ := hlt
      obtain ⟨ad, hA, hg, hcell⟩ := HR1.out.2 (by omega)
      subst hA
      have hkl : k < l1.length := by rw [← HN1.out]; exact hl1
      obtain ⟨z, hz⟩ : ∃ z, z = l1[k] := ⟨_, rfl⟩
      have d0 : wr0.cell? (ad.add k) = some (.int .i64 z) := (hbw.cell (p := ad.add k) (by rw [block_of_add]; exact hg)).trans (hcell k _ (by unfold intsV; rw [List.getElem?_map, List.getElem?_eq_getElem hkl, hz]; rfl))
      clear hz hcell hcur hbw
      go_wp2_with fail
      refine (keepwithin_any z 40000 wr0 (by decide) (by decide)).mono ?_
      rintro e w2 ⟨rfl, hw2⟩
      subst hw2
      obtain ⟨m, hm⟩ : ∃ m : Nat, (m : Int) = z % 40000 := ⟨(z % 40000).toNat, by omega⟩
      have hml : m ≤ 39999 := by omega
      rw [← hm]
      obtain ⟨w2, hmk, hown2, hgr2⟩ := run_makeSlice_full (P := Tryz.prog) (w := wr0) wr0.heap.size 25 5 i5 (.int .u8 0) 1 Tryz.underlying25 HI5.out HZ50.out HZ51.out .i64 .i64 m (by omega) (by rw [HZ52.out]; omega) (by unfold maxLen; omega) (Nat.le_refl _)
      rw [Nat.mul_one, show (Value.int .u8 0).cells = #[Value.int .u8 0] from rfl, zeros_bytes] at hown2
      have HOW2 := Lib.hid hown2
      have HB2 := Lib.hid (below_of_only hgr2)
      clear hown2 hgr2 hm d0
      go_wp2_with fail
      go_loopw [8] (fun i wx => FillR wr0 wr0.heap.size m i wx) (fun i _ => m - (intOf i).toNat)
      case atStart => exact ⟨0, _, Nat.zero_le _, rfl, List.length_replicate, HOW2.out, HB2.out⟩
      case round =>
        obtain ⟨j, bs, hj, rfl, hbl, hown, hbx⟩ := hrel
        have HOX := Lib.hid hown
        have HBX := Lib.hid hbx
        have HBL := Lib.hid hbl
        by_cases hlt2 : j < m
        · obtain ⟨q, q1⟩ : ∃ q : Int, wr.cell? ⟨wr0.heap.size, j, none⟩ = some (.int .u8 q) := ⟨_, own_byte_at hown j (by omega) hlt2⟩
          have kg := hown.frozenAt j
          have hjj : (j : Int) * (j : Int) ≤ 1600000000 := by
            have h1 : j * j ≤ 40000 * 40000 := Nat.mul_le_mul (by omega) (by omega)
            have h2 : ((j * j : Nat) : Int) = (j : Int) * (j : Int) := Int.natCast_mul j j
            omega
          have hj0 : 0 ≤ (j : Int) * (j : Int) := by
            have h2 : ((j * j : Nat) : Int) = (j : Int) * (j : Int) := Int.natCast_mul j j
            omega
          clear hown hbx hbl
          go_wp2
          refine ⟨⟨j + 1, bs.set j (UInt8.ofNat (IntKind.u8.wrap ?z).toNat), by omega, by go_num, by rw [List.length_set]; exact HBL.out, ?own, HBX.out.setCell (p := ⟨wr0.heap.size, j, none⟩) (Nat.le_refl _) _⟩, by simp [intOf]; omega⟩
          case own =>
            rw [bytes_set]
            exact (HOX.out.stored j _).1
        · have hu : ByR wr (fun y => y = wr0.heap.size) (.slice (some ⟨wr0.heap.size, 0, none⟩) m m) bs := by
            refine ⟨_, m, by rw [hbl], by omega, ?_, fun ad e _ => by injection e with e; rw [← e]⟩
            rw [hbl]
            exact Reads.of_own hown
          have hgl := (hown.lt wr0.heap.size rfl).2
          obtain ⟨p, lp, m0, d0, A0, x, c0, c1, c2, h11, hA, hB⟩ := great_app HCU.out (by omega) hbx hu (by rw [hbl]; omega) hgl
          have H11 := Lib.hid h11
          have HAA := Lib.hid hA
          have HBB := Lib.hid hB
          clear hown hbx hbl hu hgl h11 hA hB
          go_wp2_with fail
          refine H11.out.mono ?_
          rintro e w3 ⟨rfl, hw3⟩
          subst hw3
          go_upto_region 13 with fail
          go_region_with
            ((first
              | (go_at_call 12; refine (HZ.out).mono ?_; rintro e w6 ⟨rfl, hcu⟩; have HC6 := Lib.hid hcu; clear hcu)
              | (go_at_call 14; refine (HY14.out).mono ?_; rintro e w5 ⟨er, rfl, hz⟩; have HZ := Lib.hid hz; clear hz)
              | (go_at_call 13; refine (HY13.out).mono ?_; rintro e w5 ⟨A5, m5, d5, rfl, hz⟩; have HZ := Lib.hid hz; clear hz)
              | (go_at_call 13; refine (HAA.out 1).mono ?_; rintro e w4 ⟨A5, m5, d5, rfl, k1, hz⟩; have HY14 := Lib.hid hz; clear hz)
              | (go_at_call 14; refine (HBB.out 1).mono ?_; rintro e w4 ⟨er, rfl, k2, hz⟩; have HY13 := Lib.hid hz; clear hz)))
          all_goals
            go_wp2
            exact ⟨⟨k + 1, by omega, by omega, by go_num, HC6.out⟩, by simp [intOf]; omega⟩
    · have hend : (k < n1 → ¬ k < 12) := fun h1 h2 => hlt ⟨h1, h2⟩
      clear hlt hbw hcur
      by_cases g1 : k < n1
      case' pos =>
        have g2 := hend g1
        clear hend
      case' neg =>
        clear hend
      all_goals
        go_wp2_with fail
        refine (cur_same HCU.out (by omega)).mono ?_
        rintro e w4 ⟨rfl, hcur4⟩
        obtain ⟨p, hp, hcr⟩ := hcur4.disk (by omega)
        have HCR := Lib.hid hcr
        have HRW := Lib.hid ((HR2.out.below hcur4.world).more (B' := w4.heap.size) hcur4.world.size)
        clear hcur4 hcr
        go_wp2_with fail
        refine (HCR.out _ A2 n2 c2 l2 (fun _ => True) ⟨0, rfl⟩ HN2.out HRW.out (by rw [HN2.out]; exact HC2.out) fun _ _ _ _ => trivial).mono ?_
        rintro e w6 ⟨rfl, hlost⟩
        have HLO := Lib.hid hlost
        clear hlost
        go_wp2_with fail
        refine (lost_opened HLO.out (by omega)).mono ?_
        rintro e w8 ⟨rfl, htold⟩
        have HTO := Lib.hid (show Told2 w wp k (fun _ => True) w8 from htold)
        clear htold
        go_wp2_with fail
        refine (told_same HTO.out (by omega)).mono ?_
        rintro e w9 ⟨rfl, hb9⟩
        have HB9 := Lib.hid hb9
        clear hb9
        go_wp2_with fail
        refine (wakes_any w9 (HS.out.below HB9.out h0w)).mono ?_
        rintro e w10 ⟨rfl, hb10⟩
        have HB10 := Lib.hid hb10
        clear hb10
        go_wp2
        go_ret
        exact ⟨rfl, HB9.out.trans (HB10.out.mono HB9.out.size)⟩
end Go.Proofs.YtfchnpdgnhoffaaGreatDoor
