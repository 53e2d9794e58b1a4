/- The walk of (*Log).find (42). The log in memory; Open (24), Count (23), Failed (28), Bytes (31). The statements' small functions over rows: rows (20), clip (21), last (22). The walk of with (13): a row with one record more; the old records are shared. -/
import Derived.Test.YtfchnpdgnhoffaaGreatDoorWUnentry
import Derived.Test.YtfchnpdgnhoffaaGreatDoorJ12WCommit
namespace Go.Proofs.YtfchnpdgnhoffaaGreatDoor
open Go.RowKit Go.Shelf Go.Maps

theorem info22 : (Tryz.prog.info? 3).map (fun i => (i.zero, i.size, i.bytes)) = some (some (.int .i64 0), 1, 8) := by kernel_rfl
def NumR (w : World) (x : PS) (l : List Nm) (v i : Value) (wr : World) : Prop :=
  ∃ (k : Nat) (u : Value), k ≤ l.length ∧ u = v ∧ i = .int .i64 k ∧ wr.ownsRow w.heap.size 3 1 u (numsP x (l.take k)).length ((numsP x (l.take k)).map (Value.int .i64)) ∧ Below w.heap.size w wr
theorem below_drew {w w' : World} (h : Below w.drew.heap.size w.drew w') : Below w.heap.size w w' := ⟨h.os, h.tape, h.output, h.size, h.block⟩
theorem grown_below {a b c : World} {row : Option Nat} (h : a.grownBy b row) (k : Below b.heap.size b c) : a.grownBy c row := only_trans h (only_of_below k row)
theorem below_grown {a b c : World} {row : Option Nat} (h : Below a.heap.size a b) (k : b.grownBy c row) : a.grownBy c row := only_trans (only_of_below h row) k
theorem grown_new {a b c : World} {row r2 : Option Nat} (h : a.grownBy b row) (k : b.grownBy c r2) (hr : ∀ y, r2 = some y → a.heap.size ≤ y) : a.grownBy c row :=
  ⟨k.os.trans h.os, k.tape.trans h.tape, k.output.trans h.output, Nat.le_trans h.size k.size, fun i hi hne => (k.block i (Nat.lt_of_lt_of_le hi h.size) (fun e => by have := hr i e.symm; omega)).trans (h.block i hi hne)⟩
theorem recs_set {w : World} {base g : Nat} {v : Value} {l : List Rec} (h : RecsN w base v l) (hg : g < base) (i : Nat) (u : Value) : RecsN (w.setCell ⟨g, i, none⟩ u) base v l := by
  obtain ⟨vs, ho, hv⟩ := h
  exact ⟨vs, ownsRow_setCell_below ho (by exact hg) _, hv.1, fun j u b e1 e2 => ownsRow_setCell_below (hv.2 j u b e1 e2) (by exact hg) _⟩
theorem ent_recs (e : Ent) (n : Nat) : (recsL e.recs).length ≤ (entL e n).length := by
  show _ ≤ ((kindB e.all :: (nameL n ++ recsL e.recs)) ++ fourL _).length
  rw [List.length_append, List.length_cons, List.length_append]
  omega
def FindR (w4 : World) (lp p : Nat) (E : Nat → Option Ent) (ns : List Nat) (b i : Value) (wr : World) : Prop :=
  ∃ (k : Nat) (c : List Rec) (last : Nat) (vc : Value), k ≤ ns.length ∧ (ns.take k).foldl (stepE E) ([], 0) = (c, last) ∧ b = .bool (decide (last = 0)) ∧ i = .int .i64 k ∧
    Blk wr lp 71 #[.pointer (some ⟨p, 0, none⟩), vc, .int .i64 (last : Int), .bool false] ∧ RecsN wr w4.heap.size vc c ∧ w4.grownBy wr (some lp) ∧ last ≤ 99 ∧ c.length ≤ 50000 * k
/-- the log as find leaves it -/
def LogFound (w : World) (lp p : Nat) (c : List Rec) (last : Nat) (w' : World) : Prop :=
  ∃ vc, Blk w' lp 71 #[.pointer (some ⟨p, 0, none⟩), vc, .int .i64 (last : Int), .bool false] ∧ RecsN w' w.heap.size vc c ∧ w.grownBy w' (some lp)
set_option maxRecDepth 100000 in
set_option maxHeartbeats 12800000 in
theorem find_any (w : World) (F : Nat → Prop) (p n lp : Nat) (x : PS) (N m : Nat) (E : Nat → Option Ent) (c : List Rec) (last : Nat) (hd : Dk w F p n x) (hn : n ≤ 10000) (hlp : Blk w lp 71 #[.pointer (some ⟨p, 0, none⟩), .slice none 0 0, .int .i64 0, .bool false]) (hF : ¬ F lp) (hS : SynW w) (hl0 : lp ≠ 0)
    (hsay : Says x.files N x.dir E m) (hm : m ≤ 99) (hk : ∀ n e, E n = some e → (dget x.kept (nameL n)).isSome = true) (hfb : ∀ y ∈ x.files, y.1.length ≤ 50000) (ht : tell E m = (c, last)) :
    Calls Tryz.prog 42 #[.pointer (some ⟨lp, 0, none⟩)] w fun e w' => e = .returned (.tuple #[]) ∧ LogFound w lp p c last w' := by
  obtain ⟨i3, hi3, hz30, hz31, hz32⟩ := info_parts info3
  have HI3 := Lib.hid hi3
  have HZ30 := Lib.hid hz30
  have HZ31 := Lib.hid hz31
  have HZ32 := Lib.hid hz32
  obtain ⟨i25, hi25, hz250, hz251, hz252⟩ := info_parts info25
  have HI25 := Lib.hid hi25
  have HZ250 := Lib.hid hz250
  have HZ251 := Lib.hid hz251
  have HZ252 := Lib.hid hz252
  have c0 : w.cell? ⟨lp, 0, none⟩ = some (.pointer (some ⟨p, 0, none⟩)) := hlp.cell 0
  have hrd := hd.rdir
  have hsrt := numsP_sorted hsay hm hrd.1 hk
  have hnames : ∀ nm ∈ x.list preL, nm = draftL ∨ ∃ n, 1 ≤ n ∧ n < 100 ∧ nm = nameL n := fun nm hnm => by
    obtain ⟨⟨f, hf⟩, -⟩ := mem_list.1 hnm
    rcases hsay.names _ hf with h1 | ⟨k, h1, h2, h3⟩
    · exact .inl h1
    · exact .inr ⟨k, h1, by omega, h3⟩
  have hll : (x.list preL).length ≤ 10000 := by
    unfold PS.list begN
    rw [List.length_mergeSort]
    refine Nat.le_trans (List.length_filter_le _ _) ?_
    rw [List.length_map]
    exact Nat.le_trans hd.pb.dirL hn
  have hdl : x.durable.length ≤ 10000 := by
    unfold PS.durable
    rw [List.length_mergeSort, List.length_map]
    exact Nat.le_trans hd.pb.keptL hn
  have HD := Lib.hid hd
  have HLP := Lib.hid hlp
  have HS := Lib.hid hS
  have HSAY := Lib.hid hsay
  have HSRT := Lib.hid hsrt
  have HNM := Lib.hid hnames
  have HFB := Lib.hid hfb
  have HT := Lib.hid ht
  have hlpl := hlp.lt
  have h0w := hS.lt
  clear hi3 hz30 hz31 hz32 hi25 hz250 hz251 hz252 hrd hd hlp hS hsay hsrt hnames hfb ht hk
  go_enter Tryz.func42, Tryz.ntmps42
  go_wp2_with fail
  refine (dk_durable w F p n x HD.out hn).mono ?_
  rintro e w1 ⟨v1, rfl, hv1, hb1⟩
  have c1 : w1.cell? ⟨lp, 0, none⟩ = some (.pointer (some ⟨p, 0, none⟩)) := (hb1.cell (p := ⟨lp, 0, none⟩) hlpl).trans c0
  have HV1 := Lib.hid hv1
  have HB1 := Lib.hid hb1
  clear hv1 hb1
  go_wp2_with fail
  refine (dk_list w1 F p n x ⟨#[119, 97, 108, 47]⟩ (HD.out.below HB1.out) hn).mono ?_
  rintro e w2 ⟨v2, rfl, hv2, hb2⟩
  rw [show (⟨#[119, 97, 108, 47]⟩ : ByteArray).data.toList = preL from rfl] at hv2
  obtain ⟨L, hL⟩ : ∃ L, L = x.list preL := ⟨_, rfl⟩
  rw [← hL] at hv2 hll HNM HSRT
  obtain ⟨nl, hnl⟩ : ∃ nl, nl = L.length := ⟨_, rfl⟩
  rw [← hnl] at hv2 hll
  have HNL := Lib.hid hnl
  have HV2 := Lib.hid hv2
  have HB2 := Lib.hid hb2
  have HB02 := Lib.hid (HB1.out.trans (hb2.mono HB1.out.size))
  have HV12 := Lib.hid (own_keep HV1.out fun k _ hlt => hb2.block k hlt)
  obtain ⟨A2, d2, hv2e⟩ := own_slice hv2
  subst hv2e
  have HR2 := Lib.hid (Reads.of_own hv2)
  clear hL hnl hv2 hb2
  go_wp2_with fail
  go_loopw [3, 27] (fun v i wr => NumR w2 x L v i wr) (fun _ i _ => nl - (intOf i).toNat)
  case atStart => exact ⟨0, _, Nat.zero_le _, rfl, rfl, World.ownsRow_nil _ _ _ _, Below.refl _ _⟩
  case round =>
    obtain ⟨k, u, hk, hu, rfl, ho, hb⟩ := hrel
    subst hu
    have hk : k ≤ nl := by rw [HNL.out]; exact hk
    have HO := Lib.hid ho
    have HB := Lib.hid hb
    have hsz := hb.size
    have hs02 := HB02.out.size
    clear ho hb
    by_cases hlt : k < nl
    · obtain ⟨ad, hA, hg, hcell⟩ := HR2.out.2 (by omega)
      subst hA
      have hkl : k < L.length := by rw [← HNL.out]; exact hlt
      obtain ⟨nm, hnm⟩ : ∃ nm, nm = L[k] := ⟨_, rfl⟩
      have d0 : wr.cell? (ad.add k) = some (.string (nmBA nm)) := by
        refine (HB.out.cell (p := ad.add k) (by rw [block_of_add]; exact hg)).trans ?_
        rw [hnm]
        exact hcell k _ (nm_of_str hkl)
      have hSN := numsP_snoc x (L.take k) nm
      have hTK : L.take (k + 1) = L.take k ++ [nm] := by rw [hnm]; exact List.take_succ_eq_append_getElem hkl
      rw [← hTK] at hSN
      have hlen := numsP_len x (L.take k)
      rw [List.length_take] at hlen
      have HSN := Lib.hid hSN
      have hcase := HNM.out nm (by rw [hnm]; exact List.getElem_mem _)
      obtain ⟨ns, hns⟩ : ∃ ns, ns = numsP x (L.take k) := ⟨_, rfl⟩
      rw [← hns] at HO HSN hlen
      obtain ⟨q, hqe⟩ : ∃ q, q = ns.length := ⟨_, rfl⟩
      rw [← hqe] at HO hlen
      have hql : q ≤ 10000 := by omega
      have HQ := Lib.hid hqe
      obtain ⟨A3, d3, hu3⟩ := own_slice HO.out
      subst hu3
      clear hcell hnm hSN hTK hlen hns hqe hkl
      rcases hcase with rfl | ⟨z, hz1, hz2, rfl⟩
      · have hS2 : SynW wr := HS.out.below (HB02.out.trans (HB.out.mono hs02)) h0w
        have HSd := Lib.hid hS2
        clear hS2
        go_wp2_with fail
        refine (number_draft wr HSd.out).mono ?_
        rintro e w4 ⟨rfl, hb4⟩
        have HB4 := Lib.hid (HB.out.trans (hb4.mono hsz))
        have HO4 := Lib.hid (own_keep HO.out fun k _ hlt => hb4.block k hlt)
        clear hb4
        go_wp2
        refine ⟨⟨k + 1, _, by rw [← HNL.out]; omega, rfl, by go_num, ?_, HB4.out⟩, by simp [intOf]; omega⟩
        rw [HSN.out, show numOf x draftL = none by unfold numOf; rw [numL_draft]]
        rw [Option.toList_none, List.append_nil, ← HQ.out]
        exact HO4.out
      · go_wp2_with fail
        refine (number_name z hz1 hz2 wr).mono ?_
        rintro e w4 ⟨rfl, hb4⟩
        have HB4 := Lib.hid (HB.out.trans (hb4.mono hsz))
        have HO4 := Lib.hid (own_keep HO.out fun k _ hlt => hb4.block k hlt)
        have hs4 := hb4.size
        clear hb4
        have HV14 := Lib.hid (own_keep HV12.out fun k _ hlt => HB4.out.block k hlt)
        go_wp2_with fail
        refine (contains_any w4 _ v1 x.durable (nameL z) HV14.out (by omega)).mono ?_
        rintro e w5 ⟨rfl, rfl⟩
        by_cases hmem : nameL z ∈ x.durable
        · rw [decide_eq_true hmem]
          have HM := Lib.hid (show numOf x (nameL z) = some (z : Int) by unfold numOf; rw [numL_name hz1 hz2]; exact if_pos hmem)
          clear hmem
          go_wp2_with (at_builtin; go_loud (refine wpList_append_any _ rfl (.tmp 42) (.tmp 44) 22 rfl w2.heap.size 3 i3 (.int .i64 0) 1 8 Tryz.underlying22 HI3.out HZ30.out HZ31.out HZ32.out rfl (by omega) (.slice A3 q d3) q (ns.map (Value.int .i64)) rfl (HO4.out.alloc _) (w5.heap.size + 1) (some ⟨w5.heap.size, 0, none⟩) 1 1 [.int .i64 (z : Int)] rfl (reads_new1 _ _ _) (by intro u hu; rw [List.mem_singleton.1 hu]; rfl) (by simp [maxLen]; omega) (by omega) (by simp; omega) ?_; intro v6 w6 hown6 hgrow6 _; have HW6 := Lib.hid hown6; have HG6 := Lib.hid hgrow6; clear hown6 hgrow6))
          refine ⟨⟨k + 1, _, by rw [← HNL.out]; omega, rfl, by go_num, ?_, ?_⟩, by simp [intOf]; omega⟩
          · rw [HSN.out, HM.out, Option.toList_some, List.length_append, List.map_append, ← HQ.out]
            exact HW6.out
          · exact (HB4.out.alloc (by omega) _).grown HG6.out (by simp; omega) (fun y hy => (HO.out.lt y hy).1)
        · rw [decide_eq_false hmem]
          have HM := Lib.hid (show numOf x (nameL z) = none by unfold numOf; rw [numL_name hz1 hz2]; exact if_neg hmem)
          clear hmem
          go_wp2
          refine ⟨⟨k + 1, _, by rw [← HNL.out]; omega, rfl, by go_num, ?_, HB4.out⟩, by simp [intOf]; omega⟩
          rw [HSN.out, HM.out, Option.toList_none, List.append_nil, ← HQ.out]
          exact HO4.out
    · obtain rfl : k = nl := by omega
      have hO := HO.out
      rw [HNL.out, List.take_length] at hO
      have hlen := numsP_len x L
      rw [← HNL.out] at hlen
      obtain ⟨ns, hns⟩ : ∃ ns, ns = entN E m := ⟨_, rfl⟩
      have hsrt := HSRT.out
      rw [← hns] at hsrt
      have hq : (numsP x L).length = ns.length := by
        have := congrArg List.length hsrt
        rwa [List.length_mergeSort, List.length_map] at this
      have HSQ := Lib.hid hsrt
      have HNS := Lib.hid hns
      obtain ⟨zs, hzs⟩ : ∃ zs, zs = numsP x L := ⟨_, rfl⟩
      rw [← hzs] at hO hlen hq HSQ
      obtain ⟨A3, d3, hu3⟩ := own_slice hO
      subst hu3
      have HO3 := Lib.hid hO
      have HQ := Lib.hid hq
      clear hO hns hsrt hzs hq
      go_wp2_with fail
      refine (sort_int wr w2.heap.size (.slice A3 zs.length d3) zs HO3.out (by omega)).mono ?_
      rintro e w4 ⟨rfl, ho4, hg4⟩
      rw [HSQ.out] at ho4
      have hb4 : Below w.heap.size w w4 := (HB02.out.trans (HB.out.mono hs02)).grown hg4 (by omega) (fun y hy => by have := (HO3.out.lt y hy).1; omega)
      have HB4 := Lib.hid hb4
      have HR4 := Lib.hid (Reads.of_own ho4)
      have HO4 := Lib.hid ho4
      have hs4 := hb4.size
      clear ho4 hg4 hb4
      go_wp2_with fail
      go_loopw [8, 51] (fun b i wx => FindR w4 lp p E ns b i wx) (fun _ i _ => zs.length - (intOf i).toNat)
      case atStart => exact ⟨0, [], 0, _, Nat.zero_le _, rfl, rfl, rfl, HLP.out.below HB4.out hlpl, RecsN.nil _ _, only_refl _ _, by omega, by simp⟩
      case round =>
        obtain ⟨wx, hwx⟩ : ∃ wx, wx = wr := ⟨_, rfl⟩
        subst hwx
        obtain ⟨k, S, la, vc, hk, hst, rfl, rfl, hbk, hrn, hgr, hla, hcl⟩ := hrel
        have hk : k ≤ zs.length := by rw [HQ.out]; exact hk
        have HST := Lib.hid hst
        have HBK := Lib.hid hbk
        have HRN := Lib.hid hrn
        have HGR := Lib.hid hgr
        have hsx := hgr.size
        have f0 : wx.cell? ⟨lp, 0, none⟩ = some (.pointer (some ⟨p, 0, none⟩)) := hbk.cell 0
        clear hst hrn hgr
        by_cases hlt2 : k < zs.length
        · have hkn : k < ns.length := by rw [← HQ.out]; exact hlt2
          obtain ⟨z, hz⟩ : ∃ z, z = ns[k] := ⟨_, rfl⟩
          have hzm : z ∈ entN E m := by rw [← HNS.out, hz]; exact List.getElem_mem _
          obtain ⟨hz1, hz2⟩ := List.mem_filter.1 hzm
          obtain ⟨en, hen⟩ := Option.isSome_iff_exists.1 hz2
          obtain ⟨g1, g2, f, g3, g4, g5, g6⟩ := HSAY.out.some_ z en hen
          have hTK : ns.take (k + 1) = ns.take k ++ [z] := by rw [hz]; exact List.take_succ_eq_append_getElem hkn
          have hRx : Reads wx wx.heap.size 1 A3 zs.length ((ns.map (fun n : Nat => (n : Int))).map (Value.int .i64)) :=
            reads_keep HR4.out hsx fun h0 ad ea => HGR.out.block _ (by obtain ⟨ad2, e2, hlt, -⟩ := HR4.out.2 h0; rw [ea] at e2; injection e2 with e2; subst e2; exact hlt) (by
              intro e2
              have e3 : (Value.slice A3 zs.length d3).ownBlock = some lp := by rw [ea]; simp only [Value.ownBlock]; exact e2
              exact (IsT.of_own HO4.out e3).ne (IsT.of_blk (HLP.out.below HB4.out hlpl)) (by decide) rfl)
          obtain ⟨ad, hA, hg, hcell⟩ := hRx.2 (by omega)
          have d0 : wx.cell? (ad.add k) = some (.int .i64 (z : Int)) := by
            rw [hz]
            refine hcell k _ ?_
            rw [List.getElem?_map, List.getElem?_map, List.getElem?_eq_getElem hkn]
            rfl
          have hDx : Dk wx F p n x := (HD.out.below HB4.out).keep fun y hy hlt => HGR.out.block y hlt (by intro e2; injection e2 with e2; subst e2; exact hF hy)
          have hread : x.read (nB z) = (entL en z, 0) := by
            unfold PS.read
            rw [if_pos (show rightB (nB z) = true from nameL_right ⟨z, by omega⟩), show (nB z).data.toList = nameL z from nmBA_data _, g3]
            simp only [g5]
          have hel : (entL en z).length ≤ 50000 := HFB.out _ (List.mem_of_getElem? g5)
          have HDX := Lib.hid hDx
          have HRD := Lib.hid hread
          have HEN := Lib.hid hen
          have HOK := Lib.hid g6
          have HTK := Lib.hid hTK
          have hz99 : z ≤ 99 := by omega
          have hlx : lp < wx.heap.size := hbk.lt
          have hlp4 : lp < w4.heap.size := by omega
          subst hA
          clear hz hzm hz1 hz2 hen g3 g5 g6 hTK hRx hcell hDx hread
          go_upto_region 14 with fail
          go_region_held3 (fun w' => w'.cell? ⟨lp, 0, none⟩ = some (.pointer (some ⟨p, 0, none⟩)))
            (first | exact f0 | exact f1 | exact f2)
            ((first
              | (go_at_call 67; refine (dk_read wa F p n x (nB z) HDA.out hn (by rw [nB_size]; decide)).mono ?_; rintro e wb ⟨vr, rfl, hor, hbb⟩; rw [HRD.out] at hor; have f2 : wb.cell? ⟨lp, 0, none⟩ = some (.pointer (some ⟨p, 0, none⟩)) := (hbb.cell (p := ⟨lp, 0, none⟩) (show lp < wa.heap.size by omega)).trans f1; have HOR := Lib.hid hor; have HBB := Lib.hid (HBA.out.trans (hbb.mono HBA.out.size)); clear hor hbb)
              | (go_at_call 57; refine (named_any z (by omega) wx.drew).mono ?_; rintro e wa ⟨rfl, hba⟩; have hba := below_drew hba; have hsa := hba.size; have f1 : wa.cell? ⟨lp, 0, none⟩ = some (.pointer (some ⟨p, 0, none⟩)) := (hba.cell (p := ⟨lp, 0, none⟩) hlx).trans f0; have HDA := Lib.hid (HDX.out.below hba); have HBA := Lib.hid hba; clear hba)))
          all_goals
            have hsb := HBB.out.size
            have HBKb := Lib.hid (HBK.out.below HBB.out hlx)
            go_wp2_with fail
            refine (unentry_any en z vr _ wb (by omega) HOK.out HOR.out (by omega)).mono ?_
            rintro e wc ⟨v2, he, hrc, hbc⟩
            have HBC := Lib.hid (HBB.out.trans (hbc.mono hsb))
            have hbkc := HBKb.out.below hbc (by omega)
            have hrnc := HRN.out.below HBC.out
            have hrc2 : RecsN wc w4.heap.size v2 en.recs := hrc.low (by omega)
            have hsc := HBC.out.size
            have f3 : wc.cell? ⟨lp, 0, none⟩ = some (.pointer (some ⟨p, 0, none⟩)) := hbkc.cell 0
            have f4 : wc.cell? ⟨lp, 1, none⟩ = some vc := hbkc.cell 1
            have f5 : wc.cell? ⟨lp, 2, none⟩ = some (.int .i64 (la : Int)) := hbkc.cell 2
            have fz1 := hbkc.frozen 1
            have fz2 := hbkc.frozen 2
            obtain ⟨vs1, ho1, hv1⟩ := hrnc
            obtain ⟨vs2, ho2, hv2⟩ := hrc2
            obtain ⟨Ac, dc, hvc⟩ := own_slice ho1
            obtain ⟨Ar, dr, hvr⟩ := own_slice ho2
            subst hvc hvr
            have HO1 := Lib.hid ho1
            have HO2 := Lib.hid ho2
            have HV1 := Lib.hid hv1
            have HV2 := Lib.hid hv2
            have HBKC := Lib.hid hbkc
            have hstep : (ns.take (k + 1)).foldl (stepE E) ([], 0) = if en.all = true ∨ z = la + 1 then (en.next S, z) else (S, la) := by
              rw [HTK.out, List.foldl_append, HST.out]
              show stepE E (S, la) z = _
              unfold stepE
              rw [HEN.out]
            have hgrc : w4.grownBy wc (some lp) := grown_below HGR.out HBC.out
            have HSTEP := Lib.hid hstep
            have HGRC := Lib.hid hgrc
            clear hrc hbc hbkc hbk ho1 ho2 hv1 hv2 hstep hgrc
            cases hall : en.all with
            | true =>
              rw [hall] at he
              have he : e = .returned (.tuple #[.int .u8 99, .slice Ar en.recs.length dr, .bool true]) := he
              subst he
              go_wp2
              refine ⟨⟨k + 1, en.recs, z, _, by rw [← HQ.out]; omega, by rw [HSTEP.out, if_pos (.inl hall)]; unfold Ent.next; rw [hall]; rfl, by rw [decide_eq_false (show ¬ z = 0 by omega)], by go_num, (HBKC.out.set_ 1 _).set_ 2 _, recs_set (recs_set ⟨vs2, HO2.out, HV2.out⟩ hlp4 1 _) hlp4 2 _, only_setCell (only_setCell HGRC.out (.inl rfl) _) (.inl rfl) _, hz99, ?_⟩, by simp [intOf]; omega⟩
              have h1 := recs_len en.recs
              have h2 := ent_recs en z
              omega
            | false =>
              rw [hall] at he
              have he : e = .returned (.tuple #[.int .u8 114, .slice Ar en.recs.length dr, .bool true]) := he
              subst he
              by_cases hzl : z = la + 1
              · have hone : ∀ u ∈ vs2, u.oneCell' = true := fun u hu => by
                  obtain ⟨j, hj⟩ := List.mem_iff_getElem?.1 hu
                  have hjl : j < vs2.length := (List.getElem?_eq_some_iff.1 hj).1
                  have hjr : j < en.recs.length := by rw [← HV2.out.1]; exact hjl
                  obtain ⟨A9, c9, rfl⟩ := own_slice (HV2.out.2 j u _ hj (List.getElem?_eq_getElem hjr))
                  rfl
                have hrl : en.recs.length ≤ 50000 := by have h1 := recs_len en.recs; have h2 := ent_recs en z; omega
                have HONE := Lib.hid hone
                have HALL := Lib.hid hall
                have hnsl : ns.length ≤ m := by rw [HNS.out]; unfold entN; exact Nat.le_trans (List.length_filter_le _ _) (by rw [List.length_range']; exact Nat.le_refl _)
                have hSl : S.length ≤ 5000000 := by omega
                clear hone hall hnsl
                subst hzl
                rcases Nat.eq_zero_or_pos la with hla0 | hla0
                · subst hla0
                  go_wp2_with (at_builtin; go_loud (refine wpList_append_any _ rfl (.tmp 101) (.tmp 102) 29 rfl w4.heap.size 25 i25 (.slice none 0 0) 1 24 Tryz.underlying29 HI25.out HZ250.out HZ251.out HZ252.out rfl (by omega) (.slice Ac S.length dc) S.length vs1 rfl HO1.out wc.heap.size Ar en.recs.length dr vs2 rfl (Reads.of_own HO2.out) HONE.out (by simp [maxLen]; omega) (by omega) (by omega) ?_; intro v6 w6 hown6 hgrow6 _; obtain ⟨A6, d6, hv6e⟩ := own_slice hown6; subst hv6e; have hs6 := hgrow6.size; have hnl6 : (Value.slice Ac S.length dc).ownBlock ≠ some lp := fun e2 => by { have := (HO1.out.lt lp e2).1; omega }; have hbk6 := HBKC.out.grown hgrow6 (fun e2 => hnl6 e2.symm); have fz61 := hbk6.frozen 1; have fz62 := hbk6.frozen 2; have f61 : w6.cell? ⟨lp, 1, none⟩ = some (.slice Ac S.length dc) := hbk6.cell 1; have f62 : w6.cell? ⟨lp, 2, none⟩ = some (.int .i64 (((0 : Nat) : Int) : Int)) := hbk6.cell 2; have HBK6 := Lib.hid hbk6; have HW6 := Lib.hid hown6; have HG6 := Lib.hid hgrow6; clear hown6 hgrow6 hbk6 hnl6))
                  have hvv : VecN w6 w4.heap.size (vs1 ++ vs2) (S ++ en.recs) := VecN.rowed (VecN.append HV1.out HV2.out) HO1.out (by decide) HG6.out
                  refine ⟨⟨k + 1, S ++ en.recs, 1, _, by rw [← HQ.out]; omega, by rw [HSTEP.out, if_pos (.inr (by first | exact trivial | rfl))]; unfold Ent.next; rw [HALL.out]; rfl, by rw [decide_eq_false (show ¬ 1 = 0 by omega)], by go_num, (HBK6.out.set_ 1 _).set_ 2 _, recs_set (recs_set ⟨_, by rw [List.length_append]; exact HW6.out, hvv⟩ hlp4 1 _) hlp4 2 _, only_setCell (only_setCell (grown_new HGRC.out HG6.out (fun y hy => (HO1.out.lt y hy).1)) (.inl rfl) _) (.inl rfl) _, hz99, ?_⟩, by simp [intOf]; omega⟩
                  rw [List.length_append]
                  omega
                · have hgt : decide ((1 : Int) < ((la + 1 : Nat) : Int)) = true := decide_eq_true (by omega)
                  have hgt2 : decide ((1 : Int) < (la : Int) + 1) = true := decide_eq_true (by omega)
                  have hgt3 : (1 : Int) < (la : Int) + 1 := by omega
                  go_wp2_with (at_builtin; go_loud (refine wpList_append_any _ rfl (.tmp 101) (.tmp 102) 29 rfl w4.heap.size 25 i25 (.slice none 0 0) 1 24 Tryz.underlying29 HI25.out HZ250.out HZ251.out HZ252.out rfl (by omega) (.slice Ac S.length dc) S.length vs1 rfl HO1.out wc.heap.size Ar en.recs.length dr vs2 rfl (Reads.of_own HO2.out) HONE.out (by simp [maxLen]; omega) (by omega) (by omega) ?_; intro v6 w6 hown6 hgrow6 _; obtain ⟨A6, d6, hv6e⟩ := own_slice hown6; subst hv6e; have hs6 := hgrow6.size; have hnl6 : (Value.slice Ac S.length dc).ownBlock ≠ some lp := fun e2 => by { have := (HO1.out.lt lp e2).1; omega }; have hbk6 := HBKC.out.grown hgrow6 (fun e2 => hnl6 e2.symm); have fz61 := hbk6.frozen 1; have fz62 := hbk6.frozen 2; have f61 : w6.cell? ⟨lp, 1, none⟩ = some (.slice Ac S.length dc) := hbk6.cell 1; have f62 : w6.cell? ⟨lp, 2, none⟩ = some (.int .i64 ((la : Int) : Int)) := hbk6.cell 2; have HBK6 := Lib.hid hbk6; have HW6 := Lib.hid hown6; have HG6 := Lib.hid hgrow6; clear hown6 hgrow6 hbk6 hnl6))
                  have hvv : VecN w6 w4.heap.size (vs1 ++ vs2) (S ++ en.recs) := VecN.rowed (VecN.append HV1.out HV2.out) HO1.out (by decide) HG6.out
                  refine ⟨⟨k + 1, S ++ en.recs, (la + 1), _, by rw [← HQ.out]; omega, by rw [HSTEP.out, if_pos (.inr (by first | exact trivial | rfl))]; unfold Ent.next; rw [HALL.out]; rfl, by rw [decide_eq_false (show ¬ (la + 1) = 0 by omega)], by go_num, (HBK6.out.set_ 1 _).set_ 2 _, recs_set (recs_set ⟨_, by rw [List.length_append]; exact HW6.out, hvv⟩ hlp4 1 _) hlp4 2 _, only_setCell (only_setCell (grown_new HGRC.out HG6.out (fun y hy => (HO1.out.lt y hy).1)) (.inl rfl) _) (.inl rfl) _, hz99, ?_⟩, by simp [intOf]; omega⟩
                  rw [List.length_append]
                  omega
              · have hzq : decide ((z : Int) = (la : Int) + 1) = false := decide_eq_false (by omega)
                have hzq2 : ¬ (z : Int) = (la : Int) + 1 := by omega
                have HZL := Lib.hid hzl
                have HALL := Lib.hid hall
                clear hzl hall
                go_wp2
                refine ⟨⟨k + 1, S, la, _, by rw [← HQ.out]; omega, by rw [HSTEP.out, if_neg (fun h => h.elim (fun h => by rw [HALL.out] at h; cases h) HZL.out)], rfl, by go_num, HBKC.out, ⟨vs1, HO1.out, HV1.out⟩, HGRC.out, hla, by omega⟩, by simp [intOf]; omega⟩
        · obtain rfl : k = zs.length := by omega
          have hfin : tell E m = (S, la) := by
            rw [← fold_tell, ← HNS.out, ← HST.out, HQ.out, List.take_length]
          have hcl2 : c = S ∧ last = la := by
            have := HT.out.symm.trans hfin
            injection this with h1 h2
            exact ⟨h1, h2⟩
          have HC := Lib.hid hcl2
          clear hfin hcl2
          go_wp2
          obtain ⟨rfl, rfl⟩ := HC.out
          go_end0
          refine ⟨rfl, vc, HBK.out, HRN.out.low (by have := HB4.out.size; omega), ?_⟩
          exact below_grown HB4.out HGR.out
end Go.Proofs.YtfchnpdgnhoffaaGreatDoor
namespace Go.Proofs.YtfchnpdgnhoffaaGreatDoor
open Go.RowKit Go.Shelf Go.Maps

/-- rows of records that are not too great -/
def Sm (c : List Rec) : Prop := c.length ≤ 2000 ∧ ∀ b ∈ c, b.length ≤ 50000
/-- the log at lp, on the disk at p, in blocks of F -/
def LogAt (w : World) (F : Nat → Prop) (lp p n : Nat) (x : PS) (c : List Rec) (last : Nat) (fl : Bool) : Prop :=
  ∃ (Fd G : Nat → Prop) (vc : Value), Dk w Fd p n x ∧ Blk w lp 71 #[.pointer (some ⟨p, 0, none⟩), vc, .int .i64 (last : Int), .bool fl] ∧ RecsAt w G vc c ∧
    F lp ∧ ¬ Fd lp ∧ ¬ G lp ∧ (∀ y, Fd y → F y ∧ ¬ G y) ∧ (∀ y, G y → F y)
section
variable {w w' : World} {F F' : Nat → Prop} {lp p n : Nat} {x : PS} {c : List Rec} {last : Nat} {fl : Bool}
theorem LogAt.keep (h : LogAt w F lp p n x c last fl) (hb : ∀ k, F k → k < w.heap.size → w'.heap[k]? = w.heap[k]?) : LogAt w' F lp p n x c last fl := by
  obtain ⟨Fd, G, vc, h1, h2, h3, h4, h5, h6, h7, h8⟩ := h
  exact ⟨Fd, G, vc, h1.keep fun k hk => hb k (h7 k hk).1, (hb lp h4 h2.lt).trans h2, h3.keep fun k hk => hb k (h8 k hk), h4, h5, h6, h7, h8⟩
theorem LogAt.below (h : LogAt w F lp p n x c last fl) (hb : Below w.heap.size w w') : LogAt w' F lp p n x c last fl := h.keep fun k _ hlt => hb.block k hlt
theorem LogAt.mono (h : LogAt w F lp p n x c last fl) (hF : ∀ k, F k → F' k) {m : Nat} (hm : n ≤ m) : LogAt w F' lp p m x c last fl := by
  obtain ⟨Fd, G, vc, h1, h2, h3, h4, h5, h6, h7, h8⟩ := h
  exact ⟨Fd, G, vc, h1.mono hm, h2, h3, hF _ h4, h5, h6, fun y hy => ⟨hF _ (h7 y hy).1, (h7 y hy).2⟩, fun y hy => hF _ (h8 y hy)⟩
theorem LogAt.dk (h : LogAt w F lp p n x c last fl) : Dk w F p n x := by
  obtain ⟨Fd, G, vc, h1, h2, h3, h4, h5, h6, h7, h8⟩ := h
  exact h1.inF fun k hk => (h7 k hk).1
theorem LogAt.lt (h : LogAt w F lp p n x c last fl) : lp < w.heap.size := by
  obtain ⟨Fd, G, vc, h1, h2, -⟩ := h
  exact h2.lt
theorem LogAt.own (h : LogAt w F lp p n x c last fl) : F lp ∧ F p := by
  obtain ⟨Fd, G, vc, h1, h2, h3, h4, h5, h6, h7, h8⟩ := h
  exact ⟨h4, (h7 _ h1.own).1⟩
end
/-- what Open hands back -/
def OpenPost (w : World) (F : Nat → Prop) (p n : Nat) (x : PS) (c : List Rec) (last : Nat) (e : Ending) (w' : World) : Prop :=
  ∃ lp v mid, e = .returned (.tuple #[.pointer (some ⟨lp, 0, none⟩), v, .int .i64 0]) ∧ lp = w.heap.size ∧ w.heap.size ≤ mid ∧ mid ≤ w'.heap.size ∧
    LogAt w' (fun k => F k ∨ (w.heap.size ≤ k ∧ k < mid)) lp p n x c last false ∧ RecsN w' mid v c ∧ Below w.heap.size w w'
set_option maxRecDepth 100000 in
set_option maxHeartbeats 6400000 in
theorem open_any (w : World) (F : Nat → Prop) (p n : Nat) (x : PS) (N m : Nat) (E : Nat → Option Ent) (c : List Rec) (last : Nat) (hd : Dk w F p n x) (hn : n ≤ 10000) (hF : ∀ k, F k → k < w.heap.size) (hS : SynW w)
    (hsay : Says x.files N x.dir E m) (hm : m ≤ 99) (hk : ∀ n e, E n = some e → (dget x.kept (nameL n)).isSome = true) (hfb : ∀ y ∈ x.files, y.1.length ≤ 50000) (ht : tell E m = (c, last)) (hc : Sm c) :
    Calls Tryz.prog 24 #[.pointer (some ⟨p, 0, none⟩)] w (OpenPost w F p n x c last) := by
  have HD := Lib.hid hd
  have HF := Lib.hid hF
  have HS := Lib.hid hS
  have HSAY := Lib.hid hsay
  have HK := Lib.hid hk
  have HFB := Lib.hid hfb
  have HT := Lib.hid ht
  have HC := Lib.hid hc
  have h0w := hS.lt
  clear hd hF hS hsay hk hfb ht hc
  go_enter Tryz.func24, Tryz.ntmps24
  go_wp2_with fail
  have HBa := Lib.hid (show Below w.heap.size w (w.alloc (.cells #[.pointer (some ⟨p, 0, none⟩), .slice none 0 0, .int .i64 0, .bool false] 71)) from (Below.refl _ _).alloc (Nat.le_refl _) _)
  refine (find_any (w.alloc (.cells #[.pointer (some ⟨p, 0, none⟩), .slice none 0 0, .int .i64 0, .bool false] 71)) F p n w.heap.size x N m E c last (HD.out.below HBa.out) hn (Blk.new _ _ _) (fun h => by have := HF.out _ h; omega) (HS.out.below HBa.out h0w) (by omega) HSAY.out hm HK.out HFB.out HT.out).mono ?_
  rintro e w1 ⟨rfl, vc, hbk, hrn, hgr⟩
  have f1 : w1.cell? ⟨w.heap.size, 1, none⟩ = some vc := hbk.cell 1
  have hlt := hbk.lt
  have HBK := Lib.hid hbk
  have HRN := Lib.hid hrn
  have hb1 : Below w.heap.size w w1 := ⟨hgr.os.trans HBa.out.os, hgr.tape.trans HBa.out.tape, hgr.output.trans HBa.out.output, by omega, fun k hk => (hgr.block k (by simp; omega) (fun e => by injection e with e; omega)).trans (HBa.out.block k hk)⟩
  have HB1 := Lib.hid hb1
  clear hbk hrn hgr hb1
  go_wp2_with fail
  refine (copied_any vc c _ w1 HRN.out.at_.read (Nat.le_trans HC.out.1 (by decide)) (fun b hb => Nat.le_trans (HC.out.2 b hb) (by decide))).mono ?_
  rintro e w2 ⟨v2, rfl, hv2, hb2⟩
  have HV2 := Lib.hid hv2
  have HB2 := Lib.hid hb2
  clear hv2 hb2
  go_wp2
  go_ret3
  refine ⟨w.heap.size, v2, w1.heap.size, rfl, rfl, by omega, HB2.out.size, ?_, HV2.out, HB1.out.trans (HB2.out.mono HB1.out.size)⟩
  refine ⟨F, fun k => w.heap.size + 1 ≤ k ∧ k < w1.heap.size, vc, HD.out.below (HB1.out.trans (HB2.out.mono HB1.out.size)), HBK.out.below HB2.out hlt, ?_, .inr ⟨Nat.le_refl _, hlt⟩, fun h => by have := HF.out _ h; omega, fun h => by omega, fun y hy => ⟨.inl hy, fun h => by have := HF.out _ hy; omega⟩, fun y hy => .inr ⟨by omega, hy.2⟩⟩
  have := HRN.out.at_
  rw [World.size_alloc] at this
  exact this.below HB2.out
set_option maxHeartbeats 1600000 in
theorem open_nil (w : World) : Calls Tryz.prog 24 #[.pointer none] w fun e w' => e = .returned (.tuple #[.pointer none, .slice none 0 0, .int .i64 1]) ∧ w' = w := by
  go_enter Tryz.func24, Tryz.ntmps24
  go_wp2
  go_ret3
  exact ⟨rfl, rfl⟩
section
variable {w : World} {F : Nat → Prop} {lp p n : Nat} {x : PS} {c : List Rec} {last : Nat} {fl : Bool}
set_option maxHeartbeats 1600000 in
theorem count_any (h : LogAt w F lp p n x c last fl) : Calls Tryz.prog 23 #[.pointer (some ⟨lp, 0, none⟩)] w fun e w' => e = .returned (.int .i64 (c.length : Int)) ∧ w' = w := by
  obtain ⟨Fd, G, vc, h1, h2, ⟨vs, ho, h3⟩, h4⟩ := h
  obtain ⟨A, d, hv⟩ := own_slice ho
  subst hv
  have f1 : w.cell? ⟨lp, 1, none⟩ = some (.slice A c.length d) := h2.cell 1
  clear h1 h2 ho h3 h4
  go_enter Tryz.func23, Tryz.ntmps23
  go_wp2
  go_ret
  exact ⟨rfl, rfl⟩
set_option maxHeartbeats 1600000 in
theorem failed_any (h : LogAt w F lp p n x c last fl) : Calls Tryz.prog 28 #[.pointer (some ⟨lp, 0, none⟩)] w fun e w' => e = .returned (.bool fl) ∧ w' = w := by
  obtain ⟨Fd, G, vc, h1, h2, h4⟩ := h
  have f1 : w.cell? ⟨lp, 3, none⟩ = some (.bool fl) := h2.cell 3
  clear h1 h2 h4
  go_enter Tryz.func28, Tryz.ntmps28
  go_wp2
  go_ret
  exact ⟨rfl, rfl⟩
end
def sumL (c : List Rec) : Nat := (c.map List.length).sum
theorem sumL_le : ∀ c : List Rec, (∀ b ∈ c, b.length ≤ 50000) → sumL c ≤ 50000 * c.length
  | [], _ => Nat.le_refl _
  | b :: c, h => by
    have h1 := sumL_le c fun y hy => h y (List.mem_cons_of_mem _ hy)
    have h2 := h b List.mem_cons_self
    unfold sumL at h1 ⊢
    rw [List.map_cons, List.sum_cons, List.length_cons]
    omega
theorem sumL_snoc (c : List Rec) (b : Rec) : sumL (c ++ [b]) = sumL c + b.length := by unfold sumL; simp
def BytesR (w : World) (c : List Rec) (s i : Value) (wr : World) : Prop := ∃ k : Nat, k ≤ c.length ∧ s = .int .i64 (sumL (c.take k) : Int) ∧ i = .int .i64 k ∧ wr = w
section
variable {w : World} {F : Nat → Prop} {lp p n : Nat} {x : PS} {c : List Rec} {last : Nat} {fl : Bool}
set_option maxHeartbeats 3200000 in
theorem bytes_any (h : LogAt w F lp p n x c last fl) (hc : Sm c) : Calls Tryz.prog 31 #[.pointer (some ⟨lp, 0, none⟩)] w fun e w' => e = .returned (.int .i64 (sumL c : Int)) ∧ w' = w := by
  obtain ⟨Fd, G, vc, h1, h2, hr, h4⟩ := h
  obtain ⟨A, d, vs, hv, hd, hR, hG, hrr⟩ := hr.read
  subst hv
  have f1 : w.cell? ⟨lp, 1, none⟩ = some (.slice A c.length d) := h2.cell 1
  obtain ⟨nc, hnc⟩ : ∃ nc, nc = c.length := ⟨_, rfl⟩
  have HNC := Lib.hid hnc
  have HR := Lib.hid hR
  have HRR := Lib.hid hrr
  have HC := Lib.hid hc
  have hvl : vs.length = c.length := by rw [hR.1, Nat.mul_one]
  have hc1 := hc.1
  rw [← hnc] at f1 hc1
  have HVL := Lib.hid hvl
  clear h1 h2 hr h4 hc hG hd hR hrr hnc hvl
  go_enter Tryz.func31, Tryz.ntmps31
  go_wp2_with fail
  go_loopw [3, 11] (fun s i wr => BytesR w c s i wr) (fun _ i _ => nc - (intOf i).toNat)
  case atStart => exact ⟨0, Nat.zero_le _, rfl, rfl, rfl⟩
  case round =>
    obtain ⟨wx, hwx⟩ : ∃ wx, wx = wr := ⟨_, rfl⟩
    subst hwx
    obtain ⟨k, hk, rfl, rfl, hw⟩ := hrel
    subst hw
    have hk : k ≤ nc := by rw [HNC.out]; exact hk
    by_cases hlt : k < nc
    · obtain ⟨ad, hA, hg, hcell⟩ := HR.out.2 (by rw [← HNC.out]; omega)
      subst hA
      have hkc : k < c.length := by rw [← HNC.out]; exact hlt
      have hkv : k < vs.length := by rw [HVL.out]; exact hkc
      obtain ⟨b, hb⟩ : ∃ b, b = c[k] := ⟨_, rfl⟩
      obtain ⟨A2, c2, hu, h2, h3, h4⟩ := HRR.out k vs[k] b (List.getElem?_eq_getElem hkv) (by rw [hb]; exact List.getElem?_eq_getElem hkc)
      have d0 : wx.cell? (ad.add k) = some (.slice A2 b.length c2) := hcell k _ (by rw [List.getElem?_eq_getElem hkv, hu])
      have hbl : b.length ≤ 50000 := HC.out.2 b (by rw [hb]; exact List.getElem_mem _)
      have hTK : c.take (k + 1) = c.take k ++ [b] := by rw [hb]; exact List.take_succ_eq_append_getElem hkc
      have hs := sumL_le (c.take k) fun y hy => HC.out.2 y (List.take_subset _ _ hy)
      have hs2 : sumL (c.take (k + 1)) = sumL (c.take k) + b.length := by rw [hTK, sumL_snoc]
      rw [List.length_take] at hs
      obtain ⟨q, hq⟩ : ∃ q, q = sumL (c.take k) := ⟨_, rfl⟩
      rw [← hq] at hs hs2 ⊢
      have hql : q ≤ 100000000 := by omega
      have HS2 := Lib.hid hs2
      clear hb hu h2 h3 h4 hcell hTK hs hs2 hq
      go_wp2
      refine ⟨⟨k + 1, by rw [← HNC.out]; omega, by rw [HS2.out]; go_num, by go_num, rfl⟩, by simp [intOf]; omega⟩
    · obtain rfl : k = nc := by omega
      have hk2 : c.take k = c := by rw [HNC.out, List.take_length]
      rw [hk2]
      clear hk2
      go_wp2
      go_ret
      exact ⟨rfl, rfl⟩
end
end Go.Proofs.YtfchnpdgnhoffaaGreatDoor
namespace Go.Proofs.YtfchnpdgnhoffaaGreatDoor
open Go.RowKit Go.Shelf Go.Maps

theorem rec_str (a : Rec) : (⟨a.toArray⟩ : ByteArray).data.toList = a := rfl
theorem take_next {a b : List Rec} {k : Nat} (h1 : k < a.length) (h2 : k < b.length) (h : a.take k = b.take k) (he : a[k] = b[k]) : a.take (k + 1) = b.take (k + 1) := by
  rw [List.take_succ_eq_append_getElem h1, List.take_succ_eq_append_getElem h2, h, he]
theorem ret_b {a b : Bool} (h : a = b) : Ending.returned (.bool a) = .returned (.bool b) := by rw [h]
def RowsR (w : World) (a b : List Rec) (i : Value) (wr : World) : Prop := ∃ k q : Nat, k ≤ a.length ∧ i = .int .i64 k ∧ wr = w.drewN q ∧ a.take k = b.take k
set_option maxRecDepth 100000 in
set_option maxHeartbeats 3200000 in
theorem rows_ne (w : World) (A1 A2 : Option Addr) (n1 n2 c1 c2 : Nat) (h : n1 ≠ n2) :
    Calls Tryz.prog 20 #[.slice A1 n1 c1, .slice A2 n2 c2] w fun e w' => e = .returned (.bool false) ∧ w' = w := by
  have hne : ((n1 : Int) != (n2 : Int)) = true := by simp; omega
  clear h
  go_enter Tryz.func20, Tryz.ntmps20
  go_wp2
  go_ret
  exact ⟨rfl, rfl⟩
set_option maxRecDepth 100000 in
set_option maxHeartbeats 6400000 in
theorem rows_any (w : World) (G H : Nat → Prop) (va vb : Value) (a b : List Rec) (ha : RecsR w G va a) (hb : RecsR w H vb b) (hn : a.length ≤ 100000) (hs : ∀ y ∈ a, y.length ≤ 100000) (ht : ∀ y ∈ b, y.length ≤ 100000) :
    Calls Tryz.prog 20 #[va, vb] w fun e w' => e = .returned (.bool (decide (a = b))) ∧ ∃ q, w' = w.drewN q := by
  obtain ⟨A1, d1, us, hva, hd1, hR1, hG1, hr1⟩ := ha
  obtain ⟨A2, d2, vs, hvb, hd2, hR2, hG2, hr2⟩ := hb
  subst hva hvb
  by_cases hl : a.length = b.length
  case neg =>
    have e0 : decide (a = b) = false := decide_eq_false fun e => hl (by rw [e])
    rw [e0]
    exact (rows_ne w A1 A2 _ _ d1 d2 hl).mono fun e w' ⟨h1, h2⟩ => ⟨h1, 0, by rw [h2]; rfl⟩
  have hul : us.length = a.length := by have := hR1.1; omega
  have hvl : vs.length = b.length := by have := hR2.1; omega
  obtain ⟨n, hnn⟩ : ∃ n, n = a.length := ⟨_, rfl⟩
  rw [← hl, ← hnn]
  rw [← hnn] at hR1 hn hul hl
  rw [← hl] at hR2 hvl
  have HN := Lib.hid hnn
  have HR1 := Lib.hid hR1
  have HR2 := Lib.hid hR2
  have HU := Lib.hid hul
  have HV := Lib.hid hvl
  have HL := Lib.hid hl
  have HS := Lib.hid hs
  have HT := Lib.hid ht
  have HE1 := Lib.hid hr1
  have HE2 := Lib.hid hr2
  clear hnn hR1 hR2 hul hvl hl hs ht hr1 hr2 hd1 hd2 hG1 hG2
  obtain ⟨z, hz⟩ : ∃ z, z = decide (a = b) := ⟨_, rfl⟩
  have HZ := Lib.hid hz
  rw [← hz]
  clear hz
  go_enter Tryz.func20, Tryz.ntmps20
  go_wp2_with fail
  go_loopw [5] (fun i wr => RowsR w a b i wr) (fun i _ => n - (intOf i).toNat)
  case atStart => exact ⟨0, 0, Nat.zero_le _, rfl, rfl, rfl⟩
  case round =>
    obtain ⟨k, q, hk, rfl, rfl, htk⟩ := hrel
    have HTK := Lib.hid htk
    have hk : k ≤ n := by rw [HN.out]; exact hk
    clear htk
    by_cases hlt : k < n
    · obtain ⟨ad1, hA1, hg1, hc1⟩ := HR1.out.2 (by omega)
      obtain ⟨ad2, hA2, hg2, hc2⟩ := HR2.out.2 (by omega)
      subst hA1 hA2
      have hka : k < a.length := by rw [← HN.out]; exact hlt
      have hkb : k < b.length := by rw [← HL.out]; exact hlt
      have hku : k < us.length := by rw [HU.out]; exact hlt
      have hkv : k < vs.length := by rw [HV.out]; exact hlt
      obtain ⟨x, hx⟩ : ∃ x, x = a[k] := ⟨_, rfl⟩
      obtain ⟨y, hy⟩ : ∃ y, y = b[k] := ⟨_, rfl⟩
      obtain ⟨Ax, cx, hu, hx2, hRx, -⟩ := HE1.out k us[k] x (List.getElem?_eq_getElem hku) (by rw [hx]; exact List.getElem?_eq_getElem hka)
      obtain ⟨Ay, cy, hv, hy2, hRy, -⟩ := HE2.out k vs[k] y (List.getElem?_eq_getElem hkv) (by rw [hy]; exact List.getElem?_eq_getElem hkb)
      have d1 : w.cell? (ad1.add k) = some (.slice Ax x.length cx) := hc1 k _ (by rw [List.getElem?_eq_getElem hku, hu])
      have d2 : w.cell? (ad2.add k) = some (.slice Ay y.length cy) := hc2 k _ (by rw [List.getElem?_eq_getElem hkv, hv])
      have j1 : ∀ q, (convert 25 9 (.slice Ax x.length cx)).run Tryz.prog (w.drewN q) = .ok (.string ⟨x.toArray⟩) (w.drewN q) := fun q => run_str_reads cx (hRx.drewN q)
      have j2 : ∀ q, (convert 25 9 (.slice Ay y.length cy)).run Tryz.prog (w.drewN q) = .ok (.string ⟨y.toArray⟩) (w.drewN q) := fun q => run_str_reads cy (hRy.drewN q)
      have hxl : x.length ≤ 100000 := HS.out x (by rw [hx]; exact List.getElem_mem _)
      have hyl : y.length ≤ 100000 := HT.out y (by rw [hy]; exact List.getElem_mem _)
      have HXY := Lib.hid (show x = y → a.take (k + 1) = b.take (k + 1) from fun e => take_next hka hkb HTK.out (by rw [← hx, ← hy, e]))
      have HXN := Lib.hid (show x ≠ y → z = false from fun e => by
        rw [HZ.out]
        refine decide_eq_false fun e2 => e ?_
        subst e2
        rw [hx, hy])
      clear hx hy hu hv hRx hRy hc1 hc2
      by_cases hxy : x = y
      · subst hxy
        have HNX := Lib.hid (HXY.out rfl)
        go_wp2_with fail
        go_quiet (fail)
        go_wp2
        refine ⟨⟨k + 1, _, by rw [← HN.out]; omega, by go_num, rfl, HNX.out⟩, by simp [intOf]; omega⟩
      · have hz := HXN.out hxy
        have HZZ := Lib.hid hz
        have hbq : (x == y) = false := by simpa using hxy
        clear hz hxy
        go_wp2_with fail
        go_quiet (fail)
        go_wp2
        go_ret
        exact ⟨ret_b HZZ.out.symm, _, World.drewN_drewN _ _ _⟩
    · obtain rfl : k = n := by omega
      have HZT := Lib.hid (show z = true by
        rw [HZ.out]
        refine decide_eq_true ?_
        have h1 := HTK.out
        rw [List.take_of_length_le (by rw [← HN.out]; exact Nat.le_refl _), List.take_of_length_le (by rw [← HL.out]; exact Nat.le_refl _)] at h1
        exact h1)
      go_wp2
      go_ret
      exact ⟨ret_b HZT.out.symm, q, rfl⟩
/-- clip -/
def clipL (b : Rec) : Rec := b.take 200
theorem clipL_len (b : Rec) : (clipL b).length ≤ 200 := List.length_take_le _ _
theorem clip_any (w : World) (G : Nat → Prop) (v : Value) (b : Rec) (h : ByR w G v b) (hb : b.length ≤ maxLen) :
    Calls Tryz.prog 21 #[v] w fun e w' => ∃ u, e = .returned u ∧ ByR w G u (clipL b) ∧ w' = w := by
  have h0 := h
  obtain ⟨A, c, hv, hc, hR, hG⟩ := h
  subst hv
  unfold maxLen at hb
  by_cases hl : 200 < b.length
  · have HG : ByR w G (.slice A 200 c) (clipL b) := by
      have e : (clipL b).length = 200 := by unfold clipL; rw [List.length_take]; omega
      refine ⟨A, c, by rw [e], by omega, ?_, fun ad ea h0 => hG ad ea (by omega)⟩
      rw [e]
      have := hR.take (Nat.le_of_lt hl)
      rwa [show (bytesV b).take (200 * 1) = bytesV (clipL b) by unfold bytesV clipL; rw [List.map_take]] at this
    have HGG := Lib.hid HG
    obtain ⟨ad, hA, -⟩ := hR.2 (by omega)
    subst hA
    have hlt : (200 : Int) < (b.length : Int) := by omega
    clear h0 HG hR hG
    go_enter Tryz.func21, Tryz.ntmps21
    go_wp2
    go_ret
    exact ⟨_, rfl, HGG.out, rfl⟩
  · have e : clipL b = b := List.take_of_length_le (by omega)
    rw [e]
    have HGG := Lib.hid h0
    have hlt : ¬ (200 : Int) < (b.length : Int) := by omega
    clear h0 e hR hG
    go_enter Tryz.func21, Tryz.ntmps21
    go_wp2
    go_ret
    exact ⟨_, rfl, HGG.out, rfl⟩
/-- last -/
def maxI : List Int → Int := List.foldl (fun n z => if n < z then z else n) (-1)
theorem foldl_max_le (l : List Int) : ∀ n : Int, n ≤ l.foldl (fun n z => if n < z then z else n) n ∧ ∀ z ∈ l, z ≤ l.foldl (fun n z => if n < z then z else n) n := by
  induction l with
  | nil => exact fun n => ⟨Int.le_refl _, fun z h => by cases h⟩
  | cons a l ih =>
    intro n
    obtain ⟨h1, h2⟩ := ih (if n < a then a else n)
    rw [List.foldl_cons]
    refine ⟨Int.le_trans (by split <;> omega) h1, fun z hz => ?_⟩
    rcases List.mem_cons.1 hz with rfl | hz
    · exact Int.le_trans (by split <;> omega) h1
    · exact h2 z hz
theorem maxI_ge {l : List Int} {z : Int} (h : z ∈ l) : z ≤ maxI l := (foldl_max_le l (-1)).2 z h
theorem maxI_lo (l : List Int) : -1 ≤ maxI l := (foldl_max_le l (-1)).1
theorem maxI_snoc (l : List Int) (z : Int) : maxI (l ++ [z]) = if maxI l < z then z else maxI l := by unfold maxI; rw [List.foldl_append]; rfl
theorem maxI_lt {l : List Int} {b : Int} (hb : -1 ≤ b) (h : ∀ z ∈ l, z ≤ b) : maxI l ≤ b := by
  have : ∀ (l : List Int) (n : Int), n ≤ b → (∀ z ∈ l, z ≤ b) → l.foldl (fun n z => if n < z then z else n) n ≤ b := by
    intro l
    induction l with
    | nil => exact fun n h _ => h
    | cons a l ih =>
      intro n hn hl
      rw [List.foldl_cons]
      exact ih _ (by have := hl a List.mem_cons_self; split <;> omega) fun z hz => hl z (List.mem_cons_of_mem _ hz)
  exact this l (-1) hb h
def LastR (w : World) (l : List Int) (m i : Value) (wr : World) : Prop := ∃ k : Nat, k ≤ l.length ∧ m = .int .i64 (maxI (l.take k)) ∧ i = .int .i64 k ∧ wr = w
set_option maxRecDepth 100000 in
set_option maxHeartbeats 3200000 in
theorem last_any (w : World) (A : Option Addr) (c B : Nat) (l : List Int) (h : Reads w B 1 A l.length (l.map (Value.int .i64))) (hn : l.length ≤ 100000) :
    Calls Tryz.prog 22 #[.slice A l.length c] w fun e w' => e = .returned (.int .i64 (maxI l)) ∧ w' = w := by
  obtain ⟨n, hnn⟩ : ∃ n, n = l.length := ⟨_, rfl⟩
  rw [← hnn] at h hn ⊢
  have HN := Lib.hid hnn
  have HR := Lib.hid h
  clear hnn h
  go_enter Tryz.func22, Tryz.ntmps22
  go_wp2_with fail
  go_loopw [3, 4] (fun m i wr => LastR w l m i wr) (fun _ i _ => n - (intOf i).toNat)
  case atStart => exact ⟨0, Nat.zero_le _, rfl, rfl, rfl⟩
  case round =>
    obtain ⟨wx, hwx⟩ : ∃ wx, wx = wr := ⟨_, rfl⟩
    subst hwx
    obtain ⟨k, hk, rfl, rfl, hw⟩ := hrel
    subst hw
    have hk : k ≤ n := by rw [HN.out]; exact hk
    by_cases hlt : k < n
    · obtain ⟨ad, hA, hg, hcell⟩ := HR.out.2 (by omega)
      subst hA
      have hkl : k < l.length := by rw [← HN.out]; exact hlt
      obtain ⟨z, hz⟩ : ∃ z, z = l[k] := ⟨_, rfl⟩
      have d0 : wx.cell? (ad.add k) = some (.int .i64 z) := hcell k _ (by rw [List.getElem?_map, List.getElem?_eq_getElem hkl, hz]; rfl)
      have HMS := Lib.hid (show maxI (l.take (k + 1)) = if maxI (l.take k) < z then z else maxI (l.take k) by rw [List.take_succ_eq_append_getElem hkl, ← hz, maxI_snoc])
      obtain ⟨m, hm⟩ : ∃ m, m = maxI (l.take k) := ⟨_, rfl⟩
      rw [← hm] at HMS ⊢
      clear hcell hz hm
      by_cases hmz : m < z
      · have HM := Lib.hid (show maxI (l.take (k + 1)) = z by rw [HMS.out, if_pos hmz])
        go_wp2
        refine ⟨⟨k + 1, by rw [← HN.out]; omega, by rw [HM.out], by go_num, rfl⟩, by simp [intOf]; omega⟩
      · have HM := Lib.hid (show maxI (l.take (k + 1)) = m by rw [HMS.out, if_neg hmz])
        go_wp2
        refine ⟨⟨k + 1, by rw [← HN.out]; omega, by rw [HM.out], by go_num, rfl⟩, by simp [intOf]; omega⟩
    · obtain rfl : k = n := by omega
      have hk2 : l.take k = l := by rw [HN.out, List.take_length]
      rw [hk2]
      clear hk2
      go_wp2
      go_ret
      exact ⟨rfl, rfl⟩
end Go.Proofs.YtfchnpdgnhoffaaGreatDoor
namespace Go.Proofs.YtfchnpdgnhoffaaGreatDoor
open Go.RowKit Go.Shelf Go.Maps

def WithPost (w : World) (G : Nat → Prop) (l : List Rec) (e : Ending) (w' : World) : Prop := ∃ v, e = .returned v ∧ RecsR w' (fun k => G k ∨ (w.heap.size ≤ k ∧ k < w'.heap.size)) v l ∧ Below w.heap.size w w'
set_option maxRecDepth 100000 in
set_option maxHeartbeats 6400000 in
theorem with_any (w : World) (G H : Nat → Prop) (v u : Value) (l : List Rec) (b : Rec) (h : RecsR w G v l) (hu : ByR w H u b) (hl : l.length ≤ 100000) (hb : b.length ≤ 100000) :
    Calls Tryz.prog 13 #[v, u] w (WithPost w G (l ++ [b])) := by
  obtain ⟨i5, hi5, hz50, hz51, hz52⟩ := info_parts info5
  obtain ⟨i25, hi25, hz250, hz251, hz252⟩ := info_parts info25
  have HI5 := Lib.hid hi5
  have HZ50 := Lib.hid hz50
  have HZ51 := Lib.hid hz51
  have HZ52 := Lib.hid hz52
  have HI25 := Lib.hid hi25
  have HZ250 := Lib.hid hz250
  have HZ251 := Lib.hid hz251
  have HZ252 := Lib.hid hz252
  obtain ⟨A0, d0, us, hv0, hd0, hR0, hG0, hr0⟩ := h
  obtain ⟨A1, d1, hv1, hd1, hR1, hG1⟩ := hu
  subst hv0 hv1
  obtain ⟨n, hn⟩ : ∃ n, n = l.length := ⟨_, rfl⟩
  obtain ⟨m, hm⟩ : ∃ m, m = b.length := ⟨_, rfl⟩
  rw [← hn] at hR0 hl ⊢
  rw [← hm] at hR1 hb ⊢
  have hun : us.length = n := by have := hR0.1; omega
  have HONE := Lib.hid (show ∀ y ∈ us, y.oneCell' = true from fun y hy => by
    obtain ⟨i, hi, rfl⟩ := List.mem_iff_getElem.1 hy
    obtain ⟨A2, c2, e2, -⟩ := hr0 i us[i] (l[i]'(by omega)) (List.getElem?_eq_getElem hi) (List.getElem?_eq_getElem (by omega))
    rw [e2]; rfl)
  have HN := Lib.hid hn
  have HM := Lib.hid hm
  have HUN := Lib.hid hun
  have HB1 := Lib.hid (show Below w.heap.size w (w.alloc (.cells #[] 25)) from (Below.refl _ w).alloc (Nat.le_refl _) _)
  have HR0 := Lib.hid (hR0.below HB1.out)
  have HR1 := Lib.hid hR1
  have HE0 := Lib.hid hr0
  have HOW := Lib.hid (show (w.alloc (.cells #[] 25)).ownsRow w.heap.size 25 1 (.slice (some ⟨w.heap.size, 0, none⟩) 0 0) 0 [] from World.ownsRow_lit (base := w.heap.size) (e := 25) (size := 1) w #[] 0 (Nat.le_refl _) (Nat.zero_le _) rfl)
  clear hi5 hz50 hz51 hz52 hi25 hz250 hz251 hz252 hn hm hun hR0 hR1 hr0 hG0 hG1 hd0 hd1
  go_enter Tryz.func13, Tryz.ntmps13
  go_wp2_with (first
    | (at_builtin; go_loud (refine wpList_append_any _ rfl (.tmp 5) (.tmp 6) 29 rfl w.heap.size 25 i25 (.slice none 0 0) 1 24 Tryz.underlying29 HI25.out HZ250.out HZ251.out HZ252.out rfl (by omega) (.slice (some ⟨w.heap.size, 0, none⟩) 0 0) 0 [] rfl HOW.out w.heap.size A0 n d0 us rfl HR0.out HONE.out (by simp [maxLen]; omega) (by omega) (by simp) ?_; intro v2 w2 hown2 hgrow2 _; rw [Nat.zero_add, List.nil_append] at hown2; obtain ⟨A2, d2, hv2⟩ := own_slice hown2; subst hv2; have hs2 := hgrow2.size; rw [World.size_alloc] at hs2; have HW2 := Lib.hid hown2; have HB2 := Lib.hid (HB1.out.grown hgrow2 (by simp) (fun k hk => by cases hk; exact Nat.le_refl _)); have hb3 : Below w2.heap.size w2 (w2.alloc (.cells #[] 5)) := (Below.refl _ w2).alloc (Nat.le_refl _) _; have HR3 := Lib.hid ((HR1.out.below HB2.out).below (w' := w2.alloc (.cells #[] 5)) (hb3.mono (by omega))); have HW3 := Lib.hid (own_keep HW2.out fun k _ hk => hb3.block k hk); have HB3 := Lib.hid (HB2.out.trans (hb3.mono (by omega))); have HO3 := Lib.hid (show (w2.alloc (.cells #[] 5)).ownsRow w2.heap.size 5 1 (.slice (some ⟨w2.heap.size, 0, none⟩) 0 0) 0 [] from World.ownsRow_lit (base := w2.heap.size) (e := 5) (size := 1) w2 #[] 0 (Nat.le_refl _) (Nat.zero_le _) rfl); clear hown2 hgrow2 hb3))
    | (at_builtin; go_loud (refine wpList_append_any _ rfl (.tmp 8) (.tmp 9) 25 rfl w2.heap.size 5 i5 (.int .u8 0) 1 1 Tryz.underlying25 HI5.out HZ50.out HZ51.out HZ52.out rfl (by omega) (.slice (some ⟨w2.heap.size, 0, none⟩) 0 0) 0 [] rfl HO3.out w.heap.size A1 m d1 (bytesV b) rfl HR3.out (bytesV_one _) (by simp [maxLen]; omega) (by omega) (by simp) ?_; intro v4 w4 hown4 hgrow4 _; rw [Nat.zero_add, List.nil_append] at hown4; obtain ⟨A4, d4, hv4⟩ := own_slice hown4; subst hv4; have hs4 := hgrow4.size; rw [World.size_alloc] at hs4; have HW4 := Lib.hid hown4; have HB4 := Lib.hid (HB3.out.grown hgrow4 (by simp; omega) (fun k hk => by cases hk; show w.heap.size ≤ w2.heap.size; omega)); have hb5 : Below w4.heap.size w4 (w4.alloc (.cells #[.slice A4 m d4] 25)) := (Below.refl _ w4).alloc (Nat.le_refl _) _; have HW5 := Lib.hid (own_keep (own_keep HW3.out fun k hk hlt => hgrow4.block k hlt fun e => by { have h9 := (HW2.out.lt k hk).2; have e9 : k = w2.heap.size := by { injection e }; omega }) fun k _ hk => hb5.block k hk); have HV5 := Lib.hid (own_keep HW4.out fun k _ hk => hb5.block k hk); have HB5 := Lib.hid (HB4.out.trans (hb5.mono (by omega))); clear hown4 hgrow4 hb5))
    | (at_builtin; go_loud (refine wpList_append_any _ rfl (.tmp 7) (.tmp 11) 29 rfl w.heap.size 25 i25 (.slice none 0 0) 1 24 Tryz.underlying29 HI25.out HZ250.out HZ251.out HZ252.out rfl (by omega) (.slice A2 n d2) n us rfl HW5.out (w4.heap.size + 1) (some ⟨w4.heap.size, 0, none⟩) 1 1 [.slice A4 m d4] rfl (reads_new1 _ _ _) (slice_one _ _ _) (by simp [maxLen]; omega) (by omega) (by simp; omega) ?_; intro v6 w6 hown6 hgrow6 _; obtain ⟨A6, d6, hv6⟩ := own_slice hown6; subst hv6; have hs6 := hgrow6.size; rw [World.size_alloc] at hs6; have HW6 := Lib.hid hown6; have HV6 := Lib.hid (show w6.ownsRow w2.heap.size 5 1 (.slice A4 m d4) m (bytesV b) from own_keep HV5.out fun k hk hlt => hgrow6.block k hlt fun e2 => (IsT.of_own HW5.out e2.symm).ne (IsT.of_own HV5.out hk) (by decide) rfl); have HB6 := Lib.hid (HB5.out.grown hgrow6 (by simp; omega) (fun k hk => (HW5.out.lt k hk).1)); clear hown6 hgrow6)))
  go_ret
  refine ⟨_, rfl, ?_, HB6.out⟩
  have hc6 := own_capv HW6.out
  refine ⟨A6, d6, us ++ [.slice A4 m d4], by rw [List.length_append, ← HN.out]; rfl, by rw [List.length_append, ← HN.out]; exact hc6, by rw [List.length_append, ← HN.out]; exact Reads.of_own HW6.out, fun ad e _ => .inr ?_, fun i z y h1 h2 => ?_⟩
  · exact HW6.out.lt ad.block (by rw [e]; rfl)
  · rcases Nat.lt_or_ge i n with h3 | h3
    · rw [List.getElem?_append_left (by rw [HUN.out]; exact h3)] at h1
      rw [List.getElem?_append_left (by rw [← HN.out]; exact h3)] at h2
      exact ((HE0.out i z y h1 h2).below HB6.out).mono fun k _ h => .inl h
    · rw [List.getElem?_append_right (by rw [HUN.out]; exact h3), HUN.out] at h1
      rw [List.getElem?_append_right (by rw [← HN.out]; exact h3), ← HN.out] at h2
      have hi : i - n = 0 := by have := (List.getElem?_eq_some_iff.1 h1).1; simp at this; omega
      rw [hi] at h1 h2
      simp only [List.getElem?_cons_zero, Option.some.injEq] at h1 h2
      subst h1 h2
      have hv6 := HV6.out
      rw [HM.out] at hv6 ⊢
      have h9 : RecAt w6 (fun k => G k ∨ (w.heap.size ≤ k ∧ k < w6.heap.size)) (.slice A4 b.length d4) b := ⟨own_low hv6 (Nat.zero_le _), fun k hk => .inr ⟨by have := (hv6.lt k hk).1; omega, (hv6.lt k hk).2⟩⟩
      exact h9.read
end Go.Proofs.YtfchnpdgnhoffaaGreatDoor
