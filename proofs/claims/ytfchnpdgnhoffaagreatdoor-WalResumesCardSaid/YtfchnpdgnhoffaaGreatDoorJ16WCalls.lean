/- The walks of hindered (29) and calls (12). calls (12), of the statements' world as a whole. The walk of opened (17). The walk of does (19): an append. The walk of does (19): a checkpoint. -/
import Derived.Test.YtfchnpdgnhoffaaGreatDoorJ15WCheck
namespace Go.Proofs.YtfchnpdgnhoffaaGreatDoor
open Go.RowKit Go.Shelf Go.Maps

def HindR (w : World) (l : List Int) (a b : Int) (i : Value) (wr : World) : Prop := ∃ k : Nat, k ≤ l.length ∧ i = .int .i64 k ∧ wr = w ∧ ∀ t ∈ l.take k, ¬ (a ≤ t ∧ t < b)
set_option maxRecDepth 100000 in
set_option maxHeartbeats 3200000 in
theorem hindered_any (w : World) (wp p n : Nat) (Fl : Nat → Prop) (x : PS) (L : Value) (vc vm vs : Value) (st : Int) (l : List Int) (from_ : Int) (hd : Dk w Fl p n x) (hb : Blk w wp 32 #[.pointer (some ⟨p, 0, none⟩), L, vc, vm, vs, .int .i64 st])
    (ho : w.ownsRow 0 3 1 vs l.length (intsV l)) (hl : l.length ≤ 100000) (hh : Hind l st from_ (x.count : Int)) :
    Calls Tryz.prog 29 #[.pointer (some ⟨wp, 0, none⟩), .int .i64 from_] w fun e w' => e = .returned (.bool true) ∧ w' = w := by
  obtain ⟨n0, hn0⟩ : ∃ n, n = l.length := ⟨_, rfl⟩
  rw [← hn0] at ho hl
  obtain ⟨A, c, hv⟩ := own_slice ho
  subst hv
  have hR := Reads.of_own ho
  have c0 : w.cell? ⟨wp, 0, none⟩ = some (.pointer (some ⟨p, 0, none⟩)) := hb.cell 0
  have c4 : w.cell? ⟨wp, 4, none⟩ = some (.slice A n0 c) := hb.cell 4
  have c5 : w.cell? ⟨wp, 5, none⟩ = some (.int .i64 st) := hb.cell 5
  obtain ⟨tt, hto⟩ : ∃ tt : Int, tt = (x.count : Int) := ⟨_, rfl⟩
  rw [← hto] at hh
  have HTO := Lib.hid hto
  have HD := Lib.hid hd
  have HR := Lib.hid hR
  have HN := Lib.hid hn0
  have HH := Lib.hid hh
  clear hd hR hn0 hh hb ho hto
  go_enter Tryz.func29, Tryz.ntmps29
  go_wp2_with fail
  refine (dk_ops w Fl p n x HD.out).mono ?_
  rintro e w' ⟨rfl, rfl⟩
  rw [← HTO.out]
  go_wp2_with fail
  go_loopw [6] (fun i wr => HindR w' l from_ tt i wr) (fun i _ => n0 - (intOf i).toNat)
  case atStart => exact ⟨0, Nat.zero_le _, rfl, rfl, fun t ht => by cases ht⟩
  case round =>
    obtain ⟨wx, hwx⟩ : ∃ wx, wx = wr := ⟨_, rfl⟩
    subst hwx
    obtain ⟨k, hk, rfl, hw, hno⟩ := hrel
    subst hw
    have hk : k ≤ n0 := by rw [HN.out]; exact hk
    have HNO := Lib.hid hno
    clear hno
    by_cases hlt : k < n0
    · obtain ⟨ad, hA, hg, hcell⟩ := HR.out.2 (by omega)
      subst hA
      have hkl : k < l.length := by rw [← HN.out]; exact hlt
      obtain ⟨z, hz⟩ : ∃ z, z = l[k] := ⟨_, rfl⟩
      have d0 : wx.cell? (ad.add k) = some (.int .i64 z) := hcell k _ (by unfold intsV; rw [List.getElem?_map, List.getElem?_eq_getElem hkl, hz]; rfl)
      have HTK := Lib.hid (show l.take (k + 1) = l.take k ++ [z] by rw [hz]; exact List.take_succ_eq_append_getElem hkl)
      clear hcell hz
      by_cases h1 : from_ ≤ z
      · by_cases h2 : z < tt
        · go_wp2
          go_ret
          exact ⟨rfl, rfl⟩
        · go_wp2
          refine ⟨⟨k + 1, by rw [← HN.out]; omega, by go_num, rfl, fun t ht => ?_⟩, by simp [intOf]; omega⟩
          rw [HTK.out] at ht
          rcases List.mem_append.1 ht with ht | ht
          · exact HNO.out t ht
          · rw [List.mem_singleton.1 ht]; exact fun h => h2 h.2
      · go_wp2
        refine ⟨⟨k + 1, by rw [← HN.out]; omega, by go_num, rfl, fun t ht => ?_⟩, by simp [intOf]; omega⟩
        rw [HTK.out] at ht
        rcases List.mem_append.1 ht with ht | ht
        · exact HNO.out t ht
        · rw [List.mem_singleton.1 ht]; exact fun h => h1 h.1
    · obtain rfl : k = n0 := by omega
      have hst : 0 ≤ st ∧ st < tt := by
        rcases HH.out with ⟨t, h1, h2, h3⟩ | h
        · exact absurd ⟨h2, h3⟩ (HNO.out t (by rw [HN.out, List.take_length]; exact h1))
        · exact h
      obtain ⟨hs1, hs2⟩ := hst
      go_wp2
      go_ret
      exact ⟨rfl, rfl⟩
section
variable {w : World} {wp lp p n last : Nat} {Fl : Nat → Prop} {x : PS} {c : List Rec} {vc vm vs v : Value} {st : Int} {fl : Bool}
set_option maxHeartbeats 3200000 in
/-- a call that was taken -/
theorem calls_ok (from_ : Int) (hb : Blk w wp 32 #[.pointer (some ⟨p, 0, none⟩), .pointer (some ⟨lp, 0, none⟩), vc, vm, vs, .int .i64 st]) (hl : LogAt w Fl lp p n x c last false) (hf : ¬ Fl wp) (hv : ∃ A m d, v = .slice A m d) (hvc : ∃ A m d, vc = .slice A m d) (hvm : ∃ A m d, vm = .slice A m d) :
    Calls Tryz.prog 12 #[.pointer (some ⟨wp, 0, none⟩), v, .int .i64 0, .int .i64 from_] w fun e w' => e = .returned (.bool true) ∧ Blk w' wp 32 #[.pointer (some ⟨p, 0, none⟩), .pointer (some ⟨lp, 0, none⟩), v, .slice none 0 0, vs, .int .i64 st] ∧ w.grownBy w' (some wp) ∧ w'.heap.size = w.heap.size := by
  obtain ⟨A, m, d, rfl⟩ := hv
  obtain ⟨Ac, mc, dc, rfl⟩ := hvc
  obtain ⟨Am, mm, dm, rfl⟩ := hvm
  obtain ⟨w2, hw2⟩ : ∃ w2, w2 = (w.setCell ⟨wp, 2, none⟩ (.slice A m d)).setCell ⟨wp, 3, none⟩ (.slice none 0 0) := ⟨_, rfl⟩
  have hb2 : Blk w2 wp 32 #[.pointer (some ⟨p, 0, none⟩), .pointer (some ⟨lp, 0, none⟩), .slice A m d, .slice none 0 0, vs, .int .i64 st] := by rw [hw2]; exact (hb.set_ 2 _).set_ 3 _
  have hg2 : w.grownBy w2 (some wp) := by rw [hw2]; exact only_setCell (only_setCell (only_refl _ _) (p := ⟨wp, 2, none⟩) (.inl rfl) _) (p := ⟨wp, 3, none⟩) (.inl rfl) _
  have hs2 : w2.heap.size = w.heap.size := by rw [hw2]; simp [World.setCell]
  have hl2 : LogAt w2 Fl lp p n x c last false := hl.keep fun k hk hlt => hg2.block k hlt fun e => by injection e with e; exact hf (e ▸ hk)
  have c2 : w.cell? ⟨wp, 2, none⟩ = some (.slice Ac mc dc) := hb.cell 2
  have c3 : (w.setCell ⟨wp, 2, none⟩ (.slice A m d)).cell? ⟨wp, 3, none⟩ = some (.slice Am mm dm) := (hb.set_ 2 _).cell 3
  have z2 := hb.frozen 2
  have z3 : (w.setCell ⟨wp, 2, none⟩ (.slice A m d)).frozen? ⟨wp, 3, none⟩ = false := (hb.set_ 2 _).frozen 3
  have c1 : w2.cell? ⟨wp, 1, none⟩ = some (.pointer (some ⟨lp, 0, none⟩)) := hb2.cell 1
  have HW2 := Lib.hid hw2
  have HB2 := Lib.hid hb2
  have HG2 := Lib.hid hg2
  have HS2 := Lib.hid hs2
  have HL2 := Lib.hid hl2
  clear hb hl hf hw2 hb2 hg2 hs2 hl2
  go_enter Tryz.func12, Tryz.ntmps12
  go_upto_region 4 with fail
  rw [← HW2.out]
  go_wp2_with fail
  refine (failed_any HL2.out).mono ?_
  rintro e w3 ⟨rfl, rfl⟩
  go_wp2
  go_ret
  exact ⟨rfl, HB2.out, HG2.out, HS2.out⟩
theorem info29 : (Tryz.prog.info? 29).map (fun i => (i.zero, i.size, i.bytes)) = some (some (.slice none 0 0), 1, 24) := by kernel_rfl
def CallsBad (w : World) (wp lp p : Nat) (vc vm vs v : Value) (st : Int) (nm : Nat) (us : List Value) (e : Ending) (w' : World) : Prop :=
  ∃ vm', e = .returned (.bool true) ∧ Blk w' wp 32 #[.pointer (some ⟨p, 0, none⟩), .pointer (some ⟨lp, 0, none⟩), vc, vm', vs, .int .i64 st] ∧ w'.ownsRow 0 29 1 vm' (nm + 1) (us ++ [v]) ∧
    (vm'.ownBlock = vm.ownBlock ∨ ∀ k, vm'.ownBlock = some k → w.heap.size ≤ k ∧ k < w'.heap.size) ∧ Chg (fun k => k = wp ∨ vm.ownBlock = some k) w w'
set_option maxRecDepth 100000 in
set_option maxHeartbeats 6400000 in
/-- a call that was refused -/
theorem calls_bad (er from_ : Int) (her : er = 6 ∨ er = 7) (nm : Nat) (us : List Value) (l : List Int) (hb : Blk w wp 32 #[.pointer (some ⟨p, 0, none⟩), .pointer (some ⟨lp, 0, none⟩), vc, vm, vs, .int .i64 st]) (hl : LogAt w Fl lp p n x c last true) (hf : ¬ Fl wp)
    (hv : ∃ A m d, v = .slice A m d) (ho : w.ownsRow 0 29 1 vm nm us) (hm : nm ≤ 100000) (hmf : ∀ y, vm.ownBlock = some y → ¬ Fl y) (hs : w.ownsRow 0 3 1 vs l.length (intsV l)) (hll : l.length ≤ 100000) (hh : Hind l st from_ (x.count : Int)) :
    Calls Tryz.prog 12 #[.pointer (some ⟨wp, 0, none⟩), v, .int .i64 er, .int .i64 from_] w (CallsBad w wp lp p vc vm vs v st nm us) := by
  obtain ⟨i29, hi29, hz290, hz291, hz292⟩ := info_parts info29
  have HI29 := Lib.hid hi29
  have HZ290 := Lib.hid hz290
  have HZ291 := Lib.hid hz291
  have HZ292 := Lib.hid hz292
  obtain ⟨A, m, d, rfl⟩ := hv
  obtain ⟨Am, dm, hvm⟩ := own_slice ho
  subst hvm
  have c3 : w.cell? ⟨wp, 3, none⟩ = some (.slice Am nm dm) := hb.cell 3
  have hne0 : er ≠ 0 := by omega
  have hwlt := hb.lt
  have HB := Lib.hid hb
  have HL := Lib.hid hl
  have HO := Lib.hid ho
  have HMF := Lib.hid hmf
  have HS := Lib.hid hs
  have HH := Lib.hid hh
  have HFW := Lib.hid hf
  clear hb hl ho hmf hs hh hi29 hz290 hz291 hz292 hf
  go_enter Tryz.func12, Tryz.ntmps12
  go_upto_region 6 with (at_builtin; (refine wpList_append_any _ rfl (.tmp 28) (.tmp 30) 30 rfl 0 29 i29 (.slice none 0 0) 1 24 Tryz.underlying30 HI29.out HZ290.out HZ291.out HZ292.out rfl (by omega) (.slice Am nm dm) nm us rfl (HO.out.alloc _) (w.heap.size + 1) (some ⟨w.heap.size, 0, none⟩) 1 1 [.slice A m d] rfl (reads_new1 _ _ _) (slice_one _ _ _) (by simp [maxLen]; omega) (by omega) (by simp) ?_; intro v2 w2 hown2 hgrow2 hor2; obtain ⟨A2, d2, hv2⟩ := own_slice hown2; subst hv2; have hs2 := hgrow2.size; rw [World.size_alloc] at hs2; have hne2 : (Value.slice Am nm dm).ownBlock ≠ some wp := fun e2 => (IsT.of_own HO.out e2).ne (IsT.of_blk HB.out) (by decide) rfl; have hb2 := ((HB.out.alloc (.cells #[.slice A m d] 29)).grown hgrow2 (fun e2 => hne2 e2.symm)); have z23 := hb2.frozen 3; have y23 : w2.cell? ⟨wp, 3, none⟩ = some (.slice Am nm dm) := hb2.cell 3; have HB2 := Lib.hid hb2; have HW2 := Lib.hid hown2; have HG2 := Lib.hid hgrow2; have HOR := Lib.hid hor2; clear hown2 hgrow2 hb2 hor2 hne2))
  obtain ⟨w3, hw3⟩ : ∃ w3, w3 = w2.setCell ⟨wp, 3, none⟩ (.slice A2 (nm + 1) d2) := ⟨_, rfl⟩
  rw [← hw3]
  have hb3 : Blk w3 wp 32 #[.pointer (some ⟨p, 0, none⟩), .pointer (some ⟨lp, 0, none⟩), vc, .slice A2 (nm + 1) d2, vs, .int .i64 st] := by rw [hw3]; exact HB2.out.set_ 3 _
  have hs3 : w3.heap.size = w2.heap.size := by rw [hw3]; simp [World.setCell]
  have hk3 : ∀ k, k ≠ wp → w3.heap[k]? = w2.heap[k]? := fun k hk => by rw [hw3]; exact Below.heap_setCell _ _ _ _ hk
  have hch : Chg (fun k => k = wp ∨ (Value.slice Am nm dm).ownBlock = some k) w w3 := by
    rw [hw3]
    exact ((((Chg.refl _ w).alloc _).grown HG2.out fun g hg => .inl (.inr hg))).setCell (p := ⟨wp, 3, none⟩) (.inl (.inl rfl)) _
  have hl3 : LogAt w3 Fl lp p n x c last true := HL.out.keep fun k hk hlt => hch.block k hlt fun h => h.elim (fun e => HFW.out (e ▸ hk)) fun e => HMF.out k e hk
  have hs3' : w3.ownsRow 0 3 1 vs l.length (intsV l) := own_keep HS.out fun k e hlt => hch.block k hlt fun h => h.elim (fun e2 => (IsT.of_own HS.out e).ne (IsT.of_blk HB.out) (by decide) e2) fun e2 => (IsT.of_own HS.out e).ne (IsT.of_own HO.out e2) (by decide) rfl
  have ho3 : w3.ownsRow 0 29 1 (.slice A2 (nm + 1) d2) (nm + 1) (us ++ [.slice A m d]) := own_keep HW2.out fun k e hlt => hk3 k fun e2 => (IsT.of_own HW2.out e).ne (IsT.of_blk HB2.out) (by decide) e2
  have c1 : w3.cell? ⟨wp, 1, none⟩ = some (.pointer (some ⟨lp, 0, none⟩)) := hb3.cell 1
  have HB3 := Lib.hid hb3
  have HL3 := Lib.hid hl3
  have HS3 := Lib.hid hs3'
  have HO3 := Lib.hid ho3
  have HCH := Lib.hid hch
  have HOW := Lib.hid (show (Value.slice A2 (nm + 1) d2).ownBlock = (Value.slice Am nm dm).ownBlock ∨ ∀ k, (Value.slice A2 (nm + 1) d2).ownBlock = some k → w.heap.size ≤ k ∧ k < w3.heap.size from HOR.out.imp id fun e k hk => by
    have h9 := (HW2.out.lt k hk).2
    rw [hk] at e
    injection e with e
    rw [World.size_alloc] at e
    omega)
  clear hw3 hb3 hs3 hk3 hl3 hs3' ho3 hch z23 y23 c3
  rcases her with her | her
  all_goals
    subst her
    go_wp2_with fail
    refine (hindered_any w3 wp p n Fl x (.pointer (some ⟨lp, 0, none⟩)) vc (.slice A2 (nm + 1) d2) vs st l from_ HL3.out.dk HB3.out HS3.out hll HH.out).mono ?_
    rintro e w4 ⟨rfl, hw4⟩
    subst hw4
    go_wp2_with fail
    refine (failed_any HL3.out).mono ?_
    rintro e w5 ⟨rfl, hw5⟩
    subst hw5
    go_wp2
    go_ret
    exact ⟨_, rfl, HB3.out, HO3.out, HOW.out, HCH.out⟩
end
end Go.Proofs.YtfchnpdgnhoffaaGreatDoor
namespace Go.Proofs.YtfchnpdgnhoffaaGreatDoor
open Go.RowKit Go.Shelf Go.Maps

/-- what a call answered, and what it leaves of the plain world -/
structure Told (s b : LS) (l : List Rec) (er from_ : Int) : Prop where
  struck : b.struck = s.struck
  stop : b.stop = s.stop
  res : (er = 0 ∧ b.c = l ∧ b.may = [] ∧ b.fl = false) ∨ ((er = 6 ∨ er = 7) ∧ b.c = s.c ∧ b.may = s.may ++ [l] ∧ b.fl = true ∧ Hind s.struck s.stop from_ (b.x.count : Int))
theorem recs_slice {w : World} {G : Nat → Prop} {v : Value} {l : List Rec} (h : RecsR w G v l) : ∃ A m d, v = .slice A m d := by
  obtain ⟨A, c, vs, e, -⟩ := h
  exact ⟨A, _, c, e⟩
set_option maxHeartbeats 1600000 in
theorem calls_any (w : World) (F G H : Nat → Prop) (wp n : Nat) (b s : LS) (lp p : Nat) (Fl : Nat → Prop) (vc vm vs v : Value) (h : WSt w F G wp n b s lp p Fl vc vm vs) (l : List Rec) (hv : RecsR w H v l) (hH : ∀ y, H y → ¬ F y) (er from_ : Int) (ht : Told s b l er from_)
    (hml : s.may.length ≤ 100) (hsl : s.struck.length ≤ 100) :
    Calls Tryz.prog 12 #[.pointer (some ⟨wp, 0, none⟩), v, .int .i64 er, .int .i64 from_] w fun e w' => e = .returned (.bool true) ∧ WPost w F wp n b w' := by
  obtain ⟨us, hmo, hmr⟩ := h.may
  rcases ht.res with ⟨rfl, h1, h2, h3⟩ | ⟨h0, h1, h2, h3, h4⟩
  · have hlg := h.log
    rw [h3] at hlg
    have hvm : ∃ A m d, vm = .slice A m d := by obtain ⟨A, d, e⟩ := own_slice hmo; exact ⟨A, _, d, e⟩
    refine (calls_ok from_ h.blk hlg h.far (recs_slice hv) (recs_slice h.cont) hvm).mono ?_
    rintro e w' ⟨rfl, hb, hg, hs⟩
    have hk : ∀ k, k < w.heap.size → k ≠ wp → w'.heap[k]? = w.heap[k]? := fun k hlt hk => hg.block k hlt fun e => hk (by injection e)
    have hc : Chg F w w' := (Chg.refl F w).grown hg fun g e => .inl (by injection e with e; rw [← e]; exact h.own)
    refine ⟨rfl, F, fun y hy => .inl hy, ⟨H, lp, p, Fl, v, .slice none 0 0, vs, ?_⟩, hc⟩
    exact {
      log := by rw [h3]; exact hlg.keep fun k hk2 hlt => hk k hlt fun e => h.far (e ▸ hk2)
      blk := by rw [ht.stop]; exact hb
      cont := by rw [h1]; exact hv.keep (Nat.le_of_eq hs.symm) fun k hk2 hlt => hk k hlt fun e => hH k hk2 (by rw [e]; exact h.own)
      may := by rw [h2]; exact MayAt.nil _ _
      struck := by
        rw [ht.struck]
        exact own_keep h.struck fun k e hlt => hk k hlt fun e2 => (IsT.of_own h.struck e).ne (IsT.of_blk h.blk) (by decide) e2
      own := h.own
      far := h.far
      sub := h.sub
      mayF := fun y e => by cases e
      strF := h.strF
      disj := hH
      lt := fun y hy => by rw [hs]; exact h.lt y hy
      syn := h.syn.chg hc h.no0
      no0 := h.no0 }
  · have hlg := h.log
    rw [h3] at hlg
    refine (calls_bad er from_ h0 s.may.length us s.struck h.blk hlg h.far (recs_slice hv) hmo (by omega) (fun y e => (h.mayF y e).2) h.struck (by omega) h4).mono ?_
    rintro e w' ⟨vm', rfl, hb, ho, hor, hch⟩
    have hF : ∀ y, vm.ownBlock = some y → F y := fun y e => (h.mayF y e).1
    have hc : Chg F w w' := hch.weak fun k hk => hk.elim (fun e => e ▸ h.own) fun e => hF k e
    have hsub : ∀ k, G k ∨ H k → ¬ F k := fun k hk => hk.elim (h.disj k) (hH k)
    have hrk : ∀ {u : Value} {m : List Rec} {K : Nat → Prop}, RecsR w K u m → (∀ k, K k → G k ∨ H k) → RecsR w' (fun k => (G k ∨ H k) ∧ k < w.heap.size) u m := fun hr hK =>
      (hr.mono fun k hlt hk => ⟨hK k hk, hlt⟩).keep hch.size fun k hk hlt => hc.block k hlt fun hf => hsub k hk.1 hf
    refine ⟨rfl, New F w w', fun y hy => hy, ⟨fun k => (G k ∨ H k) ∧ k < w.heap.size, lp, p, Fl, vc, vm', vs, ?_⟩, hc⟩
    exact {
      log := by rw [h3]; exact hlg.keep fun k hk2 hlt => hch.block k hlt fun hk => hk.elim (fun e => h.far (e ▸ hk2)) fun e => (h.mayF k e).2 hk2
      blk := by rw [ht.stop]; exact hb
      cont := by rw [h1]; exact hrk h.cont fun k hk => .inl hk
      may := by
        rw [h2]
        have hul : us.length = s.may.length := by have := hmo.1; omega
        refine ⟨us ++ [v], by rw [List.length_append]; exact ho, fun i u m e1 e2 => ?_⟩
        rcases Nat.lt_or_ge i us.length with h5 | h5
        · rw [List.getElem?_append_left h5] at e1
          rw [List.getElem?_append_left (by omega)] at e2
          exact hrk (hmr i u m e1 e2) fun k hk => .inl hk
        · rw [List.getElem?_append_right h5] at e1
          rw [List.getElem?_append_right (by omega), ← hul] at e2
          have hi : i - us.length = 0 := by have := (List.getElem?_eq_some_iff.1 e1).1; simp at this; omega
          rw [hi] at e1 e2
          simp only [List.getElem?_cons_zero, Option.some.injEq] at e1 e2
          subst e1 e2
          exact hrk hv fun k hk => .inr hk
      struck := by
        rw [ht.struck]
        exact own_keep h.struck fun k e hlt => hch.block k hlt fun hk => hk.elim (fun e2 => (IsT.of_own h.struck e).ne (IsT.of_blk h.blk) (by decide) e2) fun e2 => (IsT.of_own h.struck e).ne (IsT.of_own hmo e2) (by decide) rfl
      own := .inl h.own
      far := h.far
      sub := fun y hy => .inl (h.sub y hy)
      mayF := fun y e => by
        rcases hor with h5 | h5
        · exact ⟨.inl (h.mayF y (h5 ▸ e)).1, (h.mayF y (h5 ▸ e)).2⟩
        · exact ⟨.inr (h5 y e), fun hf => by have := h.lt y (h.sub y hf); have := (h5 y e).1; omega⟩
      strF := fun y e => ⟨.inl (h.strF y e).1, (h.strF y e).2⟩
      disj := fun y hy hf => hf.elim (hsub y hy.1) fun hf => by have := hy.2; omega
      lt := fun y hy => hy.elim (fun hy => Nat.lt_of_lt_of_le (h.lt y hy) hch.size) fun hy => hy.2
      syn := h.syn.chg hc h.no0
      no0 := fun hf => hf.elim h.no0 fun hf => by have := h.syn.lt; omega }
end Go.Proofs.YtfchnpdgnhoffaaGreatDoor
namespace Go.Proofs.YtfchnpdgnhoffaaGreatDoor
open Go.RowKit Go.Shelf Go.Maps

def okAt (c0 : List Rec) (may : List (List Rec)) (c : List Rec) (i : Nat) : Bool := decide (c = c0 ∨ c ∈ may.take i)
def OpenR (w : World) (c0 : List Rec) (may : List (List Rec)) (c : List Rec) (o i : Value) (wr : World) : Prop := ∃ k q : Nat, k ≤ may.length ∧ o = .bool (okAt c0 may c k) ∧ i = .int .i64 k ∧ wr = w.drewN q
/-- the disk tells what t says -/
structure Opens (a t : LS) : Prop where
  x : t.x = a.x
  may : t.may = []
  fl : t.fl = false
theorem LS.refit {t : LS} {a : List Int} {b : Int} (h1 : t.struck = a) (h2 : t.stop = b) : ({ t with struck := a, stop := b } : LS) = t := by
  subst h1 h2
  rfl
set_option maxRecDepth 100000 in
set_option maxHeartbeats 12800000 in
theorem opened_any (w : World) (F G : Nat → Prop) (wp n k : Nat) (a s t : LS) (lp p : Nat) (Fl : Nat → Prop) (vc vm vs : Value) (h : WSt w F G wp n a s lp p Fl vc vm vs) (hn : n ≤ 9990) (ht : t.Ok k) (hk : k ≤ 90) (ho : Opens a t)
    (cr : Bool) (hsz : Sz 90 s.c) (hmz : ∀ l ∈ s.may, Sz 90 l) (hml : s.may.length ≤ 100) (hc : t.c = s.c ∨ (cr = true ∧ t.c ∈ s.may)) :
    Calls Tryz.prog 17 #[.pointer (some ⟨wp, 0, none⟩), .bool cr] w fun e w' => e = .returned (.bool true) ∧ WPost w F wp n { t with struck := s.struck, stop := s.stop } w' := by
  obtain ⟨E2, e1, e2, e3⟩ := Inv.finds (c := t.c) (by have := ht.inv; rwa [ho.may] at this)
  obtain ⟨Fd, hd, hdF, -⟩ := h.log.disk (w' := w) (n' := n) (y := a.x) (fun k hk => h.lt k (h.sub k hk))
  have hlast := ht.last
  have hlB := ht.inv.lastB
  have c0 : w.cell? ⟨wp, 0, none⟩ = some (.pointer (some ⟨p, 0, none⟩)) := h.blk.cell 0
  have hFd : ∀ k, Fd k → k < w.heap.size := fun k hk => h.lt k (h.sub k (hdF k hk))
  have H := Lib.hid h
  have HT := Lib.hid ht
  have HO := Lib.hid ho
  have HC := Lib.hid hc
  have HSZ := Lib.hid hsz
  have HMZ := Lib.hid hmz
  have HD := Lib.hid hd
  have HDF := Lib.hid hdF
  have HFD := Lib.hid hFd
  have HE1 := Lib.hid e1
  have HE2 := Lib.hid e2
  have HE3 := Lib.hid e3
  clear h ht ho hc hsz hmz hd hdF hFd e1 e2 e3
  go_enter Tryz.func17, Tryz.ntmps17
  go_wp2_with fail
  refine (open_any w Fd p n a.x t.N (t.last + 1) E2 t.c t.last HD.out (by omega) HFD.out H.out.syn (by have := HE1.out; rwa [HO.out.x] at this) (by omega) (by have := HE2.out; rwa [HO.out.x] at this) (fun y hy => (HT.out.inv.filesB y (by rw [HO.out.x]; exact hy)).1) HE3.out (HT.out.cS.sm (by omega))).mono ?_
  rintro e w1 ⟨lp1, v1, mid, rfl, hlp1, hm1, hm2, hlog1, hv1, hb1⟩
  have hs1 := hb1.size
  have HB1 := Lib.hid hb1
  have h1 := H.out.below hb1
  have HW1 := Lib.hid h1
  have HL1 := Lib.hid hlog1
  have hr1 := hv1.at_.read
  have HV1 := Lib.hid hv1
  have HR1 := Lib.hid hr1
  obtain ⟨A1, d1, us1, hv1e, -⟩ := hr1
  subst hv1e
  have hlt1 := hlog1.lt
  obtain ⟨A0, dc0, us0, hvc, -⟩ := h1.cont
  subst hvc
  have c2 : w1.cell? ⟨wp, 2, none⟩ = some (.slice A0 s.c.length dc0) := h1.blk.cell 2
  have htc := HT.out.cS.1
  clear h1 hb1 hlog1 hv1 c0 hlp1
  go_wp2_with fail
  refine (rows_any w1 _ _ _ _ t.c s.c HR1.out HW1.out.cont (by omega) (fun y hy => by have := HT.out.cS.2 y hy; omega) (fun y hy => by have := HSZ.out.2 y hy; omega)).mono ?_
  rintro e w2 ⟨rfl, q2, rfl⟩
  have c2' := c2
  clear c2
  obtain ⟨us, hmo, hmr⟩ := HW1.out.may
  obtain ⟨Am, dm, hvm⟩ := own_slice hmo
  obtain ⟨nm, hnm⟩ : ∃ nm, nm = s.may.length := ⟨_, rfl⟩
  have HNM := Lib.hid hnm
  have HMO := Lib.hid hmo
  have HMR := Lib.hid hmr
  subst hvm
  have c3 : w1.cell? ⟨wp, 3, none⟩ = some (.slice Am nm dm) := by rw [HNM.out]; exact HW1.out.blk.cell 3
  have hRM := Lib.hid (Reads.of_own (show w1.ownsRow 0 29 1 (.slice Am nm dm) nm us by rw [HNM.out]; exact HMO.out))
  have hnm2 : nm ≤ 100 := by rw [HNM.out]; exact hml
  have hul : us.length = nm := by have := HMO.out.1; rw [HNM.out]; omega
  have HUL := Lib.hid hul
  have HEND := Lib.hid (show ∀ q : Nat, ∃ w5, w5 = (((w1.drewN q).setCell ⟨wp, 1, none⟩ (.pointer (some ⟨lp1, 0, none⟩))).setCell ⟨wp, 2, none⟩ (.slice A1 t.c.length d1)).setCell ⟨wp, 3, none⟩ (.slice none 0 0) ∧ WPost w F wp n { t with struck := s.struck, stop := s.stop } w5 ∧ ∃ x5 c5 last5 F5, LogAt w5 F5 lp1 p n x5 c5 last5 false from fun q => by
    obtain ⟨w5, hw5⟩ : ∃ w5, w5 = (((w1.drewN q).setCell ⟨wp, 1, none⟩ (.pointer (some ⟨lp1, 0, none⟩))).setCell ⟨wp, 2, none⟩ (.slice A1 t.c.length d1)).setCell ⟨wp, 3, none⟩ (.slice none 0 0) := ⟨_, rfl⟩
    have hs5 : w5.heap.size = w1.heap.size := by rw [hw5]; simp [World.setCell]
    have hk5 : ∀ k, k ≠ wp → w5.heap[k]? = w1.heap[k]? := fun k hk => by
      rw [hw5]
      exact (Below.heap_setCell _ _ _ _ hk).trans ((Below.heap_setCell _ _ _ _ hk).trans (Below.heap_setCell _ _ _ _ hk))
    have hb5 : Blk w5 wp 32 #[.pointer (some ⟨p, 0, none⟩), .pointer (some ⟨lp1, 0, none⟩), .slice A1 t.c.length d1, .slice none 0 0, vs, .int .i64 s.stop] := by
      rw [hw5]
      exact (((HW1.out.blk.drewN q).set_ 1 _).set_ 2 _).set_ 3 _
    have hwlt := H.out.blk.lt
    have hwF : ¬ (Fd wp ∨ (w.heap.size ≤ wp ∧ wp < mid)) := fun h => h.elim (fun h => H.out.far (HDF.out wp h)) fun h => by omega
    have hl5 : LogAt w5 (fun k => Fd k ∨ (w.heap.size ≤ k ∧ k < mid)) lp1 p n t.x t.c t.last false := by
      rw [HO.out.x]
      exact HL1.out.keep fun k hk _ => hk5 k fun e => hwF (e ▸ hk)
    have hc5 : Chg F w w5 := by
      rw [hw5]
      have h9 : Chg F w (w1.drewN q) := ((Chg.refl F w).below HB1.out (Nat.le_refl _)).drewN q
      exact ((h9.setCell (p := ⟨wp, 1, none⟩) (.inl H.out.own) _).setCell (p := ⟨wp, 2, none⟩) (.inl H.out.own) _).setCell (p := ⟨wp, 3, none⟩) (.inl H.out.own) _
    refine ⟨w5, hw5, ⟨fun y => F y ∨ (w.heap.size ≤ y ∧ y < mid), fun y hy => hy.elim .inl fun h => .inr ⟨h.1, by omega⟩, ?_, hc5⟩, ⟨_, _, _, _, hl5⟩⟩
    refine ⟨fun y => mid ≤ y ∧ y < w1.heap.size, lp1, p, fun k => Fd k ∨ (w.heap.size ≤ k ∧ k < mid), .slice A1 t.c.length d1, .slice none 0 0, vs, ?_⟩
    exact {
      log := by show LogAt w5 _ lp1 p n t.x t.c t.last t.fl; rw [HO.out.fl]; exact hl5
      blk := hb5
      cont := HR1.out.keep (by omega) fun k hk _ => hk5 k fun e => by subst e; omega
      may := by show MayAt w5 _ _ t.may; rw [HO.out.may]; exact MayAt.nil _ _
      struck := own_keep HW1.out.struck fun k e _ => hk5 k fun e2 => (IsT.of_own HW1.out.struck e).ne (IsT.of_blk HW1.out.blk) (by decide) e2
      own := .inl H.out.own
      far := hwF
      sub := fun y hy => hy.elim (fun h => .inl (H.out.sub y (HDF.out y h))) .inr
      mayF := fun y e => by cases e
      strF := fun y e => ⟨.inl (H.out.strF y e).1, fun h => h.elim (fun h => (H.out.strF y e).2 (HDF.out y h)) fun h => by have := H.out.lt y (H.out.strF y e).1; omega⟩
      disj := fun y hy h => h.elim (fun h => by have := H.out.lt y h; omega) fun h => by omega
      lt := fun y hy => hy.elim (fun h => by have := H.out.lt y h; omega) fun h => by omega
      syn := HW1.out.syn.chg (F := fun y => y = wp) ⟨by rw [hw5]; rfl, by rw [hw5]; rfl, by rw [hw5]; rfl, by omega, fun k _ hk => hk5 k hk⟩ fun e => H.out.no0 (e ▸ H.out.own)
      no0 := fun h => h.elim H.out.no0 fun h => by have := H.out.syn.lt; omega })
  clear hmo hmr hnm hul
  have z1 := (HW1.out.blk.drewN q2).frozen 1
  have HB01 := Lib.hid HW1.out.blk
  have c1 : w1.cell? ⟨wp, 1, none⟩ = some (.pointer (some ⟨lp, 0, none⟩)) := HB01.out.cell 1
  go_wp2_with fail
  go_loopw [8, 9] (fun o i wr => OpenR w1 s.c s.may t.c o i wr) (fun _ i _ => nm - (intOf i).toNat)
  case atStart => exact ⟨0, q2, Nat.zero_le _, by unfold okAt; simp, rfl, rfl⟩
  case round =>
    obtain ⟨j, q, hj, rfl, rfl, rfl⟩ := hrel
    have hj : j ≤ nm := by rw [HNM.out]; exact hj
    obtain ⟨ob, hob⟩ : ∃ ob, ob = okAt s.c s.may t.c j := ⟨_, rfl⟩
    rw [← hob]
    have HOB := Lib.hid hob
    obtain ⟨w5, hw5, hp5, x5, c5, last5, F5, hl5⟩ := HEND.out q
    have HW5 := Lib.hid hw5
    have HP5 := Lib.hid hp5
    have HL5 := Lib.hid hl5
    have z1 := (HB01.out.drewN q).frozen 1
    have k2 : ((w1.drewN q).setCell ⟨wp, 1, none⟩ (.pointer (some ⟨lp1, 0, none⟩))).cell? ⟨wp, 2, none⟩ = some (.slice A0 s.c.length dc0) := ((HB01.out.drewN q).set_ 1 _).cell 2
    have z2 := ((HB01.out.drewN q).set_ 1 (.pointer (some ⟨lp1, 0, none⟩))).frozen 2
    have k3 : (((w1.drewN q).setCell ⟨wp, 1, none⟩ (.pointer (some ⟨lp1, 0, none⟩))).setCell ⟨wp, 2, none⟩ (.slice A1 t.c.length d1)).cell? ⟨wp, 3, none⟩ = some (.slice Am nm dm) := by rw [HNM.out]; exact (((HB01.out.drewN q).set_ 1 _).set_ 2 _).cell 3
    have z3 := (((HB01.out.drewN q).set_ 1 (.pointer (some ⟨lp1, 0, none⟩))).set_ 2 (.slice A1 t.c.length d1)).frozen 3
    clear hob hw5 hp5 hl5
    by_cases hgo : cr = true ∧ j < nm
    case neg =>
      have hobt : ob = true := by
        rw [HOB.out]
        refine decide_eq_true ?_
        rcases HC.out with h | ⟨h1, h2⟩
        · exact .inl h
        · refine .inr ?_
          have : ¬ j < nm := fun h => hgo ⟨h1, h⟩
          rw [List.take_of_length_le (by rw [← HNM.out]; omega)]
          exact h2
      subst hobt
      by_cases hlt : j < nm
      · have hcf : cr = false := by
          cases cr with
          | false => rfl
          | true => exact absurd ⟨rfl, hlt⟩ hgo
        subst hcf
        clear hgo
        go_wp2_with fail
        rw [← HW5.out]
        refine (failed_any HL5.out).mono ?_
        rintro e w6 ⟨rfl, hw6⟩
        subst hw6
        go_wp2
        go_ret
        exact ⟨rfl, HP5.out⟩
      · clear hgo
        go_wp2_with fail
        rw [← HW5.out]
        refine (failed_any HL5.out).mono ?_
        rintro e w6 ⟨rfl, hw6⟩
        subst hw6
        go_wp2
        go_ret
        exact ⟨rfl, HP5.out⟩
    case pos =>
      obtain ⟨rfl, hlt⟩ := hgo
      obtain ⟨ad, hA, hg, hcell⟩ := hRM.out.2 (by omega)
      subst hA
      have hju : j < us.length := by rw [HUL.out]; exact hlt
      have hjm : j < s.may.length := by rw [← HNM.out]; exact hlt
      obtain ⟨m, hm⟩ : ∃ m, m = s.may[j] := ⟨_, rfl⟩
      have hrj := HMR.out j us[j] m (List.getElem?_eq_getElem hju) (by rw [hm]; exact List.getElem?_eq_getElem hjm)
      obtain ⟨Aj, dj, vj, hvj, -⟩ := id hrj
      have d0 : w1.cell? (ad.add j) = some (.slice Aj m.length dj) := hcell j _ (by rw [List.getElem?_eq_getElem hju, hvj])
      rw [hvj] at hrj
      have hml2 := HMZ.out m (by rw [hm]; exact List.getElem_mem _)
      have HRJ := Lib.hid hrj
      have HML := Lib.hid hml2
      have HST := Lib.hid (show okAt s.c s.may t.c (j + 1) = (ob || decide (t.c = m)) by
        rw [HOB.out]
        unfold okAt
        rw [List.take_succ_eq_append_getElem hjm, ← hm]
        simp only [List.mem_append, List.mem_singleton]
        by_cases h1 : t.c = s.c <;> by_cases h2 : t.c ∈ s.may.take j <;> by_cases h3 : t.c = m <;> simp [h1, h2, h3])
      clear hcell hm hrj hvj hml2
      cases ob with
      | true =>
        go_wp2
        refine ⟨⟨j + 1, q, by rw [← HNM.out]; omega, by rw [HST.out]; rfl, by go_num, rfl⟩, by simp [intOf]; omega⟩
      | false =>
        go_wp2_with fail
        refine (rows_any (w1.drewN q) _ _ _ _ t.c m (HR1.out.drewN q) (HRJ.out.drewN q) (by have := HT.out.cS.1; omega) (fun y hy => by have := HT.out.cS.2 y hy; omega) (fun y hy => by have := HML.out.2 y hy; omega)).mono ?_
        rintro e w2 ⟨rfl, q3, rfl⟩
        go_wp2
        refine ⟨⟨j + 1, _, by rw [← HNM.out]; omega, by rw [HST.out]; rfl, by go_num, rfl⟩, by simp [intOf]; omega⟩
end Go.Proofs.YtfchnpdgnhoffaaGreatDoor
namespace Go.Proofs.YtfchnpdgnhoffaaGreatDoor
open Go.RowKit Go.Shelf Go.Maps

structure OpL where
  do_ : Int
  n : Int
  k : Int
  rec_ : Rec
  recs : List Rec
  cuts : List Int
def I64 (z : Int) : Prop := -9223372036854775808 ≤ z ∧ z ≤ 9223372036854775807
/-- a thing that is to happen, as a value; what it reads lies in H -/
structure OpVal (w : World) (H : Nat → Prop) (o : OpL) (vr vrs vcu : Value) : Prop where
  rec_ : ByR w H vr o.rec_
  recs : RecsR w H vrs o.recs
  cuts : ∃ A c, vcu = .slice A o.cuts.length c ∧ o.cuts.length ≤ c ∧ Reads w w.heap.size 1 A o.cuts.length (intsV o.cuts)
  rL : o.rec_.length ≤ maxLen
  rsL : o.recs.length ≤ maxLen
  rbL : ∀ b ∈ o.recs, b.length ≤ maxLen
  i1 : I64 o.do_
  i2 : I64 o.n
theorem after_log {s s' : LS} {e : Ent} {q : Int × PS} (h : s.after s' e q) : s'.x = q.2 ∧ s'.c = (if q.1 = 0 then e.next s.c else s.c) ∧ s'.last = (if q.1 = 0 then s.last + 1 else s.last) ∧ s'.fl = decide (q.1 ≠ 0) := by
  unfold LS.after at h
  split at h
  · rename_i h0
    obtain ⟨N, E, rfl, -⟩ := h
    rw [if_pos h0, if_pos h0, decide_eq_false (fun h => h h0)]
    exact ⟨rfl, rfl, rfl, rfl⟩
  · rename_i h0
    obtain ⟨N, rfl⟩ := h
    rw [if_neg h0, if_neg h0, decide_eq_true h0]
    exact ⟨rfl, rfl, rfl, rfl⟩
theorem next_one (c : List Rec) (b : Rec) : (⟨false, [b]⟩ : Ent).next c = c ++ [b] := rfl
/-- what a call of the log's answered -/
theorem CallT.told {s s' : LS} {l : List Rec} {q : Int × PS} {from_ : Int} (h : CallT s s' l) (hx : s'.x = q.2) (hfl : s'.fl = decide (q.1 ≠ 0)) (hq : q.1 ≠ 0 → (q.1 = 6 ∨ q.1 = 7) ∧ Hind s.struck s.stop from_ (q.2.count : Int)) : Told s s' l q.1 from_ where
  struck := h.struck
  stop := h.stop
  res := by
    by_cases h0 : q.1 = 0
    · rw [decide_eq_false (fun h => h h0)] at hfl
      rcases h.res with ⟨h1, h2, h3⟩ | ⟨h1, h2, h3⟩
      · exact .inl ⟨h0, h1, h2, h3⟩
      · rw [hfl] at h3; cases h3
    · rw [decide_eq_true h0] at hfl
      obtain ⟨h4, h5⟩ := hq h0
      rcases h.res with ⟨h1, h2, h3⟩ | ⟨h1, h2, h3⟩
      · rw [hfl] at h3; cases h3
      · exact .inr ⟨h4, h1, h2, h3, by rw [hx]; exact h5⟩
def DoesPost (w : World) (F : Nat → Prop) (wp k : Nat) (T : LS → Prop) (e : Ending) (w' : World) : Prop := e = .returned (.bool true) ∧ ∃ s' : LS, WPost w F wp (107 * (k + 1)) s' w' ∧ s'.Ok (k + 1) ∧ T s'
theorem lent_reads {w : World} {g cap B : Nat} {b : List UInt8} (h : w.ownsRow B 5 1 (.slice (some ⟨g, 0, none⟩) (b.length + 4) cap) (b.length + 4) (bytesV (b ++ markV))) : ByR w (fun y => y = g) (.slice (some ⟨g, 0, none⟩) b.length cap) b := by
  have hc := own_capv h
  refine ⟨_, cap, rfl, by omega, ?_, fun ad e _ => by injection e with e; rw [← e]⟩
  have := (Reads.of_own h).take (show b.length ≤ b.length + 4 by omega)
  rwa [show (bytesV (b ++ markV)).take (b.length * 1) = bytesV b by unfold bytesV; rw [Nat.mul_one, ← List.map_take, List.take_left]] at this
set_option maxRecDepth 100000 in
set_option maxHeartbeats 12800000 in
theorem does_app (w : World) (F H : Nat → Prop) (wp k : Nat) (s : LS) (o : OpL) (vr vrs vcu : Value) (h : WAt w F wp (107 * k) s) (hk : k ≤ 89) (hs : s.Ok k) (ho : OpVal w H o vr vrs vcu) (hH : ∀ y, H y → ¬ F y) (hd : o.do_ % 7 = 0 ∨ o.do_ % 7 = 1) :
    Calls Tryz.prog 19 #[.pointer (some ⟨wp, 0, none⟩), .agg #[.int .i64 o.do_, .int .i64 o.n, .int .i64 o.k, vr, vrs, vcu]] w (DoesPost w F wp k (fun s' => CallT s s' (s.c ++ [clipL o.rec_]))) := by
  obtain ⟨G, lp, p, Fl, vc, vm, vs, h⟩ := h
  obtain ⟨b, hb⟩ : ∃ b, b = clipL o.rec_ := ⟨_, rfl⟩
  have hbl : b.length ≤ 200 := by rw [hb]; exact clipL_len _
  obtain ⟨n, hn⟩ : ∃ n, n = 107 * k := ⟨_, rfl⟩
  have HN := Lib.hid hn
  rw [← hn] at h
  have hnl : n ≤ 9523 := by omega
  have HBE := Lib.hid hb
  rw [← hb]
  obtain ⟨Ar, dr, hvr, -⟩ := id ho.rec_
  obtain ⟨Ac, mc, dc, hvrs⟩ := recs_slice ho.recs
  obtain ⟨Au, du, hvcu, -⟩ := id ho.cuts
  have HREC := Lib.hid ho.rec_
  have HRL := Lib.hid ho.rL
  subst hvr hvrs hvcu
  have hcnt : s.x.count ≤ n := (h.log.dk.pb).count
  obtain ⟨s', haf, hok, hct, hbad⟩ := LS.call hs (by omega) ⟨false, [b]⟩ (.inr rfl) ⟨by simp, fun y hy => by rw [List.mem_singleton.1 hy]; omega⟩ (by have := entL_len ⟨false, [b]⟩ (s.last + 1) 200 (fun y hy => by rw [List.mem_singleton.1 hy]; omega); simp only [List.length_singleton] at this; omega) (by omega)
  obtain ⟨a1, a2, a3, a4⟩ := after_log haf
  have HA := Lib.hid (show CallT s s' (s.c ++ [b]) from hct)
  have HTOLD := Lib.hid (hct.told (from_ := (s.x.count : Int)) a1 a4 hbad)
  rw [next_one] at a2
  have hlast := hs.last
  have hcs := hs.cS
  have hL9 : (entL ⟨false, [b]⟩ (s.last + 1)).length ≤ 90000 := by have := entL_len ⟨false, [b]⟩ (s.last + 1) 200 (fun y hy => by rw [List.mem_singleton.1 hy]; omega); simp only [List.length_singleton] at this; omega
  obtain ⟨q, hq⟩ : ∃ q, q = commitP s.x (entL ⟨false, [b]⟩ (s.last + 1)) (s.last + 1) := ⟨_, rfl⟩
  rw [← hq] at a1 a2 a3 a4 HTOLD
  have HQ := Lib.hid hq
  have HA1 := Lib.hid a1
  have HA2 := Lib.hid a2
  have HA3 := Lib.hid a3
  have HA4 := Lib.hid a4
  have HOK := Lib.hid hok
  have HH := Lib.hid hH
  have HS := Lib.hid hs
  have HCS := Lib.hid hcs
  have HL9 := Lib.hid hL9
  obtain ⟨w0, hw0⟩ : ∃ w0, w0 = w.alloc (.cells #[.int .i64 o.do_, .int .i64 o.n, .int .i64 o.k, .slice Ar o.rec_.length dr, .slice Ac mc dc, .slice Au o.cuts.length du] 46) := ⟨_, rfl⟩
  have HW0 := Lib.hid hw0
  have hb0 : Below w.heap.size w w0 := by rw [hw0]; exact (Below.refl _ _).alloc (Nat.le_refl _) _
  have hsz0 : w0.heap.size = w.heap.size + 1 := by rw [hw0]; simp
  have k0 := Blk.new w 46 #[.int .i64 o.do_, .int .i64 o.n, .int .i64 o.k, .slice Ar o.rec_.length dr, .slice Ac mc dc, .slice Au o.cuts.length du]
  rw [← hw0] at k0
  have h0 := (h.below hb0).atG
  have HB0 := Lib.hid hb0
  have H0 := Lib.hid h0
  have c0 : w0.cell? ⟨wp, 0, none⟩ = some (.pointer (some ⟨p, 0, none⟩)) := h0.blk.cell 0
  have c1 : w0.cell? ⟨wp, 1, none⟩ = some (.pointer (some ⟨lp, 0, none⟩)) := h0.blk.cell 1
  have e0 : w0.cell? ⟨w.heap.size, 0, none⟩ = some (.int .i64 o.do_) := k0.cell 0
  have e3 : w0.cell? ⟨w.heap.size, 3, none⟩ = some (.slice Ar o.rec_.length dr) := k0.cell 3
  have HLT := Lib.hid h.lt
  clear ho hb hct haf hbad a1 a2 a3 a4 hq hok hH hs hcs hL9 hw0 hb0 k0 h0 h hn hcnt
  go_enter Tryz.func19, Tryz.ntmps19
  go_upto_region 1 with fail
  rw [← HW0.out]
  go_wp2_with fail
  refine (dk_ops w0 Fl p n s.x H0.out.log.dk).mono ?_
  rintro e w' ⟨rfl, hw'⟩
  subst hw'
  go_wp2_with fail
  refine (keepwithin_any o.do_ 7 w' (by decide) (by decide)).mono ?_
  rintro e w1 ⟨rfl, hw1⟩
  subst hw1
  rcases hd with hd | hd
  all_goals
    rw [hd]
    go_wp2_with fail
    refine (clip_any w' H (.slice Ar o.rec_.length dr) o.rec_ (HREC.out.below HB0.out) HRL.out).mono ?_
    rintro e w1 ⟨u, rfl, hu, hw1⟩
    subst hw1
    rw [← HBE.out] at hu
    obtain ⟨Ab, db, hue, hbd, hRb, hGb⟩ := hu
    subst hue
    have hu2 : ByR w1 (fun y => H y ∧ y < w1.heap.size) (.slice Ab b.length db) b := (show ByR w1 H (.slice Ab b.length db) b from ⟨Ab, db, rfl, hbd, hRb, hGb⟩).mono fun k hlt hk => ⟨hk, hlt⟩
    have HU := Lib.hid hu2
    have HRB := Lib.hid hRb
    clear hu2 hRb hGb
    go_wp2_with fail
    refine (lend_any w1 Ab b.length db b HRB.out (by omega)).mono ?_
    rintro e w2 ⟨g, cap, rfl, hlent, hb2⟩
    have hg2 := hlent.lt g rfl
    have h2 := (H0.out.below hb2)
    have HLE := Lib.hid hlent
    have HB2 := Lib.hid hb2
    have H2 := Lib.hid h2
    have hs2 := hb2.size
    have y1 : w2.cell? ⟨wp, 1, none⟩ = some (.pointer (some ⟨lp, 0, none⟩)) := h2.blk.cell 1
    clear hlent hb2 h2
    go_wp2_with fail
    refine (log_append b (.slice (some ⟨g, 0, none⟩) b.length cap) (fun y => y = g) w2 Fl lp p n s.x s.c s.last s.fl H2.out.log (fun y hy => H2.out.lt y (H2.out.sub y hy)) (by omega) (by omega) (HCS.out.sm (by omega)) (lent_reads HLE.out) (fun y hy hf => by subst hy; have := HLT.out y (H2.out.sub y hf); omega) HL9.out (by omega)).mono ?_
    rintro e w3 ⟨rfl, hlog, hch⟩
    rw [← HQ.out] at hlog ⊢
    rw [← HA1.out, ← HA2.out, ← HA3.out, ← HA4.out] at hlog
    have h3 := (H2.out.logged (b := s') (hch) hlog)
    have hs3 := hch.size
    have HH3 := Lib.hid h3
    have HCH := Lib.hid hch
    have hlent3 := own_keep HLE.out fun k e hlt => hch.block k hlt fun hf => by
      have := HLT.out k (H2.out.sub k hf)
      have := (HLE.out.lt k e).1
      omega
    have hR3 : ByR w3 (fun y => H y ∧ y < w1.heap.size) (.slice Ab b.length db) b := ((HU.out.below HB2.out)).keep hs3 fun k hk hlt => hch.block k hlt fun hf => HH.out k hk.1 (H2.out.sub k hf)
    have HLE3 := Lib.hid hlent3
    have HR3 := Lib.hid hR3
    clear hlog hch h3 hlent3 hR3
    obtain ⟨A9, d9, e9, -, hR9, -⟩ := id HR3.out
    injection e9 with e91 e92 e93
    subst e91 e93
    have HR9 := Lib.hid hR9
    clear hR9 e92
    go_wp2_with fail
    refine (intact_any w3 Ab db g cap w3.heap.size w1.heap.size b HR9.out HLE3.out (by omega)).mono ?_
    rintro e w4 ⟨rfl, hg4⟩
    have hs4 := hg4.size
    have hgF : ¬ F g := fun hf => by have := HLT.out g hf; omega
    have h4 := HH3.out.keep hs4 (fun k hk hlt => hg4.block k hlt fun e => by
        injection e with e
        subst e
        exact hk.elim hgF fun h => by omega) (fun k hk hlt => hg4.block k hlt fun e => by
        injection e with e
        subst e
        have := hk.1.2
        omega) (hg4.block 0 (by omega) fun e => by injection e with e; omega)
    have H4 := Lib.hid h4
    have hR4 := HR3.out.keep hs4 fun k hk hlt => hg4.block k hlt fun e => by
      injection e with e
      subst e
      have := hk.2
      omega
    have HR4 := Lib.hid hR4
    have HCH4 := Lib.hid (show Chg F w w4 from ((((Chg.refl F w).below HB0.out (Nat.le_refl _)).below HB2.out (by omega)).trans (HCH.out.weak (G := F) fun y hy => H2.out.sub y hy) fun x hx => .inl hx).grown hg4 fun x e => by injection e with e; subst e; exact .inr (by omega))
    obtain ⟨A0, m0, dc0, hvc⟩ := recs_slice h4.cont
    subst hvc
    have x2 : w4.cell? ⟨wp, 2, none⟩ = some (.slice A0 m0 dc0) := h4.blk.cell 2
    clear h4 hR4 hg4 y1
    go_wp2_with fail
    refine (with_any w4 _ _ (.slice A0 m0 dc0) (.slice Ab b.length db) s.c b H4.out.cont HR4.out (by have := HCS.out.1; omega) (by omega)).mono ?_
    rintro e w5 ⟨v5, rfl, hv5, hb5⟩
    obtain ⟨A5, m5, d5, hve⟩ := recs_slice hv5
    subst hve
    have HV5 := Lib.hid hv5
    have HB5 := Lib.hid hb5
    clear hv5 hb5
    go_wp2_with fail
    refine (calls_any w5 (New F w2 w3) _ _ wp (n + 6) s' s lp p (New Fl w2 w3) (.slice A0 m0 dc0) vm vs (.slice A5 m5 d5) (H4.out.below HB5.out) (s.c ++ [b]) HV5.out (fun y hy hf => ?_) q.1 (s.x.count : Int) HTOLD.out (by have := HS.out.mL; omega) (by have := HS.out.sL; omega)).mono ?_
    case refine_1 =>
      rcases hy with hy | hy
      · exact H4.out.disj y hy hf
      · have := H4.out.lt y hf
        omega
    rintro e w6 ⟨rfl, hp6⟩
    have HP6 := Lib.hid hp6
    clear hp6
    go_wp2
    go_ret
    refine ⟨rfl, s', HP6.out.chain (HCH4.out.below HB5.out HCH4.out.size) (fun y hy => ?_) (by have := HN.out; omega), HOK.out, HA.out⟩
    exact hy.elim .inl fun h => .inr ⟨by have := HB0.out.size; omega, by have := HB5.out.size; omega⟩
end Go.Proofs.YtfchnpdgnhoffaaGreatDoor
namespace Go.Proofs.YtfchnpdgnhoffaaGreatDoor
open Go.RowKit Go.Shelf Go.Maps

theorem LS.check {s : LS} {k : Nat} (h : s.Ok k) (hk : k ≤ 90) (l : List Rec) (hl : Sz 0 l) (hb : (entL ⟨true, l⟩ (s.last + 1)).length ≤ 50000) (hc : s.x.count ≤ 9980) (q : Int × PS) (hq : q = commitP s.x (entL ⟨true, l⟩ (s.last + 1)) (s.last + 1)) :
    (q.1 = 0 → (∀ nm ∈ q.2.list preL, nm = draftL ∨ ∃ n, 1 ≤ n ∧ n < 100 ∧ nm = nameL n) ∧ (q.2.list preL).length ≤ 100) ∧
    ∃ s' : LS, s'.x = (if q.1 = 0 then sweepAll (s.last + 1) q.2 else q.2) ∧ s'.c = (if q.1 = 0 then l else s.c) ∧ s'.last = (if q.1 = 0 then s.last + 1 else s.last) ∧ s'.fl = decide (q.1 ≠ 0) ∧ s'.Ok (k + 1) ∧ CallT s s' l ∧ Told s s' l q.1 (s.x.count : Int) := by
  obtain ⟨s1, haf, hok, hct, hbad⟩ := LS.call h hk ⟨true, l⟩ (.inl rfl) hl hb hc
  rw [← hq] at haf hbad
  have hct : CallT s s1 l := hct
  obtain ⟨a1, a2, a3, a4⟩ := after_log haf
  have a2 : s1.c = if q.1 = 0 then l else s.c := a2
  have htold := hct.told (from_ := (s.x.count : Int)) a1 a4 hbad
  by_cases h0 : q.1 = 0
  · rw [if_pos h0] at a2 a3
    rw [decide_eq_false (fun h => h h0)] at a4
    have hli := LS.listed hok
    rw [a1] at hli
    refine ⟨fun _ => hli, ?_⟩
    have hE : s1.E s1.last = some ⟨true, l⟩ := by
      unfold LS.after at haf
      rw [if_pos h0] at haf
      obtain ⟨N, E, e1, e2⟩ := haf
      rw [e1]
      exact e2
    obtain ⟨i1, i2, i3⟩ := LS.sweep hok ⟨true, l⟩ hE rfl
    refine ⟨{ s1 with x := sweepAll s1.last s1.x }, ?_, ?_, ?_, ?_, i1, ⟨Nat.lt_of_lt_of_le hct.count i2, hct.struck, hct.stop, fun hf => ⟨i3 (hct.free hf).1, (hct.free hf).2⟩, hct.res⟩, ?_⟩
    · rw [if_pos h0, ← a1, ← a3]
    · rw [if_pos h0]; exact a2
    · rw [if_pos h0]; exact a3
    · rw [decide_eq_false (fun h => h h0)]; exact a4
    · refine ⟨htold.struck, htold.stop, ?_⟩
      rcases htold.res with h1 | ⟨h1, -⟩
      · exact .inl h1
      · omega
  · rw [if_neg h0] at a2 a3
    refine ⟨fun h => absurd h h0, s1, ?_, ?_, ?_, a4, hok, hct, htold⟩
    · rw [if_neg h0]; exact a1
    · rw [if_neg h0]; exact a2
    · rw [if_neg h0]; exact a3
def clips (l : List Rec) : List Rec := (l.take 8).map clipL
theorem clips_sz (l : List Rec) : Sz 0 (clips l) ∧ ∀ b ∈ clips l, b.length ≤ 200 := by
  have h : ∀ b ∈ clips l, b.length ≤ 200 := fun b hb => by
    obtain ⟨y, -, rfl⟩ := List.mem_map.1 hb
    exact clipL_len y
  exact ⟨⟨by unfold clips; rw [List.length_map, List.length_take]; omega, fun b hb => by have := h b hb; omega⟩, h⟩
def NextR (w0 : World) (l : List Rec) (v i : Value) (wr : World) : Prop :=
  ∃ j : Nat, j ≤ l.length ∧ j ≤ 8 ∧ i = .int .i64 j ∧ RecsR wr (fun y => w0.heap.size ≤ y ∧ y < wr.heap.size) v ((l.take j).map clipL) ∧ Below w0.heap.size w0 wr
set_option maxRecDepth 100000 in
set_option maxHeartbeats 12800000 in
theorem does_check (w : World) (F H : Nat → Prop) (wp k : Nat) (s : LS) (o : OpL) (vr vrs vcu : Value) (h : WAt w F wp (107 * k) s) (hk : k ≤ 89) (hs : s.Ok k) (ho : OpVal w H o vr vrs vcu) (hd : o.do_ % 7 = 2) :
    Calls Tryz.prog 19 #[.pointer (some ⟨wp, 0, none⟩), .agg #[.int .i64 o.do_, .int .i64 o.n, .int .i64 o.k, vr, vrs, vcu]] w (DoesPost w F wp k (fun s' => CallT s s' (clips o.recs))) := by
  obtain ⟨G, lp, p, Fl, vc, vm, vs, h⟩ := h
  obtain ⟨l, hl⟩ : ∃ l, l = clips o.recs := ⟨_, rfl⟩
  have hlz : Sz 0 l ∧ ∀ b ∈ l, b.length ≤ 200 := by rw [hl]; exact clips_sz _
  obtain ⟨n, hn⟩ : ∃ n, n = 107 * k := ⟨_, rfl⟩
  have HN := Lib.hid hn
  rw [← hn] at h
  have hnl : n ≤ 9523 := by omega
  have HLE := Lib.hid hl
  rw [← hl]
  obtain ⟨Ar, dr, hvr, -⟩ := id ho.rec_
  obtain ⟨Ac, dc, us, hvrs, hdc, hRc, -, hrr⟩ := id ho.recs
  obtain ⟨Au, du, hvcu, -⟩ := id ho.cuts
  subst hvr hvrs hvcu
  obtain ⟨nr, hnr⟩ : ∃ nr, nr = o.recs.length := ⟨_, rfl⟩
  have HNR := Lib.hid hnr
  rw [← hnr] at hRc
  have hnrl : nr ≤ 9223372036854775807 := by have := ho.rsL; unfold maxLen at this; omega
  have hul : us.length = nr := by have := hRc.1; omega
  have HUL := Lib.hid hul
  have HRC := Lib.hid hRc
  have HRR := Lib.hid hrr
  have HRBL := Lib.hid ho.rbL
  have hcnt : s.x.count ≤ n := (h.log.dk.pb).count
  have hel : (entL ⟨true, l⟩ (s.last + 1)).length ≤ 50000 := by
    have h1 := entL_len ⟨true, l⟩ (s.last + 1) 200 hlz.2
    have h2 := hlz.1.1
    have h3 : (200 + 4) * l.length ≤ 204 * 8 := Nat.mul_le_mul_left _ h2
    simp only at h1
    omega
  obtain ⟨q, hq⟩ : ∃ q, q = commitP s.x (entL ⟨true, l⟩ (s.last + 1)) (s.last + 1) := ⟨_, rfl⟩
  obtain ⟨hlist, s', a1, a2, a3, a4, hok, hct, htold⟩ := LS.check hs (by omega) l hlz.1 hel (by omega) q hq
  have HQ := Lib.hid hq
  have HLI := Lib.hid hlist
  have HA1 := Lib.hid a1
  have HA2 := Lib.hid a2
  have HA3 := Lib.hid a3
  have HA4 := Lib.hid a4
  have HOK := Lib.hid hok
  have HCT := Lib.hid hct
  have HTOLD := Lib.hid htold
  have HS := Lib.hid hs
  have HLZ := Lib.hid hlz
  have HEL := Lib.hid hel
  have hlast := hs.last
  obtain ⟨w0, hw0⟩ : ∃ w0, w0 = w.alloc (.cells #[.int .i64 o.do_, .int .i64 o.n, .int .i64 o.k, .slice Ar o.rec_.length dr, .slice Ac nr dc, .slice Au o.cuts.length du] 46) := ⟨_, rfl⟩
  have HW0 := Lib.hid hw0
  have hb0 : Below w.heap.size w w0 := by rw [hw0]; exact (Below.refl _ _).alloc (Nat.le_refl _) _
  have hsz0 : w0.heap.size = w.heap.size + 1 := by rw [hw0]; simp
  have k0 := Blk.new w 46 #[.int .i64 o.do_, .int .i64 o.n, .int .i64 o.k, .slice Ar o.rec_.length dr, .slice Ac nr dc, .slice Au o.cuts.length du]
  rw [← hw0] at k0
  have h0 := (h.below hb0).atG
  have HB0 := Lib.hid hb0
  have H0 := Lib.hid h0
  have c0 : w0.cell? ⟨wp, 0, none⟩ = some (.pointer (some ⟨p, 0, none⟩)) := h0.blk.cell 0
  have e0 : w0.cell? ⟨w.heap.size, 0, none⟩ = some (.int .i64 o.do_) := k0.cell 0
  have HK0 := Lib.hid k0
  have HLT := Lib.hid h.lt
  rw [← hnr]
  clear ho hl hct htold a1 a2 a3 a4 hq hok hs hw0 hb0 k0 h0 h hn hcnt hlist hlz hel hnr hRc hrr hul hdc
  go_enter Tryz.func19, Tryz.ntmps19
  go_upto_region 1 with fail
  rw [← HW0.out]
  go_wp2_with fail
  refine (dk_ops w0 Fl p n s.x H0.out.log.dk).mono ?_
  rintro e w' ⟨rfl, hw'⟩
  subst hw'
  go_wp2_with fail
  refine (keepwithin_any o.do_ 7 w' (by decide) (by decide)).mono ?_
  rintro e w1 ⟨rfl, hw1⟩
  subst hw1
  rw [hd]
  clear c0 e0 hd
  go_wp2_with fail
  go_loopw [9, 10] (fun v i wr => NextR w' o.recs v i wr) (fun _ i _ => nr - (intOf i).toNat)
  case atStart => exact ⟨0, Nat.zero_le _, Nat.zero_le _, rfl, (RecsAt.nil _ _).read, Below.refl _ _⟩
  case round =>
    obtain ⟨j, hj, hj8, rfl, hv, hbr⟩ := hrel
    have hj : j ≤ nr := by rw [HNR.out]; exact hj
    obtain ⟨A9, m9, d9, hve⟩ := recs_slice hv
    subst hve
    have hsr := hbr.size
    have HV := Lib.hid hv
    have HBR := Lib.hid hbr
    have kr := HK0.out.below hbr (by omega)
    have e4 : wr.cell? ⟨w.heap.size, 4, none⟩ = some (.slice Ac nr dc) := kr.cell 4
    clear hv hbr kr
    by_cases hgo : j < nr ∧ j < 8
    · obtain ⟨hlt, hlt8⟩ := hgo
      obtain ⟨ad, hA, hg, hcell⟩ := HRC.out.2 (by omega)
      subst hA
      have hju : j < us.length := by rw [HUL.out]; exact hlt
      have hjr : j < o.recs.length := by rw [← HNR.out]; exact hlt
      obtain ⟨y, hy⟩ : ∃ y, y = o.recs[j] := ⟨_, rfl⟩
      have hyr := HRR.out j us[j] y (List.getElem?_eq_getElem hju) (by rw [hy]; exact List.getElem?_eq_getElem hjr)
      obtain ⟨Ay, dy, hye, -⟩ := id hyr
      rw [hye] at hyr
      have d0 : wr.cell? (ad.add j) = some (.slice Ay y.length dy) := by
        refine ((HB0.out.trans (HBR.out.mono (by omega))).cell (p := ad.add j) (by rw [block_of_add]; exact hg)).trans ?_
        exact hcell j _ (by rw [List.getElem?_eq_getElem hju, hye])
      have HYR := Lib.hid (hyr.below (HB0.out.trans (HBR.out.mono (by omega))))
      have hyl := HRBL.out y (by rw [hy]; exact List.getElem_mem _)
      have HYL := Lib.hid hyl
      have HTK := Lib.hid (show (o.recs.take (j + 1)).map clipL = (o.recs.take j).map clipL ++ [clipL y] by rw [hy, List.take_succ_eq_append_getElem hjr, List.map_append]; rfl)
      clear hcell hy hyr hye hyl
      go_wp2_with fail
      refine (clip_any wr H (.slice Ay y.length dy) y HYR.out HYL.out).mono ?_
      rintro e w2 ⟨u, rfl, hu, hw2⟩
      subst hw2
      obtain ⟨Ab, db, hue, -⟩ := id hu
      subst hue
      have HU := Lib.hid hu
      clear hu
      go_wp2_with fail
      refine (with_any w2 _ _ _ _ _ _ HV.out HU.out (by rw [List.length_map, List.length_take]; omega) (by have := clipL_len y; omega)).mono ?_
      rintro e w3 ⟨v3, rfl, hv3, hb3⟩
      have HV3 := Lib.hid hv3
      have HB3 := Lib.hid hb3
      have hs3 := hb3.size
      clear hv3 hb3
      go_wp2
      refine ⟨⟨j + 1, by rw [← HNR.out]; omega, by omega, by go_num, ?_, HBR.out.trans (HB3.out.mono hsr)⟩, by simp [intOf]; omega⟩
      rw [HTK.out]
      exact HV3.out.mono fun k _ h => h.elim (fun h => ⟨h.1, by omega⟩) fun h => ⟨by omega, h.2⟩
    · have hfin : (o.recs.take j).map clipL = l := by
        rw [HLE.out]
        unfold clips
        congr 1
        rcases Nat.lt_or_ge j nr with h1 | h1
        · have : j = 8 := by omega
          rw [this]
        · rw [List.take_of_length_le (by rw [← HNR.out]; exact h1), List.take_of_length_le (by rw [← HNR.out]; omega)]
      rw [hfin] at HV
      have h1 := (H0.out.below HBR.out)
      have H1 := Lib.hid h1
      have y1 : wr.cell? ⟨wp, 1, none⟩ = some (.pointer (some ⟨lp, 0, none⟩)) := h1.blk.cell 1
      clear hfin h1
      have hsplit : (¬ j < nr) ∨ (j < nr ∧ ¬ j < 8) := by omega
      clear hgo
      rcases hsplit with hsp | ⟨hsp, hsp2⟩
      all_goals
        go_wp2_with fail
        refine (checkpoint_any l (.slice A9 m9 d9) _ wr Fl lp p n s.x s.c s.last s.fl H1.out.log (fun y hy => H1.out.lt y (H1.out.sub y hy)) (by omega) (by omega) H1.out.syn (fun h => H1.out.no0 (H1.out.sub 0 h)) HV.out (fun y hy hf => by have := HLT.out y (H1.out.sub y hf); omega) (HLZ.out.1.sm (by omega)) (by have := HEL.out; omega) (by rw [← HQ.out]; exact HLI.out)).mono ?_
        rintro e w3 ⟨rfl, hlog, hch⟩
        rw [← HQ.out] at hlog ⊢
        rw [← HA1.out, ← HA2.out, ← HA3.out, ← HA4.out] at hlog
        have h3 := (H1.out.logged (b := s') hch hlog)
        have hs3 := hch.size
        have H3 := Lib.hid h3
        have HCH := Lib.hid hch
        have hv3 : RecsR w3 (fun y => w'.heap.size ≤ y ∧ y < wr.heap.size) (.slice A9 m9 d9) l := HV.out.keep hs3 fun k hk hlt => hch.block k hlt fun hf => by have := HLT.out k (H1.out.sub k hf); omega
        have HV3 := Lib.hid hv3
        clear hlog hch h3 hv3 y1
        go_wp2_with fail
        refine (calls_any w3 (New F wr w3) _ _ wp (n + 106) s' s lp p (New Fl wr w3) vc vm vs (.slice A9 m9 d9) H3.out l HV3.out (fun y hy hf => ?_) q.1 (s.x.count : Int) HTOLD.out (by have := HS.out.mL; omega) (by have := HS.out.sL; omega)).mono ?_
        case refine_1 => exact hf.elim (fun hf => by have := HLT.out y hf; omega) fun hf => by omega
        rintro e w6 ⟨rfl, hp6⟩
        have HP6 := Lib.hid hp6
        clear hp6
        go_wp2
        go_ret
        refine ⟨rfl, s', HP6.out.chain (F := F) ((((Chg.refl F w).below HB0.out (Nat.le_refl _)).below HBR.out (by omega)).trans (HCH.out.weak (G := F) fun y hy => H1.out.sub y hy) fun x hx => .inl hx) (fun y hy => ?_) (by have := HN.out; omega), HOK.out, HCT.out⟩
        exact hy.elim .inl fun h => .inr ⟨by omega, by omega⟩
end Go.Proofs.YtfchnpdgnhoffaaGreatDoor
