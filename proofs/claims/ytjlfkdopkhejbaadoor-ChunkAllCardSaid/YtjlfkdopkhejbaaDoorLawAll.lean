/- The walk of the law ChunkAll. -/
import Derived.LoopNIn
import Derived.Sort.CutIn
import Derived.Stop.RegionWithIn
import Derived.Test.YtjlfkdopkhejbaaDoorLawDecode
namespace Go.Proofs.YtjlfkdopkhejbaaDoor
open Go.RowKit Go.Shelf Ck
attribute [local go_sem] Oper.semAt_some frombits_call tobits_call run_store_float

theorem Raw.refall {w : World} {A : Option Addr} {q c : Nat} {k : List Nat} (h : Raw w A q c k) :
    Calls Tryd.prog 17 #[.slice A q c] w fun e w' => ∃ v, e = .returned v ∧ w'.ownsRow (w.heap.size + 1) 41 2 v (allOf k).length (smpV (allOf k)) ∧ Below w.heap.size w w' := by
  rw [h.len]
  exact refall_any A c k w h.at_ (by have := h.few; omega) h.lt
theorem Raw.all {w : World} {A : Option Addr} {q c : Nat} {k : List Nat} (h : Raw w A q c k) : Calls Tryd.prog 18 #[.slice A q c] w (AllPost w k) := by
  rw [h.len]
  exact all_any A c k w h.at_ (by have := h.few; omega) h.lt

theorem eq_func_nil (w : World) (d : Nat) (f : Fn) (a c : Array Value) : (Op.equalIn (d + 1) 37 (.func f a c) .nilFunc).run Tryd.prog w = .ok false w := by
  simp [Op.equalIn, run_underlying Tryd.underlying37]
theorem func_nil (w : World) (f : Fn) (a c : Array Value) : (binOp .eql 37 (.func f a c) .nilFunc).run Tryd.prog w = .ok (.bool false) w := by
  simp only [binOp]
  simp [Op.equal, Op.maxDepth, eq_func_nil w 9999 f a c]

/-- between two steps of the law's loop: W0: the world behind All; the two counters' blocks; the marks of what is deferred -/
structure Mid (W0 : World) (T7 T8 : Nat) (ds : List Nat) (kk nn : Nat) (W : World) : Prop where
  below : Below W0.heap.size W0 W
  t7 : W0.heap.size ≤ T7
  t8 : W0.heap.size ≤ T8
  ne : T7 ≠ T8
  k : Blk W T7 3 #[.int .i64 kk]
  n : Blk W T8 3 #[.int .i64 nn]
  defs : ∀ d ∈ ds, W.heap[d]? = some (.deferred (some []))
  far : ∀ d ∈ ds, d ≠ T7 ∧ d ≠ T8 ∧ d < W.heap.size

theorem with_act {F : Fence} {n : Nat} {P : Program} {c : Code} {Q : Exit → Act → World → Prop} {a : Act} {w : World} (h : ∀ a', a' = a → c.wpIn F n P Q a' w) : c.wpIn F n P Q a w := h a rfl

section
variable {W0 W W' : World} {T7 T8 kk nn : Nat} {ds : List Nat}
theorem Mid.grown (h : Mid W0 T7 T8 ds kk nn W) {r : Nat} (hg : W.grownBy W' (some r)) (h7 : r ≠ T7) (h8 : r ≠ T8) (hd : ∀ d ∈ ds, r ≠ d) (h0 : W0.heap.size ≤ r) : Mid W0 T7 T8 ds kk nn W' :=
  ⟨h.below.grown hg h.below.size (fun k hk => by cases hk; exact h0), h.t7, h.t8, h.ne, h.k.grown hg (by simp; omega), h.n.grown hg (by simp; omega),
    fun d hd' => (hg.block d (h.far d hd').2.2 (by simp; exact fun e => hd d hd' e.symm)).trans (h.defs d hd'), fun d hd' => ⟨(h.far d hd').1, (h.far d hd').2.1, Nat.lt_of_lt_of_le (h.far d hd').2.2 hg.size⟩⟩
theorem Mid.drewN (h : Mid W0 T7 T8 ds kk nn W) (n : Nat) : Mid W0 T7 T8 ds kk nn (W.drewN n) := ⟨below_drewN h.below n, h.t7, h.t8, h.ne, h.k, h.n, h.defs, h.far⟩
theorem Mid.setN (h : Mid W0 T7 T8 ds kk nn W) (m : Nat) : Mid W0 T7 T8 ds kk m (W.setCell ⟨T8, 0, none⟩ (.int .i64 m)) :=
  ⟨h.below.setCell (p := ⟨T8, 0, none⟩) h.t8 _, h.t7, h.t8, h.ne, h.k.far (p := ⟨T8, 0, none⟩) h.ne _, h.n.set_ 0 _,
    fun d hd => (Below.heap_setCell W ⟨T8, 0, none⟩ _ d (h.far d hd).2.1).trans (h.defs d hd), fun d hd => ⟨(h.far d hd).1, (h.far d hd).2.1, by simpa [World.setCell] using (h.far d hd).2.2⟩⟩
end

set_option maxRecDepth 100000 in
set_option maxHeartbeats 3200000 in
theorem lawall_any (A : Option Addr) (c : Nat) (bs : List Nat) (z : Int) (w : World) (h : BytAt w w.heap.size A bs) (hc : bs.length ≤ c) (ho : ∀ b ∈ bs, b < 256) (hz : -9223372036854775808 ≤ z ∧ z ≤ 9223372036854775807) (hT : TabW w) :
    Calls Tryd.prog 5 #[.slice A bs.length c, .int .i64 z] w fun e w' => e = .returned (.bool true) ∧ Below w.heap.size w w' := by
  obtain ⟨k, f, f'⟩ := raw_of (c := c) h ho
  have F := Lib.hid f
  have F' := Lib.hid f'
  have HT := Lib.hid hT
  have HZ := Lib.hid hz
  clear h ho f f' hT hz
  refine (callsIn_wide (n := 9)).1 ?_
  refine callsIn_of_wp_marks Tryd.func5 rfl trivial ?_ rfl
  simp only [Tryd.ntmps5, List.size_toArray, List.length_cons, List.length_nil, Nat.reduceAdd, Nat.reduceSub, Array.replicate_succ, Array.replicate_zero, List.push_toArray, List.append_toArray, List.nil_append, List.cons_append]
  gi_upto_if 13 with fail
  obtain ⟨w2, hw2⟩ : ∃ w2, (w.alloc (.cells #[.int .i64 z] 3)).alloc (.cells #[.bool false] 4) = w2 := ⟨_, rfl⟩
  rw [hw2]
  gi_cut [0] from 14 (fun s0 wx => (∃ q : Nat, s0 = .slice A q c ∧ Raw w A q c k) ∧ w2 = wx)
  case first =>
    rcases Nat.lt_or_ge 3000 bs.length with n1 | n1
    · have g1 : (3000 : Int) < (bs.length : Int) := by omega
      have q1 : (3000 : Int) ≤ (c : Int) := by omega
      gi_wp2
      gi_meet
      case rel => exact ⟨⟨3000, rfl, F'.out n1⟩, rfl⟩
    · have g1 : (bs.length : Int) ≤ 3000 := by omega
      gi_wp2
      gi_meet
      case rel => exact ⟨⟨_, rfl, F.out n1⟩, rfl⟩
  case rest =>
    obtain ⟨⟨q, rfl, hraw⟩, rfl⟩ := hcut
    have H := Lib.hid hraw
    clear F F' hraw
    gi_wp2_with fail
    have b3 : Blk w2 w.heap.size 3 #[.int .i64 z] := by rw [← hw2]; exact (Blk.new w 3 #[.int .i64 z]).alloc _
    have b4 : Blk w2 (w.heap.size + 1) 4 #[.bool false] := by rw [← hw2]; have := Blk.new (w.alloc (.cells #[.int .i64 z] 3)) 4 #[.bool false]; rwa [World.size_alloc] at this
    have hb2 : Below w.heap.size w w2 := by rw [← hw2]; exact ((Below.refl _ w).alloc (Nat.le_refl _) _).alloc (by simp) _
    have hs2 : w2.heap.size = w.heap.size + 2 := by rw [← hw2]; simp
    have HB3 := Lib.hid b3
    have HB4 := Lib.hid b4
    have HB2 := Lib.hid hb2
    clear hw2 b3 b4 hb2
    refine ⟨trivial, (callsIn_wide.2 (H.out.below HB2.out).refall).mono ?_⟩
    rintro e w3 ⟨v5, rfl, ho5, hb3⟩
    have hlen := allOf_length k H.out.lt
    obtain ⟨all, hal⟩ : ∃ all, all = allOf k := ⟨_, rfl⟩
    rw [← hal] at ho5 hlen
    obtain ⟨A5, c5, rfl, hs5⟩ := own_smp ho5
    have hs3 := hb3.size
    have HS5 := Lib.hid hs5
    have HBA := Lib.hid hb3
    have HAL := Lib.hid hal
    clear ho5 hb3 hs5 hal
    gi_wp2_with fail
    obtain ⟨w4, hw4⟩ : ∃ w4, w3.alloc (.cells #[.slice A5 all.length c5] 22) = w4 := ⟨_, rfl⟩
    have b5 : Blk w4 w3.heap.size 22 #[.slice A5 all.length c5] := by rw [← hw4]; exact Blk.new w3 22 _
    have hb4 : Below w3.heap.size w3 w4 := by rw [← hw4]; exact (Below.refl _ w3).alloc (Nat.le_refl _) _
    rw [hw4]
    have HB5 := Lib.hid b5
    have HBB := Lib.hid hb4
    have hs4 := hb4.size
    clear hw4 b5 hb4
    refine ⟨trivial, (callsIn_wide.2 (((H.out.below HB2.out).below HBA.out).below HBB.out).all).mono ?_⟩
    rintro e W0 ⟨v6, rfl, hA6, hb6⟩
    have h3 : W0.cell? ⟨w.heap.size, 0, none⟩ = some (.int .i64 z) := ((HB3.out.below HBA.out (by omega)).below HBB.out (by omega)).below hb6 (by omega) |>.cell 0
    have h4 : Blk W0 (w.heap.size + 1) 4 #[.bool false] := ((HB4.out.below HBA.out (by omega)).below HBB.out (by omega)).below hb6 (by omega)
    have h5 : W0.cell? ⟨w3.heap.size, 0, none⟩ = some (.slice A5 all.length c5) := (HB5.out.below hb6 HB5.out.lt).cell 0
    have hS0 : SmpAt W0 w3.heap.size A5 all := (HS5.out.below HBB.out).below (hb6.mono hs4)
    have hbw : Below w.heap.size w W0 := ((HB2.out.trans (HBA.out.mono (by omega))).trans (HBB.out.mono (by omega))).trans (hb6.mono (by omega))
    have hT5l : w3.heap.size < W0.heap.size := (HB5.out.below hb6 HB5.out.lt).lt
    have hs6 := hb6.size
    have HA6 := Lib.hid hA6
    have H4 := Lib.hid h4
    have HS0 := Lib.hid hS0
    have HBW := Lib.hid hbw
    have hlim : w3.heap.size ≤ W0.heap.size := by omega
    have hq3 : w.heap.size + 1 < W0.heap.size := by omega
    clear HB3 HB4 HB5 HBA HBB HS5 HB2 hA6 hS0 hbw hb6 h4
    have hfn := func_nil W0 (.func 36) #[] #[.pointer (some ⟨w4.heap.size, 0, none⟩)]
    gi_wp2_with fail
    obtain ⟨w7, hw7⟩ : ∃ w7, W0.alloc (.cells #[.int .i64 0] 3) = w7 := ⟨_, rfl⟩
    have b7 : Blk w7 W0.heap.size 3 #[.int .i64 ((0 : Nat) : Int)] := by rw [← hw7]; exact Blk.new W0 3 _
    have hb7 : Below W0.heap.size W0 w7 := by rw [← hw7]; exact (Below.refl _ W0).alloc (Nat.le_refl _) _
    have hs7 : w7.heap.size = W0.heap.size + 1 := by rw [← hw7]; simp
    rw [hw7]
    clear hw7 hfn
    refine wpIn_loop_rounds 3 ?_
    rw [roundsIn_succ]
    have x7 : w7.cell? ⟨W0.heap.size, 0, none⟩ = some (.int .i64 0) := b7.cell 0
    have HB7 := Lib.hid b7
    have HBW7 := Lib.hid hb7
    clear b7 hb7
    gi_wp2_with fail
    rename_i K hKK
    have HKK := Lib.hid hKK
    obtain ⟨w8, hw8⟩ : ∃ w8, w7.alloc (.cells #[.int .i64 0] 3) = w8 := ⟨_, rfl⟩
    have hm8 : Mid W0 W0.heap.size (W0.heap.size + 1) [] 0 0 w8 := by
      rw [← hw8]
      refine ⟨HBW7.out.alloc HBW7.out.size _, Nat.le_refl _, by omega, by omega, HB7.out.alloc _, ?_, (fun d hd => by cases hd), fun d hd => by cases hd⟩
      have := Blk.new w7 3 #[.int .i64 ((0 : Nat) : Int)]
      rwa [hs7] at this
    have hs8 : w8.heap.size = W0.heap.size + 2 := by rw [← hw8]; simp; omega
    rw [hw8]
    have HM8 := Lib.hid hm8
    clear hKK hw8 hm8 x7 HB7 HBW7
    refine with_act (fun a8 ha8 => ?_)
    have hend : ∀ (W : World) (nn : Nat), Mid W0 W0.heap.size (W0.heap.size + 1) [] 0 nn W → W.heap[w8.heap.size]? = some (.deferred (some [])) → K { a8 with defers := { target := .collected w8.heap.size, args := #[] } :: a8.defers } W := by
      intro W nn hm hdf
      refine HKK.out _ _ ?_
      rw [ha8]
      have y7 : W.cell? ⟨W0.heap.size, 0, none⟩ = some (.int .i64 ((0 : Nat) : Int)) := hm.k.cell 0
      have y8 : W.cell? ⟨W0.heap.size + 1, 0, none⟩ = some (.int .i64 (nn : Nat)) := hm.n.cell 0
      have HM := Lib.hid hm
      have HDF := Lib.hid hdf
      clear hm hdf ha8
      gi_wp2_with fail
      have hb9 := HM.out.below
      obtain ⟨w9, hw9⟩ : ∃ w9, W.alloc (.cells #[.int .i64 1] 3) = w9 := ⟨_, rfl⟩
      have b9 : Blk w9 W.heap.size 3 #[.int .i64 ((1 : Nat) : Int)] := by rw [← hw9]; exact Blk.new W 3 _
      have hb9 : Below W0.heap.size W0 w9 := by rw [← hw9]; exact hb9.alloc hb9.size _
      have hs9 : w9.heap.size = W.heap.size + 1 := by rw [← hw9]; simp
      have hsW : W0.heap.size ≤ W.heap.size := HM.out.below.size
      have hdl : W0.heap.size + 2 < W.heap.size := by have := (Array.getElem?_eq_some_iff.1 HDF.out).1; omega
      have hd9 : w9.heap[W0.heap.size + 2]? = some (.deferred (some [])) := by rw [← hw9]; exact (Below.heap_alloc W _ _ hdl).trans (by rw [← hs8]; exact HDF.out)
      rw [hw9, roundsIn_succ]
      have x9 : w9.cell? ⟨W.heap.size, 0, none⟩ = some (.int .i64 1) := b9.cell 0
      have HB9 := Lib.hid b9
      have HBW9 := Lib.hid hb9
      have HD9 := Lib.hid hd9
      clear b9 hb9 hd9 hw9 y7 y8 HDF
      gi_wp2_with fail
      rename_i K2 hKK2
      have HKK2 := Lib.hid hKK2
      obtain ⟨wa, hwa⟩ : ∃ wa, w9.alloc (.cells #[.int .i64 0] 3) = wa := ⟨_, rfl⟩
      have hsa : wa.heap.size = W.heap.size + 2 := by rw [← hwa]; simp; omega
      have hma : Mid W0 W.heap.size (W.heap.size + 1) [W0.heap.size + 2] 1 0 wa := by
        rw [← hwa]
        refine ⟨HBW9.out.alloc HBW9.out.size _, hsW, by omega, by omega, HB9.out.alloc _, ?_, fun d hd => ?_, fun d hd => ?_⟩
        · have := Blk.new w9 3 #[.int .i64 ((0 : Nat) : Int)]
          rwa [hs9] at this
        · obtain rfl := List.mem_singleton.1 hd
          exact (Below.heap_alloc w9 _ _ (by omega)).trans HD9.out
        · obtain rfl := List.mem_singleton.1 hd
          rw [World.size_alloc]
          exact ⟨by omega, by omega, by omega⟩
      rw [hwa]
      have HMA := Lib.hid hma
      clear hKK2 hwa hma x9 HB9 HBW9 HD9
      refine with_act (fun a9 ha9 => ?_)
      have hend2 : ∀ (V : World), Mid W0 W.heap.size (W.heap.size + 1) [W0.heap.size + 2] 1 all.length V → V.heap[wa.heap.size]? = some (.deferred (some [])) → K2 { a9 with defers := { target := .collected wa.heap.size, args := #[] } :: a9.defers } V := by
        intro V hm hdf
        refine HKK2.out _ _ ?_
        rw [ha9]
        have y7 : V.cell? ⟨W.heap.size, 0, none⟩ = some (.int .i64 ((1 : Nat) : Int)) := hm.k.cell 0
        have y8 : V.cell? ⟨W.heap.size + 1, 0, none⟩ = some (.int .i64 (all.length : Nat)) := hm.n.cell 0
        have y5 : V.cell? ⟨w3.heap.size, 0, none⟩ = some (.slice A5 all.length c5) := (hm.below.cell (p := ⟨w3.heap.size, 0, none⟩) hT5l).trans h5
        have HM2 := Lib.hid hm
        have HDF2 := Lib.hid hdf
        clear hm hdf ha9
        gi_wp2_with fail
        rw [roundsIn_succ]
        have hbc := HM2.out.below
        obtain ⟨wc, hwc⟩ : ∃ wc, V.alloc (.cells #[.int .i64 2] 3) = wc := ⟨_, rfl⟩
        have xc : wc.cell? ⟨V.heap.size, 0, none⟩ = some (.int .i64 2) := by rw [← hwc]; exact (Blk.new V 3 _).cell 0
        have hbc' : Below W0.heap.size W0 wc := by rw [← hwc]; exact hbc.alloc hbc.size _
        have hdc : ∀ d, d = wa.heap.size ∨ d = W0.heap.size + 2 → wc.heap[d]? = some (.deferred (some [])) ∧ d < wc.heap.size := by
          intro d hd
          have : V.heap[d]? = some (.deferred (some [])) := by
            rcases hd with rfl | rfl
            · exact HDF2.out
            · exact HM2.out.defs _ (by simp)
          have hlt := (Array.getElem?_eq_some_iff.1 this).1
          rw [← hwc]
          exact ⟨(Below.heap_alloc V _ _ hlt).trans this, by rw [World.size_alloc]; omega⟩
        rw [hwc]
        have HBC := Lib.hid hbc'
        have HDC := Lib.hid hdc
        clear hwc hbc hbc' hdc y7 y8 y5 HM2 HDF2
        gi_wp2_with fail
        have hwwc := HBW.out.trans (HBC.out.mono HBW.out.size)
        refine ⟨trivial, (callsIn_wide.2 (wakes_any wc (HT.out.below hwwc HT.out.lt))).mono ?_⟩
        rintro e wd ⟨rfl, hbd⟩
        have hb4 : Blk wd (w.heap.size + 1) 4 #[.bool false] := (H4.out.below HBC.out hq3).below hbd (by have := HBC.out.size; omega)
        have y4 : wd.cell? ⟨w.heap.size + 1, 0, none⟩ = some (.bool false) := hb4.cell 0
        have f4 := hb4.frozen 0
        have HBD := Lib.hid (hwwc.trans (hbd.mono hwwc.size))
        have HDD := Lib.hid (fun d (hd : d = wa.heap.size ∨ d = W0.heap.size + 2) => (show (wd.setCell ⟨w.heap.size + 1, 0, none⟩ (.bool true)).heap[d]? = some (.deferred (some [])) from (Below.heap_setCell wd ⟨w.heap.size + 1, 0, none⟩ _ d (by rcases hd with rfl | rfl <;> simp <;> omega)).trans ((hbd.block d (HDC.out d hd).2).trans (HDC.out d hd).1)))
        have H4D := Lib.hid (hb4.set_ 0 (.bool true))
        clear hwwc hbd hb4 xc HBC HDC
        gi_wp2
        obtain ⟨wf, hwf⟩ : ∃ wf, wd.setCell ⟨w.heap.size + 1, 0, none⟩ (.bool true) = wf := ⟨_, rfl⟩
        have hd1 : wf.heap[W.heap.size + 2]? = some (.deferred (some [])) := by rw [← hwf]; exact HDD.out _ (.inl hsa.symm)
        have hd2 : wf.heap[W0.heap.size + 2]? = some (.deferred (some [])) := by rw [← hwf]; exact HDD.out _ (.inr rfl)
        have h4f : Blk wf (w.heap.size + 1) 4 #[.bool true] := by rw [← hwf]; exact H4D.out
        have hbf : Below w.heap.size w wf := by rw [← hwf]; exact HBD.out.setCell (p := ⟨w.heap.size + 1, 0, none⟩) (by simp) _
        rw [hwf]
        clear hwf HDD H4D HBD y4 f4
        refine ⟨by simp, .inl ⟨_, _, rfl, run_takeDeferred hd1, ?_⟩⟩
        refine ⟨by simp, .inl ⟨_, _, rfl, run_takeDeferred (ds := []) ((World.putObj_heap_other (by omega)).trans hd2), ?_⟩⟩
        have hl1 : W.heap.size + 2 < wf.heap.size := (Array.getElem?_eq_some_iff.1 hd1).1
        have hbg : Below w.heap.size w ((wf.putObj (W.heap.size + 2) (.deferred none)).putObj (W0.heap.size + 2) (.deferred none)) := by
          have g1 := hbf.grown (grownBy_putObj' wf (W.heap.size + 2) (.deferred none)) hbf.size (fun k hk => by cases hk; omega)
          exact g1.grown (grownBy_putObj' _ (W0.heap.size + 2) (.deferred none)) g1.size (fun k hk => by cases hk; omega)
        have h4g : ((wf.putObj (W.heap.size + 2) (.deferred none)).putObj (W0.heap.size + 2) (.deferred none)).cell? ⟨w.heap.size + 1, 0, none⟩ = some (.bool true) := by
          have g : Blk ((wf.putObj (W.heap.size + 2) (.deferred none)).putObj (W0.heap.size + 2) (.deferred none)) (w.heap.size + 1) 4 #[.bool true] := (World.putObj_heap_other (by omega)).trans ((World.putObj_heap_other (by omega)).trans h4f)
          exact g.cell 0
        refine ⟨.bool true, ?_, rfl, hbg⟩
        simp [results, go_sem, h4g]
      have hsa0 : W0.heap.size ≤ wa.heap.size := by omega
      refine wpIn_rangeFunc_c rfl (by omega) (gf := 36) (lb := #[.pointer (some ⟨w4.heap.size, 0, none⟩)]) (by rw [ha9]; rfl) trivial (enters_of Tryd.func36 (by kernel_rfl) rfl) (iter_seq _ w4.heap.size v6 k W0 HA6.out) HMA.out.below (fun j hj => Nat.lt_of_lt_of_le (HA6.out.own.lt j hj).2 hsa0) (fun _ => rfl)
        (fun pre V => Mid W0 W.heap.size (W.heap.size + 1) [W0.heap.size + 2] 1 pre.length V) (fun _ _ _ => False)
        (fun s A B r hs hg h1 h2 => hs.grown hg (by omega) (by omega) (fun d hd => by obtain rfl := List.mem_singleton.1 hd; omega) (by omega))
        (fun c s A B r hs _ _ _ => hs)
        HMA.out (fun x => { tmps := (((a9.tmps.setIfInBounds 27 (.int .i64 x.t)).setIfInBounds 28 (.float .f64 x.v)).setIfInBounds 9 (.int .i64 x.t)).setIfInBounds 10 (.float .f64 x.v), defers := [] }) ?assign ?body ?done ?stop
      case assign =>
        intro l x V K' hK'
        rw [ha9] at hK' ⊢
        simp only [List.setIfInBounds_toArray, List.set_cons_zero, List.set_cons_succ] at hK'
        dsimp only [encS]
        gi_wp2
        exact hK'
      case done =>
        intro V hI hdf
        rw [← HAL.out] at hI
        exact hend2 V hI hdf
      case stop =>
        intro c pre V _ hI _
        exact hI.elim
      case body =>
        rintro l pre x V hm hpre hbig
        clear hend2
        rw [← HAL.out] at hpre
        obtain ⟨rest, hrest⟩ := hpre
        have hpl : pre.length < all.length := by rw [← hrest]; simp
        have hax : all[pre.length]? = some x := by rw [← hrest]; simp
        obtain ⟨g, off, hA5, hg, hcc⟩ := (HS0.out.below (hm.below.mono hlim)) (by omega)
        obtain ⟨d1, d2⟩ := hcc pre.length x hax
        subst hA5
        have y7 : V.cell? ⟨W.heap.size, 0, none⟩ = some (.int .i64 ((1 : Nat) : Int)) := hm.k.cell 0
        have y8 : V.cell? ⟨W.heap.size + 1, 0, none⟩ = some (.int .i64 (pre.length : Nat)) := hm.n.cell 0
        have y5 : V.cell? ⟨w3.heap.size, 0, none⟩ = some (.slice (some ⟨g, off, none⟩) all.length c5) := (hm.below.cell (p := ⟨w3.heap.size, 0, none⟩) hT5l).trans h5
        have k8 := hm.n.frozen 0
        have HM := Lib.hid hm
        have HR := Lib.hid hrest
        have hpl2 : (pre.length : Int) < (all.length : Int) := by omega
        clear hm hrest hcc hax h3 h5
        rw [ha9]
        simp only [List.setIfInBounds_toArray, List.set_cons_zero, List.set_cons_succ]
        gi_wp2_with fail
        refine ⟨trivial, (CallsIn.inRound l (callsIn_wide.2 (fbits_any x.v x.v V))).mono ?_⟩
        rintro e V1 ⟨rfl, rfl⟩
        rw [decide_eq_true (rfl : x.v = x.v)]
        clear d1 d2
        gi_wp2_with fail
        have hm2 := HM.out.setN (pre.length + 1)
        rw [show (((pre.length + 1 : Nat)) : Int) = (pre.length : Int) + 1 by omega] at hm2
        obtain ⟨V2, hV2⟩ : ∃ V2, V.setCell ⟨W.heap.size + 1, 0, none⟩ (.int .i64 ((pre.length : Int) + 1)) = V2 := ⟨_, rfl⟩
        have hk2 : ∀ j, j ≠ W.heap.size + 1 → V2.heap[j]? = V.heap[j]? := fun j hj => by rw [← hV2]; exact Below.heap_setCell V ⟨W.heap.size + 1, 0, none⟩ _ j hj
        have hz2 : V.heap.size ≤ V2.heap.size := by rw [← hV2]; simp [World.setCell]
        rw [hV2] at hm2 ⊢
        have z7 : V2.cell? ⟨W.heap.size, 0, none⟩ = some (.int .i64 ((1 : Nat) : Int)) := hm2.k.cell 0
        have HM2 := Lib.hid hm2
        have HK2 := Lib.hid hk2
        clear hm2 hk2 hV2 y7 y8 k8 y5
        gi_region_with (refine ⟨trivial, ?_⟩)
        all_goals
          gi_wp2
          refine ⟨hz2, fun j hj => HK2.out j ?_, ?_⟩
          · rcases hj with hj | hj
            · omega
            · have := (HA6.out.own.lt j hj).2; omega
          · show Mid W0 W.heap.size (W.heap.size + 1) [W0.heap.size + 2] 1 (pre ++ [x]).length _
            rw [List.length_append]
            exact HM2.out.drewN 1
    have hz1 := Int.emod_nonneg z (show (all.length : Int) + 1 ≠ 0 by omega)
    have hz2 := Int.emod_lt_of_pos z (show (0 : Int) < (all.length : Int) + 1 by omega)
    obtain ⟨r, her⟩ : ∃ r : Nat, z % ((all.length : Int) + 1) = (r : Int) := ⟨(z % ((all.length : Int) + 1)).toNat, by omega⟩
    have HER := Lib.hid her
    clear hz1 hz2 her
    refine wpIn_rangeFunc_c rfl (by omega) (gf := 36) (lb := #[.pointer (some ⟨w4.heap.size, 0, none⟩)]) (by rw [ha8]; rfl) trivial (enters_of Tryd.func36 (by kernel_rfl) rfl) (iter_seq _ w4.heap.size v6 k W0 HA6.out) HM8.out.below (fun j hj => by have := (HA6.out.own.lt j hj).2; omega) (fun _ => rfl)
      (fun pre V => Mid W0 W0.heap.size (W0.heap.size + 1) [] 0 pre.length V ∧ (r = 0 ∨ pre.length < r)) (fun c pre V => c = .exit 2 ∧ ∃ nn, Mid W0 W0.heap.size (W0.heap.size + 1) [] 0 nn V)
      (fun s A B r hs hg h1 h2 => ⟨hs.1.grown hg (by omega) (by omega) (fun d hd => by cases hd) (by omega), hs.2⟩)
      (fun c s A B r hs hg h1 h2 => by obtain ⟨e, nn, hm⟩ := hs; exact ⟨e, nn, hm.grown hg (by omega) (by omega) (fun d hd => by cases hd) (by omega)⟩)
      ⟨HM8.out, by show r = 0 ∨ 0 < r; omega⟩ (fun x => { tmps := (((a8.tmps.setIfInBounds 27 (.int .i64 x.t)).setIfInBounds 28 (.float .f64 x.v)).setIfInBounds 9 (.int .i64 x.t)).setIfInBounds 10 (.float .f64 x.v), defers := [] }) ?assign ?body ?done ?stop
    case assign =>
      intro l x V K' hK'
      rw [ha8] at hK' ⊢
      simp only [List.setIfInBounds_toArray, List.set_cons_zero, List.set_cons_succ] at hK'
      dsimp only [encS]
      gi_wp2
      exact hK'
    case done =>
      intro V hI hdf
      exact hend V _ hI.1 hdf
    case stop =>
      rintro c pre V _ ⟨rfl, nn, hm⟩ hdf
      have := hend V nn hm hdf
      gi_wp2
      exact this
    case body =>
      rintro l pre x V ⟨hm, hrp⟩ hpre hbig
      clear hend
      rw [← HAL.out] at hpre
      obtain ⟨rest, hrest⟩ := hpre
      have hpl : pre.length < all.length := by rw [← hrest]; simp
      have hax : all[pre.length]? = some x := by rw [← hrest]; simp
      obtain ⟨g, off, hA5, hg, hcc⟩ := (HS0.out.below (hm.below.mono hlim)) (by omega)
      obtain ⟨d1, d2⟩ := hcc pre.length x hax
      subst hA5
      have y7 : V.cell? ⟨W0.heap.size, 0, none⟩ = some (.int .i64 ((0 : Nat) : Int)) := hm.k.cell 0
      have y8 : V.cell? ⟨W0.heap.size + 1, 0, none⟩ = some (.int .i64 (pre.length : Nat)) := hm.n.cell 0
      have y5 : V.cell? ⟨w3.heap.size, 0, none⟩ = some (.slice (some ⟨g, off, none⟩) all.length c5) := (hm.below.cell (p := ⟨w3.heap.size, 0, none⟩) hT5l).trans h5
      have k8 := hm.n.frozen 0
      have HM := Lib.hid hm
      have HR := Lib.hid hrest
      have hpl2 : (pre.length : Int) < (all.length : Int) := by omega
      clear hm hrest hcc hax
      rw [ha8]
      simp only [List.setIfInBounds_toArray, List.set_cons_zero, List.set_cons_succ]
      gi_wp2_with fail
      refine ⟨trivial, (CallsIn.inRound l (callsIn_wide.2 (fbits_any x.v x.v V))).mono ?_⟩
      rintro e V1 ⟨rfl, rfl⟩
      rw [decide_eq_true (rfl : x.v = x.v)]
      clear d1 d2
      gi_wp2_with fail
      have hm2 := HM.out.setN (pre.length + 1)
      rw [show (((pre.length + 1 : Nat)) : Int) = (pre.length : Int) + 1 by omega] at hm2
      obtain ⟨V2, hV2⟩ : ∃ V2, V.setCell ⟨W0.heap.size + 1, 0, none⟩ (.int .i64 ((pre.length : Int) + 1)) = V2 := ⟨_, rfl⟩
      have hk2 : ∀ j, j ≠ W0.heap.size + 1 → V2.heap[j]? = V.heap[j]? := fun j hj => by rw [← hV2]; exact Below.heap_setCell V ⟨W0.heap.size + 1, 0, none⟩ _ j hj
      have hz2 : V.heap.size ≤ V2.heap.size := by rw [← hV2]; simp [World.setCell]
      rw [hV2] at hm2 ⊢
      have z7 : V2.cell? ⟨W0.heap.size, 0, none⟩ = some (.int .i64 ((0 : Nat) : Int)) := hm2.k.cell 0
      have z8 : V2.cell? ⟨W0.heap.size + 1, 0, none⟩ = some (.int .i64 ((pre.length : Int) + 1)) := by have := hm2.n.cell 0; rw [show (((pre.length + 1 : Nat)) : Int) = (pre.length : Int) + 1 by omega] at this; exact this
      have z3 : V2.cell? ⟨w.heap.size, 0, none⟩ = some (.int .i64 z) := (hm2.below.cell (p := ⟨w.heap.size, 0, none⟩) (by show w.heap.size < W0.heap.size; omega)).trans h3
      have z5 : V2.cell? ⟨w3.heap.size, 0, none⟩ = some (.slice (some ⟨g, off, none⟩) all.length c5) := (hm2.below.cell (p := ⟨w3.heap.size, 0, none⟩) hT5l).trans h5
      have HM2 := Lib.hid hm2
      have HK2 := Lib.hid hk2
      have hw1 : IntKind.i64.wrap ((all.length : Int) + 1) = (all.length : Int) + 1 := IntWalk.i64_in _ (by omega)
      have hm1 : (1 : Int) ≤ (all.length : Int) + 1 := by omega
      have hm9 : (all.length : Int) + 1 ≤ 9223372036854775807 := by omega
      clear hm2 hk2 hV2 y7 y8 k8 y5 h3 h5
      by_cases hr : pre.length + 1 = r
      · have hre : ((pre.length : Int) + 1 == (r : Int)) = true := by simp; omega
        clear hr
        have hkp : ∀ j, (w8.heap.size ≤ j ∧ j ≤ w8.heap.size + 2) ∨ v6.ownBlock = some j → V2.drew.heap[j]? = V.heap[j]? := fun j hj => HK2.out j (by
          rcases hj with hj | hj
          · omega
          · have := (HA6.out.own.lt j hj).2; omega)
        have HKP := Lib.hid hkp
        clear hkp
        gi_region_with (refine ⟨trivial, (CallsIn.inRound l (callsIn_wide.2 (within_any z _ _ hm1 hm9 HZ.out.1 HZ.out.2))).mono ?_⟩; rintro e V3 ⟨rfl, rfl⟩; rw [HER.out])
        all_goals
          gi_wp2
          exact ⟨hz2, HKP.out, rfl, pre.length + 1, HM2.out.drewN 1⟩
      · have hre : ((pre.length : Int) + 1 == (r : Int)) = false := by simp; omega
        have hr2 : r = 0 ∨ pre.length + 1 < r := by omega
        have HR2 := Lib.hid hr2
        clear hr hr2 hrp
        have hkp : ∀ j, (w8.heap.size ≤ j ∧ j ≤ w8.heap.size + 2) ∨ v6.ownBlock = some j → V2.drew.heap[j]? = V.heap[j]? := fun j hj => HK2.out j (by
          rcases hj with hj | hj
          · omega
          · have := (HA6.out.own.lt j hj).2; omega)
        have HKP := Lib.hid hkp
        clear hkp
        gi_region_with (refine ⟨trivial, (CallsIn.inRound l (callsIn_wide.2 (within_any z _ _ hm1 hm9 HZ.out.1 HZ.out.2))).mono ?_⟩; rintro e V3 ⟨rfl, rfl⟩; rw [HER.out])
        all_goals
          gi_wp2
          refine ⟨hz2, HKP.out, ?_, ?_⟩
          · show Mid W0 W0.heap.size (W0.heap.size + 1) [] 0 (pre ++ [x]).length _
            rw [List.length_append]
            exact HM2.out.drewN 1
          · rw [List.length_append]
            exact HR2.out
end Go.Proofs.YtjlfkdopkhejbaaDoor
