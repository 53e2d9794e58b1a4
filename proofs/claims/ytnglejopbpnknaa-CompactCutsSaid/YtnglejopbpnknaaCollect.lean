/- The walk of Collect over the iterator that Merge hands back, at wakes' two lists. -/
import Derived.Stop.RegionWithIn
import Derived.Test.YtnglejopbpnknaaIter
import Derived.Test.YtnglejopbpnknaaSeq1
namespace Go.Proofs.Ytnglejopbpnknaa
open Go.RowKit Go.Shelf
attribute [local go_sem] Oper.semAt_some run_store_float
attribute [-go_sem] Builtin.append_

/-- what Collect hands back -/
structure ColAt (w0 w : World) (g c gl cl gs cs : Nat) : Prop where
  box : Blk w w0.heap.size 22 #[.slice (some ⟨g, 0, none⟩) 1 c]
  all_ : w.ownsRow (w0.heap.size + 3) 34 2 (.slice (some ⟨g, 0, none⟩) 1 c) 1 [.slice (some ⟨gl, 0, none⟩) 1 cl, .slice (some ⟨gs, 0, none⟩) 2 cs]
  smp : w.ownsRow (w0.heap.size + 3) 51 2 (.slice (some ⟨gs, 0, none⟩) 2 cs) 2 smpM
  below : Below w0.heap.size w0 w

theorem ColAt.grown {w0 w w' : World} {g c gl cl gs cs r : Nat} (h : ColAt w0 w g c gl cl gs cs) (hg : w.grownBy w' (some r)) (h1 : w0.heap.size < r) (h2 : r < w0.heap.size + 3) : ColAt w0 w' g c gl cl gs cs :=
  ⟨h.box.grown hg (by simp; omega), h.all_.kept hg (.inr (by have := (h.all_.lt g rfl).1; simp [Value.ownBlock]; omega)), h.smp.kept hg (.inr (by have := (h.smp.lt gs rfl).1; simp [Value.ownBlock]; omega)), h.below.grown hg h.below.size (fun k hk => by cases hk; omega)⟩
theorem own_lower {w : World} {b b' : Nat} {e : TypeId} {z n : Nat} {v : Value} {xs : List Value} (h : w.ownsRow b e z v n xs) (hb : b' ≤ b) : w.ownsRow b' e z v n xs :=
  ⟨h.1, h.2.imp id fun ⟨g, c, cur, a, b, r⟩ => ⟨g, c, cur, a, by omega, r⟩⟩
/-- the cells of the struct that yield is handed -/
def cellsOf (args : Array Value) : Array Value := match args[0]? with | some (Value.agg cs) => cs | _ => #[]
theorem smpM_one : ∀ u ∈ smpM, u.oneCell' = true := by decide

def ItC (W : World) (args : Array Value) (W1 : World) : Prop := ∃ gl cl gs cs, args = #[.agg #[.slice (some ⟨gl, 0, none⟩) 1 cl, .slice (some ⟨gs, 0, none⟩) 2 cs]] ∧ Out W W1 gl cl gs cs

set_option maxRecDepth 100000 in
set_option maxHeartbeats 3200000 in
theorem collect_one (T gB cB gL cL gS cS gL2 cL2 gS2 cS2 : Nat) (w : World) (h : MergedAt w T gB cB gL cL gS cS gL2 cL2 gS2 cS2) :
    Calls Try.prog 33 #[.func (.func 26) #[] #[.pointer (some ⟨T, 0, none⟩)]] w fun e w' => ∃ g c gl cl gs cs, e = .returned (.slice (some ⟨g, 0, none⟩) 1 c) ∧ ColAt w w' g c gl cl gs cs := by
  have hTl := h.box.lt
  have H := Lib.hid h
  clear h
  refine (callsIn_wide (n := 9)).1 ?_
  refine callsIn_of_wp_marks Try.func33 rfl trivial ?_ rfl
  simp only [Try.ntmps33, List.size_toArray, List.length_cons, List.length_nil, Nat.reduceAdd, Nat.reduceSub, Array.replicate_succ, Array.replicate_zero, List.push_toArray, List.append_toArray, List.nil_append, List.cons_append]
  gi_wp2_with fail
  obtain ⟨w2, hw2⟩ : ∃ w2, w.alloc (.cells #[.slice none 0 0] 22) = w2 := ⟨_, rfl⟩
  have hs2 : w2.heap.size = w.heap.size + 1 := by rw [← hw2]; simp
  have bX : Blk w2 w.heap.size 22 #[.slice none 0 0] := by rw [← hw2]; exact Blk.new w 22 _
  have hb2 : Below w.heap.size w w2 := by rw [← hw2]; exact (Below.refl _ w).alloc (Nat.le_refl _) _
  rw [hw2]
  have HX := Lib.hid bX
  have HB := Lib.hid hb2
  have H2 := Lib.hid (H.out.below hb2)
  clear hw2 bX hb2
  rename_i K hKK
  have hdone : ∀ W : World, (∃ g c gl cl gs cs, ColAt w W g c gl cl gs cs) → W.heap[w2.heap.size]? = some (.deferred (some [])) → K
      { tmps := #[.func (.func 26) #[] #[.pointer (some ⟨T, 0, none⟩)], undef, .slice none 0 0, .pointer (some ⟨w.heap.size, 0, none⟩), undef, .func (.func 26) #[] #[.pointer (some ⟨T, 0, none⟩)], undef, undef, undef, undef, undef, undef, undef], defers := [{ target := .collected w2.heap.size, args := #[] }] } W := by
    rintro W ⟨g, c, gl, cl, gs, cs, hc⟩ hdf
    refine hKK _ _ ?_
    clear hKK
    have x0 : W.cell? ⟨w.heap.size, 0, none⟩ = some (.slice (some ⟨g, 0, none⟩) 1 c) := hc.box.cell 0
    have HC := Lib.hid hc
    have HDF := Lib.hid hdf
    clear hc hdf
    gi_wp2
    refine ⟨by simp, .inl ⟨_, _, rfl, run_takeDeferred HDF.out, ?_⟩⟩
    refine ⟨_, results_tmp rfl _ _ _, g, c, gl, cl, gs, cs, rfl, HC.out.grown (grownBy_putObj' W w2.heap.size _) (by omega) (by omega)⟩
  clear hKK
  refine wpIn_rangeFunc_1 rfl (by omega) (gf := 26) (lb := #[.pointer (some ⟨T, 0, none⟩)]) rfl trivial (enters_of Try.func26 (by kernel_rfl) rfl) ItC T (by omega)
    (fun l J Jx W hbW hy => iter_one _ l T gB cB gL cL gS cS gL2 cL2 gS2 cS2 W (H2.out.below hbW) J Jx (fun gl cl gs cs W1 hO => hy _ W1 ⟨gl, cl, gs, cs, rfl, hO⟩))
    (fun W args W1 hc => by obtain ⟨gl, cl, gs, cs, rfl, hO⟩ := hc; exact ⟨rfl, hO.below⟩)
    (fun W => ∃ g c gl cl gs cs, ColAt w W g c gl cl gs cs) (fun A B hA hg => by obtain ⟨g, c, gl, cl, gs, cs, hA⟩ := hA; exact ⟨g, c, gl, cl, gs, cs, hA.grown hg (by omega) (by omega)⟩)
    (fun args W1 => { tmps := #[.func (.func 26) #[] #[.pointer (some ⟨T, 0, none⟩)], undef, .slice none 0 0, .pointer (some ⟨w.heap.size, 0, none⟩), .pointer (some ⟨W1.heap.size, 0, none⟩), .func (.func 26) #[] #[.pointer (some ⟨T, 0, none⟩)], args[0]?.getD undef, undef, undef, undef, undef, undef, undef], defers := [] })
    (fun args => .cells (cellsOf args) 34) ?assign ?body (fun W hI hd => hdone W hI hd)
  case assign =>
    intro l W W1 args K' hC hK'
    obtain ⟨gl, cl, gs, cs, rfl, hO⟩ := hC
    clear hO hdone
    have hK2 : K' { tmps := #[.func (.func 26) #[] #[.pointer (some ⟨T, 0, none⟩)], undef, .slice none 0 0, .pointer (some ⟨w.heap.size, 0, none⟩), .pointer (some ⟨W1.heap.size, 0, none⟩), .func (.func 26) #[] #[.pointer (some ⟨T, 0, none⟩)],
      .agg #[.slice (some ⟨gl, 0, none⟩) 1 cl, .slice (some ⟨gs, 0, none⟩) 2 cs], undef, undef, undef, undef, undef, undef], defers := [] } (W1.alloc (.cells #[.slice (some ⟨gl, 0, none⟩) 1 cl, .slice (some ⟨gs, 0, none⟩) 2 cs] 34)) := hK'
    clear hK'
    gi_wp2
    exact hK2
  case body =>
    intro l W W1 W3 args hC hbW hsW hg
    clear hdone
    obtain ⟨gl, cl, gs, cs, rfl, hO⟩ := hC
    have hll := hO.ll
    have hls := hO.ls
    have hlb := hO.lab.2.2
    have hsb := hO.smp.lt
    have bX := ((HX.out.below hbW HX.out.lt).below hO.below (by have := HX.out.lt; omega)).alloc (.cells #[.slice (some ⟨gl, 0, none⟩) 1 cl, .slice (some ⟨gs, 0, none⟩) 2 cs] 34)
    have bO := Blk.new W1 34 #[.slice (some ⟨gl, 0, none⟩) 1 cl, .slice (some ⟨gs, 0, none⟩) 2 cs]
    obtain ⟨Wa, hWa⟩ : ∃ Wa, W1.alloc (.cells #[.slice (some ⟨gl, 0, none⟩) 1 cl, .slice (some ⟨gs, 0, none⟩) 2 cs] 34) = Wa := ⟨_, rfl⟩
    have hga : Wa.grownBy W3 (some (w2.heap.size + 1)) := by rw [← hWa]; exact hg
    rw [hWa] at bX bO
    have hba : Below W1.heap.size W1 Wa := by rw [← hWa]; exact (Below.refl _ W1).alloc (Nat.le_refl _) _
    have hsa := hba.size
    have hWs := hO.below.size
    have bX3 : Blk W3 w.heap.size 22 #[.slice none 0 0] := bX.grown hga (by simp; omega)
    have bO3 : Blk W3 W1.heap.size 34 #[.slice (some ⟨gl, 0, none⟩) 1 cl, .slice (some ⟨gs, 0, none⟩) 2 cs] := bO.grown hga (by simp; omega)
    have hs3 := hga.size
    have hl3 : W3.heap[gl]? = W1.heap[gl]? := (hga.block gl (by omega) (by simp; omega)).trans (hba.block gl hlb)
    have hq3 : W3.heap[gs]? = W1.heap[gs]? := (hga.block gs (by omega) (by simp; omega)).trans (hba.block gs hsb)
    have hL3 : LblAt W3 gl xA yA := ⟨(World.cell?_of_block (a := ⟨gl, 0, none⟩) hl3).trans hO.lab.1, (World.cell?_of_block (a := ⟨gl, 1, none⟩) hl3).trans hO.lab.2.1, by omega⟩
    have hS3 : Smp2 W3 gs := ⟨(World.cell?_of_block (a := ⟨gs, 0, none⟩) hq3).trans hO.smp.a0, (World.cell?_of_block (a := ⟨gs, 1, none⟩) hq3).trans hO.smp.a1, (World.cell?_of_block (a := ⟨gs, 2, none⟩) hq3).trans hO.smp.a2, (World.cell?_of_block (a := ⟨gs, 3, none⟩) hq3).trans hO.smp.a3, by omega⟩
    have hb3 : Below w.heap.size w W3 := ((HB.out.trans (hbW.mono HB.out.size)).trans (hO.below.mono (by omega))).trans ((hba.mono (by omega)).grown hga (by omega) (fun k hk => by cases hk; omega))
    have x0 : W3.cell? ⟨w.heap.size, 0, none⟩ = some (.slice none 0 0) := bX3.cell 0
    have f0 := bX3.frozen 0
    have o0 : W3.cell? ⟨W1.heap.size, 0, none⟩ = some (.slice (some ⟨gl, 0, none⟩) 1 cl) := bO3.cell 0
    have o1 : W3.cell? ⟨W1.heap.size, 1, none⟩ = some (.slice (some ⟨gs, 0, none⟩) 2 cs) := bO3.cell 1
    have HL3 := Lib.hid hL3
    have HS3 := Lib.hid hS3
    have HX3 := Lib.hid bX3
    have HB3 := Lib.hid hb3
    have hz : W1.heap.size < W3.heap.size := bO3.lt
    have hz2 : w.heap.size + 3 ≤ W1.heap.size := by omega
    clear hWa hga bX bO hba bX3 bO3 hl3 hq3 hL3 hS3 hb3 hO hg hbW
    change Code.wpIn _ _ _ _ _ { tmps := #[.func (.func 26) #[] #[.pointer (some ⟨T, 0, none⟩)], undef, .slice none 0 0, .pointer (some ⟨w.heap.size, 0, none⟩), .pointer (some ⟨W1.heap.size, 0, none⟩), .func (.func 26) #[] #[.pointer (some ⟨T, 0, none⟩)],
      .agg #[.slice (some ⟨gl, 0, none⟩) 1 cl, .slice (some ⟨gs, 0, none⟩) 2 cs], undef, undef, undef, undef, undef, undef], defers := [] } _
    obtain ⟨i0, hi, hz0, hz1, hz2'⟩ := info_parts info34
    have HI := Lib.hid hi
    have HZ0 := Lib.hid hz0
    have HZ1 := Lib.hid hz1
    have HZ2 := Lib.hid hz2'
    clear hi hz0 hz1 hz2'
    gi_wp2_with fail
    gi_region_with (refine ⟨trivial, (CallsIn.inRound l (callsIn_wide.2 (copied_any (some ⟨gl, 0, none⟩) (some ⟨gs, 0, none⟩) 1 cl 2 cs lblV smpM W3.drew HL3.out.reads.drew HS3.out.reads.drew lblV_one smpM_one (by omega) (by omega)))).mono ?_⟩; rintro e u ⟨vL, vS, rfl, hoL, hoS, hb4⟩; obtain ⟨gl2, cl2, hvL⟩ := own_succ hoL (by omega); subst hvL; obtain ⟨gs2, cs2, hvS⟩ := own_succ hoS (by omega); subst hvS; have hb4' : Below W3.heap.size W3 u := ((Below.refl W3.heap.size W3).drew).trans hb4; have hsu := hb4'.size; have bXu := (HX3.out.below hb4' HX3.out.lt).alloc (.cells #[.slice (some ⟨gl2, 0, none⟩) 1 cl2, .slice (some ⟨gs2, 0, none⟩) 2 cs2] 34); obtain ⟨vA, x1, hrun, hown, hgrow, -⟩ := run_append_any (P := Try.prog) (w := u.alloc (.cells #[.slice (some ⟨gl2, 0, none⟩) 1 cl2, .slice (some ⟨gs2, 0, none⟩) 2 cs2] 34)) (w.heap.size + 3) 22 22 34 i0 (.agg #[.slice none 0 0, .slice none 0 0]) 2 48 Try.underlying22 HI.out HZ0.out HZ1.out HZ2.out rfl (by omega) (.slice none 0 0) 0 [] (World.ownsRow_nil _ _ _ _) (u.heap.size + 1) (some ⟨u.heap.size, 0, none⟩) 1 1 [.slice (some ⟨gl2, 0, none⟩) 1 cl2, .slice (some ⟨gs2, 0, none⟩) 2 cs2] ⟨rfl, fun _ => ⟨_, rfl, Nat.lt_succ_self _, cells_newL u 34 _ _ rfl⟩⟩ (by simp [Value.oneCell']) (by simp [maxLen]) (by omega) (by rw [World.size_alloc]; omega); obtain ⟨gA, cA, hvA⟩ := own_succ hown (by omega); subst hvA; have bXx := bXu.grown hgrow (by simp [Value.ownBlock]); have d0 : u.cell? ⟨w.heap.size, 0, none⟩ = some (.slice none 0 0) := (HX3.out.below hb4' HX3.out.lt).cell 0; have k0 : ∀ o, (u.alloc o).cell? ⟨w.heap.size, 0, none⟩ = some (.slice none 0 0) := (fun o => ((HX3.out.below hb4' HX3.out.lt).alloc o).cell 0); have e0 : x1.cell? ⟨w.heap.size, 0, none⟩ = some (.slice none 0 0) := bXx.cell 0; have z0 := bXx.frozen 0; have HBX := Lib.hid bXx; have HOA := Lib.hid hown; have HGA := Lib.hid hgrow; have HOS := Lib.hid hoS; have HB4 := Lib.hid hb4'; clear bXx hown hgrow hoS hoL hb4 hb4' bXu)
    all_goals
      clear hrun d0 k0 e0 z0
      have hx1 := HGA.out.size
      rw [World.size_alloc] at hx1
      refine ⟨fun k hk => ?_, gA, cA, gl2, cl2, gs2, cs2, HBX.out.set_ 0 _, ownsRow_setCell_below HOA.out (show w.heap.size < w.heap.size + 3 by omega) _, ownsRow_setCell_below (((own_lower HOS.out (by show w.heap.size + 3 ≤ W3.heap.size + 2; omega)).alloc _).kept HGA.out (.inr (by simp [Value.ownBlock]))) (show w.heap.size < w.heap.size + 3 by omega) _, ?_⟩
      · have hk1 : k ≠ w.heap.size ∧ k < W3.heap.size := by
          rcases hk with rfl | rfl | rfl <;> omega
        exact (Below.heap_setCell _ _ _ k hk1.1).trans ((HGA.out.block k (by rw [World.size_alloc]; omega) (by simp [Value.ownBlock])).trans ((Below.heap_alloc _ _ k (by omega)).trans (HB4.out.block k hk1.2)))
      · have g0 := HB3.out.trans (HB4.out.mono HB3.out.size)
        have g1 := g0.alloc g0.size (.cells #[.slice (some ⟨gl2, 0, none⟩) 1 cl2, .slice (some ⟨gs2, 0, none⟩) 2 cs2] 34)
        exact (g1.grown HGA.out g1.size (fun k hk => by simp [Value.ownBlock] at hk)).setCell (p := ⟨w.heap.size, 0, none⟩) (Nat.le_refl _) _
end Go.Proofs.Ytnglejopbpnknaa
