/- The walk of compact.copied: a series of one's own. -/
import Derived.Test.YtnglejopbpnknaaCmp
namespace Go.Proofs.Ytnglejopbpnknaa
open Go.RowKit

theorem info61 : (Try.prog.info? 61).map (fun i => (i.zero, i.size, i.bytes)) = some (some (.agg #[.string ⟨#[]⟩, .string ⟨#[]⟩]), 2, 32) := by kernel_rfl
theorem info51 : (Try.prog.info? 51).map (fun i => (i.zero, i.size, i.bytes)) = some (some (.agg #[.int .i64 0, .float .f64 0]), 2, 16) := by kernel_rfl
theorem info34 : (Try.prog.info? 34).map (fun i => (i.zero, i.size, i.bytes)) = some (some (.agg #[.slice none 0 0, .slice none 0 0]), 2, 48) := by kernel_rfl

theorem own_slice {w : World} {base : Nat} {e : TypeId} {size : Nat} {v : Value} {n : Nat} {xs : List Value} (h : w.ownsRow base e size v n xs) : ∃ A c, v = .slice A n c := by
  rcases h.2 with ⟨rfl, h0⟩ | ⟨g, cap, cur, rfl, _⟩
  · exact ⟨none, 0, by rw [h0]⟩
  · exact ⟨_, _, rfl⟩

/-- what a copy is -/
def CopiedPost (w : World) (nL nS : Nat) (xL xS : List Value) (e : Ending) (w' : World) : Prop :=
  ∃ vL vS, e = .returned (.agg #[vL, vS]) ∧ w'.ownsRow (w.heap.size + 2) 61 2 vL nL xL ∧ w'.ownsRow (w.heap.size + 2) 51 2 vS nS xS ∧ Below w.heap.size w w'

set_option maxRecDepth 100000 in
set_option maxHeartbeats 1600000 in
theorem copied_any (AL AS : Option Addr) (nL cL nS cS : Nat) (xL xS : List Value) (w : World) (hL : Reads w w.heap.size 2 AL nL xL) (hS : Reads w w.heap.size 2 AS nS xS) (h1 : ∀ u ∈ xL, u.oneCell' = true) (h2 : ∀ u ∈ xS, u.oneCell' = true)
    (hnL : nL ≤ 100000) (hnS : nS ≤ 100000) :
    Calls Try.prog 22 #[.agg #[.slice AL nL cL, .slice AS nS cS]] w (CopiedPost w nL nS xL xS) := by
  obtain ⟨i0, hi, hz0, hz1, hz2⟩ := info_parts info61
  obtain ⟨j0, hj, hy0, hy1, hy2⟩ := info_parts info51
  have HI := Lib.hid hi
  have HZ0 := Lib.hid hz0
  have HZ1 := Lib.hid hz1
  have HZ2 := Lib.hid hz2
  have HJ := Lib.hid hj
  have HY0 := Lib.hid hy0
  have HY1 := Lib.hid hy1
  have HY2 := Lib.hid hy2
  have HL := Lib.hid hL
  have HS := Lib.hid hS
  have H1 := Lib.hid h1
  have H2 := Lib.hid h2
  clear hi hz0 hz1 hz2 hj hy0 hy1 hy2 hL hS h1 h2
  go_enter Try.func22, Try.ntmps22
  go_wp2_with fail
  obtain ⟨w2, hw2⟩ : ∃ w2, (w.alloc (.cells #[.slice AL nL cL, .slice AS nS cS] 34)).alloc (.cells #[.slice none 0 0, .slice none 0 0] 34) = w2 := ⟨_, rfl⟩
  have b0 : Blk w2 w.heap.size 34 #[.slice AL nL cL, .slice AS nS cS] := by rw [← hw2]; exact (Blk.new w 34 _).alloc _
  have b1 : Blk w2 (w.heap.size + 1) 34 #[.slice none 0 0, .slice none 0 0] := by rw [← hw2]; have := Blk.new (w.alloc (.cells #[.slice AL nL cL, .slice AS nS cS] 34)) 34 #[.slice none 0 0, .slice none 0 0]; rwa [World.size_alloc] at this
  have hb : Below w.heap.size w w2 := by rw [← hw2]; exact ((Below.refl _ w).alloc (Nat.le_refl _) _).alloc (by simp) _
  have hs : w2.heap.size = w.heap.size + 2 := by rw [← hw2]; simp
  rw [hw2]
  clear hw2
  have c0 : w2.cell? ⟨w.heap.size, 0, none⟩ = some (.slice AL nL cL) := b0.cell 0
  have c1 : w2.cell? ⟨w.heap.size, 1, none⟩ = some (.slice AS nS cS) := b0.cell 1
  have RL2 := HL.out.below hb
  have RS2 := HS.out.below hb
  have HB0 := Lib.hid b0
  have HB1 := Lib.hid b1
  have HB := Lib.hid hb
  clear b0 b1 hb
  go_region_held3 (fun w' => w'.cell? ⟨w.heap.size, 0, none⟩ = some (.slice AL nL cL) ∧ w'.cell? ⟨w.heap.size, 1, none⟩ = some (.slice AS nS cS))
    (first | exact ⟨c0, c1⟩ | exact ⟨d0, d1⟩ | exact ⟨e0, e1⟩ | go_keep | (constructor <;> simp [c0, c1, d0, d1, e0, e1]))
    (first
      | (refine step_append_any w2.drew (by rfl) (.const (.slice none 0 0)) (.tmp 4) 31 (by rfl) (w.heap.size + 2) 61 i0 (.agg #[.string ⟨#[]⟩, .string ⟨#[]⟩]) 2 32 Try.underlying31 HI.out HZ0.out HZ1.out HZ2.out rfl (by omega) (.slice none 0 0) 0 [] (by rfl) (World.ownsRow_nil w2.drew (w.heap.size + 2) 61 2) w.heap.size AL nL cL xL (by rfl) RL2.drew H1.out (by simp [maxLen]; omega) (by omega) (by show w.heap.size + 2 ≤ w2.heap.size; omega) ?_; intro vL w3 hownL hgrowL _; rw [Nat.zero_add, List.nil_append] at hownL; obtain ⟨BL, dL, hvL⟩ := own_slice hownL; subst hvL; have d0 := (World.cell?_of_block (hgrowL.block w.heap.size (by show w.heap.size < w2.heap.size; omega) (by simp [Value.ownBlock]))).trans c0; have d1 := (World.cell?_of_block (hgrowL.block w.heap.size (by show w.heap.size < w2.heap.size; omega) (by simp [Value.ownBlock]))).trans c1; have B13 := HB1.out.drew.grown hgrowL (by simp [Value.ownBlock]); have RS3 := RS2.drew.grown hgrowL (by show w.heap.size ≤ w2.heap.size; omega) (fun g hg => by simp [Value.ownBlock] at hg); have hs3 := hgrowL.size; have HOL := Lib.hid hownL; have HGL := Lib.hid hgrowL; clear hownL hgrowL)
      | (refine step_append_any w3 (by rfl) (.const (.slice none 0 0)) (.tmp 7) 32 (by rfl) (w.heap.size + 2) 51 j0 (.agg #[.int .i64 0, .float .f64 0]) 2 16 Try.underlying32 HJ.out HY0.out HY1.out HY2.out rfl (by omega) (.slice none 0 0) 0 [] (by rfl) (World.ownsRow_nil w3 (w.heap.size + 2) 51 2) w.heap.size AS nS cS xS (by rfl) RS3 H2.out (by simp [maxLen]; omega) (by omega) (by have : w2.heap.size ≤ w3.heap.size := hs3; omega) ?_; intro vS w4 hownS hgrowS _; rw [Nat.zero_add, List.nil_append] at hownS; obtain ⟨BS, dS, hvS⟩ := own_slice hownS; subst hvS; have e0 := (World.cell?_of_block (hgrowS.block w.heap.size (by have : w2.heap.size ≤ w3.heap.size := hs3; omega) (by simp [Value.ownBlock]))).trans d0; have e1 := (World.cell?_of_block (hgrowS.block w.heap.size (by have : w2.heap.size ≤ w3.heap.size := hs3; omega) (by simp [Value.ownBlock]))).trans d1; have B14 := B13.grown hgrowS (by simp [Value.ownBlock]); have s0 : w4.cell? ⟨w.heap.size + 1, 0, none⟩ = some (.slice none 0 0) := B14.cell 0; have s1 : w4.cell? ⟨w.heap.size + 1, 1, none⟩ = some (.slice none 0 0) := B14.cell 1; have z0 := B14.frozen 0; have z1 := B14.frozen 1; have HOS := Lib.hid hownS; have HGS := Lib.hid hgrowS; clear hownS hgrowS)
      | (refine step_append_any w2.drew (by rfl) (.const (.slice none 0 0)) (.tmp 7) 32 (by rfl) (w.heap.size + 2) 51 j0 (.agg #[.int .i64 0, .float .f64 0]) 2 16 Try.underlying32 HJ.out HY0.out HY1.out HY2.out rfl (by omega) (.slice none 0 0) 0 [] (by rfl) (World.ownsRow_nil w2.drew (w.heap.size + 2) 51 2) w.heap.size AS nS cS xS (by rfl) RS2.drew H2.out (by simp [maxLen]; omega) (by omega) (by show w.heap.size + 2 ≤ w2.heap.size; omega) ?_; intro vS w3 hownS hgrowS _; rw [Nat.zero_add, List.nil_append] at hownS; obtain ⟨BS, dS, hvS⟩ := own_slice hownS; subst hvS; have d0 := (World.cell?_of_block (hgrowS.block w.heap.size (by show w.heap.size < w2.heap.size; omega) (by simp [Value.ownBlock]))).trans c0; have d1 := (World.cell?_of_block (hgrowS.block w.heap.size (by show w.heap.size < w2.heap.size; omega) (by simp [Value.ownBlock]))).trans c1; have B13 := HB1.out.drew.grown hgrowS (by simp [Value.ownBlock]); have RL3 := RL2.drew.grown hgrowS (by show w.heap.size ≤ w2.heap.size; omega) (fun g hg => by simp [Value.ownBlock] at hg); have hs3 := hgrowS.size; have HOS := Lib.hid hownS; have HGS := Lib.hid hgrowS; clear hownS hgrowS)
      | (refine step_append_any w3 (by rfl) (.const (.slice none 0 0)) (.tmp 4) 31 (by rfl) (w.heap.size + 2) 61 i0 (.agg #[.string ⟨#[]⟩, .string ⟨#[]⟩]) 2 32 Try.underlying31 HI.out HZ0.out HZ1.out HZ2.out rfl (by omega) (.slice none 0 0) 0 [] (by rfl) (World.ownsRow_nil w3 (w.heap.size + 2) 61 2) w.heap.size AL nL cL xL (by rfl) RL3 H1.out (by simp [maxLen]; omega) (by omega) (by have : w2.heap.size ≤ w3.heap.size := hs3; omega) ?_; intro vL w4 hownL hgrowL _; rw [Nat.zero_add, List.nil_append] at hownL; obtain ⟨BL, dL, hvL⟩ := own_slice hownL; subst hvL; have e0 := (World.cell?_of_block (hgrowL.block w.heap.size (by have : w2.heap.size ≤ w3.heap.size := hs3; omega) (by simp [Value.ownBlock]))).trans d0; have e1 := (World.cell?_of_block (hgrowL.block w.heap.size (by have : w2.heap.size ≤ w3.heap.size := hs3; omega) (by simp [Value.ownBlock]))).trans d1; have B14 := B13.grown hgrowL (by simp [Value.ownBlock]); have s0 : w4.cell? ⟨w.heap.size + 1, 0, none⟩ = some (.slice none 0 0) := B14.cell 0; have s1 : w4.cell? ⟨w.heap.size + 1, 1, none⟩ = some (.slice none 0 0) := B14.cell 1; have z0 := B14.frozen 0; have z1 := B14.frozen 1; have HOL := Lib.hid hownL; have HGL := Lib.hid hgrowL; clear hownL hgrowL))
  obtain ⟨w5, hw5⟩ : ∃ w5, (w4.setCell ⟨w.heap.size + 1, 0, none⟩ (.slice BL nL dL)).setCell ⟨w.heap.size + 1, 1, none⟩ (.slice BS nS dS) = w5 := ⟨_, rfl⟩
  have b15 : Blk w5 (w.heap.size + 1) 34 #[.slice BL nL dL, .slice BS nS dS] := by rw [← hw5]; exact (B14.set_ 0 _).set_ 1 _
  have y0 : w5.cell? ⟨w.heap.size + 1, 0, none⟩ = some (.slice BL nL dL) := b15.cell 0
  have y1 : w5.cell? ⟨w.heap.size + 1, 1, none⟩ = some (.slice BS nS dS) := b15.cell 1
  have ho1 : w5.ownsRow (w.heap.size + 2) 61 2 (.slice BL nL dL) nL xL := by
    rw [← hw5]
    exact ownsRow_setCell_below (ownsRow_setCell_below (HOL.out.kept (show w3.grownBy w4 none from HGS.out) (by cases (Value.slice BL nL dL).ownBlock <;> simp)) (by simp) _) (by simp) _
  have ho2 : w5.ownsRow (w.heap.size + 2) 51 2 (.slice BS nS dS) nS xS := by
    rw [← hw5]
    exact ownsRow_setCell_below (ownsRow_setCell_below HOS.out (by simp) _) (by simp) _
  have hb5 : Below w.heap.size w w5 := by
    rw [← hw5]
    have g3 := HB.out.drew.grown HGL.out (by show w.heap.size ≤ w2.heap.size; omega) (fun k hk => by simp [Value.ownBlock] at hk)
    have g4 := g3.grown HGS.out g3.size (fun k hk => by simp [Value.ownBlock] at hk)
    exact (g4.setCell (p := ⟨w.heap.size + 1, 0, none⟩) (by simp) _).setCell (p := ⟨w.heap.size + 1, 1, none⟩) (by simp) _
  rw [hw5]
  clear hw5 B13 B14 s0 s1 z0 z1 c0 c1 d0 d1 e0 e1 HOL HOS HGL HGS
  have H3 := Lib.hid ho1
  have H4 := Lib.hid ho2
  have H5 := Lib.hid hb5
  clear ho1 ho2 hb5
  go_wp2
  refine bodyPost_ret (v := .agg #[.slice BL nL dL, .slice BS nS dS]) (by simp [results, go_sem, y0, y1]) rfl ?_
  exact ⟨_, _, rfl, H3.out, H4.out, H5.out⟩
end Go.Proofs.Ytnglejopbpnknaa
