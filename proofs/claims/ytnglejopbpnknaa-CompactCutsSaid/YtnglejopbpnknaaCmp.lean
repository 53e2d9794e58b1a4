/- The walks of the comparisons of labels, where they are alike. -/
import Derived.Test.YtnglejopbpnknaaProg
import Derived.Test.YtnglejopbpnknaaWords
import Derived.WalkKit
import Derived.Handy
import Derived.WalkSpells
import Derived.WalkLawsBesides
import Derived.Deep.QuietTactic
import Derived.BigQuiet
import Derived.KernelRfl
import Derived.Deep.DeepCutAuto
import Derived.BigRegion
import Derived.Deep.RegionHeld3
import Derived.Laws.Cover2
namespace Go.Proofs.Ytnglejopbpnknaa
open Go.RowKit

theorem isnan_s (x : ByteArray) (w : World) : Calls Try.prog 56 #[.string x] w fun e w' => e = .returned (.bool false) ∧ w = w' := by
  go_enter Try.func56, Try.ntmps56
  go_wp2
  go_ret
  exact ⟨by simp, rfl⟩

theorem bytesLess_self (l : List UInt8) : Op.bytesLess l l = false := by
  induction l with
  | nil => rfl
  | cons a l ih => simp [Op.bytesLess, ih]

set_option maxHeartbeats 400000 in
theorem cmps_eq (x : ByteArray) (w : World) : Calls Try.prog 45 #[.string x, .string x] w fun e w' => e = .returned (.int .i64 0) ∧ w = w' := by
  have hb := bytesLess_self x.toList
  go_enter Try.func45, Try.ntmps45
  go_wp2_with (go_at_call 56; refine (isnan_s x _).mono ?_; rintro e w' ⟨rfl, rfl⟩)
  refine bodyPost_ret (results_tmp rfl _ _ _) rfl ?_
  exact ⟨rfl, rfl⟩

set_option maxHeartbeats 400000 in
theorem or_two (g : Nat) (w : World) (h0 : w.cell? ⟨g, 0, none⟩ = some (.int .i64 0)) (h1 : w.cell? ⟨g, 1, none⟩ = some (.int .i64 0)) :
    Calls Try.prog 44 #[.slice (some ⟨g, 0, none⟩) 2 2] w fun e w' => e = .returned (.int .i64 0) ∧ w = w' := by
  go_enter Try.func44, Try.ntmps44
  go_wp2_with fail
  go_rounds 3
  refine bodyPost_ret (results_tmp rfl _ _ _) rfl ?_
  exact ⟨rfl, rfl⟩

set_option maxHeartbeats 800000 in
/-- two labels that are alike -/
theorem lcl_eq (x y : ByteArray) (w : World) :
    Calls Try.prog 43 #[.agg #[.string x, .string y], .agg #[.string x, .string y]] w fun e w' => e = .returned (.int .i64 0) ∧ Below w.heap.size w w' := by
  go_enter Try.func43, Try.ntmps43
  go_wp2_with fail

  obtain ⟨w2, hw2⟩ : ∃ w2, (w.alloc (.cells #[.string x, .string y] 61)).alloc (.cells #[.string x, .string y] 61) = w2 := ⟨_, rfl⟩
  have b0 : Blk w2 w.heap.size 61 #[.string x, .string y] := by rw [← hw2]; exact (Blk.new w 61 _).alloc _
  have b1 : Blk w2 (w.heap.size + 1) 61 #[.string x, .string y] := by rw [← hw2]; have := Blk.new (w.alloc (.cells #[.string x, .string y] 61)) 61 #[.string x, .string y]; rwa [World.size_alloc] at this
  have hb : Below w.heap.size w w2 := by rw [← hw2]; exact ((Below.refl _ w).alloc (Nat.le_refl _) _).alloc (by simp) _
  have hs := hb.size
  rw [hw2]
  clear hw2
  have c0 : w2.cell? ⟨w.heap.size, 0, none⟩ = some (.string x) := b0.cell 0
  have c1 : w2.cell? ⟨w.heap.size, 1, none⟩ = some (.string y) := b0.cell 1
  have d0 : w2.cell? ⟨w.heap.size + 1, 0, none⟩ = some (.string x) := b1.cell 0
  have d1 : w2.cell? ⟨w.heap.size + 1, 1, none⟩ = some (.string y) := b1.cell 1
  have hl0 := b0.lt
  have hl1 := b1.lt
  have k0 : ∀ o, (w2.alloc o).cell? ⟨w.heap.size, 0, none⟩ = some (.string x) := fun o => (World.cell?_alloc_lt w2 o ⟨w.heap.size, 0, none⟩ hl0).trans c0
  have k1 : ∀ o, (w2.alloc o).cell? ⟨w.heap.size, 1, none⟩ = some (.string y) := fun o => (World.cell?_alloc_lt w2 o ⟨w.heap.size, 1, none⟩ hl0).trans c1
  have k2 : ∀ o, (w2.alloc o).cell? ⟨w.heap.size + 1, 0, none⟩ = some (.string x) := fun o => (World.cell?_alloc_lt w2 o ⟨w.heap.size + 1, 0, none⟩ hl1).trans d0
  have k3 : ∀ o, (w2.alloc o).cell? ⟨w.heap.size + 1, 1, none⟩ = some (.string y) := fun o => (World.cell?_alloc_lt w2 o ⟨w.heap.size + 1, 1, none⟩ hl1).trans d1
  have HB := Lib.hid hb
  clear b0 b1 hb
  go_region_held3 (fun w' => w'.cell? ⟨w.heap.size, 0, none⟩ = some (.string x) ∧ w'.cell? ⟨w.heap.size, 1, none⟩ = some (.string y) ∧ w'.cell? ⟨w.heap.size + 1, 0, none⟩ = some (.string x) ∧ w'.cell? ⟨w.heap.size + 1, 1, none⟩ = some (.string y))
    (first | exact ⟨c0, c1, d0, d1⟩ | exact ⟨k0 _, k1 _, k2 _, k3 _⟩)
    (first
      | (go_at_call 45; refine (cmps_eq _ _).mono ?_; rintro e w' ⟨rfl, rfl⟩)
      | (go_at_call 44; refine (or_two w2.heap.size _ (by exact (Blk.new w2 3 #[.int .i64 0, .int .i64 0]).cell 0) (by exact (Blk.new w2 3 #[.int .i64 0, .int .i64 0]).cell 1)).mono ?_; rintro e w' ⟨rfl, rfl⟩))
  go_wp2
  go_ret
  exact ⟨rfl, (HB.out.alloc hs _).drew⟩

/-- a row of one label -/
def LblAt (w : World) (g : Nat) (x y : ByteArray) : Prop := w.cell? ⟨g, 0, none⟩ = some (.string x) ∧ w.cell? ⟨g, 1, none⟩ = some (.string y) ∧ g < w.heap.size
theorem LblAt.below {w w' : World} {g : Nat} {x y : ByteArray} (h : LblAt w g x y) {B : Nat} (hb : Below B w w') (hg : g < B) : LblAt w' g x y :=
  ⟨(hb.cell (p := ⟨g, 0, none⟩) hg).trans h.1, (hb.cell (p := ⟨g, 1, none⟩) hg).trans h.2.1, Nat.lt_of_lt_of_le h.2.2 hb.size⟩

set_option maxHeartbeats 800000 in
theorem cmpfunc_one (g1 g2 c1 c2 : Nat) (x y : ByteArray) (w : World) (h1 : LblAt w g1 x y) (h2 : LblAt w g2 x y) :
    Calls Try.prog 42 #[.slice (some ⟨g1, 0, none⟩) 1 c1, .slice (some ⟨g2, 0, none⟩) 1 c2, .func (.func 43) #[] #[]] w fun e w' => e = .returned (.int .i64 0) ∧ Below w.heap.size w w' := by
  obtain ⟨a0, a1, a2⟩ := h1
  have H2 := Lib.hid h2
  obtain ⟨b0, b1, b2⟩ := h2
  go_enter Try.func42, Try.ntmps42
  go_wp2_with fail
  refine wp_loop_rounds 2 ?_
  rw [rounds_succ]
  go_wp2_with fail
  refine (lcl_eq x y _).mono ?_
  rintro e w' ⟨rfl, hb⟩
  have HB := Lib.hid ((((Below.refl w.heap.size w).alloc (Nat.le_refl _) (.cells #[.string x, .string y] 61)).alloc (by simp) (.cells #[.string x, .string y] 61)).trans (hb.mono (by simp; omega)))
  clear hb
  go_wp2_with fail
  rw [rounds_succ]
  go_wp2
  refine bodyPost_ret (results_tmp rfl _ _ _) rfl ?_
  exact ⟨rfl, HB.out⟩
theorem lcompare_one (g1 g2 c1 c2 : Nat) (x y : ByteArray) (w : World) (h1 : LblAt w g1 x y) (h2 : LblAt w g2 x y) :
    Calls Try.prog 25 #[.slice (some ⟨g1, 0, none⟩) 1 c1, .slice (some ⟨g2, 0, none⟩) 1 c2] w fun e w' => e = .returned (.int .i64 0) ∧ Below w.heap.size w w' := by
  have H1 := Lib.hid h1
  have H2 := Lib.hid h2
  clear h1 h2
  go_enter Try.func25, Try.ntmps25
  go_wp2_with fail
  refine (cmpfunc_one g1 g2 c1 c2 x y w H1.out H2.out).mono ?_
  rintro e w' ⟨rfl, hb⟩
  have HB := Lib.hid hb
  clear hb
  go_wp2
  go_ret
  exact ⟨rfl, HB.out⟩
/-- the closure that the merge sorts by: two series of one label each -/
theorem scmp_one (g1 g2 c1 c2 : Nat) (s1 s2 : Value) (x y : ByteArray) (w : World) (h1 : LblAt w g1 x y) (h2 : LblAt w g2 x y) :
    Calls Try.prog 24 #[.agg #[.slice (some ⟨g1, 0, none⟩) 1 c1, s1], .agg #[.slice (some ⟨g2, 0, none⟩) 1 c2, s2]] w fun e w' => e = .returned (.int .i64 0) ∧ Below w.heap.size w w' := by
  have H1 := Lib.hid h1
  have H2 := Lib.hid h2
  have l1 := h1.2.2
  have l2 := h2.2.2
  clear h1 h2
  go_enter Try.func24, Try.ntmps24
  go_wp2_with fail
  have hb0 := ((Below.refl w.heap.size w).alloc (Nat.le_refl _) (.cells #[.slice (some ⟨g1, 0, none⟩) 1 c1, s1] 34)).alloc (by simp) (.cells #[.slice (some ⟨g2, 0, none⟩) 1 c2, s2] 34)
  refine (lcompare_one g1 g2 c1 c2 x y _ (H1.out.below hb0 l1) (H2.out.below hb0 l2)).mono ?_
  rintro e w' ⟨rfl, hb⟩
  have HB := Lib.hid (hb0.trans (hb.mono (by simp; omega)))
  clear hb hb0
  go_wp2
  go_ret
  exact ⟨rfl, HB.out⟩
end Go.Proofs.Ytnglejopbpnknaa
