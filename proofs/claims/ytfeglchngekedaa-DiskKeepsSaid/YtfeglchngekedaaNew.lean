/- The walk of disk.New. -/
import Derived.Test.YtfeglchngekedaaMem
namespace Go.Proofs.Ytfeglchngekedaa
open Go.RowKit Go.Shelf Go.Maps

def emptyS (cap : Int) (mn ms : Nat) : DS := { cap := cap, ops := 0, names := [], safe := [], pend := [], flts := [], stopped := false, stop := 0, raw := fun _ => .slice none 0 0, bytes := fun _ => [], kept := fun _ => 0, mn := mn, ms := ms, vp := .slice none 0 0, vf := .slice none 0 0 }

theorem empty_at (w : World) (F : Nat → Prop) (p mn ms : Nat) (cap : Int) (hc : 0 ≤ cap ∧ cap < 9223372036854775808) (hF : ∀ k, k = p ∨ k = mn ∨ k = ms → F k) (hne : mn ≠ ms)
    (h1 : Blk w p 68 #[.int .i64 cap, .int .i64 0, .map (some mn), .map (some ms), .slice none 0 0, .slice none 0 0, .bool false, .int .i64 0]) (h2 : DirAt w mn 0 []) (h3 : DirAt w ms 0 []) : DiskAt w F p (emptyS cap mn ms) where
  blk := h1
  own := hF _ (.inl rfl)
  names := h2
  safe := h3
  namesL := Nat.le_refl _
  safeL := Nat.le_refl _
  mnF := hF _ (.inr (.inl rfl))
  msF := hF _ (.inr (.inr rfl))
  mne := hne
  pend := World.ownsRow_nil _ _ _ _
  pendF := fun k hk => by cases hk
  pendL := Nat.le_refl _
  flts := World.ownsRow_nil _ _ _ _
  fltsF := fun k hk => by cases hk
  file := fun g hg => by
    rcases hg with ⟨x, hx, _⟩ | ⟨x, hx, _⟩ | ⟨x, hx, _⟩ <;> cases hx
  apart := fun g h hg => by
    rcases hg with ⟨x, hx, _⟩ | ⟨x, hx, _⟩ | ⟨x, hx, _⟩ <;> cases hx
  nameOk := fun x hx => by cases hx
  safeOk := fun x hx => by cases hx
  pendOk := fun x hx => by cases hx
  capB := hc
  rep := RepOk.start _

set_option maxRecDepth 100000 in
set_option maxHeartbeats 1600000 in
theorem new_any (cap : Int) (w : World) (hc : cap < 9223372036854775808) : Calls Try.prog 8 #[.int .i64 cap] w fun e w' => ∃ p mn ms, e = .returned (.pointer (some ⟨p, 0, none⟩)) ∧ DiskAt w' (fun k => w.heap.size ≤ k) p (emptyS (max cap 0) mn ms) ∧ Below w.heap.size w w' := by
  have hmm := @run_makeMap Try.prog
  go_enter Try.func8, Try.ntmps8
  go_wp2
  go_ret
  obtain ⟨w1, hw1⟩ : ∃ w1, w.alloc (.map #[] 0) = w1 := ⟨_, rfl⟩
  have s1 : w1.heap.size = w.heap.size + 1 := by rw [← hw1]; simp
  have d1 : DirAt w1 w.heap.size 0 [] := by rw [← hw1]; exact dir_made w
  have b1 : Below w.heap.size w w1 := by rw [← hw1]; exact (Below.refl _ w).alloc (Nat.le_refl _) _
  rw [hw1]
  obtain ⟨w2, hw2⟩ : ∃ w2, w1.alloc (.map #[] 0) = w2 := ⟨_, rfl⟩
  have s2 : w2.heap.size = w.heap.size + 2 := by rw [← hw2]; simp; omega
  have d2 : DirAt w2 (w.heap.size + 1) 0 [] := by rw [← hw2, ← s1]; exact dir_made w1
  have b2 : Below w1.heap.size w1 w2 := by rw [← hw2]; exact (Below.refl _ w1).alloc (Nat.le_refl _) _
  rw [hw2]
  have d1' := d1.keep (b2.block _ d1.lt)
  refine ⟨w2.heap.size, w.heap.size, w.heap.size + 1, ?_, empty_at _ _ _ _ _ _ (by omega) ?_ (by omega) (Blk.new w2 68 _) (d1'.keep (Below.heap_alloc _ _ _ d1'.lt)) (d2.keep (Below.heap_alloc _ _ _ d2.lt)), ?_⟩
  · rw [s2]; rfl
  · rintro k (rfl | rfl | rfl) <;> omega
  · exact (b1.trans (b2.mono (by omega))).alloc (by omega) _
end Go.Proofs.Ytfeglchngekedaa
