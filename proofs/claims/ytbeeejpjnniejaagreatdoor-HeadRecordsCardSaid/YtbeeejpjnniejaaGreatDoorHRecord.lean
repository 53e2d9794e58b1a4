/- Record (55): what a batch's taken points are, written down. -/
import Derived.Test.YtbeeejpjnniejaaGreatDoorHRec
namespace Go.Proofs.YtbeeejpjnniejaaGreatDoor
open Go.RowKit Go.Shelf Go.Maps
attribute [-go_sem] Builtin.append_
set_option maxRecDepth 100000 in
set_option maxHeartbeats 6400000 in
theorem record_any (w : World) (F Q : Nat → Prop) (p n B : Nat) (H : Hd) (v : Value) (pts : List Pt) (hh : HdAt w F p n H) (hp : PtsAt w B Q v pts) (hT : Tabs w) (hB : 2 < B ∧ B ≤ w.heap.size) (hF : ∀ k, F k → k < w.heap.size) (hN : pts.length ≤ 10000) (hn : n ≤ 100000) :
    Calls Tryz.prog 55 #[.pointer (some ⟨p, 0, none⟩), v] w fun e w' => ∃ out, e = .returned out ∧ w'.ownsRow w.heap.size 5 1 out (recB (H.taken pts)).length (bytesV (recB (H.taken pts))) ∧ Below w.heap.size w w' := by
  obtain ⟨w1, hw1⟩ : ∃ w1, w1 = w.alloc (.cells #[] 5) := ⟨_, rfl⟩
  obtain ⟨w2, hw2⟩ : ∃ w2, w2 = w1.alloc (.cells #[.slice (some ⟨w.heap.size, 0, none⟩) 0 0] 90) := ⟨_, rfl⟩
  have hs1 : w1.heap.size = w.heap.size + 1 := by rw [hw1]; simp
  have hs2 : w2.heap.size = w.heap.size + 2 := by rw [hw2]; simp [hs1]
  have hb1 : Below w.heap.size w w1 := by rw [hw1]; exact (Below.refl _ w).alloc (Nat.le_refl _) _
  have hb2 : Below w.heap.size w w2 := by rw [hw2]; exact hb1.alloc hb1.size _
  have ho1 : w1.ownsRow w.heap.size 5 1 (.slice (some ⟨w.heap.size, 0, none⟩) 0 0) 0 [] := by
    rw [hw1]
    exact World.ownsRow_lit w #[] 0 (Nat.le_refl _) (by simp [maxLen]) rfl
  have ho2 : w2.ownsRow w.heap.size 5 1 (.slice (some ⟨w.heap.size, 0, none⟩) 0 0) 0 [] := by rw [hw2]; exact ho1.alloc _
  have hk2 : Blk w2 w1.heap.size 90 #[.slice (some ⟨w.heap.size, 0, none⟩) 0 0] := by rw [hw2]; exact Blk.new w1 90 _
  rw [hs1] at hk2
  have hJ0 : RecJ B w.heap.size (w.heap.size + 1) [] (fun k => k = w.heap.size + 1 ∨ k = w.heap.size) w2 := by
    refine ⟨_, hk2, ho2, fun k => ?_, ⟨hB.2, by omega⟩, by simp [recB]⟩
    show (k = w.heap.size + 1 ∨ k = w.heap.size) ↔ (k = w.heap.size + 1 ∨ some w.heap.size = some k)
    simp only [Option.some.injEq]
    exact ⟨fun h => h.elim .inl fun h => .inr h.symm, fun h => h.elim .inl fun h => .inr h.symm⟩
  have hpl := plan_any w2 F (fun k => k = w.heap.size + 1 ∨ k = w.heap.size) Q p 10000 n B 112 _ _ H v pts (enters_of Tryz.func112 (by kernel_rfl) rfl) (recTake B w.heap.size (w.heap.size + 1) 10000 Q (by omega)) hJ0 (hh.below hb2) (hp.keep fun a ha => hb2.cell (by omega)) (hT.below (hb2.mono hB.2) hB.1) ⟨hB.1, by omega⟩ (fun k h hf => by have := hF k hf; omega) hN (by omega) hn
  have hpl2 : Calls Tryz.prog 62 #[.pointer (some ⟨p, 0, none⟩), v, .func (.func 112) #[] #[.pointer (some ⟨w.heap.size + 1, 0, none⟩)]] w2 fun e w3 => ∃ out v' G, e = .returned out ∧ RecB B w.heap.size (w.heap.size + 1) (H.taken pts) G w3 v' ∧ Below w.heap.size w w3 := by
    refine hpl.mono ?_
    rintro e w3 ⟨out, G, rfl, -, ⟨v', h2⟩, -, h4, h5⟩
    exact ⟨out, v', G, rfl, h2, hb2.trans (h5.toBelow (fun k hk => by omega) (by omega))⟩
  have HPL := Lib.hid hpl2
  have HW1 := Lib.hid hw1
  have HW2 := Lib.hid hw2
  clear hpl2 hpl hw1 hw2 hs1 hs2 hb1 hb2 ho1 ho2 hk2 hJ0 hh hp hT hB hF
  go_enter Tryz.func55, Tryz.ntmps55
  go_upto_region 2 with fail
  rw [← HW1.out]
  rw [← HW2.out]
  go_wp2_with fail
  refine HPL.out.mono ?_
  rintro e w3 ⟨out, v', G, rfl, hr, hb3⟩
  obtain ⟨A, c, hv⟩ := own_slice hr.row
  subst hv
  have q3 : w3.cell? ⟨w.heap.size + 1, 0, none⟩ = some (.slice A (recB (H.taken pts)).length c) := hr.box.cell 0
  have HR := Lib.hid hr
  have HB3 := Lib.hid hb3
  clear hr hb3
  go_wp2
  go_ret
  exact ⟨_, rfl, HR.out.row, HB3.out⟩
end Go.Proofs.YtbeeejpjnniejaaGreatDoor
