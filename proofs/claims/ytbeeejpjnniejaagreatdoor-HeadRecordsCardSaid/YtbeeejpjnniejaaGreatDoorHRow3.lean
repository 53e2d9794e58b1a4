/- Arguments that are batches, opened; of each point that its value has 64 bits. -/
import Derived.Test.YtbeeejpjnniejaaGreatDoorHRow2
namespace Go.Proofs.YtbeeejpjnniejaaGreatDoor
open Go.ChangeShapes Go.WideShapes Go.ChangeAt Go.RowKit Go.Deep
section
variable {H : Type} {enc : TypeId × Value → H} {W : World} {base : Nat} {sp : Nat → Bool} {held : Bool}
set_option maxRecDepth 100000 in
theorem one_points2 {fuel : Nat} {v : Value} {x : DataW H × List MemPlace} (h : DataW.trod enc Tryz.prog W base sp held fuel 22 [v] = some x) :
    ∃ pts : List Pt, PtsAt W W.heap.size (fun k => k < W.heap.size) v pts ∧ CapsOk W v ∧ pts.length ≤ 9223372036854775807 ∧ ∀ q ∈ pts, q.2.2 < 18446744073709551616 := by
  rcases open_slice_fields Tryz.underlying22 Tryz.underlying57 (by kernel_rfl) (by kernel_rfl) h with ⟨hcs, -⟩ | ⟨a, len, cap, m, D, Pl, hcs, hb, hl, hm, hmm, hx, hi⟩
  · injection hcs with hcs
    subst hcs
    exact ⟨[], ⟨none, 0, [], rfl, rfl, Reads.none_, fun i x p h => by simp at h⟩, (fun d m c e => by injection e with e; cases e), Nat.zero_le _, fun q hq => by cases hq⟩
  · injection hcs with hcs
    subst hcs
    have hlm : len ≤ m := by rw [hmm]; split <;> omega
    have hx : ∀ i : Nat, ∃ y : (Value × Int × Nat) × Pt, i < len → W.cell? (a.add (i * 3)) = some y.1.1 ∧ W.cell? (a.add (i * 3 + 1)) = some (.int .i64 y.1.2.1) ∧ W.cell? (a.add (i * 3 + 2)) = some (.float .f64 y.1.2.2) ∧ PtIn W W.heap.size (fun k => k < W.heap.size) y.1 y.2 ∧ (∀ A n c, y.1.1 = .slice A n c → n ≤ c) ∧ y.2.2.2 < 18446744073709551616 := by
      intro i
      by_cases hil : i < len
      · obtain ⟨ys, n, -, -, -, hfld⟩ := hi i (by omega)
        obtain ⟨v0, y0, q0, -, t0⟩ := hfld 0 _ rfl
        obtain ⟨v1, y1, q1, -, t1⟩ := hfld 1 _ rfl
        obtain ⟨v2, y2, q2, -, t2⟩ := hfld 2 _ rfl
        obtain ⟨ls, b1, b2, b3, b4⟩ := one_labels t0
        obtain ⟨n1, rfl, w1⟩ := one_int Tryz.underlying3 t1
        obtain ⟨fb, hfb, hfl⟩ := trod_f64 Tryz.underlying47 t2
        injection hfb with hfb
        subst hfb
        exact ⟨((v0, n1, fb), (ls, n1, fb)), fun _ => ⟨q0, q1, q2, ⟨rfl, b1, b2, b4⟩, b3, hfl⟩⟩
      · exact ⟨((.nilFunc, 0, 0), ([], 0, 0)), fun h => absurd h hil⟩
    obtain ⟨f, hf⟩ := Classical.skolem.1 hx
    have hlr : ((List.range len).map fun i => (f i).2).length = len := by simp
    refine ⟨(List.range len).map fun i => (f i).2, ⟨some a, cap, (List.range len).map fun i => (f i).1, by rw [hlr], by simp, ?_, fun i x p h1 h2 => ?_⟩, fun d m c e j A' n' c' hj hcell => ?_, by rw [hlr]; exact Nat.le_trans hl hm, fun q hq => by
      obtain ⟨i, hi', rfl⟩ := List.mem_map.1 hq
      exact (hf i (List.mem_range.1 hi')).2.2.2.2.2⟩
    · rw [hlr]
      refine ⟨by rw [ptsV_length]; simp, fun h0 => ⟨a, rfl, ?_, fun j u hu => ?_⟩⟩
      · have := World.block_lt_of_cell? W _ (hf 0 h0).1
        rwa [block_of_add] at this
      · have hj2 : j < len * 3 := by have := (List.getElem?_eq_some_iff.1 hu).1; rw [ptsV_length] at this; simpa using this
        have hjl : j / 3 < len := by omega
        obtain ⟨g0, g1, g2⟩ := ptsV_get ((List.range len).map fun i => (f i).1) (j / 3) (f (j / 3)).1 (by rw [List.getElem?_map, List.getElem?_range hjl]; rfl)
        obtain ⟨c0, c1, c2, -⟩ := hf (j / 3) hjl
        have h3 : j % 3 = 0 ∨ j % 3 = 1 ∨ j % 3 = 2 := by omega
        rcases h3 with h2 | h2 | h2
        · have ej : j / 3 * 3 = j := by omega
          rw [ej] at g0 c0
          rw [g0] at hu
          injection hu with hu
          rw [← hu]
          exact c0
        · have ej : j / 3 * 3 + 1 = j := by omega
          rw [ej] at g1 c1
          rw [g1] at hu
          injection hu with hu
          rw [← hu]
          exact c1
        · have ej : j / 3 * 3 + 2 = j := by omega
          rw [ej] at g2 c2
          rw [g2] at hu
          injection hu with hu
          rw [← hu]
          exact c2
    · have hj : i < len := by have := (List.getElem?_eq_some_iff.1 h1).1; simpa using this
      rw [List.getElem?_map, List.getElem?_range hj] at h1 h2
      injection h1 with h1
      injection h2 with h2
      rw [← h1, ← h2]
      exact (hf i hj).2.2.2.1
    · injection e with e1 e2 e3
      injection e1 with e1
      subst e1
      have hjl : j < len := by omega
      have h9 := (hf j hjl).1
      rw [hcell] at h9
      injection h9 with h9
      exact (hf j hjl).2.2.2.2.1 A' n' c' h9.symm
set_option maxRecDepth 100000 in
theorem open_bats2 {b0 : Nat} {r : Reach} {v : Value} {d : DataW H} {ps : List MemPlace} (hv : Value.okWide Tryz.prog W r b0 43 v) (h : DataW.Trod enc Tryz.prog W base sp held 43 v d ps) :
    ∃ (A : Option Addr) (n cap : Nat) (bs : List (List Pt)), v = .slice A n cap ∧ n = bs.length ∧ n ≤ 9223372036854775807 ∧ BatsAt W W.heap.size A bs ∧ ∀ b ∈ bs, ∀ q ∈ b, q.2.2 < 18446744073709551616 := by
  obtain ⟨a, len, cap, rfl⟩ := okWide_slice Tryz.underlying43 hv
  obtain ⟨fuel, hf⟩ := h
  rcases open_slice Tryz.underlying43 hf with ⟨hcs, -⟩ | ⟨a', len', cap', m, n, D, Pl, hcs, hb, hl, hm, hmm, hx, hi⟩
  · simp only [Value.cells, List.cons.injEq, and_true] at hcs
    cases hcs
    exact ⟨none, 0, 0, [], rfl, rfl, Nat.zero_le _, ⟨[], Reads.none_, fun i x b h => by simp at h⟩, fun b hb => by cases hb⟩
  · simp only [Value.cells, List.cons.injEq, and_true] at hcs
    cases hcs
    have hlm : len ≤ m := by rw [hmm]; split <;> omega
    have hx : ∀ i : Nat, ∃ y : Value × List Pt, i < len → W.cell? (a'.add i) = some y.1 ∧ PtsAt W W.heap.size (fun k => k < W.heap.size) y.1 y.2 ∧ CapsOk W y.1 ∧ y.2.length ≤ 9223372036854775807 ∧ ∀ q ∈ y.2, q.2.2 < 18446744073709551616 := by
      intro i
      by_cases hil : i < len
      · obtain ⟨cs', hc, ht⟩ := hi i (by omega)
        rw [cells22, Nat.mul_one] at hc
        obtain ⟨_, hcl, hat⟩ := World.cells?_some hc
        match cs', hcl, hat, ht with
        | [u], _, hat, ht =>
          obtain ⟨b, hb1, hb2, hb3, hb4⟩ := one_points2 ht
          have h0 := hat 0 (by omega)
          have h9 : W.cell? (a'.add (i + 0)) = some u := by rw [← Go.Deep.add_add]; exact h0
          exact ⟨(u, b), fun _ => ⟨h9, hb1, hb2, hb3, hb4⟩⟩
      · exact ⟨(.nilFunc, []), fun h => absurd h hil⟩
    obtain ⟨f, hf⟩ := Classical.skolem.1 hx
    have hlr : ((List.range len).map fun i => (f i).2).length = len := by simp
    refine ⟨some a', len, cap, (List.range len).map fun i => (f i).2, rfl, hlr.symm, Nat.le_trans hl hm, ⟨(List.range len).map fun i => (f i).1, ?_, fun i x b h1 h2 => ?_⟩, fun b hb => by
      obtain ⟨i, hi', rfl⟩ := List.mem_map.1 hb
      exact (hf i (List.mem_range.1 hi')).2.2.2.2⟩
    · rw [hlr]
      refine ⟨by simp, fun h0 => ⟨a', rfl, ?_, fun j u hu => ?_⟩⟩
      · have := World.block_lt_of_cell? W _ (hf 0 h0).1
        rwa [block_of_add] at this
      · have hj : j < len := by have := (List.getElem?_eq_some_iff.1 hu).1; simpa using this
        rw [List.getElem?_map, List.getElem?_range hj] at hu
        injection hu with hu
        rw [← hu]
        exact (hf j hj).1
    · have hj : i < len := by have := (List.getElem?_eq_some_iff.1 h1).1; simpa using this
      rw [List.getElem?_map, List.getElem?_range hj] at h1 h2
      injection h1 with h1
      injection h2 with h2
      rw [← h1, ← h2]
      exact ⟨(hf i hj).2.1, (hf i hj).2.2.1, (hf i hj).2.2.2.1⟩
end
theorem nums_bytes : ∀ (l : List Int), (∀ x ∈ l, (Lit.int .u8 x).wf = true) → ∃ raw : List UInt8, bytesV raw = l.map (Value.int .u8)
  | [], _ => ⟨[], rfl⟩
  | x :: l, h => by
    obtain ⟨raw, hr⟩ := nums_bytes l fun y hy => h y (List.mem_cons_of_mem _ hy)
    have hx := h x List.mem_cons_self
    have h0 : 0 ≤ x ∧ x < 256 := by
      simp [Lit.wf] at hx
      have h1 : IntKind.u8.min = 0 := rfl
      have h2 : IntKind.u8.max = 255 := rfl
      rw [h1, h2] at hx
      omega
    refine ⟨UInt8.ofNat x.toNat :: raw, ?_⟩
    show Value.int .u8 ((UInt8.ofNat x.toNat).toNat : Int) :: bytesV raw = _
    rw [hr, UInt8.toNat_ofNat_of_lt' (by show x.toNat < 256; omega), Int.toNat_of_nonneg h0.1]
    rfl
end Go.Proofs.YtbeeejpjnniejaaGreatDoor
