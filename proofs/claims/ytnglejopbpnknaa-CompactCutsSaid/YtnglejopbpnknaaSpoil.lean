/- The walk of the keep's SpoilInts. -/
import Derived.Test.YtnglejopbpnknaaRefs
namespace Go.Proofs.Ytnglejopbpnknaa
open Go.RowKit Go.Shelf

theorem info3 : (Try.prog.info? 3).map (fun i => (i.zero, i.size, i.bytes)) = some (some (.int .i64 0), 1, 8) := by kernel_rfl
def SpoilR (w : World) (b : Nat) (v : Value) (n : Nat) (i : Value) (wr : World) : Prop :=
  ∃ (k : Nat) (xs : List Value), k ≤ n ∧ i = .int .i64 k ∧ wr.ownsRow b 3 1 v n xs ∧ Below b w wr
def SpoilR2 (w : World) (b : Nat) (n : Nat) (v i : Value) (wr : World) : Prop :=
  ∃ (k : Nat) (u : Value) (xs : List Value), k ≤ 10 ∧ u = v ∧ i = .int .i64 k ∧ wr.ownsRow b 3 1 u (n + k) xs ∧ Below b w wr

set_option maxRecDepth 100000 in
set_option maxHeartbeats 1600000 in
theorem spoil_any (v : Value) (n : Nat) (xs : List Value) (b : Nat) (w : World) (h : w.ownsRow b 3 1 v n xs) (hb : b ≤ w.heap.size) (hl : n ≤ 100000) :
    Calls Try.prog 18 #[v] w fun e w' => e = .returned (.tuple #[]) ∧ Below b w w' := by
  obtain ⟨i0, hi, hz0, hz1, hz2⟩ := info_parts info3
  obtain ⟨A, c, rfl, hA⟩ : ∃ A c, v = .slice A n c ∧ (n ≠ 0 → ∃ g, A = some ⟨g, 0, none⟩) := by
    rcases h.2 with ⟨rfl, h0⟩ | ⟨g, cap, cur, rfl, _⟩
    · exact ⟨none, 0, by rw [h0], fun hn => absurd h0 hn⟩
    · exact ⟨_, _, rfl, fun _ => ⟨_, rfl⟩⟩
  have H := Lib.hid h
  have HA := Lib.hid hA
  have HI := Lib.hid hi
  have HZ0 := Lib.hid hz0
  have HZ1 := Lib.hid hz1
  have HZ2 := Lib.hid hz2
  clear h hi hz0 hz1 hz2 hA
  go_enter Try.func18, Try.ntmps18
  go_wp2_with fail
  go_loopw [2] (fun i wr => SpoilR w b (.slice A n c) n i wr) (fun i _ => n - (intOf i).toNat)
  case atStart => exact ⟨0, xs, Nat.zero_le _, rfl, H.out, Below.refl _ _⟩
  case round =>
    obtain ⟨k, cs, hk, rfl, ho, hB⟩ := hrel
    have HO := Lib.hid ho
    have HB := Lib.hid hB
    clear ho hB
    by_cases hlt : k < n
    · obtain ⟨g, hg⟩ := HA.out (by omega)
      subst hg
      obtain ⟨u, hu⟩ : ∃ u, wr.cell? ⟨g, k, none⟩ = some u := ⟨cs[k]'(by have := HO.out.1; omega), by rw [HO.out.cellAt k (by omega)]; exact List.getElem?_eq_getElem _⟩
      have kg := HO.out.frozenAt k
      go_wp2
      have hs := HO.out.stored k (.int .i64 (-77))
      have hg1 := HO.out.lt g rfl
      refine ⟨⟨k + 1, _, by omega, by go_num, hs.1, HB.out.setCell (p := ⟨g, k, none⟩) hg1.1 _⟩, by simp [intOf]; omega⟩
    · have hkl : k = n := by omega
      subst hkl
      clear H HA hlt
      go_wp2_with fail
      go_loopw [0, 3] (fun v i wr' => SpoilR2 w b k v i wr') (fun _ i _ => 10 - (intOf i).toNat)
      case atStart => exact ⟨0, _, cs, Nat.zero_le _, rfl, rfl, HO.out, HB.out⟩
      case round =>
        obtain ⟨j, u, ds, hj, hu, rfl, ho, hB⟩ := hrel
        subst hu
        have HO2 := Lib.hid ho
        have HB2 := Lib.hid hB
        have hsz := hB.size
        clear ho hB HO HB
        by_cases hlt : j < 10
        · go_wp2_with (at_builtin; go_loud (refine wpList_append_own _ rfl (.tmp 17) (.tmp 18) 40 rfl b 3 i0 (.int .i64 0) 1 8 Try.underlying40 HI.out HZ0.out HZ1.out HZ2.out rfl (by decide) u (k + j) ds rfl (HO2.out.alloc _) ⟨_, 0, none⟩ 1 1 [.int .i64 (-78)] rfl rfl (cell_one_new _ _ _) (by simp [Value.oneCell']) (by simp only [maxLen]; omega) (by omega) (by simp; omega) ?_; intro v' w1 hown1 hgrow1 _; have HOW := Lib.hid hown1; have HGR := Lib.hid hgrow1; clear hown1 hgrow1))
          exact ⟨⟨j + 1, v', _, by omega, rfl, by go_num, HOW.out, (HB2.out.alloc (by omega) _).grown HGR.out (by simp; omega) (fun k hk => (HO2.out.lt k hk).1)⟩, by simp [intOf]; omega⟩
        · go_wp2
          go_end0
          exact ⟨rfl, HB2.out⟩
end Go.Proofs.Ytnglejopbpnknaa
