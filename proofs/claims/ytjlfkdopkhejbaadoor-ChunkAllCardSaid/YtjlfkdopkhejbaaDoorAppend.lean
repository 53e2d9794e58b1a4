/- The walk of (*chunk.Writer).Append. -/
import Derived.Test.YtjlfkdopkhejbaaDoorWval
import Derived.Test.YtjlfkdopkhejbaaDoorFbits
namespace Go.Proofs.YtjlfkdopkhejbaaDoor
open Go.RowKit Ck
attribute [local go_sem] frombits_call tobits_call

set_option maxRecDepth 100000 in
set_option maxHeartbeats 800000 in
theorem append_full (B : Nat) (s : St) (l : List Bool) (t : Int) (v : Nat) (w : World) (h : WrAt w B s l) (hn : 120 ≤ s.n) :
    Calls Tryd.prog 26 #[.pointer (some ⟨B, 0, none⟩), .int .i64 t, .float .f64 v] w fun e w' => e = .returned (.int .i64 5) ∧ w = w' := by
  have c0 : w.cell? ⟨B, 0, none⟩ = some (.int .i64 (s.n : Nat)) := h.cell 0 (by omega) _ (fun _ _ => rfl)
  clear h
  go_enter Tryd.func26, Tryd.ntmps26
  go_wp2
  go_ret
  exact ⟨rfl, rfl⟩

set_option maxRecDepth 100000 in
set_option maxHeartbeats 800000 in
theorem append_first (B : Nat) (s : St) (l : List Bool) (x : Smp) (w : World) (h : WrAt w B s l) (hx : x.ok) (hn : s.n = 0) (hl : l.length ≤ 90000) :
    Calls Tryd.prog 26 #[.pointer (some ⟨B, 0, none⟩), .int .i64 x.t, .float .f64 x.v] w fun e w' => e = .returned (.int .i64 0) ∧ WrAt w' B (appendBits s x).2 (l ++ (appendBits s x).1) ∧ Wrote B w w' := by
  have c0 : w.cell? ⟨B, 0, none⟩ = some (.int .i64 (s.n : Nat)) := h.cell 0 (by omega) _ (fun _ _ => rfl)
  rw [hn] at c0
  have H := Lib.hid h
  have HN := Lib.hid hn
  obtain ⟨⟨hx1, hx2⟩, hx3⟩ := hx
  have hu := u64_lt x.t
  obtain ⟨tt, htt⟩ : ∃ tt, tt = x.t := ⟨_, rfl⟩
  obtain ⟨vv, hvv⟩ : ∃ vv, vv = x.v := ⟨_, rfl⟩
  have HTT := Lib.hid htt
  have HVV := Lib.hid hvv
  rw [← htt] at hx1 hx2 hu ⊢
  rw [← hvv] at hx3 ⊢
  clear h hn htt hvv
  go_enter Tryd.func26, Tryd.ntmps26
  go_wp2_with fail
  rw [u64_wrap]
  refine (put_int B s l _ _ _ H.out (by omega) (by omega) (by omega) (by omega) (by omega)).mono ?_
  rintro e w2 ⟨rfl, hr2, hg2⟩
  have HR2 := Lib.hid hr2
  have HW2 := Lib.hid hg2
  clear hr2 hg2
  go_wp2_with fail
  refine (put_int B s _ _ _ _ HR2.out (by omega) (by omega) (by omega) (by omega) (by simp [bitsOf_length]; omega)).mono ?_
  rintro e w3 ⟨rfl, hr3, hg3⟩
  have HR3 := Lib.hid (((hr3.setN 1).setT tt).setV vv)
  have HW3 := Lib.hid ((((HW2.out.trans hg3).put 0 (.int .i64 (1 : Nat))).put 1 (.int .i64 tt)).put 3 (.int .u64 vv))
  have d0 : w3.cell? ⟨B, 0, none⟩ = some (.int .i64 (s.n : Nat)) := hr3.cell 0 (by omega) _ (fun _ _ => rfl)
  rw [HN.out] at d0
  have d1 : w3.cell? ⟨B, 1, none⟩ = some (.int .i64 s.t) := hr3.cell 1 (by omega) _ (fun _ _ => rfl)
  have d3 : w3.cell? ⟨B, 3, none⟩ = some (.int .u64 (s.v : Nat)) := hr3.cell 3 (by omega) _ (fun _ _ => rfl)
  have f0 := hr3.frozen 0
  have f1 := hr3.frozen 1
  have f3 := hr3.frozen 3
  clear hr3 hg3 c0
  go_wp2
  go_ret
  have e1 : appendBits s x = (bitsOf (u64 tt) 64 ++ bitsOf vv 64, { s with n := 1, t := tt, v := vv }) := by
    unfold appendBits
    rw [if_pos HN.out, HN.out, ← HTT.out, ← HVV.out]
  rw [e1]
  refine ⟨rfl, ?_, HW3.out⟩
  have := HR3.out
  rw [Int.toNat_natCast, Int.toNat_natCast, List.append_assoc] at this
  exact this

set_option maxRecDepth 100000 in
set_option maxHeartbeats 1600000 in
theorem append_more (B : Nat) (s : St) (l : List Bool) (x : Smp) (w : World) (h : WrAt w B s l) (hs : s.ok) (hx : x.ok) (hn : s.n ≠ 0) (hn2 : s.n < 120) (hl : l.length ≤ 90000) (hT : TabW w) (hB : 1 < B) :
    Calls Tryd.prog 26 #[.pointer (some ⟨B, 0, none⟩), .int .i64 x.t, .float .f64 x.v] w fun e w' => e = .returned (.int .i64 0) ∧ WrAt w' B (appendBits s x).2 (l ++ (appendBits s x).1) ∧ Wrote B w w' := by
  have c0 : w.cell? ⟨B, 0, none⟩ = some (.int .i64 (s.n : Nat)) := h.cell 0 (by omega) _ (fun _ _ => rfl)
  have c1 : w.cell? ⟨B, 1, none⟩ = some (.int .i64 s.t) := h.cell 1 (by omega) _ (fun _ _ => rfl)
  have c2 : w.cell? ⟨B, 2, none⟩ = some (.int .i64 s.delta) := h.cell 2 (by omega) _ (fun _ _ => rfl)
  have hn0 : ((s.n : Int) == 0) = false := by simp; omega
  have H := Lib.hid h
  have HN := Lib.hid hn
  have HT := Lib.hid hT
  obtain ⟨hs1, hs2⟩ := hs
  have HS := Lib.hid hs1
  obtain ⟨⟨hx1, hx2⟩, hx3⟩ := hx
  obtain ⟨tt, htt⟩ : ∃ tt, tt = x.t := ⟨_, rfl⟩
  obtain ⟨vv, hvv⟩ : ∃ vv, vv = x.v := ⟨_, rfl⟩
  have HTT := Lib.hid htt
  have HVV := Lib.hid hvv
  rw [← htt] at hx1 hx2 ⊢
  rw [← hvv] at hx3 ⊢
  have hwr := wrap64_range (wrap64 (tt - s.t) - s.delta)
  have hdl : (dodBits (wrap64 (wrap64 (tt - s.t) - s.delta))).length ≤ 70 := by
    unfold dodBits
    split
    · simp [bitsOf_length]
    · split
      · simp [bitsOf_length]
      · split
        · simp [bitsOf_length]
        · split <;> simp [bitsOf_length]
  obtain ⟨D, hD⟩ : ∃ D, D = wrap64 (tt - s.t) := ⟨_, rfl⟩
  obtain ⟨E, hE⟩ : ∃ E, E = wrap64 (D - s.delta) := ⟨_, rfl⟩
  rw [← hD, ← hE] at hwr hdl
  have HD := Lib.hid hD
  have HE := Lib.hid hE
  clear h hn htt hvv hs1 hT hD hE
  go_enter Tryd.func26, Tryd.ntmps26
  go_wp2_with fail
  rw [← HD.out, ← HE.out]
  refine (wdod_any B s l E _ H.out hwr.1 hwr.2 (by omega)).mono ?_
  rintro e w2 ⟨rfl, hr2, hg2⟩
  have HR2 := Lib.hid hr2
  have HW2 := Lib.hid hg2
  have d3 : w2.cell? ⟨B, 3, none⟩ = some (.int .u64 (s.v : Nat)) := hr2.cell 3 (by omega) _ (fun _ _ => rfl)
  clear hr2 hg2
  go_wp2_with fail
  rw [u64_xor_nat vv s.v hx3 hs2]
  have hxv : vv ^^^ s.v < 2 ^ 64 := Nat.xor_lt_two_pow hx3 hs2
  refine (wval_any B s (l ++ dodBits E) (vv ^^^ s.v) _ HR2.out HS.out hxv (by simp; omega) (HT.out.below HW2.out.below hB) hB).mono ?_
  rintro e w3 ⟨rfl, hr3, hg3⟩
  have hsame := valueBits_same s (vv ^^^ s.v)
  obtain ⟨y, hy⟩ : ∃ y, y = valueBits s (vv ^^^ s.v) := ⟨_, rfl⟩
  rw [← hy] at hr3 hsame
  have HY := Lib.hid hy
  have e0 : w3.cell? ⟨B, 0, none⟩ = some (.int .i64 (y.2.n : Nat)) := hr3.cell 0 (by omega) _ (fun _ _ => rfl)
  rw [hsame.1] at e0
  have e1 : w3.cell? ⟨B, 1, none⟩ = some (.int .i64 y.2.t) := hr3.cell 1 (by omega) _ (fun _ _ => rfl)
  have e2 : w3.cell? ⟨B, 2, none⟩ = some (.int .i64 y.2.delta) := hr3.cell 2 (by omega) _ (fun _ _ => rfl)
  have e3 : w3.cell? ⟨B, 3, none⟩ = some (.int .u64 (y.2.v : Nat)) := hr3.cell 3 (by omega) _ (fun _ _ => rfl)
  have f0 := hr3.frozen 0
  have f1 := hr3.frozen 1
  have f2 := hr3.frozen 2
  have f3 := hr3.frozen 3
  have HR3 := Lib.hid ((((hr3.setD D).setN (s.n + 1)).setT tt).setV vv)
  have HW3 := Lib.hid (((((HW2.out.trans hg3).put 2 (.int .i64 D)).put 0 (.int .i64 ((s.n + 1 : Nat) : Int))).put 1 (.int .i64 tt)).put 3 (.int .u64 vv))
  rw [show (((s.n + 1 : Nat) : Int)) = (s.n : Int) + 1 by omega] at HR3 HW3
  clear hr3 hg3 hsame hy c0 c1 c2 d3
  go_wp2
  go_ret
  have ee : appendBits s x = (dodBits E ++ y.1, { y.2 with n := s.n + 1, t := tt, delta := D, v := vv }) := by
    unfold appendBits
    rw [if_neg HN.out, ← HTT.out, ← HVV.out, ← HD.out, ← HE.out, ← HY.out]
  rw [ee]
  refine ⟨rfl, ?_, HW3.out⟩
  have := HR3.out
  rw [List.append_assoc] at this
  exact this

/-- A FURTHER SAMPLE, where there is room. -/
theorem append_any (B : Nat) (s : St) (l : List Bool) (x : Smp) (w : World) (h : WrAt w B s l) (hs : s.ok) (hx : x.ok) (hn2 : s.n < 120) (hl : l.length ≤ 90000) (hT : TabW w) (hB : 1 < B) :
    Calls Tryd.prog 26 #[.pointer (some ⟨B, 0, none⟩), .int .i64 x.t, .float .f64 x.v] w fun e w' => e = .returned (.int .i64 0) ∧ WrAt w' B (appendBits s x).2 (l ++ (appendBits s x).1) ∧ Wrote B w w' := by
  by_cases hn : s.n = 0
  · exact append_first B s l x w h hx hn hl
  · exact append_more B s l x w h hs hx hn hn2 hl hT hB
end Go.Proofs.YtjlfkdopkhejbaaDoor
