/- The walk of begins (function 15), where the first is a beginning of the second; string(b) of any row of bytes. -/
import Derived.Test.YtfeglchngekedaaKept
namespace Go.Proofs.Ytfeglchngekedaa
open Go.RowKit Go.Shelf Go.Maps

theorem run_str_reads {w : World} {B n : Nat} {A : Option Addr} {l : List UInt8} (c : Nat) (h : Reads w B 1 A n (bytesV l)) : (convert 22 9 (.slice A n c)).run Try.prog w = .ok (.string ⟨l.toArray⟩) w := by
  have hl : l.length = n := by have := h.1; rw [bytesV_length] at this; omega
  cases A with
  | none =>
    have h0 : n = 0 := by
      rcases Nat.eq_zero_or_pos n with h0 | h0
      · exact h0
      · obtain ⟨ad, e, -⟩ := h.2 h0
        cases e
    have : l = [] := List.eq_nil_of_length_eq_zero (by omega)
    subst this
    exact run_convert_bytes_nil (P := Try.prog) w 22 5 Try.underlying22 Try.underlying5 _ _ 9 Try.underlying9
  | some a =>
    have hc : (loadCells a n).run Try.prog w = .ok ((l.map fun b => (b.toNat : Int)).map (Value.int .u8)).toArray w := by
      have := run_loadCells_list (P := Try.prog) (w := w) a (bytesV l) (fun j v hj => by
        rcases Nat.eq_zero_or_pos n with h0 | h0
        · have := (List.getElem?_eq_some_iff.1 hj).1
          rw [bytesV_length] at this
          omega
        · obtain ⟨ad, e, -, hcell⟩ := h.2 h0
          injection e with e
          subst e
          exact hcell j v hj)
      rw [bytesV_length, hl] at this
      rw [this, List.map_map]
      rfl
    rw [run_convert_bytes_string w 22 9 5 (some a) n c Try.underlying22 Try.underlying5 Try.underlying9, run_bytesToString w a n c _ hc, foldl_push_bytes]
    congr 2
    rw [← strOfNums_bytes]
    simp [strOfNums]
    conv => rhs; rw [← List.map_id l]
    apply List.map_congr_left
    intro b _
    simp

set_option maxRecDepth 100000 in
set_option maxHeartbeats 3200000 in
theorem begins_any (w : World) {B1 B2 n m c d : Nat} {A1 A2 : Option Addr} {a b : List UInt8} (h1 : Reads w B1 1 A1 n (bytesV a)) (h2 : Reads w B2 1 A2 m (bytesV b)) (hab : a = b.take n) (hnm : n ≤ m) (hmd : m ≤ d) (hd : m ≤ maxLen) :
    Calls Try.prog 15 #[.slice A1 n c, .slice A2 m d] w fun e w' => e = .returned (.bool true) ∧ ∃ q, w' = w.drewN q := by
  have c1 : ∀ q, (convert 22 9 (.slice A1 n c)).run Try.prog (w.drewN q) = .ok (.string ⟨a.toArray⟩) (w.drewN q) := fun q => run_str_reads c (h1.drewN q)
  have h3 : Reads w B2 1 A2 n (bytesV a) := by
    have := h2.take hnm
    rw [show (bytesV b).take (n * 1) = bytesV a by unfold bytesV; rw [hab, Nat.mul_one, List.map_take]] at this
    exact this
  have c2 : ∀ q, (convert 22 9 (.slice A2 n d)).run Try.prog (w.drewN q) = .ok (.string ⟨a.toArray⟩) (w.drewN q) := fun q => run_str_reads d (h3.drewN q)
  have hdm : n ≤ d := by omega
  have hle : (n : Int) ≤ (m : Int) := by omega
  have hm2 : m ≤ 9223372036854775807 := Nat.le_trans hd (by simp [maxLen])
  clear h1 h2 h3 hab
  go_enter Try.func15, Try.ntmps15
  go_upto_region 1 with fail
  go_quiet (fail)
  go_wp2
  go_ret
  exact ⟨rfl, _, rfl⟩
end Go.Proofs.Ytfeglchngekedaa
