/- The walk of the keep's own (*reader).get. -/
import Derived.Test.YtjlfkdopkhejbaaDoorRefPack
namespace Go.Proofs.YtjlfkdopkhejbaaDoor
open Go.RowKit Go.Shelf Ck
attribute [local go_sem] frombits_call tobits_call run_store_float

/-- block R is the keep's reader in state s over the bytes bs, which lie below block lim -/
structure RbAt (w : World) (R lim : Nat) (A : Option Addr) (cap : Nat) (bs : List Nat) (s : RB) : Prop where
  blk : Blk w R 61 #[.slice A bs.length cap, .int .i64 s.at_, .bool s.bad]
  byt : BytAt w lim A bs
  lim_ : lim ≤ R
  small : bs.length ≤ 1000000
  lt : ∀ b ∈ bs, b < 256
  pos : s.at_ ≤ 8 * bs.length

section
variable {w w' : World} {R lim : Nat} {A : Option Addr} {cap : Nat} {bs : List Nat} {s s' : RB}
theorem RbAt.drewN (h : RbAt w R lim A cap bs s) (n : Nat) : RbAt (w.drewN n) R lim A cap bs s := ⟨h.blk, h.byt, h.lim_, h.small, h.lt, h.pos⟩
theorem RbAt.far (h : RbAt w R lim A cap bs s) (hb : Below w.heap.size w w') : RbAt w' R lim A cap bs s :=
  ⟨h.blk.below hb h.blk.lt, h.byt.below (hb.mono (by have := h.lim_; have := h.blk.lt; omega)), h.lim_, h.small, h.lt, h.pos⟩
theorem below_of_grown (hR : R < w.heap.size) (hg : w.grownBy w' (some R)) : Below R w w' := (Below.refl R w).grown hg (by omega) (fun k hk => by cases hk; exact Nat.le_refl _)
theorem RbAt.set (h : RbAt w R lim A cap bs s) (hg : w.grownBy w' (some R)) (hk : Blk w' R 61 #[.slice A bs.length cap, .int .i64 s'.at_, .bool s'.bad]) (hp : s'.at_ ≤ 8 * bs.length) : RbAt w' R lim A cap bs s' :=
  ⟨hk, h.byt.below ((below_of_grown h.blk.lt hg).mono h.lim_), h.lim_, h.small, h.lt, hp⟩
end

set_option maxHeartbeats 400000 in
theorem rget_off (R lim : Nat) (A : Option Addr) (cap : Nat) (bs : List Nat) (s : RB) (size : Int) (w : World) (h : RbAt w R lim A cap bs s) (h0 : 0 ≤ size) (h1 : size ≤ 64) (hoff : s.bad = true ∨ 8 * (bs.length : Int) - s.at_ < size) :
    Calls Tryd.prog 32 #[.pointer (some ⟨R, 0, none⟩), .int .i64 size] w fun e w' => e = .returned (.int .u64 0) ∧ RbAt w' R lim A cap bs { s with bad := true } ∧ w.grownBy w' (some R) := by
  have c0 : w.cell? ⟨R, 0, none⟩ = some (.slice A bs.length cap) := h.blk.cell 0
  have c1 : w.cell? ⟨R, 1, none⟩ = some (.int .i64 s.at_) := h.blk.cell 1
  have c2 : w.cell? ⟨R, 2, none⟩ = some (.bool s.bad) := h.blk.cell 2
  have f2 := h.blk.frozen 2
  have hs := h.small
  have hp := h.pos
  have H := Lib.hid h
  clear h
  have hB := Lib.hid hoff
  cases hbad : s.bad with
  | true =>
    rw [hbad] at c2
    clear hoff hbad
    go_enter Tryd.func32, Tryd.ntmps32
    go_wp2_with fail
    go_quiet (fail)
    go_wp2
    go_ret
    have hg : w.grownBy ((w.drewN nq).setCell ⟨R, 2, none⟩ (.bool true)) (some R) := only_setCell (only_drewN (only_refl _ _) nq) (.inl rfl) _
    exact ⟨rfl, H.out.set hg ((H.out.blk.drewN nq).set_ 2 (.bool true)) H.out.pos, hg⟩
  | false =>
    rw [hbad] at c2
    have hlt : 8 * (bs.length : Int) - s.at_ < size := by
      rcases hB.out with h | h
      · rw [hbad] at h; cases h
      · exact h
    have hw1 := Lib.hid (IntWalk.i64_in (8 * (bs.length : Int)) (by omega))
    have hw2 := Lib.hid (IntWalk.i64_in (8 * (bs.length : Int) - s.at_) (by omega))
    have hd0 := Lib.hid (show decide (size < 0) = false by simp; omega)
    have hd1 := Lib.hid (show decide (8 * (bs.length : Int) - s.at_ < size) = true by simp; omega)
    clear hoff hbad hB
    go_enter Tryd.func32, Tryd.ntmps32
    go_wp2_with fail
    go_quiet (fail)
    rw [hw1.out, hw2.out, hd0.out, hd1.out]
    go_wp2
    go_ret
    have hg : w.grownBy ((w.drewN nq).setCell ⟨R, 2, none⟩ (.bool true)) (some R) := only_setCell (only_drewN (only_refl _ _) nq) (.inl rfl) _
    exact ⟨rfl, H.out.set hg ((H.out.blk.drewN nq).set_ 2 (.bool true)) H.out.pos, hg⟩

def RGetRel (w : World) (R lim : Nat) (A : Option Addr) (cap : Nat) (bs : List Nat) (s : RB) (n : Nat) (x i : Value) (wr : World) : Prop :=
  ∃ k : Nat, k ≤ n ∧ i = .int .i64 k ∧ x = .int .u64 (gotN bs s.at_ k) ∧ RbAt wr R lim A cap bs { s with at_ := s.at_ + k } ∧ w.grownBy wr (some R)

set_option maxHeartbeats 800000 in
theorem rget_on (R lim : Nat) (A : Option Addr) (cap : Nat) (bs : List Nat) (s : RB) (n : Nat) (w : World) (h : RbAt w R lim A cap bs s) (hn : n ≤ 64) (hbad : s.bad = false) (hbig : s.at_ + n ≤ 8 * bs.length) :
    Calls Tryd.prog 32 #[.pointer (some ⟨R, 0, none⟩), .int .i64 n] w fun e w' => e = .returned (.int .u64 (gotN bs s.at_ n)) ∧ RbAt w' R lim A cap bs { s with at_ := s.at_ + n } ∧ w.grownBy w' (some R) := by
  have c0 : w.cell? ⟨R, 0, none⟩ = some (.slice A bs.length cap) := h.blk.cell 0
  have c1 : w.cell? ⟨R, 1, none⟩ = some (.int .i64 s.at_) := h.blk.cell 1
  have c2 : w.cell? ⟨R, 2, none⟩ = some (.bool s.bad) := h.blk.cell 2
  rw [hbad] at c2
  have hs := h.small
  have H := Lib.hid h
  have h1 : (n : Int) ≤ 8 * (bs.length : Int) - s.at_ := by omega
  have h0 : (0 : Int) ≤ (n : Int) := by omega
  have hw1 := Lib.hid (IntWalk.i64_in (8 * (bs.length : Int)) (by have := h.small; omega))
  have hw2 := Lib.hid (IntWalk.i64_in (8 * (bs.length : Int) - s.at_) (by have := h.small; have := h.pos; omega))
  have hd0 := Lib.hid (show decide ((n : Int) < 0) = false by simp)
  have hd1 := Lib.hid (show decide (8 * (bs.length : Int) - s.at_ < (n : Int)) = false by simp; omega)
  clear h
  go_enter Tryd.func32, Tryd.ntmps32
  go_wp2_with fail
  go_quiet (fail)
  rw [hw1.out, hw2.out, hd0.out, hd1.out]
  go_wp2_with fail
  go_loopw [5, 6] (fun x i wr => RGetRel w R lim A cap bs s n x i wr) (fun _ i _ => n - (intOf i).toNat)
  case atStart => exact ⟨0, Nat.zero_le _, rfl, rfl, H.out.drewN nq, only_drewN (only_refl _ _) nq⟩
  case round =>
    obtain ⟨k, hk, rfl, rfl, hr, hW⟩ := hrel
    by_cases hlt : k < n
    · obtain ⟨g, off, hA, hg, hcb⟩ := hr.byt (by omega)
      have q3 : (s.at_ + k) / 8 < bs.length := by omega
      have q1 := hcb ((s.at_ + k) / 8) (bs.getD ((s.at_ + k) / 8) 0) (by simp [List.getD, List.getElem?_eq_getElem q3])
      subst hA
      have d0 : wr.cell? ⟨R, 0, none⟩ = some (.slice (some ⟨g, off, none⟩) bs.length cap) := hr.blk.cell 0
      have d1 : wr.cell? ⟨R, 1, none⟩ = some (.int .i64 (s.at_ + k : Nat)) := hr.blk.cell 1
      have g1 := hr.blk.frozen 1
      have q4 := getD_lt hr.lt ((s.at_ + k) / 8)
      have q5 := gotN_lt bs s.at_ k
      have q2 : gotN bs s.at_ k < 9223372036854775808 := by
        have : (2 : Nat) ^ k ≤ 2 ^ 63 := Nat.pow_le_pow_right (by omega) (by omega)
        omega
      clear q5 hcb
      have HQ := Lib.hid (round_eq bs hr.lt s.at_ k (by omega) (by omega))
      have HR := Lib.hid hr
      have HW := Lib.hid hW
      clear hr hW c0 c1 c2 h1
      generalize gotN bs s.at_ k = X at *
      generalize bs.getD ((s.at_ + k) / 8) 0 = B at *
      go_wp2_with fail
      go_quiet (fail)
      go_wp2
      have e8 : ((s.at_ : Int) + k + 1) = ((s.at_ + (k + 1) : Nat) : Int) := by omega
      have hg2 : wr.grownBy ((wr.drewN nq).setCell ⟨R, 1, none⟩ (.int .i64 ((s.at_ + (k + 1) : Nat) : Int))) (some R) := only_setCell (only_drewN (only_refl _ _) nq) (.inl rfl) _
      refine ⟨⟨k + 1, by omega, by go_num, by rw [HQ.out], ?_, ?_⟩, by simp [intOf]; omega⟩
      · rw [e8]
        exact HR.out.set hg2 ((HR.out.blk.drewN nq).set_ 1 _) (by simp only; omega)
      · rw [e8]
        exact only_trans HW.out hg2
    · have hkn : k = n := by omega
      subst hkn
      clear c0 c1 c2 h1
      have HR := Lib.hid hr
      have HW := Lib.hid hW
      clear hr hW
      go_wp2
      go_ret
      exact ⟨rfl, HR.out, HW.out⟩

/-- READ SO MANY BITS. -/
theorem rget_any (R lim : Nat) (A : Option Addr) (cap : Nat) (bs : List Nat) (s : RB) (size : Int) (w : World) (h : RbAt w R lim A cap bs s) (h0 : 0 ≤ size) (h1 : size ≤ 64) :
    Calls Tryd.prog 32 #[.pointer (some ⟨R, 0, none⟩), .int .i64 size] w fun e w' => e = .returned (.int .u64 ((rget (ofBytes bs) s size.toNat).1 : Nat)) ∧ RbAt w' R lim A cap bs (rget (ofBytes bs) s size.toNat).2 ∧ w.grownBy w' (some R) := by
  obtain ⟨n, rfl⟩ := Int.eq_ofNat_of_zero_le h0
  unfold rget
  rw [ofBytes_length, Int.toNat_natCast]
  have hp := h.pos
  by_cases hb : s.bad = true ∨ 8 * bs.length < s.at_ + n
  · rw [if_pos hb]
    exact rget_off R lim A cap bs s n w h h0 h1 (hb.imp id (fun h => by omega))
  · rw [if_neg hb]
    simp only [not_or, Bool.not_eq_true] at hb
    exact rget_on R lim A cap bs s n w h (by omega) hb.1 (by omega)
end Go.Proofs.YtjlfkdopkhejbaaDoor
