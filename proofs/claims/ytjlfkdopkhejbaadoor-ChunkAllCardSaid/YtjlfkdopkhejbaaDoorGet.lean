/- The walk of (*chunk.reader).get: it reads just the bits that the plain reader reads. -/
import Derived.Test.YtjlfkdopkhejbaaDoorProg
import Derived.Test.YtjlfkdopkhejbaaDoorBack
import Derived.Test.YtjlfkdopkhejbaaDoorLib
import Derived.WalkKit
import Derived.WalkSpells
import Derived.WalkLawsBesides
import Derived.Deep.QuietTactic
import Derived.BigQuiet
import Derived.KernelRfl
namespace Go.Proofs.YtjlfkdopkhejbaaDoor
open Go.RowKit Ck

/-- a reader's cells -/
def rdCells (r : Rd) (raw : Value) : Array Value :=
  #[.int .i64 r.s.n, .int .i64 r.s.t, .int .i64 r.s.delta, .int .u64 r.s.v, .int .i64 r.s.lead, .int .i64 r.s.tail, .bool r.s.opn, raw, .int .i64 r.pos, .bool r.short]

/-- block R is a reader in state r over the bytes bs -/
structure RdAt (w : World) (R G off cap : Nat) (bs : List Nat) (r : Rd) : Prop where
  blk : Blk w R 72 (rdCells r (.slice (some ⟨G, off, none⟩) bs.length cap))
  ne : R ≠ G
  small : bs.length ≤ 1000000
  byte : ∀ i, i < bs.length → w.cell? ⟨G, off + i, none⟩ = some (.int .u8 (bs.getD i 0 : Nat))
  lt : ∀ b ∈ bs, b < 256
  pos : r.pos ≤ 8 * bs.length
  inG : bs.length ≠ 0 → G < w.heap.size

theorem RdAt.drewN {w : World} {R G off cap : Nat} {bs : List Nat} {r : Rd} (h : RdAt w R G off cap bs r) (n : Nat) : RdAt (w.drewN n) R G off cap bs r :=
  ⟨h.blk, h.ne, h.small, h.byte, h.lt, h.pos, h.inG⟩

theorem RdAt.grown {w w' : World} {R G off cap : Nat} {bs : List Nat} {r r' : Rd} (h : RdAt w R G off cap bs r) (hg : w.grownBy w' (some R))
    (hb : Blk w' R 72 (rdCells r' (.slice (some ⟨G, off, none⟩) bs.length cap))) (hp : r'.pos ≤ 8 * bs.length) : RdAt w' R G off cap bs r' := by
  refine ⟨hb, h.ne, h.small, fun i hi => ?_, h.lt, hp, fun hn => Nat.lt_of_lt_of_le (h.inG hn) hg.size⟩
  rw [World.cell?_of_block (hg.block G (h.inG (by omega)) (fun e => h.ne (Option.some.inj e).symm))]
  exact h.byte i hi

theorem getD_lt {bs : List Nat} (h : ∀ b ∈ bs, b < 256) (i : Nat) : bs.getD i 0 < 256 := by
  rw [List.getD_eq_getElem?_getD]
  cases e : bs[i]? with
  | none => simp
  | some b => exact h b (List.mem_of_getElem? e)

/-- what has been read after k rounds -/
def gotN (bs : List Nat) (p k : Nat) : Nat := val (((ofBytes bs).drop p).take k)

theorem gotN_lt (bs : List Nat) (p k : Nat) : gotN bs p k < 2 ^ k := by
  refine Nat.lt_of_lt_of_le (val_lt _) (Nat.pow_le_pow_right (by omega) (by simp; omega))
theorem gotN_succ (bs : List Nat) (p k : Nat) (h : p + k < 8 * bs.length) : gotN bs p (k + 1) = 2 * gotN bs p k + (bitAt bs (p + k)).toNat := by
  unfold gotN
  rw [List.take_add_one, List.getElem?_drop, ofBytes_get _ _ h]
  exact val_snoc _ _

/-- one round's arithmetic, as the walk spells it -/
theorem round_eq (bs : List Nat) (hb : ∀ b ∈ bs, b < 256) (p k : Nat) (hk : k < 64) (h : p + k < 8 * bs.length) :
    bits BinOp.or IntKind.u64 ((gotN bs p k : Nat) * 2 : Int) (IntKind.u64.wrap (bits BinOp.and IntKind.u8 ((bs.getD ((p + k) / 8) 0 : Nat) / 2 ^ (7 - (p + k) % 8) : Int) 1)) = (gotN bs p (k + 1) : Nat) := by
  have h1 := gotN_lt bs p k
  have h2 : gotN bs p k * 2 < 18446744073709551616 := by
    have : (2 : Nat) ^ k ≤ 2 ^ 63 := Nat.pow_le_pow_right (by omega) (by omega)
    omega
  have hB := getD_lt hb ((p + k) / 8)
  have e0 : ((gotN bs p k : Nat) * 2 : Int) = ((gotN bs p k * 2 : Nat) : Int) := by omega
  have e1 : ((bs.getD ((p + k) / 8) 0 : Nat) / 2 ^ (7 - (p + k) % 8) : Int) = ((bs.getD ((p + k) / 8) 0 / 2 ^ (7 - (p + k) % 8) : Nat) : Int) := by norm_cast
  have h3 : bs.getD ((p + k) / 8) 0 / 2 ^ (7 - (p + k) % 8) < 256 := Nat.lt_of_le_of_lt (Nat.div_le_self _ _) hB
  rw [e0, e1]
  have e2 := u8_and_nat (bs.getD ((p + k) / 8) 0 / 2 ^ (7 - (p + k) % 8)) 1 h3 (by omega)
  rw [show ((1 : Nat) : Int) = 1 from rfl] at e2
  rw [e2, nat_mask1]
  rw [IntWalk.u64_in _ (by omega)]
  rw [u64_or_nat _ _ h2 (by omega)]
  rw [gotN_succ bs p k h]
  have e3 : (bitAt bs (p + k)).toNat = bs.getD ((p + k) / 8) 0 / 2 ^ (7 - (p + k) % 8) % 2 := by
    unfold bitAt
    rw [Nat.testBit_eq_decide_div_mod_eq]
    have := Nat.mod_two_eq_zero_or_one (bs.getD ((p + k) / 8) 0 / 2 ^ (7 - (p + k) % 8))
    rcases this with e | e <;> rw [e] <;> simp
  rw [e3, nat_join 1 _ _ (by omega) (by omega)]
  congr 1
  omega

/-- what holds at a round's head -/
def GetRel (w : World) (R G off cap : Nat) (bs : List Nat) (r : Rd) (n : Nat) (x i : Value) (wr : World) : Prop :=
  ∃ k : Nat, k ≤ n ∧ i = .int .i64 k ∧ x = .int .u64 (gotN bs r.pos k) ∧ RdAt wr R G off cap bs { r with pos := r.pos + k } ∧ w.grownBy wr (some R)


set_option maxHeartbeats 400000 in
theorem get_short (R G off cap : Nat) (bs : List Nat) (r : Rd) (size : Int) (w : World) (h : RdAt w R G off cap bs r) (h1 : size ≤ 64) (hbig : 8 * (bs.length : Int) - r.pos < size) :
    Calls Tryd.prog 45 #[.pointer (some ⟨R, 0, none⟩), .int .i64 size] w fun e w' => e = .returned (.int .u64 0) ∧ RdAt w' R G off cap bs { r with short := true } ∧ w.grownBy w' (some R) := by
  have c7 : w.cell? ⟨R, 7, none⟩ = some (.slice (some ⟨G, off, none⟩) bs.length cap) := h.blk.cell 7
  have c8 : w.cell? ⟨R, 8, none⟩ = some (.int .i64 r.pos) := h.blk.cell 8
  have c9 : w.cell? ⟨R, 9, none⟩ = some (.bool r.short) := h.blk.cell 9
  have f9 := h.blk.frozen 9
  have hs := h.small
  have hp := h.pos
  have H := Lib.hid h
  clear h
  go_enter Tryd.func45, Tryd.ntmps45
  go_wp2_with fail
  go_quiet (fail)

  go_wp2
  go_ret
  have hg : w.grownBy ((w.drewN nq).setCell ⟨R, 9, none⟩ (.bool true)) (some R) := only_setCell (only_drewN (only_refl _ _) nq) (.inl rfl) _
  exact ⟨rfl, H.out.grown hg ((H.out.blk.drewN nq).set_ 9 (.bool true)) H.out.pos, hg⟩

set_option maxHeartbeats 400000 in
theorem get_long (R G off cap : Nat) (bs : List Nat) (r : Rd) (n : Nat) (w : World) (h : RdAt w R G off cap bs r) (hn : n ≤ 64) (hbig : r.pos + n ≤ 8 * bs.length) :
    Calls Tryd.prog 45 #[.pointer (some ⟨R, 0, none⟩), .int .i64 n] w fun e w' => e = .returned (.int .u64 (gotN bs r.pos n)) ∧ RdAt w' R G off cap bs { r with pos := r.pos + n } ∧ w.grownBy w' (some R) := by
  have c7 : w.cell? ⟨R, 7, none⟩ = some (.slice (some ⟨G, off, none⟩) bs.length cap) := h.blk.cell 7
  have c8 : w.cell? ⟨R, 8, none⟩ = some (.int .i64 r.pos) := h.blk.cell 8
  have hs := h.small
  have H := Lib.hid h
  have h1 : (n : Int) ≤ 8 * (bs.length : Int) - r.pos := by omega
  clear h
  go_enter Tryd.func45, Tryd.ntmps45
  go_wp2_with fail
  go_quiet (fail)

  go_wp2_with fail
  go_loopw [5, 23] (fun x i wr => GetRel w R G off cap bs r n x i wr) (fun _ i _ => n - (intOf i).toNat)
  case atStart => exact ⟨0, Nat.zero_le _, rfl, rfl, H.out.drewN nq, only_drewN (only_refl _ _) nq⟩
  case round =>
    obtain ⟨k, hk, rfl, rfl, hr, hW⟩ := hrel
    by_cases hlt : k < n
    · have d7 : wr.cell? ⟨R, 7, none⟩ = some (.slice (some ⟨G, off, none⟩) bs.length cap) := hr.blk.cell 7
      have d8 : wr.cell? ⟨R, 8, none⟩ = some (.int .i64 (r.pos + k : Nat)) := hr.blk.cell 8
      have g8 := hr.blk.frozen 8
      have q3 : (r.pos + k) / 8 < bs.length := by omega
      have q1 := hr.byte _ q3
      have q4 := getD_lt hr.lt ((r.pos + k) / 8)
      have q5 := gotN_lt bs r.pos k
      have q2 : gotN bs r.pos k < 9223372036854775808 := by
        have : (2 : Nat) ^ k ≤ 2 ^ 63 := Nat.pow_le_pow_right (by omega) (by omega)
        omega
      clear q5
      have HQ := Lib.hid (round_eq bs hr.lt r.pos k (by omega) (by omega))
      have HR := Lib.hid hr
      have HW := Lib.hid hW
      clear hr hW c7 c8 h1
      generalize gotN bs r.pos k = X at *
      generalize bs.getD ((r.pos + k) / 8) 0 = B at *
      go_wp2_with fail
      go_quiet (fail)
      go_wp2
      have e8 : ((r.pos : Int) + k + 1) = ((r.pos + (k + 1) : Nat) : Int) := by omega
      have hg : wr.grownBy ((wr.drewN nq).setCell ⟨R, 8, none⟩ (.int .i64 ((r.pos + (k + 1) : Nat) : Int))) (some R) := only_setCell (only_drewN (only_refl _ _) nq) (.inl rfl) _
      refine ⟨⟨k + 1, by omega, by go_num, by rw [HQ.out], ?_, ?_⟩, by simp [intOf]; omega⟩
      · rw [e8]
        exact HR.out.grown hg ((HR.out.blk.drewN nq).set_ 8 _) (by simp only; omega)
      · rw [e8]
        exact only_trans HW.out hg
    · have hkn : k = n := by omega
      subst hkn
      clear c7 c8 h1
      have HR := Lib.hid hr
      have HW := Lib.hid hW
      clear hr hW
      go_wp2
      go_ret
      exact ⟨rfl, HR.out, HW.out⟩

/-- READ SO MANY BITS. -/
theorem get_any (R G off cap : Nat) (bs : List Nat) (r : Rd) (size : Int) (w : World) (h : RdAt w R G off cap bs r) (h0 : 0 ≤ size) (h1 : size ≤ 64) :
    Calls Tryd.prog 45 #[.pointer (some ⟨R, 0, none⟩), .int .i64 size] w fun e w' => e = .returned (.int .u64 ((Ck.get (ofBytes bs) r size.toNat).1 : Nat)) ∧ RdAt w' R G off cap bs (Ck.get (ofBytes bs) r size.toNat).2 ∧ w.grownBy w' (some R) := by
  obtain ⟨n, rfl⟩ := Int.eq_ofNat_of_zero_le h0
  unfold Ck.get
  rw [ofBytes_length, Int.toNat_natCast]
  have hp := h.pos
  by_cases hb : 8 * bs.length < r.pos + n
  · rw [if_pos hb]
    exact get_short R G off cap bs r n w h h1 (by omega)
  · rw [if_neg hb]
    exact get_long R G off cap bs r n w h (by omega) (by omega)

end Go.Proofs.YtjlfkdopkhejbaaDoor
