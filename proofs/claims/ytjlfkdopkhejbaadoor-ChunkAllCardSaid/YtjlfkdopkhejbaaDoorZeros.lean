/- math/bits.Len64, LeadingZeros64, TrailingZeros64: the walks, after the kit's shelf. -/
import Derived.Test.YtjlfkdopkhejbaaDoorCodec
import Derived.Test.YtjlfkdopkhejbaaDoorProg
import Derived.WalkKit
import Derived.WalkSpells
import Derived.WalkLawsBesides
import Derived.KernelRfl
import Derived.Test.YtjlfkdopkhejbaaDoorShelf
import Derived.Lib.BitFns
import Derived.Laws.Bits64b
import Derived.Lib.TrailingZeros
import Derived.Shelf.Spec.TrailingZeros
namespace Go.Proofs.YtjlfkdopkhejbaaDoor
open Go.RowKit

theorem bitLen_le64 (x : Nat) (h : x < 2 ^ 64) : Lib.bitLen x ≤ 64 := (Ck.bitLenAux_lt 64 x h).2

theorem lead_any (x : Nat) (w : World) (h : x < 18446744073709551616) :
    Calls Tryd.prog 49 #[.int .u64 (x : Int)] w fun e w' => e = .returned (.int .i64 (Ck.clz x : Nat)) ∧ w = w' := by
  have l := bitLen_le64 x h
  refine (Tryd.bits_LeadingZeros64 (x : Int) w (by omega) (by omega)).mono fun e w' ⟨he, hw⟩ => ⟨?_, hw.symm⟩
  rw [he]
  refine congrArg Ending.returned (congrArg (Value.int IntKind.i64) ?_)
  unfold Ck.clz
  rw [Int.toNat_natCast]
  omega

set_option maxHeartbeats 1000000 in
theorem trail_core (x k idx : Nat) (w : World) (hx0 : ((x : Int) == 0) = false)
    (key : IntKind.u64.wrap (bits BinOp.and IntKind.u64 (x : Int) (IntKind.u64.wrap (-(x : Int))) * 285870213051353865) / 288230376151711744 = (idx : Int))
    (hi : idx < 64) (hk : k < 64) (hcell : w.cell? ⟨1, idx, none⟩ = some (.int .u8 k)) :
    Calls Tryd.prog 50 #[.int .u64 x] w fun e w' => e = .returned (.int .i64 k) ∧ w = w' := by
  go_enter Tryd.func50, Tryd.ntmps50
  go_wp2
  go_ret
  exact ⟨rfl, rfl⟩

/-- the table in its variable (block 1) -/
def TabW (w : World) : Prop := ∀ j, j < Lib.deBruijn64tab.length → w.cell? ⟨1, j, none⟩ = some (.int .u8 (Lib.deBruijn64tab.getD j 0))

theorem trail_any (x : Nat) (w : World) (h : x < 18446744073709551616) (h0 : x ≠ 0) (hT : TabW w) :
    Calls Tryd.prog 50 #[.int .u64 (x : Int)] w fun e w' => e = .returned (.int .i64 (Ck.ctz x : Nat)) ∧ w = w' := by
  obtain ⟨hlow, hk⟩ := Lib.lowest_bit 64 x h0 h
  obtain ⟨hi, htab⟩ := Lib.deBruijn64_at _ hk
  have hcell := hT _ hi
  rw [htab] at hcell
  exact trail_core x _ _ w (by simp; omega) (tz64_key x _ h h0 hlow) hi hk hcell

end Go.Proofs.YtjlfkdopkhejbaaDoor
