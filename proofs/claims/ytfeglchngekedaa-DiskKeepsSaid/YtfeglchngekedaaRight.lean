/- The walks of the names' tests: the program's right, the document's Right. -/
import Derived.Test.YtfeglchngekedaaProg
import Derived.Test.YtfeglchngekedaaWords
import Derived.Test.YtfeglchngekedaaShelf
import Derived.WalkKit
import Derived.Handy
import Derived.WalkSpells
import Derived.WalkLawsBesides
import Derived.Deep.QuietTactic
import Derived.BigQuiet
import Derived.KernelRfl
import Derived.Laws.Cover2
import Derived.Deep.DeepCutAuto
import Derived.Deep.CutBlock
import Derived.BigRegion
import Derived.Deep.RegionHeld3
namespace Go.Proofs.Ytfeglchngekedaa
open Go.RowKit Go.Shelf

def markS : ByteArray := { data := #[46, 47, 45, 95] }
theorem encode_two (r : Int) (h0 : 128 ≤ r) (h1 : r ≤ 255) : ∃ c0 c1 : UInt8, Utf8.encode r = { data := #[c0, c1] } ∧ 128 ≤ c1.toNat := by
  have hv : Utf8.valid r = true := by unfold Utf8.valid; simp; omega
  unfold Utf8.encode
  simp only [hv, if_true]
  rw [if_neg (by omega), if_pos (by omega)]
  refine ⟨_, _, rfl, ?_⟩
  have : (UInt8.ofNat (0x80 + r.toNat % 64)).toNat = 0x80 + r.toNat % 64 := by
    rw [UInt8.toNat_ofNat']
    omega
  omega

theorem sib_c (c1 : UInt8) (hc : 128 ≤ c1.toNat) (x : Int) (hx : x = (c1.toNat : Int)) (w : World) : Calls Try.prog 90 #[.string (markS.extract 2 markS.size), .int .u8 x] w fun e w' => e = .returned (.int .i64 (-1)) ∧ w' = w := by
  have n1 : ((45 : UInt8) == c1) = false := by
    rw [beq_eq_false_iff_ne]; rintro rfl; exact absurd hc (by decide)
  have n2 : ((95 : UInt8) == c1) = false := by
    rw [beq_eq_false_iff_ne]; rintro rfl; exact absurd hc (by decide)
  refine (Try.strings_IndexByte _ _ w).mono ?_
  rintro e w' ⟨rfl, rfl⟩
  refine ⟨?_, rfl⟩
  have e1 : (markS.extract 2 markS.size).data.toList = [45, 95] := by decide
  have e2 : x.toNat.toUInt8 = c1 := by rw [hx]; simp
  rw [e1, e2]
  simp [Lib.indexByte, n1, n2]

set_option maxRecDepth 100000 in
set_option maxHeartbeats 1600000 in
theorem irune_high (r : Int) (w : World) (h0 : 128 ≤ r) (h1 : r ≤ 255) : Calls Try.prog 77 #[.string markS, .int .i32 r] w fun e w' => e = .returned (.int .i64 (-1)) ∧ ∃ n, w' = w.drewN n := by
  have hv : Lib.validRune r = true := by unfold Lib.validRune; simp; omega
  have q1 : (r == 65533) = false := by simp; omega
  obtain ⟨c0, c1, hE, hc⟩ := encode_two r h0 h1
  have HE := Lib.hid hE
  have k1 : Lib.indexByte [45, 95] c1 = -1 := by
    have n1 : ((45 : UInt8) == c1) = false := by
      rw [beq_eq_false_iff_ne]; rintro rfl; exact absurd hc (by decide)
    have n2 : ((95 : UInt8) == c1) = false := by
      rw [beq_eq_false_iff_ne]; rintro rfl; exact absurd hc (by decide)
    simp [Lib.indexByte, n1, n2]
  have K1 := Lib.hid k1
  clear k1 hE
  go_enter Try.func77, Try.ntmps77
  go_wp2_with fail
  refine (Try.utf8_ValidRune r _).mono ?_
  rintro e w1 ⟨rfl, rfl⟩
  rw [hv]
  go_wp2
  go_step3
  go_wp2
  rw [HE.out, show wrap64 ((({ data := #[c0, c1] } : ByteArray).size : Int) - 1) = 1 by rw [show ({ data := #[c0, c1] } : ByteArray).size = 2 from rfl]; unfold wrap64; omega]
  refine wp_loop_rounds 1 ?_
  rw [rounds_succ]
  go_wp2_with fail
  go_step3
  go_wp2_with fail
  have z1 : (({ data := #[c0, c1] } : ByteArray).size : Int) = 2 := rfl
  have z2 : (markS.size : Int) = 4 := rfl
  have z3 : ((markS[1].toNat : Int) != ((({ data := #[c0, c1] } : ByteArray)[1]).toNat : Int)) = true := by
    have e1 : markS[1].toNat = 47 := rfl
    have e2 : ((({ data := #[c0, c1] } : ByteArray)[1]).toNat : Int) = (c1.toNat : Int) := rfl
    rw [e1, e2]
    simp
    omega
  go_quiet (fail)
  go_wp2_with fail
  obtain ⟨w2, hw2⟩ : ∃ w2, w2 = w1.drewN nq := ⟨_, rfl⟩
  have HW2 := Lib.hid hw2
  rw [← hw2]
  clear hw2
  go_quiet ((go_at_call 90; exact Calls.quiet_of_same (sib_c c1 hc _ rfl _)))
  go_wp2
  rw [Exit.noGoto_ret]
  go_wp2
  rw [Exit.noGoto_ret]
  go_ret
  obtain ⟨n3, hn3⟩ : ∃ n3, w2.drewN nq = w1.drewN n3 := by
    rw [HW2.out]
    exact ⟨_, World.drewN_drewN w1 _ _⟩
  exact ⟨rfl, n3, hn3⟩
theorem crune_high (r : Int) (w : World) (h0 : 128 ≤ r) (h1 : r ≤ 255) : Calls Try.prog 67 #[.string markS, .int .i32 r] w fun e w' => e = .returned (.bool false) ∧ ∃ n, w' = w.drewN n := by
  go_enter Try.func67, Try.ntmps67
  go_wp2_with fail
  refine (irune_high r w h0 h1).mono ?_
  rintro e w' ⟨rfl, n, rfl⟩
  go_wp2
  go_ret
  exact ⟨rfl, n, rfl⟩

/-- is it one of the four marks -/
def markB (b : Nat) : Bool := b == 46 || b == 47 || b == 45 || b == 95
theorem crune_any (b : Nat) (w : World) (hb : b < 256) : Calls Try.prog 67 #[.string markS, .int .i32 b] w fun e w' => e = .returned (.bool (markB b)) ∧ ∃ n, w' = w.drewN n := by
  rcases Nat.lt_or_ge b 128 with h | h
  · refine (Try.strings_ContainsRune_ascii markS b w (by omega) (by omega)).mono ?_
    rintro e w' ⟨rfl, rfl⟩
    refine ⟨?_, 0, rfl⟩
    have : ∀ b : Fin 128, decide (0 ≤ Lib.indexByte markS.data.toList ((b.val : Int)).toNat.toUInt8) = markB b.val := by decide
    rw [show ((b : Int)) = (((⟨b, h⟩ : Fin 128).val : Nat) : Int) from rfl, this ⟨b, h⟩]
  · refine (crune_high b w (by omega) (by omega)).mono ?_
    rintro e w' ⟨rfl, n, rfl⟩
    refine ⟨?_, n, rfl⟩
    have : markB b = false := by unfold markB; simp; omega
    rw [this]
end Go.Proofs.Ytfeglchngekedaa
