/- The law DiskTwice answers true at all inputs, and the world below reads as it did. No condition. The frame of the proof is the seat's skeleton's. -/
import Derived.Test.YtfeglchngekedaaJ08Wakes
import Derived.Test.YtfeglchngekedaaJ23Twice
namespace Go.Proofs.Ytfeglchngekedaa.diskTwice
open Go.ChangeShapes Go.WideShapes Go.ChangeAt Go.RowKit

set_option maxRecDepth 100000 in
theorem lifted (os : Os) (started : os.Started) (H : Type) (enc : TypeId × Value → H) :
    ReturnsInHanded {} Try.checked os 7 .any (Rows.diskTwiceSpec.pre6 enc Try.prog Try.f7 Rows.diskTwiceRow.domain false) (Rows.diskTwiceSpec.post enc Try.prog Try.f7 false true false false) := by
  refine returnsInHanded_of_change_sized (C := Try.checked) own started (by kernel_rfl) Try.func7
    (ChangeSpec.witness6 (enc := enc) (C := Try.checked) false ⟨#[], #[.slice none 0 0, .slice none 0 0, .slice none 0 0], []⟩ 8 (by kernel_rfl) (by kernel_rfl) (by kernel_rfl) (by kernel_rfl)) ?_
  intro W base args ds gs before hval0 hW hcnd hz _
  have hval : ∀ (j : Nat) t v, Try.f7.params[j]? = some t → args[j]? = some v → Value.okWide Try.prog W .any base t v := hval0
  have hW' := hW
  obtain ⟨p, q, hA0, hV, rfl, -, -⟩ := hW
  obtain ⟨rfl, rfl⟩ := trodVars_none hV
  rw [List.append_nil] at hW'
  have hA : DataW.TrodAll enc Try.prog W 0 (fun _ => true) true Try.f7.params.toList args.toList ds p := hA0
  have hz1 : (DataW.weightsEach Try.prog (Try.f7.params.toList ++ Rows.diskTwiceSpec.plain.varTypes Try.prog) (ds ++ [])).all (· ≤ reachBytes) = true := hz
  rw [Try.params7] at hA hval hz1
  obtain ⟨v0, vs0, d0, ds0, p0, q0, hargs, rfl, rfl, h0, r0⟩ := trodAll_cons hA
  obtain ⟨v1, vs1, d1, ds1, p1, q1, rfl, rfl, rfl, h1, r1⟩ := trodAll_cons r0
  obtain ⟨v2, vs2, d2, ds2, p2, q2, rfl, rfl, rfl, h2, r2⟩ := trodAll_cons r1
  obtain ⟨rfl, rfl, rfl⟩ := trodAll_nil r2
  obtain rfl : args = #[v0, v1, v2] := by cases args; simp_all
  obtain ⟨A, n, c, rfl, hnc, hnm, hO⟩ := open_ops2 (hval 0 39 v0 rfl rfl) h0 (fun n hn => by
    have := List.all_eq_true.1 hz1 _ (DataW.weights_mem_each (j := 0) (t := 39) (d := d0) rfl rfl n hn)
    simpa using this)
  obtain ⟨A1, n1, c1, l1, rfl, hc1, hm1, hR1, hw1⟩ := open_nums Try.underlying23 Try.underlying3 cells3 (hval 1 23 v1 rfl rfl) h1
  obtain ⟨A2, n2, c2, l2, rfl, hc2, hm2, hR2, hw2⟩ := open_nums Try.underlying23 Try.underlying3 cells3 (hval 2 23 v2 rfl rfl) h2
  have hl1 : n1 = l1.length := by have := hR1.1; simpa using this.symm
  have hl2 : n2 = l2.length := by have := hR2.1; simpa using this.symm
  have hT : ∀ t ∈ Try.f7.params.toList, Try.prog.readableRec t = true ∧ t < Try.prog.types.size := by
    rw [Try.params7]
    intro t ht
    have ht2 : t = 39 ∨ t = 23 := by simpa using ht
    rcases ht2 with rfl | rfl
    · exact ⟨by kernel_rfl, of_decide_eq_true (by kernel_rfl)⟩
    · exact ⟨by kernel_rfl, of_decide_eq_true (by kernel_rfl)⟩
  refine (twice_any W A n c hO A1 A2 n1 c1 n2 c2 l1 l2 hl1 hl2 hR1 hc1 hR2 hc2).mono fun e W' ⟨he, hb⟩ => ?_
  exact ⟨_, he, shut_law rfl (by kernel_rfl) rfl rfl hW' hA0 hT hb⟩

theorem over : Rows.diskTwiceRow.holds Try.pinned (OpenSpec.ofChange Rows.diskTwiceSpec) :=
  OpenClaim.holds_of_wide 7 Try.f7 rfl rfl rfl rfl rfl rfl rfl ⟨rfl, rfl, rfl, rfl, rfl⟩ rfl rfl rfl rfl rfl (by kernel_rfl) Try.func7 (by kernel_rfl)
    (of_decide_eq_true (by kernel_rfl)) (by unfold Func.isWrapper; first | (rw [if_pos (by decide +kernel)]; kernel_rfl) | (rw [if_neg (by decide +kernel)]; exact ⟨rfl, rfl⟩))
    (fun os started H enc _ => lifted os started H enc)

/-- the statement -/
theorem proved : Rows.DiskTwiceSaid :=
  over
#print axioms proved
end Go.Proofs.Ytfeglchngekedaa.diskTwice
