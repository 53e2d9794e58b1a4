/- The card of HeadRecords: the law answers true at all inputs, and the world below reads as it did; the listed tables are tied to the program's text. No condition besides. -/
import Derived.Test.YtbeeejpjnniejaaGreatDoorHFacts
import Derived.Test.YtbeeejpjnniejaaGreatDoorHRlaw
import Derived.Test.YtbeeejpjnniejaaGreatDoorHRow3
namespace Go.Proofs.YtbeeejpjnniejaaGreatDoor.HeadRecords
open Go.ChangeShapes Go.WideShapes Go.ChangeAt Go.RowKit Go.Deep

set_option maxRecDepth 100000 in
theorem contract (H : Type) (enc : TypeId × Value → H) (W : World) (base : Nat) (args : Array Value) (ds gs : List (DataW H)) (before : List MemPlace)
    (hval : ∀ (j : Nat) t v, Tryz.f12.params[j]? = some t → args[j]? = some v → Value.okWide Tryz.prog W .any base t v)
    (hW : DataW.Whole enc Tryz.prog Tryz.f12.params.toList Rows.headRecordsSpec.vars false W args.toList ds gs before) (hL : laidMetH Tryz.prog Rows.headRecordsRow.laid W) :
    Calls Tryz.prog 12 args W fun e W' => ∃ v, e = .returned v ∧ Rows.headRecordsSpec.post enc Tryz.prog Tryz.f12 false true false false W args v W' := by
  have hW' := hW
  obtain ⟨p, q, hA0, hV, rfl, _, _⟩ := hW
  obtain ⟨rfl, rfl⟩ := trodVars_none hV
  rw [List.append_nil] at hW'
  have hA := hA0
  rw [Tryz.params12] at hA hval
  obtain ⟨v0, vs0, d0, ds0, p0, q0, hargs, rfl, rfl, h0, r0⟩ := trodAll_cons hA
  obtain ⟨v1, vs1, d1, ds1, p1, q1, rfl, rfl, rfl, h1, r1⟩ := trodAll_cons r0
  obtain ⟨v2, vs2, d2, ds2, p2, q2, rfl, rfl, rfl, h2, r2⟩ := trodAll_cons r1
  obtain ⟨rfl, rfl, rfl⟩ := trodAll_nil r2
  obtain rfl : args = #[v0, v1, v2] := by cases args; simp_all
  obtain ⟨z1, rfl, hz1, hy1⟩ := open_i64 (hval 0 3 v0 rfl rfl) h0
  obtain ⟨A2, n2, c2, bs2, rfl, hn2, hm2, hB2, hbits2⟩ := open_bats2 (hval 1 43 v1 rfl rfl) h1
  obtain ⟨A3, n3, c3, zs3, rfl, hn3, hm3, hR3, hw3⟩ := open_nums (k := .u8) Tryz.underlying90 Tryz.underlying5 (by kernel_rfl) (hval 2 90 v2 rfl rfl) h2
  obtain ⟨raw3, hraw3⟩ := nums_bytes zs3 hw3
  rw [← hraw3] at hR3
  have hT : ∀ t ∈ Tryz.f12.params.toList, Tryz.prog.readableRec t = true ∧ t < Tryz.prog.types.size := by
    rw [Tryz.params12]
    intro t ht
    have ht2 : t = 3 ∨ t = 43 ∨ t = 90 := by simpa using ht
    rcases ht2 with rfl | rfl | rfl
    · exact ⟨by kernel_rfl, of_decide_eq_true (by kernel_rfl)⟩
    · exact ⟨by kernel_rfl, of_decide_eq_true (by kernel_rfl)⟩
    · exact ⟨by kernel_rfl, of_decide_eq_true (by kernel_rfl)⟩
  refine (records_any W W.heap.size n2 c2 A2 z1 bs2 A3 n3 c3 raw3 (tabs_of hL) hy1 hB2 hbits2 hn2 hm2 (Nat.le_refl _) hR3 hn3 hm3).mono fun e W' ⟨he, hb⟩ => ?_
  exact ⟨_, he, shut_law rfl (by kernel_rfl) rfl rfl hW' hA0 hT hb⟩

theorem reads (os : Os) {H : Type} (enc : TypeId × Value → H) : ∃ places, DataW.whole enc Tryz.prog ((laidWorld os).forCall (fun _ _ => 0) ⟨#[], #[.int .i64 0, .slice none 0 0, .slice none 0 0], []⟩).memory Tryz.f12.params.toList Rows.headRecordsSpec.vars false (#[.int .i64 0, .slice none 0 0, .slice none 0 0] : Array Value).toList 8 = some ([.lit (.int .i64 0), .nil, .nil], [], places) :=
  ⟨[], by kernel_rfl⟩

set_option maxRecDepth 100000 in
theorem lifted (os : Os) (started : os.Started) (H : Type) (enc : TypeId × Value → H) (F : Stop.Interp) :
    ReturnsInHanded {} Tryz.checked os 12 .any ((OpenSpec.ofChange Rows.headRecordsSpec).preRow enc Tryz.prog Tryz.f12 Rows.headRecordsRow.domain false Rows.headRecordsRow.laid) (((OpenSpec.ofChange Rows.headRecordsSpec).at F).post enc Tryz.prog Tryz.f12 false true false false) := by
  obtain ⟨places, hx⟩ := reads os enc
  refine returnsInHanded_of_row (C := Tryz.checked) (s := OpenSpec.ofChange Rows.headRecordsSpec) own started (by kernel_rfl) Tryz.func12
    (witness_row_atRef (enc := enc) (C := Tryz.checked) false (laidWorld os) #[.int .i64 0, .slice none 0 0, .slice none 0 0] rfl (by kernel_rfl) (by kernel_rfl) (by kernel_rfl)
      (OpenSpec.preRow_of_cond 8 hx (by kernel_rfl) (fun k hk => by cases hk) (by kernel_rfl) (door_met os _))) ?_
  intro W base args ds gs before hval hW _ _ _ hL _ _
  exact contract H enc W base args ds gs before hval hW hL

theorem k1 : Rows.headRecordsRow.wf (OpenSpec.ofChange Rows.headRecordsSpec) = true := by kernel_rfl
theorem k5 : namedTie Tryz.pinned.checked.prog Rows.headRecordsRow.named (OpenSpec.ofChange Rows.headRecordsSpec).bare.vars = true := by kernel_rfl
theorem k10 : (Rows.headRecordsRow.inPlace == Tryz.pinned.checked.prog.inPlace 12) = true := by kernel_rfl
theorem k11 : (Rows.headRecordsRow.unfollowed == Tryz.pinned.checked.prog.unfollowed 12) = true := by kernel_rfl
theorem k12 : (Rows.headRecordsRow.recurses == Tryz.pinned.checked.prog.recurses 12) = true := by kernel_rfl
theorem k13 : (Rows.headRecordsRow.named == Tryz.pinned.checked.prog.varsNamed 12) = true := by kernel_rfl
theorem closed0 : joinedFacts Tryz.pinned.checked.prog 12 Tryz.f12 (OpenSpec.ofChange Rows.headRecordsSpec).bare Rows.headRecordsRow = true := by
  unfold joinedFacts
  refine band (band (band (band (band (band (band (band (band (band (band (band (band (band (band (band (band (band (band (band (band (band (band (band (band (band (band (band (band (band (band k1 fact_laid) fact_maps) ?_) k5) rfl) fact_stops) rfl) fact_knobs) k10) k11) k12) k13) ?_) ?_) ?_) ?_) ?_) ?_) ?_) ?_) ?_) fact_keys) rfl) fact_heard) fact_enter) fact_lifted) fact_make) ?_) ?_) ?_) ?_
  all_goals kernel_rfl
theorem named0 : Tryz.pinned.checked.prog.funcNamed Rows.headRecordsRow.func = some 12 := by kernel_rfl
theorem inst0 : Tryz.f12.isInstance Tryz.pinned.checked.prog Rows.headRecordsRow.origin Rows.headRecordsRow.targs := of_decide_eq_true (by kernel_rfl)
theorem wrap0 : Tryz.f12.isWrapper Tryz.pinned.checked.prog Rows.headRecordsRow.wrapper Rows.headRecordsRow.mainSum := by unfold Func.isWrapper; first | (rw [if_pos (by decide +kernel)]; kernel_rfl) | (rw [if_neg (by decide +kernel)]; exact ⟨rfl, rfl⟩)
theorem said : Rows.HeadRecordsSaid :=
  OpenClaim.holds_of_cond 12 Tryz.f12 rfl rfl rfl rfl rfl rfl rfl ⟨rfl, rfl, rfl, rfl, rfl⟩ rfl rfl rfl rfl rfl named0 Tryz.func12 closed0 inst0 wrap0
    (fun os started H enc _ F => by rw [OpenClaim.pre_eq_preRow]; exact lifted os started H enc F)

/-- no parameter wants a stand-in; the program's own looks are on -/
theorem plain (f : FuncId) (fn : Func) (hf : Tryz.pinned.checked.prog.funcNamed "vigil/vigillaw07.HeadRecords" = some f) (hfn : Tryz.pinned.checked.prog.funcs[f]? = some fn) :
    true = Tryz.pinned.checked.prog.looks [] ∧ ∀ (j : Nat) t, fn.params[j]? = some t → Tryz.pinned.checked.prog.wantsStandIn t = false := by
  obtain rfl : f = 12 := Option.some.inj ((show Tryz.prog.funcNamed "vigil/vigillaw07.HeadRecords" = some 12 by kernel_rfl).symm.trans hf) |>.symm
  obtain rfl : fn = Tryz.f12 := (Option.some.inj (Tryz.func12.symm.trans hfn)).symm
  refine ⟨by kernel_rfl, fun j t ht => ?_⟩
  rw [Tryz.params12] at ht
  have ht2 : t = 3 ∨ t = 43 ∨ t = 90 := by simpa using Array.mem_of_getElem? ht
  rcases ht2 with rfl | rfl | rfl
  · exact (show Tryz.prog.wantsStandIn 3 = false by kernel_rfl)
  · exact (show Tryz.prog.wantsStandIn 43 = false by kernel_rfl)
  · exact (show Tryz.prog.wantsStandIn 90 = false by kernel_rfl)

/-- the claim -/
theorem headRecords_card : Rows.HeadRecordsCardSaid :=
  Claim7.holds_tied_plain_at .later [] _ _ _ _ said (fun _ h => by cases h) (by kernel_rfl) (fun _ h => by cases h) headRecords_row_tie rfl ⟨rfl, rfl⟩ (by kernel_rfl) rfl plain (by kernel_rfl)
#print axioms headRecords_card
end Go.Proofs.YtbeeejpjnniejaaGreatDoor.HeadRecords
