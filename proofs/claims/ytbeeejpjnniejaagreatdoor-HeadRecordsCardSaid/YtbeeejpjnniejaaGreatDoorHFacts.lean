/- What every card of this seat says of the program alone: each once. No condition. -/
import Derived.Test.YtbeeejpjnniejaaGreatDoorHRow
namespace Go.Proofs.YtbeeejpjnniejaaGreatDoor
theorem band {a b : Bool} (ha : a = true) (hb : b = true) : (a && b) = true := by rw [ha, hb]; rfl
theorem fact_laid : laidOutB Tryz.pinned.checked.prog = true := by kernel_rfl
theorem fact_maps : mapsRowed Tryz.pinned.checked.prog = true := by kernel_rfl
theorem fact_stops : (Tryz.pinned.checked.prog.stops == []) = true := by kernel_rfl
theorem fact_knobs : (Tryz.pinned.checked.prog.stopKnobs == []) = true := by kernel_rfl
theorem fact_keys : (Rows.headOrderRow.plainKeys == Tryz.pinned.checked.prog.plainKeys) = true := by kernel_rfl
theorem fact_heard : Tryz.pinned.checked.prog.stopsHeard = true := by kernel_rfl
theorem fact_enter : Tryz.pinned.checked.prog.mayEnter = true := by kernel_rfl
theorem fact_lifted : (Rows.headOrderRow.lifted == Tryz.pinned.checked.prog.liftsFinal) = true := by kernel_rfl
theorem fact_make : (Tryz.pinned.checked.prog.make == some Rows.headOrderRow.make) = true := by kernel_rfl
end Go.Proofs.YtbeeejpjnniejaaGreatDoor
