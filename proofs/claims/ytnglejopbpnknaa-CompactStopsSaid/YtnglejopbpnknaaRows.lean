/-
  No cell of these rows narrows 'for every input' (looked for: loops, veiled, ifaces, maps, wideKeys, modest, calm, conditions, laid).
  DERIVED. THE GIVEN ROWS OF THIS SEAT. 3 by the template 'for every input the law returns true; each argument reads behind the call as it read before'; 0 by the template 'total and deterministic' (their statements: YtnglejopbpnknaaTotals.lean).
  GIVEN WITH THE SEED: the statements are not yours to turn. If you find one false, say at which input.
  Laid BY PROGRAM, IN A SANDBOX (cutbox-rows.mjs): the forced cells as the released guide's own fill.sh prints them over the translation db00e50810395f37… (all of the seat's roots in one cut). By AI agents, Wed Nov 11 2026. No macro, syntax, notation, axiom, sorry.
-/
import Derived.Test.YtnglejopbpnknaaChecked
import GoSem.Claim
import GoSem.ClaimJoined
import GoSem.ClaimMapViews
import Derived.JoinedTies
import Derived.KernelRfl
namespace Go.Proofs.Ytnglejopbpnknaa
/- THE CELL 'sum', in the pinned program and in every row, IS THE sha256 OF THE DUMP (.gsa) THAT YtnglejopbpnknaaProg.lean LOADS. Nothing in Lean hashes anything: it is a label: what it is worth is what the hold of that sum in a sandbox is worth. -/
noncomputable def Try.pinned : Pinned := { name := "ytnglejopbpnknaa", sum := "db00e50810395f37c2cf8d55980925822136360a3e0de8468e2c7d58b02ecc3c", checked := Try.checked }
namespace Rows
def none {H : Type} : Left H := { results := [], args := [] }

/-- 'vigillaw09.CompactStops': WHATEVER THE INPUT: true; the input reads as it did. -/
def compactStopsSpec : ChangeSpec := { name := "compactStops", fn := fun _ => fun
  | [d] => { results := [.lit (.bool true)], args := [d] }
  | _ => none }
def compactStopsRow : OpenClaim := { program := "ytnglejopbpnknaa", sum := "db00e50810395f37c2cf8d55980925822136360a3e0de8468e2c7d58b02ecc3c", func := "vigil/vigillaw09.CompactStops", spec := "compactStops", inPlace := ["math.Float64bits"], unfollowed := true, recurses := true, apart := false }
def CompactStopsSaid : Prop := compactStopsRow.holds Try.pinned (OpenSpec.ofChange compactStopsSpec)

/-- ITS FALSE NEIGHBOUR: 'it returns false'. Refute it at one input. -/
def compactStopsWrong : ChangeSpec := { name := "compactStops", fn := fun _ => fun
  | [d] => { results := [.lit (.bool false)], args := [d] }
  | _ => none }
def CompactStopsWrongFalsely : Prop := compactStopsRow.holds Try.pinned (OpenSpec.ofChange compactStopsWrong)

/-- 'vigillaw09.CompactCuts': WHATEVER THE INPUT: true; the input reads as it did. -/
def compactCutsSpec : ChangeSpec := { name := "compactCuts", fn := fun _ => fun
  | [d1, d2, d3] => { results := [.lit (.bool true)], args := [d1, d2, d3] }
  | _ => none }
def compactCutsRow : OpenClaim := { program := "ytnglejopbpnknaa", sum := "db00e50810395f37c2cf8d55980925822136360a3e0de8468e2c7d58b02ecc3c", func := "vigil/vigillaw09.CompactCuts", spec := "compactCuts", unfollowed := true, recurses := true, apart := false }
def CompactCutsSaid : Prop := compactCutsRow.holds Try.pinned (OpenSpec.ofChange compactCutsSpec)

/-- ITS FALSE NEIGHBOUR: 'it returns false'. Refute it at one input. -/
def compactCutsWrong : ChangeSpec := { name := "compactCuts", fn := fun _ => fun
  | [d1, d2, d3] => { results := [.lit (.bool false)], args := [d1, d2, d3] }
  | _ => none }
def CompactCutsWrongFalsely : Prop := compactCutsRow.holds Try.pinned (OpenSpec.ofChange compactCutsWrong)

/-- 'vigillaw09.CompactBins': WHATEVER THE INPUT: true; the input reads as it did. -/
def compactBinsSpec : ChangeSpec := { name := "compactBins", fn := fun _ => fun
  | [d1, d2, d3] => { results := [.lit (.bool true)], args := [d1, d2, d3] }
  | _ => none }
def compactBinsRow : OpenClaim := { program := "ytnglejopbpnknaa", sum := "db00e50810395f37c2cf8d55980925822136360a3e0de8468e2c7d58b02ecc3c", func := "vigil/vigillaw09.CompactBins", spec := "compactBins", unfollowed := true, recurses := true, apart := false }
def CompactBinsSaid : Prop := compactBinsRow.holds Try.pinned (OpenSpec.ofChange compactBinsSpec)

/-- ITS FALSE NEIGHBOUR: 'it returns false'. Refute it at one input. -/
def compactBinsWrong : ChangeSpec := { name := "compactBins", fn := fun _ => fun
  | [d1, d2, d3] => { results := [.lit (.bool false)], args := [d1, d2, d3] }
  | _ => none }
def CompactBinsWrongFalsely : Prop := compactBinsRow.holds Try.pinned (OpenSpec.ofChange compactBinsWrong)

/- THE SECOND FORM. 'bulk': how many values and letters a reading holds, each counted each time it is reached (what is shared counts as often as it is met; a slice's spare places count too). A statement '..UptoSaid' is the law's where the arguments, and the package variables that the reading takes, are together of bulk at most 1048576: NARROWER than '..Said'. Prove '..Said' where nothing that the law and all that it calls make is longer than what came in: it says more and counts as full. Else prove '..UptoSaid'. A law counts once. -/
mutual
def uptoBulk {H : Type} : DataW H → Nat
  | .lit (.string bytes) => bytes.length + 1
  | .lit _ => 1
  | .nil => 1
  | .ptr d => uptoBulk d + 1
  | .slice elems spare => uptoBulkAll elems + uptoBulkAll spare + 1
  | .agg parts => uptoBulkAll parts + 1
  | .iface _ d => uptoBulk d + 1
  | .map entries => uptoBulkEntries entries + 1
  | .held _ => 1
def uptoBulkAll {H : Type} : List (DataW H) → Nat
  | [] => 0
  | d :: r => uptoBulk d + uptoBulkAll r
def uptoBulkEntries {H : Type} : List (Lit × DataW H) → Nat
  | [] => 0
  | x :: r => uptoBulkEntry x + uptoBulkEntries r
def uptoBulkEntry {H : Type} : Lit × DataW H → Nat
  | (.string bytes, d) => bytes.length + uptoBulk d + 1
  | (_, d) => uptoBulk d + 1
 end
def uptoSmall : (H : Type) → List (DataW H) → Bool := fun _ ds => decide (uptoBulkAll ds ≤ 1048576)
def OpenSpec.upto (s : _root_.Go.ChangeSpec) : _root_.Go.OpenSpec := { _root_.Go.OpenSpec.ofChange s with cond := some uptoSmall }

/-- 'vigillaw09.CompactStops', WHERE WHAT IT READS IS OF BULK AT MOST 1048576: true; the input reads as it did. -/
def compactStopsUptoRow : OpenClaim := { program := "ytnglejopbpnknaa", sum := "db00e50810395f37c2cf8d55980925822136360a3e0de8468e2c7d58b02ecc3c", func := "vigil/vigillaw09.CompactStops", spec := "compactStops", inPlace := ["math.Float64bits"], unfollowed := true, recurses := true, apart := false, narrowed := true }
def CompactStopsUptoSaid : Prop := compactStopsUptoRow.holds Try.pinned (OpenSpec.upto compactStopsSpec)

/-- 'vigillaw09.CompactCuts', WHERE WHAT IT READS IS OF BULK AT MOST 1048576: true; the input reads as it did. -/
def compactCutsUptoRow : OpenClaim := { program := "ytnglejopbpnknaa", sum := "db00e50810395f37c2cf8d55980925822136360a3e0de8468e2c7d58b02ecc3c", func := "vigil/vigillaw09.CompactCuts", spec := "compactCuts", unfollowed := true, recurses := true, apart := false, narrowed := true }
def CompactCutsUptoSaid : Prop := compactCutsUptoRow.holds Try.pinned (OpenSpec.upto compactCutsSpec)

/-- 'vigillaw09.CompactBins', WHERE WHAT IT READS IS OF BULK AT MOST 1048576: true; the input reads as it did. -/
def compactBinsUptoRow : OpenClaim := { program := "ytnglejopbpnknaa", sum := "db00e50810395f37c2cf8d55980925822136360a3e0de8468e2c7d58b02ecc3c", func := "vigil/vigillaw09.CompactBins", spec := "compactBins", unfollowed := true, recurses := true, apart := false, narrowed := true }
def CompactBinsUptoSaid : Prop := compactBinsUptoRow.holds Try.pinned (OpenSpec.upto compactBinsSpec)

end Rows
end Go.Proofs.Ytnglejopbpnknaa
