/- A region that draws its order and whose callees may make memory of their own: one walk in the order of the text, over the class of worlds that grew from one. -/
import Derived.BigQuiet
import Derived.Test.YtfeglchngekedaaUsed
namespace Go.Proofs.Ytfeglchngekedaa
open Go.RowKit Go.Shelf

/-- the worlds that have grown from w: below its heap's end nothing has turned -/
def Cls (w : World) : Type := { w' : World // Below w.heap.size w w' }
instance Cls.some (w : World) : Nonempty (Cls w) := ⟨⟨w, Below.refl _ w⟩⟩

theorem wp_region_cls {P : Program} {id : Nat} {Q : Exit → Act → World → Prop} {a : Act} {w : World} {l : List Oper} (hm : P.follows .mixedOrders = true) (hB : Region.lexB .any l.toArray = true)
    (h : wpQuiet P l.toArray (fun w' => ∃ s : Cls w, w' = s.val) (fun a' => ∀ w', (∃ s : Cls w, w' = s.val) → Q .normal a' w') l a) : (Code.region id l.toArray true).wp P Q a w :=
  wp_region_quiet (C := fun w' => ∃ s : Cls w, w' = s.val) hm hB ⟨⟨_, (Below.refl _ w).drew⟩, rfl⟩ (by simpa using h)

theorem Cls.call {P : Program} {f : FuncId} {args : Array Value} {w : World} {s : Cls w} {v : Value} (h : Calls P f args s.val fun e w' => e = .returned v ∧ Below s.val.heap.size s.val w') :
    Calls P f args s.val fun e w'' => e = .returned v ∧ ∃ s : Cls w, w'' = s.val :=
  h.mono fun _ w' ⟨he, hb⟩ => ⟨he, ⟨w', s.2.trans (hb.mono s.2.size)⟩, rfl⟩
end Go.Proofs.Ytfeglchngekedaa
