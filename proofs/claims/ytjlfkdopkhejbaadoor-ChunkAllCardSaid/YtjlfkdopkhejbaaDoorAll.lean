/- The walks of chunk.All and of the iterator that it hands back. -/
import Derived.RangeFuncNested
import Derived.RangeFuncBound
import Derived.RangeFuncCalls
import Derived.RangeFuncLeaves
import Derived.Shelf.Abstract
import Derived.Shelf.RegionOpen
import Derived.WalkKit
import Derived.OwnWalkIn
import Derived.TacticsInMore
import Derived.LoopNIn
import Derived.LoopIn
import Derived.Test.YtjlfkdopkhejbaaDoorKeep
import Derived.Test.YtjlfkdopkhejbaaDoorNext
import Derived.Test.YtjlfkdopkhejbaaDoorRfunc
namespace Go.Proofs.YtjlfkdopkhejbaaDoor
open Go.RowKit Go.Shelf Ck
attribute [local go_sem] Oper.semAt_some frombits_call tobits_call run_store_float

/-- what All leaves: a box (block X) with a copy of the bytes (block C, where there are any) -/
structure AllAt (w : World) (X : Nat) (v : Value) (bs : List Nat) : Prop where
  box : Blk w X 23 #[v]
  own : w.ownsRow (X + 1) 5 1 v bs.length (bytesV bs)
  lt : ∀ b ∈ bs, b < 256
  small : bs.length ≤ 1000000

def AllPost (w : World) (bs : List Nat) (e : Ending) (w' : World) : Prop :=
  ∃ v, e = .returned (.func (.func 36) #[] #[.pointer (some ⟨w.heap.size, 0, none⟩)]) ∧ AllAt w' w.heap.size v bs ∧ Below w.heap.size w w'

theorem byt_reads {w : World} {lim : Nat} {A : Option Addr} {bs : List Nat} (h : BytAt w lim A bs) : Reads w lim 1 A bs.length (bytesV bs) := by
  refine ⟨by simp [bytesV], fun hn => ?_⟩
  obtain ⟨g, off, hA, hg, hc⟩ := h hn
  refine ⟨_, hA, hg, fun j u hu => ?_⟩
  rw [bytesV, List.getElem?_map] at hu
  cases hb : bs[j]? with
  | none => rw [hb] at hu; cases hu
  | some b =>
    rw [hb] at hu
    cases hu
    have e : (⟨g, off, none⟩ : Addr).add j = ⟨g, off + j, none⟩ := by unfold Addr.add; split <;> simp_all
    rw [e]
    exact hc j b hb

set_option maxRecDepth 100000 in
set_option maxHeartbeats 800000 in
theorem all_any (A : Option Addr) (cap : Nat) (bs : List Nat) (w : World) (h : BytAt w w.heap.size A bs) (hl : bs.length ≤ 1000000) (hlt : ∀ b ∈ bs, b < 256) :
    Calls Tryd.prog 18 #[.slice A bs.length cap] w (AllPost w bs) := by
  obtain ⟨i0, hi, hz0, hz1, hz2⟩ := info_parts info5
  have HR := Lib.hid (byt_reads h)
  have HLT := Lib.hid hlt
  have HI := Lib.hid hi
  have HZ0 := Lib.hid hz0
  have HZ1 := Lib.hid hz1
  have HZ2 := Lib.hid hz2
  clear h hlt hi hz0 hz1 hz2
  go_enter Tryd.func18, Tryd.ntmps18
  go_wp2_with (at_builtin; go_must (refine wpList_append_any _ rfl (.const (.slice none 0 0)) (.tmp 3) 23 rfl (w.heap.size + 1) 5 i0 (.int .u8 0) 1 1 Tryd.underlying23 HI.out HZ0.out HZ1.out HZ2.out rfl (by decide) (.slice none 0 0) 0 [] rfl (World.ownsRow_nil _ _ _ _) w.heap.size A bs.length cap (bytesV bs) rfl (HR.out.alloc (Nat.le_refl _) _) (bytesV_one _) (by simp [maxLen]; omega) (by omega) (by simp) ?_); intro v' w1 hown1 hgrow1 hat1; rw [Nat.zero_add] at hown1; obtain ⟨A', c', hv', hb'⟩ := own_byt hown1; subst hv'; have HO := Lib.hid hown1; have hX := (Blk.new w 23 #[.slice A bs.length cap]).grown hgrow1 (by simp [Value.ownBlock]); have x0 : w1.cell? ⟨w.heap.size, 0, none⟩ = some (.slice A bs.length cap) := hX.cell 0; have g0 := hX.frozen 0; have HX := Lib.hid hX; have HG := Lib.hid hgrow1; clear hown1 hgrow1 hat1 hb' hX)
  go_ret
  refine ⟨.slice A' bs.length c', rfl, ⟨HX.out.set_ 0 _, ?_, HLT.out, hl⟩, ?_⟩
  · have ho := HO.out
    exact ownsRow_setCell_below ho (by simp) _
  · exact (((Below.refl _ w).alloc (Nat.le_refl _) _).grown HG.out (by simp) (fun k hk => by simp [Value.ownBlock] at hk)).setCell (p := ⟨w.heap.size, 0, none⟩) (Nat.le_refl _) _

end Go.Proofs.YtjlfkdopkhejbaaDoor
