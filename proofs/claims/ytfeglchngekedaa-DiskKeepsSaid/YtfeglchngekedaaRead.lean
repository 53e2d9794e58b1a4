/- The walk of (*Disk).Read. -/
import Derived.Test.YtfeglchngekedaaSync
namespace Go.Proofs.Ytfeglchngekedaa
open Go.RowKit Go.Shelf Go.Maps

/-- what is read: the bytes and the refusal -/
def readS (s : DS) (nm : ByteArray) : List UInt8 × Int :=
  if rightB nm then (match dget s.names nm.data.toList with | none => ([], 3) | some g => (s.bytes g, 0)) else ([], 2)
def ReadPost (w : World) (s : DS) (nm : ByteArray) (e : Ending) (w' : World) : Prop :=
  ∃ v, e = .returned (.tuple #[v, .int .i64 (readS s nm).2]) ∧ w'.ownsRow w.heap.size 5 1 v (readS s nm).1.length (bytesV (readS s nm).1) ∧ Below w.heap.size w w'

set_option maxRecDepth 100000 in
set_option maxHeartbeats 3200000 in
theorem read_any (w : World) (F : Nat → Prop) (p : Nat) (s : DS) (nm : ByteArray) (h : DiskAt w F p s) (hnm : nm.size ≤ 9223372036854775807) (hnm2 : nm.size ≤ maxLen) (ho : s.ops ≤ 1000000) :
    Calls Try.prog 14 #[.pointer (some ⟨p, 0, none⟩), .string nm] w (ReadPost w s nm) := by
  obtain ⟨i0, hi, hz0, hz1, hz2⟩ := info_parts info5
  have HI := Lib.hid hi
  have HZ0 := Lib.hid hz0
  have HZ1 := Lib.hid hz1
  have HZ2 := Lib.hid hz2
  have hp := h.lt
  have H := Lib.hid h
  clear h hi hz0 hz1 hz2
  go_enter Try.func14, Try.ntmps14
  go_wp2_with fail
  refine (right_any nm w hnm).mono ?_
  rintro e w1 ⟨rfl, q, hw1⟩
  have hD1 : DiskAt w1 F p s := by rw [hw1]; exact H.out.drewN q
  have hB1 : Below w.heap.size w w1 := by rw [hw1]; exact below_drewN (Below.refl _ _) q
  have hs1 : w1.heap.size = w.heap.size := by rw [hw1]; rfl
  have HD := Lib.hid hD1
  have HB := Lib.hid hB1
  clear hw1 hD1 hB1
  cases hrt : rightB nm with
  | false =>
    have HRT := Lib.hid hrt
    clear hrt
    go_wp2
    go_ret2
    have e : readS s nm = ([], 2) := by unfold readS; rw [HRT.out]; rfl
    unfold ReadPost
    rw [e]
    exact ⟨_, rfl, World.ownsRow_nil _ _ _ _, HB.out⟩
  | true =>
    have HRT := Lib.hid hrt
    clear hrt
    have hlook : (Instr.lookup 64 (.map (some s.mn)) (.string nm) false).run Try.prog w1 = .ok (ptrV (dget s.names nm.data.toList)) w1 := HD.out.names.look nm hnm2
    have c2 : w1.cell? ⟨p, 2, none⟩ = some (.map (some s.mn)) := HD.out.blk.cell 2
    cases hd : dget s.names nm.data.toList with
    | none =>
      rw [hd] at hlook
      simp only [ptrV] at hlook
      have HDG := Lib.hid hd
      clear hd
      go_wp2
      go_ret2
      have e : readS s nm = ([], 3) := by unfold readS; rw [HRT.out, HDG.out]; rfl
      unfold ReadPost
      rw [e]
      exact ⟨_, rfl, World.ownsRow_nil _ _ _ _, HB.out⟩
    | some g =>
      rw [hd] at hlook
      simp only [ptrV] at hlook
      have fg := HD.out.file g (.inl ⟨_, dget_mem hd, rfl⟩)
      obtain ⟨A0, d0, hraw⟩ := own_slice fg.row
      have q0 : w1.cell? ⟨g, 0, none⟩ = some (.slice A0 (s.bytes g).length d0) := (fg.blk.cell 0).trans (congrArg some hraw)
      have hr := fg.row
      rw [hraw] at hr
      have HR := Lib.hid (Reads.of_own hr)
      have hlen := fg.len
      have HDG := Lib.hid hd
      clear hd fg hraw hr
      go_wp2_with (at_builtin; go_loud (refine wpList_append_any _ rfl (.const (.slice none 0 0)) (.tmp 21) 22 rfl w.heap.size 5 i0 (.int .u8 0) 1 1 Try.underlying22 HI.out HZ0.out HZ1.out HZ2.out rfl (by omega) (.slice none 0 0) 0 [] rfl (World.ownsRow_nil _ _ _ _) w1.heap.size A0 (s.bytes g).length d0 (bytesV (s.bytes g)) rfl HR.out (bytesV_one _) (by simp [maxLen]; omega) (by omega) (by omega) ?_; intro v4 w4 hown4 hgrow4 _; have HW4 := Lib.hid hown4; have HG4 := Lib.hid hgrow4; clear hown4 hgrow4))
      go_ret2
      have e : readS s nm = (s.bytes g, 0) := by unfold readS; rw [HRT.out, HDG.out]; rfl
      unfold ReadPost
      rw [e]
      refine ⟨v4, rfl, ?_, HB.out.grown HG4.out (by omega) (fun k hk => by simp [Value.ownBlock] at hk)⟩
      have := HW4.out
      rwa [Nat.zero_add, List.nil_append] at this
end Go.Proofs.Ytfeglchngekedaa
