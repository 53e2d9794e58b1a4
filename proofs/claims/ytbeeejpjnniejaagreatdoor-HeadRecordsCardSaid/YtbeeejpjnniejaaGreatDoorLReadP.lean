/- What labels.Read answers, plainly; that it undoes Bytes. -/
import Derived.Test.YtbeeejpjnniejaaGreatDoorJ05LSet
namespace Go.Proofs.YtbeeejpjnniejaaGreatDoor
open Go.RowKit
def textP : List UInt8 → Option (ByteArray × List UInt8)
  | a :: b :: r => if r.length < a.toNat * 256 + b.toNat then none else some (⟨(r.take (a.toNat * 256 + b.toNat)).toArray⟩, r.drop (a.toNat * 256 + b.toNat))
  | _ => none
/-- n labels behind those that are read -/
def labsP : Nat → List Lbl → List UInt8 → Option (List Lbl × List UInt8)
  | 0, acc, l => some (acc, l)
  | n + 1, acc, l => match textP l with
    | none => none
    | some x => match textP x.2 with
      | none => none
      | some y => labsP n (acc ++ [(x.1, y.1)]) y.2
def lread : List UInt8 → Option (List Lbl)
  | [] => none
  | c :: r => match labsP c.toNat [] r with
    | some (ls, []) => if rightL ls then some ls else none
    | _ => none
theorem textP_txt {s : ByteArray} (h : s.size ≤ 1024) (r : List UInt8) : textP (txtB s ++ r) = some (s, r) := by
  unfold txtB
  show textP (UInt8.ofNat (s.size / 256) :: UInt8.ofNat s.size :: (s.data.toList ++ r)) = _
  have e : (UInt8.ofNat (s.size / 256)).toNat * 256 + (UInt8.ofNat s.size).toNat = s.size := by
    simp only [UInt8.toNat_ofNat']
    omega
  have hl : s.data.toList.length = s.size := by simp
  unfold textP
  dsimp only
  rw [e, if_neg (by rw [List.length_append]; omega), List.take_append_of_le_length (by omega), List.drop_append_of_le_length (by omega), List.take_of_length_le (by omega), List.drop_of_length_le (by omega)]
  rfl
theorem labsP_labs : ∀ (ls : List Lbl) (acc : List Lbl) (r : List UInt8), (∀ p ∈ ls, p.1.size ≤ 1024 ∧ p.2.size ≤ 1024) → labsP ls.length acc (ls.flatMap labB ++ r) = some (acc ++ ls, r)
  | [], acc, r, _ => by simp [labsP]
  | p :: ls, acc, r, h => by
    have hp := h p List.mem_cons_self
    show labsP (ls.length + 1) acc _ = _
    unfold labsP
    rw [List.flatMap_cons, show labB p = txtB p.1 ++ txtB p.2 from rfl, List.append_assoc, List.append_assoc, textP_txt hp.1]
    dsimp only
    rw [textP_txt hp.2]
    dsimp only
    rw [labsP_labs ls _ r fun q hq => h q (List.mem_cons_of_mem _ hq)]
    simp
theorem lread_lbytes {ls : List Lbl} (h : rightL ls = true) : lread (lbytes ls) = some ls := by
  obtain ⟨h1, h2⟩ := rightL_fit h
  unfold lbytes lread
  have e : (UInt8.ofNat ls.length).toNat = ls.length := by
    simp only [UInt8.toNat_ofNat']
    omega
  have h3 := labsP_labs ls [] [] h2
  rw [List.append_nil] at h3
  dsimp only
  rw [e, h3]
  dsimp only
  rw [List.nil_append, if_pos h]
theorem lread_right {l : List UInt8} {ls : List Lbl} (h : lread l = some ls) : rightL ls = true := by
  unfold lread at h
  split at h
  · cases h
  · split at h
    · split at h
      · rename_i h2
        injection h with h
        rw [← h]; exact h2
      · cases h
    · cases h
theorem textP_len {l r : List UInt8} {s : ByteArray} (h : textP l = some (s, r)) : s.size + 2 + r.length = l.length := by
  unfold textP at h
  split at h
  · split at h
    · cases h
    · injection h with h
      injection h with h1 h2
      rw [← h1, ← h2]
      simp only [ByteArray.size, List.size_toArray, List.length_take, List.length_drop, List.length_cons]
      omega
  · cases h
end Go.Proofs.YtbeeejpjnniejaaGreatDoor
