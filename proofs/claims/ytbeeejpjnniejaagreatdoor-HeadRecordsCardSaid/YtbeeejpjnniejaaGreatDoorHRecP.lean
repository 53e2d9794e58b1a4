/- What a head writes down of a batch, and how it is read, plainly. -/
import Derived.Test.YtbeeejpjnniejaaGreatDoorJ05LSet
import Derived.Test.YtbeeejpjnniejaaGreatDoorLReadP
import Derived.Test.YtbeeejpjnniejaaGreatDoorBCrc
namespace Go.Proofs.YtbeeejpjnniejaaGreatDoor
open Go.RowKit
def recB1 (p : Pt) : List UInt8 := eightL (lbytes p.1).length ++ (lbytes p.1 ++ (numB p.2.1 ++ eightL p.2.2))
def recB (pts : List Pt) : List UInt8 := pts.flatMap recB1
/-- what is read of a point: itself, and what is left -/
def pointP (l : List UInt8) : Option (Pt × List UInt8) :=
  if l.length < 24 ∨ l.length - 24 < uneightL (l.take 8) then none
  else match lread ((l.drop 8).take (uneightL (l.take 8))) with
    | none => none
    | some ls =>
      if ls.isEmpty ∨ unnum ((l.drop (8 + uneightL (l.take 8))).take 8) < -9007199254740992 ∨ 9007199254740992 < unnum ((l.drop (8 + uneightL (l.take 8))).take 8) then none
      else some ((ls, unnum ((l.drop (8 + uneightL (l.take 8))).take 8), uneightL ((l.drop (8 + uneightL (l.take 8) + 8)).take 8)), l.drop (8 + uneightL (l.take 8) + 16))
def pointsP : Nat → List Pt → List UInt8 → Option (List Pt)
  | 0, _, _ => none
  | f + 1, acc, l => if l.isEmpty then some acc else match pointP l with
    | none => none
    | some x => pointsP f (acc ++ [x.1]) x.2
/-- a point that a head may take -/
structure PtFit (p : Pt) : Prop where
  fit : fitP p.1 = true
  lo : -9007199254740992 ≤ p.2.1
  hi : p.2.1 ≤ 9007199254740992
  bits : p.2.2 < 18446744073709551616
theorem recB1_len (p : Pt) : (recB1 p).length = 24 + (lbytes p.1).length := by
  unfold recB1
  simp only [List.length_append, eightL_len, numB_len]
  omega
theorem pointP_rec {p : Pt} (h : PtFit p) (r : List UInt8) : pointP (recB1 p ++ r) = some (p, r) := by
  obtain ⟨h1, h2, h3, h4⟩ := h
  have hf : rightL p.1 = true ∧ p.1.isEmpty = false := by
    unfold fitP at h1
    simpa using h1
  have hl := lbytes_le (rightL_fit hf.1) p.1.length
  rw [List.take_length] at hl
  have h64 := (rightL_fit hf.1).1
  have hrd := lread_lbytes hf.1
  obtain ⟨n, hn⟩ : ∃ n, n = (lbytes p.1).length := ⟨_, rfl⟩
  obtain ⟨bl, hbl⟩ : ∃ bl, bl = lbytes p.1 := ⟨_, rfl⟩
  have hlen : (recB1 p ++ r).length = 24 + n + r.length := by rw [List.length_append, recB1_len, hn]
  have e0 : recB1 p ++ r = eightL n ++ (bl ++ (numB p.2.1 ++ (eightL p.2.2 ++ r))) := by
    unfold recB1
    rw [hbl, hn]
    simp only [List.append_assoc]
  rw [← hn] at hl
  rw [← hbl] at hrd hn
  generalize recB1 p ++ r = l at hlen e0 ⊢
  have t8 : l.take 8 = eightL n := by rw [e0, List.take_append_of_le_length (by rw [eightL_len]; omega), List.take_of_length_le (by rw [eightL_len]; omega)]
  have u8 : uneightL (l.take 8) = n := by rw [t8, uneight_eight n (by omega)]
  have d8 : l.drop 8 = bl ++ (numB p.2.1 ++ (eightL p.2.2 ++ r)) := by rw [e0, show (8 : Nat) = (eightL n).length from rfl, List.drop_left]
  have dn : l.drop (8 + n) = numB p.2.1 ++ (eightL p.2.2 ++ r) := by rw [← List.drop_drop, d8, hn, List.drop_left]
  have dn8 : l.drop (8 + n + 8) = eightL p.2.2 ++ r := by rw [← List.drop_drop, dn, show (8 : Nat) = (numB p.2.1).length from rfl, List.drop_left]
  have dn16 : l.drop (8 + n + 16) = r := by rw [show 8 + n + 16 = 8 + n + 8 + 8 by omega, ← List.drop_drop, dn8, show (8 : Nat) = (eightL p.2.2).length from rfl, List.drop_left]
  have tb : (l.drop 8).take n = bl := by rw [d8, hn, List.take_left]
  have tt : unnum ((l.drop (8 + n)).take 8) = p.2.1 := by rw [dn, show (8 : Nat) = (numB p.2.1).length from rfl, List.take_left, unnum_num ⟨by omega, by omega⟩]
  have tv : uneightL ((l.drop (8 + n + 8)).take 8) = p.2.2 := by rw [dn8, show (8 : Nat) = (eightL p.2.2).length from rfl, List.take_left, uneight_eight _ h4]
  unfold pointP
  rw [u8, if_neg (by omega), tb, hrd]
  dsimp only
  rw [tt, tv, dn16, if_neg]
  rintro (e | e | e)
  · rw [hf.2] at e; cases e
  · omega
  · omega
theorem pointsP_rec : ∀ (pts : List Pt) (f : Nat) (acc : List Pt), (∀ p ∈ pts, PtFit p) → pts.length < f → pointsP f acc (recB pts) = some (acc ++ pts)
  | _, 0, _, _, hf => by omega
  | [], f + 1, acc, _, _ => by
    rw [List.append_nil]
    rfl
  | p :: pts, f + 1, acc, h, hf => by
    have e : recB (p :: pts) = recB1 p ++ recB pts := rfl
    have hne : (recB1 p ++ recB pts).isEmpty = false := by
      rw [List.isEmpty_eq_false_iff]
      intro e2
      have := congrArg List.length e2
      rw [List.length_append, recB1_len, List.length_nil] at this
      omega
    have h1 := pointP_rec (h p List.mem_cons_self) (recB pts)
    rw [e]
    generalize recB1 p ++ recB pts = l at hne h1 ⊢
    unfold pointsP
    rw [hne, h1]
    show pointsP f (acc ++ [p]) (recB pts) = _
    rw [pointsP_rec pts f (acc ++ [p]) (fun q hq => h q (List.mem_cons_of_mem _ hq)) (by simp at hf; omega), List.append_assoc]
    rfl
theorem taken_taken : ∀ (l : List Pt) (H : Hd), H.taken (H.taken l) = H.taken l
  | [], _ => rfl
  | p :: r, H => by
    by_cases h : H.code p = 0
    · have e : H.taken (p :: r) = p :: (H.take1 p).taken r := by
        show (if H.code p = 0 then _ else _) = _
        rw [if_pos h]
      rw [e]
      show (if H.code p = 0 then p :: (H.take1 p).taken ((H.take1 p).taken r) else _) = _
      rw [if_pos h, taken_taken r]
    · have e : H.taken (p :: r) = (H.take1 p).taken r := by
        show (if H.code p = 0 then _ else _) = _
        rw [if_neg h]
      have e1 : H.take1 p = H := by
        unfold Hd.take1
        rw [if_neg h]
      rw [e, e1]
      exact taken_taken r H
theorem take_taken (l : List Pt) (H : Hd) : (H.take (H.taken l)).2 = (H.take l).2 := by rw [take_adds, take_adds, taken_taken]
theorem taken_mem : ∀ {l : List Pt} {H : Hd} {p : Pt}, p ∈ H.taken l → p ∈ l ∧ fitP p.1 = true ∧ -big ≤ p.2.1 ∧ p.2.1 ≤ big
  | [], _, _, h => by cases h
  | q :: r, H, p, h => by
    have hcode : ∀ (H' : Hd), H'.code q = 0 → fitP q.1 = true ∧ -big ≤ q.2.1 ∧ q.2.1 ≤ big := fun H' h1 => by
      unfold Hd.code at h1
      split at h1
      · rename_i hf
        refine ⟨hf, ?_⟩
        unfold codeP at h1
        split at h1
        · omega
        · omega
      · omega
    unfold Hd.taken at h
    split at h
    · rename_i hc
      rcases List.mem_cons.1 h with rfl | h2
      · exact ⟨List.mem_cons_self, hcode H hc⟩
      · obtain ⟨h3, h4⟩ := taken_mem h2
        exact ⟨List.mem_cons_of_mem _ h3, h4⟩
    · obtain ⟨h3, h4⟩ := taken_mem h
      exact ⟨List.mem_cons_of_mem _ h3, h4⟩
end Go.Proofs.YtbeeejpjnniejaaGreatDoor
