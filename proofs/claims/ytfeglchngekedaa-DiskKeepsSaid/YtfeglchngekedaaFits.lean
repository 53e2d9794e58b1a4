/- The walk of (*Disk).fits. -/
import Derived.Test.YtfeglchngekedaaCls
namespace Go.Proofs.Ytfeglchngekedaa
open Go.RowKit Go.Shelf Go.Maps

def fitsS (s : DS) (nm : ByteArray) (n : Nat) : Int :=
  if (dget s.names nm.data.toList).isSome then (if 0 < n ∧ s.cap - (usedS s : Int) < (n : Int) then 5 else 0) else 3

set_option maxRecDepth 100000 in
set_option maxHeartbeats 3200000 in
theorem fits_any (w : World) (F : Nat → Prop) (p : Nat) (s : DS) (nm : ByteArray) (A : Option Addr) (n c : Nat) (h : DiskAt w F p s) (ho : s.ops ≤ 1000000) (hnm : nm.size ≤ maxLen) (hn : n ≤ 1000) :
    Calls Try.prog 34 #[.pointer (some ⟨p, 0, none⟩), .string nm, .slice A n c] w fun e w' => e = .returned (.int .i64 (fitsS s nm n)) ∧ Below w.heap.size w w' := by
  have hul := used_le h ho
  have hcap := h.capB
  have hp := h.lt
  have hlook := h.names.look nm hnm
  obtain ⟨c0, -, c2, -, -, -, -, -⟩ := h.cells
  have H := Lib.hid h
  clear h
  cases hd : dget s.names nm.data.toList with
  | none =>
    have HD := Lib.hid hd
    rw [hd] at hlook
    simp only [ptrV] at hlook
    clear hd
    go_enter Try.func34, Try.ntmps34
    go_wp2
    go_ret
    have e : fitsS s nm n = 3 := by unfold fitsS; rw [HD.out]; rfl
    exact ⟨by rw [e]; rfl, Below.refl _ _⟩
  | some g =>
    have HD := Lib.hid hd
    rw [hd] at hlook
    simp only [ptrV] at hlook
    clear hd
    rcases Nat.eq_zero_or_pos n with h0 | h0
    · subst h0
      have e : fitsS s nm 0 = 0 := by unfold fitsS; rw [HD.out]; simp
      have HE := Lib.hid e
      clear e
      go_enter Try.func34, Try.ntmps34
      go_wp2_with fail
      have hg : decide ((0 : Int) < ((0 : Nat) : Int)) = false := rfl
      go_quiet (fail)
      go_wp2
      go_ret
      exact ⟨by rw [HE.out]; rfl, below_drewN (Below.refl _ _) _⟩
    · have hg : decide ((0 : Int) < (n : Int)) = true := by simp; omega
      have hU : ∀ t : Cls w, Calls Try.prog 26 #[.pointer (some ⟨p, 0, none⟩)] t.val fun e w' => e = .returned (.int .i64 (usedS s : Int)) ∧ Below t.val.heap.size t.val w' := fun t =>
        used_any t.val F p s (H.out.keep (fun k _ hk => t.2.block k hk) (fun _ h => h)) ho
      have HU := Lib.hid hU
      have k0 : ∀ t : Cls w, t.val.cell? ⟨p, 0, none⟩ = some (.int .i64 s.cap) := fun t => (t.2.cell (p := ⟨p, 0, none⟩) hp).trans c0
      have hn0 : (0 : Int) < (n : Int) := by omega
      clear hU
      obtain ⟨U, hUe⟩ : ∃ U, U = usedS s := ⟨_, rfl⟩
      rw [← hUe] at HU hul
      have HUE := Lib.hid hUe
      clear hUe
      rcases Int.lt_or_le (s.cap - (U : Int)) (n : Int) with hlt | hlt
      · go_enter Try.func34, Try.ntmps34
        go_wp2_with fail
        refine wp_region_cls (by kernel_rfl) (by kernel_rfl) ?_
        repeat (go_big_quiet_step ((go_at_call 26; exact Cls.call (HU.out _))))
        refine wpQuiet_nil ?_
        rintro _ ⟨t, rfl⟩
        go_wp2
        go_ret
        have e : fitsS s nm n = 5 := by unfold fitsS; rw [HD.out, ← HUE.out, if_pos (show (some g).isSome = true from rfl), if_pos ⟨h0, hlt⟩]
        exact ⟨by rw [e]; rfl, t.2⟩
      · go_enter Try.func34, Try.ntmps34
        go_wp2_with fail
        refine wp_region_cls (by kernel_rfl) (by kernel_rfl) ?_
        repeat (go_big_quiet_step ((go_at_call 26; exact Cls.call (HU.out _))))
        refine wpQuiet_nil ?_
        rintro _ ⟨t, rfl⟩
        go_wp2
        go_ret
        have e : fitsS s nm n = 0 := by unfold fitsS; rw [HD.out, ← HUE.out, if_pos (show (some g).isSome = true from rfl), if_neg (fun h => by omega)]
        exact ⟨by rw [e]; rfl, t.2⟩
end Go.Proofs.Ytfeglchngekedaa
