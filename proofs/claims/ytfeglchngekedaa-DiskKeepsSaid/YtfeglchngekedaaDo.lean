/- The walks of (change).do and of (*cutter).next. -/
import Derived.Test.YtfeglchngekedaaRead
namespace Go.Proofs.Ytfeglchngekedaa
open Go.RowKit Go.Shelf Go.Maps

/-- a name, as bytes of the language's own -/
def nmB (s : Nm) : ByteArray := ⟨s.toArray⟩
theorem nmB_list (s : Nm) : (nmB s).data.toList = s := by simp [nmB]
theorem nmB_size (s : Nm) : (nmB s).size = s.length := by show s.toArray.size = _; simp
theorem nmB_empty {s : Nm} (h : s ≠ []) : (nmB s).toList.isEmpty = false := by
  rw [ByteArray.toList_eq, nmB_list, List.isEmpty_eq_false_iff]; exact h

set_option maxRecDepth 100000 in
set_option maxHeartbeats 3200000 in
theorem do_some (w : World) (b : Nat) (l : Dl) (fr nm : Nm) (g : Nat) (hd : DirAt w b l.length l) (hn : nmOk nm) (hl : l.length ≤ 10000000) (hne : nm ≠ []) :
    Calls Try.prog 37 #[.agg #[.string (nmB fr), .string (nmB nm), .pointer (some ⟨g, 0, none⟩)], .map (some b)] w fun e w' => e = .returned (.tuple #[]) ∧ DirAt w' b (dput l nm g).length (dput l nm g) ∧ w.grownBy w' (some b) := by
  have e1 := nmB_empty hne
  have e2 : (!(nmB nm).toList.isEmpty) = true := by rw [e1]; rfl
  have hbl := hd.lt
  have hk : keyOf Try.prog 9 (.string (nmB nm)) = some (.string nm) := by have := key_nm (nmB nm) (by rw [nmB_size]; simp [maxLen]; unfold nmOk at hn; omega); rwa [nmB_list] at this
  have HK := Lib.hid hk
  have HD := Lib.hid hd
  clear hk hd
  go_enter Try.func37, Try.ntmps37
  go_wp2_with (at_mapUpdate; refine wpList_mapUpdate_own _ rfl _ _ _ 64 rfl 9 71 law9 Try.underlying64 ptrElem b l.length (dirD l) rfl (HD.out.alloc _) (by simp [maxLen]; omega) _ _ (.string nm) rfl rfl HK.out (.lit (.int .i64 (g : Int))) [] rfl ?_; intro w4 hown4 hgrow4; have HO := Lib.hid hown4; have HG := Lib.hid hgrow4; clear hown4 hgrow4)
  go_end0
  refine ⟨rfl, ?_, only_trans (only_alloc (only_refl w (some b)) _) HG.out⟩
  have := HO.out
  rw [dirD_put] at this
  exact DirAt.tight this

set_option maxRecDepth 100000 in
set_option maxHeartbeats 3200000 in
theorem do_idle (w : World) (b : Nat) (l : Dl) (fr : Nm) (g : Nat) (hd : DirAt w b l.length l) :
    Calls Try.prog 37 #[.agg #[.string (nmB fr), .string (nmB []), .pointer (some ⟨g, 0, none⟩)], .map (some b)] w fun e w' => e = .returned (.tuple #[]) ∧ DirAt w' b l.length l ∧ w.grownBy w' (some b) := by
  have hbl := hd.lt
  have HD := Lib.hid hd
  rw [show nmB [] = ({ data := #[] } : ByteArray) from rfl]
  clear hd
  go_enter Try.func37, Try.ntmps37
  go_wp2
  go_end0
  exact ⟨rfl, HD.out.keep (Below.heap_alloc _ _ _ hbl), only_alloc (only_refl w (some b)) _⟩

set_option maxRecDepth 100000 in
set_option maxHeartbeats 3200000 in
theorem do_remove (w : World) (b : Nat) (l : Dl) (fr : Nm) (hd : DirAt w b l.length l) (hn : nmOk fr) :
    Calls Try.prog 37 #[.agg #[.string (nmB fr), .string (nmB []), .pointer none], .map (some b)] w fun e w' => e = .returned (.tuple #[]) ∧ DirAt w' b (ddel l fr).length (ddel l fr) ∧ w.grownBy w' (some b) := by
  have hbl := hd.lt
  have hfz : (nmB fr).size ≤ maxLen := by rw [nmB_size]; simp [maxLen]; unfold nmOk at hn; omega
  have hk : keyOf Try.prog 9 (.string (nmB fr)) = some (.string fr) := by have := key_nm (nmB fr) hfz; rwa [nmB_list] at this
  have HK := Lib.hid hk
  have HD := Lib.hid hd
  have hd1 : DirAt (w.alloc (.cells #[.string (nmB fr), .string ({ data := #[] } : ByteArray), .pointer none] 75)) b l.length l := hd.keep (Below.heap_alloc _ _ _ hbl)
  have hlook := hd1.look (nmB fr) hfz
  have HD1 := Lib.hid hd1
  rw [show nmB [] = ({ data := #[] } : ByteArray) from rfl]
  clear hk hd hd1
  cases hg : dget l (nmB fr).data.toList with
  | none =>
    rw [hg] at hlook
    simp only [ptrV] at hlook
    clear hg
    go_enter Try.func37, Try.ntmps37
    go_wp2_with (at_delete; refine wpList_delete_own _ rfl _ _ 64 9 rfl 71 law9 Try.underlying64 ptrElem b l.length (dirD l) rfl HD1.out _ (.string fr) rfl HK.out ?_; intro w4 hown4 hturn4; have hg4 := hturn4.grown; have x1 : w4.cell? ⟨w.heap.size, 1, none⟩ = some (.string ({ data := #[] } : ByteArray)) := ((Blk.new w 75 #[.string (nmB fr), .string ({ data := #[] } : ByteArray), .pointer none]).grown hg4 (by simp; omega)).cell 1; have HO := Lib.hid hown4; have HG := Lib.hid hg4; clear hown4 hturn4 hg4)
    go_end0
    refine ⟨rfl, ?_, only_trans (only_alloc (only_refl w (some b)) _) HG.out⟩
    have := HO.out
    rw [dirD_del] at this
    exact DirAt.tight this
  | some g =>
    rw [hg] at hlook
    simp only [ptrV] at hlook
    clear hg
    go_enter Try.func37, Try.ntmps37
    go_wp2_with (at_delete; refine wpList_delete_own _ rfl _ _ 64 9 rfl 71 law9 Try.underlying64 ptrElem b l.length (dirD l) rfl HD1.out _ (.string fr) rfl HK.out ?_; intro w4 hown4 hturn4; have hg4 := hturn4.grown; have x1 : w4.cell? ⟨w.heap.size, 1, none⟩ = some (.string ({ data := #[] } : ByteArray)) := ((Blk.new w 75 #[.string (nmB fr), .string ({ data := #[] } : ByteArray), .pointer none]).grown hg4 (by simp; omega)).cell 1; have HO := Lib.hid hown4; have HG := Lib.hid hg4; clear hown4 hturn4 hg4)
    go_end0
    refine ⟨rfl, ?_, only_trans (only_alloc (only_refl w (some b)) _) HG.out⟩
    have := HO.out
    rw [dirD_del] at this
    exact DirAt.tight this

set_option maxRecDepth 100000 in
set_option maxHeartbeats 3200000 in
theorem do_rename (w : World) (b : Nat) (l : Dl) (fr nm : Nm) (g : Nat) (hd : DirAt w b l.length l) (hf : nmOk fr) (hn : nmOk nm) (hl : l.length ≤ 10000000) (hne : nm ≠ []) (hg : dget l fr = some g) :
    Calls Try.prog 37 #[.agg #[.string (nmB fr), .string (nmB nm), .pointer none], .map (some b)] w fun e w' => e = .returned (.tuple #[]) ∧ DirAt w' b (dput (ddel l fr) nm g).length (dput (ddel l fr) nm g) ∧ w.grownBy w' (some b) := by
  have e1 := nmB_empty hne
  have e2 : (!(nmB nm).toList.isEmpty) = true := by rw [e1]; rfl
  have hbl := hd.lt
  have hfz : (nmB fr).size ≤ maxLen := by rw [nmB_size]; simp [maxLen]; unfold nmOk at hf; omega
  have hk : keyOf Try.prog 9 (.string (nmB fr)) = some (.string fr) := by have := key_nm (nmB fr) hfz; rwa [nmB_list] at this
  have hk2 : keyOf Try.prog 9 (.string (nmB nm)) = some (.string nm) := by have := key_nm (nmB nm) (by rw [nmB_size]; simp [maxLen]; unfold nmOk at hn; omega); rwa [nmB_list] at this
  have HK := Lib.hid hk
  have HK2 := Lib.hid hk2
  have hd1 : DirAt (w.alloc (.cells #[.string (nmB fr), .string (nmB nm), .pointer none] 75)) b l.length l := hd.keep (Below.heap_alloc _ _ _ hbl)
  have hlook := hd1.look (nmB fr) hfz
  rw [nmB_list, hg] at hlook
  simp only [ptrV] at hlook
  have HD1 := Lib.hid hd1
  clear hk hk2 hd hd1 hg
  go_enter Try.func37, Try.ntmps37
  go_wp2_with (first
    | (at_delete; refine wpList_delete_own _ rfl _ _ 64 9 rfl 71 law9 Try.underlying64 ptrElem b l.length (dirD l) rfl HD1.out _ (.string fr) rfl HK.out ?_; intro w4 hown4 hturn4; have hg4 := hturn4.grown; have x1 : w4.cell? ⟨w.heap.size, 1, none⟩ = some (.string (nmB nm)) := ((Blk.new w 75 #[.string (nmB fr), .string (nmB nm), .pointer none]).grown hg4 (by simp; omega)).cell 1; have HO := Lib.hid hown4; have HG := Lib.hid hg4; clear hown4 hturn4 hg4)
    | (at_mapUpdate; refine wpList_mapUpdate_own _ rfl _ _ _ 64 rfl 9 71 law9 Try.underlying64 ptrElem b l.length ((dirD l).del (.string fr)) rfl HO.out (by simp [maxLen]; omega) _ _ (.string nm) rfl rfl HK2.out (.lit (.int .i64 (g : Int))) [] rfl ?_; intro w5 hown5 hgrow5; have HO5 := Lib.hid hown5; have HG5 := Lib.hid hgrow5; clear hown5 hgrow5))
  go_end0
  refine ⟨rfl, ?_, only_trans (only_trans (only_alloc (only_refl w (some b)) _) HG.out) HG5.out⟩
  have := HO5.out
  rw [dirD_del, dirD_put] at this
  exact DirAt.tight this

/-- a change is done to a directory -/
theorem do_any (w : World) (b : Nat) (l : Dl) (c : Ch) (hd : DirAt w b l.length l) (hf : nmOk c.from_) (hn : nmOk c.name) (hl : l.length ≤ 10000000) (hok : okC l c) :
    Calls Try.prog 37 #[.agg #[nmV c.from_, nmV c.name, ptrV c.file], .map (some b)] w fun e w' => e = .returned (.tuple #[]) ∧ DirAt w' b (doL l c).length (doL l c) ∧ w.grownBy w' (some b) := by
  obtain ⟨fr, nm, fl⟩ := c
  cases fl with
  | some g =>
    by_cases hne : nm = []
    · subst hne
      exact do_idle w b l fr g hd
    · have e : doL l ⟨fr, nm, some g⟩ = dput l nm g := by unfold doL; simp [hne]
      rw [e]
      exact do_some w b l fr nm g hd hn hl hne
  | none =>
    by_cases hne : nm = []
    · subst hne
      exact do_remove w b l fr hd hf
    · have h1 := hok rfl hne
      cases hg : dget l fr with
      | none => simp only at h1; rw [hg] at h1; cases h1
      | some g =>
        have e : doL l ⟨fr, nm, none⟩ = dput (ddel l fr) nm g := by unfold doL; simp [hne, hg]
        rw [e]
        exact do_rename w b l fr nm g hd hf hn hl hne hg
end Go.Proofs.Ytfeglchngekedaa
