/- What an operation leaves of both disks: they are alike again, and the bounds have grown by one. What a crash leaves of both disks: they are alike again. -/
import Derived.Test.YtfeglchngekedaaJ16Rcrash
namespace Go.Proofs.Ytfeglchngekedaa
open Go.RowKit Go.Shelf Go.Maps

/-! ### bounds -/
theorem PB.begun {n : Nat} {x : PS} (h : PB n x) : PB (n + 1) x.begun where
  count := by have := h.count; show x.count + 1 ≤ n + 1; omega
  fltsL := by have := rleft_len x.flts; have := h.fltsL; show (rleft x.flts).length ≤ n + 1; omega
  flts0 := by
    have h0 := h.flts0
    have : ∀ l : List (Int × Int), (∀ f ∈ l, 0 ≤ f.1 ∧ f.1 ≤ 9223372036854775807) → ∀ f ∈ rleft l, 0 ≤ f.1 ∧ f.1 ≤ 9223372036854775807 := by
      intro l
      induction l with
      | nil => intro _ f hf; cases hf
      | cons a l ih =>
        intro hl f hf
        have hf : f ∈ (if 0 < a.1 then (a.1 - 1, a.2) :: rleft l else rleft l) := hf
        have ha := hl a List.mem_cons_self
        split at hf
        · rcases List.mem_cons.1 hf with rfl | hf
          · show 0 ≤ a.1 - 1 ∧ a.1 - 1 ≤ _; omega
          · exact ih (fun g hg => hl g (List.mem_cons_of_mem _ hg)) f hf
        · exact ih (fun g hg => hl g (List.mem_cons_of_mem _ hg)) f hf
    exact this x.flts h0
  stopB := by
    have := h.stopB
    show -1 ≤ (if 0 < x.stop then x.stop - 1 else x.stop) ∧ (if 0 < x.stop then x.stop - 1 else x.stop) ≤ _
    split <;> omega
  filesL := Nat.le_succ_of_le h.filesL
  dirL := Nat.le_succ_of_le h.dirL
  keptL := Nat.le_succ_of_le h.keptL
  pendL := Nat.le_succ_of_le h.pendL
  dirF := h.dirF
  keptF := h.keptF
  pendF := h.pendF
  bytesL := fun f hf => by have := h.bytesL f hf; omega
  dirN := h.dirN
  keptN := h.keptN
  pendN := h.pendN
/-- one more file, entry and change than n -/
theorem PB.created {n : Nat} {x : PS} (h : PB n x) (nm : Nm) (hn : nm.length ≤ 64) : PB (n + 1) (x.begun.created nm) := by
  have hb := h.begun
  exact {
    count := hb.count
    fltsL := hb.fltsL
    flts0 := hb.flts0
    stopB := hb.stopB
    filesL := by have := h.filesL; show (x.files ++ [([], 0)]).length ≤ n + 1; simp; omega
    dirL := by have := h.dirL; have := len_ddel x.dir nm; show (ddel x.dir nm ++ [(nm, x.files.length)]).length ≤ n + 1; simp; omega
    keptL := hb.keptL
    pendL := by have := h.pendL; show (x.pend ++ [_]).length ≤ n + 1; simp; omega
    dirF := fun e he => by
      show e.2 < (x.files ++ [([], 0)]).length
      rw [List.length_append]
      rcases List.mem_append.1 (show e ∈ ddel x.dir nm ++ [(nm, x.files.length)] from he) with he | he
      · have := h.dirF e ((mem_ddel _ _ _).1 he).1; simp; omega
      · rw [List.mem_singleton.1 he]; simp
    keptF := fun e he => by
      show e.2 < (x.files ++ [([], 0)]).length
      rw [List.length_append]
      have := h.keptF e he; simp; omega
    pendF := fun c hc => by
      show c.kind = 3 ∨ c.file < (x.files ++ [([], 0)]).length
      rw [List.length_append]
      rcases List.mem_append.1 (show c ∈ x.pend ++ [⟨1, [], nm, x.files.length⟩] from hc) with hc | hc
      · rcases h.pendF c hc with h1 | h1
        · exact .inl h1
        · exact .inr (by simp; omega)
      · rw [List.mem_singleton.1 hc]; exact .inr (by simp)
    bytesL := fun f hf => by
      rcases List.mem_append.1 (show f ∈ x.files ++ [([], 0)] from hf) with hf | hf
      · exact hb.bytesL f hf
      · rw [List.mem_singleton.1 hf]; simp
    dirN := fun e he => by
      rcases List.mem_append.1 (show e ∈ ddel x.dir nm ++ [(nm, x.files.length)] from he) with he | he
      · exact h.dirN e ((mem_ddel _ _ _).1 he).1
      · rw [List.mem_singleton.1 he]; exact hn
    keptN := h.keptN
    pendN := fun c hc => by
      rcases List.mem_append.1 (show c ∈ x.pend ++ [⟨1, [], nm, x.files.length⟩] from hc) with hc | hc
      · exact h.pendN c hc
      · rw [List.mem_singleton.1 hc]; exact ⟨Nat.zero_le _, hn⟩ }
/-- a change that makes no file -/
theorem PB.changed {n : Nat} {x : PS} (h : PB n x) (d : RC) (hd : d.kind = 3 ∨ d.file < x.files.length) (hr : d.kind = 2 → d.file < x.files.length) (hk : d.kind ≠ 1) (hn : d.old.length ≤ 64 ∧ d.nm.length ≤ 64) : PB (n + 1) { x.begun with dir := rdo x.dir d, pend := x.pend ++ [d] } := by
  have hb := h.begun
  have hmem : ∀ e ∈ rdo x.dir d, e ∈ x.dir ∨ (d.kind = 2 ∧ e = (d.nm, d.file)) := by
    intro e he
    unfold rdo rset at he
    rw [if_neg hk] at he
    split at he
    · rename_i h2
      rcases List.mem_append.1 he with he | he
      · exact .inl ((mem_ddel _ _ _).1 ((mem_ddel _ _ _).1 he).1).1
      · exact .inr ⟨h2, List.mem_singleton.1 he⟩
    · exact .inl ((mem_ddel _ _ _).1 he).1
  exact {
    count := hb.count
    fltsL := hb.fltsL
    flts0 := hb.flts0
    stopB := hb.stopB
    filesL := hb.filesL
    dirL := by have := h.dirL; have := rdo_len x.dir d; show (rdo x.dir d).length ≤ n + 1; omega
    keptL := hb.keptL
    pendL := by have := h.pendL; show (x.pend ++ [d]).length ≤ n + 1; simp; omega
    dirF := fun e he => by
      rcases hmem e he with he | ⟨h2, rfl⟩
      · exact h.dirF e he
      · exact hr h2
    keptF := h.keptF
    pendF := fun c hc => by
      rcases List.mem_append.1 (show c ∈ x.pend ++ [d] from hc) with hc | hc
      · exact h.pendF c hc
      · rw [List.mem_singleton.1 hc]; exact hd
    bytesL := hb.bytesL
    dirN := fun e he => by
      rcases hmem e he with he | ⟨h2, rfl⟩
      · exact h.dirN e he
      · exact hn.2
    keptN := h.keptN
    pendN := fun c hc => by
      rcases List.mem_append.1 (show c ∈ x.pend ++ [d] from hc) with hc | hc
      · exact h.pendN c hc
      · rw [List.mem_singleton.1 hc]; exact hn }
theorem mem_modify {α : Type} {l : List α} {f : Nat} {g : α → α} {y : α} (h : y ∈ l.modify f g) : y ∈ l ∨ ∃ z ∈ l, y = g z := by
  obtain ⟨k, hk⟩ := List.mem_iff_getElem?.1 h
  rw [List.getElem?_modify] at hk
  cases hl : l[k]? with
  | none => rw [hl] at hk; cases hk
  | some z =>
    rw [hl] at hk
    have hz := List.mem_of_getElem? hl
    by_cases e : f = k
    · simp [e] at hk; exact .inr ⟨z, hz, hk.symm⟩
    · simp [e] at hk; exact .inl (by rw [← hk]; exact hz)
/-- bytes put at a file's end, or made durable -/
theorem PB.modified {n : Nat} {x : PS} (h : PB n x) (f : Nat) (g : List UInt8 × Nat → List UInt8 × Nat) (hg : ∀ y, y.1.length ≤ 1000 * n → y.2 ≤ y.1.length → (g y).1.length ≤ 1000 * (n + 1) ∧ (g y).2 ≤ (g y).1.length) : PB (n + 1) { x.begun with files := x.files.modify f g } := by
  have hb := h.begun
  have hl : (x.files.modify f g).length = x.files.length := List.length_modify ..
  exact {
    count := hb.count
    fltsL := hb.fltsL
    flts0 := hb.flts0
    stopB := hb.stopB
    filesL := by show (x.files.modify f g).length ≤ _; rw [hl]; exact hb.filesL
    dirL := hb.dirL
    keptL := hb.keptL
    pendL := hb.pendL
    dirF := fun e he => by show _ < (x.files.modify f g).length; rw [hl]; exact h.dirF e he
    keptF := fun e he => by show _ < (x.files.modify f g).length; rw [hl]; exact h.keptF e he
    pendF := fun c hc => by show _ ∨ _ < (x.files.modify f g).length; rw [hl]; exact h.pendF c hc
    bytesL := fun y hy => by
      rcases mem_modify hy with hy | ⟨z, hz, rfl⟩
      · exact hb.bytesL y hy
      · exact hg z (h.bytesL z hz).1 (h.bytesL z hz).2
    dirN := h.dirN
    keptN := h.keptN
    pendN := h.pendN }
theorem PB.syncedDir {n : Nat} {x : PS} (h : PB n x) : PB (n + 1) { x.begun with kept := x.dir, pend := [] } := by
  have hb := h.begun
  exact { hb with
    keptL := hb.dirL
    pendL := Nat.zero_le _
    keptF := h.dirF
    pendF := fun c hc => by cases hc
    keptN := h.dirN
    pendN := fun c hc => by cases hc }
theorem PB.mono {n m : Nat} {x : PS} (h : PB n x) (hm : n ≤ m) : PB m x :=
  { h with
    count := Nat.le_trans h.count hm
    fltsL := Nat.le_trans h.fltsL hm
    filesL := Nat.le_trans h.filesL hm
    dirL := Nat.le_trans h.dirL hm
    keptL := Nat.le_trans h.keptL hm
    pendL := Nat.le_trans h.pendL hm
    bytesL := fun f hf => by have := h.bytesL f hf; omega }

/-- how many entries and changes there can be -/
structure PC (x : PS) : Prop where
  kp : x.kept.length + x.pend.length ≤ x.count
  dc : x.dir.length ≤ x.count
theorem PC.begun {x : PS} (h : PC x) : PC x.begun := ⟨by have := h.kp; show _ ≤ x.count + 1; exact Nat.le_succ_of_le this, Nat.le_succ_of_le h.dc⟩
theorem PC.created {x : PS} (h : PC x) (nm : Nm) : PC (x.begun.created nm) where
  kp := by have := h.kp; show x.kept.length + (x.pend ++ [_]).length ≤ x.count + 1; simp; omega
  dc := by have := h.dc; have := len_ddel x.dir nm; show (ddel x.dir nm ++ [_]).length ≤ x.count + 1; simp; omega
theorem PC.changed {x : PS} (h : PC x) (d : RC) : PC { x.begun with dir := rdo x.dir d, pend := x.pend ++ [d] } where
  kp := by have := h.kp; show x.kept.length + (x.pend ++ [d]).length ≤ x.count + 1; simp; omega
  dc := by have := h.dc; have := rdo_len x.dir d; show (rdo x.dir d).length ≤ x.count + 1; omega
theorem PC.syncedDir {x : PS} (h : PC x) : PC { x.begun with kept := x.dir, pend := [] } where
  kp := by have := h.dc; show x.dir.length + 0 ≤ x.count + 1; omega
  dc := h.begun.dc
theorem PC.files {x : PS} (h : PC x) (l : List (List UInt8 × Nat)) : PC { x with files := l } := ⟨h.kp, h.dc⟩

/-! ### the operations, side by side -/
def Alike (s' : DS) (n : Nat) (x' : PS) : Prop := (∃ φ, Rel φ s' x') ∧ PB (n + 1) x' ∧ PC x'

section
variable {φ : Nat → Nat} {s : DS} {x : PS} {n : Nat}
theorem alike_begun (h : Rel φ s x) (hb : PB n x) (hp : PC x) (ho : s.ops ≤ 1000000) (v : Value) : Alike (begun s v) n x.begun := ⟨⟨φ, begun_rel h ho (fun f hf => (hb.flts0 f hf).1) v⟩, hb.begun, hp.begun⟩
theorem begin_two (h : Rel φ s x) (hb : PB n x) (ho : s.ops ≤ 1000000) (ns : List ByteArray) : (beginS s ns).2 = (if x.beginC.1 = 0 then (if ns.all rightB then 0 else 2) else x.beginC.1) := (begin_same h ho (fun f hf => (hb.flts0 f hf).1) ns).1
theorem right_len {nm : ByteArray} (h : rightB nm = true) : nm.data.toList.length ≤ 64 := by rw [Array.length_toList]; exact rightB_size h

theorem create_sim {W : Nat} (h : Rel φ s x) (hb : PB n x) (hp : PC x) (ho : s.ops ≤ 1000000) (nm : ByteArray) (v : Value) (s' : DS) (hw : ∀ g, live s g → g < W)
    (hs : (createC s nm ≠ 0 ∧ s' = begun s v) ∨ (createC s nm = 0 ∧ rightB nm = true ∧ dget s.names nm.data.toList = none ∧ ∃ g v2, W ≤ g ∧ s' = created (begun s v) nm.data.toList g v2)) :
    createC s nm = (x.create nm).1 ∧ Alike s' n (x.create nm).2 := by
  have h2 := begin_two h hb ho [nm]
  have hi := h.isSome nm.data.toList
  have hrel := begun_rel h ho (fun f hf => (hb.flts0 f hf).1) v
  have hcode : createC s nm = (x.create nm).1 ∧ (createC s nm ≠ 0 → (x.create nm).2 = x.begun) ∧ (createC s nm = 0 → dget s.names nm.data.toList = none → (x.create nm).2 = x.begun.created nm.data.toList) := by
    unfold createC PS.create
    rw [h2, hi]
    by_cases h0 : x.beginC.1 = 0
    · rw [if_pos h0, if_pos h0]
      cases hr : rightB nm with
      | false => simp [hr]
      | true =>
        cases hd : dget x.dir nm.data.toList with
        | none => simp [hr]
        | some f => simp [hr]
    · rw [if_neg h0, if_neg h0, if_neg h0]
      exact ⟨rfl, fun _ => rfl, fun h1 => absurd h1 h0⟩
  refine ⟨hcode.1, ?_⟩
  rcases hs with ⟨h3, rfl⟩ | ⟨h3, hr, hd, g, v2, hg, rfl⟩
  · rw [hcode.2.1 h3]; exact alike_begun h hb hp ho v
  · rw [hcode.2.2 h3 hd]
    exact ⟨⟨_, created_rel hrel nm.data.toList (rightB_ne hr) g v2 (fun f hf => by have := hw _ (h.live (show rlive x f from hf)); omega)⟩, hb.created _ (right_len hr), hp.created _⟩
theorem sync_sim (h : Rel φ s x) (hb : PB n x) (hp : PC x) (ho : s.ops ≤ 1000000) (nm : ByteArray) (v : Value) (s' : DS)
    (hs : (syncC s nm ≠ 0 ∧ s' = begun s v) ∨ (syncC s nm = 0 ∧ ∃ g, dget s.names nm.data.toList = some g ∧ s' = synced (begun s v) g)) :
    syncC s nm = (x.sync nm).1 ∧ Alike s' n (x.sync nm).2 := by
  have h2 := begin_two h hb ho [nm]
  have hi := h.isSome nm.data.toList
  have hrel := begun_rel h ho (fun f hf => (hb.flts0 f hf).1) v
  have hcode : syncC s nm = (x.sync nm).1 ∧ (syncC s nm ≠ 0 → (x.sync nm).2 = x.begun) ∧ (syncC s nm = 0 → ∀ f, dget x.dir nm.data.toList = some f → (x.sync nm).2 = x.begun.synced f) := by
    unfold syncC PS.sync
    rw [h2, hi]
    by_cases h0 : x.beginC.1 = 0
    · rw [if_pos h0, if_pos h0]
      cases hr : rightB nm with
      | false => simp [hr]
      | true =>
        cases hd : dget x.dir nm.data.toList with
        | none => simp [hr]
        | some f => simp [hr]
    · rw [if_neg h0, if_neg h0, if_neg h0]
      exact ⟨rfl, fun _ => rfl, fun h1 => absurd h1 h0⟩
  refine ⟨hcode.1, ?_⟩
  rcases hs with ⟨h3, rfl⟩ | ⟨h3, g, hd, rfl⟩
  · rw [hcode.2.1 h3]; exact alike_begun h hb hp ho v
  · rw [h.names] at hd
    obtain ⟨f, hf, rfl⟩ := Option.map_eq_some_iff.1 hd
    rw [hcode.2.2 h3 f hf]
    exact ⟨⟨φ, synced_rel hrel f (h.liveDir (dget_mem hf))⟩, hb.modified f _ (fun y h1 h2 => ⟨by show y.1.length ≤ _; omega, Nat.le_refl _⟩), hp.begun.files _⟩
theorem remove_sim (h : Rel φ s x) (hb : PB n x) (hp : PC x) (ho : s.ops ≤ 1000000) (nm : ByteArray) (v : Value) (s' : DS)
    (hs : (removeC s nm ≠ 0 ∧ s' = begun s v) ∨ (removeC s nm = 0 ∧ rightB nm = true ∧ (dget s.names nm.data.toList).isSome = true ∧ ∃ v2, s' = changed (begun s v) ⟨nm.data.toList, [], none⟩ v2)) :
    removeC s nm = (x.remove nm).1 ∧ Alike s' n (x.remove nm).2 := by
  have h2 := begin_two h hb ho [nm]
  have hi := h.isSome nm.data.toList
  have hrel := begun_rel h ho (fun f hf => (hb.flts0 f hf).1) v
  have hcode : removeC s nm = (x.remove nm).1 ∧ (removeC s nm ≠ 0 → (x.remove nm).2 = x.begun) ∧ (removeC s nm = 0 → (x.remove nm).2 = x.begun.removed nm.data.toList) := by
    unfold removeC PS.remove
    rw [h2, hi]
    by_cases h0 : x.beginC.1 = 0
    · rw [if_pos h0, if_pos h0]
      cases hr : rightB nm with
      | false => simp [hr]
      | true =>
        cases hd : dget x.dir nm.data.toList with
        | none => simp [hr]
        | some f => simp [hr]
    · rw [if_neg h0, if_neg h0, if_neg h0]
      exact ⟨rfl, fun _ => rfl, fun h1 => absurd h1 h0⟩
  refine ⟨hcode.1, ?_⟩
  rcases hs with ⟨h3, rfl⟩ | ⟨h3, hr, -, v2, rfl⟩
  · rw [hcode.2.1 h3]; exact alike_begun h hb hp ho v
  · rw [hcode.2.2 h3]
    exact ⟨⟨φ, changed_rel hrel ⟨nm.data.toList, [], none⟩ ⟨3, [], nm.data.toList, 0⟩ v2 (show (3 : Int) ≠ 1 by decide) (.remove _)⟩, hb.changed ⟨3, [], nm.data.toList, 0⟩ (.inl rfl) (fun e => by cases e) (show (3 : Int) ≠ 1 by decide) ⟨Nat.zero_le _, right_len hr⟩, hp.changed ⟨3, [], nm.data.toList, 0⟩⟩
theorem nm_eq {a b : ByteArray} : a.data.toList = b.data.toList ↔ a = b := by
  constructor
  · intro h
    apply ByteArray.ext
    exact Array.toList_inj.1 h
  · rintro rfl; rfl
theorem rename_sim (h : Rel φ s x) (hb : PB n x) (hp : PC x) (ho : s.ops ≤ 1000000) (od nm : ByteArray) (v : Value) (s' : DS)
    (hs : (renameC s od nm ≠ 0 ∧ s' = begun s v) ∨ (renameC s od nm = 0 ∧ rightB od = true ∧ rightB nm = true ∧ (dget s.names od.data.toList).isSome = true ∧
      ((od = nm ∧ s' = begun s v) ∨ (od ≠ nm ∧ ∃ v2, s' = changed (begun s v) ⟨od.data.toList, nm.data.toList, none⟩ v2)))) :
    renameC s od nm = (x.rename od nm).1 ∧ Alike s' n (x.rename od nm).2 := by
  have h2 := begin_two h hb ho [od, nm]
  have hi := h.isSome od.data.toList
  have hrel := begun_rel h ho (fun f hf => (hb.flts0 f hf).1) v
  have hcode : renameC s od nm = (x.rename od nm).1 ∧ (renameC s od nm ≠ 0 → (x.rename od nm).2 = x.begun) ∧ (renameC s od nm = 0 → ∀ f, dget x.dir od.data.toList = some f → (x.rename od nm).2 = if od.data.toList = nm.data.toList then x.begun else x.begun.renamed od.data.toList nm.data.toList f) := by
    unfold renameC PS.rename
    rw [h2, hi]
    by_cases h0 : x.beginC.1 = 0
    · rw [if_pos h0, if_pos h0]
      cases hr : rightB od with
      | false => simp [hr]
      | true =>
        cases hr2 : rightB nm with
        | false => simp [hr, hr2]
        | true =>
          cases hd : dget x.dir od.data.toList with
          | none => simp [hr, hr2]
          | some f =>
            by_cases he : od.data.toList = nm.data.toList
            · simp only [he]; simp [hr, hr2]
            · simp [hr, hr2, he]
    · rw [if_neg h0, if_neg h0, if_neg h0]
      exact ⟨rfl, fun _ => rfl, fun h1 => absurd h1 h0⟩
  refine ⟨hcode.1, ?_⟩
  rcases hs with ⟨h3, rfl⟩ | ⟨h3, hr, hr2, hd, hs⟩
  · rw [hcode.2.1 h3]; exact alike_begun h hb hp ho v
  · rw [hi] at hd
    obtain ⟨f, hf⟩ := Option.isSome_iff_exists.1 hd
    rw [hcode.2.2 h3 f hf]
    rcases hs with ⟨he, rfl⟩ | ⟨he, v2, rfl⟩
    · rw [if_pos (nm_eq.2 he)]; exact alike_begun h hb hp ho v
    · rw [if_neg (fun e => he (nm_eq.1 e))]
      have hfl : f < x.files.length := h.flt (h.liveDir (dget_mem hf))
      exact ⟨⟨φ, changed_rel hrel ⟨od.data.toList, nm.data.toList, none⟩ ⟨2, od.data.toList, nm.data.toList, f⟩ v2 (show (2 : Int) ≠ 1 by decide) (.rename _ _ _ (rightB_ne hr2) (fun e => he (nm_eq.1 e)) hf)⟩,
        hb.changed ⟨2, od.data.toList, nm.data.toList, f⟩ (.inr hfl) (fun _ => hfl) (show (2 : Int) ≠ 1 by decide) ⟨right_len hr, right_len hr2⟩, hp.changed ⟨2, od.data.toList, nm.data.toList, f⟩⟩
theorem syncdir_sim (h : Rel φ s x) (hb : PB n x) (hp : PC x) (ho : s.ops ≤ 1000000) (v : Value) (s' : DS)
    (hs : ((beginS s []).2 ≠ 0 ∧ s' = begun s v) ∨ ((beginS s []).2 = 0 ∧ ∃ m, s' = syncedDir (begun s v) m)) :
    (beginS s []).2 = x.syncDir.1 ∧ Alike s' n x.syncDir.2 := by
  have h2 := begin_two h hb ho []
  have hrel := begun_rel h ho (fun f hf => (hb.flts0 f hf).1) v
  have h2' : (beginS s []).2 = x.beginC.1 := by
    rw [h2]
    split
    · rename_i h0; rw [h0]; rfl
    · rfl
  rw [h2'] at hs ⊢
  unfold PS.syncDir
  rcases hs with ⟨h3, rfl⟩ | ⟨h3, m, rfl⟩
  · rw [if_neg h3]; exact ⟨rfl, alike_begun h hb hp ho v⟩
  · rw [if_pos h3]
    exact ⟨h3, ⟨φ, syncedDir_rel hrel m⟩, hb.syncedDir, hp.syncedDir⟩
theorem append_sim (h : Rel φ s x) (hb : PB n x) (hp : PC x) (ho : s.ops ≤ 1000000) (ht : s.names.Pairwise fun a b => a.1 ≠ b.1) (nm : ByteArray) (b : List UInt8) (hbl : b.length ≤ 1000) (v : Value) (s' : DS)
    (hs : (takes s nm b.length = none ∧ s' = begun s v) ∨ (∃ m g v2, takes s nm b.length = some m ∧ dget s.names nm.data.toList = some g ∧ s' = appended (begun s v) g v2 (b.take m))) :
    appendC s nm b.length = (x.append nm b).1 ∧ Alike s' n (x.append nm b).2 := by
  have h2 := begin_two h hb ho [nm]
  have h6 := (begin_same h ho (fun f hf => (hb.flts0 f hf).1) [nm]).2
  have hi := h.isSome nm.data.toList
  have hrel := begun_rel h ho (fun f hf => (hb.flts0 f hf).1) v
  have hfit : rightB nm = true → fitsS s nm b.length = x.fits nm b.length := by
    intro hr
    unfold fitsS PS.fits
    rw [hi, used_same h ht, h.cap, if_pos hr]
    cases hd : dget x.dir nm.data.toList with
    | none => rfl
    | some f =>
      show (if 0 < b.length ∧ x.cap - (x.used : Int) < (b.length : Int) then (5 : Int) else 0) = if b.length = 0 ∨ (b.length : Int) ≤ x.cap - (x.used : Int) then 0 else 5
      by_cases h1 : b.length = 0 ∨ (b.length : Int) ≤ x.cap - (x.used : Int)
      · rw [if_pos h1, if_neg (by omega)]
      · rw [if_neg h1, if_pos (by omega)]
  have hno : rightB nm = false → x.fits nm b.length = 2 := by intro hr; unfold PS.fits; rw [hr]; rfl
  have hadd : ∀ (m g : Nat) (v2 : Value), dget s.names nm.data.toList = some g → m ≤ b.length → Alike (appended (begun s v) g v2 (b.take m)) n (x.begun.addTo nm.data.toList (b.take m)) := by
    intro m g v2 hd hm
    rw [h.names] at hd
    obtain ⟨f, hf, rfl⟩ := Option.map_eq_some_iff.1 hd
    have e : x.begun.addTo nm.data.toList (b.take m) = x.begun.add f (b.take m) := by
      unfold PS.addTo
      rw [show x.begun.dir = x.dir from rfl, hf]
    rw [e]
    refine ⟨⟨φ, added_rel hrel f (h.liveDir (dget_mem hf)) v2 (b.take m)⟩, hb.modified f _ (fun y h1 h2 => ?_), hp.begun.files _⟩
    have : (b.take m).length ≤ 1000 := Nat.le_trans (List.length_take_le _ _) (by omega)
    simp only [List.length_append]
    omega
  have htk : takes s nm b.length = (if x.beginC.1 = 0 then (if x.fits nm b.length = 0 then some b.length else none) else if x.beginC.2 = 2 ∧ x.fits nm b.length = 0 then some (b.length / 2) else none) := by
    unfold takes tornS
    rcases beginC_cases x with hk | hk | hk | hk
    all_goals
      rw [hk] at h2 h6 ⊢
      cases hr : rightB nm with
      | false =>
        have hn2 := hno hr
        simp [hr] at h2
        simp [h2, hn2]
      | true =>
        have hf := hfit hr
        simp [hr] at h2
        simp [h2, hf]
        try simp [h2] at h6
        try simp [h6]
  have hcode : appendC s nm b.length = (x.append nm b).1 := by
    unfold appendC PS.append
    rw [h2]
    by_cases h0 : x.beginC.1 = 0
    · rw [if_pos h0, if_pos h0]
      cases hr : rightB nm with
      | false => simp [hr, hno hr]
      | true => simp [hr, hfit hr]
    · rw [if_neg h0, if_neg h0, if_neg h0]
  refine ⟨hcode, ?_⟩
  unfold PS.append
  rw [htk] at hs
  by_cases h0 : x.beginC.1 = 0
  · rw [if_pos h0] at hs ⊢
    by_cases hf : x.fits nm b.length = 0
    · rw [if_pos hf] at hs
      rcases hs with ⟨h3, -⟩ | ⟨m, g, v2, hm, hd, rfl⟩
      · cases h3
      · injection hm with hm
        subst hm
        simp only [hf, if_true]
        have := hadd b.length g v2 hd (Nat.le_refl _)
        rwa [List.take_length] at this ⊢
    · rw [if_neg hf] at hs
      rcases hs with ⟨-, rfl⟩ | ⟨m, g, v2, hm, -⟩
      · simp only [hf, if_false]; exact alike_begun h hb hp ho v
      · cases hm
  · rw [if_neg h0] at hs ⊢
    by_cases hf : x.beginC.2 = 2 ∧ x.fits nm b.length = 0
    · rw [if_pos hf] at hs
      rcases hs with ⟨h3, -⟩ | ⟨m, g, v2, hm, hd, rfl⟩
      · cases h3
      · injection hm with hm
        subst hm
        simp only [hf, and_self, if_true]
        exact hadd (b.length / 2) g v2 hd (by omega)
    · rw [if_neg hf] at hs
      rcases hs with ⟨-, rfl⟩ | ⟨m, g, v2, hm, -⟩
      · show Alike (begun s v) n (if x.beginC.2 = 2 ∧ x.fits nm b.length = 0 then _ else x.begun)
        rw [if_neg hf]; exact alike_begun h hb hp ho v
      · cases hm
end
end Go.Proofs.Ytfeglchngekedaa
namespace Go.Proofs.Ytfeglchngekedaa
open Go.RowKit Go.Shelf Go.Maps

theorem dir_perm {φ : Nat → Nat} {l m : Dl} (h : DirRel φ l m) (hr : RDir m) (ht : l.Pairwise fun a b => a.1 ≠ b.1) : (m.map fun e => (e.1, φ e.2)).Perm l := by
  have n1 : l.Nodup := ht.imp fun hne e => hne (by rw [e])
  have n2 : (m.map fun e => (e.1, φ e.2)).Nodup := by
    unfold List.Nodup
    rw [List.pairwise_map]
    exact hr.names.imp fun hne e => hne (by injection e)
  refine (List.perm_ext_iff_of_nodup n2 n1).2 fun y => ?_
  obtain ⟨t, g⟩ := y
  constructor
  · intro hm
    obtain ⟨e, he, e2⟩ := List.mem_map.1 hm
    injection e2 with e3 e4
    have : dget l t = some g := by
      rw [h t, ← e3, dget_of_mem hr.names (show (e.1, e.2) ∈ m from he), ← e4]; rfl
    exact dget_mem this
  · intro hm
    have h1 := dget_of_mem ht hm
    rw [h t] at h1
    obtain ⟨f, hf, e⟩ := Option.map_eq_some_iff.1 h1
    exact List.mem_map.2 ⟨(t, f), dget_mem hf, by rw [e]⟩
theorem dir_keys {φ : Nat → Nat} {l m : Dl} (h : DirRel φ l m) (hr : RDir m) (ht : l.Pairwise fun a b => a.1 ≠ b.1) : (m.map (·.1)).Perm (l.map (·.1)) := by
  have := (dir_perm h hr ht).map (·.1)
  rwa [List.map_map] at this

theorem cut_other (D : Dl) (f : Nat) : ∀ (r : List Nm) (st : Fl × List Int), (∀ nm ∈ r, (dget D nm).getD 0 ≠ f) → (r.foldl (cutStep D) st).1[f]? = st.1[f]?
  | [], _, _ => rfl
  | nm :: r, st, h => by
    rw [List.foldl_cons, cut_other D f r _ (fun n hn => h n (List.mem_cons_of_mem _ hn))]
    show (cutF st.1 ((dget D nm).getD 0) st.2)[f]? = _
    unfold cutF
    exact get_modify_other _ _ (h nm List.mem_cons_self)
theorem cut_len (D : Dl) : ∀ (r : List Nm) (st : Fl × List Int), (r.foldl (cutStep D) st).1.length = st.1.length
  | [], _ => rfl
  | nm :: r, st => by
    rw [List.foldl_cons, cut_len D r]
    show (cutF st.1 _ st.2).length = _
    unfold cutF
    exact List.length_modify ..
theorem cut_all (D : Dl) (B : Nat) : ∀ (r : List Nm) (st : Fl × List Int), (∀ y ∈ st.1, y.1.length ≤ B ∧ y.2 ≤ y.1.length) → ∀ y ∈ (r.foldl (cutStep D) st).1, y.1.length ≤ B ∧ y.2 ≤ y.1.length
  | [], _, h => h
  | nm :: r, st, h => by
    rw [List.foldl_cons]
    refine cut_all D B r _ fun y hy => ?_
    obtain ⟨k, hk⟩ := List.mem_iff_getElem?.1 hy
    have hk : (st.1.modify ((dget D nm).getD 0) fun y => (y.1.take (cutN st.1 ((dget D nm).getD 0) st.2), cutN st.1 ((dget D nm).getD 0) st.2))[k]? = some y := hk
    rw [List.getElem?_modify] at hk
    cases hl : st.1[k]? with
    | none => rw [hl] at hk; cases hk
    | some z =>
      rw [hl] at hk
      have hz := h z (List.mem_of_getElem? hl)
      by_cases e : (dget D nm).getD 0 = k
      · rw [e] at hk
        have hbd := cutN_bd st.2 hl hz.2
        simp at hk
        rw [← hk]
        refine ⟨Nat.le_trans (List.length_take_le' _ _) hz.1, ?_⟩
        show _ ≤ (z.1.take _).length
        rw [List.length_take]
        omega
      · simp [e] at hk
        rw [← hk]; exact hz
/-- each file that is cut is cut as the program cuts it -/
theorem cut_same {φ : Nat → Nat} {bytes : Nat → List UInt8} {kept : Nat → Nat} {dir D : Dl} (hD : RDir D) : ∀ (keys : List Nm) (cs : List Int) (files : Fl) (lst : List NewF), keys.Pairwise (· ≠ ·) →
    (∀ nm ∈ keys, ∃ f, dget D nm = some f ∧ files[f]? = some (bytes (φ f), kept (φ f)) ∧ dget dir nm = some (φ f)) → (∀ f, kept (φ f) ≤ (bytes (φ f)).length ∨ ∀ nm ∈ keys, dget D nm ≠ some f) → lst.map NewF.tell = crashL bytes kept dir keys cs →
    ∀ e ∈ lst, ∀ f, dget D e.name = some f → (keys.foldl (cutStep D) (files, cs)).1[f]? = some (e.bs, e.n)
  | [], cs, files, lst, _, _, _, hl, e, he, _, _ => by
    have : lst = [] := List.map_eq_nil_iff.1 hl
    rw [this] at he; cases he
  | nm :: r, cs, files, lst, hn, hk, hle, hl, e, he, f, hf => by
    rw [List.pairwise_cons] at hn
    obtain ⟨f0, h1, h2, h3⟩ := hk nm List.mem_cons_self
    cases lst with
    | nil => cases he
    | cons e0 l =>
      have hl0 : e0.tell = (nm, (bytes ((dget dir nm).getD 0)).take (kept ((dget dir nm).getD 0) + (nextK cs (((bytes ((dget dir nm).getD 0)).length - kept ((dget dir nm).getD 0) : Nat) : Int)).toNat), kept ((dget dir nm).getD 0) + (nextK cs (((bytes ((dget dir nm).getD 0)).length - kept ((dget dir nm).getD 0) : Nat) : Int)).toNat) ∧ l.map NewF.tell = crashL bytes kept dir r cs.tail := by
        have hl : e0.tell :: l.map NewF.tell = _ :: crashL bytes kept dir r cs.tail := hl
        injection hl with h4 h5
        exact ⟨h4, h5⟩
      obtain ⟨h4, h5⟩ := hl0
      rw [h3] at h4
      simp only [Option.getD_some] at h4
      have hcn : cutN files f0 cs = kept (φ f0) + (nextK cs (((bytes (φ f0)).length - kept (φ f0) : Nat) : Int)).toNat := by unfold cutN; rw [h2]
      rw [← hcn] at h4
      have h4a : e0.name = nm := congrArg (·.1) h4
      have h4b : e0.bs = (bytes (φ f0)).take (cutN files f0 cs) := congrArg (·.2.1) h4
      have h4c : e0.n = cutN files f0 cs := congrArg (·.2.2) h4
      rw [List.foldl_cons]
      have hst : cutStep D (files, cs) nm = (cutF files f0 cs, cs.tail) := by unfold cutStep; rw [h1]; rfl
      rw [hst]
      have hother : ∀ n2 ∈ r, ∀ f2, dget D n2 = some f2 → f2 ≠ f0 := by
        intro n2 h6 f2 h7 e2
        subst e2
        exact hn.1 n2 h6 (hD.inj h7 h1).symm
      rcases List.mem_cons.1 he with rfl | he
      · rw [h4a, h1] at hf
        injection hf with hf
        subst hf
        rw [cut_other D f0 r _ (fun n2 h6 => ?_)]
        · show (cutF files f0 cs)[f0]? = _
          unfold cutF
          rw [get_modify_same, h2, h4b, h4c]; rfl
        · obtain ⟨f2, h7, -⟩ := hk n2 (List.mem_cons_of_mem _ h6)
          rw [h7]
          exact hother n2 h6 f2 h7
      · refine cut_same (φ := φ) hD r cs.tail _ l hn.2 (fun n2 h6 => ?_) (fun f2 => ?_) h5 e he f hf
        · obtain ⟨f2, h7, h8, h9⟩ := hk n2 (List.mem_cons_of_mem _ h6)
          refine ⟨f2, h7, ?_, h9⟩
          unfold cutF
          rw [get_modify_other _ _ (hother n2 h6 f2 h7).symm]
          exact h8
        · rcases hle f2 with h6 | h6
          · exact .inl h6
          · exact .inr fun n2 h7 => h6 n2 (List.mem_cons_of_mem _ h7)

def newφ (D l : Dl) (f : Nat) : Nat := match D.find? (fun e => e.2 == f) with
  | some e => (dget l e.1).getD 0
  | none => 0
theorem newφ_at {D l : Dl} (hD : RDir D) {e : Nm × Nat} (he : e ∈ D) : newφ D l e.2 = (dget l e.1).getD 0 := by
  unfold newφ
  have : D.find? (fun x => x.2 == e.2) = some e := by
    cases hf : D.find? (fun x => x.2 == e.2) with
    | none => exact absurd (by simp) (List.find?_eq_none.1 hf e he)
    | some y =>
      have h1 := List.find?_some hf
      have h2 := List.mem_of_find?_eq_some hf
      rw [pw_inj (g := fun x : Nm × Nat => x.2) hD.files h2 he (by simpa using h1)]
  rw [this]

theorem crash_sim {φ : Nat → Nat} {s : DS} {x : PS} {n : Nat} (h : Rel φ s x) (hb : PB n x) (hp : PC x) (hkl : ∀ g, live s g → s.kept g ≤ (s.bytes g).length) (cs : List Int) (dir : Dl) (ss keys : List Nm) (lst : List NewF) (mn ms : Nat)
    (hdir : dir = replay s.safe (s.pend.take (nextK cs (s.pend.length : Nat)).toNat)) (hss : ss.Perm (dir.map (·.1))) (hkeys : keys = ss.mergeSort (fun x y => decide (x ≤ y)))
    (hnames : lst.map (·.name) = keys) (htell : lst.map NewF.tell = crashL s.bytes s.kept dir keys cs.tail) (hg : lst.Pairwise fun a b => a.g ≠ b.g) (hnd : keys.Pairwise (· ≠ ·)) (hmem : ∀ x, x ∈ keys ↔ (dget dir x).isSome = true) :
    RDir (x.crashDir cs) ∧ (∀ e ∈ x.crashDir cs, e.2 < x.files.length) ∧ Alike (crashedS s dir lst mn ms) n (x.crash cs) := by
  obtain ⟨D, hD⟩ : ∃ D, D = x.crashDir cs := ⟨_, rfl⟩
  have hlen := h.pend.len
  have hDe : D = (x.pend.take (nextK cs (s.pend.length : Nat)).toNat).foldl rdo x.kept := by rw [hD]; unfold PS.crashDir; rw [hlen]
  obtain ⟨hrel, hrd⟩ := h.pend.take (nextK cs (s.pend.length : Nat)).toNat h.kept h.rdir
  rw [← hdir, ← hDe] at hrel
  rw [← hDe] at hrd
  have hlive : ∀ e ∈ D, rlive x e.2 := fun e he => h.liveTake _ (by rw [← hDe]; exact he)
  have hkperm : keys.Perm (dir.map (·.1)) := by rw [hkeys]; exact (List.mergeSort_perm ..).trans hss
  have htidy : dir.Pairwise fun a b => a.1 ≠ b.1 := by
    have h1 := (hkperm.pairwise_iff (fun {a b} (h : a ≠ b) => h.symm)).1 hnd
    rwa [List.pairwise_map] at h1
  have hkeysD : keys = (D.map (·.1)).mergeSort (fun a b => decide (a ≤ b)) := by
    rw [hkeys]
    exact sort_perm (hss.trans (dir_keys hrel hrd htidy).symm)
  have hnn : (lst.map (·.name)).Pairwise (· ≠ ·) := by rw [hnames]; exact hnd
  have hent : ∀ t f, dget D t = some f → ∃ e ∈ lst, e.name = t ∧ dget (laid dir lst) t = some e.g := by
    intro t f hf
    have h1 : t ∈ keys := (hmem t).2 (by rw [hrel t, hf]; rfl)
    rw [← hnames] at h1
    obtain ⟨e, he, rfl⟩ := List.mem_map.1 h1
    exact ⟨e, he, rfl, dget_laid_hit lst dir e hnn he⟩
  have hφ : ∀ t f, dget D t = some f → ∀ e ∈ lst, e.name = t → newφ D (laid dir lst) f = e.g := by
    intro t f hf e he hne
    have h1 := newφ_at (l := laid dir lst) hrd (dget_mem hf)
    rw [h1]
    show (dget (laid dir lst) t).getD 0 = _
    rw [← hne, dget_laid_hit lst dir e hnn he]; rfl
  have hrl : ∀ f, rlive (x.crash cs) f → ∃ t, dget D t = some f := by
    rintro f (⟨e, he, rfl⟩ | ⟨c, hc, _⟩)
    · have he : e ∈ D := by rw [hD]; exact he
      exact ⟨e.1, dget_of_mem hrd.names he⟩
    · cases hc
  have hDd : ∀ e ∈ D, e.2 < x.files.length := fun e he => h.flt (hlive e he)
  refine ⟨hD ▸ hrd, hD ▸ hDd, ⟨newφ D (laid dir lst), ?_⟩, ?_, ?_⟩
  · exact {
      cap := h.cap
      ops := h.ops
      flts := rfl
      stop := .inl ⟨rfl, rfl⟩
      kept := fun t => by
        show dget (laid dir lst) t = (dget (x.crashDir cs) t).map _
        rw [← hD]
        cases hd : dget D t with
        | some f =>
          obtain ⟨e, he, hne, hl⟩ := hent t f hd
          rw [hl]
          show some e.g = some (newφ D (laid dir lst) f)
          rw [hφ t f hd e he hne]
        | none =>
          have h1 : t ∉ lst.map (·.name) := by
            rw [hnames]
            intro hm
            have := (hmem t).1 hm
            rw [hrel t, hd] at this
            cases this
          rw [dget_laid lst dir t h1, hrel t, hd]
          rfl
      rdir := by show RDir (x.crashDir cs); rw [← hD]; exact hrd
      pend := trivial
      dir := rfl
      file := fun f hf => by
        obtain ⟨t, ht⟩ := hrl f hf
        obtain ⟨e, he, hne, -⟩ := hent t f ht
        have hfi := find_file lst e hg he
        have e1 : newφ D (laid dir lst) f = e.g := hφ t f ht e he hne
        show (x.crash cs).files[f]? = some (((lst.find? (fun e => e.g == newφ D (laid dir lst) f)).map (·.bs)).getD [], ((lst.find? (fun e => e.g == newφ D (laid dir lst) f)).map (·.n)).getD 0)
        rw [e1, hfi]
        show (List.foldl (cutStep (x.crashDir cs)) (x.files, cs.tail) (((x.crashDir cs).map (·.1)).mergeSort (fun a b => decide (a ≤ b)))).1[f]? = some (e.bs, e.n)
        rw [← hD, ← hkeysD]
        refine cut_same (φ := φ) hrd keys cs.tail x.files lst hnd (fun nm hm => ?_) (fun f2 => ?_) htell e he f (by rw [hne]; exact ht)
        · have h1 := (hmem nm).1 hm
          rw [hrel nm] at h1
          cases hd : dget D nm with
          | none => rw [hd] at h1; cases h1
          | some f2 => exact ⟨f2, rfl, h.file f2 (hlive _ (dget_mem hd)), by rw [hrel nm, hd]; rfl⟩
        · by_cases hx : ∃ nm ∈ keys, dget D nm = some f2
          · obtain ⟨nm, -, hd⟩ := hx
            exact .inl (hkl _ (h.live (hlive _ (dget_mem hd))))
          · exact .inr fun nm hm e2 => hx ⟨nm, hm, e2⟩
      inj := fun a b ha hb he => by
        obtain ⟨ta, hta⟩ := hrl a ha
        obtain ⟨tb, htb⟩ := hrl b hb
        obtain ⟨ea, hea, hna, -⟩ := hent ta a hta
        obtain ⟨eb, heb, hnb, -⟩ := hent tb b htb
        rw [hφ ta a hta ea hea hna, hφ tb b htb eb heb hnb] at he
        have := pw_inj (g := fun e : NewF => e.g) hg hea heb he
        rw [← hna, this, hnb, htb] at hta
        injection hta with hta
        exact hta.symm
      rep := rfl }
  · have hc := hb.count
    have hkp := hp.kp
    have hDl : D.length ≤ x.count := by
      rw [hDe]
      have := fold_len (x.pend.take (nextK cs (s.pend.length : Nat)).toNat) x.kept
      rw [List.length_take] at this
      omega
    have hfl : (x.crash cs).files.length = x.files.length := cut_len _ _ _
    exact {
      count := Nat.le_succ_of_le hc
      fltsL := Nat.zero_le _
      flts0 := fun f hf => by cases hf
      stopB := ⟨Int.le_refl _, by show (-1 : Int) ≤ 9223372036854775807; decide⟩
      filesL := by rw [hfl]; exact Nat.le_succ_of_le hb.filesL
      dirL := by show (x.crashDir cs).length ≤ _; rw [← hD]; omega
      keptL := by show (x.crashDir cs).length ≤ _; rw [← hD]; omega
      pendL := Nat.zero_le _
      dirF := fun e he => by rw [hfl]; exact hDd e (hD ▸ he)
      keptF := fun e he => by rw [hfl]; exact hDd e (hD ▸ he)
      pendF := fun c hc => by cases hc
      bytesL := cut_all _ _ _ _ (fun y hy => by have := hb.bytesL y hy; exact ⟨by omega, this.2⟩)
      dirN := fun e he => fold_names _ _ hb.keptN (fun c hc => hb.pendN c (List.mem_of_mem_take hc)) e he
      keptN := fun e he => fold_names _ _ hb.keptN (fun c hc => hb.pendN c (List.mem_of_mem_take hc)) e he
      pendN := fun c hc => by cases hc }
  · have hkp := hp.kp
    have hDl : D.length ≤ x.count := by
      rw [hDe]
      have := fold_len (x.pend.take (nextK cs (s.pend.length : Nat)).toNat) x.kept
      rw [List.length_take] at this
      omega
    exact ⟨by show (x.crashDir cs).length + 0 ≤ x.count; rw [← hD]; omega, by show (x.crashDir cs).length ≤ x.count; rw [← hD]; omega⟩
end Go.Proofs.Ytfeglchngekedaa
