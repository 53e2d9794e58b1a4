/- What an operation leaves of both disks: they are alike again, and the bounds have grown by one. What a crash leaves of both disks: they are alike again. The program's disk alone, told plainly. Printed by gen_pl.py. The names of a log's entries. The bytes of a log's entries. -/
import Derived.Test.YtfchnpdgnhoffaaGreatDoorJ07Lend
import Derived.Test.YtfchnpdgnhoffaaGreatDoorJ06Turn
import Derived.Test.YtfchnpdgnhoffaaGreatDoorJ04Lay2
import Derived.Test.YtfchnpdgnhoffaaGreatDoorJ02Right
import Derived.Lib.ItoaNum
import Derived.Lib.Atoi
namespace Go.Proofs.YtfchnpdgnhoffaaGreatDoor
open Go.RowKit Go.Shelf Go.Maps
/-! ### what a crash leaves -/
abbrev Fl := List (List UInt8 × Nat)
def cutN (files : Fl) (f : Nat) (cs : List Int) : Nat := match files[f]? with
  | some y => y.2 + (nextK cs ((y.1.length - y.2 : Nat) : Int)).toNat
  | none => 0
def cutF (files : Fl) (f : Nat) (cs : List Int) : Fl := files.modify f fun y => (y.1.take (cutN files f cs), cutN files f cs)
def cutStep (dir : Dl) (st : Fl × List Int) (nm : Nm) : Fl × List Int := (cutF st.1 ((dget dir nm).getD 0) st.2, st.2.tail)
def PS.crashDir (x : PS) (cs : List Int) : Dl := (x.pend.take (nextK cs (x.pend.length : Nat)).toNat).foldl rdo x.kept
def PS.crash (x : PS) (cs : List Int) : PS :=
  { x with files := (((x.crashDir cs).map (·.1)).mergeSort (fun a b => decide (a ≤ b)) |>.foldl (cutStep (x.crashDir cs)) (x.files, cs.tail)).1, dir := x.crashDir cs, kept := x.crashDir cs, pend := [], flts := [], stop := -1 }
theorem cutN_bd {files : Fl} {f : Nat} (cs : List Int) {y : List UInt8 × Nat} (h : files[f]? = some y) (hy : y.2 ≤ y.1.length) : y.2 ≤ cutN files f cs ∧ cutN files f cs ≤ y.1.length := by
  unfold cutN
  rw [h]
  have := nextK_bd cs ((y.1.length - y.2 : Nat) : Int) (by omega)
  show y.2 ≤ y.2 + _ ∧ y.2 + _ ≤ _
  omega
theorem rdo_len (m : Dl) (c : RC) : (rdo m c).length ≤ m.length + 1 := by
  unfold rdo rset
  have h1 := len_ddel m c.nm
  have h2 := len_ddel m c.old
  have h3 := len_ddel (ddel m c.old) c.nm
  split
  · simp; omega
  · split
    · simp; omega
    · omega
theorem fold_len : ∀ (l : List RC) (m : Dl), (l.foldl rdo m).length ≤ m.length + l.length
  | [], _ => Nat.le_refl _
  | c :: l, m => by
    have h1 := fold_len l (rdo m c)
    have h2 := rdo_len m c
    simp only [List.foldl_cons, List.length_cons]
    omega
theorem fold_names : ∀ (l : List RC) (m : Dl), (∀ e ∈ m, e.1.length ≤ 64) → (∀ c ∈ l, c.old.length ≤ 64 ∧ c.nm.length ≤ 64) → ∀ e ∈ l.foldl rdo m, e.1.length ≤ 64
  | [], _, h, _ => h
  | c :: l, m, h, hc => by
    refine fold_names l (rdo m c) (fun e he => ?_) (fun d hd => hc d (List.mem_cons_of_mem _ hd))
    have hn := (hc c List.mem_cons_self).2
    unfold rdo rset at he
    split at he
    · rcases List.mem_append.1 he with he | he
      · exact h e ((mem_ddel _ _ _).1 he).1
      · rw [List.mem_singleton.1 he]; exact hn
    · split at he
      · rcases List.mem_append.1 he with he | he
        · exact h e ((mem_ddel _ _ _).1 ((mem_ddel _ _ _).1 he).1).1
        · rw [List.mem_singleton.1 he]; exact hn
      · exact h e ((mem_ddel _ _ _).1 he).1
theorem fold_take (l : List RC) (m : Dl) (k : Nat) (h : k < l.length) : (l.take (k + 1)).foldl rdo m = rdo ((l.take k).foldl rdo m) l[k] := by
  rw [List.take_succ_eq_append_getElem h, List.foldl_append]
  rfl
theorem reads_new1 (w : World) (t : TypeId) (a : Value) : Reads (w.alloc (.cells #[a] t)) (w.heap.size + 1) 1 (some ⟨w.heap.size, 0, none⟩) 1 [a] := by
  have hb := Blk.new w t #[a]
  refine ⟨rfl, fun _ => ⟨_, rfl, Nat.lt_succ_self _, fun j u hu => ?_⟩⟩
  have e : (⟨w.heap.size, 0, none⟩ : Addr).add j = ⟨w.heap.size, j, none⟩ := by unfold Addr.add; split <;> simp_all
  rw [e, hb.cell j]
  match j with
  | 0 => exact hu
  | j + 1 => cases hu
theorem info3 : (Tryz.prog.info? 3).map (fun i => (i.zero, i.size, i.bytes)) = some (some (.int .i64 0), 1, 8) := by kernel_rfl

/-! ### bounds -/
theorem PB.begun {n : Nat} {x : PS} (h : PB n x) : PB (n + 1) x.begun where
  count := by have := h.count; show x.count + 1 ≤ n + 1; omega
  fltsL := by have := rleft_len x.flts; have := h.fltsL; show (rleft x.flts).length ≤ n + 1; omega
  flts0 := by
    have h0 := h.flts0
    have : ∀ l : List (Int × Int), (∀ f ∈ l, 0 ≤ f.1 ∧ f.1 ≤ 9223372036854775807) → ∀ f ∈ rleft l, 0 ≤ f.1 ∧ f.1 ≤ 9223372036854775807 := by
      intro l
      induction l with
      | nil => intro _ f hf; cases hf
      | cons a l ih =>
        intro hl f hf
        have hf : f ∈ (if 0 < a.1 then (a.1 - 1, a.2) :: rleft l else rleft l) := hf
        have ha := hl a List.mem_cons_self
        split at hf
        · rcases List.mem_cons.1 hf with rfl | hf
          · show 0 ≤ a.1 - 1 ∧ a.1 - 1 ≤ _; omega
          · exact ih (fun g hg => hl g (List.mem_cons_of_mem _ hg)) f hf
        · exact ih (fun g hg => hl g (List.mem_cons_of_mem _ hg)) f hf
    exact this x.flts h0
  stopB := by
    have := h.stopB
    show -1 ≤ (if 0 < x.stop then x.stop - 1 else x.stop) ∧ (if 0 < x.stop then x.stop - 1 else x.stop) ≤ _
    split <;> omega
  filesL := Nat.le_succ_of_le h.filesL
  dirL := Nat.le_succ_of_le h.dirL
  keptL := Nat.le_succ_of_le h.keptL
  pendL := Nat.le_succ_of_le h.pendL
  dirF := h.dirF
  keptF := h.keptF
  pendF := h.pendF
  bytesL := fun f hf => by have := h.bytesL f hf; omega
  dirN := h.dirN
  keptN := h.keptN
  pendN := h.pendN
/-- one more file, entry and change than n -/
theorem PB.created {n : Nat} {x : PS} (h : PB n x) (nm : Nm) (hn : nm.length ≤ 64) : PB (n + 1) (x.begun.created nm) := by
  have hb := h.begun
  exact {
    count := hb.count
    fltsL := hb.fltsL
    flts0 := hb.flts0
    stopB := hb.stopB
    filesL := by have := h.filesL; show (x.files ++ [([], 0)]).length ≤ n + 1; simp; omega
    dirL := by have := h.dirL; have := len_ddel x.dir nm; show (ddel x.dir nm ++ [(nm, x.files.length)]).length ≤ n + 1; simp; omega
    keptL := hb.keptL
    pendL := by have := h.pendL; show (x.pend ++ [_]).length ≤ n + 1; simp; omega
    dirF := fun e he => by
      show e.2 < (x.files ++ [([], 0)]).length
      rw [List.length_append]
      rcases List.mem_append.1 (show e ∈ ddel x.dir nm ++ [(nm, x.files.length)] from he) with he | he
      · have := h.dirF e ((mem_ddel _ _ _).1 he).1; simp; omega
      · rw [List.mem_singleton.1 he]; simp
    keptF := fun e he => by
      show e.2 < (x.files ++ [([], 0)]).length
      rw [List.length_append]
      have := h.keptF e he; simp; omega
    pendF := fun c hc => by
      show c.kind = 3 ∨ c.file < (x.files ++ [([], 0)]).length
      rw [List.length_append]
      rcases List.mem_append.1 (show c ∈ x.pend ++ [⟨1, [], nm, x.files.length⟩] from hc) with hc | hc
      · rcases h.pendF c hc with h1 | h1
        · exact .inl h1
        · exact .inr (by simp; omega)
      · rw [List.mem_singleton.1 hc]; exact .inr (by simp)
    bytesL := fun f hf => by
      rcases List.mem_append.1 (show f ∈ x.files ++ [([], 0)] from hf) with hf | hf
      · exact hb.bytesL f hf
      · rw [List.mem_singleton.1 hf]; simp
    dirN := fun e he => by
      rcases List.mem_append.1 (show e ∈ ddel x.dir nm ++ [(nm, x.files.length)] from he) with he | he
      · exact h.dirN e ((mem_ddel _ _ _).1 he).1
      · rw [List.mem_singleton.1 he]; exact hn
    keptN := h.keptN
    pendN := fun c hc => by
      rcases List.mem_append.1 (show c ∈ x.pend ++ [⟨1, [], nm, x.files.length⟩] from hc) with hc | hc
      · exact h.pendN c hc
      · rw [List.mem_singleton.1 hc]; exact ⟨Nat.zero_le _, hn⟩ }
/-- a change that makes no file -/
theorem PB.changed {n : Nat} {x : PS} (h : PB n x) (d : RC) (hd : d.kind = 3 ∨ d.file < x.files.length) (hr : d.kind = 2 → d.file < x.files.length) (hk : d.kind ≠ 1) (hn : d.old.length ≤ 64 ∧ d.nm.length ≤ 64) : PB (n + 1) { x.begun with dir := rdo x.dir d, pend := x.pend ++ [d] } := by
  have hb := h.begun
  have hmem : ∀ e ∈ rdo x.dir d, e ∈ x.dir ∨ (d.kind = 2 ∧ e = (d.nm, d.file)) := by
    intro e he
    unfold rdo rset at he
    rw [if_neg hk] at he
    split at he
    · rename_i h2
      rcases List.mem_append.1 he with he | he
      · exact .inl ((mem_ddel _ _ _).1 ((mem_ddel _ _ _).1 he).1).1
      · exact .inr ⟨h2, List.mem_singleton.1 he⟩
    · exact .inl ((mem_ddel _ _ _).1 he).1
  exact {
    count := hb.count
    fltsL := hb.fltsL
    flts0 := hb.flts0
    stopB := hb.stopB
    filesL := hb.filesL
    dirL := by have := h.dirL; have := rdo_len x.dir d; show (rdo x.dir d).length ≤ n + 1; omega
    keptL := hb.keptL
    pendL := by have := h.pendL; show (x.pend ++ [d]).length ≤ n + 1; simp; omega
    dirF := fun e he => by
      rcases hmem e he with he | ⟨h2, rfl⟩
      · exact h.dirF e he
      · exact hr h2
    keptF := h.keptF
    pendF := fun c hc => by
      rcases List.mem_append.1 (show c ∈ x.pend ++ [d] from hc) with hc | hc
      · exact h.pendF c hc
      · rw [List.mem_singleton.1 hc]; exact hd
    bytesL := hb.bytesL
    dirN := fun e he => by
      rcases hmem e he with he | ⟨h2, rfl⟩
      · exact h.dirN e he
      · exact hn.2
    keptN := h.keptN
    pendN := fun c hc => by
      rcases List.mem_append.1 (show c ∈ x.pend ++ [d] from hc) with hc | hc
      · exact h.pendN c hc
      · rw [List.mem_singleton.1 hc]; exact hn }
theorem mem_modify {α : Type} {l : List α} {f : Nat} {g : α → α} {y : α} (h : y ∈ l.modify f g) : y ∈ l ∨ ∃ z ∈ l, y = g z := by
  obtain ⟨k, hk⟩ := List.mem_iff_getElem?.1 h
  rw [List.getElem?_modify] at hk
  cases hl : l[k]? with
  | none => rw [hl] at hk; cases hk
  | some z =>
    rw [hl] at hk
    have hz := List.mem_of_getElem? hl
    by_cases e : f = k
    · simp [e] at hk; exact .inr ⟨z, hz, hk.symm⟩
    · simp [e] at hk; exact .inl (by rw [← hk]; exact hz)
/-- bytes put at a file's end, or made durable -/
theorem PB.modified {n : Nat} {x : PS} (h : PB n x) (f : Nat) (g : List UInt8 × Nat → List UInt8 × Nat) (hg : ∀ y, y.1.length ≤ 100000 * n → y.2 ≤ y.1.length → (g y).1.length ≤ 100000 * (n + 1) ∧ (g y).2 ≤ (g y).1.length) : PB (n + 1) { x.begun with files := x.files.modify f g } := by
  have hb := h.begun
  have hl : (x.files.modify f g).length = x.files.length := List.length_modify ..
  exact {
    count := hb.count
    fltsL := hb.fltsL
    flts0 := hb.flts0
    stopB := hb.stopB
    filesL := by show (x.files.modify f g).length ≤ _; rw [hl]; exact hb.filesL
    dirL := hb.dirL
    keptL := hb.keptL
    pendL := hb.pendL
    dirF := fun e he => by show _ < (x.files.modify f g).length; rw [hl]; exact h.dirF e he
    keptF := fun e he => by show _ < (x.files.modify f g).length; rw [hl]; exact h.keptF e he
    pendF := fun c hc => by show _ ∨ _ < (x.files.modify f g).length; rw [hl]; exact h.pendF c hc
    bytesL := fun y hy => by
      rcases mem_modify hy with hy | ⟨z, hz, rfl⟩
      · exact hb.bytesL y hy
      · exact hg z (h.bytesL z hz).1 (h.bytesL z hz).2
    dirN := h.dirN
    keptN := h.keptN
    pendN := h.pendN }
theorem PB.syncedDir {n : Nat} {x : PS} (h : PB n x) : PB (n + 1) { x.begun with kept := x.dir, pend := [] } := by
  have hb := h.begun
  exact { hb with
    keptL := hb.dirL
    pendL := Nat.zero_le _
    keptF := h.dirF
    pendF := fun c hc => by cases hc
    keptN := h.dirN
    pendN := fun c hc => by cases hc }
theorem PB.mono {n m : Nat} {x : PS} (h : PB n x) (hm : n ≤ m) : PB m x :=
  { h with
    count := Nat.le_trans h.count hm
    fltsL := Nat.le_trans h.fltsL hm
    filesL := Nat.le_trans h.filesL hm
    dirL := Nat.le_trans h.dirL hm
    keptL := Nat.le_trans h.keptL hm
    pendL := Nat.le_trans h.pendL hm
    bytesL := fun f hf => by have := h.bytesL f hf; omega }

/-- how many entries and changes there can be -/
structure PC (x : PS) : Prop where
  kp : x.kept.length + x.pend.length ≤ x.count
  dc : x.dir.length ≤ x.count
theorem PC.begun {x : PS} (h : PC x) : PC x.begun := ⟨by have := h.kp; show _ ≤ x.count + 1; exact Nat.le_succ_of_le this, Nat.le_succ_of_le h.dc⟩
theorem PC.created {x : PS} (h : PC x) (nm : Nm) : PC (x.begun.created nm) where
  kp := by have := h.kp; show x.kept.length + (x.pend ++ [_]).length ≤ x.count + 1; simp; omega
  dc := by have := h.dc; have := len_ddel x.dir nm; show (ddel x.dir nm ++ [_]).length ≤ x.count + 1; simp; omega
theorem PC.changed {x : PS} (h : PC x) (d : RC) : PC { x.begun with dir := rdo x.dir d, pend := x.pend ++ [d] } where
  kp := by have := h.kp; show x.kept.length + (x.pend ++ [d]).length ≤ x.count + 1; simp; omega
  dc := by have := h.dc; have := rdo_len x.dir d; show (rdo x.dir d).length ≤ x.count + 1; omega
theorem PC.syncedDir {x : PS} (h : PC x) : PC { x.begun with kept := x.dir, pend := [] } where
  kp := by have := h.dc; show x.dir.length + 0 ≤ x.count + 1; omega
  dc := h.begun.dc
theorem PC.files {x : PS} (h : PC x) (l : List (List UInt8 × Nat)) : PC { x with files := l } := ⟨h.kp, h.dc⟩

/-! ### the operations, side by side -/
def Alike (s' : DS) (n : Nat) (x' : PS) : Prop := (∃ φ, Rel φ s' x') ∧ PB (n + 1) x' ∧ PC x'

section
variable {φ : Nat → Nat} {s : DS} {x : PS} {n : Nat}
theorem alike_begun (h : Rel φ s x) (hb : PB n x) (hp : PC x) (ho : s.ops ≤ 1000000) (v : Value) : Alike (begun s v) n x.begun := ⟨⟨φ, begun_rel h ho (fun f hf => (hb.flts0 f hf).1) v⟩, hb.begun, hp.begun⟩
theorem begin_two (h : Rel φ s x) (hb : PB n x) (ho : s.ops ≤ 1000000) (ns : List ByteArray) : (beginS s ns).2 = (if x.beginC.1 = 0 then (if ns.all rightB then 0 else 2) else x.beginC.1) := (begin_same h ho (fun f hf => (hb.flts0 f hf).1) ns).1
theorem right_len {nm : ByteArray} (h : rightB nm = true) : nm.data.toList.length ≤ 64 := by rw [Array.length_toList]; exact rightB_size h

theorem create_sim {W : Nat} (h : Rel φ s x) (hb : PB n x) (hp : PC x) (ho : s.ops ≤ 1000000) (nm : ByteArray) (v : Value) (s' : DS) (hw : ∀ g, live s g → g < W)
    (hs : (createC s nm ≠ 0 ∧ s' = begun s v) ∨ (createC s nm = 0 ∧ rightB nm = true ∧ dget s.names nm.data.toList = none ∧ ∃ g v2, W ≤ g ∧ s' = created (begun s v) nm.data.toList g v2)) :
    createC s nm = (x.create nm).1 ∧ Alike s' n (x.create nm).2 := by
  have h2 := begin_two h hb ho [nm]
  have hi := h.isSome nm.data.toList
  have hrel := begun_rel h ho (fun f hf => (hb.flts0 f hf).1) v
  have hcode : createC s nm = (x.create nm).1 ∧ (createC s nm ≠ 0 → (x.create nm).2 = x.begun) ∧ (createC s nm = 0 → dget s.names nm.data.toList = none → (x.create nm).2 = x.begun.created nm.data.toList) := by
    unfold createC PS.create
    rw [h2, hi]
    by_cases h0 : x.beginC.1 = 0
    · rw [if_pos h0, if_pos h0]
      cases hr : rightB nm with
      | false => simp [hr]
      | true =>
        cases hd : dget x.dir nm.data.toList with
        | none => simp [hr]
        | some f => simp [hr]
    · rw [if_neg h0, if_neg h0, if_neg h0]
      exact ⟨rfl, fun _ => rfl, fun h1 => absurd h1 h0⟩
  refine ⟨hcode.1, ?_⟩
  rcases hs with ⟨h3, rfl⟩ | ⟨h3, hr, hd, g, v2, hg, rfl⟩
  · rw [hcode.2.1 h3]; exact alike_begun h hb hp ho v
  · rw [hcode.2.2 h3 hd]
    exact ⟨⟨_, created_rel hrel nm.data.toList (rightB_ne hr) g v2 (fun f hf => by have := hw _ (h.live (show rlive x f from hf)); omega)⟩, hb.created _ (right_len hr), hp.created _⟩
theorem sync_sim (h : Rel φ s x) (hb : PB n x) (hp : PC x) (ho : s.ops ≤ 1000000) (nm : ByteArray) (v : Value) (s' : DS)
    (hs : (syncC s nm ≠ 0 ∧ s' = begun s v) ∨ (syncC s nm = 0 ∧ ∃ g, dget s.names nm.data.toList = some g ∧ s' = synced (begun s v) g)) :
    syncC s nm = (x.sync nm).1 ∧ Alike s' n (x.sync nm).2 := by
  have h2 := begin_two h hb ho [nm]
  have hi := h.isSome nm.data.toList
  have hrel := begun_rel h ho (fun f hf => (hb.flts0 f hf).1) v
  have hcode : syncC s nm = (x.sync nm).1 ∧ (syncC s nm ≠ 0 → (x.sync nm).2 = x.begun) ∧ (syncC s nm = 0 → ∀ f, dget x.dir nm.data.toList = some f → (x.sync nm).2 = x.begun.synced f) := by
    unfold syncC PS.sync
    rw [h2, hi]
    by_cases h0 : x.beginC.1 = 0
    · rw [if_pos h0, if_pos h0]
      cases hr : rightB nm with
      | false => simp [hr]
      | true =>
        cases hd : dget x.dir nm.data.toList with
        | none => simp [hr]
        | some f => simp [hr]
    · rw [if_neg h0, if_neg h0, if_neg h0]
      exact ⟨rfl, fun _ => rfl, fun h1 => absurd h1 h0⟩
  refine ⟨hcode.1, ?_⟩
  rcases hs with ⟨h3, rfl⟩ | ⟨h3, g, hd, rfl⟩
  · rw [hcode.2.1 h3]; exact alike_begun h hb hp ho v
  · rw [h.names] at hd
    obtain ⟨f, hf, rfl⟩ := Option.map_eq_some_iff.1 hd
    rw [hcode.2.2 h3 f hf]
    exact ⟨⟨φ, synced_rel hrel f (h.liveDir (dget_mem hf))⟩, hb.modified f _ (fun y h1 h2 => ⟨by show y.1.length ≤ _; omega, Nat.le_refl _⟩), hp.begun.files _⟩
theorem remove_sim (h : Rel φ s x) (hb : PB n x) (hp : PC x) (ho : s.ops ≤ 1000000) (nm : ByteArray) (v : Value) (s' : DS)
    (hs : (removeC s nm ≠ 0 ∧ s' = begun s v) ∨ (removeC s nm = 0 ∧ rightB nm = true ∧ (dget s.names nm.data.toList).isSome = true ∧ ∃ v2, s' = changed (begun s v) ⟨nm.data.toList, [], none⟩ v2)) :
    removeC s nm = (x.remove nm).1 ∧ Alike s' n (x.remove nm).2 := by
  have h2 := begin_two h hb ho [nm]
  have hi := h.isSome nm.data.toList
  have hrel := begun_rel h ho (fun f hf => (hb.flts0 f hf).1) v
  have hcode : removeC s nm = (x.remove nm).1 ∧ (removeC s nm ≠ 0 → (x.remove nm).2 = x.begun) ∧ (removeC s nm = 0 → (x.remove nm).2 = x.begun.removed nm.data.toList) := by
    unfold removeC PS.remove
    rw [h2, hi]
    by_cases h0 : x.beginC.1 = 0
    · rw [if_pos h0, if_pos h0]
      cases hr : rightB nm with
      | false => simp [hr]
      | true =>
        cases hd : dget x.dir nm.data.toList with
        | none => simp [hr]
        | some f => simp [hr]
    · rw [if_neg h0, if_neg h0, if_neg h0]
      exact ⟨rfl, fun _ => rfl, fun h1 => absurd h1 h0⟩
  refine ⟨hcode.1, ?_⟩
  rcases hs with ⟨h3, rfl⟩ | ⟨h3, hr, -, v2, rfl⟩
  · rw [hcode.2.1 h3]; exact alike_begun h hb hp ho v
  · rw [hcode.2.2 h3]
    exact ⟨⟨φ, changed_rel hrel ⟨nm.data.toList, [], none⟩ ⟨3, [], nm.data.toList, 0⟩ v2 (show (3 : Int) ≠ 1 by decide) (.remove _)⟩, hb.changed ⟨3, [], nm.data.toList, 0⟩ (.inl rfl) (fun e => by cases e) (show (3 : Int) ≠ 1 by decide) ⟨Nat.zero_le _, right_len hr⟩, hp.changed ⟨3, [], nm.data.toList, 0⟩⟩
theorem nm_eq {a b : ByteArray} : a.data.toList = b.data.toList ↔ a = b := by
  constructor
  · intro h
    apply ByteArray.ext
    exact Array.toList_inj.1 h
  · rintro rfl; rfl
theorem rename_sim (h : Rel φ s x) (hb : PB n x) (hp : PC x) (ho : s.ops ≤ 1000000) (od nm : ByteArray) (v : Value) (s' : DS)
    (hs : (renameC s od nm ≠ 0 ∧ s' = begun s v) ∨ (renameC s od nm = 0 ∧ rightB od = true ∧ rightB nm = true ∧ (dget s.names od.data.toList).isSome = true ∧
      ((od = nm ∧ s' = begun s v) ∨ (od ≠ nm ∧ ∃ v2, s' = changed (begun s v) ⟨od.data.toList, nm.data.toList, none⟩ v2)))) :
    renameC s od nm = (x.rename od nm).1 ∧ Alike s' n (x.rename od nm).2 := by
  have h2 := begin_two h hb ho [od, nm]
  have hi := h.isSome od.data.toList
  have hrel := begun_rel h ho (fun f hf => (hb.flts0 f hf).1) v
  have hcode : renameC s od nm = (x.rename od nm).1 ∧ (renameC s od nm ≠ 0 → (x.rename od nm).2 = x.begun) ∧ (renameC s od nm = 0 → ∀ f, dget x.dir od.data.toList = some f → (x.rename od nm).2 = if od.data.toList = nm.data.toList then x.begun else x.begun.renamed od.data.toList nm.data.toList f) := by
    unfold renameC PS.rename
    rw [h2, hi]
    by_cases h0 : x.beginC.1 = 0
    · rw [if_pos h0, if_pos h0]
      cases hr : rightB od with
      | false => simp [hr]
      | true =>
        cases hr2 : rightB nm with
        | false => simp [hr, hr2]
        | true =>
          cases hd : dget x.dir od.data.toList with
          | none => simp [hr, hr2]
          | some f =>
            by_cases he : od.data.toList = nm.data.toList
            · simp only [he]; simp [hr, hr2]
            · simp [hr, hr2, he]
    · rw [if_neg h0, if_neg h0, if_neg h0]
      exact ⟨rfl, fun _ => rfl, fun h1 => absurd h1 h0⟩
  refine ⟨hcode.1, ?_⟩
  rcases hs with ⟨h3, rfl⟩ | ⟨h3, hr, hr2, hd, hs⟩
  · rw [hcode.2.1 h3]; exact alike_begun h hb hp ho v
  · rw [hi] at hd
    obtain ⟨f, hf⟩ := Option.isSome_iff_exists.1 hd
    rw [hcode.2.2 h3 f hf]
    rcases hs with ⟨he, rfl⟩ | ⟨he, v2, rfl⟩
    · rw [if_pos (nm_eq.2 he)]; exact alike_begun h hb hp ho v
    · rw [if_neg (fun e => he (nm_eq.1 e))]
      have hfl : f < x.files.length := h.flt (h.liveDir (dget_mem hf))
      exact ⟨⟨φ, changed_rel hrel ⟨od.data.toList, nm.data.toList, none⟩ ⟨2, od.data.toList, nm.data.toList, f⟩ v2 (show (2 : Int) ≠ 1 by decide) (.rename _ _ _ (rightB_ne hr2) (fun e => he (nm_eq.1 e)) hf)⟩,
        hb.changed ⟨2, od.data.toList, nm.data.toList, f⟩ (.inr hfl) (fun _ => hfl) (show (2 : Int) ≠ 1 by decide) ⟨right_len hr, right_len hr2⟩, hp.changed ⟨2, od.data.toList, nm.data.toList, f⟩⟩
theorem syncdir_sim (h : Rel φ s x) (hb : PB n x) (hp : PC x) (ho : s.ops ≤ 1000000) (v : Value) (s' : DS)
    (hs : ((beginS s []).2 ≠ 0 ∧ s' = begun s v) ∨ ((beginS s []).2 = 0 ∧ ∃ m, s' = syncedDir (begun s v) m)) :
    (beginS s []).2 = x.syncDir.1 ∧ Alike s' n x.syncDir.2 := by
  have h2 := begin_two h hb ho []
  have hrel := begun_rel h ho (fun f hf => (hb.flts0 f hf).1) v
  have h2' : (beginS s []).2 = x.beginC.1 := by
    rw [h2]
    split
    · rename_i h0; rw [h0]; rfl
    · rfl
  rw [h2'] at hs ⊢
  unfold PS.syncDir
  rcases hs with ⟨h3, rfl⟩ | ⟨h3, m, rfl⟩
  · rw [if_neg h3]; exact ⟨rfl, alike_begun h hb hp ho v⟩
  · rw [if_pos h3]
    exact ⟨h3, ⟨φ, syncedDir_rel hrel m⟩, hb.syncedDir, hp.syncedDir⟩
theorem append_sim (h : Rel φ s x) (hb : PB n x) (hp : PC x) (ho : s.ops ≤ 1000000) (ht : s.names.Pairwise fun a b => a.1 ≠ b.1) (nm : ByteArray) (b : List UInt8) (hbl : b.length ≤ 100000) (v : Value) (s' : DS)
    (hs : (takes s nm b.length = none ∧ s' = begun s v) ∨ (∃ m g v2, takes s nm b.length = some m ∧ dget s.names nm.data.toList = some g ∧ s' = appended (begun s v) g v2 (b.take m))) :
    appendC s nm b.length = (x.append nm b).1 ∧ Alike s' n (x.append nm b).2 := by
  have h2 := begin_two h hb ho [nm]
  have h6 := (begin_same h ho (fun f hf => (hb.flts0 f hf).1) [nm]).2
  have hi := h.isSome nm.data.toList
  have hrel := begun_rel h ho (fun f hf => (hb.flts0 f hf).1) v
  have hfit : rightB nm = true → fitsS s nm b.length = x.fits nm b.length := by
    intro hr
    unfold fitsS PS.fits
    rw [hi, used_same h ht, h.cap, if_pos hr]
    cases hd : dget x.dir nm.data.toList with
    | none => rfl
    | some f =>
      show (if 0 < b.length ∧ x.cap - (x.used : Int) < (b.length : Int) then (5 : Int) else 0) = if b.length = 0 ∨ (b.length : Int) ≤ x.cap - (x.used : Int) then 0 else 5
      by_cases h1 : b.length = 0 ∨ (b.length : Int) ≤ x.cap - (x.used : Int)
      · rw [if_pos h1, if_neg (by omega)]
      · rw [if_neg h1, if_pos (by omega)]
  have hno : rightB nm = false → x.fits nm b.length = 2 := by intro hr; unfold PS.fits; rw [hr]; rfl
  have hadd : ∀ (m g : Nat) (v2 : Value), dget s.names nm.data.toList = some g → m ≤ b.length → Alike (appended (begun s v) g v2 (b.take m)) n (x.begun.addTo nm.data.toList (b.take m)) := by
    intro m g v2 hd hm
    rw [h.names] at hd
    obtain ⟨f, hf, rfl⟩ := Option.map_eq_some_iff.1 hd
    have e : x.begun.addTo nm.data.toList (b.take m) = x.begun.add f (b.take m) := by
      unfold PS.addTo
      rw [show x.begun.dir = x.dir from rfl, hf]
    rw [e]
    refine ⟨⟨φ, added_rel hrel f (h.liveDir (dget_mem hf)) v2 (b.take m)⟩, hb.modified f _ (fun y h1 h2 => ?_), hp.begun.files _⟩
    have : (b.take m).length ≤ 100000 := Nat.le_trans (List.length_take_le _ _) (by omega)
    simp only [List.length_append]
    omega
  have htk : takes s nm b.length = (if x.beginC.1 = 0 then (if x.fits nm b.length = 0 then some b.length else none) else if x.beginC.2 = 2 ∧ x.fits nm b.length = 0 then some (b.length / 2) else none) := by
    unfold takes tornS
    rcases beginC_cases x with hk | hk | hk | hk
    all_goals
      rw [hk] at h2 h6 ⊢
      cases hr : rightB nm with
      | false =>
        have hn2 := hno hr
        simp [hr] at h2
        simp [h2, hn2]
      | true =>
        have hf := hfit hr
        simp [hr] at h2
        simp [h2, hf]
        try simp [h2] at h6
        try simp [h6]
  have hcode : appendC s nm b.length = (x.append nm b).1 := by
    unfold appendC PS.append
    rw [h2]
    by_cases h0 : x.beginC.1 = 0
    · rw [if_pos h0, if_pos h0]
      cases hr : rightB nm with
      | false => simp [hr, hno hr]
      | true => simp [hr, hfit hr]
    · rw [if_neg h0, if_neg h0, if_neg h0]
  refine ⟨hcode, ?_⟩
  unfold PS.append
  rw [htk] at hs
  by_cases h0 : x.beginC.1 = 0
  · rw [if_pos h0] at hs ⊢
    by_cases hf : x.fits nm b.length = 0
    · rw [if_pos hf] at hs
      rcases hs with ⟨h3, -⟩ | ⟨m, g, v2, hm, hd, rfl⟩
      · cases h3
      · injection hm with hm
        subst hm
        simp only [hf, if_true]
        have := hadd b.length g v2 hd (Nat.le_refl _)
        rwa [List.take_length] at this ⊢
    · rw [if_neg hf] at hs
      rcases hs with ⟨-, rfl⟩ | ⟨m, g, v2, hm, -⟩
      · simp only [hf, if_false]; exact alike_begun h hb hp ho v
      · cases hm
  · rw [if_neg h0] at hs ⊢
    by_cases hf : x.beginC.2 = 2 ∧ x.fits nm b.length = 0
    · rw [if_pos hf] at hs
      rcases hs with ⟨h3, -⟩ | ⟨m, g, v2, hm, hd, rfl⟩
      · cases h3
      · injection hm with hm
        subst hm
        simp only [hf, and_self, if_true]
        exact hadd (b.length / 2) g v2 hd (by omega)
    · rw [if_neg hf] at hs
      rcases hs with ⟨-, rfl⟩ | ⟨m, g, v2, hm, -⟩
      · show Alike (begun s v) n (if x.beginC.2 = 2 ∧ x.fits nm b.length = 0 then _ else x.begun)
        rw [if_neg hf]; exact alike_begun h hb hp ho v
      · cases hm
end
end Go.Proofs.YtfchnpdgnhoffaaGreatDoor
namespace Go.Proofs.YtfchnpdgnhoffaaGreatDoor
open Go.RowKit Go.Shelf Go.Maps

theorem dir_perm {φ : Nat → Nat} {l m : Dl} (h : DirRel φ l m) (hr : RDir m) (ht : l.Pairwise fun a b => a.1 ≠ b.1) : (m.map fun e => (e.1, φ e.2)).Perm l := by
  have n1 : l.Nodup := ht.imp fun hne e => hne (by rw [e])
  have n2 : (m.map fun e => (e.1, φ e.2)).Nodup := by
    unfold List.Nodup
    rw [List.pairwise_map]
    exact hr.names.imp fun hne e => hne (by injection e)
  refine (List.perm_ext_iff_of_nodup n2 n1).2 fun y => ?_
  obtain ⟨t, g⟩ := y
  constructor
  · intro hm
    obtain ⟨e, he, e2⟩ := List.mem_map.1 hm
    injection e2 with e3 e4
    have : dget l t = some g := by
      rw [h t, ← e3, dget_of_mem hr.names (show (e.1, e.2) ∈ m from he), ← e4]; rfl
    exact dget_mem this
  · intro hm
    have h1 := dget_of_mem ht hm
    rw [h t] at h1
    obtain ⟨f, hf, e⟩ := Option.map_eq_some_iff.1 h1
    exact List.mem_map.2 ⟨(t, f), dget_mem hf, by rw [e]⟩
theorem dir_keys {φ : Nat → Nat} {l m : Dl} (h : DirRel φ l m) (hr : RDir m) (ht : l.Pairwise fun a b => a.1 ≠ b.1) : (m.map (·.1)).Perm (l.map (·.1)) := by
  have := (dir_perm h hr ht).map (·.1)
  rwa [List.map_map] at this

theorem cut_other (D : Dl) (f : Nat) : ∀ (r : List Nm) (st : Fl × List Int), (∀ nm ∈ r, (dget D nm).getD 0 ≠ f) → (r.foldl (cutStep D) st).1[f]? = st.1[f]?
  | [], _, _ => rfl
  | nm :: r, st, h => by
    rw [List.foldl_cons, cut_other D f r _ (fun n hn => h n (List.mem_cons_of_mem _ hn))]
    show (cutF st.1 ((dget D nm).getD 0) st.2)[f]? = _
    unfold cutF
    exact get_modify_other _ _ (h nm List.mem_cons_self)
theorem cut_len (D : Dl) : ∀ (r : List Nm) (st : Fl × List Int), (r.foldl (cutStep D) st).1.length = st.1.length
  | [], _ => rfl
  | nm :: r, st => by
    rw [List.foldl_cons, cut_len D r]
    show (cutF st.1 _ st.2).length = _
    unfold cutF
    exact List.length_modify ..
theorem cut_all (D : Dl) (B : Nat) : ∀ (r : List Nm) (st : Fl × List Int), (∀ y ∈ st.1, y.1.length ≤ B ∧ y.2 ≤ y.1.length) → ∀ y ∈ (r.foldl (cutStep D) st).1, y.1.length ≤ B ∧ y.2 ≤ y.1.length
  | [], _, h => h
  | nm :: r, st, h => by
    rw [List.foldl_cons]
    refine cut_all D B r _ fun y hy => ?_
    obtain ⟨k, hk⟩ := List.mem_iff_getElem?.1 hy
    have hk : (st.1.modify ((dget D nm).getD 0) fun y => (y.1.take (cutN st.1 ((dget D nm).getD 0) st.2), cutN st.1 ((dget D nm).getD 0) st.2))[k]? = some y := hk
    rw [List.getElem?_modify] at hk
    cases hl : st.1[k]? with
    | none => rw [hl] at hk; cases hk
    | some z =>
      rw [hl] at hk
      have hz := h z (List.mem_of_getElem? hl)
      by_cases e : (dget D nm).getD 0 = k
      · rw [e] at hk
        have hbd := cutN_bd st.2 hl hz.2
        simp at hk
        rw [← hk]
        refine ⟨Nat.le_trans (List.length_take_le' _ _) hz.1, ?_⟩
        show _ ≤ (z.1.take _).length
        rw [List.length_take]
        omega
      · simp [e] at hk
        rw [← hk]; exact hz
/-- each file that is cut is cut as the program cuts it -/
theorem cut_same {φ : Nat → Nat} {bytes : Nat → List UInt8} {kept : Nat → Nat} {dir D : Dl} (hD : RDir D) : ∀ (keys : List Nm) (cs : List Int) (files : Fl) (lst : List NewF), keys.Pairwise (· ≠ ·) →
    (∀ nm ∈ keys, ∃ f, dget D nm = some f ∧ files[f]? = some (bytes (φ f), kept (φ f)) ∧ dget dir nm = some (φ f)) → (∀ f, kept (φ f) ≤ (bytes (φ f)).length ∨ ∀ nm ∈ keys, dget D nm ≠ some f) → lst.map NewF.tell = crashL bytes kept dir keys cs →
    ∀ e ∈ lst, ∀ f, dget D e.name = some f → (keys.foldl (cutStep D) (files, cs)).1[f]? = some (e.bs, e.n)
  | [], cs, files, lst, _, _, _, hl, e, he, _, _ => by
    have : lst = [] := List.map_eq_nil_iff.1 hl
    rw [this] at he; cases he
  | nm :: r, cs, files, lst, hn, hk, hle, hl, e, he, f, hf => by
    rw [List.pairwise_cons] at hn
    obtain ⟨f0, h1, h2, h3⟩ := hk nm List.mem_cons_self
    cases lst with
    | nil => cases he
    | cons e0 l =>
      have hl0 : e0.tell = (nm, (bytes ((dget dir nm).getD 0)).take (kept ((dget dir nm).getD 0) + (nextK cs (((bytes ((dget dir nm).getD 0)).length - kept ((dget dir nm).getD 0) : Nat) : Int)).toNat), kept ((dget dir nm).getD 0) + (nextK cs (((bytes ((dget dir nm).getD 0)).length - kept ((dget dir nm).getD 0) : Nat) : Int)).toNat) ∧ l.map NewF.tell = crashL bytes kept dir r cs.tail := by
        have hl : e0.tell :: l.map NewF.tell = _ :: crashL bytes kept dir r cs.tail := hl
        injection hl with h4 h5
        exact ⟨h4, h5⟩
      obtain ⟨h4, h5⟩ := hl0
      rw [h3] at h4
      simp only [Option.getD_some] at h4
      have hcn : cutN files f0 cs = kept (φ f0) + (nextK cs (((bytes (φ f0)).length - kept (φ f0) : Nat) : Int)).toNat := by unfold cutN; rw [h2]
      rw [← hcn] at h4
      have h4a : e0.name = nm := congrArg (·.1) h4
      have h4b : e0.bs = (bytes (φ f0)).take (cutN files f0 cs) := congrArg (·.2.1) h4
      have h4c : e0.n = cutN files f0 cs := congrArg (·.2.2) h4
      rw [List.foldl_cons]
      have hst : cutStep D (files, cs) nm = (cutF files f0 cs, cs.tail) := by unfold cutStep; rw [h1]; rfl
      rw [hst]
      have hother : ∀ n2 ∈ r, ∀ f2, dget D n2 = some f2 → f2 ≠ f0 := by
        intro n2 h6 f2 h7 e2
        subst e2
        exact hn.1 n2 h6 (hD.inj h7 h1).symm
      rcases List.mem_cons.1 he with rfl | he
      · rw [h4a, h1] at hf
        injection hf with hf
        subst hf
        rw [cut_other D f0 r _ (fun n2 h6 => ?_)]
        · show (cutF files f0 cs)[f0]? = _
          unfold cutF
          rw [get_modify_same, h2, h4b, h4c]; rfl
        · obtain ⟨f2, h7, -⟩ := hk n2 (List.mem_cons_of_mem _ h6)
          rw [h7]
          exact hother n2 h6 f2 h7
      · refine cut_same (φ := φ) hD r cs.tail _ l hn.2 (fun n2 h6 => ?_) (fun f2 => ?_) h5 e he f hf
        · obtain ⟨f2, h7, h8, h9⟩ := hk n2 (List.mem_cons_of_mem _ h6)
          refine ⟨f2, h7, ?_, h9⟩
          unfold cutF
          rw [get_modify_other _ _ (hother n2 h6 f2 h7).symm]
          exact h8
        · rcases hle f2 with h6 | h6
          · exact .inl h6
          · exact .inr fun n2 h7 => h6 n2 (List.mem_cons_of_mem _ h7)

def newφ (D l : Dl) (f : Nat) : Nat := match D.find? (fun e => e.2 == f) with
  | some e => (dget l e.1).getD 0
  | none => 0
theorem newφ_at {D l : Dl} (hD : RDir D) {e : Nm × Nat} (he : e ∈ D) : newφ D l e.2 = (dget l e.1).getD 0 := by
  unfold newφ
  have : D.find? (fun x => x.2 == e.2) = some e := by
    cases hf : D.find? (fun x => x.2 == e.2) with
    | none => exact absurd (by simp) (List.find?_eq_none.1 hf e he)
    | some y =>
      have h1 := List.find?_some hf
      have h2 := List.mem_of_find?_eq_some hf
      rw [pw_inj (g := fun x : Nm × Nat => x.2) hD.files h2 he (by simpa using h1)]
  rw [this]

theorem crash_sim {φ : Nat → Nat} {s : DS} {x : PS} {n : Nat} (h : Rel φ s x) (hb : PB n x) (hp : PC x) (hkl : ∀ g, live s g → s.kept g ≤ (s.bytes g).length) (cs : List Int) (dir : Dl) (ss keys : List Nm) (lst : List NewF) (mn ms : Nat)
    (hdir : dir = replay s.safe (s.pend.take (nextK cs (s.pend.length : Nat)).toNat)) (hss : ss.Perm (dir.map (·.1))) (hkeys : keys = ss.mergeSort (fun x y => decide (x ≤ y)))
    (hnames : lst.map (·.name) = keys) (htell : lst.map NewF.tell = crashL s.bytes s.kept dir keys cs.tail) (hg : lst.Pairwise fun a b => a.g ≠ b.g) (hnd : keys.Pairwise (· ≠ ·)) (hmem : ∀ x, x ∈ keys ↔ (dget dir x).isSome = true) :
    RDir (x.crashDir cs) ∧ (∀ e ∈ x.crashDir cs, e.2 < x.files.length) ∧ Alike (crashedS s dir lst mn ms) n (x.crash cs) := by
  obtain ⟨D, hD⟩ : ∃ D, D = x.crashDir cs := ⟨_, rfl⟩
  have hlen := h.pend.len
  have hDe : D = (x.pend.take (nextK cs (s.pend.length : Nat)).toNat).foldl rdo x.kept := by rw [hD]; unfold PS.crashDir; rw [hlen]
  obtain ⟨hrel, hrd⟩ := h.pend.take (nextK cs (s.pend.length : Nat)).toNat h.kept h.rdir
  rw [← hdir, ← hDe] at hrel
  rw [← hDe] at hrd
  have hlive : ∀ e ∈ D, rlive x e.2 := fun e he => h.liveTake _ (by rw [← hDe]; exact he)
  have hkperm : keys.Perm (dir.map (·.1)) := by rw [hkeys]; exact (List.mergeSort_perm ..).trans hss
  have htidy : dir.Pairwise fun a b => a.1 ≠ b.1 := by
    have h1 := (hkperm.pairwise_iff (fun {a b} (h : a ≠ b) => h.symm)).1 hnd
    rwa [List.pairwise_map] at h1
  have hkeysD : keys = (D.map (·.1)).mergeSort (fun a b => decide (a ≤ b)) := by
    rw [hkeys]
    exact sort_perm (hss.trans (dir_keys hrel hrd htidy).symm)
  have hnn : (lst.map (·.name)).Pairwise (· ≠ ·) := by rw [hnames]; exact hnd
  have hent : ∀ t f, dget D t = some f → ∃ e ∈ lst, e.name = t ∧ dget (laid dir lst) t = some e.g := by
    intro t f hf
    have h1 : t ∈ keys := (hmem t).2 (by rw [hrel t, hf]; rfl)
    rw [← hnames] at h1
    obtain ⟨e, he, rfl⟩ := List.mem_map.1 h1
    exact ⟨e, he, rfl, dget_laid_hit lst dir e hnn he⟩
  have hφ : ∀ t f, dget D t = some f → ∀ e ∈ lst, e.name = t → newφ D (laid dir lst) f = e.g := by
    intro t f hf e he hne
    have h1 := newφ_at (l := laid dir lst) hrd (dget_mem hf)
    rw [h1]
    show (dget (laid dir lst) t).getD 0 = _
    rw [← hne, dget_laid_hit lst dir e hnn he]; rfl
  have hrl : ∀ f, rlive (x.crash cs) f → ∃ t, dget D t = some f := by
    rintro f (⟨e, he, rfl⟩ | ⟨c, hc, _⟩)
    · have he : e ∈ D := by rw [hD]; exact he
      exact ⟨e.1, dget_of_mem hrd.names he⟩
    · cases hc
  have hDd : ∀ e ∈ D, e.2 < x.files.length := fun e he => h.flt (hlive e he)
  refine ⟨hD ▸ hrd, hD ▸ hDd, ⟨newφ D (laid dir lst), ?_⟩, ?_, ?_⟩
  · exact {
      cap := h.cap
      ops := h.ops
      flts := rfl
      stop := .inl ⟨rfl, rfl⟩
      kept := fun t => by
        show dget (laid dir lst) t = (dget (x.crashDir cs) t).map _
        rw [← hD]
        cases hd : dget D t with
        | some f =>
          obtain ⟨e, he, hne, hl⟩ := hent t f hd
          rw [hl]
          show some e.g = some (newφ D (laid dir lst) f)
          rw [hφ t f hd e he hne]
        | none =>
          have h1 : t ∉ lst.map (·.name) := by
            rw [hnames]
            intro hm
            have := (hmem t).1 hm
            rw [hrel t, hd] at this
            cases this
          rw [dget_laid lst dir t h1, hrel t, hd]
          rfl
      rdir := by show RDir (x.crashDir cs); rw [← hD]; exact hrd
      pend := trivial
      dir := rfl
      file := fun f hf => by
        obtain ⟨t, ht⟩ := hrl f hf
        obtain ⟨e, he, hne, -⟩ := hent t f ht
        have hfi := find_file lst e hg he
        have e1 : newφ D (laid dir lst) f = e.g := hφ t f ht e he hne
        show (x.crash cs).files[f]? = some (((lst.find? (fun e => e.g == newφ D (laid dir lst) f)).map (·.bs)).getD [], ((lst.find? (fun e => e.g == newφ D (laid dir lst) f)).map (·.n)).getD 0)
        rw [e1, hfi]
        show (List.foldl (cutStep (x.crashDir cs)) (x.files, cs.tail) (((x.crashDir cs).map (·.1)).mergeSort (fun a b => decide (a ≤ b)))).1[f]? = some (e.bs, e.n)
        rw [← hD, ← hkeysD]
        refine cut_same (φ := φ) hrd keys cs.tail x.files lst hnd (fun nm hm => ?_) (fun f2 => ?_) htell e he f (by rw [hne]; exact ht)
        · have h1 := (hmem nm).1 hm
          rw [hrel nm] at h1
          cases hd : dget D nm with
          | none => rw [hd] at h1; cases h1
          | some f2 => exact ⟨f2, rfl, h.file f2 (hlive _ (dget_mem hd)), by rw [hrel nm, hd]; rfl⟩
        · by_cases hx : ∃ nm ∈ keys, dget D nm = some f2
          · obtain ⟨nm, -, hd⟩ := hx
            exact .inl (hkl _ (h.live (hlive _ (dget_mem hd))))
          · exact .inr fun nm hm e2 => hx ⟨nm, hm, e2⟩
      inj := fun a b ha hb he => by
        obtain ⟨ta, hta⟩ := hrl a ha
        obtain ⟨tb, htb⟩ := hrl b hb
        obtain ⟨ea, hea, hna, -⟩ := hent ta a hta
        obtain ⟨eb, heb, hnb, -⟩ := hent tb b htb
        rw [hφ ta a hta ea hea hna, hφ tb b htb eb heb hnb] at he
        have := pw_inj (g := fun e : NewF => e.g) hg hea heb he
        rw [← hna, this, hnb, htb] at hta
        injection hta with hta
        exact hta.symm
      rep := rfl }
  · have hc := hb.count
    have hkp := hp.kp
    have hDl : D.length ≤ x.count := by
      rw [hDe]
      have := fold_len (x.pend.take (nextK cs (s.pend.length : Nat)).toNat) x.kept
      rw [List.length_take] at this
      omega
    have hfl : (x.crash cs).files.length = x.files.length := cut_len _ _ _
    exact {
      count := Nat.le_succ_of_le hc
      fltsL := Nat.zero_le _
      flts0 := fun f hf => by cases hf
      stopB := ⟨Int.le_refl _, by show (-1 : Int) ≤ 9223372036854775807; decide⟩
      filesL := by rw [hfl]; exact Nat.le_succ_of_le hb.filesL
      dirL := by show (x.crashDir cs).length ≤ _; rw [← hD]; omega
      keptL := by show (x.crashDir cs).length ≤ _; rw [← hD]; omega
      pendL := Nat.zero_le _
      dirF := fun e he => by rw [hfl]; exact hDd e (hD ▸ he)
      keptF := fun e he => by rw [hfl]; exact hDd e (hD ▸ he)
      pendF := fun c hc => by cases hc
      bytesL := cut_all _ _ _ _ (fun y hy => by have := hb.bytesL y hy; exact ⟨by omega, this.2⟩)
      dirN := fun e he => fold_names _ _ hb.keptN (fun c hc => hb.pendN c (List.mem_of_mem_take hc)) e he
      keptN := fun e he => fold_names _ _ hb.keptN (fun c hc => hb.pendN c (List.mem_of_mem_take hc)) e he
      pendN := fun c hc => by cases hc }
  · have hkp := hp.kp
    have hDl : D.length ≤ x.count := by
      rw [hDe]
      have := fold_len (x.pend.take (nextK cs (s.pend.length : Nat)).toNat) x.kept
      rw [List.length_take] at this
      omega
    exact ⟨by show (x.crashDir cs).length + 0 ≤ x.count; rw [← hD]; omega, by show (x.crashDir cs).length ≤ x.count; rw [← hD]; omega⟩
end Go.Proofs.YtfchnpdgnhoffaaGreatDoor
namespace Go.Proofs.YtfchnpdgnhoffaaGreatDoor
open Go.RowKit Go.Shelf Go.Maps

theorem read_same {φ : Nat → Nat} {s : DS} {x : PS} (h : Rel φ s x) (nm : ByteArray) : readS s nm = x.read nm := by
  unfold readS PS.read
  rw [h.names]
  cases hr : rightB nm with
  | false => rfl
  | true =>
    cases hd : dget x.dir nm.data.toList with
    | none => rfl
    | some f =>
      have := h.file f (h.liveDir (dget_mem hd))
      simp only [Option.map_some, if_true]
      rw [this]
theorem list_same {φ : Nat → Nat} {s : DS} {x : PS} (h : Rel φ s x) (ht : s.names.Pairwise fun a b => a.1 ≠ b.1) (pre : Nm) {ss : List Nm} (hs : ss.Perm (begN pre (s.names.map (·.1)))) : ss.mergeSort (fun x y => decide (x ≤ y)) = x.list pre := by
  unfold PS.list
  exact sort_perm (hs.trans ((keys_perm h.names h.rnow ht).filter _).symm)
theorem durable_same {φ : Nat → Nat} {s : DS} {x : PS} (h : Rel φ s x) (ht : s.safe.Pairwise fun a b => a.1 ≠ b.1) {ss : List Nm} (hs : ss.Perm (s.safe.map (·.1))) : ss.mergeSort (fun x y => decide (x ≤ y)) = x.durable := by
  unfold PS.durable
  exact sort_perm (hs.trans (dir_keys h.kept h.rdir ht).symm)
theorem safe_len {φ : Nat → Nat} {s : DS} {x : PS} (h : Rel φ s x) (hp : PC x) (ht : s.safe.Pairwise fun a b => a.1 ≠ b.1) : s.safe.length + s.pend.length ≤ s.ops := by
  have h1 := (dir_keys h.kept h.rdir ht).length_eq
  rw [List.length_map, List.length_map] at h1
  have h2 := h.pend.len
  have h3 := hp.kp
  have h4 := h.ops
  omega
section
variable {n : Nat} {x : PS}
theorem PB.fault (h : PB n x) (a b : Int) (ha : a ≤ 9223372036854775807) : PB (n + 1) (x.fault a b) :=
  { h.mono (Nat.le_succ n) with
    fltsL := by have := h.fltsL; show (x.flts ++ [(max a 0, b)]).length ≤ n + 1; simp; omega
    flts0 := fun f hf => by
      rcases List.mem_append.1 (show f ∈ x.flts ++ [(max a 0, b)] from hf) with hf | hf
      · exact h.flts0 f hf
      · rw [List.mem_singleton.1 hf]
        show 0 ≤ max a 0 ∧ max a 0 ≤ _
        omega }
theorem PB.stopAt (h : PB n x) (a : Int) (ha : a ≤ 9223372036854775807) : PB (n + 1) { x with stop := max a 0 } :=
  { h.mono (Nat.le_succ n) with
    stopB := by show -1 ≤ max a 0 ∧ max a 0 ≤ _; omega }
end
/-- the bounds that the calls of the program's disk ask -/
theorem Rel.opsB {φ : Nat → Nat} {s : DS} {x : PS} {n : Nat} (h : Rel φ s x) (hb : PB n x) (hn : n ≤ 10000) : s.ops ≤ 10000 ∧ s.flts.length ≤ 10000 := by
  have h1 := hb.count
  have h2 := hb.fltsL
  rw [h.ops, h.flts, List.length_map]
  omega
def emptyP (cap : Int) : PS := { cap := cap, files := [], dir := [], kept := [], pend := [], flts := [], stop := -1, count := 0 }
theorem empty_rel (cap : Int) (mn ms : Nat) : Rel (fun _ => 0) (emptyS cap mn ms) (emptyP cap) where
  cap := rfl
  ops := rfl
  flts := rfl
  stop := .inl ⟨rfl, rfl⟩
  kept := fun _ => rfl
  rdir := RDir.nil
  pend := trivial
  dir := rfl
  file := fun f hf => by
    rcases hf with ⟨e, he, _⟩ | ⟨c, hc, _⟩
    · cases he
    · cases hc
  inj := fun a b ha _ _ => by
    rcases ha with ⟨e, he, _⟩ | ⟨c, hc, _⟩
    · cases he
    · cases hc
  rep := rfl
theorem empty_pb (cap : Int) : PB 0 (emptyP cap) where
  count := Nat.le_refl _
  fltsL := Nat.le_refl _
  flts0 := fun f hf => by cases hf
  stopB := ⟨Int.le_refl _, by show (-1 : Int) ≤ 9223372036854775807; decide⟩
  filesL := Nat.le_refl _
  dirL := Nat.le_refl _
  keptL := Nat.le_refl _
  pendL := Nat.le_refl _
  dirF := fun e he => by cases he
  keptF := fun e he => by cases he
  pendF := fun c hc => by cases hc
  bytesL := fun f hf => by cases hf
  dirN := fun e he => by cases he
  keptN := fun e he => by cases he
  pendN := fun c hc => by cases hc
theorem empty_pc (cap : Int) : PC (emptyP cap) := ⟨Nat.le_refl _, Nat.le_refl _⟩

/-! ### the disk in memory -/
/-- the disk, in the blocks of F -/
def Dk (w : World) (F : Nat → Prop) (p n : Nat) (x : PS) : Prop := ∃ s φ, DiskAt w F p s ∧ Rel φ s x ∧ PB n x ∧ PC x
/-- the blocks of F, and what was made between w and w' -/
def Grs (F : Nat → Prop) (w w' : World) (k : Nat) : Prop := Gr F w k ∧ k < w'.heap.size
section
variable {w w' : World} {F G : Nat → Prop} {p n : Nat} {x : PS}
theorem Dk.keep (h : Dk w F p n x) (hb : ∀ k, F k → k < w.heap.size → w'.heap[k]? = w.heap[k]?) : Dk w' F p n x := by
  obtain ⟨s, φ, hd, h1⟩ := h
  exact ⟨s, φ, hd.keep hb (fun _ h => h), h1⟩
theorem Dk.below (h : Dk w F p n x) (hb : Below w.heap.size w w') : Dk w' F p n x := h.keep fun k _ hlt => hb.block k hlt
theorem Dk.inF (h : Dk w F p n x) (hF : ∀ k, F k → G k) : Dk w G p n x := by
  obtain ⟨s, φ, hd, h1⟩ := h
  exact ⟨s, φ, hd.inF hF, h1⟩
theorem Dk.far {Q : Nat → Prop} (h : Dk w F p n x) (hc : Chg Q w w') (hq : ∀ k, Q k → ¬ F k) : Dk w' F p n x := h.keep fun k hk hlt => hc.block k hlt fun h1 => hq k h1 hk
theorem Dk.drewN (h : Dk w F p n x) (q : Nat) : Dk (w.drewN q) F p n x := h.keep fun _ _ _ => rfl
theorem Dk.drew (h : Dk w F p n x) : Dk w.drew F p n x := h.keep fun _ _ _ => rfl
theorem Dk.pb (h : Dk w F p n x) : PB n x := by obtain ⟨s, φ, hd, h1, h2, h3⟩ := h; exact h2
theorem Dk.mono (h : Dk w F p n x) {m : Nat} (hm : n ≤ m) : Dk w F p m x := by obtain ⟨s, φ, hd, h1, h2, h3⟩ := h; exact ⟨s, φ, hd, h1, h2.mono hm, h3⟩
theorem Dk.own (h : Dk w F p n x) : F p := by obtain ⟨s, φ, hd, h1⟩ := h; exact hd.own
theorem Dk.lt (h : Dk w F p n x) : p < w.heap.size := by obtain ⟨s, φ, hd, h1⟩ := h; exact hd.lt
theorem Dk.rdir (h : Dk w F p n x) : RDir x.dir ∧ RDir x.kept ∧ x.dir = x.pend.foldl rdo x.kept := by obtain ⟨s, φ, hd, h1, h2, h3⟩ := h; exact ⟨h1.rnow, h1.rdir, h1.dir⟩
end

def DkPost (w : World) (F : Nat → Prop) (p n : Nat) (r : Int × PS) (e : Ending) (w' : World) : Prop := e = .returned (.int .i64 r.1) ∧ Dk w' (Grs F w w') p (n + 1) r.2 ∧ Chg F w w'
def DkDone (w : World) (F : Nat → Prop) (p n : Nat) (x : PS) (e : Ending) (w' : World) : Prop := e = .returned (.tuple #[]) ∧ Dk w' (Grs F w w') p (n + 1) x ∧ Chg F w w'
theorem dk_new (cap : Int) (w : World) (hc : cap < 9223372036854775808) : Calls Tryz.prog 27 #[.int .i64 cap] w fun e w' => ∃ p, e = .returned (.pointer (some ⟨p, 0, none⟩)) ∧ Dk w' (fun k => w.heap.size ≤ k ∧ k < w'.heap.size) p 0 (emptyP (max cap 0)) ∧ Below w.heap.size w w' := by
  refine (new_any cap w hc).mono ?_
  rintro e w' ⟨p, mn, ms, rfl, hd, hb⟩
  exact ⟨p, rfl, ⟨_, _, hd.restrict, empty_rel _ _ _, empty_pb _, empty_pc _⟩, hb⟩
section
variable (w : World) (F : Nat → Prop) (p n : Nat) (x : PS)
theorem dk_create (nm : ByteArray) (h : Dk w F p n x) (hn : n ≤ 10000) (hnm : nm.size ≤ maxLen) : Calls Tryz.prog 49 #[.pointer (some ⟨p, 0, none⟩), .string nm] w (DkPost w F p n (x.create nm)) := by
  obtain ⟨s, φ, hd, hrel, hpb, hpc⟩ := h
  obtain ⟨ho, hf⟩ := hrel.opsB hpb hn
  refine (create_any w F p s nm hd (Nat.le_trans hnm (by simp [maxLen])) hnm (by omega) (by omega)).mono ?_
  rintro e w' ⟨v, s', rfl, hd2, hc, hs⟩
  obtain ⟨hcode, ⟨φ2, h4⟩, h5, h6⟩ := create_sim (W := w.heap.size) hrel hpb hpc (by omega) nm v s' (fun g hg => live_lt hd hg) hs
  exact ⟨by rw [hcode], ⟨_, φ2, hd2.restrict, h4, h5, h6⟩, hc⟩
theorem dk_append (nm : ByteArray) (A : Option Addr) (m c : Nat) (b : List UInt8) (hm : m = b.length) (h : Dk w F p n x) (hn : n ≤ 10000) (hnm : nm.size ≤ maxLen) (hR : Reads w w.heap.size 1 A m (bytesV b)) (hA : 0 < m → ∀ ad, A = some ad → ¬ F ad.block) (hmc : m ≤ c) (hbl : m ≤ 100000) :
    Calls Tryz.prog 51 #[.pointer (some ⟨p, 0, none⟩), .string nm, .slice A m c] w (DkPost w F p n (x.append nm b)) := by
  subst hm
  obtain ⟨s, φ, hd, hrel, hpb, hpc⟩ := h
  obtain ⟨ho, hf⟩ := hrel.opsB hpb hn
  refine (append_any w F p s nm A c b hd hR hA hmc (Nat.le_trans hnm (by simp [maxLen])) hnm hbl (by omega) (by omega)).mono ?_
  rintro e w' ⟨v, s', rfl, hd2, hc, hs⟩
  obtain ⟨hcode, ⟨φ2, h4⟩, h5, h6⟩ := append_sim hrel hpb hpc (by omega) hd.names.tidy nm b hbl v s' hs
  exact ⟨by rw [hcode], ⟨_, φ2, hd2.restrict, h4, h5, h6⟩, hc⟩
theorem dk_sync (nm : ByteArray) (h : Dk w F p n x) (hn : n ≤ 10000) (hnm : nm.size ≤ maxLen) : Calls Tryz.prog 54 #[.pointer (some ⟨p, 0, none⟩), .string nm] w (DkPost w F p n (x.sync nm)) := by
  obtain ⟨s, φ, hd, hrel, hpb, hpc⟩ := h
  obtain ⟨ho, hf⟩ := hrel.opsB hpb hn
  refine (sync_any w F p s nm hd (Nat.le_trans hnm (by simp [maxLen])) hnm (by omega) (by omega)).mono ?_
  rintro e w' ⟨v, s', rfl, hd2, hc, hs⟩
  obtain ⟨hcode, ⟨φ2, h4⟩, h5, h6⟩ := sync_sim hrel hpb hpc (by omega) nm v s' hs
  exact ⟨by rw [hcode], ⟨_, φ2, hd2.restrict, h4, h5, h6⟩, hc⟩
theorem dk_remove (nm : ByteArray) (h : Dk w F p n x) (hn : n ≤ 10000) (hnm : nm.size ≤ maxLen) : Calls Tryz.prog 47 #[.pointer (some ⟨p, 0, none⟩), .string nm] w (DkPost w F p n (x.remove nm)) := by
  obtain ⟨s, φ, hd, hrel, hpb, hpc⟩ := h
  obtain ⟨ho, hf⟩ := hrel.opsB hpb hn
  refine (remove_any w F p s nm hd (Nat.le_trans hnm (by simp [maxLen])) hnm (by omega) (by omega)).mono ?_
  rintro e w' ⟨v, s', rfl, hd2, hc, hs⟩
  obtain ⟨hcode, ⟨φ2, h4⟩, h5, h6⟩ := remove_sim hrel hpb hpc (by omega) nm v s' hs
  exact ⟨by rw [hcode], ⟨_, φ2, hd2.restrict, h4, h5, h6⟩, hc⟩
theorem dk_rename (od nm : ByteArray) (h : Dk w F p n x) (hn : n ≤ 10000) (hod : od.size ≤ maxLen) (hnm : nm.size ≤ maxLen) : Calls Tryz.prog 56 #[.pointer (some ⟨p, 0, none⟩), .string od, .string nm] w (DkPost w F p n (x.rename od nm)) := by
  obtain ⟨s, φ, hd, hrel, hpb, hpc⟩ := h
  obtain ⟨ho, hf⟩ := hrel.opsB hpb hn
  refine (rename_any w F p s od nm hd (Nat.le_trans hod (by simp [maxLen])) hod (Nat.le_trans hnm (by simp [maxLen])) (by omega) (by omega)).mono ?_
  rintro e w' ⟨v, s', rfl, hd2, hc, hs⟩
  obtain ⟨hcode, ⟨φ2, h4⟩, h5, h6⟩ := rename_sim hrel hpb hpc (by omega) od nm v s' hs
  exact ⟨by rw [hcode], ⟨_, φ2, hd2.restrict, h4, h5, h6⟩, hc⟩
theorem dk_syncdir (h : Dk w F p n x) (hn : n ≤ 10000) : Calls Tryz.prog 58 #[.pointer (some ⟨p, 0, none⟩)] w (DkPost w F p n x.syncDir) := by
  obtain ⟨s, φ, hd, hrel, hpb, hpc⟩ := h
  obtain ⟨ho, hf⟩ := hrel.opsB hpb hn
  refine (syncdir_any w F p s hd (by omega) (by omega)).mono ?_
  rintro e w' ⟨v, s', rfl, hd2, hc, hs⟩
  obtain ⟨hcode, ⟨φ2, h4⟩, h5, h6⟩ := syncdir_sim hrel hpb hpc (by omega) v s' hs
  exact ⟨by rw [hcode], ⟨_, φ2, hd2.restrict, h4, h5, h6⟩, hc⟩
theorem dk_fault (a b : Int) (ha : -9223372036854775808 ≤ a ∧ a ≤ 9223372036854775807) (h : Dk w F p n x) (hn : n ≤ 10000) : Calls Tryz.prog 40 #[.pointer (some ⟨p, 0, none⟩), .int .i64 a, .int .i64 b] w (DkDone w F p n (x.fault a b)) := by
  obtain ⟨s, φ, hd, hrel, hpb, hpc⟩ := h
  obtain ⟨ho, hf⟩ := hrel.opsB hpb hn
  refine (fault_any w F p s a b hd (by omega) (by omega) ha).mono ?_
  rintro e w' ⟨rfl, v, hd2, hc⟩
  exact ⟨rfl, ⟨_, φ, hd2.restrict, faulted_rel hrel a b v, hpb.fault a b ha.2, ⟨hpc.kp, hpc.dc⟩⟩, hc⟩
theorem dk_stop (a : Int) (ha : -9223372036854775808 ≤ a ∧ a ≤ 9223372036854775807) (h : Dk w F p n x) (hn : n ≤ 10000) : Calls Tryz.prog 41 #[.pointer (some ⟨p, 0, none⟩), .int .i64 a] w (DkDone w F p n { x with stop := max a 0 }) := by
  obtain ⟨s, φ, hd, hrel, hpb, hpc⟩ := h
  obtain ⟨ho, hf⟩ := hrel.opsB hpb hn
  refine (stop_any w F p s a hd (by omega) ha).mono ?_
  rintro e w' ⟨rfl, hd2, hc⟩
  exact ⟨rfl, ⟨_, φ, (hd2.inF fun k hk => .inl hk).restrict, stopped_rel hrel (by omega) a, hpb.stopAt a ha.2, ⟨hpc.kp, hpc.dc⟩⟩, hc⟩
theorem dk_crash (A : Option Addr) (m c : Nat) (cs : List Int) (hm : m = cs.length) (h : Dk w F p n x) (hn : n ≤ 10000) (hR : Reads w w.heap.size 1 A m (cs.map (Value.int .i64))) (hc : m ≤ c) :
    Calls Tryz.prog 16 #[.pointer (some ⟨p, 0, none⟩), .slice A m c] w (DkDone w F p n (x.crash cs)) := by
  subst hm
  obtain ⟨s, φ, hd, hrel, hpb, hpc⟩ := h
  obtain ⟨ho, hf⟩ := hrel.opsB hpb hn
  refine (crash_any w F p s A c cs hd hR hc (by omega) (safe_len hrel hpc hd.safe.tidy)).mono ?_
  rintro e w' ⟨rfl, dir, ss, keys, lst, mn, ms, k1, k2, k3, k4, k5, k6, k7, k8, -, hd2, hc⟩
  obtain ⟨-, -, ⟨φ2, h4⟩, h5, h6⟩ := crash_sim hrel hpb hpc (fun g hg => (hd.file g hg).le) cs dir ss keys lst mn ms k1 k2 k3 k4 k5 k6 k7 k8
  exact ⟨rfl, ⟨_, φ2, hd2.restrict, h4, h5, h6⟩, hc⟩
theorem dk_read (nm : ByteArray) (h : Dk w F p n x) (hn : n ≤ 10000) (hnm : nm.size ≤ maxLen) : Calls Tryz.prog 67 #[.pointer (some ⟨p, 0, none⟩), .string nm] w (RReadPost w (x.read nm)) := by
  obtain ⟨s, φ, hd, hrel, hpb, hpc⟩ := h
  obtain ⟨ho, hf⟩ := hrel.opsB hpb hn
  refine (read_any w F p s nm hd (Nat.le_trans hnm (by simp [maxLen])) hnm (by omega)).mono ?_
  rintro e w' ⟨v, rfl, h1, h2⟩
  rw [read_same hrel nm] at h1 ⊢
  exact ⟨v, rfl, h1, h2⟩
theorem dk_list (pre : ByteArray) (h : Dk w F p n x) (hn : n ≤ 10000) : Calls Tryz.prog 46 #[.pointer (some ⟨p, 0, none⟩), .string pre] w (NamesPost w (x.list pre.data.toList)) := by
  obtain ⟨s, φ, hd, hrel, hpb, hpc⟩ := h
  obtain ⟨ho, hf⟩ := hrel.opsB hpb hn
  refine (list_any w F p s pre hd (by omega)).mono ?_
  rintro e w' ⟨v, ss, rfl, h1, h2, h3⟩
  rw [list_same hrel hd.names.tidy pre.data.toList h1] at h2
  refine ⟨v, rfl, ?_, h3⟩
  have e1 : ss.length = (x.list pre.data.toList).length := by rw [← list_same hrel hd.names.tidy pre.data.toList h1, List.length_mergeSort]
  rwa [e1] at h2
theorem dk_durable (h : Dk w F p n x) (hn : n ≤ 10000) : Calls Tryz.prog 65 #[.pointer (some ⟨p, 0, none⟩)] w (NamesPost w x.durable) := by
  obtain ⟨s, φ, hd, hrel, hpb, hpc⟩ := h
  obtain ⟨ho, hf⟩ := hrel.opsB hpb hn
  refine (durable_any w F p s hd (by omega)).mono ?_
  rintro e w' ⟨v, ss, rfl, h1, h2, h3⟩
  rw [durable_same hrel hd.safe.tidy h1] at h2
  refine ⟨v, rfl, ?_, h3⟩
  have e1 : ss.length = x.durable.length := by rw [← durable_same hrel hd.safe.tidy h1, List.length_mergeSort]
  rwa [e1] at h2
theorem dk_ops (h : Dk w F p n x) : Calls Tryz.prog 11 #[.pointer (some ⟨p, 0, none⟩)] w fun e w' => e = .returned (.int .i64 (x.count : Int)) ∧ w' = w := by
  obtain ⟨s, φ, hd, hrel, hpb, hpc⟩ := h
  refine (ops_any w F p s hd).mono ?_
  rintro e w' ⟨rfl, h1⟩
  exact ⟨by rw [hrel.ops], h1⟩
end
end Go.Proofs.YtfchnpdgnhoffaaGreatDoor
namespace Go.Proofs.YtfchnpdgnhoffaaGreatDoor
open Go.RowKit Go.Shelf Go.Maps

/-! ### names -/
abbrev Rec := List UInt8
def preL : Nm := [119, 97, 108, 47]
def draftL : Nm := [119, 97, 108, 47, 110, 101, 119]
def digL (n : Nat) : Nm := [48, 48, 48, 48, 48, 48, 48, 48, 48, 48, UInt8.ofNat (48 + n / 10), UInt8.ofNat (48 + n % 10)]
/-- an entry's name (for a number below 100) -/
def nameL (n : Nat) : Nm := preL ++ digL n
def nmBA (l : Nm) : ByteArray := ⟨l.toArray⟩
theorem nmBA_data (l : Nm) : (nmBA l).data.toList = l := by simp [nmBA]
theorem nameL_len (n : Nat) : (nameL n).length = 16 := rfl
theorem nameL_draft (n : Nat) : nameL n ≠ draftL := by
  intro h
  have := congrArg List.length h
  rw [nameL_len] at this
  cases this
theorem nameL_eq (n : Nat) (h : n < 100) : preL ++ (List.replicate (12 - (Go.Lib.decDigits n).length) 48 ++ Go.Lib.decDigits n) = nameL n := by
  by_cases h1 : n < 10
  · rw [Go.Lib.decDigits_one h1]
    have e1 : n / 10 = 0 := by omega
    have e2 : n % 10 = n := by omega
    show preL ++ (List.replicate 11 48 ++ [UInt8.ofNat (48 + n)]) = preL ++ digL n
    unfold digL
    rw [e1, e2]
    rfl
  · rw [Go.Lib.decDigits_two h1 h]
    rfl
theorem digL_atoi : ∀ n : Fin 100, Go.Lib.atoi (digL n.val) = some (n.val : Int) := by decide
theorem nameL_inj {n m : Nat} (hn : n < 100) (hm : m < 100) (h : nameL n = nameL m) : n = m := by
  have e : digL n = digL m := List.append_cancel_left h
  have h1 := digL_atoi ⟨n, hn⟩
  have h2 := digL_atoi ⟨m, hm⟩
  simp only at h1 h2
  rw [e, h2] at h1
  injection h1 with h1
  omega
theorem nameL_right : ∀ n : Fin 100, rightB (nmBA (nameL n.val)) = true := by decide
theorem draft_right : rightB (nmBA draftL) = true := by decide

def numL (nm : Nm) : Option Nat := (List.range' 1 99).find? fun n => nm == nameL n
theorem numL_name {n : Nat} (h1 : 1 ≤ n) (h2 : n < 100) : numL (nameL n) = some n := by
  unfold numL
  rw [List.find?_eq_some_iff_append]
  refine ⟨by simp, List.range' 1 (n - 1), List.range' (n + 1) (99 - n), ?_, fun a ha => ?_⟩
  · have e : List.range' 1 99 = List.range' 1 ((n - 1) + (99 - (n - 1))) := by rw [show (n - 1) + (99 - (n - 1)) = 99 by omega]
    rw [e, ← List.range'_append_1, show 99 - (n - 1) = (99 - n) + 1 by omega, List.range'_succ, show 1 + (n - 1) = n by omega]
  · have := List.mem_range'_1.1 ha
    simp only [Bool.not_eq_true', beq_eq_false_iff_ne, ne_eq]
    intro e
    have := nameL_inj h2 (by omega) e
    omega
theorem numL_draft : numL draftL = none := by
  unfold numL
  rw [List.find?_eq_none]
  intro n hn
  simp only [beq_iff_eq]
  exact fun e => nameL_draft n e.symm
def dB : ByteArray := nmBA draftL
def nB (n : Nat) : ByteArray := nmBA (nameL n)
end Go.Proofs.YtfchnpdgnhoffaaGreatDoor
namespace Go.Proofs.YtfchnpdgnhoffaaGreatDoor
open Go.RowKit Go.Shelf Go.Maps

/-! ### entries -/
structure Ent where
  all : Bool
  recs : List Rec
def Ent.ok (e : Ent) : Prop := e.all = true ∨ e.recs.length = 1
/-- the content behind an entry -/
def Ent.next (e : Ent) (c : List Rec) : List Rec := if e.all then e.recs else c ++ e.recs
def kindB (b : Bool) : UInt8 := if b then 99 else 114
def fourL (n : Nat) : List UInt8 := [UInt8.ofNat (n / 16777216), UInt8.ofNat (n / 65536), UInt8.ofNat (n / 256), UInt8.ofNat n]
def recsL (l : List Rec) : List UInt8 := l.flatMap fun r => fourL r.length ++ r
def crc1 (x : Nat) : Nat := (x >>> 1) ^^^ (3988292384 * (x &&& 1))
def crc8 (x : Nat) : Nat := crc1 (crc1 (crc1 (crc1 (crc1 (crc1 (crc1 (crc1 x)))))))
def crcStep (x : Nat) (b : UInt8) : Nat := crc8 (x ^^^ b.toNat)
def crcL (l : List UInt8) : Nat := 4294967295 ^^^ l.foldl crcStep 4294967295
def bodyL (e : Ent) (n : Nat) : List UInt8 := kindB e.all :: (nameL n ++ recsL e.recs)
def entL (e : Ent) (n : Nat) : List UInt8 := bodyL e n ++ fourL (crcL (bodyL e n))

end Go.Proofs.YtfchnpdgnhoffaaGreatDoor
