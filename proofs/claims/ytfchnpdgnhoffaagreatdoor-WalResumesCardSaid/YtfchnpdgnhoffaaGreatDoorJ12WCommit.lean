/- commit, told plainly: what it does to the disk and to what the disk holds of the log. A crash, an opening anew, the taking away of what a checkpoint has put aside: told plainly. What find looks up, plainly; slices.Sort of numbers, slices.Contains of names. The walk of number (63): an entry's name, and the draft's. -/
import Derived.Test.YtfchnpdgnhoffaaGreatDoorJ09WPlain
import Derived.Test.YtfchnpdgnhoffaaGreatDoorJ08SimPost
import Derived.Lib.OwnBridge
import Derived.Sort.OwnSorted
import Derived.Sort.OwnSortedInts
import Derived.Lib.SmallJoins
namespace Go.Proofs.YtfchnpdgnhoffaaGreatDoor
open Go.RowKit Go.Shelf Go.Maps

/-! ### the clock: faults, stops, how many operations there were -/
/-- something was to strike an operation from a on, ahead of b -/
def Hind (struck : List Int) (stop : Int) (a b : Int) : Prop := (∃ s ∈ struck, a ≤ s ∧ s < b) ∨ (0 ≤ stop ∧ stop < b)
theorem Hind.wide {struck : List Int} {stop a b a' b' : Int} (h : Hind struck stop a b) (ha : a' ≤ a) (hb : b ≤ b') : Hind struck stop a' b' := by
  rcases h with ⟨s, h1, h2, h3⟩ | ⟨h1, h2⟩
  · exact .inl ⟨s, h1, by omega, by omega⟩
  · exact .inr ⟨h1, by omega⟩
structure Hr (x : PS) (struck : List Int) (stop : Int) : Prop where
  flts : ∀ f ∈ x.flts, 0 ≤ f.1 ∧ (x.count : Int) + f.1 ∈ struck
  stop : (x.stop = -1 ∧ stop = -1) ∨ (0 ≤ stop ∧ x.stop = max (stop - x.count) 0)
theorem rleft_mem : ∀ (l : List (Int × Int)) (f : Int × Int), f ∈ rleft l → ∃ g ∈ l, 0 < g.1 ∧ f.1 = g.1 - 1
  | [], f, h => by cases h
  | a :: l, f, h => by
    have h : f ∈ (if 0 < a.1 then (a.1 - 1, a.2) :: rleft l else rleft l) := h
    split at h
    · rename_i h0
      rcases List.mem_cons.1 h with rfl | h
      · exact ⟨a, List.mem_cons_self, h0, rfl⟩
      · obtain ⟨g, hg, h1⟩ := rleft_mem l f h
        exact ⟨g, List.mem_cons_of_mem _ hg, h1⟩
    · obtain ⟨g, hg, h1⟩ := rleft_mem l f h
      exact ⟨g, List.mem_cons_of_mem _ hg, h1⟩
theorem rstruck_some : ∀ (l : List (Int × Int)), rstruck l ≠ 0 → ∃ f ∈ l, f.1 ≤ 0
  | [], h => absurd rfl h
  | a :: l, h => by
    have h : (if 0 < a.1 then rstruck l else if a.2 = 2 then 2 else 1) ≠ 0 := h
    split at h
    · obtain ⟨f, hf, h1⟩ := rstruck_some l h
      exact ⟨f, List.mem_cons_of_mem _ hf, h1⟩
    · exact ⟨a, List.mem_cons_self, by omega⟩
section
variable {x y : PS} {s : List Int} {t : Int}
theorem Hr.same (h : Hr x s t) (h1 : y.count = x.count) (h2 : y.flts = x.flts) (h3 : y.stop = x.stop) : Hr y s t := by
  refine ⟨?_, ?_⟩
  · rw [h1, h2]; exact h.flts
  · rw [h1, h3]; exact h.stop
theorem Hr.begun (h : Hr x s t) : Hr x.begun s t := by
  refine ⟨fun f hf => ?_, ?_⟩
  · obtain ⟨g, hg, h0, h1⟩ := rleft_mem x.flts f hf
    have := (h.flts g hg).2
    refine ⟨by omega, ?_⟩
    show ((x.count + 1 : Nat) : Int) + f.1 ∈ s
    have e : ((x.count + 1 : Nat) : Int) + f.1 = (x.count : Int) + g.1 := by omega
    rw [e]; exact this
  · have e : x.begun.stop = if 0 < x.stop then x.stop - 1 else x.stop := rfl
    have e2 : x.begun.count = x.count + 1 := rfl
    rw [e, e2]
    rcases h.stop with ⟨h1, h2⟩ | ⟨h1, h2⟩
    · exact .inl ⟨by rw [if_neg (by omega)]; exact h1, h2⟩
    · refine .inr ⟨h1, ?_⟩
      split <;> omega
theorem Hr.hind (h : Hr x s t) (hne : x.beginC.1 ≠ 0) : (x.beginC.1 = 6 ∨ x.beginC.1 = 7) ∧ Hind s t x.count (x.count + 1) := by
  unfold PS.beginC at hne ⊢
  by_cases h0 : x.stop = 0
  · rw [if_pos h0]
    refine ⟨.inr rfl, .inr ?_⟩
    rcases h.stop with ⟨h1, h2⟩ | ⟨h1, h2⟩
    · omega
    · omega
  · rw [if_neg h0] at hne ⊢
    by_cases h1 : rstruck x.flts = 0
    · rw [if_pos h1] at hne; exact absurd rfl hne
    · rw [if_neg h1]
      refine ⟨.inl rfl, .inl ?_⟩
      obtain ⟨f, hf, h2⟩ := rstruck_some _ h1
      obtain ⟨h3, h4⟩ := h.flts f hf
      have : f.1 = 0 := by omega
      rw [this, Int.add_zero] at h4
      exact ⟨_, h4, by omega, by omega⟩
theorem beginC_free (h1 : x.flts = []) (h2 : x.stop = -1) : x.beginC.1 = 0 := by
  unfold PS.beginC
  rw [h1, h2]
  rfl
end

def andP (r : Int × PS) (f : PS → Int × PS) : Int × PS := if r.1 = 0 then f r.2 else r
/-- k operations at most, which fail only where something strikes -/
structure Run (k : Nat) (x : PS) (r : Int × PS) (s : List Int) (t : Int) : Prop where
  hr : Hr r.2 s t
  lo : x.count ≤ r.2.count
  hi : r.2.count ≤ x.count + k
  bad : r.1 ≠ 0 → (r.1 = 6 ∨ r.1 = 7) ∧ Hind s t x.count r.2.count
  free : x.flts = [] → x.stop = -1 → r.1 = 0 ∧ r.2.flts = [] ∧ r.2.stop = -1
section
variable {x : PS} {s : List Int} {t : Int} {r : Int × PS}
theorem Run.op (h : Hr x s t) (h1 : r.1 = x.beginC.1) (h2 : r.2.count = x.begun.count) (h3 : r.2.flts = x.begun.flts) (h4 : r.2.stop = x.begun.stop) : Run 1 x r s t where
  hr := h.begun.same h2 h3 h4
  lo := by rw [h2]; exact Nat.le_succ _
  hi := by rw [h2]; exact Nat.le_refl _
  bad := fun hne => by
    rw [h1] at hne ⊢
    rw [h2]
    exact h.hind hne
  free := fun e1 e2 => by
    refine ⟨by rw [h1]; exact beginC_free e1 e2, ?_, ?_⟩
    · rw [h3]
      show rleft x.flts = []
      rw [e1]; rfl
    · rw [h4]
      show (if 0 < x.stop then x.stop - 1 else x.stop) = -1
      rw [e2]; rfl
theorem Run.nil (h : Hr x s t) : Run 0 x (0, x) s t := ⟨h, Nat.le_refl _, Nat.le_refl _, fun h => absurd rfl h, fun h1 h2 => ⟨rfl, h1, h2⟩⟩
theorem Run.mono {k k' : Nat} (h : Run k x r s t) (hk : k ≤ k') : Run k' x r s t := ⟨h.hr, h.lo, Nat.le_trans h.hi (by omega), h.bad, h.free⟩
theorem Run.and {k k' : Nat} {f : PS → Int × PS} (h : Run k x r s t) (hf : r.1 = 0 → Run k' r.2 (f r.2) s t) : Run (k + k') x (andP r f) s t := by
  unfold andP
  by_cases h0 : r.1 = 0
  · rw [if_pos h0]
    have h2 := hf h0
    have l1 := h.lo
    have l2 := h.hi
    have l3 := h2.lo
    have l4 := h2.hi
    exact ⟨h2.hr, by omega, by omega, fun hne => ⟨(h2.bad hne).1, (h2.bad hne).2.wide (by omega) (Int.le_refl _)⟩, fun e1 e2 => h2.free (h.free e1 e2).2.1 (h.free e1 e2).2.2⟩
  · rw [if_neg h0]
    exact h.mono (by omega)
end

/-! ### what the disk holds of the log -/
structure Inv (x : PS) (N : Nat) (E : Nat → Option Ent) (c : List Rec) (last : Nat) (may : List (List Rec)) : Prop where
  says : Says x.files N x.kept E last
  told : tell E last = (c, last)
  pend : ∀ d ∈ x.pend, OkCh x.files N E c last may d
  lastB : last ≤ 98
  filesB : ∀ y ∈ x.files, y.1.length ≤ 50000 ∧ y.2 ≤ y.1.length
  len : N ≤ x.files.length
  cap : x.cap = 1073741824
  dir : x.dir = x.pend.foldl rdo x.kept
  pc : PC x
section
variable {x : PS} {N : Nat} {E : Nat → Option Ent} {c : List Rec} {last : Nat} {may may' : List (List Rec)}
theorem OkCh.more {files : List (List UInt8 × Nat)} {d : RC} (h : OkCh files N E c last may d) (hm : ∀ l ∈ may, l ∈ may') : OkCh files N E c last may' d := by
  cases h with
  | make od f => exact .make od f
  | move f e he h1 => exact .move f e he (hm _ h1)
  | undraft od f => exact .undraft od f
  | unname od f j h1 h2 e he ha => exact .unname od f j h1 h2 e he ha
theorem IsEnt.files {files files' : List (List UInt8 × Nat)} {N N' f n : Nat} {e : Ent} (h : IsEnt files N f n e) (hf : ∀ k, k < N → files'[k]? = files[k]?) (hN : N ≤ N') : IsEnt files' N' f n e := ⟨Nat.lt_of_lt_of_le h.1 hN, by rw [hf f h.1]; exact h.2.1, h.2.2⟩
theorem OkCh.files {files files' : List (List UInt8 × Nat)} {N' : Nat} {d : RC} (h : OkCh files N E c last may d) (hf : ∀ k, k < N → files'[k]? = files[k]?) (hN : N ≤ N') : OkCh files' N' E c last may d := by
  cases h with
  | make od f => exact .make od f
  | move f e he h1 => exact .move f e (he.files hf hN) h1
  | undraft od f => exact .undraft od f
  | unname od f j h1 h2 e he ha => exact .unname od f j h1 h2 e he ha
theorem Says.files {files files' : List (List UInt8 × Nat)} {N' : Nat} {D : Dl} {m : Nat} (h : Says files N D E m) (hf : ∀ k, k < N → files'[k]? = files[k]?) (hN : N ≤ N') : Says files' N' D E m :=
  ⟨h.names, h.none_, fun n e he => by
    obtain ⟨h1, h2, f, h3, h4⟩ := h.some_ n e he
    exact ⟨h1, h2, f, h3, h4.files hf hN⟩⟩
theorem Inv.more (h : Inv x N E c last may) (hm : ∀ l ∈ may, l ∈ may') : Inv x N E c last may' := ⟨h.says, h.told, fun d hd => (h.pend d hd).more hm, h.lastB, h.filesB, h.len, h.cap, h.dir, h.pc⟩
theorem Inv.begun (h : Inv x N E c last may) : Inv x.begun N E c last may := ⟨h.says, h.told, h.pend, h.lastB, h.filesB, h.len, h.cap, h.dir, h.pc.begun⟩
/-- the directory and the rest behind a change -/
theorem Inv.changed (h : Inv x N E c last may) (d : RC) (_ : d.kind ≠ 1) (hd : OkCh x.files N E c last may d) : Inv { x.begun with dir := rdo x.dir d, pend := x.pend ++ [d] } N E c last may where
  says := h.says
  told := h.told
  pend := fun d2 h2 => by
    rcases List.mem_append.1 (show d2 ∈ x.pend ++ [d] from h2) with h2 | h2
    · exact h.pend d2 h2
    · rw [List.mem_singleton.1 h2]; exact hd
  lastB := h.lastB
  filesB := h.filesB
  len := h.len
  cap := h.cap
  dir := by
    show rdo x.dir d = (x.pend ++ [d]).foldl rdo x.kept
    rw [List.foldl_append, ← h.dir]
    rfl
  pc := h.pc.changed d
theorem Inv.created (h : Inv x N E c last may) : Inv (x.begun.created draftL) N E c last may := by
  have hf : ∀ k, k < N → (x.files ++ [(([] : List UInt8), 0)])[k]? = x.files[k]? := fun k hk => List.getElem?_append_left (by have := h.len; omega)
  exact {
    says := h.says.files hf (Nat.le_refl _)
    told := h.told
    pend := fun d2 h2 => by
      rcases List.mem_append.1 (show d2 ∈ x.pend ++ [⟨1, [], draftL, x.files.length⟩] from h2) with h2 | h2
      · exact (h.pend d2 h2).files hf (Nat.le_refl _)
      · rw [List.mem_singleton.1 h2]; exact .make _ _
    lastB := h.lastB
    filesB := fun y hy => by
      rcases List.mem_append.1 (show y ∈ x.files ++ [([], 0)] from hy) with hy | hy
      · exact h.filesB y hy
      · rw [List.mem_singleton.1 hy]; exact ⟨Nat.zero_le _, Nat.le_refl _⟩
    len := by have := h.len; show N ≤ (x.files ++ [([], 0)]).length; simp; omega
    cap := h.cap
    dir := by
      show ddel x.dir draftL ++ [(draftL, x.files.length)] = (x.pend ++ [_]).foldl rdo x.kept
      rw [List.foldl_append, ← h.dir]
      rfl
    pc := h.pc.created draftL }
theorem Inv.filed (h : Inv x N E c last may) (f : Nat) (g : List UInt8 × Nat → List UInt8 × Nat) (hf : N ≤ f) (hg : ∀ y, x.files[f]? = some y → (g y).1.length ≤ 50000 ∧ (g y).2 ≤ (g y).1.length) : Inv { x.begun with files := x.files.modify f g } N E c last may := by
  have hf2 : ∀ k, k < N → (x.files.modify f g)[k]? = x.files[k]? := fun k hk => get_modify_other _ _ (by omega)
  exact {
    says := h.says.files hf2 (Nat.le_refl _)
    told := h.told
    pend := fun d2 h2 => (h.pend d2 h2).files hf2 (Nat.le_refl _)
    lastB := h.lastB
    filesB := fun y hy => by
      obtain ⟨k, hk⟩ := List.mem_iff_getElem?.1 (show y ∈ x.files.modify f g from hy)
      by_cases e : f = k
      · subst e
        rw [get_modify_same] at hk
        obtain ⟨z, hz, rfl⟩ := Option.map_eq_some_iff.1 hk
        exact hg z hz
      · rw [get_modify_other _ _ e] at hk
        exact h.filesB y (List.mem_of_getElem? hk)
    len := by show N ≤ (x.files.modify f g).length; rw [List.length_modify]; exact h.len
    cap := h.cap
    dir := h.dir
    pc := h.pc.begun.files _ }
theorem Inv.steps (h : Inv x N E c last may) : ∃ E', St x.files N E c last may x.dir E' := by
  rw [h.dir]
  exact St.steps h.lastB x.pend x.kept E (St.start h.says h.lastB) h.pend
theorem Inv.used (h : Inv x N E c last may) (hc : x.count ≤ 9990) : x.used ≤ 9990 * 50000 := by
  unfold PS.used
  refine Nat.le_trans (sumB_le _ 50000 fun k hk => ?_) ?_
  · obtain ⟨e, -, rfl⟩ := List.mem_map.1 hk
    unfold flen
    cases hf : x.files[e.2]? with
    | none => exact Nat.zero_le _
    | some y => exact (h.filesB y (List.mem_of_getElem? hf)).1
  · rw [List.length_map]
    exact Nat.mul_le_mul (Nat.le_trans h.pc.dc hc) (Nat.le_refl _)
end

/-! ### commit -/
/-- the draft of an earlier call is taken away -/
def clearP (x : PS) : Int × PS := if (dget x.dir draftL).isSome then x.remove dB else (0, x)
def commitP (x : PS) (b : Rec) (n : Nat) : Int × PS :=
  andP (clearP x) fun x => andP (x.create dB) fun x => andP (x.append dB b) fun x => andP (x.sync dB) fun x => andP (x.rename dB (nB n)) fun x => x.syncDir
section
variable {x : PS} {N : Nat} {E : Nat → Option Ent} {c : List Rec} {last : Nat} {may may' : List (List Rec)} {s : List Int} {t : Int}
theorem clear_law (h : Inv x N E c last may) (hr : Hr x s t) : Run 1 x (clearP x) s t ∧ Inv (clearP x).2 N E c last may ∧ ((clearP x).1 = 0 → dget (clearP x).2.dir draftL = none) := by
  unfold clearP
  cases hd : dget x.dir draftL with
  | none => exact ⟨(Run.nil hr).mono (by omega), h, fun _ => hd⟩
  | some f =>
    simp only [Option.isSome_some, if_true]
    unfold PS.remove
    rw [show dB.data.toList = draftL from nmBA_data _, show rightB dB = true from draft_right, hd]
    simp only [if_true]
    by_cases h0 : x.beginC.1 = 0
    · rw [if_pos h0]
      refine ⟨Run.op hr h0.symm rfl rfl rfl, ?_, fun _ => ?_⟩
      · exact h.changed ⟨3, [], draftL, 0⟩ (show (3 : Int) ≠ 1 by decide) (.undraft _ _)
      · show dget (ddel x.dir draftL) draftL = none
        rw [dget_del, if_pos rfl]
    · rw [if_neg h0]
      exact ⟨Run.op hr rfl rfl rfl rfl, h.begun, fun e => absurd e h0⟩
/-- a draft of the bytes b, of which k are durable -/
structure Mid (x : PS) (N f : Nat) (b : Rec) (k : Nat) : Prop where
  at_ : dget x.dir draftL = some f
  ge : N ≤ f
  file : x.files[f]? = some (b, k)
theorem create_law (h : Inv x N E c last may) (hr : Hr x s t) (hd : dget x.dir draftL = none) : Run 1 x (x.create dB) s t ∧ Inv (x.create dB).2 N E c last may ∧ ((x.create dB).1 = 0 → ∃ f, Mid (x.create dB).2 N f [] 0) := by
  unfold PS.create
  rw [show dB.data.toList = draftL from nmBA_data _, show rightB dB = true from draft_right, hd]
  simp only [if_true]
  by_cases h0 : x.beginC.1 = 0
  · rw [if_pos h0]
    refine ⟨Run.op hr h0.symm rfl rfl rfl, h.created, fun _ => ⟨x.files.length, ?_, h.len, ?_⟩⟩
    · show dget (rset x.dir draftL x.files.length) draftL = _
      rw [dget_rset, if_pos rfl]
    · show (x.files ++ [([], 0)])[x.files.length]? = _
      rw [List.getElem?_append_right (Nat.le_refl _), Nat.sub_self]; rfl
  · rw [if_neg h0]
    exact ⟨Run.op hr rfl rfl rfl rfl, h.begun, fun e => absurd e h0⟩
theorem append_law (h : Inv x N E c last may) (hr : Hr x s t) {f : Nat} (hm : Mid x N f [] 0) (b : Rec) (hb : b.length ≤ 50000) (hc : x.count ≤ 9990) :
    Run 1 x (x.append dB b) s t ∧ Inv (x.append dB b).2 N E c last may ∧ ((x.append dB b).1 = 0 → Mid (x.append dB b).2 N f b 0) := by
  have hu := h.used hc
  have hcap := h.cap
  have hfit : x.fits dB b.length = 0 := by
    unfold PS.fits
    rw [show dB.data.toList = draftL from nmBA_data _, show rightB dB = true from draft_right, hm.at_]
    simp only [if_true]
    rw [if_pos (by omega)]
  have hadd : ∀ z : Rec, x.begun.addTo dB.data.toList z = { x.begun with files := x.files.modify f fun y => (y.1 ++ z, y.2) } := by
    intro z
    unfold PS.addTo
    rw [show dB.data.toList = draftL from nmBA_data _, show dget x.begun.dir draftL = some f from hm.at_]
    rfl
  have hI : ∀ z : Rec, z.length ≤ 50000 → Inv { x.begun with files := x.files.modify f fun y => (y.1 ++ z, y.2) } N E c last may := by
    intro z hz
    refine h.filed f _ hm.ge fun y hy => ?_
    rw [hm.file] at hy
    injection hy with hy
    subst hy
    exact ⟨by simpa using hz, Nat.zero_le _⟩
  unfold PS.append
  rw [hfit, hadd, hadd]
  by_cases h0 : x.beginC.1 = 0
  · rw [if_pos h0]
    simp only [if_true]
    refine ⟨Run.op hr h0.symm rfl rfl rfl, hI b hb, fun _ => ⟨hm.at_, hm.ge, ?_⟩⟩
    show (x.files.modify f fun y => (y.1 ++ b, y.2))[f]? = _
    rw [get_modify_same, hm.file]
    rfl
  · rw [if_neg h0]
    by_cases h2 : x.beginC.2 = 2
    · rw [if_pos ⟨h2, rfl⟩]
      exact ⟨Run.op hr rfl rfl rfl rfl, hI _ (by rw [List.length_take]; omega), fun e => absurd e h0⟩
    · rw [if_neg (fun e => h2 e.1)]
      exact ⟨Run.op hr rfl rfl rfl rfl, h.begun, fun e => absurd e h0⟩
theorem sync_law (h : Inv x N E c last may) (hr : Hr x s t) {f : Nat} {b : Rec} (hm : Mid x N f b 0) (hb : b.length ≤ 50000) :
    Run 1 x (x.sync dB) s t ∧ Inv (x.sync dB).2 N E c last may ∧ ((x.sync dB).1 = 0 → Mid (x.sync dB).2 N f b b.length) := by
  unfold PS.sync
  rw [show dB.data.toList = draftL from nmBA_data _, show rightB dB = true from draft_right, hm.at_]
  simp only [if_true]
  by_cases h0 : x.beginC.1 = 0
  · rw [if_pos h0]
    refine ⟨Run.op hr h0.symm rfl rfl rfl, ?_, fun _ => ⟨hm.at_, hm.ge, ?_⟩⟩
    · refine h.filed f (fun y => (y.1, y.1.length)) hm.ge fun y hy => ?_
      rw [hm.file] at hy
      injection hy with hy
      subst hy
      exact ⟨hb, Nat.le_refl _⟩
    · show (x.files.modify f fun y => (y.1, y.1.length))[f]? = _
      rw [get_modify_same, hm.file]
      rfl
  · rw [if_neg h0]
    exact ⟨Run.op hr rfl rfl rfl rfl, h.begun, fun e => absurd e h0⟩
/-- the entry stands under its name -/
theorem rename_law (h : Inv x N E c last may) (hr : Hr x s t) {f : Nat} (e : Ent) (he : e.ok) (hl : last ≤ 97) (hm : Mid x N f (entL e (last + 1)) (entL e (last + 1)).length) :
    Run 1 x (x.rename dB (nB (last + 1))) s t ∧ ∃ N', Inv (x.rename dB (nB (last + 1))).2 N' E c last (may ++ [e.next c]) ∧
      ((x.rename dB (nB (last + 1))).1 = 0 → ∃ E', Says (x.rename dB (nB (last + 1))).2.files N' (x.rename dB (nB (last + 1))).2.dir E' (last + 1) ∧ tell E' (last + 1) = (e.next c, last + 1) ∧ E' (last + 1) = some e) := by
  have hne : draftL ≠ nameL (last + 1) := fun e => nameL_draft _ e.symm
  have hfl : f < x.files.length := (List.getElem?_eq_some_iff.1 hm.file).1
  unfold PS.rename
  rw [show dB.data.toList = draftL from nmBA_data _, show (nB (last + 1)).data.toList = nameL (last + 1) from nmBA_data _, show rightB dB = true from draft_right, show rightB (nB (last + 1)) = true from nameL_right ⟨last + 1, by omega⟩, hm.at_]
  simp only [and_self, if_true, if_neg hne]
  by_cases h0 : x.beginC.1 = 0
  · rw [if_pos h0]
    have hfile : ∀ k, k < N → x.files[k]? = x.files[k]? := fun _ _ => rfl
    have hle : N ≤ f + 1 := by have := hm.ge; omega
    have hent : IsEnt x.files (f + 1) f (last + 1) e := ⟨by omega, hm.file, he⟩
    have h1 : Inv x (f + 1) E c last (may ++ [e.next c]) := by
      have h2 := h.more (may' := may ++ [e.next c]) (fun l hl => List.mem_append_left _ hl)
      exact ⟨h2.says.files hfile hle, h2.told, fun d hd => (h2.pend d hd).files hfile hle, h2.lastB, h2.filesB, by omega, h2.cap, h2.dir, h2.pc⟩
    obtain ⟨E', hst⟩ := h1.steps
    refine ⟨Run.op hr h0.symm rfl rfl rfl, f + 1, ?_, fun _ => ⟨updE E' (last + 1) (some e), ?_, ?_, if_pos rfl⟩⟩
    · exact h1.changed ⟨2, draftL, nameL (last + 1), f⟩ (show (2 : Int) ≠ 1 by decide) (.move f e hent (by simp))
    · exact hst.says.undraft.move (by omega) (by omega) (Nat.le_refl _) hent
    · obtain ⟨h3, -⟩ := hst.tell h1.told
      have h4 : tell (updE E' (last + 1) (some e)) last = (c, last) := by
        rw [← h3]
        refine tell_congr last fun k _ hk => ?_
        unfold updE
        rw [if_neg (by omega)]
      rw [tell_step h4]
      unfold updE
      rw [if_pos rfl]
  · rw [if_neg h0]
    exact ⟨Run.op hr rfl rfl rfl rfl, N, h.begun.more (fun l hl => List.mem_append_left _ hl), fun e => absurd e h0⟩
/-- what commit leaves -/
theorem commit_law (h : Inv x N E c last may) (hr : Hr x s t) (e : Ent) (he : e.ok) (hl : last ≤ 97) (hb : (entL e (last + 1)).length ≤ 50000) (hc : x.count ≤ 9980) :
    Run 6 x (commitP x (entL e (last + 1)) (last + 1)) s t ∧
    ((commitP x (entL e (last + 1)) (last + 1)).1 = 0 → (∃ N' E', Inv (commitP x (entL e (last + 1)) (last + 1)).2 N' E' (e.next c) (last + 1) [] ∧ E' (last + 1) = some e) ∧ (commitP x (entL e (last + 1)) (last + 1)).2.pend = []) ∧
    ((commitP x (entL e (last + 1)) (last + 1)).1 ≠ 0 → ∃ N', Inv (commitP x (entL e (last + 1)) (last + 1)).2 N' E c last (may ++ [e.next c])) := by
  obtain ⟨b, hbe⟩ : ∃ b, b = entL e (last + 1) := ⟨_, rfl⟩
  rw [← hbe] at hb ⊢
  have hsub : ∀ l ∈ may, l ∈ may ++ [e.next c] := fun l hl => List.mem_append_left _ hl
  unfold commitP
  obtain ⟨r1, i1, d1⟩ := clear_law h hr
  generalize clearP x = z1 at r1 i1 d1 ⊢
  have c1 := r1.hi
  by_cases h1 : z1.1 = 0
  case neg =>
    have e1 : ∀ f, andP z1 f = z1 := fun f => if_neg h1
    rw [e1]
    exact ⟨r1.mono (by omega), fun e => absurd e h1, fun _ => ⟨N, i1.more hsub⟩⟩
  obtain ⟨r2, i2, d2⟩ := create_law i1 r1.hr (d1 h1)
  have e1 : ∀ f, andP z1 f = f z1.2 := fun f => if_pos h1
  rw [e1]
  have q1 : ∀ {k r}, Run k z1.2 r s t → Run (1 + k) x r s t := fun {k r} hk => by
    have := r1.and (f := fun _ => r) (fun _ => hk)
    rwa [e1] at this
  generalize z1.2.create dB = z2 at r2 i2 d2 ⊢
  have c2 := r2.hi
  by_cases h2 : z2.1 = 0
  case neg =>
    have e2 : ∀ f, andP z2 f = z2 := fun f => if_neg h2
    rw [e2]
    exact ⟨(q1 r2).mono (by omega), fun e => absurd e h2, fun _ => ⟨N, i2.more hsub⟩⟩
  obtain ⟨f, m2⟩ := d2 h2
  obtain ⟨r3, i3, d3⟩ := append_law i2 r2.hr m2 b hb (by omega)
  have e2 : ∀ f, andP z2 f = f z2.2 := fun f => if_pos h2
  rw [e2]
  have q2 : ∀ {k r}, Run k z2.2 r s t → Run (2 + k) x r s t := fun {k r} hk => by
    have := r2.and (f := fun _ => r) (fun _ => hk)
    rw [e2] at this
    exact (q1 this).mono (by omega)
  generalize z2.2.append dB b = z3 at r3 i3 d3 ⊢
  have c3 := r3.hi
  by_cases h3 : z3.1 = 0
  case neg =>
    have e3 : ∀ f, andP z3 f = z3 := fun f => if_neg h3
    rw [e3]
    exact ⟨(q2 r3).mono (by omega), fun e => absurd e h3, fun _ => ⟨N, i3.more hsub⟩⟩
  obtain ⟨r4, i4, d4⟩ := sync_law i3 r3.hr (d3 h3) hb
  have e3 : ∀ f, andP z3 f = f z3.2 := fun f => if_pos h3
  rw [e3]
  have q3 : ∀ {k r}, Run k z3.2 r s t → Run (3 + k) x r s t := fun {k r} hk => by
    have := r3.and (f := fun _ => r) (fun _ => hk)
    rw [e3] at this
    exact (q2 this).mono (by omega)
  generalize z3.2.sync dB = z4 at r4 i4 d4 ⊢
  have c4 := r4.hi
  by_cases h4 : z4.1 = 0
  case neg =>
    have e4 : ∀ f, andP z4 f = z4 := fun f => if_neg h4
    rw [e4]
    exact ⟨(q3 r4).mono (by omega), fun e => absurd e h4, fun _ => ⟨N, i4.more hsub⟩⟩
  have m4 := d4 h4
  rw [hbe] at m4
  obtain ⟨r5, N5, i5, d5⟩ := rename_law i4 r4.hr e he hl m4
  have e4 : ∀ f, andP z4 f = f z4.2 := fun f => if_pos h4
  rw [e4]
  have q4 : ∀ {k r}, Run k z4.2 r s t → Run (4 + k) x r s t := fun {k r} hk => by
    have := r4.and (f := fun _ => r) (fun _ => hk)
    rw [e4] at this
    exact (q3 this).mono (by omega)
  generalize z4.2.rename dB (nB (last + 1)) = z5 at r5 i5 d5 ⊢
  have c5 := r5.hi
  by_cases h5 : z5.1 = 0
  case neg =>
    have e5 : ∀ f, andP z5 f = z5 := fun f => if_neg h5
    rw [e5]
    exact ⟨(q4 r5).mono (by omega), fun e => absurd e h5, fun _ => ⟨N5, i5⟩⟩
  have e5 : ∀ f, andP z5 f = f z5.2 := fun f => if_pos h5
  rw [e5]
  have q5 : ∀ {k r}, Run k z5.2 r s t → Run (5 + k) x r s t := fun {k r} hk => by
    have := r5.and (f := fun _ => r) (fun _ => hk)
    rw [e5] at this
    exact (q4 this).mono (by omega)
  obtain ⟨E', hs, ht, hE⟩ := d5 h5
  unfold PS.syncDir
  by_cases h6 : z5.2.beginC.1 = 0
  · rw [if_pos h6]
    refine ⟨(q5 (Run.op (r := (0, { z5.2.begun with kept := z5.2.dir, pend := [] })) r5.hr h6.symm rfl rfl rfl)).mono (by omega), fun _ => ⟨⟨N5, E', ⟨hs, ht, (fun d hd => by cases hd), by omega, i5.filesB, i5.len, i5.cap, rfl, i5.pc.syncedDir⟩, hE⟩, rfl⟩, fun e => absurd rfl e⟩
  · rw [if_neg h6]
    exact ⟨(q5 (Run.op (r := (z5.2.beginC.1, z5.2.begun)) r5.hr rfl rfl rfl rfl)).mono (by omega), fun e => absurd e h6, fun _ => ⟨N5, i5.begun⟩⟩
end
end Go.Proofs.YtfchnpdgnhoffaaGreatDoor
namespace Go.Proofs.YtfchnpdgnhoffaaGreatDoor
open Go.RowKit Go.Shelf Go.Maps

theorem cut_whole {files : Fl} {k : Nat} {b : List UInt8} (h : files[k]? = some (b, b.length)) (f : Nat) (cs : List Int) : (cutF files f cs)[k]? = some (b, b.length) := by
  unfold cutF
  by_cases e : f = k
  · subst e
    rw [get_modify_same, h]
    have hb := cutN_bd cs h (Nat.le_refl _)
    have : cutN files f cs = b.length := by have := hb.1; have := hb.2; simp only at *; omega
    rw [this]
    simp
  · rw [get_modify_other _ _ e]; exact h
theorem cuts_whole (D : Dl) {k : Nat} {b : List UInt8} : ∀ (r : List Nm) (st : Fl × List Int), st.1[k]? = some (b, b.length) → (r.foldl (cutStep D) st).1[k]? = some (b, b.length)
  | [], _, h => h
  | nm :: r, st, h => by
    rw [List.foldl_cons]
    exact cuts_whole D r _ (cut_whole h _ _)
theorem PC.crash {x : PS} (h : PC x) (cs : List Int) : PC (x.crash cs) := by
  have hkp := h.kp
  have hD : (x.crashDir cs).length ≤ x.count := by
    unfold PS.crashDir
    have := fold_len (x.pend.take (nextK cs (x.pend.length : Nat)).toNat) x.kept
    rw [List.length_take] at this
    omega
  exact ⟨by show (x.crashDir cs).length + 0 ≤ x.count; omega, hD⟩
theorem Hr.crashed (x : PS) (cs : List Int) : Hr (x.crash cs) [] (-1) := ⟨(fun f hf => by cases hf), .inl ⟨rfl, rfl⟩⟩
section
variable {x : PS} {N : Nat} {E : Nat → Option Ent} {c : List Rec} {last : Nat} {may : List (List Rec)}
theorem Says.less {files : List (List UInt8 × Nat)} {D : Dl} {m : Nat} (h : Says files N D E (m + 1)) (he : E (m + 1) = none) : Says files N D E m where
  names := fun y hy => by
    rcases h.names y hy with h1 | ⟨n, h1, h2, h3⟩
    · exact .inl h1
    · rcases Nat.lt_or_ge m n with h4 | h4
      · have e : n = m + 1 := by omega
        subst e
        have := dget_none.1 (h.none_ (m + 1) h1 (Nat.le_refl _) he) y hy
        exact absurd h3 this
      · exact .inr ⟨n, h1, h4, h3⟩
  none_ := fun n h1 h2 => h.none_ n h1 (by omega)
  some_ := fun n e h1 => by
    obtain ⟨h2, h3, h4⟩ := h.some_ n e h1
    refine ⟨h2, ?_, h4⟩
    rcases Nat.lt_or_ge m n with h5 | h5
    · have e2 : n = m + 1 := by omega
      rw [e2, he] at h1
      cases h1
    · exact h5
theorem Inv.crash (h : Inv x N E c last may) (hl : last ≤ 97) (cs : List Int) : ∃ E' c' last', Inv (x.crash cs) N E' c' last' [] ∧ ((c' = c ∧ last' = last) ∨ (c' ∈ may ∧ last' = last + 1)) := by
  obtain ⟨E', hst⟩ := St.steps h.lastB (x.pend.take (nextK cs (x.pend.length : Nat)).toNat) x.kept E (St.start h.says h.lastB) (fun d hd => h.pend d (List.mem_of_mem_take hd))
  have hst : St x.files N E c last may (x.crashDir cs) E' := hst
  obtain ⟨t1, t2⟩ := hst.tell h.told
  have hfl : (x.crash cs).files.length = x.files.length := cut_len _ _ _
  have hfB : ∀ y ∈ (x.crash cs).files, y.1.length ≤ 50000 ∧ y.2 ≤ y.1.length := cut_all _ 50000 _ _ h.filesB
  have hsay : ∀ m, Says x.files N (x.crashDir cs) E' m → Says (x.crash cs).files N (x.crashDir cs) E' m := fun m hs => ⟨hs.names, hs.none_, fun n e he => by
    obtain ⟨h1, h2, f, h3, h4, h5, h6⟩ := hs.some_ n e he
    exact ⟨h1, h2, f, h3, h4, cuts_whole _ _ _ h5, h6⟩⟩
  cases he : E' (last + 1) with
  | none =>
    exact ⟨E', c, last, ⟨hsay _ (hst.says.less he), t1, (fun d hd => by cases hd), h.lastB, hfB, by rw [hfl]; exact h.len, h.cap, rfl, h.pc.crash cs⟩, .inl ⟨rfl, rfl⟩⟩
  | some e =>
    rw [he] at t2
    exact ⟨E', e.next c, last + 1, ⟨hsay _ hst.says, t2, (fun d hd => by cases hd), by omega, hfB, by rw [hfl]; exact h.len, h.cap, rfl, h.pc.crash cs⟩, .inr ⟨hst.more e he, rfl⟩⟩
/-- what is found when nothing was refused -/
theorem Inv.finds (h : Inv x N E c last []) : ∃ E', Says x.files N x.dir E' (last + 1) ∧ (∀ n e, E' n = some e → (dget x.kept (nameL n)).isSome = true) ∧ tell E' (last + 1) = (c, last) := by
  obtain ⟨E', hst⟩ := h.steps
  obtain ⟨t1, t2⟩ := hst.tell h.told
  have he : E' (last + 1) = none := by
    cases he : E' (last + 1) with
    | none => rfl
    | some e => exact absurd (hst.more e he) (by simp)
  rw [he] at t2
  refine ⟨E', hst.says, fun n e h1 => ?_, t2⟩
  obtain ⟨h2, h3, -⟩ := hst.says.some_ n e h1
  have h4 : n ≤ last := by
    rcases Nat.lt_or_ge last n with h5 | h5
    · have e2 : n = last + 1 := by omega
      rw [e2, he] at h1
      cases h1
    · exact h5
  cases h5 : E n with
  | none => rw [hst.sub n h4 h5] at h1; cases h1
  | some e2 =>
    obtain ⟨-, -, f, h6, -⟩ := h.says.some_ n e2 h5
    rw [h6]; rfl
end

/-! ### what a checkpoint takes away -/
def sweepP (last : Nat) (x : PS) (nm : Nm) : PS := match numL nm with
  | some n => if n < last then (x.remove (nmBA nm)).2 else x
  | none => x
theorem sweep_law {N : Nat} {E : Nat → Option Ent} {c : List Rec} {last : Nat} {may : List (List Rec)} {s : List Int} {t : Int} (e : Ent) (he : E last = some e) (ha : e.all = true) :
    ∀ (l : List Nm) (x : PS), Inv x N E c last may → Hr x s t → (∀ nm ∈ l, nm = draftL ∨ ∃ n, 1 ≤ n ∧ n ≤ 99 ∧ nm = nameL n) →
      Inv (l.foldl (sweepP last) x) N E c last may ∧ Hr (l.foldl (sweepP last) x) s t ∧ x.count ≤ (l.foldl (sweepP last) x).count ∧ (l.foldl (sweepP last) x).count ≤ x.count + l.length ∧ (x.flts = [] → x.stop = -1 → (l.foldl (sweepP last) x).flts = [] ∧ (l.foldl (sweepP last) x).stop = -1)
  | [], x, h, hr, _ => ⟨h, hr, Nat.le_refl _, Nat.le_refl _, fun h1 h2 => ⟨h1, h2⟩⟩
  | nm :: l, x, h, hr, hn => by
    have key : Inv (sweepP last x nm) N E c last may ∧ Hr (sweepP last x nm) s t ∧ x.count ≤ (sweepP last x nm).count ∧ (sweepP last x nm).count ≤ x.count + 1 ∧ (x.flts = [] → x.stop = -1 → (sweepP last x nm).flts = [] ∧ (sweepP last x nm).stop = -1) := by
      have hbg : x.flts = [] → x.stop = -1 → x.begun.flts = [] ∧ x.begun.stop = -1 := fun e1 e2 => ⟨by show rleft x.flts = []; rw [e1]; rfl, by show (if 0 < x.stop then x.stop - 1 else x.stop) = -1; rw [e2]; rfl⟩
      unfold sweepP
      rcases hn nm List.mem_cons_self with rfl | ⟨n, h1, h2, rfl⟩
      · rw [numL_draft]
        exact ⟨h, hr, Nat.le_refl _, Nat.le_succ _, fun h1 h2 => ⟨h1, h2⟩⟩
      · rw [numL_name h1 (by omega)]
        simp only
        split
        · rename_i hlt
          unfold PS.remove
          rw [nmBA_data]
          split
          · split
            · split
              · exact ⟨h.changed ⟨3, [], nameL n, 0⟩ (show (3 : Int) ≠ 1 by decide) (.unname _ _ n h1 hlt e he ha), hr.begun.same rfl rfl rfl, Nat.le_succ _, Nat.le_refl _, hbg⟩
              · exact ⟨h.begun, hr.begun, Nat.le_succ _, Nat.le_refl _, hbg⟩
            · exact ⟨h.begun, hr.begun, Nat.le_succ _, Nat.le_refl _, hbg⟩
          · exact ⟨h.begun, hr.begun, Nat.le_succ _, Nat.le_refl _, hbg⟩
        · exact ⟨h, hr, Nat.le_refl _, Nat.le_succ _, fun h1 h2 => ⟨h1, h2⟩⟩
    obtain ⟨k1, k2, k3, k4, k5⟩ := key
    obtain ⟨i1, i2, i3, i4, i5⟩ := sweep_law e he ha l (sweepP last x nm) k1 k2 (fun m hm => hn m (List.mem_cons_of_mem _ hm))
    rw [List.foldl_cons]
    refine ⟨i1, i2, by omega, ?_, fun h1 h2 => i5 (k5 h1 h2).1 (k5 h1 h2).2⟩
    rw [List.length_cons]
    omega
end Go.Proofs.YtfchnpdgnhoffaaGreatDoor
namespace Go.Proofs.YtfchnpdgnhoffaaGreatDoor
open Go.RowKit Go.Shelf Go.Maps

/-! ### the numbers that are found -/
def numOf (x : PS) (nm : Nm) : Option Int := match numL nm with
  | some n => if nm ∈ x.durable then some (n : Int) else none
  | none => none
def numsP (x : PS) (l : List Nm) : List Int := l.filterMap (numOf x)
theorem numsP_snoc (x : PS) (l : List Nm) (a : Nm) : numsP x (l ++ [a]) = numsP x l ++ (numOf x a).toList := by
  unfold numsP
  rw [List.filterMap_append]
  congr 1
theorem numsP_len (x : PS) (l : List Nm) : (numsP x l).length ≤ l.length := List.length_filterMap_le _ _
theorem list_pw {x : PS} (h : RDir x.dir) (pre : Nm) : (x.list pre).Pairwise (· ≠ ·) := by
  have h1 : (begN pre (x.dir.map (·.1))).Pairwise (· ≠ ·) := by
    unfold begN
    refine List.Pairwise.filter _ ?_
    rw [List.pairwise_map]
    exact h.names
  exact ((List.mergeSort_perm _ _).pairwise_iff (fun {a b} (h : a ≠ b) => h.symm)).2 h1
theorem mem_list {x : PS} {pre nm : Nm} : nm ∈ x.list pre ↔ (∃ f, (nm, f) ∈ x.dir) ∧ Go.Lib.hasPrefix nm pre = true := by
  unfold PS.list begN
  rw [List.mem_mergeSort, List.mem_filter, List.mem_map]
  constructor
  · rintro ⟨⟨y, hy, rfl⟩, h2⟩
    exact ⟨⟨y.2, hy⟩, h2⟩
  · rintro ⟨⟨f, hf⟩, h2⟩
    exact ⟨⟨_, hf, rfl⟩, h2⟩
theorem mem_durable {x : PS} {nm : Nm} : nm ∈ x.durable ↔ ∃ f, (nm, f) ∈ x.kept := by
  unfold PS.durable
  rw [List.mem_mergeSort, List.mem_map]
  constructor
  · rintro ⟨y, hy, rfl⟩
    exact ⟨y.2, hy⟩
  · rintro ⟨f, hf⟩
    exact ⟨_, hf, rfl⟩
theorem pre_name (n : Nat) : Go.Lib.hasPrefix (nameL n) preL = true := by
  unfold nameL
  rfl
theorem numL_some {nm : Nm} {n : Nat} (h : numL nm = some n) : nm = nameL n ∧ 1 ≤ n ∧ n < 100 := by
  unfold numL at h
  have h1 := List.find?_some h
  have h2 := List.mem_range'_1.1 (List.mem_of_find?_eq_some h)
  exact ⟨by simpa using h1, h2.1, by omega⟩
/-- the numbers of a directory's entries, rising -/
def entN (E : Nat → Option Ent) (m : Nat) : List Nat := (List.range' 1 m).filter fun n => (E n).isSome
theorem sortZ_unique {l l' : List Int} (h : l.Perm l') (hs : l.Pairwise fun x y => x ≤ y) : l = l'.mergeSort (fun x y => decide (x ≤ y)) := by
  refine List.Perm.eq_of_pairwise (le := fun a b => decide (a ≤ b) = true) (fun a b _ _ h1 h2 => ?_) (hs.imp fun h => by simpa using h) (List.pairwise_mergeSort ?_ ?_ l') (h.trans (List.mergeSort_perm l' _).symm)
  · simp only [decide_eq_true_eq] at h1 h2
    omega
  · intro a b c h1 h2
    simp only [decide_eq_true_eq] at *
    omega
  · intro a b
    simp only [Bool.or_eq_true, decide_eq_true_eq]
    omega
theorem numsP_sorted {x : PS} {N m : Nat} {E : Nat → Option Ent} (h : Says x.files N x.dir E m) (hm : m ≤ 99) (hr : RDir x.dir) (hk : ∀ n e, E n = some e → (dget x.kept (nameL n)).isSome = true) :
    (numsP x (x.list preL)).mergeSort (fun a b => decide (a ≤ b)) = (entN E m).map (fun n : Nat => (n : Int)) := by
  refine (sortZ_unique ?_ ?_).symm
  · refine (List.perm_ext_iff_of_nodup ?_ ?_).2 fun z => ?_
    · unfold List.Nodup
      rw [List.pairwise_map]
      refine List.Pairwise.imp (fun hne e => hne (by omega)) (List.Pairwise.filter _ (List.pairwise_lt_range' (s := 1) (n := m)) |>.imp fun {a b} (h : a < b) => (show a ≠ b by omega))
    · unfold List.Nodup numsP
      refine List.Pairwise.filterMap _ (fun a a' hne b hb b' hb' e => ?_) (list_pw hr preL)
      unfold numOf at hb hb'
      cases h1 : numL a with
      | none => rw [h1] at hb; cases hb
      | some n =>
        cases h2 : numL a' with
        | none => rw [h2] at hb'; cases hb'
        | some n' =>
          rw [h1] at hb
          rw [h2] at hb'
          simp only at hb hb'
          split at hb
          · split at hb'
            · injection hb with hb
              injection hb' with hb'
              have : n = n' := by omega
              exact hne (by rw [(numL_some h1).1, (numL_some h2).1, this])
            · cases hb'
          · cases hb
    · constructor
      · intro hz
        obtain ⟨n, hn, rfl⟩ := List.mem_map.1 hz
        obtain ⟨hn1, hn2⟩ := List.mem_filter.1 hn
        obtain ⟨e, he⟩ := Option.isSome_iff_exists.1 hn2
        obtain ⟨h1, h2, f, h3, h4⟩ := h.some_ n e he
        refine List.mem_filterMap.2 ⟨nameL n, mem_list.2 ⟨⟨f, dget_mem h3⟩, pre_name n⟩, ?_⟩
        obtain ⟨g, hg⟩ := Option.isSome_iff_exists.1 (hk n e he)
        unfold numOf
        rw [numL_name h1 (by omega)]
        exact if_pos (mem_durable.2 ⟨g, dget_mem hg⟩)
      · intro hz
        obtain ⟨nm, hnm, hz⟩ := List.mem_filterMap.1 hz
        obtain ⟨⟨f, hf⟩, -⟩ := mem_list.1 hnm
        unfold numOf at hz
        cases h1 : numL nm with
        | none => rw [h1] at hz; cases hz
        | some n =>
          rw [h1] at hz
          simp only at hz
          split at hz
          · injection hz with hz
            obtain ⟨rfl, h2, h3⟩ := numL_some h1
            have h4 : n ≤ m := by
              rcases h.names _ hf with h5 | ⟨k, h5, h6, h7⟩
              · exact absurd h5 (nameL_draft n)
              · have := nameL_inj h3 (by omega) h7
                omega
            have h5 := dget_of_mem hr.names hf
            refine List.mem_map.2 ⟨n, List.mem_filter.2 ⟨List.mem_range'_1.2 ⟨h2, by omega⟩, ?_⟩, hz⟩
            cases he : E n with
            | some e => rfl
            | none => rw [h.none_ n h2 h4 he] at h5; cases h5
          · cases hz
  · rw [List.pairwise_map]
    exact (List.Pairwise.filter _ (List.pairwise_lt_range' (s := 1) (n := m))).imp fun {a b : Nat} (h : a < b) => (show (a : Int) ≤ (b : Int) by omega)
def stepE (E : Nat → Option Ent) (s : List Rec × Nat) (n : Nat) : List Rec × Nat := match E n with
  | some e => if e.all = true ∨ n = s.2 + 1 then (e.next s.1, n) else s
  | none => s
theorem fold_tell (E : Nat → Option Ent) : ∀ m, (entN E m).foldl (stepE E) ([], 0) = tell E m
  | 0 => rfl
  | m + 1 => by
    unfold entN
    rw [List.range'_1_concat, List.filter_append, List.foldl_append]
    have ih := fold_tell E m
    unfold entN at ih
    rw [ih, Nat.add_comm 1 m]
    show _ = (match E (m + 1) with | none => _ | some e => _)
    cases he : E (m + 1) with
    | none => simp [he]
    | some e =>
      simp only [List.filter_cons, he, Option.isSome_some, if_true, List.filter_nil, List.foldl_cons, List.foldl_nil, stepE]
      by_cases h1 : e.all = true ∨ (tell E m).2 = m
      · rw [if_pos h1, if_pos (h1.imp id fun h => by omega)]
      · rw [if_neg h1, if_neg (fun h => h1 (h.imp id fun h => by omega))]

/-! ### library calls -/
theorem add_at0 (g j : Nat) : (⟨g, 0, none⟩ : Addr).add j = ⟨g, 0 + j, none⟩ := by unfold Addr.add; split <;> simp_all
theorem sort_int (w : World) (B : Nat) (v : Value) (zs : List Int) (h : w.ownsRow B 3 1 v zs.length (zs.map (Value.int .i64))) (hl : zs.length ≤ 10000000) :
    Calls Tryz.prog 66 #[v] w fun e w' => e = .returned (.tuple #[]) ∧ w'.ownsRow B 3 1 v zs.length ((zs.mergeSort fun x y => decide (x ≤ y)).map (Value.int .i64)) ∧ w.grownBy w' v.ownBlock := by
  by_cases h0 : zs = []
  · subst h0
    obtain ⟨A, c, rfl⟩ := own_slice h
    refine (Tryz.slices_Sort_int_none A c w).mono ?_
    rintro e w' ⟨rfl, rfl⟩
    exact ⟨rfl, by rw [List.mergeSort_nil]; exact h, only_refl _ _⟩
  · have hpos : 0 < zs.length := List.length_pos_iff.2 h0
    obtain ⟨g, cap, cur, hv, hbg, hcur, hncap, hcm, hcs, -⟩ := h.2.resolve_left (fun h => by omega)
    subst hv
    obtain ⟨g', cap', he, -, hgl, -, -, -, hH⟩ := Lib.holds_of_ownsRow h (by simp)
    obtain ⟨rfl, rfl⟩ : g = g' ∧ cap = cap' := by injection he with a b c; injection a with a; injection a with a; exact ⟨a, c⟩
    refine (Tryz.slices_Sort_int g 0 cap zs w hH hgl (by omega)).mono ?_
    rintro e w' ⟨rfl, q, os, rfl⟩
    exact ⟨rfl, ownsRow_sortedI (List.length_mergeSort ..) hbg hcur hncap hcm hcs, grownBy_sortedI _⟩
theorem nm_of_str {l : List Nm} {j : Nat} (hj : j < l.length) : (l.map encStr)[j]? = some (.string (nmBA l[j])) := by
  rw [List.getElem?_map, List.getElem?_eq_getElem hj]
  rfl
theorem contains_any (w : World) (B : Nat) (v : Value) (l : List Nm) (s : Nm) (h : w.ownsRow B 9 1 v l.length (l.map encStr)) (hl : l.length ≤ 10000000) :
    Calls Tryz.prog 45 #[v, .string (nmBA s)] w fun e w' => e = .returned (.bool (decide (s ∈ l))) ∧ w' = w := by
  by_cases h0 : l = []
  · subst h0
    obtain ⟨A, c, rfl⟩ := own_slice h
    refine (Tryz.slices_Contains_string_empty A c (nmBA s) w).mono ?_
    rintro e w' ⟨rfl, rfl⟩
    exact ⟨by simp, rfl⟩
  · have hpos : 0 < l.length := List.length_pos_iff.2 h0
    obtain ⟨g, cap, hv, hbg, hlt⟩ := h.form hpos
    subst hv
    have hcell := h.cells (g := g) rfl
    refine (Tryz.slices_Contains_string g 0 l.length cap (l.map nmBA) (nmBA s) w (by simp) (by omega) (fun j hj => ?_)).mono ?_
    · have hj2 : j < l.length := by simpa using hj
      have h1 := hcell j _ (nm_of_str hj2)
      rw [add_at0] at h1
      rw [h1]
      simp [List.getD, List.getElem?_eq_getElem hj2]
    · rintro e w' ⟨rfl, rfl⟩
      refine ⟨?_, rfl⟩
      have h2 : Go.Lib.containsS ((l.map nmBA).take l.length) (nmBA s) = decide (s ∈ l) := by
        rw [List.take_of_length_le (by simp)]
        have h3 := Go.Lib.containsS_iff (l.map nmBA) (nmBA s)
        have h4 : nmBA s ∈ l.map nmBA ↔ s ∈ l := by
          rw [List.mem_map]
          constructor
          · rintro ⟨a, ha, e⟩
            have : a = s := by rw [← nmBA_data a, ← nmBA_data s, e]
            rw [← this]; exact ha
          · exact fun hs => ⟨s, hs, rfl⟩
        by_cases hs : s ∈ l
        · rw [h3.2 (h4.2 hs), decide_eq_true hs]
        · rw [decide_eq_false hs]
          cases hb : Go.Lib.containsS (l.map nmBA) (nmBA s) with
          | false => rfl
          | true => exact absurd (h4.1 (h3.1 hb)) hs
      rw [h2]
end Go.Proofs.YtfchnpdgnhoffaaGreatDoor
namespace Go.Proofs.YtfchnpdgnhoffaaGreatDoor
open Go.RowKit Go.Shelf Go.Maps

/-- what the variable strconv.ErrSyntax holds is an error, or none -/
def SynW (w : World) : Prop := ∃ ev, w.cell? ⟨0, 0, none⟩ = some ev ∧ (ev = .nilIface ∨ ∃ te pe, ev = .iface te pe)
theorem SynW.lt {w : World} (h : SynW w) : 0 < w.heap.size := by
  obtain ⟨ev, h1, -⟩ := h
  exact World.block_lt_of_cell? w _ h1
theorem SynW.below {w w' : World} {B : Nat} (h : SynW w) (hb : Below B w w') (hB : 0 < B) : SynW w' := by
  obtain ⟨ev, h1, h2⟩ := h
  exact ⟨ev, (hb.cell (p := ⟨0, 0, none⟩) hB).trans h1, h2⟩
theorem trim_name (n : Nat) : Go.Lib.trimPrefix (nB n).data.toList preL = digL n := by
  show Go.Lib.trimPrefix (nmBA (nameL n)).data.toList preL = digL n
  rw [nmBA_data]
  rfl
theorem trim_draft : Go.Lib.trimPrefix dB.data.toList preL = [110, 101, 119] := by decide
theorem atoi_new : Go.Lib.atoi [110, 101, 119] = none := by decide
theorem nB_size (n : Nat) : (nB n).size = 16 := rfl
set_option maxRecDepth 100000 in
set_option maxHeartbeats 3200000 in
theorem number_name (n : Nat) (h1 : 1 ≤ n) (hn : n < 100) (w : World) : Calls Tryz.prog 63 #[.string (nB n)] w fun e w' => e = .returned (.tuple #[.int .i64 (n : Int), .bool true]) ∧ Below w.heap.size w w' := by
  have hT := Tryz.strings_TrimPrefix (nB n) ⟨#[119, 97, 108, 47]⟩ w
  have e1 : Go.Lib.trimPrefix (nB n).data.toList (⟨#[119, 97, 108, 47]⟩ : ByteArray).data.toList = digL n := trim_name n
  rw [e1] at hT
  have hA := Tryz.strconv_Atoi ⟨(digL n).toArray⟩ n (Nat.le_of_ble_eq_true rfl) (by show Go.Lib.atoi (digL n).toArray.toList = _; exact digL_atoi ⟨n, hn⟩) w
  obtain ⟨s, hs⟩ : ∃ s, s = nB n := ⟨_, rfl⟩
  rw [← hs] at hT ⊢
  have HT := Lib.hid hT
  have HA := Lib.hid hA
  have HS := Lib.hid hs
  clear hT hA hs e1
  have hpos : decide ((0 : Int) < n) = true := by simp; omega
  go_enter Tryz.func63, Tryz.ntmps63
  go_wp2_with fail
  refine HT.out.mono ?_
  rintro e w1 ⟨rfl, rfl⟩
  go_wp2_with fail
  refine HA.out.mono ?_
  rintro e w2 ⟨rfl, t, hw2⟩
  have hb2 : Below w1.heap.size w1 w2 := by rw [hw2]; exact Joins.below_bytesWorld _ _ _ _ (Nat.le_refl _)
  have HB2 := Lib.hid hb2
  clear hw2 hb2
  go_wp2_with fail
  refine (named_any n hn w2).mono ?_
  rintro e w3 ⟨rfl, hb3⟩
  rw [← HS.out]
  have HB3 := Lib.hid (HB2.out.trans (hb3.mono HB2.out.size))
  clear hb3
  go_wp2
  go_ret2
  exact ⟨rfl, HB3.out⟩

set_option maxRecDepth 100000 in
set_option maxHeartbeats 3200000 in
theorem number_draft (w : World) (hS : SynW w) : Calls Tryz.prog 63 #[.string dB] w fun e w' => e = .returned (.tuple #[.int .i64 0, .bool false]) ∧ Below w.heap.size w w' := by
  have hT := Tryz.strings_TrimPrefix dB ⟨#[119, 97, 108, 47]⟩ w
  have e1 : Go.Lib.trimPrefix dB.data.toList (⟨#[119, 97, 108, 47]⟩ : ByteArray).data.toList = [110, 101, 119] := trim_draft
  rw [e1] at hT
  obtain ⟨ev, hv, hev⟩ := hS
  have hA := Tryz.strconv_Atoi_err ⟨#[110, 101, 119]⟩ (by decide) atoi_new ev w hv hev
  obtain ⟨s, hs⟩ : ∃ s, s = dB := ⟨_, rfl⟩
  rw [← hs] at hT ⊢
  have HT := Lib.hid hT
  have HA := Lib.hid hA
  clear hT hA hs e1 hev
  go_enter Tryz.func63, Tryz.ntmps63
  go_wp2_with fail
  refine HT.out.mono ?_
  rintro e w1 ⟨rfl, rfl⟩
  go_wp2_with fail
  refine HA.out.mono ?_
  rintro e w2 ⟨N, rfl, -, -, hb2⟩
  have HB2 := Lib.hid hb2
  clear hb2
  go_wp2
  go_ret2
  exact ⟨rfl, HB2.out⟩
end Go.Proofs.YtfchnpdgnhoffaaGreatDoor
