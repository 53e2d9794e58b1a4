/- The keeper's LendBytes (function 47). The disk, told plainly: what each of its functions answers and leaves. Printed by gen_pl.py out of the disk seat's texts. The program's disk and the document's, side by side, in plain Lean: when their states tell the same. Each operation keeps the two disks alike, and is answered alike. -/
import Derived.Test.YtfchnpdgnhoffaaGreatDoorJ06Turn
namespace Go.Proofs.YtfchnpdgnhoffaaGreatDoor
open Go.RowKit Go.Shelf Go.Maps

def markV : List UInt8 := [201, 202, 203, 204]
theorem four_bytes (w : World) : Reads (w.alloc (.cells #[.int .u8 201, .int .u8 202, .int .u8 203, .int .u8 204] 5)) (w.heap.size + 1) 1 (some ⟨w.heap.size, 0, none⟩) 4 (bytesV markV) := by
  have hb := Blk.new w 5 #[.int .u8 201, .int .u8 202, .int .u8 203, .int .u8 204]
  refine ⟨rfl, fun _ => ⟨_, rfl, by show w.heap.size < _; omega, fun j u hu => ?_⟩⟩
  have e : (⟨w.heap.size, 0, none⟩ : Addr).add j = ⟨w.heap.size, j, none⟩ := by unfold Addr.add; split <;> simp_all
  rw [e, hb.cell j, ← Array.getElem?_toList]
  exact hu

set_option maxRecDepth 100000 in
set_option maxHeartbeats 6400000 in
theorem lend_any (w : World) (A : Option Addr) (n c : Nat) (b : List UInt8) (h : Reads w w.heap.size 1 A n (bytesV b)) (hn : n ≤ 1000) :
    Calls Tryz.prog 37 #[.slice A n c] w fun e w' => ∃ g cap, e = .returned (.slice (some ⟨g, 0, none⟩) n cap) ∧ w'.ownsRow w.heap.size 5 1 (.slice (some ⟨g, 0, none⟩) (n + 4) cap) (n + 4) (bytesV (b ++ markV)) ∧ Below w.heap.size w w' := by
  obtain ⟨i5, hi5, hz50, hz51, hz52⟩ := info_parts info5
  have HI5 := Lib.hid hi5
  have HZ50 := Lib.hid hz50
  have HZ51 := Lib.hid hz51
  have HZ52 := Lib.hid hz52
  have hb1 : Below w.heap.size w (w.alloc (.cells #[] 5)) := (Below.refl _ w).alloc (Nat.le_refl _) _
  have HR1 := Lib.hid (h.below hb1)
  have HB1 := Lib.hid hb1
  have HOW := Lib.hid (World.ownsRow_lit (base := w.heap.size) (e := 5) (size := 1) w #[] 0 (Nat.le_refl _) (Nat.zero_le _) rfl)
  clear hi5 hz50 hz51 hz52 h hb1
  go_enter Tryz.func37, Tryz.ntmps37
  go_wp2_with (first
    | (at_builtin; (refine wpList_append_any _ rfl (.tmp 4) (.tmp 5) 25 rfl w.heap.size 5 i5 (.int .u8 0) 1 1 Tryz.underlying25 HI5.out HZ50.out HZ51.out HZ52.out rfl (by omega) (.slice (some ⟨w.heap.size, 0, none⟩) 0 0) 0 [] rfl HOW.out w.heap.size A n c (bytesV b) rfl HR1.out (bytesV_one _) (by simp [maxLen]; omega) (by omega) (by simp) ?_; intro v4 w4 hown4 hgrow4 _; rw [Nat.zero_add, List.nil_append] at hown4; obtain ⟨A5, d5, hv5⟩ := own_slice hown4; subst hv5; have hs4 := hgrow4.size; rw [World.size_alloc] at hs4; have HW4 := Lib.hid hown4; have HB4 := Lib.hid (HB1.out.grown hgrow4 (by simp) (fun k hk => by cases hk; exact Nat.le_refl _)); clear hown4 hgrow4))
    | (at_builtin; (refine wpList_append_any _ rfl (.tmp 6) (.tmp 7) 25 rfl w.heap.size 5 i5 (.int .u8 0) 1 1 Tryz.underlying25 HI5.out HZ50.out HZ51.out HZ52.out rfl (by omega) (.slice A5 n d5) n (bytesV b) rfl (HW4.out.alloc _) (w4.heap.size + 1) (some ⟨w4.heap.size, 0, none⟩) 4 4 (bytesV markV) rfl (four_bytes w4) (bytesV_one _) (by simp [maxLen]; omega) (by omega) (by simp; omega) ?_; intro v6 w6 hown6 hgrow6 _; obtain ⟨A7, d7, hv7⟩ := own_slice hown6; subst hv7; obtain ⟨g7, c7, hA7⟩ := own_succ hown6 (by omega); injection hA7 with hA7 _ hc7'; subst hc7'; subst hA7; have hs6 := hgrow6.size; have HW6 := Lib.hid hown6; have HB6 := Lib.hid ((HB4.out.alloc (by omega) (.cells #[.int .u8 201, .int .u8 202, .int .u8 203, .int .u8 204] 5)).grown hgrow6 (by simp; omega) (fun k hk => (HW4.out.lt k hk).1)); have hc7 := own_capv hown6; clear hown6 hgrow6)))
  go_ret
  have h6 := HW6.out
  rw [show bytesV b ++ bytesV markV = bytesV (b ++ markV) by simp [bytesV]] at h6
  exact ⟨g7, d7, rfl, h6, HB6.out⟩
end Go.Proofs.YtfchnpdgnhoffaaGreatDoor
namespace Go.Proofs.YtfchnpdgnhoffaaGreatDoor
open Go.RowKit Go.Shelf Go.Maps

/-- a change that pends -/
structure RC where
  kind : Int
  old : Nm
  nm : Nm
  file : Nat
/-- block k holds cells of type t -/
def IsT (w : World) (k : Nat) (t : TypeId) : Prop := ∃ cs fr, w.heap[k]? = some (.cells cs t fr)
theorem IsT.keep {w w' : World} {k : Nat} {t : TypeId} (h : IsT w k t) (hk : w'.heap[k]? = w.heap[k]?) : IsT w' k t := by
  obtain ⟨cs, fr, e⟩ := h
  exact ⟨cs, fr, hk.trans e⟩
theorem IsT.lt {w : World} {k : Nat} {t : TypeId} (h : IsT w k t) : k < w.heap.size := by
  obtain ⟨cs, fr, e⟩ := h
  rcases Nat.lt_or_ge k w.heap.size with hlt | hge
  · exact hlt
  · rw [Array.getElem?_eq_none hge] at e; cases e
theorem IsT.of_blk {w : World} {k : Nat} {t : TypeId} {cs : Array Value} (h : Blk w k t cs) : IsT w k t := ⟨cs, _, h⟩
theorem IsT.of_own {w : World} {base : Nat} {e : TypeId} {size n : Nat} {v : Value} {xs : List Value} (h : w.ownsRow base e size v n xs) {k : Nat} (hk : v.ownBlock = some k) : IsT w k e := by
  rcases h.2 with ⟨rfl, _⟩ | ⟨g, cap, cur, rfl, _, hh, _⟩
  · cases hk
  · have : g = k := by simpa [Value.ownBlock] using hk
    subst this
    exact ⟨_, _, hh⟩
theorem IsT.ne {w : World} {k k' : Nat} {t t' : TypeId} (h : IsT w k t) (h' : IsT w k' t') (hne : t ≠ t') : k ≠ k' := by
  rintro rfl
  obtain ⟨cs, fr, e⟩ := h
  obtain ⟨cs', fr', e'⟩ := h'
  rw [e] at e'
  injection e' with e'
  injection e' with _ e' _
  exact hne e'


/-- the document's disk without its memory -/
structure PS where
  cap : Int
  files : List (List UInt8 × Nat)
  dir : Dl
  kept : Dl
  pend : List RC
  flts : List (Int × Int)
  stop : Int
  count : Nat
def rstruck : List (Int × Int) → Int
  | [] => 0
  | f :: l => if 0 < f.1 then rstruck l else if f.2 = 2 then 2 else 1
def rleft : List (Int × Int) → List (Int × Int)
  | [] => []
  | f :: l => if 0 < f.1 then (f.1 - 1, f.2) :: rleft l else rleft l
def PS.begun (x : PS) : PS := { x with count := x.count + 1, flts := rleft x.flts, stop := if 0 < x.stop then x.stop - 1 else x.stop }
/-- the refusal and the kind of what struck -/
def PS.beginC (x : PS) : Int × Int := if x.stop = 0 then (7, 0) else if rstruck x.flts = 0 then (0, 0) else (6, rstruck x.flts)

theorem rleft_append (a b : List (Int × Int)) : rleft (a ++ b) = rleft a ++ rleft b := by
  induction a with
  | nil => rfl
  | cons f a ih =>
    simp only [List.cons_append, rleft, ih]
    split <;> rfl
theorem rstruck_append (a b : List (Int × Int)) : rstruck (a ++ b) = if rstruck a = 0 then rstruck b else rstruck a := by
  induction a with
  | nil => rfl
  | cons f a ih =>
    simp only [List.cons_append, rstruck, ih]
    split
    · rfl
    · split <;> rfl
theorem rleft_take (l : List (Int × Int)) (k : Nat) (h : k < l.length) : rleft (l.take (k + 1)) = rleft (l.take k) ++ (if 0 < l[k].1 then [(l[k].1 - 1, l[k].2)] else []) := by
  rw [List.take_succ_eq_append_getElem h, rleft_append]
  rfl
theorem rstruck_take (l : List (Int × Int)) (k : Nat) (h : k < l.length) : rstruck (l.take (k + 1)) = if rstruck (l.take k) = 0 then (if 0 < l[k].1 then 0 else if l[k].2 = 2 then 2 else 1) else rstruck (l.take k) := by
  rw [List.take_succ_eq_append_getElem h, rstruck_append]
  rfl
theorem rleft_len : ∀ l : List (Int × Int), (rleft l).length ≤ l.length
  | [] => Nat.le_refl _
  | f :: l => by
    have := rleft_len l
    show (if 0 < f.1 then _ else _ : List (Int × Int)).length ≤ _
    split <;> simp <;> omega
theorem rstruck_range : ∀ l : List (Int × Int), rstruck l = 0 ∨ rstruck l = 1 ∨ rstruck l = 2
  | [] => .inl rfl
  | f :: l => by
    show (if 0 < f.1 then rstruck l else if f.2 = 2 then 2 else 1) = 0 ∨ (if 0 < f.1 then rstruck l else if f.2 = 2 then 2 else 1) = 1 ∨ (if 0 < f.1 then rstruck l else if f.2 = 2 then 2 else 1) = 2
    split
    · exact rstruck_range l
    · split
      · exact .inr (.inr rfl)
      · exact .inr (.inl rfl)

/-! ### the operations, plainly -/
def PS.created (x : PS) (nm : Nm) : PS := { x with files := x.files ++ [([], 0)], dir := ddel x.dir nm ++ [(nm, x.files.length)], pend := x.pend ++ [⟨1, [], nm, x.files.length⟩] }
def PS.create (x : PS) (nm : ByteArray) : Int × PS :=
  if x.beginC.1 = 0 then
    if rightB nm = true then
      match dget x.dir nm.data.toList with
      | some _ => (4, x.begun)
      | none => (0, x.begun.created nm.data.toList)
    else (2, x.begun)
  else (x.beginC.1, x.begun)
def flen (l : List (List UInt8 × Nat)) (f : Nat) : Nat := match l[f]? with
  | some y => y.1.length
  | none => 0
def PS.used (x : PS) : Nat := (x.dir.map fun e => flen x.files e.2).sum
def PS.add (x : PS) (f : Nat) (b : List UInt8) : PS := { x with files := x.files.modify f fun y => (y.1 ++ b, y.2) }
def PS.addTo (x : PS) (nm : Nm) (b : List UInt8) : PS := match dget x.dir nm with
  | some f => x.add f b
  | none => x
def PS.fits (x : PS) (nm : ByteArray) (n : Nat) : Int :=
  if rightB nm = true then
    match dget x.dir nm.data.toList with
    | some _ => if n = 0 ∨ (n : Int) ≤ x.cap - (x.used : Int) then 0 else 5
    | none => 3
  else 2
def PS.append (x : PS) (nm : ByteArray) (b : List UInt8) : Int × PS :=
  if x.beginC.1 = 0 then (x.fits nm b.length, if x.fits nm b.length = 0 then x.begun.addTo nm.data.toList b else x.begun)
  else (x.beginC.1, if x.beginC.2 = 2 ∧ x.fits nm b.length = 0 then x.begun.addTo nm.data.toList (b.take (b.length / 2)) else x.begun)
def PS.synced (x : PS) (f : Nat) : PS := { x with files := x.files.modify f fun y => (y.1, y.1.length) }
def PS.sync (x : PS) (nm : ByteArray) : Int × PS :=
  if x.beginC.1 = 0 then
    if rightB nm = true then
      match dget x.dir nm.data.toList with
      | some f => (0, x.begun.synced f)
      | none => (3, x.begun)
    else (2, x.begun)
  else (x.beginC.1, x.begun)
def PS.renamed (x : PS) (old nm : Nm) (f : Nat) : PS := { x with dir := ddel (ddel x.dir old) nm ++ [(nm, f)], pend := x.pend ++ [⟨2, old, nm, f⟩] }
def PS.rename (x : PS) (old nm : ByteArray) : Int × PS :=
  if x.beginC.1 = 0 then
    if rightB old = true ∧ rightB nm = true then
      match dget x.dir old.data.toList with
      | some f => if old.data.toList = nm.data.toList then (0, x.begun) else (0, x.begun.renamed old.data.toList nm.data.toList f)
      | none => (3, x.begun)
    else (2, x.begun)
  else (x.beginC.1, x.begun)
def PS.removed (x : PS) (nm : Nm) : PS := { x with dir := ddel x.dir nm, pend := x.pend ++ [⟨3, [], nm, 0⟩] }
def PS.remove (x : PS) (nm : ByteArray) : Int × PS :=
  if x.beginC.1 = 0 then
    if rightB nm = true then
      match dget x.dir nm.data.toList with
      | some _ => (0, x.begun.removed nm.data.toList)
      | none => (3, x.begun)
    else (2, x.begun)
  else (x.beginC.1, x.begun)
def PS.syncDir (x : PS) : Int × PS := if x.beginC.1 = 0 then (0, { x.begun with kept := x.dir, pend := [] }) else (x.beginC.1, x.begun)
def PS.read (x : PS) (nm : ByteArray) : List UInt8 × Int :=
  if rightB nm = true then
    match dget x.dir nm.data.toList with
    | some f => ((match x.files[f]? with
      | some y => y.1
      | none => []), 0)
    | none => ([], 3)
  else ([], 2)
def PS.fault (x : PS) (n k : Int) : PS := { x with flts := x.flts ++ [(max n 0, k)] }

/-- bounds of the document's disk, and what its numbers mean -/
structure PB (n : Nat) (x : PS) : Prop where
  count : x.count ≤ n
  fltsL : x.flts.length ≤ n
  flts0 : ∀ f ∈ x.flts, 0 ≤ f.1 ∧ f.1 ≤ 9223372036854775807
  stopB : -1 ≤ x.stop ∧ x.stop ≤ 9223372036854775807
  filesL : x.files.length ≤ n
  dirL : x.dir.length ≤ n
  keptL : x.kept.length ≤ n
  pendL : x.pend.length ≤ n
  dirF : ∀ e ∈ x.dir, e.2 < x.files.length
  keptF : ∀ e ∈ x.kept, e.2 < x.files.length
  pendF : ∀ c ∈ x.pend, c.kind = 3 ∨ c.file < x.files.length
  bytesL : ∀ f ∈ x.files, f.1.length ≤ 100000 * n ∧ f.2 ≤ f.1.length
  dirN : ∀ e ∈ x.dir, e.1.length ≤ 64
  keptN : ∀ e ∈ x.kept, e.1.length ≤ 64
  pendN : ∀ c ∈ x.pend, c.old.length ≤ 64 ∧ c.nm.length ≤ 64

theorem beginC_cases (x : PS) : x.beginC = (7, 0) ∨ x.beginC = (0, 0) ∨ x.beginC = (6, 1) ∨ x.beginC = (6, 2) := by
  unfold PS.beginC
  split
  · exact .inl rfl
  · split
    · exact .inr (.inl rfl)
    · rcases rstruck_range x.flts with e | e | e
      · contradiction
      · rw [e]; exact .inr (.inr (.inl rfl))
      · rw [e]; exact .inr (.inr (.inr rfl))
theorem sumB_le (l : List Nat) (B : Nat) (h : ∀ x ∈ l, x ≤ B) : l.sum ≤ l.length * B := by
  induction l with
  | nil => simp
  | cons a l ih =>
    have h1 := h a List.mem_cons_self
    have h2 := ih (fun x hx => h x (List.mem_cons_of_mem _ hx))
    have h3 : (l.length + 1) * B = l.length * B + B := Nat.succ_mul _ _
    simp only [List.sum_cons, List.length_cons]
    omega
theorem sort_unique {l l' : List Nm} (h : l.Perm l') (hs : l.Pairwise fun x y => x ≤ y) : l = l'.mergeSort (fun x y => decide (x ≤ y)) := by
  have tr : ∀ a b c : Nm, decide (a ≤ b) = true → decide (b ≤ c) = true → decide (a ≤ c) = true := fun a b c h1 h2 => by
    simp only [decide_eq_true_eq] at *
    exact List.le_trans h1 h2
  have tot : ∀ a b : Nm, (decide (a ≤ b) || decide (b ≤ a)) = true := fun a b => by
    simp only [Bool.or_eq_true, decide_eq_true_eq]
    exact List.le_total a b
  refine List.Perm.eq_of_pairwise (le := fun a b => decide (a ≤ b) = true) (fun a b _ _ h1 h2 => ?_) (hs.imp fun h => by simpa using h) (List.pairwise_mergeSort tr tot l') (h.trans (List.mergeSort_perm l' _).symm)
  simp only [decide_eq_true_eq] at h1 h2
  exact List.le_antisymm h1 h2
theorem sort_perm {l l' : List Nm} (h : l.Perm l') : l.mergeSort (fun x y => decide (x ≤ y)) = l'.mergeSort (fun x y => decide (x ≤ y)) := by
  have tr : ∀ a b c : Nm, decide (a ≤ b) = true → decide (b ≤ c) = true → decide (a ≤ c) = true := fun a b c h1 h2 => by
    simp only [decide_eq_true_eq] at *
    exact List.le_trans h1 h2
  have tot : ∀ a b : Nm, (decide (a ≤ b) || decide (b ≤ a)) = true := fun a b => by
    simp only [Bool.or_eq_true, decide_eq_true_eq]
    exact List.le_total a b
  exact sort_unique ((List.mergeSort_perm l _).trans h) ((List.pairwise_mergeSort tr tot l).imp fun h => by simpa using h)
theorem begN_nil (l : List Nm) : begN [] l = l := List.filter_eq_self.2 fun x _ => by unfold Go.Lib.hasPrefix; rfl
def PS.list (x : PS) (pre : Nm) : List Nm := (begN pre (x.dir.map (·.1))).mergeSort (fun x y => decide (x ≤ y))
def PS.durable (x : PS) : List Nm := (x.kept.map (·.1)).mergeSort (fun x y => decide (x ≤ y))
def NamesPost (w : World) (l : List Nm) (e : Ending) (w' : World) : Prop := ∃ v, e = .returned v ∧ w'.ownsRow w.heap.size 9 1 v l.length (l.map encStr) ∧ Below w.heap.size w w'
def RReadPost (w : World) (x : List UInt8 × Int) (e : Ending) (w' : World) : Prop :=
  ∃ v, e = .returned (.tuple #[v, .int .i64 x.2]) ∧ w'.ownsRow w.heap.size 5 1 v x.1.length (bytesV x.1) ∧ Below w.heap.size w w'
end Go.Proofs.YtfchnpdgnhoffaaGreatDoor
namespace Go.Proofs.YtfchnpdgnhoffaaGreatDoor
open Go.RowKit Go.Shelf Go.Maps

/-! ### directories -/
def DirRel (φ : Nat → Nat) (l m : Dl) : Prop := ∀ nm, dget l nm = (dget m nm).map φ
structure RDir (m : Dl) : Prop where
  names : m.Pairwise fun x y => x.1 ≠ y.1
  files : m.Pairwise fun x y => x.2 ≠ y.2
def rset (m : Dl) (nm : Nm) (f : Nat) : Dl := ddel m nm ++ [(nm, f)]
def rdo (m : Dl) (c : RC) : Dl := if c.kind = 1 then rset m c.nm c.file else if c.kind = 2 then rset (ddel m c.old) c.nm c.file else ddel m c.nm

theorem dget_append (a b : Dl) (t : Nm) : dget (a ++ b) t = (dget a t).or (dget b t) := by
  unfold dget
  rw [List.find?_append]
  cases a.find? (fun x => x.1 == t) <;> rfl
theorem dget_rset (m : Dl) (nm : Nm) (f : Nat) (t : Nm) : dget (rset m nm f) t = if t = nm then some f else dget m t := by
  unfold rset
  rw [dget_append, dget_del]
  by_cases h : t = nm
  · subst h
    rw [if_pos rfl, if_pos rfl]
    simp [dget]
  · rw [if_neg h, if_neg h]
    have : dget [(nm, f)] t = none := dget_none.2 fun y hy => by rw [List.mem_singleton.1 hy]; exact fun e => h e.symm
    rw [this, Option.or_none]
theorem pw_inj {α β : Type} {g : α → β} : ∀ {l : List α}, (l.Pairwise fun x y => g x ≠ g y) → ∀ {x y : α}, x ∈ l → y ∈ l → g x = g y → x = y
  | [], _, _, _, h, _, _ => by cases h
  | a :: l, hp, x, y, hx, hy, he => by
    rw [List.pairwise_cons] at hp
    rcases List.mem_cons.1 hx with e1 | h1 <;> rcases List.mem_cons.1 hy with e2 | h2
    · rw [e1, e2]
    · rw [e1] at he; exact absurd he (hp.1 y h2)
    · rw [e2] at he; exact absurd he.symm (hp.1 x h1)
    · exact pw_inj hp.2 h1 h2 he
theorem dget_of_mem {m : Dl} (h : m.Pairwise fun x y => x.1 ≠ y.1) {t : Nm} {f : Nat} (hm : (t, f) ∈ m) : dget m t = some f := by
  cases hd : dget m t with
  | none => exact absurd rfl (dget_none.1 hd _ hm)
  | some g =>
    have := pw_inj h (dget_mem hd) hm rfl
    injection this with _ e
    rw [e]
theorem RDir.nil : RDir [] := ⟨List.Pairwise.nil, List.Pairwise.nil⟩
theorem RDir.del {m : Dl} (h : RDir m) (nm : Nm) : RDir (ddel m nm) := ⟨h.names.filter _, h.files.filter _⟩
theorem RDir.set_ {m : Dl} (h : RDir m) (nm : Nm) (f : Nat) (hf : ∀ x ∈ ddel m nm, x.2 ≠ f) : RDir (rset m nm f) := by
  unfold rset
  refine ⟨List.pairwise_append.2 ⟨h.names.filter _, List.pairwise_singleton _ _, fun a ha b hb => ?_⟩, List.pairwise_append.2 ⟨h.files.filter _, List.pairwise_singleton _ _, fun a ha b hb => ?_⟩⟩
  · rw [List.mem_singleton.1 hb]; exact ((mem_ddel _ _ _).1 ha).2
  · rw [List.mem_singleton.1 hb]; exact hf a ha
theorem RDir.inj {m : Dl} (h : RDir m) {a b : Nm} {f : Nat} (h1 : dget m a = some f) (h2 : dget m b = some f) : a = b := by
  have := pw_inj (g := fun x : Nm × Nat => x.2) h.files (dget_mem h1) (dget_mem h2) rfl
  injection this

/-! ### what pends -/
inductive StepRel (φ : Nat → Nat) (m : Dl) : Ch → RC → Prop
  | create (nm : Nm) (f : Nat) (h : nm ≠ []) (hf : ∀ x ∈ m, x.2 ≠ f) : StepRel φ m ⟨[], nm, some (φ f)⟩ ⟨1, [], nm, f⟩
  | rename (old nm : Nm) (f : Nat) (h : nm ≠ []) (hn : old ≠ nm) (hf : dget m old = some f) : StepRel φ m ⟨old, nm, none⟩ ⟨2, old, nm, f⟩
  | remove (nm : Nm) : StepRel φ m ⟨nm, [], none⟩ ⟨3, [], nm, 0⟩
theorem step_rel {φ : Nat → Nat} {l m : Dl} {c : Ch} {d : RC} (h : DirRel φ l m) (hm : RDir m) (hs : StepRel φ m c d) : DirRel φ (doL l c) (rdo m d) ∧ RDir (rdo m d) := by
  cases hs with
  | create nm f hn hf =>
    have e1 : doL l ⟨[], nm, some (φ f)⟩ = dput l nm (φ f) := by show (if nm = [] then l else dput l nm (φ f)) = _; rw [if_neg hn]
    have e2 : rdo m ⟨1, [], nm, f⟩ = rset m nm f := rfl
    rw [e1, e2]
    refine ⟨fun t => ?_, hm.set_ nm f (fun x hx => hf x ((mem_ddel _ _ _).1 hx).1)⟩
    rw [dget_put, dget_rset]
    split
    · rfl
    · exact h t
  | rename old nm f hn hne hf =>
    have hl : dget l old = some (φ f) := by rw [h old, hf]; rfl
    have e1 : doL l ⟨old, nm, none⟩ = dput (ddel l old) nm (φ f) := by
      show (if nm = [] then ddel l old else match dget l old with
        | some g => dput (ddel l old) nm g
        | none => ddel l old) = _
      rw [if_neg hn, hl]
    have e2 : rdo m ⟨2, old, nm, f⟩ = rset (ddel m old) nm f := rfl
    rw [e1, e2]
    refine ⟨fun t => ?_, (hm.del old).set_ nm f (fun x hx => ?_)⟩
    · rw [dget_put, dget_rset, dget_del, dget_del]
      split
      · rfl
      · split
        · rfl
        · exact h t
    · have h1 := (mem_ddel _ _ _).1 ((mem_ddel _ _ _).1 hx).1
      intro e
      have h2 : dget m x.1 = some f := dget_of_mem hm.names (by rw [← e]; exact h1.1)
      exact h1.2 (hm.inj h2 hf)
  | remove nm =>
    have e1 : doL l ⟨nm, [], none⟩ = ddel l nm := rfl
    have e2 : rdo m ⟨3, [], nm, 0⟩ = ddel m nm := rfl
    rw [e1, e2]
    refine ⟨fun t => ?_, hm.del nm⟩
    rw [dget_del, dget_del]
    split
    · rfl
    · exact h t

def PendRel (φ : Nat → Nat) : Dl → List Ch → List RC → Prop
  | _, [], [] => True
  | m, c :: cs, d :: ds => StepRel φ m c d ∧ PendRel φ (rdo m d) cs ds
  | _, _, _ => False
theorem PendRel.len {φ : Nat → Nat} : ∀ {m : Dl} {cs : List Ch} {ds : List RC}, PendRel φ m cs ds → cs.length = ds.length
  | _, [], [], _ => rfl
  | _, _ :: cs, _ :: ds, h => by simp [PendRel.len h.2]
  | _, [], _ :: _, h => h.elim
  | _, _ :: _, [], h => h.elim
theorem PendRel.snoc {φ : Nat → Nat} {c : Ch} {d : RC} : ∀ {m : Dl} {cs : List Ch} {ds : List RC}, PendRel φ m cs ds → StepRel φ (ds.foldl rdo m) c d → PendRel φ m (cs ++ [c]) (ds ++ [d])
  | _, [], [], _, h => ⟨h, trivial⟩
  | _, _ :: _, _ :: _, h, hs => ⟨h.1, h.2.snoc hs⟩
  | _, [], _ :: _, h, _ => h.elim
  | _, _ :: _, [], h, _ => h.elim
theorem PendRel.take {φ : Nat → Nat} : ∀ {l m : Dl} {cs : List Ch} {ds : List RC} (n : Nat), DirRel φ l m → RDir m → PendRel φ m cs ds → DirRel φ (replay l (cs.take n)) ((ds.take n).foldl rdo m) ∧ RDir ((ds.take n).foldl rdo m)
  | _, _, [], [], n, h, hm, _ => by rw [List.take_nil, List.take_nil]; exact ⟨h, hm⟩
  | _, _, _ :: _, _ :: _, 0, h, hm, _ => ⟨h, hm⟩
  | l, m, c :: cs, d :: ds, n + 1, h, hm, hp => by
    obtain ⟨h1, h2⟩ := step_rel h hm hp.1
    exact PendRel.take (cs := cs) (ds := ds) n h1 h2 hp.2
  | _, _, [], _ :: _, _, _, _, h => h.elim
  | _, _, _ :: _, [], _, _, _, h => h.elim
theorem PendRel.congr {φ ψ : Nat → Nat} : ∀ {m : Dl} {cs : List Ch} {ds : List RC}, (∀ d ∈ ds, d.kind = 1 → φ d.file = ψ d.file) → PendRel φ m cs ds → PendRel ψ m cs ds
  | _, [], [], _, _ => trivial
  | m, c :: cs, d :: ds, he, h => by
    refine ⟨?_, PendRel.congr (fun d hd => he d (List.mem_cons_of_mem _ hd)) h.2⟩
    have h1 := h.1
    have e := he d List.mem_cons_self
    cases h1 with
    | create nm f hn hf =>
      rw [show φ f = ψ f from e rfl]
      exact .create nm f hn hf
    | rename old nm f hn hne hf => exact .rename old nm f hn hne hf
    | remove nm => exact .remove nm
  | _, [], _ :: _, _, h => h.elim
  | _, _ :: _, [], _, h => h.elim
theorem PendRel.born {φ : Nat → Nat} : ∀ {m : Dl} {cs : List Ch} {ds : List RC}, PendRel φ m cs ds → ∀ d ∈ ds, d.kind = 1 → ∃ c ∈ cs, c.file = some (φ d.file)
  | _, [], [], _, d, hd, _ => by cases hd
  | m, c :: cs, e :: ds, h, d, hd, hk => by
    rcases List.mem_cons.1 hd with rfl | hd
    · have h1 := h.1
      cases h1 with
      | create nm f hn hf => exact ⟨_, List.mem_cons_self, rfl⟩
      | rename old nm f hn hne hf => cases hk
      | remove nm => cases hk
    · obtain ⟨c', hc, e'⟩ := PendRel.born h.2 d hd hk
      exact ⟨c', List.mem_cons_of_mem _ hc, e'⟩
  | _, [], _ :: _, h, _, _, _ => h.elim
  | _, _ :: _, [], h, _, _, _ => h.elim
/-- a file that a directory behind changes names was there before, or is made by one of them -/
theorem PendRel.src {φ : Nat → Nat} : ∀ {m : Dl} {cs : List Ch} {ds : List RC} (n : Nat), PendRel φ m cs ds → ∀ x ∈ (ds.take n).foldl rdo m, (∃ e ∈ m, e.2 = x.2) ∨ (∃ d ∈ ds, d.kind = 1 ∧ d.file = x.2)
  | _, [], [], n, _, x, hx => by rw [List.take_nil] at hx; exact .inl ⟨x, hx, rfl⟩
  | _, _ :: _, _ :: _, 0, _, x, hx => .inl ⟨x, hx, rfl⟩
  | m, c :: cs, d :: ds, n + 1, h, x, hx => by
    rcases PendRel.src (cs := cs) (ds := ds) n h.2 x hx with ⟨e, he, e2⟩ | ⟨e, he, e2⟩
    · have h1 := h.1
      cases h1 with
      | create nm f hn hf =>
        rcases List.mem_append.1 (show e ∈ ddel m nm ++ [(nm, f)] from he) with he | he
        · exact .inl ⟨e, ((mem_ddel _ _ _).1 he).1, e2⟩
        · rw [List.mem_singleton.1 he] at e2
          exact .inr ⟨_, List.mem_cons_self, rfl, e2⟩
      | rename old nm f hn hne hf =>
        rcases List.mem_append.1 (show e ∈ ddel (ddel m old) nm ++ [(nm, f)] from he) with he | he
        · exact .inl ⟨e, ((mem_ddel _ _ _).1 ((mem_ddel _ _ _).1 he).1).1, e2⟩
        · rw [List.mem_singleton.1 he] at e2
          exact .inl ⟨_, dget_mem hf, e2⟩
      | remove nm => exact .inl ⟨e, ((mem_ddel _ _ _).1 he).1, e2⟩
    · exact .inr ⟨e, List.mem_cons_of_mem _ he, e2⟩
  | _, [], _ :: _, _, h, _, _ => h.elim
  | _, _ :: _, [], _, h, _, _ => h.elim

/-! ### the states -/
def rlive (x : PS) (f : Nat) : Prop := (∃ e ∈ x.kept, e.2 = f) ∨ (∃ c ∈ x.pend, c.kind = 1 ∧ c.file = f)
def stopRel (s : DS) (x : PS) : Prop :=
  (x.stop = -1 ∧ s.stopped = false) ∨ (x.stop = 0 ∧ s.stopped = true ∧ s.stop ≤ (s.ops : Int)) ∨ (0 < x.stop ∧ s.stopped = decide (0 ≤ laterZ s.ops x.stop) ∧ s.stop = laterZ s.ops x.stop)
structure Rel (φ : Nat → Nat) (s : DS) (x : PS) : Prop where
  cap : s.cap = x.cap
  ops : s.ops = x.count
  flts : s.flts = x.flts.map fun f => (laterZ s.ops f.1, f.2)
  stop : stopRel s x
  kept : DirRel φ s.safe x.kept
  rdir : RDir x.kept
  pend : PendRel φ x.kept s.pend x.pend
  dir : x.dir = x.pend.foldl rdo x.kept
  file : ∀ f, rlive x f → x.files[f]? = some (s.bytes (φ f), s.kept (φ f))
  inj : ∀ f g, rlive x f → rlive x g → φ f = φ g → f = g
  rep : replay s.safe s.pend = s.names

section
variable {φ : Nat → Nat} {s : DS} {x : PS}
theorem Rel.now (h : Rel φ s x) : DirRel φ s.names x.dir ∧ RDir x.dir := by
  have := h.pend.take s.pend.length h.kept h.rdir
  rw [List.take_length, h.pend.len, List.take_length, h.rep, ← h.dir] at this
  exact this
theorem Rel.names (h : Rel φ s x) : DirRel φ s.names x.dir := h.now.1
theorem Rel.rnow (h : Rel φ s x) : RDir x.dir := h.now.2
theorem Rel.liveDir (h : Rel φ s x) {e : Nm × Nat} (he : e ∈ x.dir) : rlive x e.2 := by
  have := h.pend.src x.pend.length e (by rw [List.take_length, ← h.dir]; exact he)
  rcases this with ⟨y, hy, e2⟩ | ⟨d, hd, hk, e2⟩
  · exact .inl ⟨y, hy, e2⟩
  · exact .inr ⟨d, hd, hk, e2⟩
theorem Rel.liveTake (h : Rel φ s x) (n : Nat) {e : Nm × Nat} (he : e ∈ (x.pend.take n).foldl rdo x.kept) : rlive x e.2 := by
  rcases h.pend.src n e he with ⟨y, hy, e2⟩ | ⟨d, hd, hk, e2⟩
  · exact .inl ⟨y, hy, e2⟩
  · exact .inr ⟨d, hd, hk, e2⟩
theorem Rel.live (h : Rel φ s x) {f : Nat} (hf : rlive x f) : live s (φ f) := by
  rcases hf with ⟨e, he, rfl⟩ | ⟨c, hc, hk, rfl⟩
  · have : dget s.safe e.1 = some (φ e.2) := by rw [h.kept e.1, dget_of_mem h.rdir.names (show (e.1, e.2) ∈ x.kept from he)]; rfl
    exact .inr (.inl ⟨_, dget_mem this, rfl⟩)
  · obtain ⟨c', hc', e⟩ := h.pend.born c hc hk
    exact .inr (.inr ⟨c', hc', e⟩)
theorem Rel.flt (h : Rel φ s x) {f : Nat} (hf : rlive x f) : f < x.files.length := (List.getElem?_eq_some_iff.1 (h.file f hf)).1
theorem Rel.isSome (h : Rel φ s x) (nm : Nm) : (dget s.names nm).isSome = (dget x.dir nm).isSome := by
  rw [h.names nm]; cases dget x.dir nm <;> rfl
theorem Rel.getLive (h : Rel φ s x) {nm : Nm} {f : Nat} (hd : dget x.dir nm = some f) : rlive x f ∧ dget s.names nm = some (φ f) := ⟨h.liveDir (dget_mem hd), by rw [h.names nm, hd]; rfl⟩
end

/-! ### an operation begins -/
theorem later_zero (ops : Nat) (a : Int) (ho : ops ≤ 1000000) (ha : 0 ≤ a) : laterZ ops a = (ops : Int) ↔ a = 0 := by
  unfold laterZ
  constructor
  · intro h
    split at h <;> omega
  · rintro rfl
    rw [if_pos (by omega)]; omega
theorem later_next (ops : Nat) (a : Int) (ha : 0 < a) : laterZ (ops + 1) (a - 1) = laterZ ops a := by
  unfold laterZ
  have : ((ops + 1 : Nat) : Int) + max (a - 1) 0 = (ops : Int) + max a 0 := by omega
  rw [this]
theorem flts_left (ops : Nat) (ho : ops ≤ 1000000) : ∀ (l : List (Int × Int)), (∀ f ∈ l, 0 ≤ f.1) → leftF (l.map fun f => (laterZ ops f.1, f.2)) ops = (rleft l).map fun f => (laterZ (ops + 1) f.1, f.2)
  | [], _ => rfl
  | f :: l, h => by
    have ih := flts_left ops ho l (fun g hg => h g (List.mem_cons_of_mem _ hg))
    have h0 := h f List.mem_cons_self
    have hz := later_zero ops f.1 ho h0
    unfold leftF at ih ⊢
    rw [List.map_cons]
    show _ = List.map _ (if 0 < f.1 then (f.1 - 1, f.2) :: rleft l else rleft l)
    by_cases hp : 0 < f.1
    · rw [List.filter_cons_of_pos (by simp; omega), if_pos hp, List.map_cons, ih, later_next ops f.1 hp]
    · rw [List.filter_cons_of_neg (by simp; omega), if_neg hp, ih]
theorem flts_struck (ops : Nat) (ho : ops ≤ 1000000) : ∀ (l : List (Int × Int)), (∀ f ∈ l, 0 ≤ f.1) → rstruck l = match struckF (l.map fun f => (laterZ ops f.1, f.2)) ops with
    | none => 0
    | some k => if k = 2 then 2 else 1
  | [], _ => rfl
  | f :: l, h => by
    have ih := flts_struck ops ho l (fun g hg => h g (List.mem_cons_of_mem _ hg))
    have h0 := h f List.mem_cons_self
    have hz := later_zero ops f.1 ho h0
    unfold struckF at ih ⊢
    rw [List.map_cons]
    show (if 0 < f.1 then rstruck l else if f.2 = 2 then 2 else 1) = _
    by_cases hp : 0 < f.1
    · rw [List.find?_cons_of_neg (by simp; omega), if_pos hp, ih]
    · rw [List.find?_cons_of_pos (by simp; omega), if_neg hp]
      rfl

theorem begun_stop {φ : Nat → Nat} {s : DS} {x : PS} (h : Rel φ s x) (ho : s.ops ≤ 1000000) (v : Value) : stopRel (begun s v) x.begun := by
  rcases h.stop with ⟨h1, h2⟩ | ⟨h1, h2, h3⟩ | ⟨h1, h2, h3⟩
  · refine .inl ⟨?_, h2⟩
    show (if 0 < x.stop then x.stop - 1 else x.stop) = -1
    rw [if_neg (by omega)]; exact h1
  · refine .inr (.inl ⟨?_, h2, ?_⟩)
    · show (if 0 < x.stop then x.stop - 1 else x.stop) = 0
      rw [if_neg (by omega)]; exact h1
    · show s.stop ≤ ((s.ops + 1 : Nat) : Int)
      omega
  · have e : x.begun.stop = x.stop - 1 := if_pos h1
    have hn := later_next s.ops x.stop h1
    by_cases h0 : x.stop = 1
    · refine .inr (.inl ⟨by rw [e, h0]; rfl, ?_, ?_⟩)
      · show s.stopped = true
        rw [h2, h0]
        unfold laterZ
        rw [if_pos (by omega)]
        simp; omega
      · show s.stop ≤ ((s.ops + 1 : Nat) : Int)
        rw [h3, h0]
        unfold laterZ
        rw [if_pos (by omega)]
        omega
    · refine .inr (.inr ⟨by rw [e]; omega, ?_, ?_⟩)
      · show s.stopped = decide (0 ≤ laterZ (s.ops + 1) x.begun.stop)
        rw [e, hn]; exact h2
      · show s.stop = laterZ (s.ops + 1) x.begun.stop
        rw [e, hn]; exact h3
theorem begun_rel {φ : Nat → Nat} {s : DS} {x : PS} (h : Rel φ s x) (ho : s.ops ≤ 1000000) (hf : ∀ f ∈ x.flts, 0 ≤ f.1) (v : Value) : Rel φ (begun s v) x.begun where
  cap := h.cap
  ops := by show s.ops + 1 = x.count + 1; rw [h.ops]
  flts := by
    show leftF s.flts s.ops = (rleft x.flts).map fun f => (laterZ (s.ops + 1) f.1, f.2)
    rw [h.flts, flts_left s.ops ho x.flts hf]
  stop := begun_stop h ho v
  kept := h.kept
  rdir := h.rdir
  pend := h.pend
  dir := h.dir
  file := h.file
  inj := h.inj
  rep := h.rep
/-- both refuse alike -/
theorem begin_same {φ : Nat → Nat} {s : DS} {x : PS} (h : Rel φ s x) (ho : s.ops ≤ 1000000) (hf : ∀ f ∈ x.flts, 0 ≤ f.1) (ns : List ByteArray) :
    (beginS s ns).2 = (if x.beginC.1 = 0 then (if ns.all rightB then 0 else 2) else x.beginC.1) ∧ (x.beginC.2 = 2 ↔ (beginS s ns).2 = 6 ∧ (beginS s ns).1 = 2) := by
  have hst := flts_struck s.ops ho x.flts hf
  rw [← h.flts] at hst
  have hdead : (s.stopped = true ∧ s.stop ≤ (s.ops : Int)) ↔ x.stop = 0 := by
    rcases h.stop with ⟨h1, h2⟩ | ⟨h1, h2, h3⟩ | ⟨h1, h2, h3⟩
    · rw [h2, h1]; simp
    · exact ⟨fun _ => h1, fun _ => ⟨h2, h3⟩⟩
    · constructor
      · rintro ⟨h4, h5⟩
        rw [h2] at h4
        rw [h3] at h5
        unfold laterZ at h4 h5
        split at h5
        · omega
        · rw [if_neg (by assumption)] at h4; simp at h4
      · omega
  unfold beginS PS.beginC
  by_cases h0 : x.stop = 0
  · rw [if_pos (hdead.2 h0), if_pos h0]
    simp
  · rw [if_neg (fun hc => h0 (hdead.1 hc)), if_neg h0]
    cases hk : struckF s.flts s.ops with
    | none =>
      rw [hk] at hst
      rw [if_pos hst]
      cases hr : ns.all rightB <;> simp
    | some k =>
      rw [hk] at hst
      have hst' : rstruck x.flts = if k = 2 then 2 else 1 := hst
      have h3 : rstruck x.flts ≠ 0 := by rw [hst']; split <;> decide
      simp only [h3, if_false]
      refine ⟨rfl, ?_⟩
      show rstruck x.flts = 2 ↔ True ∧ k = 2
      rw [hst']
      by_cases h2 : k = 2
      · simp [h2]
      · simp [h2]
end Go.Proofs.YtfchnpdgnhoffaaGreatDoor
namespace Go.Proofs.YtfchnpdgnhoffaaGreatDoor
open Go.RowKit Go.Shelf Go.Maps

section
variable {φ : Nat → Nat} {s : DS} {x : PS}
theorem upd_live (h : Rel φ s x) (g : Nat) {f : Nat} (hf : rlive x f) : upd φ x.files.length g f = φ f := upd_other _ _ (Nat.ne_of_lt (h.flt hf))
theorem created_rel (h : Rel φ s x) (nm : Nm) (hne : nm ≠ []) (g : Nat) (v : Value) (hg : ∀ f, rlive x f → φ f ≠ g) : Rel (upd φ x.files.length g) (created s nm g v) (x.created nm) := by
  have hself : upd φ x.files.length g x.files.length = g := upd_same _ _ _
  have hlive : ∀ f, rlive (x.created nm) f → f = x.files.length ∨ rlive x f := by
    rintro f (⟨e, he, rfl⟩ | ⟨c, hc, hk, rfl⟩)
    · exact .inr (.inl ⟨e, he, rfl⟩)
    · rcases List.mem_append.1 hc with hc | hc
      · exact .inr (.inr ⟨c, hc, hk, rfl⟩)
      · rw [List.mem_singleton.1 hc]; exact .inl rfl
  exact {
    cap := h.cap
    ops := h.ops
    flts := h.flts
    stop := h.stop
    kept := fun t => by
      show dget s.safe t = (dget x.kept t).map _
      rw [h.kept t]
      cases hd : dget x.kept t with
      | none => rfl
      | some f =>
        have : rlive x f := .inl ⟨_, dget_mem hd, rfl⟩
        show some (φ f) = some (upd φ x.files.length g f)
        rw [upd_live h g this]
    rdir := h.rdir
    pend := by
      refine PendRel.snoc (PendRel.congr (fun d hd hk => (upd_live h g (.inr ⟨d, hd, hk, rfl⟩)).symm) h.pend) ?_
      have := StepRel.create (φ := upd φ x.files.length g) (m := x.pend.foldl rdo x.kept) nm x.files.length hne (fun y hy => by
        rw [← h.dir] at hy
        exact Nat.ne_of_lt (h.flt (h.liveDir hy)))
      rw [hself] at this
      exact this
    dir := by
      show ddel x.dir nm ++ [(nm, x.files.length)] = (x.pend ++ [_]).foldl rdo x.kept
      rw [List.foldl_append, ← h.dir]
      rfl
    file := fun f hf => by
      show (x.files ++ [([], 0)])[f]? = some (upd s.bytes g [] (upd φ x.files.length g f), upd s.kept g 0 (upd φ x.files.length g f))
      rcases hlive f hf with rfl | hf
      · rw [hself, upd_same, upd_same, List.getElem?_append_right (Nat.le_refl _), Nat.sub_self]; rfl
      · rw [upd_live h g hf, upd_other _ _ (hg f hf), upd_other _ _ (hg f hf), List.getElem?_append_left (h.flt hf)]
        exact h.file f hf
    inj := fun a b ha hb he => by
      rcases hlive a ha with rfl | ha <;> rcases hlive b hb with rfl | hb
      · rfl
      · rw [hself, upd_live h g hb] at he; exact absurd he.symm (hg b hb)
      · rw [hself, upd_live h g ha] at he; exact absurd he (hg a ha)
      · rw [upd_live h g ha, upd_live h g hb] at he; exact h.inj a b ha hb he
    rep := by
      show replay s.safe (s.pend ++ [⟨[], nm, some g⟩]) = dput s.names nm g
      rw [replay_snoc, h.rep]
      show (if nm = [] then _ else _) = _
      rw [if_neg hne] }
/-- a change that makes no file -/
theorem changed_rel (h : Rel φ s x) (c : Ch) (d : RC) (v : Value) (hd : d.kind ≠ 1) (hs : StepRel φ x.dir c d) : Rel φ (changed s c v) { x with dir := rdo x.dir d, pend := x.pend ++ [d] } := by
  have hlive : ∀ f, rlive { x with dir := rdo x.dir d, pend := x.pend ++ [d] } f → rlive x f := by
    rintro f (⟨e, he, rfl⟩ | ⟨c, hc, hk, rfl⟩)
    · exact .inl ⟨e, he, rfl⟩
    · rcases List.mem_append.1 hc with hc | hc
      · exact .inr ⟨c, hc, hk, rfl⟩
      · rw [List.mem_singleton.1 hc] at hk; exact absurd hk hd
  exact {
    cap := h.cap
    ops := h.ops
    flts := h.flts
    stop := h.stop
    kept := h.kept
    rdir := h.rdir
    pend := PendRel.snoc h.pend (by rw [← h.dir]; exact hs)
    dir := by
      show rdo x.dir d = (x.pend ++ [d]).foldl rdo x.kept
      rw [List.foldl_append, ← h.dir]
      rfl
    file := fun f hf => h.file f (hlive f hf)
    inj := fun a b ha hb he => h.inj a b (hlive a ha) (hlive b hb) he
    rep := by
      show replay s.safe (s.pend ++ [c]) = doL s.names c
      rw [replay_snoc, h.rep] }
theorem get_modify_same {α : Type} (l : List α) (f : Nat) (g : α → α) : (l.modify f g)[f]? = l[f]?.map g := by
  rw [List.getElem?_modify]; simp
theorem get_modify_other {α : Type} (l : List α) {f k : Nat} (g : α → α) (h : f ≠ k) : (l.modify f g)[k]? = l[k]? := by
  rw [List.getElem?_modify]; simp [h]
theorem synced_rel (h : Rel φ s x) (f : Nat) (hf : rlive x f) : Rel φ (synced s (φ f)) (x.synced f) where
  cap := h.cap
  ops := h.ops
  flts := h.flts
  stop := h.stop
  kept := h.kept
  rdir := h.rdir
  pend := h.pend
  dir := h.dir
  file := fun k hk => by
    have hk' : rlive x k := hk
    show (x.files.modify f _)[k]? = some (s.bytes (φ k), upd s.kept (φ f) (s.bytes (φ f)).length (φ k))
    by_cases e : k = f
    · subst e
      rw [get_modify_same, h.file k hf, upd_same]; rfl
    · rw [get_modify_other _ _ (Ne.symm e), h.file k hk', upd_other _ _ (fun he => e (h.inj k f hk' hf he))]
  inj := h.inj
  rep := h.rep
theorem added_rel (h : Rel φ s x) (f : Nat) (hf : rlive x f) (v : Value) (b : List UInt8) : Rel φ (appended s (φ f) v b) (x.add f b) where
  cap := h.cap
  ops := h.ops
  flts := h.flts
  stop := h.stop
  kept := h.kept
  rdir := h.rdir
  pend := h.pend
  dir := h.dir
  file := fun k hk => by
    have hk' : rlive x k := hk
    show (x.files.modify f _)[k]? = some (upd s.bytes (φ f) (s.bytes (φ f) ++ b) (φ k), s.kept (φ k))
    by_cases e : k = f
    · subst e
      rw [get_modify_same, h.file k hf, upd_same]; rfl
    · rw [get_modify_other _ _ (Ne.symm e), h.file k hk', upd_other _ _ (fun he => e (h.inj k f hk' hf he))]
  inj := h.inj
  rep := h.rep
theorem syncedDir_rel (h : Rel φ s x) (m : Nat) : Rel φ (syncedDir s m) { x with kept := x.dir, pend := [] } := by
  have hlive : ∀ f, rlive { x with kept := x.dir, pend := [] } f → rlive x f := by
    rintro f (⟨e, he, rfl⟩ | ⟨c, hc, hk, rfl⟩)
    · exact h.liveDir he
    · cases hc
  exact {
    cap := h.cap
    ops := h.ops
    flts := h.flts
    stop := h.stop
    kept := h.names
    rdir := h.rnow
    pend := trivial
    dir := rfl
    file := fun f hf => h.file f (hlive f hf)
    inj := fun a b ha hb he => h.inj a b (hlive a ha) (hlive b hb) he
    rep := rfl }
theorem faulted_rel (h : Rel φ s x) (n k : Int) (v : Value) : Rel φ (faulted s (laterZ s.ops n, k) v) (x.fault n k) where
  cap := h.cap
  ops := h.ops
  flts := by
    show s.flts ++ [(laterZ s.ops n, k)] = (x.flts ++ [(max n 0, k)]).map _
    show s.flts ++ [(laterZ s.ops n, k)] = (x.flts ++ [(max n 0, k)]).map fun f => (laterZ s.ops f.1, f.2)
    rw [List.map_append, ← h.flts]
    have : laterZ s.ops (max n 0) = laterZ s.ops n := by unfold laterZ; rw [show max (max n 0) 0 = max n 0 by omega]
    simp [this]
  stop := h.stop
  kept := h.kept
  rdir := h.rdir
  pend := h.pend
  dir := h.dir
  file := h.file
  inj := h.inj
  rep := h.rep
theorem later_max (ops : Nat) (n : Int) : laterZ ops (max n 0) = laterZ ops n := by unfold laterZ; rw [show max (max n 0) 0 = max n 0 by omega]
theorem stopped_rel (h : Rel φ s x) (ho : s.ops ≤ 1000000) (n : Int) : Rel φ { s with stopped := decide (0 ≤ laterZ s.ops n), stop := laterZ s.ops n } { x with stop := max n 0 } where
  cap := h.cap
  ops := h.ops
  flts := h.flts
  stop := by
    by_cases hn : 0 < n
    · refine .inr (.inr ⟨by show 0 < max n 0; omega, ?_, ?_⟩)
      · show decide (0 ≤ laterZ s.ops n) = decide (0 ≤ laterZ s.ops (max n 0)); rw [later_max]
      · show laterZ s.ops n = laterZ s.ops (max n 0); rw [later_max]
    · have e : laterZ s.ops n = s.ops := by rw [← later_max, show max n 0 = 0 by omega]; exact (later_zero s.ops 0 ho (Int.le_refl _)).2 rfl
      refine .inr (.inl ⟨by show max n 0 = 0; omega, ?_, ?_⟩)
      · show decide (0 ≤ laterZ s.ops n) = true; rw [e]; simp
      · show laterZ s.ops n ≤ _; rw [e]; exact Int.le_refl _
  kept := h.kept
  rdir := h.rdir
  pend := h.pend
  dir := h.dir
  file := h.file
  inj := h.inj
  rep := h.rep
theorem capped_rel (h : Rel φ s x) (c : Int) : Rel φ { s with cap := c } { x with cap := c } where
  cap := rfl
  ops := h.ops
  flts := h.flts
  stop := h.stop
  kept := h.kept
  rdir := h.rdir
  pend := h.pend
  dir := h.dir
  file := h.file
  inj := h.inj
  rep := h.rep

/-! ### how many bytes there are -/
theorem names_perm (h : DirRel φ s.names x.dir) (hr : RDir x.dir) (ht : s.names.Pairwise fun a b => a.1 ≠ b.1) : (x.dir.map fun e => (e.1, φ e.2)).Perm s.names := by
  have n1 : s.names.Nodup := ht.imp fun hne e => hne (by rw [e])
  have n2 : (x.dir.map fun e => (e.1, φ e.2)).Nodup := by
    unfold List.Nodup
    rw [List.pairwise_map]
    exact hr.names.imp fun hne e => hne (by injection e)
  refine (List.perm_ext_iff_of_nodup n2 n1).2 fun y => ?_
  obtain ⟨t, g⟩ := y
  constructor
  · intro hm
    obtain ⟨e, he, e2⟩ := List.mem_map.1 hm
    injection e2 with e3 e4
    have : dget s.names t = some g := by
      rw [h t, ← e3, dget_of_mem hr.names (show (e.1, e.2) ∈ x.dir from he), ← e4]; rfl
    exact dget_mem this
  · intro hm
    have h1 := dget_of_mem ht hm
    rw [h t] at h1
    obtain ⟨f, hf, e⟩ := Option.map_eq_some_iff.1 h1
    exact List.mem_map.2 ⟨(t, f), dget_mem hf, by rw [e]⟩
theorem used_same (h : Rel φ s x) (ht : s.names.Pairwise fun a b => a.1 ≠ b.1) : usedS s = x.used := by
  unfold usedS PS.used
  have h1 := ((names_perm h.names h.rnow ht).map fun y => (s.bytes y.2).length).sum_nat
  rw [← h1, List.map_map]
  congr 1
  apply List.map_congr_left
  intro e he
  have := h.file e.2 (h.liveDir he)
  show (s.bytes (φ e.2)).length = flen x.files e.2
  unfold flen
  rw [this]
theorem keys_perm (h : DirRel φ s.names x.dir) (hr : RDir x.dir) (ht : s.names.Pairwise fun a b => a.1 ≠ b.1) : (x.dir.map (·.1)).Perm (s.names.map (·.1)) := by
  have := (names_perm h hr ht).map (·.1)
  rwa [List.map_map] at this
end
end Go.Proofs.YtfchnpdgnhoffaaGreatDoor
