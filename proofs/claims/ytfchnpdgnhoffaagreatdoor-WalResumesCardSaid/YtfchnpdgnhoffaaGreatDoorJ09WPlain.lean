/- The log, told plainly: its entries' names and bytes; what a directory tells; what the disk holds of a log. Rows of bytes and rows of records in memory: to be read; owned. Records that are newly made; the walk of copied (43). The walks of four (74), unfour (84), sum (75). The walk of unfour (84). The walks of named (57) and number (63). The walk of entry (52). -/
import Derived.Test.YtfchnpdgnhoffaaGreatDoorJ08SimPost
import Derived.Test.YtfchnpdgnhoffaaGreatDoorJ02Right
import Derived.IntWalk
import Derived.Laws.BitsAllLaws
import Derived.Lib.EndianBits
import Derived.Lib.AppendStr
namespace Go.Proofs.YtfchnpdgnhoffaaGreatDoor
open Go.RowKit Go.Shelf Go.Maps

/-- what the entries tell, up to number n: the content, the last number that counts -/
def tell (E : Nat → Option Ent) : Nat → List Rec × Nat
  | 0 => ([], 0)
  | n + 1 => match E (n + 1) with
    | none => tell E n
    | some e => if e.all = true ∨ (tell E n).2 = n then (e.next (tell E n).1, n + 1) else tell E n
theorem tell_le (E : Nat → Option Ent) : ∀ n, (tell E n).2 ≤ n
  | 0 => Nat.le_refl _
  | n + 1 => by
    have := tell_le E n
    unfold tell
    cases E (n + 1) with
    | none => simp only; omega
    | some e =>
      simp only
      split
      · exact Nat.le_refl _
      · omega
theorem tell_congr {E E' : Nat → Option Ent} : ∀ n, (∀ k, 1 ≤ k → k ≤ n → E' k = E k) → tell E' n = tell E n
  | 0, _ => rfl
  | n + 1, h => by
    have ih := tell_congr n (fun k h1 h2 => h k h1 (by omega))
    have e := h (n + 1) (by omega) (Nat.le_refl _)
    show (match E' (n + 1) with | none => _ | some e => _) = (match E (n + 1) with | none => _ | some e => _)
    rw [e, ih]
theorem tell_none {E : Nat → Option Ent} {n : Nat} (h : ∀ k, n < k → E k = none) : ∀ m, n ≤ m → tell E m = tell E n
  | 0, hm => by rw [show n = 0 by omega]
  | m + 1, hm => by
    rcases Nat.lt_or_ge m n with h1 | h1
    · rw [show n = m + 1 by omega]
    · show (match E (m + 1) with | none => _ | some e => _) = _
      rw [h (m + 1) (by omega)]
      exact tell_none h m h1
theorem tell_all {E : Nat → Option Ent} {n : Nat} {e : Ent} (h : E n = some e) (ha : e.all = true) (hn : 1 ≤ n) : tell E n = (e.recs, n) := by
  obtain ⟨m, rfl⟩ : ∃ m, n = m + 1 := ⟨n - 1, by omega⟩
  show (match E (m + 1) with | none => _ | some e => _) = _
  rw [h]
  simp [ha, Ent.next]
theorem tell_step {E : Nat → Option Ent} {n : Nat} {c : List Rec} (h : tell E n = (c, n)) : tell E (n + 1) = match E (n + 1) with
    | none => (c, n)
    | some e => (e.next c, n + 1) := by
  show (match E (n + 1) with | none => _ | some e => _) = _
  cases E (n + 1) with
  | none => exact h
  | some e => simp [h]

/-! ### what the disk holds -/
/-- file f is number n's entry, whole and durable -/
def IsEnt (files : List (List UInt8 × Nat)) (N f n : Nat) (e : Ent) : Prop := f < N ∧ files[f]? = some (entL e n, (entL e n).length) ∧ e.ok
/-- a directory's entries -/
structure Says (files : List (List UInt8 × Nat)) (N : Nat) (D : Dl) (E : Nat → Option Ent) (m : Nat) : Prop where
  names : ∀ y ∈ D, y.1 = draftL ∨ ∃ n, 1 ≤ n ∧ n ≤ m ∧ y.1 = nameL n
  none_ : ∀ n, 1 ≤ n → n ≤ m → E n = none → dget D (nameL n) = none
  some_ : ∀ n e, E n = some e → 1 ≤ n ∧ n ≤ m ∧ ∃ f, dget D (nameL n) = some f ∧ IsEnt files N f n e
theorem Says.over {files : List (List UInt8 × Nat)} {N : Nat} {D : Dl} {E : Nat → Option Ent} {m : Nat} (h : Says files N D E m) {n : Nat} (hn : m < n) : E n = none := by
  cases he : E n with
  | none => rfl
  | some e => have := (h.some_ n e he).2.1; omega
/-- a change that pends -/
inductive OkCh (files : List (List UInt8 × Nat)) (N : Nat) (E : Nat → Option Ent) (c : List Rec) (last : Nat) (may : List (List Rec)) : RC → Prop
  | make (od : Nm) (f : Nat) : OkCh files N E c last may ⟨1, od, draftL, f⟩
  | move (f : Nat) (e : Ent) (h : IsEnt files N f (last + 1) e) (hm : e.next c ∈ may) : OkCh files N E c last may ⟨2, draftL, nameL (last + 1), f⟩
  | undraft (od : Nm) (f : Nat) : OkCh files N E c last may ⟨3, od, draftL, f⟩
  | unname (od : Nm) (f j : Nat) (h1 : 1 ≤ j) (h2 : j < last) (e : Ent) (he : E last = some e) (ha : e.all = true) : OkCh files N E c last may ⟨3, od, nameL j, f⟩

/-- a directory behind some of what pends -/
structure St (files : List (List UInt8 × Nat)) (N : Nat) (E : Nat → Option Ent) (c : List Rec) (last : Nat) (may : List (List Rec)) (D : Dl) (E' : Nat → Option Ent) : Prop where
  says : Says files N D E' (last + 1)
  same : E' last = E last
  less : ∀ n, 1 ≤ n → n < last → E' n = E n ∨ ∃ e, E last = some e ∧ e.all = true
  sub : ∀ n, n ≤ last → E n = none → E' n = none
  more : ∀ e, E' (last + 1) = some e → e.next c ∈ may
def updE (E : Nat → Option Ent) (n : Nat) (v : Option Ent) (k : Nat) : Option Ent := if k = n then v else E k
theorem mem_rset {m : Dl} {nm : Nm} {f : Nat} {y : Nm × Nat} (h : y ∈ rset m nm f) : (y ∈ m ∧ y.1 ≠ nm) ∨ y = (nm, f) := by
  unfold rset at h
  rcases List.mem_append.1 h with h | h
  · exact .inl ((mem_ddel _ _ _).1 h)
  · exact .inr (List.mem_singleton.1 h)

section
variable {files : List (List UInt8 × Nat)} {N m : Nat} {E E' : Nat → Option Ent} {c : List Rec} {last : Nat} {may : List (List Rec)} {D : Dl}
theorem Says.make (h : Says files N D E' m) (f : Nat) : Says files N (rset D draftL f) E' m where
  names := fun y hy => by
    rcases mem_rset hy with ⟨h1, -⟩ | h1
    · exact h.names y h1
    · rw [h1]; exact .inl rfl
  none_ := fun n h1 h2 h3 => by rw [dget_rset, if_neg (nameL_draft n)]; exact h.none_ n h1 h2 h3
  some_ := fun n e he => by
    obtain ⟨h1, h2, f2, h3, h4⟩ := h.some_ n e he
    exact ⟨h1, h2, f2, by rw [dget_rset, if_neg (nameL_draft n)]; exact h3, h4⟩
theorem Says.undraft (h : Says files N D E' m) : Says files N (ddel D draftL) E' m where
  names := fun y hy => h.names y ((mem_ddel _ _ _).1 hy).1
  none_ := fun n h1 h2 h3 => by rw [dget_del, if_neg (nameL_draft n)]; exact h.none_ n h1 h2 h3
  some_ := fun n e he => by
    obtain ⟨h1, h2, f2, h3, h4⟩ := h.some_ n e he
    exact ⟨h1, h2, f2, by rw [dget_del, if_neg (nameL_draft n)]; exact h3, h4⟩
theorem Says.move (h : Says files N D E' m) (hm : m < 100) {n : Nat} (h1 : 1 ≤ n) (hn : n ≤ m) {f : Nat} {e : Ent} (he : IsEnt files N f n e) : Says files N (rset D (nameL n) f) (updE E' n (some e)) m where
  names := fun y hy => by
    rcases mem_rset hy with ⟨h2, -⟩ | h2
    · exact h.names y h2
    · rw [h2]; exact .inr ⟨n, h1, hn, rfl⟩
  none_ := fun k h2 h3 h4 => by
    unfold updE at h4
    by_cases hk : k = n
    · rw [if_pos hk] at h4; cases h4
    · rw [if_neg hk] at h4
      rw [dget_rset, if_neg (fun e => hk (nameL_inj (by omega) (by omega) e))]
      exact h.none_ k h2 h3 h4
  some_ := fun k e2 h4 => by
    unfold updE at h4
    by_cases hk : k = n
    · rw [if_pos hk] at h4
      injection h4 with h4
      subst hk h4
      exact ⟨h1, hn, f, by rw [dget_rset, if_pos rfl], he⟩
    · rw [if_neg hk] at h4
      obtain ⟨h5, h6, f2, h7, h8⟩ := h.some_ k e2 h4
      exact ⟨h5, h6, f2, by rw [dget_rset, if_neg (fun e => hk (nameL_inj (by omega) (by omega) e))]; exact h7, h8⟩
theorem Says.unname (h : Says files N D E' m) (hm : m < 100) {n : Nat} (hn : n ≤ m) : Says files N (ddel D (nameL n)) (updE E' n none) m where
  names := fun y hy => h.names y ((mem_ddel _ _ _).1 hy).1
  none_ := fun k h2 h3 h4 => by
    rw [dget_del]
    by_cases hk : k = n
    · rw [if_pos (by rw [hk])]
    · rw [if_neg (fun e => hk (nameL_inj (by omega) (by omega) e))]
      unfold updE at h4
      rw [if_neg hk] at h4
      exact h.none_ k h2 h3 h4
  some_ := fun k e2 h4 => by
    unfold updE at h4
    by_cases hk : k = n
    · rw [if_pos hk] at h4; cases h4
    · rw [if_neg hk] at h4
      obtain ⟨h5, h6, f2, h7, h8⟩ := h.some_ k e2 h4
      exact ⟨h5, h6, f2, by rw [dget_del, if_neg (fun e => hk (nameL_inj (by omega) (by omega) e))]; exact h7, h8⟩
theorem St.step (h : St files N E c last may D E') (hl : last ≤ 98) {d : RC} (hd : OkCh files N E c last may d) : ∃ E'', St files N E c last may (rdo D d) E'' := by
  cases hd with
  | make od f => exact ⟨E', h.says.make f, h.same, h.less, h.sub, h.more⟩
  | move f e he hm =>
    refine ⟨updE E' (last + 1) (some e), (h.says.undraft.move (by omega) (by omega) (Nat.le_refl _) he), ?_, fun n h1 h2 => ?_, fun n h1 h2 => ?_, fun e2 h2 => ?_⟩
    · unfold updE; rw [if_neg (by omega)]; exact h.same
    · unfold updE; rw [if_neg (by omega)]; exact h.less n h1 h2
    · unfold updE; rw [if_neg (by omega)]; exact h.sub n h1 h2
    · unfold updE at h2; rw [if_pos rfl] at h2
      injection h2 with h2
      rw [← h2]; exact hm
  | undraft od f => exact ⟨E', h.says.undraft, h.same, h.less, h.sub, h.more⟩
  | unname od f j h1 h2 e he ha =>
    refine ⟨updE E' j none, h.says.unname (by omega) (by omega), ?_, fun n h3 h4 => .inr ⟨e, he, ha⟩, fun n h3 h4 => ?_, fun e2 h3 => ?_⟩
    · unfold updE; rw [if_neg (by omega)]; exact h.same
    · unfold updE
      split
      · rfl
      · exact h.sub n h3 h4
    · unfold updE at h3; rw [if_neg (by omega)] at h3; exact h.more e2 h3
theorem St.steps (hl : last ≤ 98) : ∀ (l : List RC) (D : Dl) (E' : Nat → Option Ent), St files N E c last may D E' → (∀ d ∈ l, OkCh files N E c last may d) → ∃ E'', St files N E c last may (l.foldl rdo D) E''
  | [], D, E', h, _ => ⟨E', h⟩
  | d :: l, D, E', h, hd => by
    obtain ⟨E2, h2⟩ := h.step hl (hd d List.mem_cons_self)
    exact St.steps hl l (rdo D d) E2 h2 (fun x hx => hd x (List.mem_cons_of_mem _ hx))
theorem Says.wide (h : Says files N D E' m) (ho : ∀ y ∈ D, y.1 ≠ nameL (m + 1)) : Says files N D E' (m + 1) where
  names := fun y hy => by
    rcases h.names y hy with h1 | ⟨n, h1, h2, h3⟩
    · exact .inl h1
    · exact .inr ⟨n, h1, by omega, h3⟩
  none_ := fun n h1 h2 h3 => by
    rcases Nat.lt_or_ge m n with h4 | h4
    · have : n = m + 1 := by omega
      rw [this]
      exact dget_none.2 ho
    · exact h.none_ n h1 h4 h3
  some_ := fun n e he => by
    obtain ⟨h1, h2, h3⟩ := h.some_ n e he
    exact ⟨h1, by omega, h3⟩
theorem St.start (h : Says files N D E last) (hl : last ≤ 98) : St files N E c last may D E where
  says := h.wide fun y hy e => by
    rcases h.names y hy with h1 | ⟨n, h1, h2, h3⟩
    · exact nameL_draft _ (e.symm.trans h1)
    · have := nameL_inj (by omega) (by omega) (h3.symm.trans e)
      omega
  same := rfl
  less := fun n _ _ => .inl rfl
  sub := fun n _ h => h
  more := fun e he => by
    rw [h.over (by omega)] at he; cases he
/-- what a directory behind some of what pends tells -/
theorem St.tell (h : St files N E c last may D E') (ht : tell E last = (c, last)) : tell E' last = (c, last) ∧ tell E' (last + 1) = match E' (last + 1) with
    | none => (c, last)
    | some e => (e.next c, last + 1) := by
  have h0 : Go.Proofs.YtfchnpdgnhoffaaGreatDoor.tell E' last = (c, last) := by
    rcases Nat.eq_zero_or_pos last with h0 | h0
    · subst h0; exact ht
    · by_cases hc : ∃ e, E last = some e ∧ e.all = true
      · obtain ⟨e, he, ha⟩ := hc
        rw [tell_all he ha h0] at ht
        rw [tell_all (by rw [h.same]; exact he) ha h0]
        exact ht
      · rw [← ht]
        refine tell_congr last fun k h1 h2 => ?_
        rcases Nat.lt_or_ge k last with h3 | h3
        · rcases h.less k h1 h3 with h4 | h4
          · exact h4
          · exact absurd h4 hc
        · rw [show k = last by omega]; exact h.same
  exact ⟨h0, tell_step h0⟩
end
end Go.Proofs.YtfchnpdgnhoffaaGreatDoor
namespace Go.Proofs.YtfchnpdgnhoffaaGreatDoor
open Go.RowKit Go.Shelf Go.Maps

/-- a row of bytes that is read, in a block of G -/
def ByR (w : World) (G : Nat → Prop) (u : Value) (b : Rec) : Prop :=
  ∃ A c, u = .slice A b.length c ∧ b.length ≤ c ∧ Reads w w.heap.size 1 A b.length (bytesV b) ∧ ∀ ad, A = some ad → 0 < b.length → G ad.block
/-- a row of records that is read -/
def RecsR (w : World) (G : Nat → Prop) (v : Value) (l : List Rec) : Prop :=
  ∃ A c vs, v = .slice A l.length c ∧ l.length ≤ c ∧ Reads w w.heap.size 1 A l.length vs ∧ (∀ ad, A = some ad → 0 < l.length → G ad.block) ∧ ∀ (i : Nat) (u : Value) (b : Rec), vs[i]? = some u → l[i]? = some b → ByR w G u b
/-- bytes of one's own -/
def RecAt (w : World) (G : Nat → Prop) (u : Value) (b : Rec) : Prop := w.ownsRow 0 5 1 u b.length (bytesV b) ∧ ∀ k, u.ownBlock = some k → G k
/-- records of one's own -/
def RecsAt (w : World) (G : Nat → Prop) (v : Value) (l : List Rec) : Prop :=
  ∃ vs, w.ownsRow 0 25 1 v l.length vs ∧ (∀ k, v.ownBlock = some k → G k) ∧ ∀ (i : Nat) (u : Value) (b : Rec), vs[i]? = some u → l[i]? = some b → RecAt w G u b

theorem reads_keep {w w' : World} {size n : Nat} {A : Option Addr} {xs : List Value} (h : Reads w w.heap.size size A n xs) (hs : w.heap.size ≤ w'.heap.size) (hk : 0 < n → ∀ ad, A = some ad → w'.heap[ad.block]? = w.heap[ad.block]?) : Reads w' w'.heap.size size A n xs :=
  ⟨h.1, fun h0 => by
    obtain ⟨ad, e, hlt, hc⟩ := h.2 h0
    refine ⟨ad, e, by omega, fun j v hv => (World.cell?_of_block (a := ad.add j) ?_).trans (hc j v hv)⟩
    rw [block_of_add]
    exact hk h0 ad e⟩
section
variable {w w' : World} {G H : Nat → Prop} {u v : Value} {b : Rec} {l : List Rec}
theorem ByR.keep (h : ByR w G u b) (hs : w.heap.size ≤ w'.heap.size) (hk : ∀ k, G k → k < w.heap.size → w'.heap[k]? = w.heap[k]?) : ByR w' G u b := by
  obtain ⟨A, c, e, hc, hR, hG⟩ := h
  refine ⟨A, c, e, hc, reads_keep hR hs fun h0 ad ea => ?_, hG⟩
  obtain ⟨ad2, e2, hlt, -⟩ := hR.2 h0
  rw [ea] at e2
  injection e2 with e2
  subst e2
  exact hk _ (hG ad ea h0) hlt
theorem ByR.mono (h : ByR w G u b) (hG : ∀ k, k < w.heap.size → G k → H k) : ByR w H u b := by
  obtain ⟨A, c, e, hc, hR, hg⟩ := h
  refine ⟨A, c, e, hc, hR, fun ad ea h0 => ?_⟩
  obtain ⟨ad2, e2, hlt, -⟩ := hR.2 h0
  rw [ea] at e2
  injection e2 with e2
  subst e2
  exact hG _ hlt (hg ad ea h0)
theorem RecsR.keep (h : RecsR w G v l) (hs : w.heap.size ≤ w'.heap.size) (hk : ∀ k, G k → k < w.heap.size → w'.heap[k]? = w.heap[k]?) : RecsR w' G v l := by
  obtain ⟨A, c, vs, e, hc, hR, hG, hr⟩ := h
  refine ⟨A, c, vs, e, hc, reads_keep hR hs fun h0 ad ea => ?_, hG, fun i u b h1 h2 => (hr i u b h1 h2).keep hs hk⟩
  obtain ⟨ad2, e2, hlt, -⟩ := hR.2 h0
  rw [ea] at e2
  injection e2 with e2
  subst e2
  exact hk _ (hG ad ea h0) hlt
theorem RecsR.mono (h : RecsR w G v l) (hG : ∀ k, k < w.heap.size → G k → H k) : RecsR w H v l := by
  obtain ⟨A, c, vs, e, hc, hR, hg, hr⟩ := h
  refine ⟨A, c, vs, e, hc, hR, fun ad ea h0 => ?_, fun i u b h1 h2 => (hr i u b h1 h2).mono hG⟩
  obtain ⟨ad2, e2, hlt, -⟩ := hR.2 h0
  rw [ea] at e2
  injection e2 with e2
  subst e2
  exact hG _ hlt (hg ad ea h0)
theorem RecAt.keep (h : RecAt w G u b) (hk : ∀ k, G k → k < w.heap.size → w'.heap[k]? = w.heap[k]?) : RecAt w' G u b := ⟨own_keep h.1 fun k e => hk k (h.2 k e), h.2⟩
theorem RecAt.mono (h : RecAt w G u b) (hG : ∀ k, k < w.heap.size → G k → H k) : RecAt w H u b := ⟨h.1, fun k e => hG k (h.1.lt k e).2 (h.2 k e)⟩
theorem RecsAt.keep (h : RecsAt w G v l) (hk : ∀ k, G k → k < w.heap.size → w'.heap[k]? = w.heap[k]?) : RecsAt w' G v l := by
  obtain ⟨vs, ho, hg, hr⟩ := h
  exact ⟨vs, own_keep ho fun k e => hk k (hg k e), hg, fun i u b h1 h2 => (hr i u b h1 h2).keep hk⟩
theorem RecsAt.mono (h : RecsAt w G v l) (hG : ∀ k, k < w.heap.size → G k → H k) : RecsAt w H v l := by
  obtain ⟨vs, ho, hg, hr⟩ := h
  exact ⟨vs, ho, fun k e => hG k (ho.lt k e).2 (hg k e), fun i u b h1 h2 => (hr i u b h1 h2).mono hG⟩
theorem RecAt.read (h : RecAt w G u b) : ByR w G u b := by
  obtain ⟨ho, hg⟩ := h
  have hsl := ho
  rcases ho.2 with ⟨e, h0⟩ | ⟨g, cap, cur, e, hb, hh, hc, hrest⟩
  · refine ⟨none, 0, by rw [e, h0], by omega, ?_, fun ad ea => by cases ea⟩
    rw [e] at hsl
    have := Reads.of_own (A := none) (c := 0) (n := b.length) (by rw [h0] at hsl ⊢; exact hsl)
    exact this
  · subst e
    exact ⟨some ⟨g, 0, none⟩, cap, rfl, hc, Reads.of_own ho, fun ad ea _ => by
      injection ea with ea
      rw [← ea]
      exact hg g rfl⟩
theorem RecsAt.read (h : RecsAt w G v l) : RecsR w G v l := by
  obtain ⟨vs, ho, hg, hr⟩ := h
  have hsl := ho
  rcases ho.2 with ⟨e, h0⟩ | ⟨g, cap, cur, e, hb, hh, hc, hrest⟩
  · refine ⟨none, 0, vs, by rw [e, h0], by omega, ?_, (fun ad ea => by cases ea), fun i u b h1 h2 => (hr i u b h1 h2).read⟩
    rw [e] at hsl
    have := Reads.of_own (A := none) (c := 0) (n := l.length) (by rw [h0] at hsl ⊢; exact hsl)
    exact this
  · subst e
    exact ⟨some ⟨g, 0, none⟩, cap, vs, rfl, hc, Reads.of_own ho, fun ad ea _ => by
      injection ea with ea
      rw [← ea]
      exact hg g rfl, fun i u b h1 h2 => (hr i u b h1 h2).read⟩
theorem RecsAt.nil (w : World) (G : Nat → Prop) : RecsAt w G (.slice none 0 0) [] := ⟨[], World.ownsRow_nil _ _ _ _, (fun k e => by cases e), (fun i u b h => by cases h)⟩
theorem ByR.below (h : ByR w G u b) (hb : Below w.heap.size w w') : ByR w' G u b := h.keep hb.size fun k _ hlt => hb.block k hlt
theorem RecsR.below (h : RecsR w G v l) (hb : Below w.heap.size w w') : RecsR w' G v l := h.keep hb.size fun k _ hlt => hb.block k hlt
theorem RecAt.below (h : RecAt w G u b) (hb : Below w.heap.size w w') : RecAt w' G u b := h.keep fun k _ hlt => hb.block k hlt
theorem RecsAt.below (h : RecsAt w G v l) (hb : Below w.heap.size w w') : RecsAt w' G v l := h.keep fun k _ hlt => hb.block k hlt
theorem ByR.drewN (h : ByR w G u b) (q : Nat) : ByR (w.drewN q) G u b := h.keep (Nat.le_refl _) fun _ _ _ => rfl
theorem RecsR.drewN (h : RecsR w G v l) (q : Nat) : RecsR (w.drewN q) G v l := h.keep (Nat.le_refl _) fun _ _ _ => rfl
theorem RecsAt.drewN (h : RecsAt w G v l) (q : Nat) : RecsAt (w.drewN q) G v l := h.keep fun _ _ _ => rfl
/-- rows: the block of a row of records and that of a row of bytes are two -/
theorem RecsAt.grown {row : Option Nat} (h : RecsAt w G v l) (hg : w.grownBy w' row) (hr : ∀ k, row = some k → ¬ G k) : RecsAt w' G v l :=
  h.keep fun k hk hlt => hg.block k hlt fun e => hr k e.symm hk
end
end Go.Proofs.YtfchnpdgnhoffaaGreatDoor
namespace Go.Proofs.YtfchnpdgnhoffaaGreatDoor
open Go.RowKit Go.Shelf Go.Maps

theorem info25 : (Tryz.prog.info? 25).map (fun i => (i.zero, i.size, i.bytes)) = some (some (.slice none 0 0), 1, 24) := by kernel_rfl
/-- the cells vs are the records l, each in a row of its own, made from base on -/
def VecN (w : World) (base : Nat) (vs : List Value) (l : List Rec) : Prop := vs.length = l.length ∧ ∀ (i : Nat) (u : Value) (b : Rec), vs[i]? = some u → l[i]? = some b → w.ownsRow base 5 1 u b.length (bytesV b)
/-- records, newly made from base on -/
def RecsN (w : World) (base : Nat) (v : Value) (l : List Rec) : Prop := ∃ vs, w.ownsRow base 25 1 v l.length vs ∧ VecN w base vs l
section
variable {w w' : World} {base : Nat} {u v v2 : Value} {vs us : List Value} {l m : List Rec} {b : Rec}
theorem VecN.nil : VecN w base [] [] := ⟨rfl, fun i u b h => by cases h⟩
theorem VecN.below (h : VecN w base vs l) (hb : Below w.heap.size w w') : VecN w' base vs l := ⟨h.1, fun i u b h1 h2 => own_keep (h.2 i u b h1 h2) fun k _ hlt => hb.block k hlt⟩
theorem VecN.rowed {e : TypeId} {n : Nat} {xs : List Value} (h : VecN w base vs l) (hv : w.ownsRow base e 1 v n xs) (he : e ≠ 5) (hg : w.grownBy w' v.ownBlock) : VecN w' base vs l :=
  ⟨h.1, fun i u b h1 h2 => by
    have hu := h.2 i u b h1 h2
    refine own_keep hu fun k hk hlt => hg.block k hlt fun e2 => ?_
    exact (IsT.of_own hv e2.symm).ne (IsT.of_own hu hk) he rfl⟩
theorem VecN.grown {row : Option Nat} (h : VecN w base vs l) (hg : w.grownBy w' row) (hr : ∀ k, row = some k → w.heap.size ≤ k) : VecN w' base vs l :=
  ⟨h.1, fun i u b h1 h2 => own_keep (h.2 i u b h1 h2) fun k _ hlt => hg.block k hlt fun e2 => by have := hr k e2.symm; omega⟩
theorem VecN.snoc (h : VecN w base vs l) (hu : w.ownsRow base 5 1 u b.length (bytesV b)) : VecN w base (vs ++ [u]) (l ++ [b]) :=
  ⟨by simp [h.1], fun i u2 b2 h1 h2 => by
    rcases Nat.lt_or_ge i vs.length with h3 | h3
    · rw [List.getElem?_append_left h3] at h1
      rw [List.getElem?_append_left (by rw [← h.1]; exact h3)] at h2
      exact h.2 i u2 b2 h1 h2
    · rw [List.getElem?_append_right h3] at h1
      rw [List.getElem?_append_right (by rw [← h.1]; exact h3)] at h2
      obtain ⟨k, hk⟩ : ∃ k, k = i - vs.length := ⟨_, rfl⟩
      rw [← hk] at h1
      rw [← h.1, ← hk] at h2
      cases k with
      | zero =>
        injection h1 with h1
        injection h2 with h2
        subst h1 h2
        exact hu
      | succ k => simp at h1⟩
theorem VecN.append (h : VecN w base vs l) (k : VecN w base us m) : VecN w base (vs ++ us) (l ++ m) :=
  ⟨by simp [h.1, k.1], fun i u2 b2 h1 h2 => by
    rcases Nat.lt_or_ge i vs.length with h3 | h3
    · rw [List.getElem?_append_left h3] at h1
      rw [List.getElem?_append_left (by rw [← h.1]; exact h3)] at h2
      exact h.2 i u2 b2 h1 h2
    · rw [List.getElem?_append_right h3] at h1
      rw [List.getElem?_append_right (by rw [← h.1]; exact h3), ← h.1] at h2
      exact k.2 _ u2 b2 h1 h2⟩
theorem VecN.low (h : VecN w base vs l) {base' : Nat} (hb : base' ≤ base) : VecN w base' vs l := ⟨h.1, fun i u b h1 h2 => own_low (h.2 i u b h1 h2) hb⟩
theorem RecsN.low (h : RecsN w base v l) {base' : Nat} (hb : base' ≤ base) : RecsN w base' v l := by
  obtain ⟨vs, ho, hv⟩ := h
  exact ⟨vs, own_low ho hb, hv.low hb⟩
theorem RecsN.below (h : RecsN w base v l) (hb : Below w.heap.size w w') : RecsN w' base v l := by
  obtain ⟨vs, ho, hv⟩ := h
  exact ⟨vs, own_keep ho fun k _ hlt => hb.block k hlt, hv.below hb⟩
theorem RecsN.grown {row : Option Nat} (h : RecsN w base v l) (hg : w.grownBy w' row) (hr : ∀ k, row = some k → w.heap.size ≤ k) : RecsN w' base v l := by
  obtain ⟨vs, ho, hv⟩ := h
  exact ⟨vs, own_keep ho fun k _ hlt => hg.block k hlt fun e2 => by have := hr k e2.symm; omega, hv.grown hg hr⟩
theorem RecsN.at_ (h : RecsN w base v l) : RecsAt w (fun k => base ≤ k ∧ k < w.heap.size) v l := by
  obtain ⟨vs, ho, hv⟩ := h
  exact ⟨vs, ho |> fun h => own_low h (Nat.zero_le _), fun k e => ho.lt k e, fun i u b h1 h2 => ⟨own_low (hv.2 i u b h1 h2) (Nat.zero_le _), fun k e => (hv.2 i u b h1 h2).lt k e⟩⟩
theorem RecsN.nil (w : World) (base : Nat) : RecsN w base (.slice none 0 0) [] := ⟨[], World.ownsRow_nil _ _ _ _, VecN.nil⟩
end
theorem slice_one (A : Option Addr) (n c : Nat) : ∀ u ∈ [Value.slice A n c], u.oneCell' = true := by
  intro u hu
  rw [List.mem_singleton.1 hu]; rfl
theorem own_one {w : World} {base n : Nat} {e : TypeId} {u : Value} {xs : List Value} (h : w.ownsRow base e 1 u n xs) : ∀ x ∈ [u], x.oneCell' = true := by
  obtain ⟨A, c, rfl⟩ := own_slice h
  exact slice_one A n c

def CopR (w : World) (l : List Rec) (v i : Value) (wr : World) : Prop :=
  ∃ (k : Nat) (u : Value) (vs : List Value), k ≤ l.length ∧ u = v ∧ i = .int .i64 k ∧ wr.ownsRow w.heap.size 25 1 u k vs ∧ VecN wr w.heap.size vs (l.take k) ∧ Below w.heap.size w wr
set_option maxRecDepth 100000 in
set_option maxHeartbeats 6400000 in
theorem copied_any (v : Value) (l : List Rec) (G : Nat → Prop) (w : World) (h : RecsR w G v l) (hl : l.length ≤ 10000) (hb : ∀ b ∈ l, b.length ≤ 1000000) :
    Calls Tryz.prog 43 #[v] w fun e w' => ∃ v2, e = .returned v2 ∧ RecsN w' w.heap.size v2 l ∧ Below w.heap.size w w' := by
  obtain ⟨i5, hi5, hz50, hz51, hz52⟩ := info_parts info5
  obtain ⟨i25, hi25, hz250, hz251, hz252⟩ := info_parts info25
  have HI5 := Lib.hid hi5
  have HZ50 := Lib.hid hz50
  have HZ51 := Lib.hid hz51
  have HZ52 := Lib.hid hz52
  have HI25 := Lib.hid hi25
  have HZ250 := Lib.hid hz250
  have HZ251 := Lib.hid hz251
  have HZ252 := Lib.hid hz252
  obtain ⟨A, c, vs0, rfl, hc, hR, hG, hr⟩ := h
  have HR := Lib.hid hR
  have HU := Lib.hid hr
  have HBL := Lib.hid hb
  clear hR hG hr hb hi5 hz50 hz51 hz52 hi25 hz250 hz251 hz252
  obtain ⟨n, hn⟩ : ∃ n, n = l.length := ⟨_, rfl⟩
  rw [← hn] at hl hc HR ⊢
  have HN := Lib.hid hn
  clear hn
  go_enter Tryz.func43, Tryz.ntmps43
  go_wp2_with fail
  go_loopw [3, 8] (fun v i wr => CopR w l v i wr) (fun _ i _ => n - (intOf i).toNat)
  case atStart => exact ⟨0, _, [], Nat.zero_le _, rfl, rfl, World.ownsRow_nil _ _ _ _, VecN.nil, Below.refl _ _⟩
  case round =>
    obtain ⟨k, u, vs, hk, hu, rfl, ho, hv, hbl⟩ := hrel
    subst hu
    have HO := Lib.hid ho
    have HV := Lib.hid hv
    have HB := Lib.hid hbl
    have hsz := hbl.size
    clear ho hv hbl
    have hk : k ≤ n := by rw [HN.out]; exact hk
    by_cases hlt : k < n
    · obtain ⟨ad, rfl, hg, hcell⟩ := HR.out.2 (by omega)
      have hkl : k < l.length := by rw [← HN.out]; exact hlt
      have hvl : k < vs0.length := by have := HR.out.1; omega
      obtain ⟨b, hbe⟩ : ∃ b, b = l[k] := ⟨_, rfl⟩
      have hbl : b.length ≤ 1000000 := HBL.out b (by rw [hbe]; exact List.getElem_mem _)
      obtain ⟨A1, c1, hu1, hc1, hR1, hG1⟩ := HU.out k vs0[k] b (List.getElem?_eq_getElem hvl) (by rw [hbe]; exact List.getElem?_eq_getElem hkl)
      have d0 : wr.cell? (ad.add k) = some (.slice A1 b.length c1) := by
        refine (HB.out.cell (p := ad.add k) (by rw [block_of_add]; exact hg)).trans ?_
        rw [← hu1]
        exact hcell k _ (List.getElem?_eq_getElem hvl)
      have HR1 := Lib.hid ((hR1.below HB.out).more hsz)
      have HT := Lib.hid (show l.take (k + 1) = l.take k ++ [b] by rw [hbe]; exact List.take_succ_eq_append_getElem hkl)
      obtain ⟨A2, d2, hue⟩ := own_slice HO.out
      subst hue
      have hvk : vs.length = k := by have := HO.out.1; omega
      have HVL := Lib.hid hvk
      clear hcell hbe hu1 hc1 hR1 hG1 hkl hvl hvk
      go_wp2_with (first
        | (at_builtin; go_loud (refine wpList_append_any _ rfl (.const (.slice none 0 0)) (.tmp 13) 25 rfl w.heap.size 5 i5 (.int .u8 0) 1 1 Tryz.underlying25 HI5.out HZ50.out HZ51.out HZ52.out rfl (by omega) (.slice none 0 0) 0 [] rfl (World.ownsRow_nil _ _ _ _) wr.heap.size A1 b.length c1 (bytesV b) rfl HR1.out (bytesV_one _) (by simp [maxLen]; omega) (by omega) (by omega) ?_; intro v4 w4 hown4 hgrow4 _; have HW4 := Lib.hid (show w4.ownsRow w.heap.size 5 1 v4 b.length (bytesV b) by rwa [Nat.zero_add, List.nil_append] at hown4); have HG4 := Lib.hid hgrow4; have hs4 := hgrow4.size; obtain ⟨A4, d4, hv4⟩ := own_slice HW4.out; subst hv4; clear hown4 hgrow4))
        | (at_builtin; go_loud (refine wpList_append_any _ rfl (.tmp 12) (.tmp 15) 29 rfl w.heap.size 25 i25 (.slice none 0 0) 1 24 Tryz.underlying29 HI25.out HZ250.out HZ251.out HZ252.out rfl (by omega) (.slice A2 k d2) k vs rfl ((own_keep HO.out (fun x _ hx => HG4.out.block x hx (fun e => by cases e))).alloc _) (w4.heap.size + 1) (some ⟨w4.heap.size, 0, none⟩) 1 1 [.slice A4 b.length d4] rfl (reads_new1 _ _ _) (slice_one _ _ _) (by simp [maxLen]; omega) (by omega) (by simp; omega) ?_; intro v5 w5 hown5 hgrow5 _; have HW5 := Lib.hid hown5; have HG5 := Lib.hid hgrow5; have hs5 := hgrow5.size; clear hown5 hgrow5)))
      refine ⟨⟨k + 1, _, vs ++ [.slice A4 b.length d4], by rw [← HN.out]; omega, rfl, by go_num, ?_, ?_, ?_⟩, by simp [intOf]; omega⟩
      · have := HW5.out
        exact this
      · rw [HT.out]
        have h1 : VecN (w4.alloc (.cells #[Value.slice A4 b.length d4] 25)) w.heap.size (vs ++ [.slice A4 b.length d4]) (l.take k ++ [b]) := ((HV.out.grown HG4.out (fun x e => by cases e)).snoc HW4.out).below ((Below.refl _ w4).alloc (Nat.le_refl _) _)
        have h2 : (w4.alloc (.cells #[Value.slice A4 b.length d4] 25)).ownsRow w.heap.size 25 1 (.slice A2 k d2) k vs := (own_keep HO.out (fun x _ hx => HG4.out.block x hx (fun e => by cases e))).alloc _
        exact h1.rowed h2 (by decide) HG5.out
      · exact ((HB.out.grown HG4.out (by omega) (fun x e => by cases e)).alloc (by omega) _).grown HG5.out (by simp; omega) (fun x hx => (HO.out.lt x hx).1)
    · obtain rfl : k = n := by omega
      go_wp2
      go_ret
      refine ⟨_, rfl, ⟨vs, ?_, ?_⟩, HB.out⟩
      · rw [← HN.out]; exact HO.out
      · have := HV.out
        rwa [HN.out, List.take_length] at this
end Go.Proofs.YtfchnpdgnhoffaaGreatDoor
namespace Go.Proofs.YtfchnpdgnhoffaaGreatDoor
open Go.RowKit Go.Shelf Go.Maps

theorem own_lit (w : World) (t : TypeId) (cs : Array Value) (n : Nat) (hn : cs.size = n) (hm : n ≤ maxLen) : (w.alloc (.cells cs t)).ownsRow w.heap.size t 1 (.slice (some ⟨w.heap.size, 0, none⟩) n n) n cs.toList :=
  ⟨by simp [hn], .inr ⟨_, n, cs, rfl, Nat.le_refl _, heap_alloc_new w _, Nat.le_refl _, hm, by omega, by rw [Nat.mul_one]; exact List.take_of_length_le (by simp [hn])⟩⟩
theorem u8_val (n : Nat) : ((UInt8.ofNat n).toNat : Int) = (n : Int) % 256 := by
  have : (UInt8.ofNat n).toNat = n % 256 := by simp
  rw [this]; omega
set_option maxRecDepth 100000 in
set_option maxHeartbeats 3200000 in
theorem four_any (n : Nat) (hn : n < 4294967296) (w : World) : Calls Tryz.prog 74 #[.int .u32 (n : Int)] w fun e w' => ∃ v, e = .returned v ∧ w'.ownsRow w.heap.size 5 1 v 4 (bytesV (fourL n)) ∧ Below w.heap.size w w' := by
  go_enter Tryz.func74, Tryz.ntmps74
  go_wp2
  refine bodyPost_ret (results_tmp rfl _ _ _) rfl ⟨_, rfl, ?_, (Below.refl _ w).alloc (Nat.le_refl _) _⟩
  have h := own_lit w 5 #[Value.int IntKind.u8 ((n : Int) / 16777216), Value.int IntKind.u8 ((n : Int) / 65536 % 256), Value.int IntKind.u8 ((n : Int) / 256 % 256), Value.int IntKind.u8 ((n : Int) % 256)] 4 rfl (by decide)
  have e : (#[Value.int IntKind.u8 ((n : Int) / 16777216), Value.int IntKind.u8 ((n : Int) / 65536 % 256), Value.int IntKind.u8 ((n : Int) / 256 % 256), Value.int IntKind.u8 ((n : Int) % 256)]).toList = bytesV (fourL n) := by
    show _ = [Value.int .u8 ((UInt8.ofNat (n / 16777216)).toNat : Int), .int .u8 ((UInt8.ofNat (n / 65536)).toNat : Int), .int .u8 ((UInt8.ofNat (n / 256)).toNat : Int), .int .u8 ((UInt8.ofNat n).toNat : Int)]
    rw [u8_val, u8_val, u8_val, u8_val]
    have h1 : ((n / 16777216 : Nat) : Int) % 256 = (n : Int) / 16777216 := by omega
    have h2 : ((n / 65536 : Nat) : Int) % 256 = (n : Int) / 65536 % 256 := by omega
    have h3 : ((n / 256 : Nat) : Int) % 256 = (n : Int) / 256 % 256 := by omega
    rw [h1, h2, h3]
  rw [e] at h
  exact h

def crcK (x : Nat) : Nat → Nat
  | 0 => x
  | k + 1 => crc1 (crcK x k)
theorem crc8_eq (x : Nat) : crcK x 8 = crc8 x := rfl
def crcR (w : World) (b : List UInt8) (x i : Value) (wr : World) : Prop := ∃ k : Nat, k ≤ b.length ∧ x = .int .u32 (((b.take k).foldl crcStep 4294967295 : Nat) : Int) ∧ i = .int .i64 k ∧ wr = w
def crcI (w : World) (y : Nat) (x i : Value) (wr : World) : Prop := ∃ k : Nat, k ≤ 8 ∧ x = .int .u32 ((crcK y k : Nat) : Int) ∧ i = .int .i64 k ∧ wr = w
theorem crc1_lt {x : Nat} (h : x < 4294967296) : crc1 x < 4294967296 := by
  unfold crc1
  have h1 : x >>> 1 < 2 ^ 32 := by rw [Nat.shiftRight_eq_div_pow]; omega
  have h2 : 3988292384 * (x &&& 1) < 2 ^ 32 := by
    have : x &&& 1 ≤ 1 := Nat.and_le_right
    omega
  exact Nat.xor_lt_two_pow h1 h2
theorem crcK_lt {x : Nat} (h : x < 4294967296) : ∀ k, crcK x k < 4294967296
  | 0 => h
  | k + 1 => crc1_lt (crcK_lt h k)
theorem crcStep_lt {x : Nat} (h : x < 4294967296) (b : UInt8) : crcStep x b < 4294967296 := by
  unfold crcStep
  rw [← crc8_eq]
  have hb := b.toNat_lt
  exact crcK_lt (Nat.xor_lt_two_pow (n := 32) h (by omega)) 8
theorem fold_lt : ∀ (l : List UInt8) (x : Nat), x < 4294967296 → l.foldl crcStep x < 4294967296
  | [], _, h => h
  | b :: l, _, h => fold_lt l _ (crcStep_lt h b)
theorem crcL_lt (l : List UInt8) : crcL l < 4294967296 := Nat.xor_lt_two_pow (n := 32) (by decide) (fold_lt l _ (by decide))
theorem crc1_eq (q : Nat) (h : q < 4294967296) : bits BinOp.xor IntKind.u32 ((q : Int) / 2) (3988292384 * bits BinOp.and IntKind.u32 (q : Int) 1 % 4294967296) = (crc1 q : Int) := by
  have hand : bits BinOp.and IntKind.u32 (q : Int) 1 = ((q &&& 1 : Nat) : Int) := u32_and_nat q 1 h (by decide)
  rw [hand, Nat.and_one_is_mod]
  have e1 : (q : Int) / 2 = ((q / 2 : Nat) : Int) := by omega
  have e2 : 3988292384 * ((q % 2 : Nat) : Int) % 4294967296 = ((3988292384 * (q % 2) : Nat) : Int) := by omega
  rw [e1, e2, u32_xor_nat _ _ (by omega) (by omega)]
  unfold crc1
  rw [Nat.shiftRight_eq_div_pow, Nat.and_one_is_mod]
set_option maxRecDepth 100000 in
set_option maxHeartbeats 3200000 in
theorem sum_any (A : Option Addr) (c : Nat) (b : List UInt8) (w : World) (h : Reads w w.heap.size 1 A b.length (bytesV b)) (hl : b.length ≤ 1000000) :
    Calls Tryz.prog 75 #[.slice A b.length c] w fun e w' => e = .returned (.int .u32 (crcL b : Nat)) ∧ w' = w := by
  have H := Lib.hid h
  clear h
  obtain ⟨n, hn⟩ : ∃ n, n = b.length := ⟨_, rfl⟩
  rw [← hn] at hl H ⊢
  have HN := Lib.hid hn
  clear hn
  go_enter Tryz.func75, Tryz.ntmps75
  go_wp2_with fail
  go_loopw [3, 8] (fun x i wr => crcR w b x i wr) (fun _ i _ => n - (intOf i).toNat)
  case atStart => exact ⟨0, Nat.zero_le _, rfl, rfl, rfl⟩
  case round =>
    obtain ⟨k, hk, rfl, rfl, rfl⟩ := hrel
    have hkn := HN.out
    by_cases hlt : k < n
    · obtain ⟨ad, rfl, hg, hcell⟩ := H.out.2 (by omega)
      have hkb : k < b.length := by omega
      obtain ⟨x, hx⟩ : ∃ x, x = b[k] := ⟨_, rfl⟩
      have d0 : wr.cell? (ad.add k) = some (.int .u8 (x.toNat : Int)) := by
        rw [hx]
        exact hcell k _ (by unfold bytesV; rw [List.getElem?_map, List.getElem?_eq_getElem hkb]; rfl)
      obtain ⟨y, hy⟩ : ∃ y, y = (b.take k).foldl crcStep 4294967295 := ⟨_, rfl⟩
      have hyl : y < 4294967296 := by rw [hy]; exact fold_lt _ _ (by decide)
      have hst : (b.take (k + 1)).foldl crcStep 4294967295 = crcStep y x := by
        rw [List.take_succ_eq_append_getElem hkb, List.foldl_append, ← hy, hx]; rfl
      rw [← hy]
      have HST := Lib.hid hst
      clear hcell hx hy hst
      have hx8 := x.toNat_lt
      obtain ⟨z, hz⟩ : ∃ z, z = y ^^^ x.toNat := ⟨_, rfl⟩
      have hxor : bits BinOp.xor IntKind.u32 (y : Int) (x.toNat : Int) = (z : Int) := by rw [hz]; exact u32_xor_nat y x.toNat hyl (by omega)
      have hzl : z < 4294967296 := by rw [hz]; exact Nat.xor_lt_two_pow (n := 32) hyl (by omega)
      have HZ := Lib.hid hz
      clear hz
      go_wp2_with fail
      go_loopw [3, 16] (fun x i wx => crcI wr z x i wx) (fun _ i _ => 8 - (intOf i).toNat)
      case atStart => exact ⟨0, Nat.zero_le _, rfl, rfl, rfl⟩
      case round =>
        obtain ⟨j, hj, rfl, rfl, rfl⟩ := hrel
        by_cases hj8 : j < 8
        · obtain ⟨q, hq⟩ : ∃ q, q = crcK z j := ⟨_, rfl⟩
          have hql : q < 4294967296 := by rw [hq]; exact crcK_lt hzl j
          have hK := crc1_eq q hql
          have HK := Lib.hid hK
          clear hK
          rw [← hq]
          have HQ := Lib.hid hq
          clear hq
          go_wp2_with fail
          refine ⟨⟨j + 1, by omega, by rw [HK.out, HQ.out]; rfl, by go_num, rfl⟩, by simp [intOf]; omega⟩
        · obtain rfl : j = 8 := by omega
          go_wp2_with fail
          refine ⟨⟨k + 1, by omega, by rw [HST.out, crc8_eq, HZ.out]; rfl, by go_num, rfl⟩, by simp [intOf]; omega⟩
    · obtain rfl : k = n := by omega
      go_wp2
      go_ret
      refine ⟨?_, rfl⟩
      have h1 := fold_lt b 4294967295 (by decide)
      show Ending.returned (Value.int .u32 (bits BinOp.xor IntKind.u32 ((4294967295 : Nat) : Int) _)) = _
      rw [u32_xor_nat _ _ (by decide) h1]
      rfl
end Go.Proofs.YtfchnpdgnhoffaaGreatDoor
namespace Go.Proofs.YtfchnpdgnhoffaaGreatDoor
open Go.RowKit Go.Shelf Go.Maps

theorem join_eq (a b c d : Int) (ha : 0 ≤ a ∧ a < 256) (hb : 0 ≤ b ∧ b < 256) (hc : 0 ≤ c ∧ c < 256) (hd : 0 ≤ d ∧ d < 256) : bits BinOp.or IntKind.u32 (bits BinOp.or IntKind.u32 (bits BinOp.or IntKind.u32 (a * 16777216) (b * 65536)) (c * 256)) d = a * 16777216 + b * 65536 + c * 256 + d := by
  have e1 : bits BinOp.or IntKind.u32 (a * 16777216) (b * 65536) = a * 16777216 + b * 65536 := bits_join .u32 32 (by decide) wraps_u32 24 _ _ (by omega) (by omega) (by omega) (by omega) (by omega) (by omega)
  have e2 : bits BinOp.or IntKind.u32 (a * 16777216 + b * 65536) (c * 256) = a * 16777216 + b * 65536 + c * 256 := bits_join .u32 32 (by decide) wraps_u32 16 _ _ (by omega) (by omega) (by omega) (by omega) (by omega) (by omega)
  rw [e1, e2]
  exact bits_join .u32 32 (by decide) wraps_u32 8 _ _ (by omega) (by omega) (by omega) (by omega) (by omega) (by omega)
theorem unfour_eq (n : Nat) (hn : n < 4294967296) : bits BinOp.or IntKind.u32 (bits BinOp.or IntKind.u32 (bits BinOp.or IntKind.u32 ((UInt8.ofNat (n / 16777216)).toNat * 16777216 : Int) ((UInt8.ofNat (n / 65536)).toNat * 65536 : Int)) ((UInt8.ofNat (n / 256)).toNat * 256 : Int)) ((UInt8.ofNat n).toNat : Int) = (n : Int) := by
  rw [u8_val, u8_val, u8_val, u8_val, join_eq _ _ _ _ (by omega) (by omega) (by omega) (by omega)]
  omega
set_option maxRecDepth 100000 in
set_option maxHeartbeats 3200000 in
theorem unfour_any (A : Option Addr) (B m c n : Nat) (r : List UInt8) (w : World) (hn : n < 4294967296) (h : Reads w B 1 A m (bytesV (fourL n ++ r))) :
    Calls Tryz.prog 84 #[.slice A m c] w fun e w' => e = .returned (.int .u32 (n : Int)) ∧ ∃ q, w' = w.drewN q := by
  have hm : 4 ≤ m := by have := h.1; rw [bytesV_length] at this; simp [fourL] at this; omega
  have q0 : (0 : Int) < m := by omega
  have q1 : (1 : Int) < m := by omega
  have q2 : (2 : Int) < m := by omega
  have q3 : (3 : Int) < m := by omega
  obtain ⟨ad, rfl, hB, hcell⟩ := h.2 (by omega)
  have e := unfour_eq n hn
  have c0 : w.cell? ad = some (.int .u8 ((UInt8.ofNat (n / 16777216)).toNat : Int)) := hcell 0 _ rfl
  have c1 : w.cell? ⟨ad.block, ad.off + 1, none⟩ = some (.int .u8 ((UInt8.ofNat (n / 65536)).toNat : Int)) := hcell 1 _ rfl
  have c2 : w.cell? ⟨ad.block, ad.off + 2, none⟩ = some (.int .u8 ((UInt8.ofNat (n / 256)).toNat : Int)) := hcell 2 _ rfl
  have c3 : w.cell? ⟨ad.block, ad.off + 3, none⟩ = some (.int .u8 ((UInt8.ofNat n).toNat : Int)) := hcell 3 _ rfl
  have b0 := (UInt8.ofNat (n / 16777216)).toNat_lt
  have b1 := (UInt8.ofNat (n / 65536)).toNat_lt
  have b2 := (UInt8.ofNat (n / 256)).toNat_lt
  have b3 := (UInt8.ofNat n).toNat_lt
  have HE := Lib.hid e
  clear h hcell e
  generalize (UInt8.ofNat (n / 16777216)).toNat = x0 at *
  generalize (UInt8.ofNat (n / 65536)).toNat = x1 at *
  generalize (UInt8.ofNat (n / 256)).toNat = x2 at *
  generalize (UInt8.ofNat n).toNat = x3 at *
  go_enter Tryz.func84, Tryz.ntmps84
  go_upto_region 1 with fail
  go_quiet (fail)
  go_wp2
  go_ret
  exact ⟨by rw [HE.out]; rfl, _, rfl⟩
end Go.Proofs.YtfchnpdgnhoffaaGreatDoor
namespace Go.Proofs.YtfchnpdgnhoffaaGreatDoor
open Go.RowKit Go.Shelf Go.Maps

theorem ba_eq {a b : ByteArray} (h : a.data.toList = b.data.toList) : a = b := by
  apply ByteArray.ext
  exact Array.toList_inj.1 h
theorem app_name (n : Nat) (k : Nat) (d : List UInt8) (h : preL ++ (List.replicate k 48 ++ d) = nameL n) (s : ByteArray) (hs : s.data.toList = List.replicate k 48) : ByteArray.append (ByteArray.append ⟨#[119, 97, 108, 47]⟩ s) ⟨d.toArray⟩ = nB n := by
  apply ba_eq
  show (ByteArray.append (ByteArray.append _ s) _).data.toList = (nmBA (nameL n)).data.toList
  rw [nmBA_data, ← h]
  simp [ByteArray.append, hs, preL]
set_option maxRecDepth 100000 in
set_option maxHeartbeats 3200000 in
theorem named_any (n : Nat) (hn : n < 100) (w : World) : Calls Tryz.prog 57 #[.int .i64 (n : Int)] w fun e w' => e = .returned (.string (nB n)) ∧ Below w.heap.size w w' := by
  have hI := Tryz.strconv_Itoa_small n hn w
  have hE := nameL_eq n hn
  obtain ⟨d, hd⟩ : ∃ d, d = Go.Lib.decDigits n := ⟨_, rfl⟩
  rw [← hd] at hI hE
  have hl : d.length ≤ 2 := by
    rw [hd]
    by_cases h : n < 10
    · rw [Go.Lib.decDigits_one h]; simp
    · rw [Go.Lib.decDigits_two h hn]; simp
  have hsz : (⟨d.toArray⟩ : ByteArray).size = d.length := by simp [ByteArray.size]
  have HE := Lib.hid hE
  have HI := Lib.hid hI
  clear hd hE hI
  go_enter Tryz.func57, Tryz.ntmps57
  go_wp2_with fail
  refine HI.out.mono ?_
  rintro e w1 ⟨rfl, rfl⟩
  generalize hs : (⟨d.toArray⟩ : ByteArray) = s at *
  have hmax : max (12 - (s.size : Int)) 0 = ((12 - d.length : Nat) : Int) := by omega
  go_wp2_with fail
  rw [show max (12 - (d.length : Int)) 0 = ((12 - d.length : Nat) : Int) by omega]
  refine (Tryz.strings_Repeat ⟨#[48]⟩ (12 - d.length) w1 (by omega) (by show 1 * _ ≤ _; omega)).mono ?_
  rintro e w2 ⟨rfl, hb⟩
  have hrep : Go.Lib.repeatL (⟨#[48]⟩ : ByteArray).data.toList (12 - d.length) = List.replicate (12 - d.length) 48 := by
    generalize 12 - d.length = k
    induction k with
    | zero => rfl
    | succ k ih => simp [Go.Lib.repeatL, List.replicate_succ] at *; try exact ih
  rw [hrep]
  have HB := Lib.hid hb
  clear hb hrep
  generalize hr : (⟨(List.replicate (12 - d.length) 48).toArray⟩ : ByteArray) = r at *
  have hrs : r.size = 12 - d.length := by rw [← hr]; simp [ByteArray.size]
  have h1 : ¬9223372036854775807 < 4 + r.size := by omega
  have h2 : ¬9223372036854775807 < 4 + r.size + d.length := by omega
  have HRS := Lib.hid hrs
  have HR := Lib.hid hr
  have HS := Lib.hid hs
  clear hr hs hrs
  go_wp2
  go_ret
  refine ⟨?_, HB.out⟩
  rw [← HS.out]
  exact congrArg (fun x => Ending.returned (.string x)) (app_name n _ d HE.out r (by rw [← HR.out]))
end Go.Proofs.YtfchnpdgnhoffaaGreatDoor
namespace Go.Proofs.YtfchnpdgnhoffaaGreatDoor
open Go.RowKit Go.Shelf Go.Maps

theorem strCells_eq (s : ByteArray) : Lib.strCells s = bytesV s.data.toList := rfl
theorem recsL_take (l : List Rec) (k : Nat) : (recsL (l.take k)).length ≤ (recsL l).length := by
  have : recsL l = recsL (l.take k) ++ recsL (l.drop k) := by
    unfold recsL
    rw [← List.flatMap_append, List.take_append_drop]
  rw [this, List.length_append]
  omega
theorem recsL_snoc (l : List Rec) (b : Rec) : recsL (l ++ [b]) = recsL l ++ (fourL b.length ++ b) := by simp [recsL]
theorem fourL_len (n : Nat) : (fourL n).length = 4 := rfl
theorem bytesV_app (a b : List UInt8) : bytesV (a ++ b) = bytesV a ++ bytesV b := by simp [bytesV]
/-- what is written of an entry ahead of its first k records' end -/
def headL (a : Bool) (n : Nat) (l : List Rec) (k : Nat) : List UInt8 := kindB a :: (nameL n ++ recsL (l.take k))
theorem headL_len (a : Bool) (n : Nat) (l : List Rec) (k : Nat) : (headL a n l k).length = 17 + (recsL (l.take k)).length := by
  show (kindB a :: (nameL n ++ recsL (l.take k))).length = _
  rw [List.length_cons, List.length_append, nameL_len]; omega
theorem headL_next (a : Bool) (n : Nat) (l : List Rec) (k : Nat) (b : Rec) (h : l.take (k + 1) = l.take k ++ [b]) : headL a n l (k + 1) = headL a n l k ++ fourL b.length ++ b := by
  unfold headL
  rw [h, recsL_snoc]
  simp
theorem headL_end (a : Bool) (n : Nat) (l : List Rec) : headL a n l l.length = bodyL ⟨a, l⟩ n := by
  unfold headL bodyL
  rw [List.take_length]
def EntR (w : World) (a : Bool) (n : Nat) (l : List Rec) (v i : Value) (wr : World) : Prop :=
  ∃ (k : Nat) (u : Value), k ≤ l.length ∧ u = v ∧ i = .int .i64 k ∧ wr.ownsRow w.heap.size 5 1 u (headL a n l k).length (bytesV (headL a n l k)) ∧ Below w.heap.size w wr
set_option maxRecDepth 100000 in
set_option maxHeartbeats 6400000 in
theorem entry_any (a : Bool) (n : Nat) (v : Value) (l : List Rec) (G : Nat → Prop) (w : World) (hn : n < 100) (h : RecsR w G v l) (hl : l.length ≤ 10000) (hL : (recsL l).length ≤ 90000) (hb : ∀ b ∈ l, b.length ≤ 90000) :
    Calls Tryz.prog 52 #[.int .u8 ((kindB a).toNat : Int), .int .i64 (n : Int), v] w fun e w' => ∃ v2, e = .returned v2 ∧ w'.ownsRow w.heap.size 5 1 v2 (entL ⟨a, l⟩ n).length (bytesV (entL ⟨a, l⟩ n)) ∧ Below w.heap.size w w' := by
  obtain ⟨i5, hi5, hz50, hz51, hz52⟩ := info_parts info5
  have HI5 := Lib.hid hi5
  have HZ50 := Lib.hid hz50
  have HZ51 := Lib.hid hz51
  have HZ52 := Lib.hid hz52
  obtain ⟨A, c, vs0, rfl, hc, hR, hG, hr⟩ := h
  have HR := Lib.hid hR
  have HU := Lib.hid hr
  have HBL := Lib.hid hb
  have HLL := Lib.hid hL
  clear hR hG hr hb hi5 hz50 hz51 hz52 hL
  obtain ⟨m, hm⟩ : ∃ m, m = l.length := ⟨_, rfl⟩
  rw [← hm] at hl hc HR ⊢
  have HM := Lib.hid hm
  clear hm
  obtain ⟨kd, hkd⟩ : ∃ kd : Int, kd = ((kindB a).toNat : Int) := ⟨_, rfl⟩
  rw [← hkd]
  have HKD := Lib.hid hkd
  clear hkd
  go_enter Tryz.func52, Tryz.ntmps52
  go_wp2_with fail
  refine (named_any n hn _).mono ?_
  rintro e w2 ⟨rfl, hb2⟩
  have ho1 := own_lit w 5 #[Value.int IntKind.u8 kd] 1 rfl (by decide)
  have hb1 : Below w.heap.size w (w.alloc (.cells #[Value.int IntKind.u8 kd] 5)) := (Below.refl _ w).alloc (Nat.le_refl _) _
  have ho2 := own_keep ho1 (fun x _ hx => hb2.block x hx)
  have HO2 := Lib.hid ho2
  have HB2 := Lib.hid (hb1.trans (hb2.mono (by simp)))
  have hs2 := HB2.out.size
  have hnz : (nB n).size = 16 := rfl
  have HNN := Lib.hid (show (nB n).data.toList = nameL n from nmBA_data _)
  clear ho1 ho2 hb1 hb2
  generalize nB n = nm at *
  go_wp2_with (at_builtin; go_loud (refine Lib.wpList_append_own_string _ rfl (.tmp 11) (.tmp 13) 25 9 rfl w.heap.size 5 i5 Tryz.underlying25 Tryz.underlying9 HI5.out HZ50.out HZ51.out HZ52.out (.slice (some ⟨w.heap.size, 0, none⟩) 1 1) 1 [.int .u8 kd] rfl HO2.out nm rfl (by simp [maxLen]; omega) (by omega) (by omega) ?_; intro v3 w3 hown3 hgrow3 _; have HW3 := Lib.hid hown3; have HG3 := Lib.hid hgrow3; have hs3 := hgrow3.size; obtain ⟨A3, d3, hv3⟩ := own_slice hown3; subst hv3; clear hown3 hgrow3))
  have hst : w3.ownsRow w.heap.size 5 1 (.slice A3 17 d3) (headL a n l 0).length (bytesV (headL a n l 0)) := by
    have h1 := HW3.out
    rw [strCells_eq, HNN.out] at h1
    have e1 : headL a n l 0 = kindB a :: nameL n := by simp [headL, recsL]
    have e2 : (headL a n l 0).length = 1 + nm.size := by rw [headL_len, hnz]; simp [recsL]
    rw [e2, e1]
    have e3 : bytesV (kindB a :: nameL n) = [Value.int .u8 kd] ++ bytesV (nameL n) := by rw [HKD.out]; rfl
    rw [e3]
    rw [hnz] at h1 ⊢
    exact h1
  have HST := Lib.hid hst
  have HB3 := Lib.hid (HB2.out.grown HG3.out (by omega) (fun x hx => (HO2.out.lt x hx).1))
  clear hst
  go_loopw [7, 17] (fun v i wr => EntR w a n l v i wr) (fun _ i _ => m - (intOf i).toNat)
  case atStart => exact ⟨0, _, Nat.zero_le _, rfl, rfl, HST.out, HB3.out⟩
  case round =>
    obtain ⟨k, u, hk, hu, rfl, ho, hbl⟩ := hrel
    subst hu
    have hk : k ≤ m := by rw [HM.out]; exact hk
    have HO := Lib.hid ho
    have HB := Lib.hid hbl
    have hsz := hbl.size
    have hlen := headL_len a n l k
    have hrl := recsL_take l k
    have hrL := HLL.out
    clear ho hbl
    obtain ⟨L, hLe⟩ : ∃ L, L = (headL a n l k).length := ⟨_, rfl⟩
    have hL2 : L ≤ 90017 := by omega
    rw [← hLe] at HO
    have HLE := Lib.hid hLe
    clear hlen hrl hrL hLe
    obtain ⟨A2, d2, hue⟩ := own_slice HO.out
    subst hue
    by_cases hlt : k < m
    · obtain ⟨ad, rfl, hg, hcell⟩ := HR.out.2 (by omega)
      have hkl : k < l.length := by rw [← HM.out]; exact hlt
      have hvl : k < vs0.length := by have := HR.out.1; omega
      obtain ⟨b, hbe⟩ : ∃ b, b = l[k] := ⟨_, rfl⟩
      have hbl : b.length ≤ 90000 := HBL.out b (by rw [hbe]; exact List.getElem_mem _)
      obtain ⟨A1, c1, hu1, hc1, hR1, hG1⟩ := HU.out k vs0[k] b (List.getElem?_eq_getElem hvl) (by rw [hbe]; exact List.getElem?_eq_getElem hkl)
      have d0 : wr.cell? (ad.add k) = some (.slice A1 b.length c1) := by
        refine (HB.out.cell (p := ad.add k) (by rw [block_of_add]; exact hg)).trans ?_
        rw [← hu1]
        exact hcell k _ (List.getElem?_eq_getElem hvl)
      have HR1 := Lib.hid (hR1.below HB.out)
      have hT : l.take (k + 1) = l.take k ++ [b] := by rw [hbe]; exact List.take_succ_eq_append_getElem hkl
      have HN := Lib.hid (headL_next a n l k b hT)
      obtain ⟨q, hq⟩ : ∃ q, q = b.length := ⟨_, rfl⟩
      rw [← hq] at d0 HR1 hbl hc1
      have HQ := Lib.hid hq
      clear hcell hbe hu1 hR1 hG1 hkl hvl hT hq
      go_wp2_with fail
      refine (four_any q (by omega) wr).mono ?_
      rintro e w4 ⟨v4, rfl, ho4, hb4⟩
      obtain ⟨A4, d4, hv4⟩ := own_slice ho4
      subst hv4
      have HR4 := Lib.hid (Reads.of_own ho4)
      have HO4 := Lib.hid (own_keep HO.out (fun x _ hx => hb4.block x hx))
      have HB4 := Lib.hid (HB.out.trans (hb4.mono (by omega)))
      have HR14 := Lib.hid (HR1.out.below (hb4.mono hsz))
      have hs4 := hb4.size
      clear ho4 hb4
      go_wp2_with (first
        | (at_builtin; go_loud (refine wpList_append_any _ rfl (.tmp 21) (.tmp 25) 25 rfl w.heap.size 5 i5 (.int .u8 0) 1 1 Tryz.underlying25 HI5.out HZ50.out HZ51.out HZ52.out rfl (by omega) (.slice A2 L d2) L _ rfl HO4.out w4.heap.size A4 4 d4 (bytesV (fourL q)) rfl HR4.out (bytesV_one _) (by simp [maxLen]; omega) (by omega) (by omega) ?_; intro v5 w5 hown5 hgrow5 _; have HW5 := Lib.hid hown5; have HG5 := Lib.hid hgrow5; have hs5 := hgrow5.size; obtain ⟨A5, d5, hv5⟩ := own_slice HW5.out; subst hv5; have HR15 := Lib.hid (HR14.out.grown HG5.out (by omega) (fun x hx => (HO4.out.lt x hx).1)); clear hown5 hgrow5))
        | (at_builtin; go_loud (refine wpList_append_any _ rfl (.tmp 26) (.tmp 27) 25 rfl w.heap.size 5 i5 (.int .u8 0) 1 1 Tryz.underlying25 HI5.out HZ50.out HZ51.out HZ52.out rfl (by omega) (.slice A5 (L + 4) d5) (L + 4) _ rfl HW5.out w.heap.size A1 q c1 (bytesV b) rfl HR15.out (bytesV_one _) (by simp [maxLen]; omega) (by omega) (by omega) ?_; intro v6 w6 hown6 hgrow6 _; have HW6 := Lib.hid hown6; have HG6 := Lib.hid hgrow6; have hs6 := hgrow6.size; clear hown6 hgrow6)))
      refine ⟨⟨k + 1, v6, by rw [← HM.out]; omega, rfl, by go_num, ?_, ?_⟩, by simp [intOf]; omega⟩
      · have h1 := HW6.out
        rw [HN.out, List.length_append, List.length_append, ← HLE.out, fourL_len, ← HQ.out, bytesV_app, bytesV_app]
        exact h1
      · exact (HB4.out.grown HG5.out (by omega) (fun x hx => (HO4.out.lt x hx).1)).grown HG6.out (by omega) (fun x hx => (HW5.out.lt x hx).1)
    · obtain rfl : k = m := by omega
      have he : headL a n l k = bodyL ⟨a, l⟩ n := by rw [HM.out]; exact headL_end a n l
      have HR9 := Lib.hid (Reads.of_own HO.out)
      have HE := Lib.hid he
      clear he
      have hS := sum_any A2 d2 (headL a n l k) wr (by rw [← HLE.out]; exact HR9.out) (by rw [← HLE.out]; omega)
      rw [← HLE.out, HE.out] at hS
      have HS := Lib.hid hS
      obtain ⟨cr, hcr⟩ : ∃ cr, cr = crcL (bodyL ⟨a, l⟩ n) := ⟨_, rfl⟩
      have hcl : cr < 4294967296 := by rw [hcr]; exact crcL_lt _
      rw [← hcr] at HS
      have HCR := Lib.hid hcr
      clear hS hcr
      go_wp2_with fail
      refine HS.out.mono ?_
      rintro e w1 ⟨rfl, rfl⟩
      go_wp2_with fail
      refine (four_any cr hcl w1).mono ?_
      rintro e w4 ⟨v4, rfl, ho4, hb4⟩
      obtain ⟨A4, d4, hv4⟩ := own_slice ho4
      subst hv4
      have HR4 := Lib.hid (Reads.of_own ho4)
      have HO4 := Lib.hid (own_keep HO.out (fun x _ hx => hb4.block x hx))
      have HB4 := Lib.hid (HB.out.trans (hb4.mono (by omega)))
      have hs4 := hb4.size
      clear ho4 hb4
      go_wp2_with (at_builtin; go_loud (refine wpList_append_any _ rfl (.tmp 30) (.tmp 33) 25 rfl w.heap.size 5 i5 (.int .u8 0) 1 1 Tryz.underlying25 HI5.out HZ50.out HZ51.out HZ52.out rfl (by omega) (.slice A2 L d2) L _ rfl HO4.out w4.heap.size A4 4 d4 (bytesV (fourL cr)) rfl HR4.out (bytesV_one _) (by simp [maxLen]; omega) (by omega) (by omega) ?_; intro v5 w5 hown5 hgrow5 _; have HW5 := Lib.hid hown5; have HG5 := Lib.hid hgrow5; have hs5 := hgrow5.size; clear hown5 hgrow5))
      go_ret
      refine ⟨v5, rfl, ?_, HB4.out.grown HG5.out (by omega) (fun x hx => (HO4.out.lt x hx).1)⟩
      have h1 := HW5.out
      unfold entL
      rw [← HCR.out, List.length_append, ← HE.out, ← HLE.out, fourL_len, bytesV_app]
      exact h1
end Go.Proofs.YtfchnpdgnhoffaaGreatDoor
