/- A directory in memory: a map from names to pointers, told by a plain list; look-up, store, delete. -/
import Derived.Maps.OwnSet
import Derived.Maps.OwnOps
import Derived.Test.YtfeglchngekedaaRName
namespace Go.Proofs.Ytfeglchngekedaa
open Go.RowKit Go.Shelf Go.Maps

abbrev Nm := List UInt8
/-- a name's value -/
def nmV (s : Nm) : Value := .string ⟨s.toArray⟩
def ptrV : Option Nat → Value
  | none => .pointer none
  | some g => .pointer (some ⟨g, 0, none⟩)
def ptrElem : Value → Option (DataW Unit × List MemPlace)
  | .pointer none => some (.lit (.int .i64 (-1)), [])
  | .pointer (some ⟨g, 0, none⟩) => some (.lit (.int .i64 (g : Int)), [])
  | _ => none
theorem ptrElem_some {v : Value} {g : Nat} {ps : List MemPlace} (h : ptrElem v = some (.lit (.int .i64 (g : Int)), ps)) : v = .pointer (some ⟨g, 0, none⟩) := by
  unfold ptrElem at h
  split at h
  · injection h with h; injection h with h _; injection h with h; injection h with _ h; omega
  · injection h with h; injection h with h _; injection h with h; injection h with _ h
    have : _ = g := Int.ofNat.inj h
    rw [this]
  · cases h
theorem ptrElem_none {v : Value} {ps : List MemPlace} (h : ptrElem v = some (.lit (.int .i64 (-1)), ps)) : v = .pointer none := by
  unfold ptrElem at h
  split at h
  · rfl
  · injection h with h; injection h with h _; injection h with h; injection h with _ h; omega
  · cases h

abbrev Dl := List (Nm × Nat)
def encE (x : Nm × Nat) : Lit × DataW Unit := (.string x.1, .lit (.int .i64 (x.2 : Int)))
def dirD (l : Dl) : DataW Unit := .map (l.map encE)
def dget (l : Dl) (s : Nm) : Option Nat := (l.find? (fun x => x.1 == s)).map (·.2)
def ddel (l : Dl) (s : Nm) : Dl := l.filter fun x => !(x.1 == s)
def dins (x : Nm × Nat) : Dl → Dl
  | [] => [x]
  | y :: r => if (Lit.string x.1).before (.string y.1) then x :: y :: r else y :: dins x r
def dput (l : Dl) (s : Nm) (g : Nat) : Dl := dins (s, g) (ddel l s)

theorem dirD_ins (x : Nm × Nat) : ∀ l : Dl, DataW.insert (encE x) (l.map encE) = (dins x l).map encE
  | [] => rfl
  | y :: r => by
    simp only [List.map_cons, DataW.insert, dins]
    have e : (encE x).1.before (encE y).1 = (Lit.string x.1).before (.string y.1) := rfl
    rw [e]
    split
    · rfl
    · rw [dirD_ins x r]; rfl
theorem dirD_filter (l : Dl) (s : Nm) : (l.map encE).filter (fun p => !p.1.sameKey (.string s)) = (ddel l s).map encE := by
  unfold ddel
  rw [List.filter_map]
  rfl
theorem dirD_put (l : Dl) (s : Nm) (g : Nat) : (dirD l).put (.string s) (.lit (.int .i64 (g : Int))) = dirD (dput l s g) := by
  show DataW.map (DataW.insert (encE (s, g)) ((l.map encE).filter (fun p => !p.1.sameKey (.string s)))) = _
  rw [dirD_filter, dirD_ins]
  rfl
theorem dirD_del (l : Dl) (s : Nm) : (dirD l).del (.string s) = dirD (ddel l s) := by
  show DataW.map ((l.map encE).filter (fun p => !p.1.sameKey (.string s))) = _
  rw [dirD_filter]
  rfl
theorem dirD_at (l : Dl) (s : Nm) (z : DataW Unit) : (dirD l).atKey (.string s) z = match dget l s with | none => z | some g => .lit (.int .i64 (g : Int)) := by
  unfold dirD DataW.atKey dget
  simp only [List.find?_map]
  have e : ((fun p : Lit × DataW Unit => p.1.sameKey (.string s)) ∘ encE) = fun x : Nm × Nat => x.1 == s := rfl
  rw [e]
  cases l.find? (fun x => x.1 == s) <;> rfl
theorem mem_dins (x y : Nm × Nat) : ∀ l : Dl, y ∈ dins x l ↔ y = x ∨ y ∈ l
  | [] => by simp [dins]
  | z :: r => by
    unfold dins
    split
    · simp
    · simp only [List.mem_cons, mem_dins x y r]
      constructor
      · rintro (h | h | h)
        · exact .inr (.inl h)
        · exact .inl h
        · exact .inr (.inr h)
      · rintro (h | h | h)
        · exact .inr (.inl h)
        · exact .inl h
        · exact .inr (.inr h)
theorem len_dins (x : Nm × Nat) : ∀ l : Dl, (dins x l).length = l.length + 1
  | [] => rfl
  | z :: r => by
    unfold dins
    split
    · rfl
    · simp [len_dins x r]
theorem mem_ddel (l : Dl) (s : Nm) (y : Nm × Nat) : y ∈ ddel l s ↔ y ∈ l ∧ y.1 ≠ s := by
  unfold ddel; simp
theorem mem_dput (l : Dl) (s : Nm) (g : Nat) (y : Nm × Nat) : y ∈ dput l s g ↔ y = (s, g) ∨ (y ∈ l ∧ y.1 ≠ s) := by
  unfold dput; rw [mem_dins, mem_ddel]
theorem len_ddel (l : Dl) (s : Nm) : (ddel l s).length ≤ l.length := List.length_filter_le _ _
theorem len_dput (l : Dl) (s : Nm) (g : Nat) : (dput l s g).length ≤ l.length + 1 := by
  unfold dput; rw [len_dins]; have := len_ddel l s; omega
theorem dget_mem {l : Dl} {s : Nm} {g : Nat} (h : dget l s = some g) : (s, g) ∈ l := by
  unfold dget at h
  obtain ⟨x, hx, rfl⟩ := Option.map_eq_some_iff.1 h
  have h1 := List.find?_some hx
  have h2 := List.mem_of_find?_eq_some hx
  obtain ⟨a, b⟩ := x
  have : a = s := by simpa using h1
  rw [this] at h2
  exact h2
theorem dget_none {l : Dl} {s : Nm} : dget l s = none ↔ ∀ y ∈ l, y.1 ≠ s := by
  unfold dget
  simp
theorem find_dins_hit {f : Nm × Nat → Bool} {x : Nm × Nat} (hx : f x = true) : ∀ l : Dl, (∀ p ∈ l, f p = false) → (dins x l).find? f = some x
  | [], _ => by simp [dins, hx]
  | y :: r, h => by
    unfold dins
    split
    · simp [hx]
    · simp [h y (by simp), find_dins_hit hx r (fun p hp => h p (by simp [hp]))]
theorem find_dins_miss {f : Nm × Nat → Bool} {x : Nm × Nat} (hx : f x = false) : ∀ l : Dl, (dins x l).find? f = l.find? f
  | [] => by simp [dins, hx]
  | y :: r => by
    unfold dins
    split
    · simp [hx]
    · cases hy : f y <;> simp [hy, find_dins_miss hx r]
theorem dget_put (l : Dl) (s t : Nm) (g : Nat) : dget (dput l s g) t = if t = s then some g else dget l t := by
  unfold dget dput
  by_cases h : t = s
  · subst h
    rw [if_pos rfl, find_dins_hit (by simp) _ (fun p hp => by have := (mem_ddel l t p).1 hp; simpa using this.2)]
    rfl
  · rw [if_neg h, find_dins_miss (by simp; exact fun e => h e.symm)]
    unfold ddel
    rw [List.find?_filter]
    congr 2
    funext x
    by_cases hx : x.1 = t
    · simp [hx, h]
    · simp [hx]
theorem dget_del (l : Dl) (s t : Nm) : dget (ddel l s) t = if t = s then none else dget l t := by
  by_cases h : t = s
  · subst h
    rw [if_pos rfl, dget_none]
    intro y hy
    exact ((mem_ddel l t y).1 hy).2
  · rw [if_neg h]
    unfold dget ddel
    rw [List.find?_filter]
    congr 2
    funext x
    by_cases hx : x.1 = t
    · simp [hx, h]
    · simp [hx]

/-- a directory in memory -/
def DirAt (w : World) (b n : Nat) (l : Dl) : Prop := w.ownsMap Try.prog 9 ptrElem b n (dirD l)

theorem law9 : Keyed Try.prog 9 := string_keyed Try.underlying9
theorem zero71 (w : World) : (zeroValue 71).run Try.prog w = .ok (.pointer none) w := by kernel_rfl
theorem key_nm (s : ByteArray) (h : s.size ≤ maxLen) : keyOf Try.prog 9 (.string s) = some (.string s.data.toList) := WideMaps.keyOf_string_mk Try.underlying9 h

section
variable {w w' : World} {b n : Nat} {l : Dl}
theorem DirAt.lt (h : DirAt w b n l) : b < w.heap.size := World.ownsMap.lt h
theorem DirAt.len (h : DirAt w b n l) : l.length ≤ n := by
  have := World.ownsMap.size_le h
  simpa [dirD, Maps.size] using this
theorem DirAt.tight (h : DirAt w b n l) : DirAt w b l.length l := by
  obtain ⟨es, clock, hb, F, hs, hD⟩ := h
  refine ⟨es, clock, hb, F, ?_, hD⟩
  have e1 : Maps.size (dirD l) = es.size := by rw [hD]; simp [Maps.size, length_sorted]
  have e2 : Maps.size (dirD l) = l.length := by simp [dirD, Maps.size]
  omega
theorem DirAt.tidy (h : DirAt w b n l) : l.Pairwise (fun x y => x.1 ≠ y.1) := by
  obtain ⟨es, e, hp⟩ := World.ownsMap.tidy h law9
  have : l.map encE = es := by injection e
  rw [← this, List.pairwise_map] at hp
  exact hp.imp fun hne he => hne (by show Lit.string _ = Lit.string _; rw [he])
theorem DirAt.keep (h : DirAt w b n l) (hb : w'.heap[b]? = w.heap[b]?) : DirAt w' b n l := by
  obtain ⟨es, clock, h1, h2⟩ := h
  exact ⟨es, clock, hb.trans h1, h2⟩
theorem DirAt.mono (h : DirAt w b n l) {n' : Nat} (hn : n ≤ n') : DirAt w b n' l := World.ownsMap.mono h hn
theorem DirAt.blk_ne (h : DirAt w b n l) {g : Nat} {t : TypeId} {cs : Array Value} (hg : Blk w g t cs) : b ≠ g := by
  rintro rfl
  obtain ⟨es, clock, h1, _⟩ := h
  unfold Blk at hg
  rw [h1] at hg
  cases hg
theorem DirAt.own_ne (h : DirAt w b n l) {e : TypeId} {base size k : Nat} {v : Value} {xs : List Value} (hv : w.ownsRow base e size v k xs) : v.ownBlock ≠ some b := by
  rcases hv.2 with ⟨rfl, _⟩ | ⟨g, cap, cur, rfl, _, hg, _⟩
  · simp [Value.ownBlock]
  · intro he
    have e : g = b := by simpa [Value.ownBlock] using he
    subst e
    obtain ⟨es, clock, h1, _⟩ := h
    rw [h1] at hg
    cases hg
theorem dir_made (w : World) : DirAt (w.alloc (.map #[] 0)) w.heap.size 0 [] := World.ownsMap_made w Try.prog 9 ptrElem
theorem DirAt.look (h : DirAt w b n l) (s : ByteArray) (hs : s.size ≤ maxLen) : (Instr.lookup 64 (.map (some b)) (.string s) false).run Try.prog w = .ok (ptrV (dget l s.data.toList)) w := by
  obtain ⟨v, ps, hrun, hv⟩ := World.ownsMap.lookup h law9 Try.underlying64 (zero71 w) (zd := .lit (.int .i64 (-1))) (zp := []) rfl (key_nm s hs)
  rw [dirD_at] at hv
  rw [hrun]
  cases hd : dget l s.data.toList with
  | none => rw [hd] at hv; rw [ptrElem_none hv]; rfl
  | some g => rw [hd] at hv; rw [ptrElem_some hv]; rfl
end
end Go.Proofs.Ytfeglchngekedaa
