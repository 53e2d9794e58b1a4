/- The disk in memory: its state, told plainly; what keeps it; how a world may turn. -/
import Derived.Test.YtfeglchngekedaaDir
namespace Go.Proofs.Ytfeglchngekedaa
open Go.RowKit Go.Shelf Go.Maps

/-! ### how a world may turn: in the blocks of F, and by new ones -/
structure Chg (F : Nat → Prop) (w w' : World) : Prop where
  os : w'.os = w.os
  tape : w'.tape = w.tape
  output : w'.output = w.output
  size : w.heap.size ≤ w'.heap.size
  block : ∀ k, k < w.heap.size → ¬ F k → w'.heap[k]? = w.heap[k]?
/-- F and what is new -/
def Gr (F : Nat → Prop) (w : World) (k : Nat) : Prop := F k ∨ w.heap.size ≤ k

theorem Chg.refl (F : Nat → Prop) (w : World) : Chg F w w := ⟨rfl, rfl, rfl, Nat.le_refl _, fun _ _ _ => rfl⟩
theorem Chg.trans {F G : Nat → Prop} {a b c : World} (h : Chg F a b) (k : Chg G b c) (hG : ∀ x, G x → F x ∨ a.heap.size ≤ x) : Chg F a c :=
  ⟨k.os.trans h.os, k.tape.trans h.tape, k.output.trans h.output, Nat.le_trans h.size k.size, fun i hi hn => (k.block i (Nat.lt_of_lt_of_le hi h.size) (fun hg => by
    rcases hG i hg with h1 | h1
    · exact hn h1
    · omega)).trans (h.block i hi hn)⟩
theorem Chg.then {F : Nat → Prop} {a b c : World} (h : Chg F a b) (k : Chg (Gr F a) b c) : Chg F a c := h.trans k fun _ h => h
theorem Chg.drewN {F : Nat → Prop} {a b : World} (h : Chg F a b) (n : Nat) : Chg F a (b.drewN n) := ⟨h.os, h.tape, h.output, h.size, h.block⟩
theorem Chg.drew {F : Nat → Prop} {a b : World} (h : Chg F a b) : Chg F a b.drew := ⟨h.os, h.tape, h.output, h.size, h.block⟩
theorem Chg.below {F : Nat → Prop} {a b c : World} (h : Chg F a b) {B : Nat} (k : Below B b c) (hB : a.heap.size ≤ B) : Chg F a c :=
  ⟨k.os.trans h.os, k.tape.trans h.tape, k.output.trans h.output, Nat.le_trans h.size k.size, fun i hi hn => (k.block i (by omega)).trans (h.block i hi hn)⟩
theorem Chg.grown {F : Nat → Prop} {a b c : World} {row : Option Nat} (h : Chg F a b) (k : b.grownBy c row) (hr : ∀ g, row = some g → F g ∨ a.heap.size ≤ g) : Chg F a c :=
  ⟨k.os.trans h.os, k.tape.trans h.tape, k.output.trans h.output, Nat.le_trans h.size k.size, fun i hi hn => (k.block i (Nat.lt_of_lt_of_le hi h.size) (fun e => by
    rcases hr i e.symm with h1 | h1
    · exact hn h1
    · omega)).trans (h.block i hi hn)⟩
theorem Chg.alloc {F : Nat → Prop} {a b : World} (h : Chg F a b) (o : Obj) : Chg F a (b.alloc o) := h.grown (World.grownBy_alloc b o none) (fun _ h => by cases h)
theorem Chg.setCell {F : Nat → Prop} {a b : World} (h : Chg F a b) {p : Addr} (hp : F p.block ∨ a.heap.size ≤ p.block) (u : Value) : Chg F a (b.setCell p u) :=
  h.grown (only_setCell (only_refl b (some p.block)) (.inl rfl) u) (fun g hg => by cases hg; exact hp)
theorem Chg.toBelow {F : Nat → Prop} {a b : World} (h : Chg F a b) {B : Nat} (hF : ∀ k, F k → B ≤ k) (hB : B ≤ a.heap.size) : Below B a b :=
  ⟨h.os, h.tape, h.output, h.size, fun k hk => h.block k (by omega) (fun hf => by have := hF k hf; omega)⟩
theorem Gr.mono {F : Nat → Prop} {a b : World} (h : a.heap.size ≤ b.heap.size) (k : Nat) : Gr (Gr F a) b k → Gr F a k
  | .inl h => h
  | .inr h' => .inr (by omega)

/-! ### the state -/
def bytesV (l : List UInt8) : List Value := l.map fun b => .int .u8 (b.toNat : Int)
theorem bytesV_length (l : List UInt8) : (bytesV l).length = l.length := by simp [bytesV]
theorem bytesV_one (l : List UInt8) : ∀ u ∈ bytesV l, u.oneCell' = true := by
  intro u hu
  obtain ⟨b, -, rfl⟩ := List.mem_map.1 hu
  rfl

/-- a change that pends -/
structure Ch where
  from_ : Nm
  name : Nm
  file : Option Nat
def chV (c : Ch) : List Value := [nmV c.from_, nmV c.name, ptrV c.file]
def chsV (l : List Ch) : List Value := l.flatMap chV
def fltV (f : Int × Int) : List Value := [.int .i64 f.1, .int .i64 f.2]
def fltsV (l : List (Int × Int)) : List Value := l.flatMap fltV
theorem chsV_length (l : List Ch) : (chsV l).length = l.length * 3 := by
  induction l with
  | nil => rfl
  | cons a l ih =>
    show (chV a ++ chsV l).length = _
    rw [List.length_append, ih]
    simp [chV]; omega
theorem fltsV_length (l : List (Int × Int)) : (fltsV l).length = l.length * 2 := by
  induction l with
  | nil => rfl
  | cons a l ih =>
    show (fltV a ++ fltsV l).length = _
    rw [List.length_append, ih]
    simp [fltV]; omega
theorem chsV_snoc (l : List Ch) (c : Ch) : chsV (l ++ [c]) = chsV l ++ chV c := by simp [chsV]
theorem fltsV_snoc (l : List (Int × Int)) (f : Int × Int) : fltsV (l ++ [f]) = fltsV l ++ fltV f := by simp [fltsV]

/-- a change, done to a directory -/
def doL (l : Dl) (c : Ch) : Dl := match c.file with
  | some g => if c.name = [] then l else dput l c.name g
  | none => if c.name = [] then ddel l c.from_ else match dget l c.from_ with
    | some g => dput (ddel l c.from_) c.name g
    | none => ddel l c.from_
/-- a change that finds what it moves -/
def okC (l : Dl) (c : Ch) : Prop := c.file = none → c.name ≠ [] → (dget l c.from_).isSome = true
def Replays : Dl → List Ch → Prop
  | _, [] => True
  | l, c :: r => okC l c ∧ Replays (doL l c) r
def replay (l : Dl) (cs : List Ch) : Dl := cs.foldl doL l
theorem replays_snoc : ∀ (l : Dl) (cs : List Ch) (c : Ch), Replays l cs → okC (replay l cs) c → Replays l (cs ++ [c])
  | _, [], _, _, h => ⟨h, trivial⟩
  | l, x :: cs, c, ⟨h1, h2⟩, h => ⟨h1, replays_snoc (doL l x) cs c h2 h⟩
theorem replay_snoc (l : Dl) (cs : List Ch) (c : Ch) : replay l (cs ++ [c]) = doL (replay l cs) c := by simp [replay]
structure RepOk (safe : Dl) (pend : List Ch) (names : Dl) : Prop where
  ok : Replays safe pend
  eq_ : replay safe pend = names
theorem RepOk.snoc {safe names : Dl} {pend : List Ch} (h : RepOk safe pend names) (c : Ch) (hc : okC names c) {names' : Dl} (hn : doL names c = names') : RepOk safe (pend ++ [c]) names' :=
  ⟨replays_snoc safe pend c h.ok (by rw [h.eq_]; exact hc), by rw [replay_snoc, h.eq_, hn]⟩
theorem RepOk.start (l : Dl) : RepOk l [] l := ⟨trivial, rfl⟩

structure DS where
  cap : Int
  ops : Nat
  names : Dl
  safe : Dl
  pend : List Ch
  flts : List (Int × Int)
  stopped : Bool
  stop : Int
  /-- of each file: the slice's value, the bytes, how many are durable -/
  raw : Nat → Value
  bytes : Nat → List UInt8
  kept : Nat → Nat
  /-- where it lies -/
  mn : Nat
  ms : Nat
  vp : Value
  vf : Value

def live (s : DS) (g : Nat) : Prop := (∃ x ∈ s.names, x.2 = g) ∨ (∃ x ∈ s.safe, x.2 = g) ∨ (∃ c ∈ s.pend, c.file = some g)

structure FileAt (w : World) (F : Nat → Prop) (s : DS) (g : Nat) : Prop where
  blk : Blk w g 73 #[s.raw g, .int .i64 (s.kept g : Int)]
  own : F g
  row : w.ownsRow 0 5 1 (s.raw g) (s.bytes g).length (bytesV (s.bytes g))
  rowF : ∀ k, (s.raw g).ownBlock = some k → F k
  le : s.kept g ≤ (s.bytes g).length
  len : (s.bytes g).length ≤ 1000 * s.ops

def nmOk (s : Nm) : Prop := s.length ≤ 64

structure DiskAt (w : World) (F : Nat → Prop) (p : Nat) (s : DS) : Prop where
  blk : Blk w p 68 #[.int .i64 s.cap, .int .i64 (s.ops : Int), .map (some s.mn), .map (some s.ms), s.vp, s.vf, .bool s.stopped, .int .i64 s.stop]
  own : F p
  names : DirAt w s.mn s.names.length s.names
  safe : DirAt w s.ms s.safe.length s.safe
  namesL : s.names.length ≤ s.ops
  safeL : s.safe.length ≤ s.ops
  mnF : F s.mn
  msF : F s.ms
  mne : s.mn ≠ s.ms
  pend : w.ownsRow 0 75 3 s.vp s.pend.length (chsV s.pend)
  pendF : ∀ k, s.vp.ownBlock = some k → F k
  pendL : s.pend.length ≤ s.ops
  flts : w.ownsRow 0 103 2 s.vf s.flts.length (fltsV s.flts)
  fltsF : ∀ k, s.vf.ownBlock = some k → F k
  file : ∀ g, live s g → FileAt w F s g
  apart : ∀ g h, live s g → live s h → g ≠ h → (s.raw g).ownBlock = none ∨ (s.raw g).ownBlock ≠ (s.raw h).ownBlock
  nameOk : ∀ x ∈ s.names, nmOk x.1
  safeOk : ∀ x ∈ s.safe, nmOk x.1
  pendOk : ∀ c ∈ s.pend, nmOk c.from_ ∧ nmOk c.name
  capB : 0 ≤ s.cap ∧ s.cap < 9223372036854775808
  rep : RepOk s.safe s.pend s.names

section
variable {w w' : World} {F G : Nat → Prop} {p : Nat} {s : DS}
theorem own_keep {e : TypeId} {base size k : Nat} {v : Value} {xs : List Value} (h : w.ownsRow base e size v k xs) (hb : ∀ k, v.ownBlock = some k → k < w.heap.size → w'.heap[k]? = w.heap[k]?) : w'.ownsRow base e size v k xs := by
  refine ⟨h.1, ?_⟩
  have hlt := h.lt
  rcases h.2 with hn | ⟨g, cap, cur, rfl, hg, hh, rest⟩
  · exact .inl hn
  · exact .inr ⟨g, cap, cur, rfl, hg, (hb g rfl (hlt g rfl).2).trans hh, rest⟩
theorem FileAt.keep {g : Nat} (h : FileAt w F s g) (hb : ∀ k, F k → k < w.heap.size → w'.heap[k]? = w.heap[k]?) (hF : ∀ k, F k → G k) : FileAt w' G s g :=
  ⟨(hb g h.own h.blk.lt).trans h.blk, hF _ h.own, own_keep h.row (fun k hk => hb k (h.rowF k hk)), fun k hk => hF _ (h.rowF k hk), h.le, h.len⟩
theorem DiskAt.keep (h : DiskAt w F p s) (hb : ∀ k, F k → k < w.heap.size → w'.heap[k]? = w.heap[k]?) (hF : ∀ k, F k → G k) : DiskAt w' G p s where
  blk := (hb p h.own h.blk.lt).trans h.blk
  own := hF _ h.own
  names := h.names.keep (hb _ h.mnF h.names.lt)
  safe := h.safe.keep (hb _ h.msF h.safe.lt)
  namesL := h.namesL
  safeL := h.safeL
  mnF := hF _ h.mnF
  msF := hF _ h.msF
  mne := h.mne
  pend := own_keep h.pend fun k hk => hb k (h.pendF k hk)
  pendF := fun k hk => hF _ (h.pendF k hk)
  pendL := h.pendL
  flts := own_keep h.flts fun k hk => hb k (h.fltsF k hk)
  fltsF := fun k hk => hF _ (h.fltsF k hk)
  file := fun g hg => (h.file g hg).keep hb hF
  apart := h.apart
  nameOk := h.nameOk
  safeOk := h.safeOk
  pendOk := h.pendOk
  capB := h.capB
  rep := h.rep
theorem DiskAt.lt (h : DiskAt w F p s) : p < w.heap.size := h.blk.lt
theorem DiskAt.inF (h : DiskAt w F p s) (hF : ∀ k, F k → G k) : DiskAt w G p s := h.keep (fun _ _ _ => rfl) hF
theorem DiskAt.drewN (h : DiskAt w F p s) (n : Nat) : DiskAt (w.drewN n) F p s := h.keep (fun _ _ _ => rfl) fun _ h => h
/-- the cells of the disk's own block -/
theorem DiskAt.cells (h : DiskAt w F p s) : w.cell? ⟨p, 0, none⟩ = some (.int .i64 s.cap) ∧ w.cell? ⟨p, 1, none⟩ = some (.int .i64 (s.ops : Int)) ∧ w.cell? ⟨p, 2, none⟩ = some (.map (some s.mn)) ∧ w.cell? ⟨p, 3, none⟩ = some (.map (some s.ms)) ∧
    w.cell? ⟨p, 4, none⟩ = some s.vp ∧ w.cell? ⟨p, 5, none⟩ = some s.vf ∧ w.cell? ⟨p, 6, none⟩ = some (.bool s.stopped) ∧ w.cell? ⟨p, 7, none⟩ = some (.int .i64 s.stop) :=
  ⟨h.blk.cell 0, h.blk.cell 1, h.blk.cell 2, h.blk.cell 3, h.blk.cell 4, h.blk.cell 5, h.blk.cell 6, h.blk.cell 7⟩
end
end Go.Proofs.Ytfeglchngekedaa
