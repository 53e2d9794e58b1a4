/- The walk of (*Disk).Crash. -/
import Derived.Test.YtfchnpdgnhoffaaGreatDoorJ04Lay2
import Derived.IntWalk
namespace Go.Proofs.YtfchnpdgnhoffaaGreatDoor
open Go.RowKit Go.Shelf Go.Maps

/-! ### what a crash leaves -/
/-- of the files, name by name: the bytes and how many are durable -/
def crashL (bytes : Nat → List UInt8) (kept : Nat → Nat) (dir : Dl) : List Nm → List Int → List (Nm × List UInt8 × Nat)
  | [], _ => []
  | nm :: r, cs =>
    let g := (dget dir nm).getD 0
    let n := kept g + (nextK cs ((bytes g).length - kept g : Nat)).toNat
    (nm, (bytes g).take n, n) :: crashL bytes kept dir r cs.tail
/-- a file that a crash has laid down -/
structure NewF where
  name : Nm
  g : Nat
  v : Value
  bs : List UInt8
  n : Nat
def NewF.tell (e : NewF) : Nm × List UInt8 × Nat := (e.name, e.bs, e.n)
def laid (dir : Dl) (l : List NewF) : Dl := l.foldl (fun d e => dput d e.name e.g) dir
theorem dget_laid : ∀ (l : List NewF) (dir : Dl) (t : Nm), t ∉ l.map (·.name) → dget (laid dir l) t = dget dir t
  | [], _, _, _ => rfl
  | e :: l, dir, t, h => by
    simp only [List.map_cons, List.mem_cons, not_or] at h
    show dget (laid (dput dir e.name e.g) l) t = _
    rw [dget_laid l _ t h.2, dget_put, if_neg h.1]
theorem laid_snoc (dir : Dl) (l : List NewF) (e : NewF) : laid dir (l ++ [e]) = dput (laid dir l) e.name e.g := by simp [laid]

theorem len_laid : ∀ (l : List NewF) (dir : Dl), (laid dir l).length ≤ dir.length + l.length
  | [], _ => Nat.le_refl _
  | e :: l, dir => by
    have h1 := len_laid l (dput dir e.name e.g)
    have h2 := len_dput dir e.name e.g
    show (laid (dput dir e.name e.g) l).length ≤ _
    simp only [List.length_cons]
    omega

theorem len_dput_mem {l : Dl} {t : Nm} (g : Nat) (h : ∃ y ∈ l, y.1 = t) : (dput l t g).length ≤ l.length := by
  obtain ⟨y, hy, e⟩ := h
  have : (ddel l t).length < l.length := by
    unfold ddel
    exact List.length_filter_lt_length_iff_exists.2 ⟨y, hy, by simp [e]⟩
  unfold dput
  rw [len_dins]
  omega
theorem len_laid_mem : ∀ (l : List NewF) (dir : Dl), (∀ e ∈ l, ∃ y ∈ dir, y.1 = e.name) → (laid dir l).length ≤ dir.length
  | [], _, _ => Nat.le_refl _
  | e :: l, dir, h => by
    have h1 := len_dput_mem e.g (h e List.mem_cons_self)
    have h2 := len_laid_mem l (dput dir e.name e.g) (fun e' he' => by
      obtain ⟨y, hy, e1⟩ := h e' (List.mem_cons_of_mem _ he')
      by_cases hc : y.1 = e.name
      · exact ⟨(e.name, e.g), (mem_dput _ _ _ _).2 (.inl rfl), by rw [← e1, hc]⟩
      · exact ⟨y, (mem_dput _ _ _ _).2 (.inr ⟨hy, hc⟩), e1⟩)
    show (laid (dput dir e.name e.g) l).length ≤ _
    omega
theorem mem_laid : ∀ (l : List NewF) (dir : Dl) (x : Nm × Nat), x ∈ laid dir l → (∃ e ∈ l, x = (e.name, e.g)) ∨ (x ∈ dir ∧ x.1 ∉ l.map (·.name))
  | [], _, _, h => .inr ⟨h, by simp⟩
  | e :: l, dir, x, h => by
    rcases mem_laid l (dput dir e.name e.g) x h with ⟨e', he', e1⟩ | ⟨h1, h2⟩
    · exact .inl ⟨e', List.mem_cons_of_mem _ he', e1⟩
    · rcases (mem_dput _ _ _ _).1 h1 with h1 | ⟨h1, h3⟩
      · exact .inl ⟨e, List.mem_cons_self, h1⟩
      · exact .inr ⟨h1, by simp only [List.map_cons, List.mem_cons, not_or]; exact ⟨h3, h2⟩⟩
theorem dget_laid_hit : ∀ (l : List NewF) (dir : Dl) (e : NewF), (l.map (·.name)).Pairwise (· ≠ ·) → e ∈ l → dget (laid dir l) e.name = some e.g
  | [], _, _, _, h => by cases h
  | x :: l, dir, e, hn, h => by
    rw [List.map_cons, List.pairwise_cons] at hn
    rcases List.mem_cons.1 h with rfl | h
    · show dget (laid (dput dir e.name e.g) l) e.name = _
      rw [dget_laid l _ _ (fun hm => hn.1 _ hm rfl), dget_put, if_pos rfl]
    · exact dget_laid_hit l (dput dir x.name x.g) e hn.2 h
theorem find_file : ∀ (l : List NewF) (e : NewF), (l.Pairwise fun a b => a.g ≠ b.g) → e ∈ l → l.find? (fun x => x.g == e.g) = some e
  | [], _, _, h => by cases h
  | x :: l, e, hn, h => by
    rw [List.pairwise_cons] at hn
    rcases List.mem_cons.1 h with rfl | h
    · rw [List.find?_cons_of_pos (by simp)]
    · rw [List.find?_cons_of_neg (by simpa using hn.1 e h)]
      exact find_file l e hn.2 h
theorem crashL_mem {bytes : Nat → List UInt8} {kept : Nat → Nat} {dir : Dl} : ∀ (keys : List Nm) (cs : List Int) (x : Nm × List UInt8 × Nat), x ∈ crashL bytes kept dir keys cs → x.1 ∈ keys ∧ ∃ n, x.2.1 = (bytes ((dget dir x.1).getD 0)).take n
  | [], _, _, h => by cases h
  | nm :: r, cs, x, h => by
    rcases List.mem_cons.1 h with rfl | h
    · exact ⟨List.mem_cons_self, _, rfl⟩
    · obtain ⟨h1, h2⟩ := crashL_mem r cs.tail x h
      exact ⟨List.mem_cons_of_mem _ h1, h2⟩

structure FilesAt (w : World) (B : Nat) (l : List NewF) : Prop where
  blk : ∀ e ∈ l, Blk w e.g 85 #[e.v, .int .i64 (e.n : Int)]
  row : ∀ e ∈ l, w.ownsRow 0 5 1 e.v e.bs.length (bytesV e.bs)
  gB : ∀ e ∈ l, B ≤ e.g
  rowB : ∀ e ∈ l, ∀ k, e.v.ownBlock = some k → B ≤ k
  le : ∀ e ∈ l, e.n = e.bs.length
  ne : l.Pairwise fun a b => a.g ≠ b.g ∧ (a.v.ownBlock = none ∨ a.v.ownBlock ≠ b.v.ownBlock) ∧ (b.v.ownBlock = none ∨ b.v.ownBlock ≠ a.v.ownBlock)
theorem FilesAt.nil (w : World) (B : Nat) : FilesAt w B [] := ⟨(fun _ h => by cases h), (fun _ h => by cases h), (fun _ h => by cases h), (fun _ h => by cases h), (fun _ h => by cases h), List.Pairwise.nil⟩
theorem FilesAt.grown {w w' : World} {B : Nat} {l : List NewF} (h : FilesAt w B l) {row : Option Nat} (hg : w.grownBy w' row) (hr : ∀ e ∈ l, some e.g ≠ row ∧ (e.v.ownBlock = none ∨ e.v.ownBlock ≠ row)) : FilesAt w' B l :=
  ⟨fun e he => (h.blk e he).grown hg (hr e he).1, fun e he => (h.row e he).kept hg (hr e he).2, h.gB, h.rowB, h.le, h.ne⟩
theorem FilesAt.below {w w' : World} {B : Nat} {l : List NewF} (h : FilesAt w B l) (hb : Below w.heap.size w w') : FilesAt w' B l :=
  h.grown (only_of_below hb none) (fun e _ => ⟨by simp, by cases e.v.ownBlock <;> simp⟩)
theorem FilesAt.snoc {w : World} {B : Nat} {l : List NewF} (h : FilesAt w B l) (e : NewF) {w0 : World} (h0 : FilesAt w0 B l) (hb : Blk w e.g 85 #[e.v, .int .i64 (e.n : Int)]) (hr : w.ownsRow 0 5 1 e.v e.bs.length (bytesV e.bs))
    (hg : w0.heap.size ≤ e.g) (hv : ∀ k, e.v.ownBlock = some k → w0.heap.size ≤ k) (hB : B ≤ w0.heap.size) (hn : e.n = e.bs.length) : FilesAt w B (l ++ [e]) := by
  have two : ∀ {P : NewF → Prop}, (∀ x ∈ l, P x) → P e → ∀ x ∈ l ++ [e], P x := fun h1 h2 x hx => by
    rcases List.mem_append.1 hx with hx | hx
    · exact h1 x hx
    · rw [List.mem_singleton.1 hx]; exact h2
  refine ⟨two h.blk hb, two h.row hr, two h.gB (by omega), two h.rowB (fun k hk => by have := hv k hk; omega), two h.le hn, ?_⟩
  rw [List.pairwise_append]
  refine ⟨h.ne, List.pairwise_singleton _ _, fun a ha b hb' => ?_⟩
  rw [List.mem_singleton.1 hb']
  have h1 := (h0.blk a ha).lt
  refine ⟨by omega, ?_, ?_⟩
  · cases e1 : a.v.ownBlock with
    | none => exact .inl rfl
    | some k => exact .inr fun e2 => by have := hv k e2.symm; have := ((h0.row a ha).lt k e1).2; omega
  · cases e1 : e.v.ownBlock with
    | none => exact .inl rfl
    | some k => exact .inr fun e2 => by have := hv k e1; have := ((h0.row a ha).lt k e2.symm).2; omega

theorem chsV_at : ∀ (l : List Ch) (k : Nat) (h : k < l.length), (chsV l)[k * 3]? = some (nmV l[k].from_) ∧ (chsV l)[k * 3 + 1]? = some (nmV l[k].name) ∧ (chsV l)[k * 3 + 2]? = some (ptrV l[k].file)
  | [], k, h => absurd h (Nat.not_lt_zero _)
  | a :: l, 0, h => ⟨rfl, rfl, rfl⟩
  | a :: l, k + 1, h => by
    have := chsV_at l k (by simpa using h)
    have e : chsV (a :: l) = chV a ++ chsV l := rfl
    have e3 : (chV a).length = 3 := rfl
    rw [e, List.getElem?_append_right (by rw [e3]; omega), List.getElem?_append_right (by rw [e3]; omega), List.getElem?_append_right (by rw [e3]; omega), e3]
    refine ⟨?_, ?_, ?_⟩
    · rw [show (k + 1) * 3 - 3 = k * 3 by omega]; exact this.1
    · rw [show (k + 1) * 3 + 1 - 3 = k * 3 + 1 by omega]; exact this.2.1
    · rw [show (k + 1) * 3 + 2 - 3 = k * 3 + 2 by omega]; exact this.2.2

theorem own_capv {w : World} {b : Nat} {t : TypeId} {z n c : Nat} {A : Option Addr} {xs : List Value} (h : w.ownsRow b t z (.slice A n c) n xs) : n ≤ c := by
  rcases h.2 with ⟨h1, h2⟩ | ⟨g', cap, cur, h1, _, _, hc, _⟩
  · injection h1 with _ _ h3; omega
  · injection h1 with _ _ h3; omega

theorem replays_at : ∀ (l : Dl) (cs : List Ch) (j : Nat) (h : j < cs.length), Replays l cs → okC (replay l (cs.take j)) cs[j]
  | _, [], j, h, _ => absurd h (Nat.not_lt_zero _)
  | _, c :: r, 0, _, hr => hr.1
  | l, c :: r, j + 1, h, hr => replays_at (doL l c) r j (by simpa using h) hr.2
theorem len_doL (l : Dl) (c : Ch) : (doL l c).length ≤ l.length + 1 := by
  unfold doL
  have h0 := len_ddel l c.from_
  split
  · split
    · omega
    · exact len_dput _ _ _
  · split
    · omega
    · split
      · rename_i g _
        have := len_dput (ddel l c.from_) c.name g
        omega
      · omega
theorem len_replay : ∀ (cs : List Ch) (l : Dl), (replay l cs).length ≤ l.length + cs.length
  | [], _ => Nat.le_refl _
  | c :: r, l => by
    have h1 := len_replay r (doL l c)
    have h2 := len_doL l c
    show (replay (doL l c) r).length ≤ _
    simp only [List.length_cons]
    omega
theorem replay_take_succ (l : Dl) (cs : List Ch) (j : Nat) (h : j < cs.length) : replay l (cs.take (j + 1)) = doL (replay l (cs.take j)) cs[j] := by
  rw [List.take_succ_eq_append_getElem h, replay_snoc]
theorem strKeys_dir (l : Dl) : strKeys (dirD l) = l.map (·.1) := by
  unfold dirD strKeys
  simp only [List.map_map]
  apply List.map_congr_left
  intro x _
  rfl
theorem crashL_snoc (bytes : Nat → List UInt8) (kept : Nat → Nat) (dir : Dl) (keys : List Nm) (j : Nat) (h : j < keys.length) (cs : List Int) :
    crashL bytes kept dir (keys.drop j) cs = (keys[j], (bytes ((dget dir keys[j]).getD 0)).take (kept ((dget dir keys[j]).getD 0) + (nextK cs ((bytes ((dget dir keys[j]).getD 0)).length - kept ((dget dir keys[j]).getD 0) : Nat)).toNat),
      kept ((dget dir keys[j]).getD 0) + (nextK cs ((bytes ((dget dir keys[j]).getD 0)).length - kept ((dget dir keys[j]).getD 0) : Nat)).toNat) :: crashL bytes kept dir (keys.drop (j + 1)) cs.tail := by
  rw [List.drop_eq_getElem_cons h]
  rfl
def CrR (w : World) (s : DS) (dir : Dl) (keys : List Nm) (cs : List Int) (base : Nat) (v : Value) (i : Value) (wr : World) : Prop :=
  ∃ (j : Nat) (lst : List NewF) (csj : List Int), j ≤ keys.length ∧ i = .int .i64 j ∧ lst.map (·.name) = keys.take j ∧ lst.map NewF.tell ++ crashL s.bytes s.kept dir (keys.drop j) csj = crashL s.bytes s.kept dir keys cs ∧
    DirAt wr (w.heap.size + 1) (laid dir lst).length (laid dir lst) ∧ FilesAt wr (w.heap.size + 2) lst ∧ CutAt wr w.heap.size w.heap.size csj ∧ Below w.heap.size w wr ∧ wr.ownsRow base 9 1 v keys.length (keys.map encStr)
theorem mem_doL {l : Dl} {c : Ch} {x : Nm × Nat} (h : x ∈ doL l c) : (∃ y ∈ l, y.2 = x.2) ∨ c.file = some x.2 := by
  unfold doL at h
  split at h
  · rename_i g hg
    split at h
    · exact .inl ⟨x, h, rfl⟩
    · rcases (mem_dput _ _ _ _).1 h with rfl | ⟨h, _⟩
      · exact .inr hg
      · exact .inl ⟨x, h, rfl⟩
  · split at h
    · exact .inl ⟨x, ((mem_ddel _ _ _).1 h).1, rfl⟩
    · split at h
      · rename_i g hg
        rcases (mem_dput _ _ _ _).1 h with rfl | ⟨h, _⟩
        · exact .inl ⟨_, dget_mem hg, rfl⟩
        · exact .inl ⟨x, ((mem_ddel _ _ _).1 h).1, rfl⟩
      · exact .inl ⟨x, ((mem_ddel _ _ _).1 h).1, rfl⟩
theorem mem_replay : ∀ (cs : List Ch) (l : Dl) (x : Nm × Nat), x ∈ replay l cs → (∃ y ∈ l, y.2 = x.2) ∨ ∃ c ∈ cs, c.file = some x.2
  | [], _, x, h => .inl ⟨x, h, rfl⟩
  | c :: r, l, x, h => by
    rcases mem_replay r (doL l c) x h with ⟨y, hy, e⟩ | ⟨c', hc, e⟩
    · rcases mem_doL hy with ⟨z, hz, e2⟩ | e2
      · exact .inl ⟨z, hz, e2.trans e⟩
      · exact .inr ⟨c, List.mem_cons_self, by rw [e2, e]⟩
    · exact .inr ⟨c', List.mem_cons_of_mem _ hc, e⟩
theorem live_dir {s : DS} {j : Nat} {x : Nm × Nat} (h : x ∈ replay s.safe (s.pend.take j)) : live s x.2 := by
  rcases mem_replay _ _ _ h with ⟨y, hy, e⟩ | ⟨c, hc, e⟩
  · exact .inr (.inl ⟨y, hy, e⟩)
  · exact .inr (.inr ⟨c, List.mem_of_mem_take hc, e⟩)
theorem nameOk_doL {l : Dl} {c : Ch} (h : ∀ x ∈ l, nmOk x.1) (hc : nmOk c.from_ ∧ nmOk c.name) : ∀ x ∈ doL l c, nmOk x.1 := by
  intro x hx
  unfold doL at hx
  split at hx
  · split at hx
    · exact h x hx
    · rcases (mem_dput _ _ _ _).1 hx with rfl | ⟨hx, _⟩
      · exact hc.2
      · exact h x hx
  · split at hx
    · exact h x ((mem_ddel _ _ _).1 hx).1
    · split at hx
      · rcases (mem_dput _ _ _ _).1 hx with rfl | ⟨hx, _⟩
        · exact hc.2
        · exact h x ((mem_ddel _ _ _).1 hx).1
      · exact h x ((mem_ddel _ _ _).1 hx).1
theorem nameOk_replay : ∀ (cs : List Ch) (l : Dl), (∀ x ∈ l, nmOk x.1) → (∀ c ∈ cs, nmOk c.from_ ∧ nmOk c.name) → ∀ x ∈ replay l cs, nmOk x.1
  | [], _, h, _ => h
  | c :: r, l, h, hc => nameOk_replay r (doL l c) (nameOk_doL h (hc c List.mem_cons_self)) (fun c' h' => hc c' (List.mem_cons_of_mem _ h'))
theorem nameOk_dir {w : World} {F : Nat → Prop} {p : Nat} {s : DS} (h : DiskAt w F p s) {j : Nat} {nm : Nm} {g : Nat} (hx : (nm, g) ∈ replay s.safe (s.pend.take j)) : nm.length ≤ 64 :=
  nameOk_replay (s.pend.take j) s.safe h.safeOk (fun c hc => h.pendOk c (List.mem_of_mem_take hc)) _ hx
def DoR (w : World) (s : DS) (cs : List Int) (K : Nat) (i : Value) (wr : World) : Prop :=
  ∃ j : Nat, j ≤ K ∧ i = .int .i64 j ∧ DirAt wr (w.heap.size + 1) (replay s.safe (s.pend.take j)).length (replay s.safe (s.pend.take j)) ∧ CutAt wr w.heap.size w.heap.size cs.tail ∧ Below w.heap.size w wr

/-- the disk behind a crash -/
def crashedS (s : DS) (dir : Dl) (lst : List NewF) (mn ms : Nat) : DS :=
  { s with names := laid dir lst, safe := laid dir lst, pend := [], flts := [], stopped := false, mn := mn, ms := ms, vp := .slice none 0 0, vf := .slice none 0 0,
           raw := fun g => ((lst.find? (fun e => e.g == g)).map (·.v)).getD (.slice none 0 0),
           bytes := fun g => ((lst.find? (fun e => e.g == g)).map (·.bs)).getD [],
           kept := fun g => ((lst.find? (fun e => e.g == g)).map (·.n)).getD 0 }
theorem DiskAt.crashed {w w' : World} {F : Nat → Prop} {p : Nat} {s : DS} (h : DiskAt w F p s) (dir : Dl) (lst : List NewF) (mn ms : Nat)
    (hb : Blk w' p 67 #[.int .i64 s.cap, .int .i64 (s.ops : Int), .map (some mn), .map (some ms), .slice none 0 0, .slice none 0 0, .bool false, .int .i64 s.stop])
    (hn : DirAt w' mn (laid dir lst).length (laid dir lst)) (hs : DirAt w' ms (laid dir lst).length (laid dir lst)) (hf : FilesAt w' w.heap.size lst)
    (hm : ∀ x ∈ laid dir lst, ∃ e ∈ lst, x = (e.name, e.g)) (hmn : w.heap.size ≤ mn) (hms : w.heap.size ≤ ms) (hne : mn ≠ ms) (hl : (laid dir lst).length ≤ s.ops)
    (hby : ∀ e ∈ lst, e.bs.length ≤ 100000 * s.ops) (hok : ∀ e ∈ lst, nmOk e.name) : DiskAt w' (Gr F w) p (crashedS s dir lst mn ms) := by
  have hff := hf.ne.imp (S := fun (a b : NewF) => a.g ≠ b.g) (fun {a b} h => h.1)
  have hlive : ∀ g, live (crashedS s dir lst mn ms) g → ∃ e ∈ lst, e.g = g ∧ (crashedS s dir lst mn ms).raw g = e.v ∧ (crashedS s dir lst mn ms).bytes g = e.bs ∧ (crashedS s dir lst mn ms).kept g = e.n := by
    intro g hg
    have h1 : ∃ x ∈ laid dir lst, x.2 = g := by
      rcases hg with h | h | ⟨c, hc, _⟩
      · exact h
      · exact h
      · cases hc
    obtain ⟨x, hx, rfl⟩ := h1
    obtain ⟨e, he, rfl⟩ := hm x hx
    have hfi := find_file lst e hff he
    refine ⟨e, he, rfl, ?_, ?_, ?_⟩
    · show ((lst.find? (fun x => x.g == e.g)).map (·.v)).getD _ = _; rw [hfi]; rfl
    · show ((lst.find? (fun x => x.g == e.g)).map (·.bs)).getD _ = _; rw [hfi]; rfl
    · show ((lst.find? (fun x => x.g == e.g)).map (·.n)).getD _ = _; rw [hfi]; rfl
  have hname : ∀ x ∈ laid dir lst, nmOk x.1 := fun x hx => by
    obtain ⟨e, he, rfl⟩ := hm x hx
    exact hok e he
  refine ⟨hb, .inl h.own, hn, hs, hl, hl, .inr hmn, .inr hms, hne, World.ownsRow_nil _ _ _ _, (fun k hk => by cases hk), Nat.zero_le _, World.ownsRow_nil _ _ _ _, (fun k hk => by cases hk), ?_, ?_, hname, hname, (fun c hc => by cases hc), h.capB, RepOk.start _⟩
  · intro g hg
    obtain ⟨e, he, rfl, e1, e2, e3⟩ := hlive g hg
    refine ⟨by rw [e1, e3]; exact hf.blk e he, .inr (hf.gB e he), by rw [e1, e2]; exact hf.row e he, by rw [e1]; exact fun k hk => .inr (hf.rowB e he k hk), by rw [e2, e3, hf.le e he]; exact Nat.le_refl _, by rw [e2]; exact hby e he⟩
  · intro g g' hg hg' hne
    obtain ⟨e, he, rfl, e1, -, -⟩ := hlive g hg
    obtain ⟨e', he', rfl, e1', -, -⟩ := hlive g' hg'
    rw [e1, e1']
    have hp := hf.ne
    obtain ⟨a, ha, rfl⟩ := List.getElem_of_mem he
    obtain ⟨b, hb, rfl⟩ := List.getElem_of_mem he'
    rw [List.pairwise_iff_getElem] at hp
    rcases Nat.lt_trichotomy a b with h1 | rfl | h1
    · exact (hp a b ha hb h1).2.1
    · exact absurd rfl hne
    · exact (hp b a hb ha h1).2.2
def CrashPost (w : World) (F : Nat → Prop) (p : Nat) (s : DS) (cs : List Int) (e : Ending) (w' : World) : Prop :=
  e = .returned (.tuple #[]) ∧ ∃ (dir : Dl) (ss keys : List Nm) (lst : List NewF) (mn ms : Nat), dir = replay s.safe (s.pend.take (nextK cs (s.pend.length : Nat)).toNat) ∧ ss.Perm (dir.map (·.1)) ∧ keys = ss.mergeSort (fun x y => decide (x ≤ y)) ∧
    lst.map (·.name) = keys ∧ lst.map NewF.tell = crashL s.bytes s.kept dir keys cs.tail ∧ (lst.Pairwise fun a b => a.g ≠ b.g) ∧ keys.Pairwise (· ≠ ·) ∧ (∀ x, x ∈ keys ↔ (dget dir x).isSome = true) ∧ (laid dir lst).length ≤ s.safe.length + s.pend.length ∧
    DiskAt w' (Gr F w) p (crashedS s dir lst mn ms) ∧ Chg F w w'

set_option maxRecDepth 100000 in
set_option maxHeartbeats 6400000 in
theorem crash_any (w : World) (F : Nat → Prop) (p : Nat) (s : DS) (A : Option Addr) (c : Nat) (cs : List Int) (h : DiskAt w F p s) (hR : Reads w w.heap.size 1 A cs.length (cs.map (Value.int .i64))) (hc : cs.length ≤ c) (ho : s.ops ≤ 1000000) (ht : s.safe.length + s.pend.length ≤ s.ops) :
    Calls Tryz.prog 16 #[.pointer (some ⟨p, 0, none⟩), .slice A cs.length c] w (CrashPost w F p s cs) := by
  obtain ⟨i5, hi5, hz50, hz51, hz52⟩ := info_parts info5
  have HI5 := Lib.hid hi5
  have HZ50 := Lib.hid hz50
  have HZ51 := Lib.hid hz51
  have HZ52 := Lib.hid hz52
  clear hi5 hz50 hz51 hz52
  have hp := h.lt
  have hpl := h.pendL
  have H := Lib.hid h
  have HR := Lib.hid hR
  obtain ⟨A4, d4, hvp⟩ := own_slice h.pend
  have hb := h.blk
  rw [hvp] at hb
  have HVP := Lib.hid hvp
  clear h hR hvp
  go_enter Tryz.func16, Tryz.ntmps16
  go_upto_region 1 with fail
  obtain ⟨w1, hw1⟩ : ∃ w1, w.alloc (.cells #[.slice A cs.length c] 72) = w1 := ⟨_, rfl⟩
  have hs1 : w1.heap.size = w.heap.size + 1 := by rw [← hw1]; simp
  have hb1 : Below w.heap.size w w1 := by rw [← hw1]; exact (Below.refl _ w).alloc (Nat.le_refl _) _
  have hcu : CutAt w1 w.heap.size w.heap.size cs := ⟨A, c, by rw [← hw1]; exact Blk.new w 72 _, hc, HR.out.below hb1, Nat.le_refl _⟩
  have c3 : w1.cell? ⟨p, 3, none⟩ = some (.map (some s.ms)) := (hb.below hb1 hp).cell 3
  have HB1 := Lib.hid hb1
  have HCU := Lib.hid hcu
  have HB := Lib.hid hb
  rw [hw1]
  clear hw1 hb1 hcu hb
  go_wp2_with fail
  refine (AnyW.maps_Clone_owns Tryz.cloneM 9 ptrElem s.ms s.safe.length (dirD s.safe) w1 (H.out.safe.keep (HB1.out.block _ H.out.safe.lt))).mono ?_
  rintro e w2 ⟨rfl, hm1, -, hb2⟩
  have hs2 := hb2.size
  have HB2 := Lib.hid (HB1.out.trans (hb2.mono (by omega)))
  have HCU2 := Lib.hid (HCU.out.below hb2)
  have hml : w1.heap.size < w2.heap.size := World.ownsMap.lt hm1
  have HM := Lib.hid hm1
  clear hm1 hb2 HCU HB1 c3
  obtain ⟨nk, hnk⟩ : ∃ nk, nk = nextK cs (s.pend.length : Nat) := ⟨_, rfl⟩
  have hbd := nextK_bd cs (s.pend.length : Nat) (by omega)
  rw [← hnk] at hbd
  have NK := Lib.hid hnk
  clear hnk
  go_upto_region 2 with fail
  go_cut [28, 29, 30] from 18 to 30 (fun s28 s29 s30 wx => s28 = .slice A4 nk.toNat d4 ∧ s29 = .int .i64 (nk.toNat : Int) ∧ s30 = .int .i64 0 ∧ CutAt wx w.heap.size w.heap.size cs.tail ∧ w2.grownBy wx (some w.heap.size))
  case first =>
    have hb2 := HB.out.below HB2.out hp
    have c4 : w2.cell? ⟨p, 4, none⟩ = some (.slice A4 s.pend.length d4) := hb2.cell 4
    have hd4 : s.pend.length ≤ d4 := own_capv (HVP.out ▸ H.out.pend)
    have HN := Lib.hid (next_any w2.drew w.heap.size w.heap.size cs (s.pend.length : Nat) HCU2.out (by omega) (by omega))
    rw [← NK.out] at HN
    have q1 : nk ≤ (d4 : Int) := by omega
    have q2 : 0 ≤ nk := hbd.1
    have q3 : ((nk.toNat : Nat) : Int) = nk := by omega
    have Q3 := Lib.hid q3
    clear hb2 q3
    go_region_with (go_at_call 33; refine HN.out.mono ?_; rintro e w3 ⟨rfl, hcu3, hg3⟩; have c4' : w3.cell? ⟨p, 4, none⟩ = some (.slice A4 s.pend.length d4) := World.grownBy.cell (w := w2.drew) hg3 c4 (by simp; omega); have HC3 := Lib.hid hcu3; have HG3 := Lib.hid hg3; clear hcu3 hg3)
    all_goals
      go_wp2
      go_meet
      exact ⟨rfl, by rw [show max nk 0 = ((nk.toNat : Nat) : Int) by omega], rfl, HC3.out, ⟨HG3.out.os, HG3.out.tape, HG3.out.output, HG3.out.size, HG3.out.block⟩⟩
  obtain ⟨rfl, rfl, rfl, hcu3, hg3⟩ := hcut
  obtain ⟨K, hK⟩ : ∃ K, K = nk.toNat := ⟨_, rfl⟩
  rw [← hK]
  have hKl : K ≤ s.pend.length := by omega
  have HKN := Lib.hid hK
  clear hK
  have hs3 := hg3.size
  have hM3 : DirAt wc w1.heap.size s.safe.length s.safe := DirAt.keep (w := w2) HM.out (hg3.block _ hml (by simp; omega))
  have HB3 := Lib.hid (HB2.out.grown hg3 HB2.out.size (fun k hk => by cases hk; exact Nat.le_refl _))
  have HCU3 := Lib.hid hcu3
  have HM3 := Lib.hid hM3
  have hcl := hcu3.lt
  clear hcu3 hg3 hM3 HM HCU2 HB2
  go_wp2_with fail
  have hsl := H.out.safeL
  have HA4 := Lib.hid (show 0 < s.pend.length → ∃ g, A4 = some ⟨g, 0, none⟩ from fun h0 => by
    obtain ⟨g, cc, e⟩ := own_succ H.out.pend h0
    rw [HVP.out] at e
    injection e with e
    exact ⟨g, e⟩)
  go_loopw [30] (fun i wr => DoR w s cs K i wr) (fun i _ => K - (intOf i).toNat)
  case atStart => exact ⟨0, Nat.zero_le _, rfl, by rw [← hs1]; exact HM3.out, HCU3.out, HB3.out⟩
  case round =>
    obtain ⟨j, hj, rfl, hd, hcu, hb⟩ := hrel
    have hsz := hb.size
    have hdl := hd.lt
    have hcl' := hcu.lt
    by_cases hlt : j < K
    · have hjl : j < s.pend.length := by omega
      have hok := replays_at s.safe s.pend j hjl H.out.rep.ok
      have hrs := replay_take_succ s.safe s.pend j hjl
      have hlen := len_replay (s.pend.take j) s.safe
      rw [List.length_take] at hlen
      have hat := chsV_at s.pend j hjl
      have hpo := H.out.pendOk s.pend[j] (List.getElem_mem _)
      obtain ⟨g4, hA'⟩ := HA4.out (by omega)
      have hrow : wr.ownsRow 0 77 3 (.slice A4 s.pend.length d4) s.pend.length (chsV s.pend) := by
        have := own_keep (w' := wr) H.out.pend (fun k _ hk => hb.block k hk)
        rw [HVP.out] at this
        exact this
      subst hA'
      have hcl3 := chsV_length s.pend
      have y0 : wr.cell? ⟨g4, j * 3, none⟩ = some (nmV s.pend[j].from_) := by rw [hrow.cellAt (j * 3) (by omega)]; exact hat.1
      have y1 : wr.cell? ⟨g4, j * 3 + 1, none⟩ = some (nmV s.pend[j].name) := by rw [hrow.cellAt (j * 3 + 1) (by omega)]; exact hat.2.1
      have y2 : wr.cell? ⟨g4, j * 3 + 1 + 1, none⟩ = some (ptrV s.pend[j].file) := by rw [hrow.cellAt (j * 3 + 1 + 1) (by omega)]; exact hat.2.2
      have HRS := Lib.hid hrs
      clear hat hrow hrs hcl3
      generalize s.pend[j] = ch at *
      obtain ⟨fr, nm, fl⟩ := ch
      simp only [nmV] at y0 y1
      generalize replay s.safe (s.pend.take j) = l at *
      have HDo := Lib.hid (fun w' (hw : DirAt w' (w.heap.size + 1) l.length l) => do_any w' (w.heap.size + 1) l ⟨fr, nm, fl⟩ hw hpo.1 hpo.2 (by omega) hok)
      have HD := Lib.hid hd
      have HC := Lib.hid hcu
      have HB := Lib.hid hb
      clear hok hpo hd hcu hb hlen
      cases fl with
      | none =>
        simp only [ptrV] at y2
        go_wp2_with fail
        refine (HDo.out _ (HD.out.keep (Below.heap_alloc _ _ _ hdl))).mono ?_
        rintro e w5 ⟨rfl, hd5, hg5⟩
        have HD5 := Lib.hid hd5
        have HG5 := Lib.hid hg5
        clear hd5 hg5
        go_wp2
        refine ⟨⟨j + 1, by omega, by go_num, ?_, ?_, ?_⟩, by simp [intOf]; omega⟩
        · rw [HRS.out]; exact HD5.out
        · exact (HC.out.grown (World.grownBy_alloc _ _ none) (fun _ e => by cases e)).grown HG5.out (fun k hk => by cases hk; omega)
        · exact (HB.out.alloc hsz _).grown HG5.out (by simp; omega) (fun k hk => by cases hk; omega)
      | some g =>
        simp only [ptrV] at y2
        go_wp2_with fail
        refine (HDo.out _ (HD.out.keep (Below.heap_alloc _ _ _ hdl))).mono ?_
        rintro e w5 ⟨rfl, hd5, hg5⟩
        have HD5 := Lib.hid hd5
        have HG5 := Lib.hid hg5
        clear hd5 hg5
        go_wp2
        refine ⟨⟨j + 1, by omega, by go_num, ?_, ?_, ?_⟩, by simp [intOf]; omega⟩
        · rw [HRS.out]; exact HD5.out
        · exact (HC.out.grown (World.grownBy_alloc _ _ none) (fun _ e => by cases e)).grown HG5.out (fun k hk => by cases hk; omega)
        · exact (HB.out.alloc hsz _).grown HG5.out (by simp; omega) (fun k hk => by cases hk; omega)
    · obtain rfl : j = K := by omega
      have HD := Lib.hid hd
      have HC := Lib.hid hcu
      have HB := Lib.hid hb
      clear hd hcu hb HM3 HCU3 HB3 hlt
      obtain ⟨dir, hdir⟩ : ∃ dir, dir = replay s.safe (s.pend.take j) := ⟨_, rfl⟩
      rw [← hdir] at HD
      have HDIR := Lib.hid hdir
      have hdlen : dir.length ≤ 2000000 := by
        rw [hdir]
        have := len_replay (s.pend.take j) s.safe
        rw [List.length_take] at this
        omega
      clear hdir
      go_wp2_with fail
      refine ((callsIn_wide (n := 5)).1 (Tryz.maps_Keys_36 (some (w.heap.size + 1)) wr)).mono ?_
      rintro e w5 ⟨rfl, rfl⟩
      go_wp2_with fail
      have hmx : Maps.size (dirD dir) = dir.length := by simp [dirD, Maps.size]
      have HMX := Lib.hid hmx
      clear hmx
      refine ((callsIn_wide (n := 5)).1 (Tryz.slices_Sorted_keys_38_39 (w.heap.size + 1) dir.length (dirD dir) ptrElem wr HD.out (by rw [HMX.out]; simp [maxLen]; omega) (by rw [HMX.out]; omega))).mono ?_
      rintro e w6 ⟨v, ss, rfl, hS, hrow, hnil, hb6⟩
      obtain ⟨Av, dv, rfl⟩ := own_slice hrow
      obtain ⟨keys, hkeys⟩ : ∃ keys, keys = ss.mergeSort (fun x y => decide (x ≤ y)) := ⟨_, rfl⟩
      have hkl : ss.length = keys.length := by rw [hkeys]; exact (List.length_mergeSort ..).symm
      have hkp : keys.Perm (dir.map (·.1)) := by
        rw [hkeys, ← strKeys_dir]
        exact (List.mergeSort_perm ..).trans hS
      have HSS := Lib.hid (show ss.Perm (dir.map (·.1)) from strKeys_dir dir ▸ hS)
      have HKEYS := Lib.hid hkeys
      rw [← hkeys, hkl] at hrow
      rw [hkl]
      have hs6 := hb6.size
      rw [World.size_alloc] at hs6
      have hnd : keys.Pairwise (· ≠ ·) := by
        have h1 : (dir.map (·.1)).Pairwise (· ≠ ·) := by rw [List.pairwise_map]; exact HD.out.tidy
        exact (hkp.symm.pairwise_iff (fun {a b} (h : a ≠ b) => h.symm)).1 h1
      have hmem : ∀ k ∈ keys, ∃ g, dget dir k = some g ∧ live s g := by
        intro k hk
        have h1 := hkp.mem_iff.1 hk
        cases hd : dget dir k with
        | some g => exact ⟨g, rfl, live_dir (x := (k, g)) (by rw [← HDIR.out]; exact dget_mem hd)⟩
        | none =>
          obtain ⟨x, hx, e⟩ := List.mem_map.1 h1
          exact absurd e (dget_none.1 hd x hx)
      have hB6 : Below w.heap.size w w6 := (HB.out.alloc hsz _).trans (hb6.mono (by simp; omega))
      have hD6 : DirAt w6 (w.heap.size + 1) dir.length dir := (HD.out.keep (Below.heap_alloc _ _ _ hdl)).keep (hb6.block _ (by simp; omega))
      have hC6 : CutAt w6 w.heap.size w.heap.size cs.tail := (HC.out.grown (World.grownBy_alloc _ _ none) (fun _ e => by cases e)).below hb6
      have HND := Lib.hid hnd
      have HMEM := Lib.hid hmem
      have HB6 := Lib.hid hB6
      have HD6 := Lib.hid hD6
      have HC6 := Lib.hid hC6
      have HROW := Lib.hid hrow
      have hkdl : keys.length ≤ 2000000 := by
        have := hkp.length_eq
        rw [List.length_map] at this
        omega
      have hm6 := hD6.lt
      clear hS hnil hb6 hkeys hkl hkp hnd hmem hB6 hD6 hC6 hrow HD HC HB
      go_wp2_with fail
      obtain ⟨base, hbase⟩ : ∃ base, base = (wr.alloc (.cells #[.map (some (w.heap.size + 1))] 63)).heap.size := ⟨_, rfl⟩
      have hbB : w.heap.size + 2 ≤ base := by rw [hbase, World.size_alloc]; omega
      rw [← hbase] at HROW
      clear hbase
      go_loopw [42] (fun i wr' => CrR w s dir keys cs.tail base (.slice Av keys.length dv) i wr') (fun i _ => keys.length - (intOf i).toNat)
      case atStart => exact ⟨0, [], cs.tail, Nat.zero_le _, rfl, rfl, rfl, HD6.out, FilesAt.nil _ _, HC6.out, HB6.out, HROW.out⟩
      case round =>
        obtain ⟨wx, hwx⟩ : ∃ wx, wx = wr := ⟨_, rfl⟩
        subst hwx
        obtain ⟨i, lst, csj, hi, rfl, hnames, htell, hd, hfs, hcu, hb, hrow⟩ := hrel
        have hbs := hb.size
        have hdlx := hd.lt
        by_cases hlt : i < keys.length
        · obtain ⟨nm, hnm⟩ : ∃ nm, nm = keys[i] := ⟨_, rfl⟩
          obtain ⟨g, hdg, hlive⟩ := HMEM.out nm (by rw [hnm]; exact List.getElem_mem _)
          have hnotin : nm ∉ lst.map (·.name) := by
            rw [hnames, hnm]
            intro hm
            obtain ⟨a, ha, e⟩ := List.getElem_of_mem hm
            rw [List.getElem_take] at e
            have ha' : a < i := by simp at ha; omega
            exact List.pairwise_iff_getElem.1 HND.out a i (by omega) hlt ha' e
          have hfo := H.out.file g hlive
          have hfx : FileAt wx F s g := hfo.keep (fun k _ hk => hb.block k hk) (fun _ h => h)
          obtain ⟨A0, d0, hraw⟩ := own_slice hfx.row
          have hr0 := hfx.row
          rw [hraw] at hr0
          have hd0 := own_capv hr0
          have q0 : wx.cell? ⟨g, 0, none⟩ = some (.slice A0 (s.bytes g).length d0) := (hfx.blk.cell 0).trans (congrArg some hraw)
          have q1 : wx.cell? ⟨g, 1, none⟩ = some (.int .i64 (s.kept g : Int)) := hfx.blk.cell 1
          have hgl := hfo.blk.lt
          have hlen := hfx.len
          have hle := hfx.le
          have hnok : nm.length ≤ 64 := nameOk_dir H.out (by rw [← HDIR.out]; exact dget_mem hdg)
          have hsz64 : (nmB nm).size ≤ maxLen := by rw [nmB_size]; simp [maxLen]; omega
          have hlook := hd.look (nmB nm) hsz64
          have HKEY := Lib.hid (show keyOf Tryz.prog 9 (.string (nmB nm)) = some (.string nm) by have := key_nm (nmB nm) hsz64; rwa [nmB_list] at this)
          rw [nmB_list, dget_laid lst dir nm hnotin, hdg] at hlook
          simp only [ptrV] at hlook
          obtain ⟨gv, cv, hAv⟩ := own_succ hrow (by omega)
          injection hAv with hAv _ hcv
          subst hcv
          subst hAv
          have x0 : wx.cell? ⟨gv, i, none⟩ = some (.string (nmB nm)) := by
            rw [hrow.cellAt i (by omega), List.getElem?_map, List.getElem?_eq_getElem hlt, hnm]; rfl
          have hsn := crashL_snoc s.bytes s.kept dir keys i hlt csj
          have htk : keys.take (i + 1) = keys.take i ++ [nm] := by rw [hnm]; exact List.take_succ_eq_append_getElem hlt
          rw [← hnm, hdg] at hsn
          simp only [Option.getD_some] at hsn
          have hbd := nextK_bd csj ((s.bytes g).length - s.kept g : Nat) (by omega)
          have HSN := Lib.hid hsn
          have HTK := Lib.hid htk
          have HFO := Lib.hid hfo
          have HRAW := Lib.hid hraw
          have HR0 := Lib.hid (Reads.of_own hr0)
          have HNM := Lib.hid hnames
          have HTE := Lib.hid htell
          have HDX := Lib.hid hd
          have HFS := Lib.hid hfs
          have HCX := Lib.hid hcu
          have HBX := Lib.hid hb
          have HRX := Lib.hid hrow
          have hcx := hcu.lt
          clear hsn htk hfx hr0 hnames htell hd hfs hcu hb hrow hfo hraw hnotin hdg hlive HD6 HC6 HB6 HROW
          generalize hbn : (s.bytes g).length = bn at *
          have HBN := Lib.hid hbn
          generalize hkn : s.kept g = kn at *
          have HKN2 := Lib.hid hkn
          clear hbn hkn hnm
          obtain ⟨nk2, hnk2⟩ : ∃ nk2, nk2 = nextK csj ((bn - kn : Nat) : Int) := ⟨_, rfl⟩
          rw [← hnk2] at hbd
          have NK2 := Lib.hid hnk2
          have hsub : ((bn - kn : Nat) : Int) = (bn : Int) - (kn : Int) := by omega
          have HNX := Lib.hid (show ∀ W, CutAt W w.heap.size w.heap.size csj → Calls Tryz.prog 33 #[.pointer (some ⟨w.heap.size, 0, none⟩), .int .i64 ((bn : Int) - (kn : Int))] W fun e w' => e = .returned (.int .i64 nk2) ∧ CutAt w' w.heap.size w.heap.size csj.tail ∧ W.grownBy w' (some w.heap.size) from fun W hW => by
            rw [← hsub, hnk2]
            exact next_any W w.heap.size w.heap.size csj ((bn - kn : Nat) : Int) hW (by omega) (by omega))
          clear hnk2 hsub
          have hgc : g < w.heap.size := hgl
          have hwr2 : IntKind.i64.wrap ((kn : Int) + nk2) = (kn : Int) + nk2 := IntWalk.i64_in _ (by omega)
          have hwr : IntKind.i64.wrap ((bn : Int) - (kn : Int)) = (bn : Int) - (kn : Int) := IntWalk.i64_in _ (by omega)
          go_upto_region 11 with fail
          go_cut [11] from 49 to 64 (fun s11 wy => s11 = .int .i64 ((kn + nk2.toNat : Nat) : Int) ∧ CutAt wy w.heap.size w.heap.size csj.tail ∧ wx.grownBy wy (some w.heap.size))
          case first =>
            go_region_held3 (fun w' => w'.cell? ⟨g, 0, none⟩ = some (.slice A0 bn d0) ∧ w'.cell? ⟨g, 1, none⟩ = some (.int .i64 (kn : Int)))
              (first | exact ⟨q0, q1⟩ | exact ⟨q0', q1'⟩)
              ((go_at_call 33; refine (HNX.out wx.drew HCX.out).mono ?_; rintro e w3 ⟨rfl, hcu3, hg3⟩; have q0' : w3.cell? ⟨g, 0, none⟩ = some (.slice A0 bn d0) := World.grownBy.cell (w := wx.drew) hg3 q0 (by simp; omega); have q1' : w3.cell? ⟨g, 1, none⟩ = some (.int .i64 (kn : Int)) := World.grownBy.cell (w := wx.drew) hg3 q1 (by simp; omega); have HC3 := Lib.hid hcu3; have HG3 := Lib.hid hg3; clear hcu3 hg3))
            all_goals
              go_wp2
              go_meet
              exact ⟨by rw [show (kn : Int) + nk2 = ((kn + nk2.toNat : Nat) : Int) by omega], HC3.out, ⟨HG3.out.os, HG3.out.tape, HG3.out.output, HG3.out.size, HG3.out.block⟩⟩
          obtain ⟨rfl, hcy, hgy⟩ := hcut
          obtain ⟨N, hN⟩ : ∃ N, N = kn + nk2.toNat := ⟨_, rfl⟩
          rw [← hN]
          have hNle : N ≤ bn := by omega
          have HNN := Lib.hid hN
          have hsy := hgy.size
          have hBc : Below w.heap.size w wc := HBX.out.grown hgy hbs (fun k hk => by cases hk; exact Nat.le_refl _)
          have hrc := (HFO.out.keep (w' := wc) (fun k _ hk => hBc.block k hk) (fun _ h => h)).row
          rw [HRAW.out, HBN.out] at hrc
          have hDc : DirAt wc (w.heap.size + 1) (laid dir lst).length (laid dir lst) := HDX.out.keep (hgy.block _ hdlx (by simp))
          have hFc : FilesAt wc (w.heap.size + 2) lst := HFS.out.grown hgy (fun e he => by
            have h1 := HFS.out.gB e he
            refine ⟨by simp; omega, ?_⟩
            cases e1 : e.v.ownBlock with
            | none => exact .inl rfl
            | some k => exact .inr (by have := HFS.out.rowB e he k e1; simp; omega))
          have hKc : wc.ownsRow base 9 1 (.slice (some ⟨gv, 0, none⟩) keys.length dv) keys.length (keys.map encStr) := own_keep HRX.out (fun k hk hk2 => hgy.block k hk2 (by
            have := (HRX.out.lt k hk).1
            simp; omega))
          have r0 : wc.cell? ⟨g, 0, none⟩ = some (.slice A0 bn d0) := World.grownBy.cell hgy q0 (by simp; omega)
          have hRt := (Reads.of_own hrc).take hNle
          rw [show (bytesV (s.bytes g)).take (N * 1) = bytesV ((s.bytes g).take N) by unfold bytesV; rw [Nat.mul_one, List.map_take]] at hRt
          have htl : ((s.bytes g).take N).length = N := by rw [List.length_take, HBN.out]; omega
          have hdll : (laid dir lst).length ≤ 20000000 := by
            have h1 := len_laid lst dir
            have h2 := congrArg List.length HNM.out
            rw [List.length_map, List.length_take] at h2
            omega
          have HBC := Lib.hid hBc
          have HDC := Lib.hid hDc
          have HFC := Lib.hid hFc
          have HKC := Lib.hid hKc
          have HRT := Lib.hid hRt
          have HCY := Lib.hid hcy
          have hdc := hDc.lt
          have HTL := Lib.hid htl
          clear hN hgy hBc hrc hDc hFc hKc hRt hcy htl q0 q1 HFS HDX HRX HCX
          go_wp2_with (first
            | (at_builtin; go_loud (refine wpList_append_any _ rfl (.const (.slice none 0 0)) (.tmp 72) 25 rfl 0 5 i5 (.int .u8 0) 1 1 Tryz.underlying25 HI5.out HZ50.out HZ51.out HZ52.out rfl (by omega) (.slice none 0 0) 0 [] rfl (World.ownsRow_nil _ _ _ _) wc.heap.size A0 N d0 (bytesV ((s.bytes g).take N)) rfl HRT.out (bytesV_one _) (by simp [maxLen]; omega) (by omega) (by omega) ?_; intro v4 w4 hown4 hgrow4 hloc4; obtain ⟨A5, d5, hv5⟩ := own_slice hown4; subst hv5; have hs4 := hgrow4.size; have HD4 := Lib.hid (HDC.out.keep (hgrow4.block _ hdc (by simp [Value.ownBlock]))); have HW4 := Lib.hid hown4; have HG4 := Lib.hid hgrow4; have HL4 := Lib.hid hloc4; clear hown4 hgrow4 hloc4))
            | (at_mapUpdate; refine wpList_mapUpdate_own _ rfl _ _ _ 63 rfl 9 74 law9 Tryz.underlying63 ptrElem (w.heap.size + 1) (laid dir lst).length (dirD (laid dir lst)) rfl (HD4.out.alloc _) (by simp [maxLen]; omega) _ _ (.string nm) rfl rfl HKEY.out (.lit (.int .i64 (w4.heap.size : Int))) [] rfl ?_; intro w6 hown6 hgrow6; have HO := Lib.hid hown6; have HG := Lib.hid hgrow6; clear hown6 hgrow6))
          have hs6 := HG.out.size
          rw [World.size_alloc] at hs6
          have hW4 := HW4.out
          rw [Nat.zero_add, List.nil_append] at hW4
          have hL4 := HL4.out
          rw [Nat.zero_add] at hL4
          have hne4 : ∀ k, (Value.slice A5 N d5).ownBlock = some k → wc.heap.size ≤ k ∧ k < w4.heap.size := fun k hk => by
            refine ⟨?_, (hW4.lt k hk).2⟩
            rcases hL4 with e | e
            · rw [e] at hk; cases hk
            · rw [e] at hk; injection hk with hk; omega
          have hG4n : wc.grownBy w4 none := HG4.out
          have hG6 : w4.grownBy _ (some (w.heap.size + 1)) := only_trans (only_alloc (only_refl w4 (some (w.heap.size + 1))) (.cells #[.slice A5 N d5, .int .i64 (N : Int)] 85)) HG.out
          have hF4 : FilesAt w4 (w.heap.size + 2) lst := HFC.out.grown hG4n (fun e _ => ⟨by simp, by cases e.v.ownBlock <;> simp⟩)
          have hF6 : FilesAt w6 (w.heap.size + 2) lst := hF4.grown hG6 (fun e he => by
            have h1 := HFC.out.gB e he
            refine ⟨by simp; omega, ?_⟩
            cases e1 : e.v.ownBlock with
            | none => exact .inl rfl
            | some k => exact .inr (by have := HFC.out.rowB e he k e1; simp; omega))
          have hb6 : Blk w6 w4.heap.size 85 #[.slice A5 N d5, .int .i64 (N : Int)] := (Blk.new w4 85 _).grown HG.out (by simp; omega)
          have hr6 : w6.ownsRow 0 5 1 (.slice A5 N d5) ((s.bytes g).take N).length (bytesV ((s.bytes g).take N)) := by
            have := own_keep (w' := w6) hW4 (fun k hk hk2 => hG6.block k hk2 (by have := hne4 k hk; simp; omega))
            rw [HTL.out]
            exact this
          have hk6 : w6.ownsRow base 9 1 (.slice (some ⟨gv, 0, none⟩) keys.length dv) keys.length (keys.map encStr) := own_keep HKC.out (fun k hk hk2 => by
            have := (HKC.out.lt k hk).1
            rw [hG6.block k (by omega) (by simp; omega), hG4n.block k hk2 (by simp)])
          have hd6 : DirAt w6 (w.heap.size + 1) (laid dir (lst ++ [⟨nm, w4.heap.size, .slice A5 N d5, (s.bytes g).take N, N⟩])).length (laid dir (lst ++ [⟨nm, w4.heap.size, .slice A5 N d5, (s.bytes g).take N, N⟩])) := by
            rw [laid_snoc]
            have := HO.out
            rw [dirD_put] at this
            exact DirAt.tight this
          have hte := HTE.out
          rw [HSN.out, ← NK2.out, ← HNN.out] at hte
          refine ⟨⟨_, _, _, _, ⟨i + 1, lst ++ [⟨nm, w4.heap.size, .slice A5 N d5, (s.bytes g).take N, N⟩], csj.tail, by omega, by go_num, ?_, ?_, hd6, ?_, ?_, ?_, hk6⟩, rfl, rfl, rfl, rfl⟩, by simp [intOf]; omega⟩
          · rw [List.map_append, HNM.out, HTK.out]; rfl
          · rw [List.map_append, List.append_assoc]; exact hte
          · exact hF6.snoc _ HFC.out hb6 hr6 (by show wc.heap.size ≤ w4.heap.size; omega) (fun k hk => (hne4 k hk).1) (by omega) HTL.out.symm
          · exact (HCY.out.grown hG4n (fun _ e => by cases e)).grown hG6 (fun k hk => by cases hk; omega)
          · exact (HBC.out.grown hG4n (by omega) (fun _ e => by cases e)).grown hG6 (by omega) (fun k hk => by cases hk; omega)
        · obtain rfl : i = keys.length := by omega
          have hb0 := HB.out.below hb hp
          obtain ⟨A6, d6, hvf⟩ := own_slice H.out.flts
          rw [hvf] at hb0
          rw [List.drop_length] at htell
          rw [List.take_length] at hnames
          have htell2 : lst.map NewF.tell = crashL s.bytes s.kept dir keys cs.tail := by rw [← htell]; exact (List.append_nil _).symm
          have p2 : wx.cell? ⟨p, 2, none⟩ = some (.map (some s.mn)) := hb0.cell 2
          have f2 := hb0.frozen 2
          have HB0 := Lib.hid hb0
          have HT := Lib.hid htell2
          have HNM := Lib.hid hnames
          have HDX := Lib.hid hd
          have HFS := Lib.hid hfs
          have HBX := Lib.hid hb
          clear hb0 hvf htell htell2 hnames hd hfs hb hcu hrow
          go_upto_region 15 with fail
          obtain ⟨w7, hw7⟩ : ∃ w7, wx.setCell ⟨p, 2, none⟩ (.map (some (w.heap.size + 1))) = w7 := ⟨_, rfl⟩
          have hs7 : w7.heap.size = wx.heap.size := by rw [← hw7]; simp
          have hb7 : Blk w7 p 67 _ := hw7 ▸ HB0.out.set_ 2 (.map (some (w.heap.size + 1)))
          have hd7 : DirAt w7 (w.heap.size + 1) (laid dir lst).length (laid dir lst) := HDX.out.keep (by rw [← hw7]; exact Below.heap_setCell _ _ _ _ (by show w.heap.size + 1 ≠ p; omega))
          have hg7 : wx.grownBy w7 (some p) := by rw [← hw7]; exact only_setCell (only_refl wx (some p)) (.inl rfl) _
          rw [hw7]
          have HB7 := Lib.hid hb7
          have HD7 := Lib.hid hd7
          have HG7 := Lib.hid hg7
          clear hw7 hb7 hd7 hg7 p2 f2
          go_wp2_with fail
          refine (AnyW.maps_Clone_owns Tryz.cloneM 9 ptrElem (w.heap.size + 1) (laid dir lst).length (dirD (laid dir lst)) w7 HD7.out).mono ?_
          rintro e w8 ⟨rfl, hm1, hm2, hb8⟩
          have hp7 : p < w7.heap.size := by omega
          have b8 := HB7.out.below hb8 hp7
          rw [hs7] at hm1
          have b9 := b8.set_ 3 (.map (some wx.heap.size))
          have q3 : w8.cell? ⟨p, 3, none⟩ = some (.map (some s.ms)) := b8.cell 3
          have f3 := b8.frozen 3
          have HM8 := Lib.hid hm1
          have HB8 := Lib.hid hb8
          have HB9 := Lib.hid b9
          have hs8 := hb8.size
          clear hm1 hm2 hb8 b8 b9
          go_upto_region 16 with fail
          obtain ⟨w9, hw9⟩ : ∃ w9, w8.setCell ⟨p, 3, none⟩ (.map (some wx.heap.size)) = w9 := ⟨_, rfl⟩
          rw [hw9]
          have hs9 : w9.heap.size = w8.heap.size := by rw [← hw9]; simp
          have b9 : Blk w9 p 67 #[.int .i64 s.cap, .int .i64 (s.ops : Int), .map (some (w.heap.size + 1)), .map (some wx.heap.size), .slice A4 s.pend.length d4, .slice A6 s.flts.length d6, .bool s.stopped, .int .i64 s.stop] := hw9 ▸ HB9.out
          have q4 : w9.cell? ⟨p, 4, none⟩ = some (.slice A4 s.pend.length d4) := b9.cell 4
          have f4 := b9.frozen 4
          have b10 := b9.set_ 4 (.slice none 0 0)
          have q5 : (w9.setCell ⟨p, 4, none⟩ (.slice none 0 0)).cell? ⟨p, 5, none⟩ = some (.slice A6 s.flts.length d6) := b10.cell 5
          have f5 := b10.frozen 5
          have b11 := b10.set_ 5 (.slice none 0 0)
          have q6 : ((w9.setCell ⟨p, 4, none⟩ (.slice none 0 0)).setCell ⟨p, 5, none⟩ (.slice none 0 0)).cell? ⟨p, 6, none⟩ = some (.bool s.stopped) := b11.cell 6
          have f6 := b11.frozen 6
          have HB12 := Lib.hid (b11.set_ 6 (.bool false))
          have HW9 := Lib.hid hw9
          clear b9 b10 b11 hw9 q3 f3
          go_wp2
          go_end0
          obtain ⟨w12, hw12⟩ : ∃ x, ((w9.setCell ⟨p, 4, none⟩ (.slice none 0 0)).setCell ⟨p, 5, none⟩ (.slice none 0 0)).setCell ⟨p, 6, none⟩ (.bool false) = x := ⟨_, rfl⟩
          rw [hw12]
          have hb12 : Blk w12 p 67 #[.int .i64 s.cap, .int .i64 (s.ops : Int), .map (some (w.heap.size + 1)), .map (some wx.heap.size), .slice none 0 0, .slice none 0 0, .bool false, .int .i64 s.stop] := hw12 ▸ HB12.out
          have hg12 : w8.grownBy w12 (some p) := by
            rw [← hw12, ← HW9.out]
            exact only_setCell (only_setCell (only_setCell (only_setCell (only_refl w8 (some p)) (.inl rfl) _) (.inl rfl) _) (.inl rfl) _) (.inl rfl) _
          have hperm : keys.Perm (dir.map (·.1)) := by rw [HKEYS.out]; exact (List.mergeSort_perm ..).trans HSS.out
          have hnm := HNM.out
          have hkd : ∀ x, x ∈ keys ↔ (dget dir x).isSome = true := fun x => by
            rw [hperm.mem_iff]
            cases hx : dget dir x with
            | some g => exact ⟨fun _ => rfl, fun _ => List.mem_map.2 ⟨_, dget_mem hx, rfl⟩⟩
            | none => exact ⟨fun h => by obtain ⟨y, hy, e⟩ := List.mem_map.1 h; exact absurd e (dget_none.1 hx y hy), fun h => by cases h⟩
          have hek : ∀ e ∈ lst, e.name ∈ keys := fun e he => by rw [← hnm]; exact List.mem_map.2 ⟨e, he, rfl⟩
          have hlen : (laid dir lst).length ≤ s.safe.length + s.pend.length := by
            have h1 := len_laid_mem lst dir (fun e he => by
              obtain ⟨y, hy, e1⟩ := List.mem_map.1 (hperm.mem_iff.1 (hek e he))
              exact ⟨y, hy, e1⟩)
            have h2 := len_replay (s.pend.take j) s.safe
            rw [List.length_take, ← HDIR.out] at h2
            omega
          have hff : FilesAt w12 (w.heap.size + 2) lst := ((HFS.out.grown HG7.out (fun e he => by
            have h1 := HFS.out.gB e he
            refine ⟨by simp; omega, ?_⟩
            cases e1 : e.v.ownBlock with
            | none => exact .inl rfl
            | some k => exact .inr (by have := HFS.out.rowB e he k e1; simp; omega))).below HB8.out).grown hg12 (fun e he => by
            have h1 := HFS.out.gB e he
            refine ⟨by simp; omega, ?_⟩
            cases e1 : e.v.ownBlock with
            | none => exact .inl rfl
            | some k => exact .inr (by have := HFS.out.rowB e he k e1; simp; omega))
          refine ⟨rfl, dir, ss, keys, lst, w.heap.size + 1, wx.heap.size, ?_, HSS.out, HKEYS.out, hnm, HT.out, HFS.out.ne.imp (fun h => h.1), HND.out, hkd, hlen, ?_, ?_⟩
          · rw [HDIR.out, HKN.out, NK.out]
          · refine H.out.crashed dir lst _ _ hb12 ?_ ?_ ⟨hff.blk, hff.row, fun e he => by have := hff.gB e he; omega, fun e he k hk => by have := hff.rowB e he k hk; omega, hff.le, hff.ne⟩ ?_ (by omega) (by omega) (by omega) (by omega) ?_ ?_
            · exact (HD7.out.keep (HB8.out.block _ HD7.out.lt)).keep (hg12.block _ (by have := HD7.out.lt; omega) (by simp; omega))
            · exact DirAt.keep (w := w8) HM8.out (hg12.block _ (World.ownsMap.lt HM8.out) (by simp; omega))
            · intro x hx
              rcases mem_laid lst dir x hx with h1 | ⟨h1, h2⟩
              · exact h1
              · rw [hnm] at h2
                exact absurd (hperm.mem_iff.2 (List.mem_map.2 ⟨x, h1, rfl⟩)) h2
            · intro e he
              have h1 : e.tell ∈ crashL s.bytes s.kept dir keys cs.tail := by rw [← HT.out]; exact List.mem_map.2 ⟨e, he, rfl⟩
              obtain ⟨h2, n, h3⟩ := crashL_mem _ _ _ h1
              obtain ⟨g, h4, h5⟩ := HMEM.out e.name h2
              have h6 := (H.out.file g h5).len
              have h7 : e.bs = (s.bytes ((dget dir e.name).getD 0)).take n := h3
              rw [h4] at h7
              rw [h7, List.length_take]
              exact Nat.le_trans (Nat.min_le_right _ _) h6
            · intro e he
              obtain ⟨g, h4, -⟩ := HMEM.out e.name (hek e he)
              exact nameOk_dir H.out (by rw [← HDIR.out]; exact dget_mem h4)
          · exact (((Chg.refl F w).below HBX.out (Nat.le_refl _)).grown HG7.out (fun g hg => by cases hg; exact .inl H.out.own)).below HB8.out (by omega) |>.grown hg12 (fun g hg => by cases hg; exact .inl H.out.own)
end Go.Proofs.YtfchnpdgnhoffaaGreatDoor
