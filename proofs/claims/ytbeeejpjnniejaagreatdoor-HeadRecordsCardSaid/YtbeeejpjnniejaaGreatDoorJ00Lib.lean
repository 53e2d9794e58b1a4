/- Words for memory, over any program: a block that is known whole; 'only this block, and what is new, has turned'. Words for memory: a slice that reads as a list, nil let in; append onto a row of the call's own from any source. (Lines of the kit's page of words, laid into this family.) First words of the walks: types, slices that own. Ranks, plainly. Three-way comparisons, plainly: of bytes, of labels, of rows of labels. 'The world grew and drew': new blocks behind, more draws, nothing else. The comparison of any two rows of labels, in the program (42 to 45, 24, 25). The comparison of any two rows of labels, in the program: the loop, and the closure that the merge sorts by. Series in memory: as they are given, and as the merge owns them. -/
import Derived.Below
import Derived.Laws.OwnMore
import Derived.Laws.Rows
import Derived.Deep.Draws
import Derived.Deep.OwnRows
import Derived.OwnWalk
import Derived.Laws.AppendOwn
import Derived.Lib.Hide
import Derived.Deep.AppendLies
import Derived.Maps.AppendAt
import Derived.RegionTactic
import Derived.Test.YtbeeejpjnniejaaGreatDoorProg
import Derived.WalkKit
import Derived.Handy
import Derived.WalkSpells
import Derived.WalkLawsBesides
import Derived.Deep.QuietTactic
import Derived.BigQuiet
import Derived.KernelRfl
import Derived.Deep.DeepCutAuto
import Derived.BigRegion
import Derived.Deep.RegionHeld3
import Derived.Laws.Cover2
import Derived.Lib.Strings
import Derived.Sort.Grow
namespace Go.Proofs.YtbeeejpjnniejaaGreatDoor
open Go.RowKit

/-- block g is just the cells cs of element type t, none frozen -/
def Blk (w : World) (g : Nat) (t : TypeId) (cs : Array Value) : Prop := w.heap[g]? = some (.cells cs t (0, 0))

section
variable {w w' : World} {g : Nat} {t : TypeId} {cs : Array Value}
theorem Blk.lt (h : Blk w g t cs) : g < w.heap.size := by
  rcases Nat.lt_or_ge g w.heap.size with hlt | hge
  · exact hlt
  · unfold Blk at h; rw [Array.getElem?_eq_none hge] at h; cases h
theorem Blk.cell (h : Blk w g t cs) (i : Nat) : w.cell? ⟨g, i, none⟩ = cs[i]? := cell_of_row w g i cs t (0, 0) h
theorem Blk.frozen (h : Blk w g t cs) (i : Nat) : w.frozen? ⟨g, i, none⟩ = false := by
  unfold Blk at h
  simp [World.frozen?, h]
theorem Blk.new (w : World) (t : TypeId) (cs : Array Value) : Blk (w.alloc (.cells cs t)) w.heap.size t cs := heap_alloc_new w _
theorem Blk.drew (h : Blk w g t cs) : Blk w.drew g t cs := h
theorem Blk.drewN (h : Blk w g t cs) (n : Nat) : Blk (w.drewN n) g t cs := h
theorem Blk.alloc (h : Blk w g t cs) (o : Obj) : Blk (w.alloc o) g t cs := (Below.heap_alloc w o g h.lt).trans h
theorem Blk.set_ (h : Blk w g t cs) (i : Nat) (u : Value) : Blk (w.setCell ⟨g, i, none⟩ u) g t (cs.setIfInBounds i u) := by
  unfold Blk at h ⊢
  simp [World.setCell, Array.getElem?_modify, h]
theorem Blk.far (h : Blk w g t cs) {p : Addr} (hp : g ≠ p.block) (u : Value) : Blk (w.setCell p u) g t cs := (Below.heap_setCell w p u g hp).trans h
theorem Blk.below {B : Nat} (h : Blk w g t cs) (hb : Below B w w') (hg : g < B) : Blk w' g t cs := (hb.block g hg).trans h
theorem Blk.grown {row : Option Nat} (h : Blk w g t cs) (hb : w.grownBy w' row) (hg : some g ≠ row) : Blk w' g t cs := (hb.block g h.lt hg).trans h
theorem Blk.ne_ {g' : Nat} {t' : TypeId} {cs' : Array Value} (h : Blk w g t cs) (h' : Blk w g' t' cs') (hne : t ≠ t') : g ≠ g' := by
  rintro rfl
  unfold Blk at h h'
  rw [h] at h'
  injection h' with h'
  injection h' with _ ht
  exact hne ht
end

/-! ### only this block, and what is new -/
theorem only_refl (w : World) (row : Option Nat) : w.grownBy w row := ⟨rfl, rfl, rfl, Nat.le_refl _, fun _ _ _ => rfl⟩
theorem only_trans {a b c : World} {row : Option Nat} (h : a.grownBy b row) (k : b.grownBy c row) : a.grownBy c row :=
  ⟨k.os.trans h.os, k.tape.trans h.tape, k.output.trans h.output, Nat.le_trans h.size k.size, fun i hi hne => (k.block i (Nat.lt_of_lt_of_le hi h.size) hne).trans (h.block i hi hne)⟩
theorem only_drewN {a w : World} {row : Option Nat} (h : a.grownBy w row) (n : Nat) : a.grownBy (w.drewN n) row := ⟨h.os, h.tape, h.output, h.size, h.block⟩
theorem only_drew {a w : World} {row : Option Nat} (h : a.grownBy w row) : a.grownBy w.drew row := ⟨h.os, h.tape, h.output, h.size, h.block⟩
theorem only_alloc {a w : World} {row : Option Nat} (h : a.grownBy w row) (o : Obj) : a.grownBy (w.alloc o) row :=
  ⟨h.os, h.tape, h.output, Nat.le_trans h.size (by simp), fun i hi hne => (Below.heap_alloc w o i (Nat.lt_of_lt_of_le hi h.size)).trans (h.block i hi hne)⟩
theorem only_setCell {a w : World} {row : Option Nat} (h : a.grownBy w row) {p : Addr} (hp : row = some p.block ∨ a.heap.size ≤ p.block) (u : Value) : a.grownBy (w.setCell p u) row :=
  ⟨h.os, h.tape, h.output, by simpa [World.setCell] using h.size, fun i hi hne => (Below.heap_setCell w p u i (by
    rintro rfl
    rcases hp with hp | hp
    · exact hne hp.symm
    · omega)).trans (h.block i hi hne)⟩
theorem only_of_below {a w : World} (h : Below a.heap.size a w) (row : Option Nat) : a.grownBy w row := ⟨h.os, h.tape, h.output, h.size, fun i hi _ => h.block i hi⟩
theorem below_of_only {a w : World} (h : a.grownBy w none) : Below a.heap.size a w := ⟨h.os, h.tape, h.output, h.size, fun i hi => h.block i hi (by simp)⟩
theorem below_drewN {B : Nat} {a w : World} (h : Below B a w) (n : Nat) : Below B a (w.drewN n) := ⟨h.os, h.tape, h.output, h.size, h.block⟩


/-- a slice that owns an element at least is written out -/
theorem own_succ {W : World} {base : Nat} {e : TypeId} {size : Nat} {v : Value} {k : Nat} {xs : List Value} (h : W.ownsRow base e size v k xs) (hk : 0 < k) : ∃ g cap, v = .slice (some ⟨g, 0, none⟩) k cap := by
  rcases h.2 with ⟨_, h0⟩ | ⟨g, cap, _, rfl, _⟩
  · omega
  · exact ⟨g, cap, rfl⟩
theorem own_blk_ne {w : World} {base : Nat} {e : TypeId} {size n : Nat} {v : Value} {xs : List Value} {g : Nat} {t : TypeId} {cs : Array Value} (h : w.ownsRow base e size v n xs) (hg : Blk w g t cs) (hne : e ≠ t) : v.ownBlock ≠ some g := by
  rcases h.2 with ⟨rfl, _⟩ | ⟨g', cap, cur, rfl, _, hh, _⟩
  · simp [Value.ownBlock]
  · intro he
    have : g' = g := by simpa [Value.ownBlock] using he
    subst this
    exact Blk.ne_ (t := e) hh hg hne rfl

end Go.Proofs.YtbeeejpjnniejaaGreatDoor
namespace Go.Proofs.YtbeeejpjnniejaaGreatDoor
open Go.RowKit

theorem block_of_add (a : Addr) (n : Nat) : (a.add n).block = a.block := by unfold Addr.add; split <;> rfl
theorem add_of_add (a : Addr) (i j : Nat) : (a.add i).add j = a.add (i + j) := by
  unfold Addr.add
  by_cases hi : i = 0 <;> by_cases hj : j = 0 <;> simp [hi, hj, Nat.add_assoc]

def Reads (w : World) (B size : Nat) (A : Option Addr) (n : Nat) (xs : List Value) : Prop :=
  xs.length = n * size ∧ (0 < n → ∃ ad, A = some ad ∧ ad.block < B ∧ ∀ j u, xs[j]? = some u → w.cell? (ad.add j) = some u)

section
variable {w w' : World} {B B' size n : Nat} {A : Option Addr} {xs : List Value}
theorem Reads.none_ : Reads w B size A 0 [] := ⟨by simp, fun h => absurd h (by omega)⟩
theorem Reads.at_ {k : Nat} (h : Reads w B 1 A n xs) (hk : k < n) : ∃ ad u, A = some ad ∧ ad.block < B ∧ xs[k]? = some u ∧ w.cell? (ad.add k) = some u := by
  obtain ⟨ad, e, hb, hc⟩ := h.2 (by omega)
  have hl : k < xs.length := by have := h.1; omega
  exact ⟨ad, xs[k], e, hb, List.getElem?_eq_getElem hl, hc k _ (List.getElem?_eq_getElem hl)⟩
theorem Reads.keep (h : Reads w B size A n xs) (hk : ∀ p : Addr, p.block < B → w'.cell? p = w.cell? p) : Reads w' B size A n xs :=
  ⟨h.1, fun hn => by
    obtain ⟨ad, e, hb, hc⟩ := h.2 hn
    exact ⟨ad, e, hb, fun j u hu => (hk _ (by rw [block_of_add]; exact hb)).trans (hc j u hu)⟩⟩
theorem Reads.more (h : Reads w B size A n xs) (hB : B ≤ B') : Reads w B' size A n xs :=
  ⟨h.1, fun hn => by
    obtain ⟨ad, e, hb, hc⟩ := h.2 hn
    exact ⟨ad, e, by omega, hc⟩⟩
theorem Reads.below (h : Reads w B size A n xs) (hb : Below B w w') : Reads w' B size A n xs := h.keep fun _ hp => hb.cell hp
theorem Reads.drew (h : Reads w B size A n xs) : Reads w.drew B size A n xs := h
theorem Reads.drewN (h : Reads w B size A n xs) (k : Nat) : Reads (w.drewN k) B size A n xs := h
theorem Reads.alloc (h : Reads w B size A n xs) (hB : B ≤ w.heap.size) (o : Obj) : Reads (w.alloc o) B size A n xs := h.keep fun p hp => World.cell?_alloc_lt w o p (by omega)
theorem Reads.setCell (h : Reads w B size A n xs) {p : Addr} (hB : B ≤ p.block) (u : Value) : Reads (w.setCell p u) B size A n xs :=
  h.keep fun q hq => World.cell?_setCell_other w p q u (fun e => by subst e; omega)
theorem Reads.grown (h : Reads w B size A n xs) {row : Option Nat} (hg : w.grownBy w' row) (hB : B ≤ w.heap.size) (hr : ∀ g, row = some g → B ≤ g) : Reads w' B size A n xs :=
  h.keep fun p hp => World.cell?_of_block (hg.block p.block (by omega) (fun e => by have := hr _ e.symm; omega))
theorem Reads.cut (h : Reads w B size A n xs) {k cap : Nat} (hk : k ≤ n) (hc : n ≤ cap) :
    Reads w B size (if cap = k then A else A.map (·.add (k * size))) (n - k) (xs.drop (k * size)) := by
  refine ⟨by rw [List.length_drop, h.1, Nat.sub_mul], fun hn => ?_⟩
  obtain ⟨ad, rfl, hb, hcell⟩ := h.2 (by omega)
  rw [if_neg (by omega)]
  refine ⟨ad.add (k * size), rfl, by rw [block_of_add]; exact hb, fun j u hu => ?_⟩
  rw [add_of_add]
  exact hcell _ u (by rw [← hu, List.getElem?_drop])
theorem Reads.of_own {base : Nat} {e : TypeId} {c : Nat} (h : w.ownsRow base e size (.slice A n c) n xs) : Reads w w.heap.size size A n xs := by
  refine ⟨h.1, fun hn => ?_⟩
  obtain ⟨g, cap, hv, _, hlt⟩ := h.form hn
  have hA : A = some ⟨g, 0, none⟩ := by injection hv
  subst hA
  exact ⟨_, rfl, hlt, h.cells (g := g) rfl⟩
end

section
variable {P : Program} (w : World)

theorem run_append_of_nil (base : Nat) (t ty e : TypeId) (i : TypeInfo) (size : Nat) (ht : P.underlying t = some (.slice e)) (hi : P.info? e = some i)
    (v : Value) (n : Nat) (xs : List Value) (hown : w.ownsRow base e size v n xs) (c : Nat) : (Builtin.append_ #[t, t] ty #[v, .slice none 0 c]).run P w = .ok v w := by
  rcases hown.2 with ⟨rfl, rfl⟩ | ⟨g, cap, cur, rfl, _, _, hnc, _⟩
  · simp [Builtin.append_, run_underlying ht, sizeOf, typeInfo, hi, Builtin.lenOf, Builtin.firstCells]
  · simp [Builtin.append_, run_underlying ht, sizeOf, typeInfo, hi, Builtin.lenOf, Builtin.firstCells, hnc, storeCells]

theorem run_append_any (base : Nat) (t ty e : TypeId) (i : TypeInfo) (z : Value) (size bytes : Nat) (ht : P.underlying t = some (.slice e)) (hi : P.info? e = some i) (hz : i.zero = some z)
    (hsize : i.size = size) (hby : i.bytes = bytes) (hzs : z.cells.size = size) (hsz : 0 < size)
    (v : Value) (n : Nat) (xs : List Value) (hown : w.ownsRow base e size v n xs)
    (B : Nat) (A : Option Addr) (m c : Nat) (news : List Value) (hr : Reads w B size A m news) (h1 : ∀ u ∈ news, u.oneCell' = true)
    (h63 : n + m ≤ maxLen) (hbytes : (n + m) * bytes ≤ 140737488355328) (hbase : base ≤ w.heap.size) :
    ∃ v' w', (Builtin.append_ #[t, t] ty #[v, .slice A m c]).run P w = .ok v' w' ∧ w'.ownsRow base e size v' (n + m) (xs ++ news) ∧ w.grownBy w' v.ownBlock ∧
      (v'.ownBlock = v.ownBlock ∨ v'.ownBlock = some w.heap.size) := by
  rcases A with _ | ad
  · have hm : m = 0 := by
      rcases Nat.eq_zero_or_pos m with h0 | h0
      · exact h0
      · obtain ⟨ad, h, _⟩ := hr.2 h0
        cases h
    subst hm
    have hn : news = [] := List.eq_nil_of_length_eq_zero (by simpa using hr.1)
    subst hn
    exact ⟨v, w, run_append_of_nil w base t ty e i size ht hi v n xs hown c, by simpa using hown, World.grownBy.refl w _, .inl rfl⟩
  · have hcells : ∀ j u, news[j]? = some u → w.cell? (ad.add j) = some u := by
      intro j u hu
      rcases Nat.eq_zero_or_pos m with h0 | h0
      · subst h0
        have hn : news = [] := List.eq_nil_of_length_eq_zero (by simpa using hr.1)
        subst hn
        simp at hu
      · obtain ⟨ad', h, _, hc⟩ := hr.2 h0
        injection h with h
        subst h
        exact hc j u hu
    obtain ⟨v', w', hrun, h2, h3, _, h5⟩ := run_append_own_at (P := P) w base t ty e i z size bytes ht hi hz hsize hby hzs hsz v n xs hown ad m c news hr.1 hcells h1 h63 hbytes hbase
    exact ⟨v', w', hrun, h2, h3, h5⟩

theorem wp_append_any {o : Oper} {a : Act} {K : Act → World → Prop} {Q : Exit → Act → World → Prop} (s x : Operand) (t : TypeId)
    (ho : o.op = .call { callee := .builtin .append, args := #[s, x], argTypes := #[t, t] })
    (base : Nat) (e : TypeId) (i : TypeInfo) (z : Value) (size bytes : Nat) (ht : P.underlying t = some (.slice e)) (hi : P.info? e = some i) (hz : i.zero = some z)
    (hsize : i.size = size) (hby : i.bytes = bytes) (hzs : z.cells.size = size) (hsz : 0 < size)
    (v : Value) (n : Nat) (xs : List Value) (hs : a.eval s = v) (hown : w.ownsRow base e size v n xs)
    (B : Nat) (A : Option Addr) (m c : Nat) (news : List Value) (hx : a.eval x = .slice A m c) (hr : Reads w B size A m news) (h1 : ∀ u ∈ news, u.oneCell' = true)
    (h63 : n + m ≤ maxLen) (hbytes : (n + m) * bytes ≤ 140737488355328) (hbase : base ≤ w.heap.size)
    (h : ∀ v' w', w'.ownsRow base e size v' (n + m) (xs ++ news) → w.grownBy w' v.ownBlock → (v'.ownBlock = v.ownBlock ∨ v'.ownBlock = some w.heap.size) → K (a.put o.dst v') w') : o.wp P a w K Q := by
  obtain ⟨v', w', hrun, h2, h3, h4⟩ := run_append_any (P := P) w base t o.type e i z size bytes ht hi hz hsize hby hzs hsz v n xs hown B A m c news hr h1 h63 hbytes hbase
  unfold Oper.wp execOp
  simp only [ho, resolve, invoke, builtin, Sem.run_bind, Sem.run_pure, Result.andThen_ok, List.map_toArray, List.map_cons, List.map_nil, hs, hx, hrun]
  exact h v' w' h2 h3 h4

theorem wpList_append_any {ops : Array Oper} {rest : List Oper} {o : Oper} {a : Act} {Q : Exit → Act → World → Prop} (hgd : o.guard = none) (s x : Operand) (t : TypeId)
    (ho : o.op = .call { callee := .builtin .append, args := #[s, x], argTypes := #[t, t] })
    (base : Nat) (e : TypeId) (i : TypeInfo) (z : Value) (size bytes : Nat) (ht : P.underlying t = some (.slice e)) (hi : P.info? e = some i) (hz : i.zero = some z)
    (hsize : i.size = size) (hby : i.bytes = bytes) (hzs : z.cells.size = size) (hsz : 0 < size)
    (v : Value) (n : Nat) (xs : List Value) (hs : a.eval s = v) (hown : w.ownsRow base e size v n xs)
    (B : Nat) (A : Option Addr) (m c : Nat) (news : List Value) (hx : a.eval x = .slice A m c) (hr : Reads w B size A m news) (h1 : ∀ u ∈ news, u.oneCell' = true)
    (h63 : n + m ≤ maxLen) (hbytes : (n + m) * bytes ≤ 140737488355328) (hbase : base ≤ w.heap.size)
    (h : ∀ v' w', w'.ownsRow base e size v' (n + m) (xs ++ news) → w.grownBy w' v.ownBlock → (v'.ownBlock = v.ownBlock ∨ v'.ownBlock = some w.heap.size) → wpList P ops Q rest (a.put o.dst v') w') : wpList P ops Q (o :: rest) a w :=
  wpList_plain hgd fun _ hK => wp_append_any w s x t ho base e i z size bytes ht hi hz hsize hby hzs hsz v n xs hs hown B A m c news hx hr h1 h63 hbytes hbase fun v' w' h2 h3 h4 => hK _ _ (h v' w' h2 h3 h4)

theorem step_append_any {ops : Array Oper} {o : Oper} {a : Act} {K : Act → World → Prop} {Q : Exit → Act → World → Prop} {E : Prop} (hgd : o.guard = none) (s x : Operand) (t : TypeId)
    (ho : o.op = .call { callee := .builtin .append, args := #[s, x], argTypes := #[t, t] })
    (base : Nat) (e : TypeId) (i : TypeInfo) (z : Value) (size bytes : Nat) (ht : P.underlying t = some (.slice e)) (hi : P.info? e = some i) (hz : i.zero = some z)
    (hsize : i.size = size) (hby : i.bytes = bytes) (hzs : z.cells.size = size) (hsz : 0 < size)
    (v : Value) (n : Nat) (xs : List Value) (hs : a.eval s = v) (hown : w.ownsRow base e size v n xs)
    (B : Nat) (A : Option Addr) (m c : Nat) (news : List Value) (hx : a.eval x = .slice A m c) (hr : Reads w B size A m news) (h1 : ∀ u ∈ news, u.oneCell' = true)
    (h63 : n + m ≤ maxLen) (hbytes : (n + m) * bytes ≤ 140737488355328) (hbase : base ≤ w.heap.size)
    (h : ∀ v' w', w'.ownsRow base e size v' (n + m) (xs ++ news) → w.grownBy w' v.ownBlock → (v'.ownBlock = v.ownBlock ∨ v'.ownBlock = some w.heap.size) → K (a.put o.dst v') w') :
    if Region.wanted o (yielded ops a.tmps) = true then Oper.wp P o a w K Q else E := by
  have hw : Region.wanted o (yielded ops a.tmps) = true := by simp [Region.wanted, hgd]
  rw [if_pos hw]
  exact wp_append_any w s x t ho base e i z size bytes ht hi hz hsize hby hzs hsz v n xs hs hown B A m c news hx hr h1 h63 hbytes hbase h
end

end Go.Proofs.YtbeeejpjnniejaaGreatDoor
namespace Go.Proofs.YtbeeejpjnniejaaGreatDoor
open Go.RowKit

theorem isnan_s (x : ByteArray) (w : World) : Calls Tryz.prog 222 #[.string x] w fun e w' => e = .returned (.bool false) ∧ w = w' := by
  go_enter Tryz.func222, Tryz.ntmps222
  go_wp2
  go_ret
  exact ⟨by simp, rfl⟩
theorem bytesLess_self (l : List UInt8) : Op.bytesLess l l = false := by
  induction l with
  | nil => rfl
  | cons a l ih => simp [Op.bytesLess, ih]
theorem info55 : (Tryz.prog.info? 55).map (fun i => (i.zero, i.size, i.bytes)) = some (some (.agg #[.string ⟨#[]⟩, .string ⟨#[]⟩]), 2, 32) := by kernel_rfl
theorem info49 : (Tryz.prog.info? 49).map (fun i => (i.zero, i.size, i.bytes)) = some (some (.agg #[.int .i64 0, .float .f64 0]), 2, 16) := by kernel_rfl
theorem info40 : (Tryz.prog.info? 40).map (fun i => (i.zero, i.size, i.bytes)) = some (some (.agg #[.slice none 0 0, .slice none 0 0]), 2, 48) := by kernel_rfl
theorem own_slice {w : World} {base : Nat} {e : TypeId} {size : Nat} {v : Value} {n : Nat} {xs : List Value} (h : w.ownsRow base e size v n xs) : ∃ A c, v = .slice A n c := by
  rcases h.2 with ⟨rfl, h0⟩ | ⟨g, cap, cur, rfl, _⟩
  · exact ⟨none, 0, by rw [h0]⟩
  · exact ⟨_, _, rfl⟩
end Go.Proofs.YtbeeejpjnniejaaGreatDoor
namespace Go.Proofs.YtbeeejpjnniejaaGreatDoor

/-- what a comparison must be: 'lt' is asymmetric, and its converse's complement carries over -/
structure Rank {α : Type} (lt : α → α → Bool) : Prop where
  asym : ∀ a b, lt a b = true → lt b a = false
  neg : ∀ a b c, lt a b = false → lt b c = false → lt a c = false
section
variable {α : Type} {lt : α → α → Bool}
def eqv (lt : α → α → Bool) (a b : α) : Bool := !lt a b && !lt b a
/-- none stands ahead of one that is less -/
def Asc (lt : α → α → Bool) (l : List α) : Prop := l.Pairwise fun a b => lt b a = false
/-- of each rank the same, in the same order -/
def Alike (lt : α → α → Bool) (l m : List α) : Prop := ∀ x, l.filter (eqv lt x) = m.filter (eqv lt x)
theorem Rank.irr (h : Rank lt) (a : α) : lt a a = false := by
  cases e : lt a a with
  | false => rfl
  | true => have := h.asym a a e; rw [e] at this; exact this
theorem eqv_true {a b : α} : eqv lt a b = true ↔ lt a b = false ∧ lt b a = false := by unfold eqv; simp
theorem Rank.refl (h : Rank lt) (a : α) : eqv lt a a = true := eqv_true.2 ⟨h.irr a, h.irr a⟩
theorem Rank.symm {a b : α} (h : eqv lt a b = true) : eqv lt b a = true := eqv_true.2 (eqv_true.1 h).symm
theorem Rank.trans (h : Rank lt) {a b c : α} (h1 : eqv lt a b = true) (h2 : eqv lt b c = true) : eqv lt a c = true := by
  obtain ⟨a1, a2⟩ := eqv_true.1 h1
  obtain ⟨b1, b2⟩ := eqv_true.1 h2
  exact eqv_true.2 ⟨h.neg _ _ _ a1 b1, h.neg _ _ _ b2 a2⟩
theorem Rank.lt_trans (h : Rank lt) {a b c : α} (h1 : lt a b = true) (h2 : lt c b = false) : lt a c = true := by
  cases e : lt a c with
  | true => rfl
  | false => have := h.neg _ _ _ e h2; rw [h1] at this; exact absurd this (by decide)
theorem Alike.refl (l : List α) : Alike lt l l := fun _ => rfl
theorem Alike.symm {l m : List α} (h : Alike lt l m) : Alike lt m l := fun x => (h x).symm
theorem Alike.trans {l m k : List α} (h : Alike lt l m) (h2 : Alike lt m k) : Alike lt l k := fun x => (h x).trans (h2 x)
theorem Alike.app {l m l' m' : List α} (h : Alike lt l m) (h2 : Alike lt l' m') : Alike lt (l ++ l') (m ++ m') := fun x => by rw [List.filter_append, List.filter_append, h x, h2 x]
theorem Alike.mem (hr : Rank lt) {l m : List α} (h : Alike lt l m) {x : α} (hx : x ∈ l) : x ∈ m := by
  have h1 : x ∈ l.filter (eqv lt x) := List.mem_filter.2 ⟨hx, hr.refl x⟩
  rw [h x] at h1
  exact (List.mem_filter.1 h1).1
theorem Alike.nil (hr : Rank lt) {l : List α} (h : Alike lt [] l) : l = [] := by
  cases l with
  | nil => rfl
  | cons a t => exact absurd (h.symm.mem hr List.mem_cons_self) (by simp)
/-- a list is known by its order and its ranks -/
theorem alike_eq (hr : Rank lt) : ∀ (l m : List α), Asc lt l → Asc lt m → Alike lt l m → l = m
  | [], m, _, _, h => (h.nil hr).symm
  | a :: t, [], _, _, h => absurd (h.mem hr List.mem_cons_self) (by simp)
  | a :: t, b :: s, h1, h2, h => by
    have ha := List.pairwise_cons.1 h1
    have hb := List.pairwise_cons.1 h2
    have e1 : lt b a = false := by
      rcases List.mem_cons.1 (h.symm.mem hr (List.mem_cons_self (a := b) (l := s))) with e | e
      · rw [e]; exact hr.irr _
      · exact ha.1 _ e
    have e2 : lt a b = false := by
      rcases List.mem_cons.1 (h.mem hr (List.mem_cons_self (a := a) (l := t))) with e | e
      · rw [e]; exact hr.irr _
      · exact hb.1 _ e
    have hab : eqv lt a b = true := eqv_true.2 ⟨e2, e1⟩
    have hh : a = b := by
      have := h a
      rw [List.filter_cons_of_pos (hr.refl a), List.filter_cons_of_pos hab] at this
      exact (List.cons.inj this).1
    subst hh
    have ht : Alike lt t s := fun x => by
      have := h x
      by_cases e : eqv lt x a = true
      · rw [List.filter_cons_of_pos e, List.filter_cons_of_pos e] at this
        exact (List.cons.inj this).2
      · rwa [List.filter_cons_of_neg e, List.filter_cons_of_neg e] at this
    rw [alike_eq hr t s ha.2 hb.2 ht]
/-- two rows change places where all of the one are less than all of the other -/
theorem alike_swap (hr : Rank lt) {u v : List α} (h : ∀ p ∈ u, ∀ q ∈ v, lt q p = true) : Alike lt (u ++ v) (v ++ u) := fun x => by
  rw [List.filter_append, List.filter_append]
  by_cases hu : u.filter (eqv lt x) = []
  · rw [hu, List.append_nil, List.nil_append]
  · obtain ⟨p, hp⟩ := List.exists_mem_of_ne_nil _ hu
    obtain ⟨hp1, hp2⟩ := List.mem_filter.1 hp
    have hv : v.filter (eqv lt x) = [] := List.filter_eq_nil_iff.2 fun q hq hq2 => by
      have := (eqv_true.1 (hr.trans (Rank.symm hq2) hp2)).1
      rw [h p hp1 q hq] at this
      exact absurd this (by decide)
    rw [hv, List.append_nil, List.nil_append]
theorem asc_app {u v : List α} : Asc lt (u ++ v) ↔ Asc lt u ∧ Asc lt v ∧ ∀ p ∈ u, ∀ q ∈ v, lt q p = false := List.pairwise_append
/-- cut symmetrically, the halves merged -/
theorem sym_split (hr : Rank lt) {u1 u2 v1 v2 w1 w2 : List α} (hu : Asc lt (u1 ++ u2)) (hv : Asc lt (v1 ++ v2)) (c1 : ∀ p ∈ u1, ∀ q ∈ v2, lt q p = false) (c2 : ∀ p ∈ u2, ∀ q ∈ v1, lt q p = true)
    (h1 : Asc lt w1) (h2 : Asc lt w2) (a1 : Alike lt (u1 ++ v1) w1) (a2 : Alike lt (u2 ++ v2) w2) : Asc lt (w1 ++ w2) ∧ Alike lt ((u1 ++ u2) ++ (v1 ++ v2)) (w1 ++ w2) := by
  obtain ⟨_, _, hu3⟩ := asc_app.1 hu
  obtain ⟨_, _, hv3⟩ := asc_app.1 hv
  refine ⟨asc_app.2 ⟨h1, h2, fun p hp q hq => ?_⟩, ?_⟩
  · rcases List.mem_append.1 (a1.symm.mem hr hp) with hp | hp <;> rcases List.mem_append.1 (a2.symm.mem hr hq) with hq | hq
    · exact hu3 p hp q hq
    · exact c1 p hp q hq
    · exact hr.asym _ _ (c2 q hq p hp)
    · exact hv3 p hp q hq
  · have hs : Alike lt (u2 ++ v1) (v1 ++ u2) := alike_swap hr c2
    have e1 : (u1 ++ u2) ++ (v1 ++ v2) = u1 ++ ((u2 ++ v1) ++ v2) := by simp
    have e2 : Alike lt (u1 ++ ((u2 ++ v1) ++ v2)) (u1 ++ ((v1 ++ u2) ++ v2)) := (Alike.refl u1).app (hs.app (Alike.refl v2))
    have e3 : u1 ++ ((v1 ++ u2) ++ v2) = (u1 ++ v1) ++ (u2 ++ v2) := by simp
    rw [e1]
    exact e2.trans (by rw [e3]; exact a1.app a2)
/-- one that goes into a row from behind -/
theorem ins_step {s1 s2 : List α} {e d : α} (h : Asc lt ((s1 ++ [d]) ++ s2)) (hs : ∀ q ∈ s2, lt e q = true) (hd : lt e d = true) : Asc lt (s1 ++ (d :: s2)) ∧ ∀ q ∈ d :: s2, lt e q = true := by
  refine ⟨by simpa using h, fun q hq => ?_⟩
  rcases List.mem_cons.1 hq with rfl | hq
  · exact hd
  · exact hs q hq
theorem ins_done (hr : Rank lt) {s1 s2 : List α} {e : α} (h : Asc lt (s1 ++ s2)) (hs : ∀ q ∈ s2, lt e q = true) (hd : ∀ d, s1.getLast? = some d → lt e d = false) : Asc lt (s1 ++ e :: s2) := by
  obtain ⟨h1, h2, h3⟩ := asc_app.1 h
  have hle : ∀ p ∈ s1, lt e p = false := fun p hp => by
    have hne : s1 ≠ [] := List.ne_nil_of_mem hp
    have hl := hd _ (List.getLast?_eq_some_getLast hne)
    obtain ⟨s0, hs0⟩ : ∃ s0, s1 = s0 ++ [s1.getLast hne] := ⟨s1.dropLast, (List.dropLast_concat_getLast hne).symm⟩
    rw [hs0] at hp h1
    rcases List.mem_append.1 hp with hp | hp
    · exact hr.neg _ _ _ hl ((asc_app.1 h1).2.2 p hp _ (by simp))
    · rw [List.mem_singleton.1 hp]; exact hl
  refine asc_app.2 ⟨h1, List.pairwise_cons.2 ⟨fun q hq => hr.asym _ _ (hs q hq), h2⟩, fun p hp q hq => ?_⟩
  rcases List.mem_cons.1 hq with rfl | hq
  · exact hle p hp
  · exact h3 p hp q hq
theorem ins_alike (hr : Rank lt) {s2 : List α} {e : α} (hs : ∀ q ∈ s2, lt e q = true) : Alike lt (s2 ++ [e]) (e :: s2) := alike_swap hr (v := [e]) fun p hp q hq => by rw [List.mem_singleton.1 hq]; exact hs p hp
/-- the search for the symmetric cut, at its end: all behind i are refused, all ahead taken -/
theorem bin_step {P : Nat → Prop} (hP : ∀ i j, i ≤ j → P j → P i) {lo c : Nat} (hl : ∀ i, i < lo → P i) (hc : P c) : ∀ i, i < c + 1 → P i := fun i hi => by
  rcases Nat.lt_or_ge i lo with h | h
  · exact hl i h
  · exact hP i c (by omega) hc
end
end Go.Proofs.YtbeeejpjnniejaaGreatDoor
namespace Go.Proofs.YtbeeejpjnniejaaGreatDoor
open Go.RowKit
structure Three {α : Type} (c : α → α → Int) : Prop where
  zero : ∀ a b, c a b = 0 ↔ a = b
  anti : ∀ a b, c b a = - c a b
  trans : ∀ a b d, c a b < 0 → c b d < 0 → c a d < 0
theorem Three.self {α : Type} {c : α → α → Int} (h : Three c) (a : α) : c a a = 0 := (h.zero a a).2 rfl
theorem bl_trans : ∀ a b c : List UInt8, Op.bytesLess a b = true → Op.bytesLess b c = true → Op.bytesLess a c = true
  | _, _, [], _, h2 => by simp [Op.bytesLess] at h2
  | _, [], _ :: _, h1, _ => by simp [Op.bytesLess] at h1
  | [], _ :: _, _ :: _, _, _ => rfl
  | a :: x, b :: y, c :: z, h1, h2 => by
    simp only [Op.bytesLess, Bool.or_eq_true, decide_eq_true_eq, Bool.and_eq_true, beq_iff_eq] at h1 h2 ⊢
    rcases h1 with h1 | ⟨rfl, h1⟩ <;> rcases h2 with h2 | ⟨rfl, h2⟩
    · exact .inl (UInt8.lt_trans h1 h2)
    · exact .inl h1
    · exact .inl h2
    · exact .inr ⟨rfl, bl_trans x y z h1 h2⟩
theorem bl_tri : ∀ a b : List UInt8, Op.bytesLess a b = false → Op.bytesLess b a = false → a = b
  | [], [], _, _ => rfl
  | [], _ :: _, h, _ => by simp [Op.bytesLess] at h
  | _ :: _, [], _, h => by simp [Op.bytesLess] at h
  | a :: x, b :: y, h1, h2 => by
    simp only [Op.bytesLess, Bool.or_eq_false_iff, decide_eq_false_iff_not, Bool.and_eq_false_iff, beq_eq_false_iff_ne] at h1 h2
    have e : a = b := by
      exact UInt8.toNat_inj.1 (by have := h1.1; have := h2.1; rw [UInt8.lt_iff_toNat_lt] at *; omega)
    subst e
    rw [bl_tri x y (by simpa using h1.2) (by simpa using h2.2)]
def cmpB (a b : List UInt8) : Int := if Op.bytesLess a b then -1 else if Op.bytesLess b a then 1 else 0
theorem cmpB_three : Three cmpB where
  zero a b := by
    unfold cmpB
    constructor
    · intro h
      cases h1 : Op.bytesLess a b with
      | true => rw [h1] at h; simp at h
      | false =>
        cases h2 : Op.bytesLess b a with
        | true => rw [h1, h2] at h; simp at h
        | false => exact bl_tri a b h1 h2
    · rintro rfl
      rw [bytesLess_self]; rfl
  anti a b := by
    unfold cmpB
    cases h1 : Op.bytesLess a b with
    | true =>
      cases h2 : Op.bytesLess b a with
      | true => have := bl_trans _ _ _ h1 h2; rw [bytesLess_self] at this; cases this
      | false => simp
    | false => cases h2 : Op.bytesLess b a <;> simp
  trans a b d h1 h2 := by
    have e1 : Op.bytesLess a b = true := by
      cases h : Op.bytesLess a b with
      | true => rfl
      | false => unfold cmpB at h1; rw [h] at h1; cases h3 : Op.bytesLess b a <;> rw [h3] at h1 <;> simp at h1
    have e2 : Op.bytesLess b d = true := by
      cases h : Op.bytesLess b d with
      | true => rfl
      | false => unfold cmpB at h2; rw [h] at h2; cases h3 : Op.bytesLess d b <;> rw [h3] at h2 <;> simp at h2
    unfold cmpB
    rw [bl_trans _ _ _ e1 e2]; simp
def lex (x y : Int) : Int := if x = 0 then y else x
theorem Three.pair {α β : Type} {c : α → α → Int} {d : β → β → Int} (h : Three c) (k : Three d) : Three fun p q : α × β => lex (c p.1 q.1) (d p.2 q.2) where
  zero p q := by
    unfold lex
    split
    · rename_i e
      rw [k.zero]
      exact ⟨fun e2 => Prod.ext ((h.zero _ _).1 e) e2, fun e2 => by rw [e2]⟩
    · rename_i e
      exact ⟨fun e2 => absurd e2 e, fun e2 => absurd (by rw [e2]; exact h.self _) e⟩
  anti p q := by
    unfold lex
    have := h.anti p.1 q.1
    have := k.anti p.2 q.2
    split <;> split <;> omega
  trans p q r h1 h2 := by
    unfold lex at h1 h2 ⊢
    by_cases e1 : c p.1 q.1 = 0
    · rw [if_pos e1] at h1
      have := (h.zero _ _).1 e1
      rw [this]
      by_cases e2 : c q.1 r.1 = 0
      · rw [if_pos e2] at h2 ⊢; exact k.trans _ _ _ h1 h2
      · rw [if_neg e2] at h2 ⊢; exact h2
    · rw [if_neg e1] at h1
      by_cases e2 : c q.1 r.1 = 0
      · have := (h.zero _ _).1 e2
        rw [← this, if_neg e1]; exact h1
      · rw [if_neg e2] at h2
        have := h.trans _ _ _ h1 h2
        rw [if_neg (by omega)]; exact this
def cmpList {α : Type} (c : α → α → Int) : List α → List α → Int
  | [], [] => 0
  | [], _ :: _ => -1
  | _ :: _, [] => 1
  | a :: x, b :: y => lex (c a b) (cmpList c x y)
theorem Three.list {α : Type} {c : α → α → Int} (h : Three c) : Three (cmpList c) where
  zero := fun a => by
    induction a with
    | nil => intro b; cases b <;> simp [cmpList]
    | cons a x ih =>
      intro b
      cases b with
      | nil => simp [cmpList]
      | cons b y =>
        simp only [cmpList, lex, List.cons.injEq]
        split
        · rename_i e; rw [ih, (h.zero _ _).1 e]; simp
        · rename_i e; exact ⟨fun e2 => absurd e2 e, fun e2 => absurd ((h.zero _ _).2 e2.1) e⟩
  anti := fun a => by
    induction a with
    | nil => intro b; cases b <;> simp [cmpList]
    | cons a x ih =>
      intro b
      cases b with
      | nil => simp [cmpList]
      | cons b y =>
        simp only [cmpList, lex]
        have := ih y
        have := h.anti a b
        split <;> split <;> omega
  trans := fun a => by
    induction a with
    | nil =>
      intro b d h1 h2
      cases b with
      | nil => simp [cmpList] at h1
      | cons b y =>
        cases d with
        | nil => simp [cmpList] at h2
        | cons d z => simp [cmpList]
    | cons a x ih =>
      intro b d h1 h2
      cases b with
      | nil => simp [cmpList] at h1
      | cons b y =>
        cases d with
        | nil => simp [cmpList] at h2
        | cons d z =>
          simp only [cmpList, lex] at h1 h2 ⊢
          by_cases e1 : c a b = 0
          · rw [if_pos e1] at h1
            have := (h.zero _ _).1 e1
            rw [this]
            by_cases e2 : c b d = 0
            · rw [if_pos e2] at h2 ⊢; exact ih _ _ h1 h2
            · rw [if_neg e2] at h2 ⊢; exact h2
          · rw [if_neg e1] at h1
            by_cases e2 : c b d = 0
            · have := (h.zero _ _).1 e2
              rw [← this, if_neg e1]; exact h1
            · rw [if_neg e2] at h2
              have := h.trans _ _ _ h1 h2
              rw [if_neg (by omega)]; exact this
/-- what is less by a comparison, of what is told of it, is a rank -/
theorem Three.rank {α β : Type} {c : α → α → Int} (h : Three c) (f : β → α) : Rank fun a b => decide (c (f a) (f b) < 0) where
  asym a b e := by
    have := of_decide_eq_true e
    have := h.anti (f a) (f b)
    exact decide_eq_false (by omega)
  neg a b d e1 e2 := by
    have e1 := of_decide_eq_false e1
    have e2 := of_decide_eq_false e2
    refine decide_eq_false fun e3 => ?_
    have k1 := h.anti (f a) (f b)
    have k2 := h.anti (f b) (f d)
    by_cases z1 : c (f a) (f b) = 0
    · rw [(h.zero _ _).1 z1] at e3; omega
    · by_cases z2 : c (f b) (f d) = 0
      · rw [← (h.zero _ _).1 z2] at e3; omega
      · have := h.trans _ _ _ (show c (f d) (f b) < 0 by omega) (show c (f b) (f a) < 0 by omega)
        have := h.anti (f a) (f d)
        omega
/-- a label: its name's and its value's bytes -/
abbrev Lbl := ByteArray × ByteArray
def cmpS (a b : ByteArray) : Int := cmpB a.toList b.toList
theorem toList_inj {a b : ByteArray} (h : a.toList = b.toList) : a = b := by
  rw [Lib.toList_data, Lib.toList_data] at h
  exact ByteArray.ext (Array.toList_inj.1 h)
theorem cmpS_three : Three cmpS where
  zero a b := (cmpB_three.zero _ _).trans ⟨toList_inj, fun h => by rw [h]⟩
  anti a b := cmpB_three.anti _ _
  trans a b d := cmpB_three.trans _ _ _
def cmpLab (p q : Lbl) : Int := lex (cmpS p.1 q.1) (cmpS p.2 q.2)
theorem cmpLab_three : Three cmpLab := cmpS_three.pair cmpS_three
def cmpL (a b : List Lbl) : Int := cmpList cmpLab a b
theorem cmpL_three : Three cmpL := cmpLab_three.list
theorem cmpS_range (a b : ByteArray) : cmpS a b = -1 ∨ cmpS a b = 0 ∨ cmpS a b = 1 := by
  unfold cmpS cmpB
  split
  · exact .inl rfl
  · split
    · exact .inr (.inr rfl)
    · exact .inr (.inl rfl)
end Go.Proofs.YtbeeejpjnniejaaGreatDoor
namespace Go.Proofs.YtbeeejpjnniejaaGreatDoor
open Go.RowKit Go.Sort
def Up (w w' : World) : Prop := ∃ (q : Nat) (os : Array Obj), w' = grow (w.drewN q) os
theorem Up.refl (w : World) : Up w w := ⟨0, #[], by rw [grow_empty]; rfl⟩
theorem grow_drew (w : World) (os : Array Obj) (q : Nat) : (grow w os).drewN q = grow (w.drewN q) os := rfl
theorem Up.trans {a b c : World} (h : Up a b) (k : Up b c) : Up a c := by
  obtain ⟨q, os, rfl⟩ := h
  obtain ⟨r, os', rfl⟩ := k
  exact ⟨q + r, os ++ os', by rw [grow_drew, grow_grow, World.drewN_drewN]⟩
theorem Up.alloc {a b : World} (h : Up a b) (o : Obj) : Up a (b.alloc o) := h.trans ⟨0, #[o], by rw [alloc_eq_grow]; rfl⟩
theorem Up.drew {a b : World} (h : Up a b) : Up a b.drew := h.trans ⟨1, #[], by rw [grow_empty]; rfl⟩
theorem Up.drewN {a b : World} (h : Up a b) (n : Nat) : Up a (b.drewN n) := h.trans ⟨n, #[], by rw [grow_empty]⟩
theorem Up.below {a b : World} (h : Up a b) : Below a.heap.size a b := by
  obtain ⟨q, os, rfl⟩ := h
  refine ⟨rfl, rfl, rfl, by simp [grow, World.drewN], fun k hk => ?_⟩
  show (a.heap ++ os)[k]? = a.heap[k]?
  rw [Array.getElem?_append_left hk]
end Go.Proofs.YtbeeejpjnniejaaGreatDoor
namespace Go.Proofs.YtbeeejpjnniejaaGreatDoor
open Go.RowKit
section
variable {α : Type}
/-- rows of two cells each, cell by cell -/
def flat2 (f g : α → Value) (l : List α) : List Value := l.flatMap fun a => [f a, g a]
theorem flat2_len (f g : α → Value) (l : List α) : (flat2 f g l).length = l.length * 2 := by
  unfold flat2
  induction l with
  | nil => rfl
  | cons a l ih =>
    rw [List.flatMap_cons, List.length_append, ih, List.length_cons]
    simp; omega
theorem flat2_get (f g : α → Value) : ∀ (l : List α) (i : Nat) (p : α), l[i]? = some p → (flat2 f g l)[i * 2]? = some (f p) ∧ (flat2 f g l)[i * 2 + 1]? = some (g p)
  | [], i, p, h => by simp at h
  | a :: l, 0, p, h => by
    simp at h; subst h
    exact ⟨rfl, rfl⟩
  | a :: l, i + 1, p, h => by
    have := flat2_get f g l i p (by simpa using h)
    unfold flat2 at this ⊢
    rw [List.flatMap_cons]
    rw [show (i + 1) * 2 = i * 2 + 2 by omega, show i * 2 + 2 + 1 = i * 2 + 1 + 2 by omega]
    exact this
theorem flat2_append (f g : α → Value) (l m : List α) : flat2 f g (l ++ m) = flat2 f g l ++ flat2 f g m := by simp [flat2]
theorem Reads.two {w : World} {B n : Nat} {A : Option Addr} {f g : α → Value} {l : List α} (h : Reads w B 2 A n (flat2 f g l)) {i : Nat} {p : α} (hi : l[i]? = some p) :
    ∃ d, A = some d ∧ d.block < B ∧ w.cell? (d.add (i * 2)) = some (f p) ∧ w.cell? ⟨(d.add (i * 2)).block, (d.add (i * 2)).off + 1, none⟩ = some (g p) := by
  have h1 := h.1
  rw [flat2_len] at h1
  have hlt := (List.getElem?_eq_some_iff.1 hi).1
  obtain ⟨d, e, hb, hc⟩ := h.2 (by omega)
  obtain ⟨k1, k2⟩ := flat2_get f g l i p hi
  refine ⟨d, e, hb, hc _ _ k1, ?_⟩
  have := hc _ _ k2
  rw [← add_of_add] at this
  generalize d.add (i * 2) = b at this ⊢
  unfold Addr.add at this
  rwa [if_neg (by omega)] at this
end
abbrev flatL (ls : List Lbl) : List Value := flat2 (fun p : Lbl => .string p.1) (fun p : Lbl => .string p.2) ls
/-- a slice that reads as a row of labels -/
def LabsAt (w : World) (B : Nat) (v : Value) (ls : List Lbl) : Prop := ∃ A c, v = .slice A ls.length c ∧ Reads w B 2 A ls.length (flatL ls)
theorem LabsAt.below {w w' : World} {B : Nat} {v : Value} {ls : List Lbl} (h : LabsAt w B v ls) {B2 : Nat} (hb : Below B2 w w') (hB : B ≤ B2) : LabsAt w' B v ls := by
  obtain ⟨A, c, rfl, h2⟩ := h
  exact ⟨A, c, rfl, h2.keep fun p hp => hb.cell (by omega)⟩
theorem LabsAt.more {w : World} {B B2 : Nat} {v : Value} {ls : List Lbl} (h : LabsAt w B v ls) (hB : B ≤ B2) : LabsAt w B2 v ls := by
  obtain ⟨A, c, rfl, h2⟩ := h
  exact ⟨A, c, rfl, h2.more hB⟩
theorem cmps_any (x y : ByteArray) (w : World) : Calls Tryz.prog 176 #[.string x, .string y] w fun e w' => e = .returned (.int .i64 (cmpS x y)) ∧ w = w' := by
  cases h1 : Op.bytesLess x.toList y.toList with
  | true =>
    have hc := Lib.hid (show cmpS x y = -1 by unfold cmpS cmpB; rw [h1]; rfl)
    go_enter Tryz.func176, Tryz.ntmps176
    go_wp2_with (go_at_call 222; refine (isnan_s _ _).mono ?_; rintro e w' ⟨rfl, rfl⟩)
    refine bodyPost_ret (results_tmp rfl _ _ _) rfl ?_
    exact ⟨by rw [hc.out]; rfl, rfl⟩
  | false =>
    cases h2 : x.toList == y.toList with
    | true =>
      have hc := Lib.hid (show cmpS x y = 0 by unfold cmpS cmpB; rw [h1, eq_of_beq h2, bytesLess_self]; rfl)
      go_enter Tryz.func176, Tryz.ntmps176
      go_wp2_with (go_at_call 222; refine (isnan_s _ _).mono ?_; rintro e w' ⟨rfl, rfl⟩)
      refine bodyPost_ret (results_tmp rfl _ _ _) rfl ?_
      exact ⟨by rw [hc.out]; rfl, rfl⟩
    | false =>
      have hc := Lib.hid (show cmpS x y = 1 by
        have h3 : Op.bytesLess y.toList x.toList = true := by
          cases h4 : Op.bytesLess y.toList x.toList with
          | true => rfl
          | false => exact absurd (bl_tri _ _ h1 h4) (by simpa using h2)
        unfold cmpS cmpB
        rw [h1, h3]; rfl)
      go_enter Tryz.func176, Tryz.ntmps176
      go_wp2_with (go_at_call 222; refine (isnan_s _ _).mono ?_; rintro e w' ⟨rfl, rfl⟩)
      refine bodyPost_ret (results_tmp rfl _ _ _) rfl ?_
      exact ⟨by rw [hc.out]; rfl, rfl⟩
set_option maxHeartbeats 800000 in
theorem or_any (g : Nat) (a b : Int) (w : World) (h0 : w.cell? ⟨g, 0, none⟩ = some (.int .i64 a)) (h1 : w.cell? ⟨g, 1, none⟩ = some (.int .i64 b)) :
    Calls Tryz.prog 175 #[.slice (some ⟨g, 0, none⟩) 2 2] w fun e w' => e = .returned (.int .i64 (lex a b)) ∧ w = w' := by
  by_cases ha : a = 0
  · subst ha
    by_cases hb : b = 0
    · subst hb
      go_enter Tryz.func175, Tryz.ntmps175
      go_wp2_with fail
      go_rounds 3
      refine bodyPost_ret (results_tmp rfl _ _ _) rfl ?_
      exact ⟨rfl, rfl⟩
    · have hb2 : (b == 0) = false := beq_eq_false_iff_ne.2 hb
      have HB := Lib.hid hb
      clear hb
      go_enter Tryz.func175, Tryz.ntmps175
      go_wp2_with fail
      go_rounds 2
      refine bodyPost_ret (results_tmp rfl _ _ _) rfl ?_
      exact ⟨rfl, rfl⟩
  · have ha2 : (a == 0) = false := beq_eq_false_iff_ne.2 ha
    have HA := Lib.hid ha
    clear ha
    go_enter Tryz.func175, Tryz.ntmps175
    go_wp2_with fail
    go_rounds 1
    refine bodyPost_ret (results_tmp rfl _ _ _) rfl ?_
    exact ⟨by unfold lex; rw [if_neg HA.out]; rfl, rfl⟩
set_option maxHeartbeats 1600000 in
theorem lcl_any (x y x' y' : ByteArray) (w : World) :
    Calls Tryz.prog 174 #[.agg #[.string x, .string y], .agg #[.string x', .string y']] w fun e w' => e = .returned (.int .i64 (cmpLab (x, y) (x', y'))) ∧ Up w w' := by
  go_enter Tryz.func174, Tryz.ntmps174
  go_wp2_with fail
  obtain ⟨w2, hw2⟩ : ∃ w2, (w.alloc (.cells #[.string x, .string y] 55)).alloc (.cells #[.string x', .string y'] 55) = w2 := ⟨_, rfl⟩
  have b0 : Blk w2 w.heap.size 55 #[.string x, .string y] := by rw [← hw2]; exact (Blk.new w 55 _).alloc _
  have b1 : Blk w2 (w.heap.size + 1) 55 #[.string x', .string y'] := by rw [← hw2]; have := Blk.new (w.alloc (.cells #[.string x, .string y] 55)) 55 #[.string x', .string y']; rwa [World.size_alloc] at this
  have hb : Below w.heap.size w w2 := by rw [← hw2]; exact ((Below.refl _ w).alloc (Nat.le_refl _) _).alloc (by simp) _
  have hs := hb.size
  have hu : Up w w2 := by rw [← hw2]; exact ((Up.refl w).alloc _).alloc _
  rw [hw2]
  clear hw2
  have c0 : w2.cell? ⟨w.heap.size, 0, none⟩ = some (.string x) := b0.cell 0
  have c1 : w2.cell? ⟨w.heap.size, 1, none⟩ = some (.string y) := b0.cell 1
  have d0 : w2.cell? ⟨w.heap.size + 1, 0, none⟩ = some (.string x') := b1.cell 0
  have d1 : w2.cell? ⟨w.heap.size + 1, 1, none⟩ = some (.string y') := b1.cell 1
  have hl0 := b0.lt
  have hl1 := b1.lt
  have k0 : ∀ o, (w2.alloc o).cell? ⟨w.heap.size, 0, none⟩ = some (.string x) := fun o => (World.cell?_alloc_lt w2 o ⟨w.heap.size, 0, none⟩ hl0).trans c0
  have k1 : ∀ o, (w2.alloc o).cell? ⟨w.heap.size, 1, none⟩ = some (.string y) := fun o => (World.cell?_alloc_lt w2 o ⟨w.heap.size, 1, none⟩ hl0).trans c1
  have k2 : ∀ o, (w2.alloc o).cell? ⟨w.heap.size + 1, 0, none⟩ = some (.string x') := fun o => (World.cell?_alloc_lt w2 o ⟨w.heap.size + 1, 0, none⟩ hl1).trans d0
  have k3 : ∀ o, (w2.alloc o).cell? ⟨w.heap.size + 1, 1, none⟩ = some (.string y') := fun o => (World.cell?_alloc_lt w2 o ⟨w.heap.size + 1, 1, none⟩ hl1).trans d1
  have HU := Lib.hid hu
  clear b0 b1 hb hu
  go_region_held3 (fun w' => w'.cell? ⟨w.heap.size, 0, none⟩ = some (.string x) ∧ w'.cell? ⟨w.heap.size, 1, none⟩ = some (.string y) ∧ w'.cell? ⟨w.heap.size + 1, 0, none⟩ = some (.string x') ∧ w'.cell? ⟨w.heap.size + 1, 1, none⟩ = some (.string y'))
    (first | exact ⟨c0, c1, d0, d1⟩ | exact ⟨k0 _, k1 _, k2 _, k3 _⟩)
    (first
      | (go_at_call 176; refine (cmps_any _ _ _).mono ?_; rintro e w' ⟨rfl, rfl⟩)
      | (go_at_call 175; refine (or_any w2.heap.size (cmpS x x') (cmpS y y') _ (by exact (Blk.new w2 3 #[.int .i64 (cmpS x x'), .int .i64 (cmpS y y')]).cell 0) (by exact (Blk.new w2 3 #[.int .i64 (cmpS x x'), .int .i64 (cmpS y y')]).cell 1)).mono ?_; rintro e w' ⟨rfl, rfl⟩))
  go_wp2
  go_ret
  exact ⟨rfl, (HU.out.alloc _).drew⟩
end Go.Proofs.YtbeeejpjnniejaaGreatDoor
namespace Go.Proofs.YtbeeejpjnniejaaGreatDoor
open Go.RowKit
def CfR (w : World) (a b : List Lbl) (i : Value) (wr : World) : Prop :=
  ∃ k : Nat, i = .int .i64 (k : Int) ∧ k ≤ a.length ∧ k ≤ b.length ∧ cmpL a b = cmpL (a.drop k) (b.drop k) ∧ Up w wr
set_option maxRecDepth 100000 in
set_option maxHeartbeats 3200000 in
theorem cmpfunc_any (w : World) (v1 v2 : Value) (a b : List Lbl) (h1 : LabsAt w w.heap.size v1 a) (h2 : LabsAt w w.heap.size v2 b) (ha : a.length ≤ 100000) (hb : b.length ≤ 100000) :
    Calls Tryz.prog 173 #[v1, v2, .func (.func 174) #[] #[]] w fun e w' => e = .returned (.int .i64 (cmpL a b)) ∧ Up w w' := by
  obtain ⟨A1, c1, rfl, hr1⟩ := h1
  obtain ⟨A2, c2, rfl, hr2⟩ := h2
  obtain ⟨n1, hn1⟩ : ∃ n, n = a.length := ⟨_, rfl⟩
  obtain ⟨n2, hn2⟩ : ∃ n, n = b.length := ⟨_, rfl⟩
  rw [← hn1] at hr1 ha ⊢
  rw [← hn2] at hr2 hb ⊢
  have HR1 := Lib.hid hr1
  have HR2 := Lib.hid hr2
  have HN1 := Lib.hid hn1
  have HN2 := Lib.hid hn2
  have HI := Lib.hid (show CfR w a b (.int .i64 0) w from ⟨0, rfl, Nat.zero_le _, Nat.zero_le _, rfl, Up.refl w⟩)
  clear hr1 hr2 hn1 hn2
  go_enter Tryz.func173, Tryz.ntmps173
  go_wp2_with fail
  go_loopw [13] (fun i wr => CfR w a b i wr) (fun i _ => n1 - (intOf i).toNat)
  case atStart => exact HI.out
  case round =>
    obtain ⟨k, rfl, hka, hkb, hc, hup⟩ := hrel
    have hbl := hup.below
    have HU := Lib.hid hup
    clear hup
    have HC := Lib.hid hc
    have HB := Lib.hid hbl
    have hn1 := HN1.out
    have hn2 := HN2.out
    by_cases hlt : k < n1
    · have i1 : (k : Int) < (n1 : Int) := by omega
      obtain ⟨p, hp⟩ : ∃ p, a[k]? = some p := ⟨_, List.getElem?_eq_getElem (by omega)⟩
      have hda : a.drop k = p :: a.drop (k + 1) := by
        obtain ⟨h8, h9⟩ := List.getElem?_eq_some_iff.1 hp
        rw [List.drop_eq_getElem_cons h8, h9]
      obtain ⟨d1, rfl, hd1, x1, x2⟩ := (HR1.out.keep fun p hp => hbl.cell hp).two hp
      obtain ⟨p1, p2⟩ := p
      dsimp only at x1 x2
      have HDA := Lib.hid hda
      by_cases hlt2 : k < n2
      · have i2 : decide ((n2 : Int) ≤ (k : Int)) = false := decide_eq_false (by omega)
        obtain ⟨q, hq⟩ : ∃ p, b[k]? = some p := ⟨_, List.getElem?_eq_getElem (by omega)⟩
        have hdb : b.drop k = q :: b.drop (k + 1) := by
          obtain ⟨h8, h9⟩ := List.getElem?_eq_some_iff.1 hq
          rw [List.drop_eq_getElem_cons h8, h9]
        obtain ⟨d2, rfl, hd2, y1, y2⟩ := (HR2.out.keep fun p hp => hbl.cell hp).two hq
        obtain ⟨q1, q2⟩ := q
        dsimp only at y1 y2
        have HDB := Lib.hid hdb
        have hbs := hbl.size
        have i3 : (k : Int) < (n2 : Int) := by omega
        have i4 : ¬ (n2 : Int) ≤ (k : Int) := by omega
        have hal := fun o (p : Addr) (hp : p.block < w.heap.size) => World.cell?_alloc_lt wr o p (by omega)
        have z1 : ∀ o, (wr.alloc o).cell? (d2.add (k * 2)) = some (.string q1) := fun o => (hal o _ (by rw [block_of_add]; exact hd2)).trans y1
        have z2 : ∀ o, (wr.alloc o).cell? ⟨(d2.add (k * 2)).block, (d2.add (k * 2)).off + 1, none⟩ = some (.string q2) := fun o => (hal o _ (by show (d2.add (k * 2)).block < _; rw [block_of_add]; exact hd2)).trans y2
        have s1 : IntKind.i64.wrap ((k : Int) + 1) = ((k + 1 : Nat) : Int) := (IntWalk.i64_in _ (by omega)).trans (by omega)
        clear hc hbl hp hda hq hdb hn1 hn2 hal
        go_wp2_with fail
        refine (lcl_any p1 p2 q1 q2 _).mono ?_
        rintro e w4 ⟨rfl, hu4⟩
        have HB4 := Lib.hid (((HU.out.alloc (.cells #[.string p1, .string p2] 55)).alloc (.cells #[.string q1, .string q2] 55)).trans hu4)
        clear hu4 x1 x2 y1 y2 z1 z2
        cases hz : cmpLab (p1, p2) (q1, q2) != 0 with
        | true =>
          have HZ := Lib.hid hz
          go_wp2_with fail
          refine bodyPost_ret (results_tmp rfl _ _ _) rfl ?_
          refine ⟨?_, HB4.out⟩
          have hz := HZ.out
          rw [HC.out, HDA.out, HDB.out]
          show _ = Ending.returned (Value.int IntKind.i64 (lex (cmpLab (p1, p2) (q1, q2)) _))
          unfold lex
          rw [if_neg (by simpa using hz)]
          rfl
        | false =>
          have HZ := Lib.hid hz
          go_wp2_with fail
          refine ⟨⟨k + 1, rfl, by have := HN1.out; omega, by have := HN2.out; omega, ?_, HB4.out⟩, by simp [intOf]; omega⟩
          have hz := HZ.out
          rw [HC.out, HDA.out, HDB.out]
          show lex (cmpLab (p1, p2) (q1, q2)) _ = _
          unfold lex
          rw [if_pos (by simpa using hz)]
          rfl
      · have i2 : decide ((n2 : Int) ≤ (k : Int)) = true := decide_eq_true (by omega)
        have i4 : (n2 : Int) ≤ (k : Int) := by omega
        have HDB := Lib.hid (show b.drop k = [] from List.drop_of_length_le (by omega))
        have HBA := Lib.hid (HU.out.alloc (.cells #[.string p1, .string p2] 55))
        clear hc hbl hp hda hn1 hn2
        go_wp2_with fail
        refine bodyPost_ret (results_tmp rfl _ _ _) rfl ?_
        refine ⟨?_, HBA.out⟩
        rw [HC.out, HDA.out, HDB.out]
        rfl
    · have i1 : ¬ (k : Int) < (n1 : Int) := by omega
      by_cases hlt2 : n1 < n2
      · have i2 : (n1 : Int) < (n2 : Int) := by omega
        have HDA := Lib.hid (show a.drop k = [] from List.drop_of_length_le (by omega))
        have HDB := Lib.hid (show ∃ q r, b.drop k = q :: r by
          cases e : b.drop k with
          | nil => have := congrArg List.length e; rw [List.length_drop] at this; simp at this; omega
          | cons q r => exact ⟨q, r, rfl⟩)
        clear hc hbl hn1 hn2
        go_wp2_with fail
        refine bodyPost_ret (results_tmp rfl _ _ _) rfl ?_
        obtain ⟨q, r, e⟩ := HDB.out
        refine ⟨?_, HU.out⟩
        rw [HC.out, HDA.out, e]
        rfl
      · have i2 : ¬ (n1 : Int) < (n2 : Int) := by omega
        have HDA := Lib.hid (show a.drop k = [] from List.drop_of_length_le (by omega))
        have HDB := Lib.hid (show b.drop k = [] from List.drop_of_length_le (by omega))
        clear hc hbl hn1 hn2
        go_wp2_with fail
        refine bodyPost_ret (results_tmp rfl _ _ _) rfl ?_
        refine ⟨?_, HU.out⟩
        rw [HC.out, HDA.out, HDB.out]
        rfl
theorem lcompare_any (w : World) (v1 v2 : Value) (a b : List Lbl) (h1 : LabsAt w w.heap.size v1 a) (h2 : LabsAt w w.heap.size v2 b) (ha : a.length ≤ 100000) (hb : b.length ≤ 100000) :
    Calls Tryz.prog 127 #[v1, v2] w fun e w' => e = .returned (.int .i64 (cmpL a b)) ∧ Up w w' := by
  have HC := Lib.hid (cmpfunc_any w v1 v2 a b h1 h2 ha hb)
  clear h1 h2
  go_enter Tryz.func127, Tryz.ntmps127
  go_wp2_with fail
  refine HC.out.mono ?_
  rintro e w' ⟨rfl, hb⟩
  have HB := Lib.hid hb
  clear hb
  go_wp2
  go_ret
  exact ⟨rfl, HB.out⟩
end Go.Proofs.YtbeeejpjnniejaaGreatDoor
namespace Go.Proofs.YtbeeejpjnniejaaGreatDoor
open Go.RowKit
abbrev VV := Value × Value
/-- a sample: its time and its value's bits -/
abbrev Smp := Int × Nat
/-- a series: its labels, its samples -/
abbrev Ser := List Lbl × List Smp
abbrev flatS (l : List Smp) : List Value := flat2 (fun p : Smp => .int .i64 p.1) (fun p : Smp => .float .f64 p.2) l
abbrev flatV (l : List VV) : List Value := flat2 Prod.fst Prod.snd l
theorem own_less {w : World} {base b2 : Nat} {e : TypeId} {size n : Nat} {v : Value} {xs : List Value} (h : w.ownsRow base e size v n xs) (hb : b2 ≤ base) : w.ownsRow b2 e size v n xs := by
  refine ⟨h.1, ?_⟩
  rcases h.2 with h | ⟨g, cap, cur, h1, h2, h3⟩
  · exact .inl h
  · exact .inr ⟨g, cap, cur, h1, Nat.le_trans hb h2, h3⟩
theorem flatL_one (l : List Lbl) : ∀ u ∈ flatL l, u.oneCell' = true := fun u hu => by
  simp only [flat2, List.mem_flatMap] at hu
  obtain ⟨p, -, hu⟩ := hu
  simp only [List.mem_cons, List.not_mem_nil, or_false] at hu
  rcases hu with rfl | rfl <;> rfl
theorem flatS_one (l : List Smp) : ∀ u ∈ flatS l, u.oneCell' = true := fun u hu => by
  simp only [flat2, List.mem_flatMap] at hu
  obtain ⟨p, -, hu⟩ := hu
  simp only [List.mem_cons, List.not_mem_nil, or_false] at hu
  rcases hu with rfl | rfl <;> rfl
/-- the two slices own their rows -/
def SerOwn (w : World) (base : Nat) (p : VV) (s : Ser) : Prop := w.ownsRow base 55 2 p.1 s.1.length (flatL s.1) ∧ w.ownsRow base 49 2 p.2 s.2.length (flatS s.2)
def SmpsRd (w : World) (B : Nat) (v : Value) (l : List Smp) : Prop := ∃ A c, v = .slice A l.length c ∧ Reads w B 2 A l.length (flatS l)
/-- the two slices read as rows -/
def SerRd (w : World) (B : Nat) (p : VV) (s : Ser) : Prop := LabsAt w B p.1 s.1 ∧ SmpsRd w B p.2 s.2
def SersRd (w : World) (B : Nat) (v : Value) (ss : List Ser) : Prop :=
  ∃ A c vs, v = .slice A ss.length c ∧ vs.length = ss.length ∧ Reads w B 2 A ss.length (flatV vs) ∧ ∀ (i : Nat) (p : VV) (s : Ser), vs[i]? = some p → ss[i]? = some s → SerRd w B p s
def Small (ss : List Ser) : Prop := ∀ s ∈ ss, s.1.length ≤ 1000 ∧ s.2.length ≤ 1000
section
variable {w w' : World} {B B2 : Nat} {p : VV} {s : Ser} {v : Value}
theorem SmpsRd.below {l : List Smp} (h : SmpsRd w B v l) (hb : Below B2 w w') (hB : B ≤ B2) : SmpsRd w' B v l := by
  obtain ⟨A, c, rfl, h2⟩ := h
  exact ⟨A, c, rfl, h2.keep fun p hp => hb.cell (by omega)⟩
theorem SmpsRd.more {l : List Smp} (h : SmpsRd w B v l) (hB : B ≤ B2) : SmpsRd w B2 v l := by
  obtain ⟨A, c, rfl, h2⟩ := h
  exact ⟨A, c, rfl, h2.more hB⟩
theorem SerRd.below (h : SerRd w B p s) (hb : Below B2 w w') (hB : B ≤ B2) : SerRd w' B p s := ⟨h.1.below hb hB, h.2.below hb hB⟩
theorem SerRd.more (h : SerRd w B p s) (hB : B ≤ B2) : SerRd w B2 p s := ⟨h.1.more hB, h.2.more hB⟩
theorem SersRd.below {ss : List Ser} (h : SersRd w B v ss) (hb : Below B2 w w') (hB : B ≤ B2) : SersRd w' B v ss := by
  obtain ⟨A, c, vs, rfl, h1, h2, h3⟩ := h
  exact ⟨A, c, vs, rfl, h1, h2.keep fun p hp => hb.cell (by omega), fun i p s a b => (h3 i p s a b).below hb hB⟩
theorem SersRd.more {ss : List Ser} (h : SersRd w B v ss) (hB : B ≤ B2) : SersRd w B2 v ss := by
  obtain ⟨A, c, vs, rfl, h1, h2, h3⟩ := h
  exact ⟨A, c, vs, rfl, h1, h2.more hB, fun i p s a b => (h3 i p s a b).more hB⟩
theorem SerOwn.kept {base : Nat} {row : Option Nat} (h : SerOwn w base p s) (hg : w.grownBy w' row) (h1 : p.1.ownBlock = none ∨ p.1.ownBlock ≠ row) (h2 : p.2.ownBlock = none ∨ p.2.ownBlock ≠ row) : SerOwn w' base p s := ⟨h.1.kept hg h1, h.2.kept hg h2⟩
theorem SerOwn.below {base : Nat} (h : SerOwn w base p s) (hb : Below w.heap.size w w') : SerOwn w' base p s := h.kept (only_of_below hb none) (by cases p.1.ownBlock <;> simp) (by cases p.2.ownBlock <;> simp)
theorem SerOwn.alloc {base : Nat} (h : SerOwn w base p s) (o : Obj) : SerOwn (w.alloc o) base p s := ⟨h.1.alloc o, h.2.alloc o⟩
theorem SerOwn.less {base b2 : Nat} (h : SerOwn w base p s) (hb : b2 ≤ base) : SerOwn w b2 p s := ⟨own_less h.1 hb, own_less h.2 hb⟩
theorem SerOwn.setCell {base : Nat} (h : SerOwn w base p s) {a : Addr} (ha : a.block < base) (u : Value) : SerOwn (w.setCell a u) base p s := ⟨ownsRow_setCell_below h.1 ha u, ownsRow_setCell_below h.2 ha u⟩
/-- what a block of another type keeps -/
theorem SerOwn.far {base g : Nat} {t : TypeId} {cs : Array Value} (h : SerOwn w base p s) (hg : Blk w g t cs) (h1 : (55 : TypeId) ≠ t) (h2 : (49 : TypeId) ≠ t) (hr : w.grownBy w' (some g)) : SerOwn w' base p s :=
  h.kept hr (.inr (own_blk_ne h.1 hg h1)) (.inr (own_blk_ne h.2 hg h2))
theorem SerOwn.slices {base : Nat} (h : SerOwn w base p s) : ∃ A c A2 c2, p = (.slice A s.1.length c, .slice A2 s.2.length c2) := by
  obtain ⟨A, c, e1⟩ := own_slice h.1
  obtain ⟨A2, c2, e2⟩ := own_slice h.2
  exact ⟨A, c, A2, c2, Prod.ext e1 e2⟩
theorem SerOwn.rd {base : Nat} (h : SerOwn w base p s) : SerRd w w.heap.size p s := by
  obtain ⟨h1, h2⟩ := h
  obtain ⟨A, c, e1⟩ := own_slice h1
  obtain ⟨A2, c2, e2⟩ := own_slice h2
  rw [e1] at h1
  rw [e2] at h2
  exact ⟨⟨A, c, e1, Reads.of_own h1⟩, ⟨A2, c2, e2, Reads.of_own h2⟩⟩
end
end Go.Proofs.YtbeeejpjnniejaaGreatDoor
