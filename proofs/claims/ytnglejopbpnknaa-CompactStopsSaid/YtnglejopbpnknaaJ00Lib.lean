/- Words for memory, over any program: a block that is known whole; 'only this block, and what is new, has turned'. Words for memory: a slice that reads as a list, nil let in; append onto a row of the call's own from any source. (Lines of the kit's page of words, laid into this family.) The walks of the comparisons of labels, where they are alike. The walk of compact.copied: a series of one's own. The walks of the library's stable sort at two series of the same labels. The walks of the library's stable sort at three samples that lie in order. The walk of slices.CompactFunc at three samples, of which the first two bear one time. A law: a call of a Go function as a step of a region that draws its order. -/
import Derived.Below
import Derived.Laws.OwnMore
import Derived.Laws.Rows
import Derived.Deep.Draws
import Derived.Deep.OwnRows
import Derived.OwnWalk
import Derived.Laws.AppendOwn
import Derived.Lib.Hide
import Derived.Deep.AppendLies
import Derived.Maps.AppendAt
import Derived.RegionTactic
import Derived.Test.YtnglejopbpnknaaProg
import Derived.WalkKit
import Derived.Handy
import Derived.WalkSpells
import Derived.WalkLawsBesides
import Derived.Deep.QuietTactic
import Derived.BigQuiet
import Derived.KernelRfl
import Derived.Deep.DeepCutAuto
import Derived.BigRegion
import Derived.Deep.RegionHeld3
import Derived.Laws.Cover2
namespace Go.Proofs.Ytnglejopbpnknaa
open Go.RowKit

/-- block g is just the cells cs of element type t, none frozen -/
def Blk (w : World) (g : Nat) (t : TypeId) (cs : Array Value) : Prop := w.heap[g]? = some (.cells cs t (0, 0))

section
variable {w w' : World} {g : Nat} {t : TypeId} {cs : Array Value}
theorem Blk.lt (h : Blk w g t cs) : g < w.heap.size := by
  rcases Nat.lt_or_ge g w.heap.size with hlt | hge
  · exact hlt
  · unfold Blk at h; rw [Array.getElem?_eq_none hge] at h; cases h
theorem Blk.cell (h : Blk w g t cs) (i : Nat) : w.cell? ⟨g, i, none⟩ = cs[i]? := cell_of_row w g i cs t (0, 0) h
theorem Blk.frozen (h : Blk w g t cs) (i : Nat) : w.frozen? ⟨g, i, none⟩ = false := by
  unfold Blk at h
  simp [World.frozen?, h]
theorem Blk.new (w : World) (t : TypeId) (cs : Array Value) : Blk (w.alloc (.cells cs t)) w.heap.size t cs := heap_alloc_new w _
theorem Blk.drew (h : Blk w g t cs) : Blk w.drew g t cs := h
theorem Blk.drewN (h : Blk w g t cs) (n : Nat) : Blk (w.drewN n) g t cs := h
theorem Blk.alloc (h : Blk w g t cs) (o : Obj) : Blk (w.alloc o) g t cs := (Below.heap_alloc w o g h.lt).trans h
theorem Blk.set_ (h : Blk w g t cs) (i : Nat) (u : Value) : Blk (w.setCell ⟨g, i, none⟩ u) g t (cs.setIfInBounds i u) := by
  unfold Blk at h ⊢
  simp [World.setCell, Array.getElem?_modify, h]
theorem Blk.far (h : Blk w g t cs) {p : Addr} (hp : g ≠ p.block) (u : Value) : Blk (w.setCell p u) g t cs := (Below.heap_setCell w p u g hp).trans h
theorem Blk.below {B : Nat} (h : Blk w g t cs) (hb : Below B w w') (hg : g < B) : Blk w' g t cs := (hb.block g hg).trans h
theorem Blk.grown {row : Option Nat} (h : Blk w g t cs) (hb : w.grownBy w' row) (hg : some g ≠ row) : Blk w' g t cs := (hb.block g h.lt hg).trans h
theorem Blk.ne_ {g' : Nat} {t' : TypeId} {cs' : Array Value} (h : Blk w g t cs) (h' : Blk w g' t' cs') (hne : t ≠ t') : g ≠ g' := by
  rintro rfl
  unfold Blk at h h'
  rw [h] at h'
  injection h' with h'
  injection h' with _ ht
  exact hne ht
end

/-! ### only this block, and what is new -/
theorem only_refl (w : World) (row : Option Nat) : w.grownBy w row := ⟨rfl, rfl, rfl, Nat.le_refl _, fun _ _ _ => rfl⟩
theorem only_trans {a b c : World} {row : Option Nat} (h : a.grownBy b row) (k : b.grownBy c row) : a.grownBy c row :=
  ⟨k.os.trans h.os, k.tape.trans h.tape, k.output.trans h.output, Nat.le_trans h.size k.size, fun i hi hne => (k.block i (Nat.lt_of_lt_of_le hi h.size) hne).trans (h.block i hi hne)⟩
theorem only_drewN {a w : World} {row : Option Nat} (h : a.grownBy w row) (n : Nat) : a.grownBy (w.drewN n) row := ⟨h.os, h.tape, h.output, h.size, h.block⟩
theorem only_drew {a w : World} {row : Option Nat} (h : a.grownBy w row) : a.grownBy w.drew row := ⟨h.os, h.tape, h.output, h.size, h.block⟩
theorem only_alloc {a w : World} {row : Option Nat} (h : a.grownBy w row) (o : Obj) : a.grownBy (w.alloc o) row :=
  ⟨h.os, h.tape, h.output, Nat.le_trans h.size (by simp), fun i hi hne => (Below.heap_alloc w o i (Nat.lt_of_lt_of_le hi h.size)).trans (h.block i hi hne)⟩
theorem only_setCell {a w : World} {row : Option Nat} (h : a.grownBy w row) {p : Addr} (hp : row = some p.block ∨ a.heap.size ≤ p.block) (u : Value) : a.grownBy (w.setCell p u) row :=
  ⟨h.os, h.tape, h.output, by simpa [World.setCell] using h.size, fun i hi hne => (Below.heap_setCell w p u i (by
    rintro rfl
    rcases hp with hp | hp
    · exact hne hp.symm
    · omega)).trans (h.block i hi hne)⟩
theorem only_of_below {a w : World} (h : Below a.heap.size a w) (row : Option Nat) : a.grownBy w row := ⟨h.os, h.tape, h.output, h.size, fun i hi _ => h.block i hi⟩
theorem below_of_only {a w : World} (h : a.grownBy w none) : Below a.heap.size a w := ⟨h.os, h.tape, h.output, h.size, fun i hi => h.block i hi (by simp)⟩
theorem below_drewN {B : Nat} {a w : World} (h : Below B a w) (n : Nat) : Below B a (w.drewN n) := ⟨h.os, h.tape, h.output, h.size, h.block⟩


/-- a slice that owns an element at least is written out -/
theorem own_succ {W : World} {base : Nat} {e : TypeId} {size : Nat} {v : Value} {k : Nat} {xs : List Value} (h : W.ownsRow base e size v k xs) (hk : 0 < k) : ∃ g cap, v = .slice (some ⟨g, 0, none⟩) k cap := by
  rcases h.2 with ⟨_, h0⟩ | ⟨g, cap, _, rfl, _⟩
  · omega
  · exact ⟨g, cap, rfl⟩
theorem own_blk_ne {w : World} {base : Nat} {e : TypeId} {size n : Nat} {v : Value} {xs : List Value} {g : Nat} {t : TypeId} {cs : Array Value} (h : w.ownsRow base e size v n xs) (hg : Blk w g t cs) (hne : e ≠ t) : v.ownBlock ≠ some g := by
  rcases h.2 with ⟨rfl, _⟩ | ⟨g', cap, cur, rfl, _, hh, _⟩
  · simp [Value.ownBlock]
  · intro he
    have : g' = g := by simpa [Value.ownBlock] using he
    subst this
    exact Blk.ne_ (t := e) hh hg hne rfl

end Go.Proofs.Ytnglejopbpnknaa
namespace Go.Proofs.Ytnglejopbpnknaa
open Go.RowKit

theorem block_of_add (a : Addr) (n : Nat) : (a.add n).block = a.block := by unfold Addr.add; split <;> rfl
theorem add_of_add (a : Addr) (i j : Nat) : (a.add i).add j = a.add (i + j) := by
  unfold Addr.add
  by_cases hi : i = 0 <;> by_cases hj : j = 0 <;> simp [hi, hj, Nat.add_assoc]

def Reads (w : World) (B size : Nat) (A : Option Addr) (n : Nat) (xs : List Value) : Prop :=
  xs.length = n * size ∧ (0 < n → ∃ ad, A = some ad ∧ ad.block < B ∧ ∀ j u, xs[j]? = some u → w.cell? (ad.add j) = some u)

section
variable {w w' : World} {B B' size n : Nat} {A : Option Addr} {xs : List Value}
theorem Reads.none_ : Reads w B size A 0 [] := ⟨by simp, fun h => absurd h (by omega)⟩
theorem Reads.at_ {k : Nat} (h : Reads w B 1 A n xs) (hk : k < n) : ∃ ad u, A = some ad ∧ ad.block < B ∧ xs[k]? = some u ∧ w.cell? (ad.add k) = some u := by
  obtain ⟨ad, e, hb, hc⟩ := h.2 (by omega)
  have hl : k < xs.length := by have := h.1; omega
  exact ⟨ad, xs[k], e, hb, List.getElem?_eq_getElem hl, hc k _ (List.getElem?_eq_getElem hl)⟩
theorem Reads.keep (h : Reads w B size A n xs) (hk : ∀ p : Addr, p.block < B → w'.cell? p = w.cell? p) : Reads w' B size A n xs :=
  ⟨h.1, fun hn => by
    obtain ⟨ad, e, hb, hc⟩ := h.2 hn
    exact ⟨ad, e, hb, fun j u hu => (hk _ (by rw [block_of_add]; exact hb)).trans (hc j u hu)⟩⟩
theorem Reads.more (h : Reads w B size A n xs) (hB : B ≤ B') : Reads w B' size A n xs :=
  ⟨h.1, fun hn => by
    obtain ⟨ad, e, hb, hc⟩ := h.2 hn
    exact ⟨ad, e, by omega, hc⟩⟩
theorem Reads.below (h : Reads w B size A n xs) (hb : Below B w w') : Reads w' B size A n xs := h.keep fun _ hp => hb.cell hp
theorem Reads.drew (h : Reads w B size A n xs) : Reads w.drew B size A n xs := h
theorem Reads.drewN (h : Reads w B size A n xs) (k : Nat) : Reads (w.drewN k) B size A n xs := h
theorem Reads.alloc (h : Reads w B size A n xs) (hB : B ≤ w.heap.size) (o : Obj) : Reads (w.alloc o) B size A n xs := h.keep fun p hp => World.cell?_alloc_lt w o p (by omega)
theorem Reads.setCell (h : Reads w B size A n xs) {p : Addr} (hB : B ≤ p.block) (u : Value) : Reads (w.setCell p u) B size A n xs :=
  h.keep fun q hq => World.cell?_setCell_other w p q u (fun e => by subst e; omega)
theorem Reads.grown (h : Reads w B size A n xs) {row : Option Nat} (hg : w.grownBy w' row) (hB : B ≤ w.heap.size) (hr : ∀ g, row = some g → B ≤ g) : Reads w' B size A n xs :=
  h.keep fun p hp => World.cell?_of_block (hg.block p.block (by omega) (fun e => by have := hr _ e.symm; omega))
theorem Reads.cut (h : Reads w B size A n xs) {k cap : Nat} (hk : k ≤ n) (hc : n ≤ cap) :
    Reads w B size (if cap = k then A else A.map (·.add (k * size))) (n - k) (xs.drop (k * size)) := by
  refine ⟨by rw [List.length_drop, h.1, Nat.sub_mul], fun hn => ?_⟩
  obtain ⟨ad, rfl, hb, hcell⟩ := h.2 (by omega)
  rw [if_neg (by omega)]
  refine ⟨ad.add (k * size), rfl, by rw [block_of_add]; exact hb, fun j u hu => ?_⟩
  rw [add_of_add]
  exact hcell _ u (by rw [← hu, List.getElem?_drop])
theorem Reads.of_own {base : Nat} {e : TypeId} {c : Nat} (h : w.ownsRow base e size (.slice A n c) n xs) : Reads w w.heap.size size A n xs := by
  refine ⟨h.1, fun hn => ?_⟩
  obtain ⟨g, cap, hv, _, hlt⟩ := h.form hn
  have hA : A = some ⟨g, 0, none⟩ := by injection hv
  subst hA
  exact ⟨_, rfl, hlt, h.cells (g := g) rfl⟩
end

section
variable {P : Program} (w : World)

theorem run_append_of_nil (base : Nat) (t ty e : TypeId) (i : TypeInfo) (size : Nat) (ht : P.underlying t = some (.slice e)) (hi : P.info? e = some i)
    (v : Value) (n : Nat) (xs : List Value) (hown : w.ownsRow base e size v n xs) (c : Nat) : (Builtin.append_ #[t, t] ty #[v, .slice none 0 c]).run P w = .ok v w := by
  rcases hown.2 with ⟨rfl, rfl⟩ | ⟨g, cap, cur, rfl, _, _, hnc, _⟩
  · simp [Builtin.append_, run_underlying ht, sizeOf, typeInfo, hi, Builtin.lenOf, Builtin.firstCells]
  · simp [Builtin.append_, run_underlying ht, sizeOf, typeInfo, hi, Builtin.lenOf, Builtin.firstCells, hnc, storeCells]

theorem run_append_any (base : Nat) (t ty e : TypeId) (i : TypeInfo) (z : Value) (size bytes : Nat) (ht : P.underlying t = some (.slice e)) (hi : P.info? e = some i) (hz : i.zero = some z)
    (hsize : i.size = size) (hby : i.bytes = bytes) (hzs : z.cells.size = size) (hsz : 0 < size)
    (v : Value) (n : Nat) (xs : List Value) (hown : w.ownsRow base e size v n xs)
    (B : Nat) (A : Option Addr) (m c : Nat) (news : List Value) (hr : Reads w B size A m news) (h1 : ∀ u ∈ news, u.oneCell' = true)
    (h63 : n + m ≤ maxLen) (hbytes : (n + m) * bytes ≤ 140737488355328) (hbase : base ≤ w.heap.size) :
    ∃ v' w', (Builtin.append_ #[t, t] ty #[v, .slice A m c]).run P w = .ok v' w' ∧ w'.ownsRow base e size v' (n + m) (xs ++ news) ∧ w.grownBy w' v.ownBlock ∧
      (v'.ownBlock = v.ownBlock ∨ v'.ownBlock = some w.heap.size) := by
  rcases A with _ | ad
  · have hm : m = 0 := by
      rcases Nat.eq_zero_or_pos m with h0 | h0
      · exact h0
      · obtain ⟨ad, h, _⟩ := hr.2 h0
        cases h
    subst hm
    have hn : news = [] := List.eq_nil_of_length_eq_zero (by simpa using hr.1)
    subst hn
    exact ⟨v, w, run_append_of_nil w base t ty e i size ht hi v n xs hown c, by simpa using hown, World.grownBy.refl w _, .inl rfl⟩
  · have hcells : ∀ j u, news[j]? = some u → w.cell? (ad.add j) = some u := by
      intro j u hu
      rcases Nat.eq_zero_or_pos m with h0 | h0
      · subst h0
        have hn : news = [] := List.eq_nil_of_length_eq_zero (by simpa using hr.1)
        subst hn
        simp at hu
      · obtain ⟨ad', h, _, hc⟩ := hr.2 h0
        injection h with h
        subst h
        exact hc j u hu
    obtain ⟨v', w', hrun, h2, h3, _, h5⟩ := run_append_own_at (P := P) w base t ty e i z size bytes ht hi hz hsize hby hzs hsz v n xs hown ad m c news hr.1 hcells h1 h63 hbytes hbase
    exact ⟨v', w', hrun, h2, h3, h5⟩

theorem wp_append_any {o : Oper} {a : Act} {K : Act → World → Prop} {Q : Exit → Act → World → Prop} (s x : Operand) (t : TypeId)
    (ho : o.op = .call { callee := .builtin .append, args := #[s, x], argTypes := #[t, t] })
    (base : Nat) (e : TypeId) (i : TypeInfo) (z : Value) (size bytes : Nat) (ht : P.underlying t = some (.slice e)) (hi : P.info? e = some i) (hz : i.zero = some z)
    (hsize : i.size = size) (hby : i.bytes = bytes) (hzs : z.cells.size = size) (hsz : 0 < size)
    (v : Value) (n : Nat) (xs : List Value) (hs : a.eval s = v) (hown : w.ownsRow base e size v n xs)
    (B : Nat) (A : Option Addr) (m c : Nat) (news : List Value) (hx : a.eval x = .slice A m c) (hr : Reads w B size A m news) (h1 : ∀ u ∈ news, u.oneCell' = true)
    (h63 : n + m ≤ maxLen) (hbytes : (n + m) * bytes ≤ 140737488355328) (hbase : base ≤ w.heap.size)
    (h : ∀ v' w', w'.ownsRow base e size v' (n + m) (xs ++ news) → w.grownBy w' v.ownBlock → (v'.ownBlock = v.ownBlock ∨ v'.ownBlock = some w.heap.size) → K (a.put o.dst v') w') : o.wp P a w K Q := by
  obtain ⟨v', w', hrun, h2, h3, h4⟩ := run_append_any (P := P) w base t o.type e i z size bytes ht hi hz hsize hby hzs hsz v n xs hown B A m c news hr h1 h63 hbytes hbase
  unfold Oper.wp execOp
  simp only [ho, resolve, invoke, builtin, Sem.run_bind, Sem.run_pure, Result.andThen_ok, List.map_toArray, List.map_cons, List.map_nil, hs, hx, hrun]
  exact h v' w' h2 h3 h4

theorem wpList_append_any {ops : Array Oper} {rest : List Oper} {o : Oper} {a : Act} {Q : Exit → Act → World → Prop} (hgd : o.guard = none) (s x : Operand) (t : TypeId)
    (ho : o.op = .call { callee := .builtin .append, args := #[s, x], argTypes := #[t, t] })
    (base : Nat) (e : TypeId) (i : TypeInfo) (z : Value) (size bytes : Nat) (ht : P.underlying t = some (.slice e)) (hi : P.info? e = some i) (hz : i.zero = some z)
    (hsize : i.size = size) (hby : i.bytes = bytes) (hzs : z.cells.size = size) (hsz : 0 < size)
    (v : Value) (n : Nat) (xs : List Value) (hs : a.eval s = v) (hown : w.ownsRow base e size v n xs)
    (B : Nat) (A : Option Addr) (m c : Nat) (news : List Value) (hx : a.eval x = .slice A m c) (hr : Reads w B size A m news) (h1 : ∀ u ∈ news, u.oneCell' = true)
    (h63 : n + m ≤ maxLen) (hbytes : (n + m) * bytes ≤ 140737488355328) (hbase : base ≤ w.heap.size)
    (h : ∀ v' w', w'.ownsRow base e size v' (n + m) (xs ++ news) → w.grownBy w' v.ownBlock → (v'.ownBlock = v.ownBlock ∨ v'.ownBlock = some w.heap.size) → wpList P ops Q rest (a.put o.dst v') w') : wpList P ops Q (o :: rest) a w :=
  wpList_plain hgd fun _ hK => wp_append_any w s x t ho base e i z size bytes ht hi hz hsize hby hzs hsz v n xs hs hown B A m c news hx hr h1 h63 hbytes hbase fun v' w' h2 h3 h4 => hK _ _ (h v' w' h2 h3 h4)

theorem step_append_any {ops : Array Oper} {o : Oper} {a : Act} {K : Act → World → Prop} {Q : Exit → Act → World → Prop} {E : Prop} (hgd : o.guard = none) (s x : Operand) (t : TypeId)
    (ho : o.op = .call { callee := .builtin .append, args := #[s, x], argTypes := #[t, t] })
    (base : Nat) (e : TypeId) (i : TypeInfo) (z : Value) (size bytes : Nat) (ht : P.underlying t = some (.slice e)) (hi : P.info? e = some i) (hz : i.zero = some z)
    (hsize : i.size = size) (hby : i.bytes = bytes) (hzs : z.cells.size = size) (hsz : 0 < size)
    (v : Value) (n : Nat) (xs : List Value) (hs : a.eval s = v) (hown : w.ownsRow base e size v n xs)
    (B : Nat) (A : Option Addr) (m c : Nat) (news : List Value) (hx : a.eval x = .slice A m c) (hr : Reads w B size A m news) (h1 : ∀ u ∈ news, u.oneCell' = true)
    (h63 : n + m ≤ maxLen) (hbytes : (n + m) * bytes ≤ 140737488355328) (hbase : base ≤ w.heap.size)
    (h : ∀ v' w', w'.ownsRow base e size v' (n + m) (xs ++ news) → w.grownBy w' v.ownBlock → (v'.ownBlock = v.ownBlock ∨ v'.ownBlock = some w.heap.size) → K (a.put o.dst v') w') :
    if Region.wanted o (yielded ops a.tmps) = true then Oper.wp P o a w K Q else E := by
  have hw : Region.wanted o (yielded ops a.tmps) = true := by simp [Region.wanted, hgd]
  rw [if_pos hw]
  exact wp_append_any w s x t ho base e i z size bytes ht hi hz hsize hby hzs hsz v n xs hs hown B A m c news hx hr h1 h63 hbytes hbase h
end

end Go.Proofs.Ytnglejopbpnknaa
namespace Go.Proofs.Ytnglejopbpnknaa
open Go.RowKit

theorem isnan_s (x : ByteArray) (w : World) : Calls Try.prog 56 #[.string x] w fun e w' => e = .returned (.bool false) ∧ w = w' := by
  go_enter Try.func56, Try.ntmps56
  go_wp2
  go_ret
  exact ⟨by simp, rfl⟩

theorem bytesLess_self (l : List UInt8) : Op.bytesLess l l = false := by
  induction l with
  | nil => rfl
  | cons a l ih => simp [Op.bytesLess, ih]

set_option maxHeartbeats 400000 in
theorem cmps_eq (x : ByteArray) (w : World) : Calls Try.prog 45 #[.string x, .string x] w fun e w' => e = .returned (.int .i64 0) ∧ w = w' := by
  have hb := bytesLess_self x.toList
  go_enter Try.func45, Try.ntmps45
  go_wp2_with (go_at_call 56; refine (isnan_s x _).mono ?_; rintro e w' ⟨rfl, rfl⟩)
  refine bodyPost_ret (results_tmp rfl _ _ _) rfl ?_
  exact ⟨rfl, rfl⟩

set_option maxHeartbeats 400000 in
theorem or_two (g : Nat) (w : World) (h0 : w.cell? ⟨g, 0, none⟩ = some (.int .i64 0)) (h1 : w.cell? ⟨g, 1, none⟩ = some (.int .i64 0)) :
    Calls Try.prog 44 #[.slice (some ⟨g, 0, none⟩) 2 2] w fun e w' => e = .returned (.int .i64 0) ∧ w = w' := by
  go_enter Try.func44, Try.ntmps44
  go_wp2_with fail
  go_rounds 3
  refine bodyPost_ret (results_tmp rfl _ _ _) rfl ?_
  exact ⟨rfl, rfl⟩

set_option maxHeartbeats 800000 in
/-- two labels that are alike -/
theorem lcl_eq (x y : ByteArray) (w : World) :
    Calls Try.prog 43 #[.agg #[.string x, .string y], .agg #[.string x, .string y]] w fun e w' => e = .returned (.int .i64 0) ∧ Below w.heap.size w w' := by
  go_enter Try.func43, Try.ntmps43
  go_wp2_with fail

  obtain ⟨w2, hw2⟩ : ∃ w2, (w.alloc (.cells #[.string x, .string y] 61)).alloc (.cells #[.string x, .string y] 61) = w2 := ⟨_, rfl⟩
  have b0 : Blk w2 w.heap.size 61 #[.string x, .string y] := by rw [← hw2]; exact (Blk.new w 61 _).alloc _
  have b1 : Blk w2 (w.heap.size + 1) 61 #[.string x, .string y] := by rw [← hw2]; have := Blk.new (w.alloc (.cells #[.string x, .string y] 61)) 61 #[.string x, .string y]; rwa [World.size_alloc] at this
  have hb : Below w.heap.size w w2 := by rw [← hw2]; exact ((Below.refl _ w).alloc (Nat.le_refl _) _).alloc (by simp) _
  have hs := hb.size
  rw [hw2]
  clear hw2
  have c0 : w2.cell? ⟨w.heap.size, 0, none⟩ = some (.string x) := b0.cell 0
  have c1 : w2.cell? ⟨w.heap.size, 1, none⟩ = some (.string y) := b0.cell 1
  have d0 : w2.cell? ⟨w.heap.size + 1, 0, none⟩ = some (.string x) := b1.cell 0
  have d1 : w2.cell? ⟨w.heap.size + 1, 1, none⟩ = some (.string y) := b1.cell 1
  have hl0 := b0.lt
  have hl1 := b1.lt
  have k0 : ∀ o, (w2.alloc o).cell? ⟨w.heap.size, 0, none⟩ = some (.string x) := fun o => (World.cell?_alloc_lt w2 o ⟨w.heap.size, 0, none⟩ hl0).trans c0
  have k1 : ∀ o, (w2.alloc o).cell? ⟨w.heap.size, 1, none⟩ = some (.string y) := fun o => (World.cell?_alloc_lt w2 o ⟨w.heap.size, 1, none⟩ hl0).trans c1
  have k2 : ∀ o, (w2.alloc o).cell? ⟨w.heap.size + 1, 0, none⟩ = some (.string x) := fun o => (World.cell?_alloc_lt w2 o ⟨w.heap.size + 1, 0, none⟩ hl1).trans d0
  have k3 : ∀ o, (w2.alloc o).cell? ⟨w.heap.size + 1, 1, none⟩ = some (.string y) := fun o => (World.cell?_alloc_lt w2 o ⟨w.heap.size + 1, 1, none⟩ hl1).trans d1
  have HB := Lib.hid hb
  clear b0 b1 hb
  go_region_held3 (fun w' => w'.cell? ⟨w.heap.size, 0, none⟩ = some (.string x) ∧ w'.cell? ⟨w.heap.size, 1, none⟩ = some (.string y) ∧ w'.cell? ⟨w.heap.size + 1, 0, none⟩ = some (.string x) ∧ w'.cell? ⟨w.heap.size + 1, 1, none⟩ = some (.string y))
    (first | exact ⟨c0, c1, d0, d1⟩ | exact ⟨k0 _, k1 _, k2 _, k3 _⟩)
    (first
      | (go_at_call 45; refine (cmps_eq _ _).mono ?_; rintro e w' ⟨rfl, rfl⟩)
      | (go_at_call 44; refine (or_two w2.heap.size _ (by exact (Blk.new w2 3 #[.int .i64 0, .int .i64 0]).cell 0) (by exact (Blk.new w2 3 #[.int .i64 0, .int .i64 0]).cell 1)).mono ?_; rintro e w' ⟨rfl, rfl⟩))
  go_wp2
  go_ret
  exact ⟨rfl, (HB.out.alloc hs _).drew⟩

/-- a row of one label -/
def LblAt (w : World) (g : Nat) (x y : ByteArray) : Prop := w.cell? ⟨g, 0, none⟩ = some (.string x) ∧ w.cell? ⟨g, 1, none⟩ = some (.string y) ∧ g < w.heap.size
theorem LblAt.below {w w' : World} {g : Nat} {x y : ByteArray} (h : LblAt w g x y) {B : Nat} (hb : Below B w w') (hg : g < B) : LblAt w' g x y :=
  ⟨(hb.cell (p := ⟨g, 0, none⟩) hg).trans h.1, (hb.cell (p := ⟨g, 1, none⟩) hg).trans h.2.1, Nat.lt_of_lt_of_le h.2.2 hb.size⟩

set_option maxHeartbeats 800000 in
theorem cmpfunc_one (g1 g2 c1 c2 : Nat) (x y : ByteArray) (w : World) (h1 : LblAt w g1 x y) (h2 : LblAt w g2 x y) :
    Calls Try.prog 42 #[.slice (some ⟨g1, 0, none⟩) 1 c1, .slice (some ⟨g2, 0, none⟩) 1 c2, .func (.func 43) #[] #[]] w fun e w' => e = .returned (.int .i64 0) ∧ Below w.heap.size w w' := by
  obtain ⟨a0, a1, a2⟩ := h1
  have H2 := Lib.hid h2
  obtain ⟨b0, b1, b2⟩ := h2
  go_enter Try.func42, Try.ntmps42
  go_wp2_with fail
  refine wp_loop_rounds 2 ?_
  rw [rounds_succ]
  go_wp2_with fail
  refine (lcl_eq x y _).mono ?_
  rintro e w' ⟨rfl, hb⟩
  have HB := Lib.hid ((((Below.refl w.heap.size w).alloc (Nat.le_refl _) (.cells #[.string x, .string y] 61)).alloc (by simp) (.cells #[.string x, .string y] 61)).trans (hb.mono (by simp; omega)))
  clear hb
  go_wp2_with fail
  rw [rounds_succ]
  go_wp2
  refine bodyPost_ret (results_tmp rfl _ _ _) rfl ?_
  exact ⟨rfl, HB.out⟩
theorem lcompare_one (g1 g2 c1 c2 : Nat) (x y : ByteArray) (w : World) (h1 : LblAt w g1 x y) (h2 : LblAt w g2 x y) :
    Calls Try.prog 25 #[.slice (some ⟨g1, 0, none⟩) 1 c1, .slice (some ⟨g2, 0, none⟩) 1 c2] w fun e w' => e = .returned (.int .i64 0) ∧ Below w.heap.size w w' := by
  have H1 := Lib.hid h1
  have H2 := Lib.hid h2
  clear h1 h2
  go_enter Try.func25, Try.ntmps25
  go_wp2_with fail
  refine (cmpfunc_one g1 g2 c1 c2 x y w H1.out H2.out).mono ?_
  rintro e w' ⟨rfl, hb⟩
  have HB := Lib.hid hb
  clear hb
  go_wp2
  go_ret
  exact ⟨rfl, HB.out⟩
/-- the closure that the merge sorts by: two series of one label each -/
theorem scmp_one (g1 g2 c1 c2 : Nat) (s1 s2 : Value) (x y : ByteArray) (w : World) (h1 : LblAt w g1 x y) (h2 : LblAt w g2 x y) :
    Calls Try.prog 24 #[.agg #[.slice (some ⟨g1, 0, none⟩) 1 c1, s1], .agg #[.slice (some ⟨g2, 0, none⟩) 1 c2, s2]] w fun e w' => e = .returned (.int .i64 0) ∧ Below w.heap.size w w' := by
  have H1 := Lib.hid h1
  have H2 := Lib.hid h2
  have l1 := h1.2.2
  have l2 := h2.2.2
  clear h1 h2
  go_enter Try.func24, Try.ntmps24
  go_wp2_with fail
  have hb0 := ((Below.refl w.heap.size w).alloc (Nat.le_refl _) (.cells #[.slice (some ⟨g1, 0, none⟩) 1 c1, s1] 34)).alloc (by simp) (.cells #[.slice (some ⟨g2, 0, none⟩) 1 c2, s2] 34)
  refine (lcompare_one g1 g2 c1 c2 x y _ (H1.out.below hb0 l1) (H2.out.below hb0 l2)).mono ?_
  rintro e w' ⟨rfl, hb⟩
  have HB := Lib.hid (hb0.trans (hb.mono (by simp; omega)))
  clear hb hb0
  go_wp2
  go_ret
  exact ⟨rfl, HB.out⟩
end Go.Proofs.Ytnglejopbpnknaa
namespace Go.Proofs.Ytnglejopbpnknaa
open Go.RowKit

theorem info61 : (Try.prog.info? 61).map (fun i => (i.zero, i.size, i.bytes)) = some (some (.agg #[.string ⟨#[]⟩, .string ⟨#[]⟩]), 2, 32) := by kernel_rfl
theorem info51 : (Try.prog.info? 51).map (fun i => (i.zero, i.size, i.bytes)) = some (some (.agg #[.int .i64 0, .float .f64 0]), 2, 16) := by kernel_rfl
theorem info34 : (Try.prog.info? 34).map (fun i => (i.zero, i.size, i.bytes)) = some (some (.agg #[.slice none 0 0, .slice none 0 0]), 2, 48) := by kernel_rfl

theorem own_slice {w : World} {base : Nat} {e : TypeId} {size : Nat} {v : Value} {n : Nat} {xs : List Value} (h : w.ownsRow base e size v n xs) : ∃ A c, v = .slice A n c := by
  rcases h.2 with ⟨rfl, h0⟩ | ⟨g, cap, cur, rfl, _⟩
  · exact ⟨none, 0, by rw [h0]⟩
  · exact ⟨_, _, rfl⟩

/-- what a copy is -/
def CopiedPost (w : World) (nL nS : Nat) (xL xS : List Value) (e : Ending) (w' : World) : Prop :=
  ∃ vL vS, e = .returned (.agg #[vL, vS]) ∧ w'.ownsRow (w.heap.size + 2) 61 2 vL nL xL ∧ w'.ownsRow (w.heap.size + 2) 51 2 vS nS xS ∧ Below w.heap.size w w'

set_option maxRecDepth 100000 in
set_option maxHeartbeats 1600000 in
theorem copied_any (AL AS : Option Addr) (nL cL nS cS : Nat) (xL xS : List Value) (w : World) (hL : Reads w w.heap.size 2 AL nL xL) (hS : Reads w w.heap.size 2 AS nS xS) (h1 : ∀ u ∈ xL, u.oneCell' = true) (h2 : ∀ u ∈ xS, u.oneCell' = true)
    (hnL : nL ≤ 100000) (hnS : nS ≤ 100000) :
    Calls Try.prog 22 #[.agg #[.slice AL nL cL, .slice AS nS cS]] w (CopiedPost w nL nS xL xS) := by
  obtain ⟨i0, hi, hz0, hz1, hz2⟩ := info_parts info61
  obtain ⟨j0, hj, hy0, hy1, hy2⟩ := info_parts info51
  have HI := Lib.hid hi
  have HZ0 := Lib.hid hz0
  have HZ1 := Lib.hid hz1
  have HZ2 := Lib.hid hz2
  have HJ := Lib.hid hj
  have HY0 := Lib.hid hy0
  have HY1 := Lib.hid hy1
  have HY2 := Lib.hid hy2
  have HL := Lib.hid hL
  have HS := Lib.hid hS
  have H1 := Lib.hid h1
  have H2 := Lib.hid h2
  clear hi hz0 hz1 hz2 hj hy0 hy1 hy2 hL hS h1 h2
  go_enter Try.func22, Try.ntmps22
  go_wp2_with fail
  obtain ⟨w2, hw2⟩ : ∃ w2, (w.alloc (.cells #[.slice AL nL cL, .slice AS nS cS] 34)).alloc (.cells #[.slice none 0 0, .slice none 0 0] 34) = w2 := ⟨_, rfl⟩
  have b0 : Blk w2 w.heap.size 34 #[.slice AL nL cL, .slice AS nS cS] := by rw [← hw2]; exact (Blk.new w 34 _).alloc _
  have b1 : Blk w2 (w.heap.size + 1) 34 #[.slice none 0 0, .slice none 0 0] := by rw [← hw2]; have := Blk.new (w.alloc (.cells #[.slice AL nL cL, .slice AS nS cS] 34)) 34 #[.slice none 0 0, .slice none 0 0]; rwa [World.size_alloc] at this
  have hb : Below w.heap.size w w2 := by rw [← hw2]; exact ((Below.refl _ w).alloc (Nat.le_refl _) _).alloc (by simp) _
  have hs : w2.heap.size = w.heap.size + 2 := by rw [← hw2]; simp
  rw [hw2]
  clear hw2
  have c0 : w2.cell? ⟨w.heap.size, 0, none⟩ = some (.slice AL nL cL) := b0.cell 0
  have c1 : w2.cell? ⟨w.heap.size, 1, none⟩ = some (.slice AS nS cS) := b0.cell 1
  have RL2 := HL.out.below hb
  have RS2 := HS.out.below hb
  have HB0 := Lib.hid b0
  have HB1 := Lib.hid b1
  have HB := Lib.hid hb
  clear b0 b1 hb
  go_region_held3 (fun w' => w'.cell? ⟨w.heap.size, 0, none⟩ = some (.slice AL nL cL) ∧ w'.cell? ⟨w.heap.size, 1, none⟩ = some (.slice AS nS cS))
    (first | exact ⟨c0, c1⟩ | exact ⟨d0, d1⟩ | exact ⟨e0, e1⟩ | go_keep | (constructor <;> simp [c0, c1, d0, d1, e0, e1]))
    (first
      | (refine step_append_any w2.drew (by rfl) (.const (.slice none 0 0)) (.tmp 4) 31 (by rfl) (w.heap.size + 2) 61 i0 (.agg #[.string ⟨#[]⟩, .string ⟨#[]⟩]) 2 32 Try.underlying31 HI.out HZ0.out HZ1.out HZ2.out rfl (by omega) (.slice none 0 0) 0 [] (by rfl) (World.ownsRow_nil w2.drew (w.heap.size + 2) 61 2) w.heap.size AL nL cL xL (by rfl) RL2.drew H1.out (by simp [maxLen]; omega) (by omega) (by show w.heap.size + 2 ≤ w2.heap.size; omega) ?_; intro vL w3 hownL hgrowL _; rw [Nat.zero_add, List.nil_append] at hownL; obtain ⟨BL, dL, hvL⟩ := own_slice hownL; subst hvL; have d0 := (World.cell?_of_block (hgrowL.block w.heap.size (by show w.heap.size < w2.heap.size; omega) (by simp [Value.ownBlock]))).trans c0; have d1 := (World.cell?_of_block (hgrowL.block w.heap.size (by show w.heap.size < w2.heap.size; omega) (by simp [Value.ownBlock]))).trans c1; have B13 := HB1.out.drew.grown hgrowL (by simp [Value.ownBlock]); have RS3 := RS2.drew.grown hgrowL (by show w.heap.size ≤ w2.heap.size; omega) (fun g hg => by simp [Value.ownBlock] at hg); have hs3 := hgrowL.size; have HOL := Lib.hid hownL; have HGL := Lib.hid hgrowL; clear hownL hgrowL)
      | (refine step_append_any w3 (by rfl) (.const (.slice none 0 0)) (.tmp 7) 32 (by rfl) (w.heap.size + 2) 51 j0 (.agg #[.int .i64 0, .float .f64 0]) 2 16 Try.underlying32 HJ.out HY0.out HY1.out HY2.out rfl (by omega) (.slice none 0 0) 0 [] (by rfl) (World.ownsRow_nil w3 (w.heap.size + 2) 51 2) w.heap.size AS nS cS xS (by rfl) RS3 H2.out (by simp [maxLen]; omega) (by omega) (by have : w2.heap.size ≤ w3.heap.size := hs3; omega) ?_; intro vS w4 hownS hgrowS _; rw [Nat.zero_add, List.nil_append] at hownS; obtain ⟨BS, dS, hvS⟩ := own_slice hownS; subst hvS; have e0 := (World.cell?_of_block (hgrowS.block w.heap.size (by have : w2.heap.size ≤ w3.heap.size := hs3; omega) (by simp [Value.ownBlock]))).trans d0; have e1 := (World.cell?_of_block (hgrowS.block w.heap.size (by have : w2.heap.size ≤ w3.heap.size := hs3; omega) (by simp [Value.ownBlock]))).trans d1; have B14 := B13.grown hgrowS (by simp [Value.ownBlock]); have s0 : w4.cell? ⟨w.heap.size + 1, 0, none⟩ = some (.slice none 0 0) := B14.cell 0; have s1 : w4.cell? ⟨w.heap.size + 1, 1, none⟩ = some (.slice none 0 0) := B14.cell 1; have z0 := B14.frozen 0; have z1 := B14.frozen 1; have HOS := Lib.hid hownS; have HGS := Lib.hid hgrowS; clear hownS hgrowS)
      | (refine step_append_any w2.drew (by rfl) (.const (.slice none 0 0)) (.tmp 7) 32 (by rfl) (w.heap.size + 2) 51 j0 (.agg #[.int .i64 0, .float .f64 0]) 2 16 Try.underlying32 HJ.out HY0.out HY1.out HY2.out rfl (by omega) (.slice none 0 0) 0 [] (by rfl) (World.ownsRow_nil w2.drew (w.heap.size + 2) 51 2) w.heap.size AS nS cS xS (by rfl) RS2.drew H2.out (by simp [maxLen]; omega) (by omega) (by show w.heap.size + 2 ≤ w2.heap.size; omega) ?_; intro vS w3 hownS hgrowS _; rw [Nat.zero_add, List.nil_append] at hownS; obtain ⟨BS, dS, hvS⟩ := own_slice hownS; subst hvS; have d0 := (World.cell?_of_block (hgrowS.block w.heap.size (by show w.heap.size < w2.heap.size; omega) (by simp [Value.ownBlock]))).trans c0; have d1 := (World.cell?_of_block (hgrowS.block w.heap.size (by show w.heap.size < w2.heap.size; omega) (by simp [Value.ownBlock]))).trans c1; have B13 := HB1.out.drew.grown hgrowS (by simp [Value.ownBlock]); have RL3 := RL2.drew.grown hgrowS (by show w.heap.size ≤ w2.heap.size; omega) (fun g hg => by simp [Value.ownBlock] at hg); have hs3 := hgrowS.size; have HOS := Lib.hid hownS; have HGS := Lib.hid hgrowS; clear hownS hgrowS)
      | (refine step_append_any w3 (by rfl) (.const (.slice none 0 0)) (.tmp 4) 31 (by rfl) (w.heap.size + 2) 61 i0 (.agg #[.string ⟨#[]⟩, .string ⟨#[]⟩]) 2 32 Try.underlying31 HI.out HZ0.out HZ1.out HZ2.out rfl (by omega) (.slice none 0 0) 0 [] (by rfl) (World.ownsRow_nil w3 (w.heap.size + 2) 61 2) w.heap.size AL nL cL xL (by rfl) RL3 H1.out (by simp [maxLen]; omega) (by omega) (by have : w2.heap.size ≤ w3.heap.size := hs3; omega) ?_; intro vL w4 hownL hgrowL _; rw [Nat.zero_add, List.nil_append] at hownL; obtain ⟨BL, dL, hvL⟩ := own_slice hownL; subst hvL; have e0 := (World.cell?_of_block (hgrowL.block w.heap.size (by have : w2.heap.size ≤ w3.heap.size := hs3; omega) (by simp [Value.ownBlock]))).trans d0; have e1 := (World.cell?_of_block (hgrowL.block w.heap.size (by have : w2.heap.size ≤ w3.heap.size := hs3; omega) (by simp [Value.ownBlock]))).trans d1; have B14 := B13.grown hgrowL (by simp [Value.ownBlock]); have s0 : w4.cell? ⟨w.heap.size + 1, 0, none⟩ = some (.slice none 0 0) := B14.cell 0; have s1 : w4.cell? ⟨w.heap.size + 1, 1, none⟩ = some (.slice none 0 0) := B14.cell 1; have z0 := B14.frozen 0; have z1 := B14.frozen 1; have HOL := Lib.hid hownL; have HGL := Lib.hid hgrowL; clear hownL hgrowL))
  obtain ⟨w5, hw5⟩ : ∃ w5, (w4.setCell ⟨w.heap.size + 1, 0, none⟩ (.slice BL nL dL)).setCell ⟨w.heap.size + 1, 1, none⟩ (.slice BS nS dS) = w5 := ⟨_, rfl⟩
  have b15 : Blk w5 (w.heap.size + 1) 34 #[.slice BL nL dL, .slice BS nS dS] := by rw [← hw5]; exact (B14.set_ 0 _).set_ 1 _
  have y0 : w5.cell? ⟨w.heap.size + 1, 0, none⟩ = some (.slice BL nL dL) := b15.cell 0
  have y1 : w5.cell? ⟨w.heap.size + 1, 1, none⟩ = some (.slice BS nS dS) := b15.cell 1
  have ho1 : w5.ownsRow (w.heap.size + 2) 61 2 (.slice BL nL dL) nL xL := by
    rw [← hw5]
    exact ownsRow_setCell_below (ownsRow_setCell_below (HOL.out.kept (show w3.grownBy w4 none from HGS.out) (by cases (Value.slice BL nL dL).ownBlock <;> simp)) (by simp) _) (by simp) _
  have ho2 : w5.ownsRow (w.heap.size + 2) 51 2 (.slice BS nS dS) nS xS := by
    rw [← hw5]
    exact ownsRow_setCell_below (ownsRow_setCell_below HOS.out (by simp) _) (by simp) _
  have hb5 : Below w.heap.size w w5 := by
    rw [← hw5]
    have g3 := HB.out.drew.grown HGL.out (by show w.heap.size ≤ w2.heap.size; omega) (fun k hk => by simp [Value.ownBlock] at hk)
    have g4 := g3.grown HGS.out g3.size (fun k hk => by simp [Value.ownBlock] at hk)
    exact (g4.setCell (p := ⟨w.heap.size + 1, 0, none⟩) (by simp) _).setCell (p := ⟨w.heap.size + 1, 1, none⟩) (by simp) _
  rw [hw5]
  clear hw5 B13 B14 s0 s1 z0 z1 c0 c1 d0 d1 e0 e1 HOL HOS HGL HGS
  have H3 := Lib.hid ho1
  have H4 := Lib.hid ho2
  have H5 := Lib.hid hb5
  clear ho1 ho2 hb5
  go_wp2
  refine bodyPost_ret (v := .agg #[.slice BL nL dL, .slice BS nS dS]) (by simp [results, go_sem, y0, y1]) rfl ?_
  exact ⟨_, _, rfl, H3.out, H4.out, H5.out⟩
end Go.Proofs.Ytnglejopbpnknaa
namespace Go.Proofs.Ytnglejopbpnknaa
open Go.RowKit

/-- block g holds two series: labels at l0, l1; samples s0, s1 -/
structure TwoS (w : World) (g l0 k0 l1 k1 : Nat) (s0 s1 : Value) (x y : ByteArray) : Prop where
  a0 : w.cell? ⟨g, 0, none⟩ = some (.slice (some ⟨l0, 0, none⟩) 1 k0)
  a1 : w.cell? ⟨g, 1, none⟩ = some s0
  a2 : w.cell? ⟨g, 2, none⟩ = some (.slice (some ⟨l1, 0, none⟩) 1 k1)
  a3 : w.cell? ⟨g, 3, none⟩ = some s1
  lt : g < w.heap.size
  b0 : LblAt w l0 x y
  b1 : LblAt w l1 x y

theorem TwoS.below {w w' : World} {g l0 k0 l1 k1 : Nat} {s0 s1 : Value} {x y : ByteArray} (h : TwoS w g l0 k0 l1 k1 s0 s1 x y) (hb : Below w.heap.size w w') : TwoS w' g l0 k0 l1 k1 s0 s1 x y :=
  ⟨(hb.cell (p := ⟨g, 0, none⟩) h.lt).trans h.a0, (hb.cell (p := ⟨g, 1, none⟩) h.lt).trans h.a1, (hb.cell (p := ⟨g, 2, none⟩) h.lt).trans h.a2, (hb.cell (p := ⟨g, 3, none⟩) h.lt).trans h.a3,
    Nat.lt_of_lt_of_le h.lt hb.size, h.b0.below hb h.b0.2.2, h.b1.below hb h.b1.2.2⟩

set_option maxRecDepth 100000 in
set_option maxHeartbeats 1600000 in
theorem ins_two (g c l0 k0 l1 k1 : Nat) (s0 s1 : Value) (x y : ByteArray) (w : World) (h : TwoS w g l0 k0 l1 k1 s0 s1 x y) :
    Calls Try.prog 54 #[.slice (some ⟨g, 0, none⟩) 2 c, .int .i64 0, .int .i64 2, .func (.func 24) #[] #[]] w fun e w' => e = .returned (.tuple #[]) ∧ Below w.heap.size w w' := by
  have H := Lib.hid h
  obtain ⟨a0, a1, a2, a3, hlt, -, -⟩ := h
  have hw1 : IntKind.i64.wrap 0 = 0 := by rfl
  have hw2 : Int.toNat 0 = 0 := rfl
  go_enter Try.func54, Try.ntmps54
  go_wp2_with fail
  refine wp_loop_rounds 3 ?_
  rw [rounds_succ]
  go_wp2_with fail
  refine wp_loop_rounds 2 ?_
  rw [rounds_succ]
  go_wp2_with fail
  go_region_held3 (fun w' => w'.cell? ⟨g, 0, none⟩ = some (.slice (some ⟨l0, 0, none⟩) 1 k0) ∧ w'.cell? ⟨g, 1, none⟩ = some s0 ∧ w'.cell? ⟨g, 2, none⟩ = some (.slice (some ⟨l1, 0, none⟩) 1 k1) ∧ w'.cell? ⟨g, 3, none⟩ = some s1)
    (first | exact ⟨a0, a1, a2, a3⟩ | exact ⟨b0, b1, b2, b3⟩)
    (first | (go_at_call 24; refine (scmp_one l1 l0 k1 k0 s1 s0 x y w.drew (H.out.below ((Below.refl w.heap.size w).drew)).b1 (H.out.below ((Below.refl w.heap.size w).drew)).b0).mono ?_; rintro e w' ⟨rfl, hb⟩; have hb' : Below w.heap.size w w' := ((Below.refl w.heap.size w).drew).trans hb; have T2 := H.out.below hb'; have b0 := T2.a0; have b1 := T2.a1; have b2 := T2.a2; have b3 := T2.a3; have HB := Lib.hid hb'; clear hb hb' T2))
  all_goals
    go_wp2_with fail
    rw [rounds_succ]
    go_wp2
    go_end0
    exact ⟨rfl, HB.out⟩

set_option maxHeartbeats 800000 in
theorem stable_two (g c l0 k0 l1 k1 : Nat) (s0 s1 : Value) (x y : ByteArray) (w : World) (h : TwoS w g l0 k0 l1 k1 s0 s1 x y) :
    Calls Try.prog 41 #[.slice (some ⟨g, 0, none⟩) 2 c, .int .i64 2, .func (.func 24) #[] #[]] w fun e w' => e = .returned (.tuple #[]) ∧ Below w.heap.size w w' := by
  have HI := Lib.hid (ins_two g c l0 k0 l1 k1 s0 s1 x y w h)
  clear h
  go_enter Try.func41, Try.ntmps41
  go_wp2_with fail
  refine wp_loop_rounds 1 ?_
  rw [rounds_succ]
  go_wp2_with fail
  refine HI.out.mono ?_
  rintro e w' ⟨rfl, hb⟩
  have HB := Lib.hid hb
  clear hb HI
  go_wp2_with fail
  refine wp_loop_rounds 1 ?_
  rw [rounds_succ]
  go_wp2
  go_end0
  exact ⟨rfl, HB.out⟩
theorem sort_two (g c l0 k0 l1 k1 : Nat) (s0 s1 : Value) (x y : ByteArray) (w : World) (h : TwoS w g l0 k0 l1 k1 s0 s1 x y) :
    Calls Try.prog 23 #[.slice (some ⟨g, 0, none⟩) 2 c, .func (.func 24) #[] #[]] w fun e w' => e = .returned (.tuple #[]) ∧ Below w.heap.size w w' := by
  have HI := Lib.hid (stable_two g c l0 k0 l1 k1 s0 s1 x y w h)
  clear h
  go_enter Try.func23, Try.ntmps23
  go_wp2_with fail
  refine HI.out.mono ?_
  rintro e w' ⟨rfl, hb⟩
  have HB := Lib.hid hb
  clear hb HI
  go_wp2
  go_end0
  exact ⟨rfl, HB.out⟩
end Go.Proofs.Ytnglejopbpnknaa
namespace Go.Proofs.Ytnglejopbpnknaa
open Go.RowKit

theorem isnan_i (x : Int) (w : World) : Calls Try.prog 47 #[.int .i64 x] w fun e w' => e = .returned (.bool false) ∧ w = w' := by
  go_enter Try.func47, Try.ntmps47
  go_wp2
  go_ret
  exact ⟨by simp, rfl⟩
/-- two times that lie in order -/
theorem cmpi_geq (a b : Int) (w : World) (h : b ≤ a) : Calls Try.prog 29 #[.int .i64 a, .int .i64 b] w fun e w' => (∃ q : Int, e = .returned (.int .i64 q) ∧ 0 ≤ q ∧ q ≤ 1) ∧ w = w' := by
  rcases Int.lt_or_le b a with h1 | h1
  · go_enter Try.func29, Try.ntmps29
    go_wp2_with (first | (go_at_call 47; refine (isnan_i _ _).mono ?_; rintro e w' ⟨rfl, rfl⟩))
    refine bodyPost_ret (results_tmp rfl _ _ _) rfl ?_
    exact ⟨⟨1, rfl, by omega, by omega⟩, rfl⟩
  · obtain rfl : a = b := by omega
    go_enter Try.func29, Try.ntmps29
    go_wp2_with (first | (go_at_call 47; refine (isnan_i _ _).mono ?_; rintro e w' ⟨rfl, rfl⟩))
    refine bodyPost_ret (results_tmp rfl _ _ _) rfl ?_
    exact ⟨⟨0, rfl, by omega, by omega⟩, rfl⟩
/-- the closure that a series' samples are sorted by -/
theorem tcmp_geq (a b : Int) (va vb : Nat) (w : World) (h : b ≤ a) :
    Calls Try.prog 28 #[.agg #[.int .i64 a, .float .f64 va], .agg #[.int .i64 b, .float .f64 vb]] w fun e w' => (∃ q : Int, e = .returned (.int .i64 q) ∧ 0 ≤ q ∧ q ≤ 1) ∧ Below w.heap.size w w' := by
  go_enter Try.func28, Try.ntmps28
  go_wp2_with fail
  refine (cmpi_geq a b _ h).mono ?_
  rintro e w' ⟨⟨q, rfl, h0, h1⟩, rfl⟩
  go_wp2
  go_ret
  exact ⟨⟨q, rfl, h0, h1⟩, ((Below.refl w.heap.size w).alloc (Nat.le_refl _) _).alloc (by simp) _⟩

/-- block g holds three samples in order -/
structure ThreeT (w : World) (g : Nat) (t0 t1 t2 : Int) (v0 v1 v2 : Nat) : Prop where
  a0 : w.cell? ⟨g, 0, none⟩ = some (.int .i64 t0)
  a1 : w.cell? ⟨g, 1, none⟩ = some (.float .f64 v0)
  a2 : w.cell? ⟨g, 2, none⟩ = some (.int .i64 t1)
  a3 : w.cell? ⟨g, 3, none⟩ = some (.float .f64 v1)
  a4 : w.cell? ⟨g, 4, none⟩ = some (.int .i64 t2)
  a5 : w.cell? ⟨g, 5, none⟩ = some (.float .f64 v2)
  lt : g < w.heap.size
theorem ThreeT.below {w w' : World} {g : Nat} {t0 t1 t2 : Int} {v0 v1 v2 : Nat} (h : ThreeT w g t0 t1 t2 v0 v1 v2) (hb : Below w.heap.size w w') : ThreeT w' g t0 t1 t2 v0 v1 v2 :=
  ⟨(hb.cell (p := ⟨g, 0, none⟩) h.lt).trans h.a0, (hb.cell (p := ⟨g, 1, none⟩) h.lt).trans h.a1, (hb.cell (p := ⟨g, 2, none⟩) h.lt).trans h.a2, (hb.cell (p := ⟨g, 3, none⟩) h.lt).trans h.a3,
    (hb.cell (p := ⟨g, 4, none⟩) h.lt).trans h.a4, (hb.cell (p := ⟨g, 5, none⟩) h.lt).trans h.a5, Nat.lt_of_lt_of_le h.lt hb.size⟩

set_option maxRecDepth 100000 in
set_option maxHeartbeats 1600000 in
theorem ins_three (g c : Nat) (t0 t1 t2 : Int) (v0 v1 v2 : Nat) (w : World) (h : ThreeT w g t0 t1 t2 v0 v1 v2) (h01 : t0 ≤ t1) (h12 : t1 ≤ t2) :
    Calls Try.prog 57 #[.slice (some ⟨g, 0, none⟩) 3 c, .int .i64 0, .int .i64 3, .func (.func 28) #[] #[]] w fun e w' => e = .returned (.tuple #[]) ∧ Below w.heap.size w w' := by
  have H := Lib.hid h
  have H01 := Lib.hid h01
  have H12 := Lib.hid h12
  obtain ⟨a0, a1, a2, a3, a4, a5, hlt⟩ := h
  have hw1 : IntKind.i64.wrap 0 = 0 := by rfl
  have hw3 : IntKind.i64.wrap 1 = 1 := by rfl
  have hw2 : Int.toNat 0 = 0 := rfl
  clear h01 h12
  go_enter Try.func57, Try.ntmps57
  go_wp2_with fail
  refine wp_loop_rounds 4 ?_
  rw [rounds_succ]
  go_wp2_with fail
  refine wp_loop_rounds 2 ?_
  rw [rounds_succ]
  go_wp2_with fail
  go_region_held3 (fun w' => w'.cell? ⟨g, 0, none⟩ = some (.int .i64 t0) ∧ w'.cell? ⟨g, 1, none⟩ = some (.float .f64 v0) ∧ w'.cell? ⟨g, 2, none⟩ = some (.int .i64 t1) ∧ w'.cell? ⟨g, 3, none⟩ = some (.float .f64 v1))
    (first | exact ⟨a0, a1, a2, a3⟩ | exact ⟨b0, b1, b2, b3⟩)
    (first | (go_at_call 28; refine (tcmp_geq t1 t0 v1 v0 w.drew H01.out).mono ?_; rintro e w1 ⟨⟨q, rfl, hq0, hq1⟩, hb⟩; have hb' : Below w.heap.size w w1 := ((Below.refl w.heap.size w).drew).trans hb; have T2 := Lib.hid (H.out.below hb'); have b0 := T2.out.a0; have b1 := T2.out.a1; have b2 := T2.out.a2; have b3 := T2.out.a3; have HB := Lib.hid hb'; clear hb hb'))
  clear a0 a1 a2 a3 a4 a5 b0 b1
  go_wp2_with fail
  rw [rounds_succ]
  have b4 := T2.out.a4
  have b5 := T2.out.a5
  go_wp2_with fail
  refine wp_loop_rounds 2 ?_
  rw [rounds_succ]
  go_wp2_with fail
  go_region_held3 (fun w' => w'.cell? ⟨g, 2, none⟩ = some (.int .i64 t1) ∧ w'.cell? ⟨g, 3, none⟩ = some (.float .f64 v1) ∧ w'.cell? ⟨g, 4, none⟩ = some (.int .i64 t2) ∧ w'.cell? ⟨g, 5, none⟩ = some (.float .f64 v2))
    (first | exact ⟨b2, b3, b4, b5⟩ | exact ⟨d2, d3, d4, d5⟩)
    (first | (go_at_call 28; refine (tcmp_geq t2 t1 v2 v1 w1.drew H12.out).mono ?_; rintro e w2 ⟨⟨q2, rfl, hq2, hq3⟩, hb⟩; have hb' : Below w1.heap.size w1 w2 := ((Below.refl w1.heap.size w1).drew).trans hb; have T3 := Lib.hid (T2.out.below hb'); have d2 := T3.out.a2; have d3 := T3.out.a3; have d4 := T3.out.a4; have d5 := T3.out.a5; have HB2 := Lib.hid (HB.out.trans (hb'.mono HB.out.size)); clear hb hb'))
  clear b2 b3 b4 b5 d2 d3 d4 d5
  go_wp2_with fail
  rw [rounds_succ]
  go_wp2
  go_end0
  exact ⟨rfl, HB2.out⟩

set_option maxHeartbeats 800000 in
theorem stable_three (g c : Nat) (t0 t1 t2 : Int) (v0 v1 v2 : Nat) (w : World) (h : ThreeT w g t0 t1 t2 v0 v1 v2) (h01 : t0 ≤ t1) (h12 : t1 ≤ t2) :
    Calls Try.prog 46 #[.slice (some ⟨g, 0, none⟩) 3 c, .int .i64 3, .func (.func 28) #[] #[]] w fun e w' => e = .returned (.tuple #[]) ∧ Below w.heap.size w w' := by
  have HI := Lib.hid (ins_three g c t0 t1 t2 v0 v1 v2 w h h01 h12)
  clear h h01 h12
  go_enter Try.func46, Try.ntmps46
  go_wp2_with fail
  refine wp_loop_rounds 1 ?_
  rw [rounds_succ]
  go_wp2_with fail
  refine HI.out.mono ?_
  rintro e w' ⟨rfl, hb⟩
  have HB := Lib.hid hb
  clear hb HI
  go_wp2_with fail
  refine wp_loop_rounds 1 ?_
  rw [rounds_succ]
  go_wp2
  go_end0
  exact ⟨rfl, HB.out⟩
theorem sort_three (g c : Nat) (t0 t1 t2 : Int) (v0 v1 v2 : Nat) (w : World) (h : ThreeT w g t0 t1 t2 v0 v1 v2) (h01 : t0 ≤ t1) (h12 : t1 ≤ t2) :
    Calls Try.prog 27 #[.slice (some ⟨g, 0, none⟩) 3 c, .func (.func 28) #[] #[]] w fun e w' => e = .returned (.tuple #[]) ∧ Below w.heap.size w w' := by
  have HI := Lib.hid (stable_three g c t0 t1 t2 v0 v1 v2 w h h01 h12)
  clear h h01 h12
  go_enter Try.func27, Try.ntmps27
  go_wp2_with fail
  refine HI.out.mono ?_
  rintro e w' ⟨rfl, hb⟩
  have HB := Lib.hid hb
  clear hb HI
  go_wp2
  go_end0
  exact ⟨rfl, HB.out⟩
end Go.Proofs.Ytnglejopbpnknaa
namespace Go.Proofs.Ytnglejopbpnknaa
open Go.RowKit

theorem run_store_float0 (P : Program) (w : World) (a : Addr) (m : Mode) (k : FloatKind) (b : Nat) : (store a (.float k b) m).run P w = stored P w a (.float k b) m := run_store P w a _ m rfl
attribute [local go_sem] run_store_float0

theorem cell_far (w : World) (g i j : Nat) (v : Value) (h : i ≠ j) : (w.setCell ⟨g, i, none⟩ v).cell? ⟨g, j, none⟩ = w.cell? ⟨g, j, none⟩ := World.cell?_setCell_other w _ _ v (fun e => h (by injection e))
theorem cell_near (w : World) (g i : Nat) (u v : Value) (h : w.cell? ⟨g, i, none⟩ = some u) : (w.setCell ⟨g, i, none⟩ v).cell? ⟨g, i, none⟩ = some v := World.cell?_setCell_same' w _ v (by rw [h]; rfl)

/-- the closure that says whether two samples bear one time -/
theorem teq_any (a b : Int) (va vb : Nat) (w : World) :
    Calls Try.prog 31 #[.agg #[.int .i64 a, .float .f64 va], .agg #[.int .i64 b, .float .f64 vb]] w fun e w' => e = .returned (.bool (a == b)) ∧ Below w.heap.size w w' := by
  go_enter Try.func31, Try.ntmps31
  go_wp2
  go_ret
  exact ⟨rfl, ((Below.refl w.heap.size w).alloc (Nat.le_refl _) _).alloc (by simp) _⟩

set_option maxRecDepth 100000 in
set_option maxHeartbeats 3200000 in
theorem uniq_three (g c : Nat) (t0 t2 : Int) (v0 v1 v2 : Nat) (w : World) (h : ThreeT w g t0 t0 t2 v0 v1 v2) (hf : ∀ i, w.frozen? ⟨g, i, none⟩ = false) (h02 : t2 ≠ t0) (hc : 3 ≤ c) :
    Calls Try.prog 30 #[.slice (some ⟨g, 0, none⟩) 3 c, .func (.func 31) #[] #[]] w fun e w' => e = .returned (.slice (some ⟨g, 0, none⟩) 2 c) ∧
      (w'.cell? ⟨g, 0, none⟩ = some (.int .i64 t0) ∧ w'.cell? ⟨g, 1, none⟩ = some (.float .f64 v0) ∧ w'.cell? ⟨g, 2, none⟩ = some (.int .i64 t2) ∧ w'.cell? ⟨g, 3, none⟩ = some (.float .f64 v2)) ∧ w.grownBy w' (some g) := by
  have H := Lib.hid h
  have HF := Lib.hid hf
  have e02 : (t2 == t0) = false := by simp [h02]
  obtain ⟨a0, a1, a2, a3, a4, a5, hlt⟩ := h
  have hw1 : IntKind.i64.wrap 0 = 0 := by rfl
  have hw3 : IntKind.i64.wrap 1 = 1 := by rfl
  have hw2 : Int.toNat 0 = 0 := rfl
  have hci : (3 : Int) ≤ (c : Int) := by omega
  clear hf h02
  go_enter Try.func30, Try.ntmps30
  go_wp2_with fail
  refine wp_loop_rounds 3 ?_
  rw [rounds_succ]
  go_wp2_with fail
  go_region_held3 (fun w' => w'.cell? ⟨g, 0, none⟩ = some (.int .i64 t0) ∧ w'.cell? ⟨g, 1, none⟩ = some (.float .f64 v0) ∧ w'.cell? ⟨g, 2, none⟩ = some (.int .i64 t0) ∧ w'.cell? ⟨g, 3, none⟩ = some (.float .f64 v1))
    (first | exact ⟨a0, a1, a2, a3⟩ | exact ⟨b0, b1, b2, b3⟩)
    (first | (go_at_call 31; refine (teq_any t0 t0 v1 v0 w.drew).mono ?_; rintro e w1 ⟨rfl, hb⟩; have hb' : Below w.heap.size w w1 := ((Below.refl w.heap.size w).drew).trans hb; have T2 := Lib.hid (H.out.below hb'); have b0 := T2.out.a0; have b1 := T2.out.a1; have b2 := T2.out.a2; have b3 := T2.out.a3; have HB := Lib.hid hb'; have HF1 := Lib.hid (fun i => (hb'.frozen (p := ⟨g, i, none⟩) H.out.lt).trans (HF.out i)); clear hb hb'))
  clear a0 a1 a2 a3 a4 a5
  have b4 := T2.out.a4
  have b5 := T2.out.a5
  go_wp2_with fail
  refine wp_loop_rounds 2 ?_
  rw [rounds_succ]
  go_wp2_with fail
  go_region_held3 (fun w' => w'.cell? ⟨g, 2, none⟩ = some (.int .i64 t0) ∧ w'.cell? ⟨g, 3, none⟩ = some (.float .f64 v1) ∧ w'.cell? ⟨g, 4, none⟩ = some (.int .i64 t2) ∧ w'.cell? ⟨g, 5, none⟩ = some (.float .f64 v2))
    (first | exact ⟨b2, b3, b4, b5⟩ | exact ⟨d2, d3, d4, d5⟩)
    (first | (go_at_call 31; refine (teq_any t2 t0 v2 v1 w1.drew).mono ?_; rintro e w2 ⟨rfl, hb⟩; have hb' : Below w1.heap.size w1 w2 := ((Below.refl w1.heap.size w1).drew).trans hb; have T3 := Lib.hid (T2.out.below hb'); have d2 := T3.out.a2; have d3 := T3.out.a3; have d4 := T3.out.a4; have d5 := T3.out.a5; have HB2 := Lib.hid (HB.out.trans (hb'.mono HB.out.size)); have HF2 := Lib.hid (fun i => (hb'.frozen (p := ⟨g, i, none⟩) T2.out.lt).trans (HF1.out i)); clear hb hb'))
  clear b0 b1 b2 b3 b4 b5
  have f2 := HF2.out 2
  have f3 := HF2.out 3
  have f4 := HF2.out 4
  have f5 := HF2.out 5
  go_wp2_with fail
  obtain ⟨w3, hw3'⟩ : ∃ w3, (w2.setCell ⟨g, 2, none⟩ (.int .i64 t2)).setCell ⟨g, 3, none⟩ (.float .f64 v2) = w3 := ⟨_, rfl⟩
  have m0 : w3.cell? ⟨g, 0, none⟩ = some (.int .i64 t0) := by rw [← hw3', cell_far _ _ _ _ _ (by decide), cell_far _ _ _ _ _ (by decide)]; exact T3.out.a0
  have m1 : w3.cell? ⟨g, 1, none⟩ = some (.float .f64 v0) := by rw [← hw3', cell_far _ _ _ _ _ (by decide), cell_far _ _ _ _ _ (by decide)]; exact T3.out.a1
  have m2 : w3.cell? ⟨g, 2, none⟩ = some (.int .i64 t2) := by rw [← hw3', cell_far _ _ _ _ _ (by decide)]; exact cell_near _ _ _ _ _ T3.out.a2
  have m3 : w3.cell? ⟨g, 3, none⟩ = some (.float .f64 v2) := by rw [← hw3']; exact cell_near _ _ _ _ _ (show (w2.setCell ⟨g, 2, none⟩ (.int .i64 t2)).cell? ⟨g, 3, none⟩ = some (.float .f64 v1) by rw [cell_far _ _ _ _ _ (by decide)]; exact T3.out.a3)
  have m4 : w3.cell? ⟨g, 4, none⟩ = some (.int .i64 t2) := by rw [← hw3', cell_far _ _ _ _ _ (by decide), cell_far _ _ _ _ _ (by decide)]; exact T3.out.a4
  have m5 : w3.cell? ⟨g, 5, none⟩ = some (.float .f64 v2) := by rw [← hw3', cell_far _ _ _ _ _ (by decide), cell_far _ _ _ _ _ (by decide)]; exact T3.out.a5
  have n4 : w3.frozen? ⟨g, 4, none⟩ = false := by rw [← hw3']; simp [f4]
  have n5 : w3.frozen? ⟨g, 5, none⟩ = false := by rw [← hw3']; simp [f5]
  have hg3 : w.grownBy w3 (some g) := by
    rw [← hw3']
    exact only_setCell (only_setCell (only_of_below HB2.out _) (p := ⟨g, 2, none⟩) (.inl rfl) _) (p := ⟨g, 3, none⟩) (.inl rfl) _
  rw [hw3']
  have HG3 := Lib.hid hg3
  clear hw3' hg3 d2 d3 d4 d5 f2 f3 f4 f5 T3
  rw [rounds_succ]
  have hcl : ∀ ty, (Builtin.clear_ #[32] ty #[.slice (some ⟨g, 4, none⟩) 1 (c - 2)]).run Try.prog w3 = .ok (.tuple #[]) ((w3.setCell ⟨g, 4, none⟩ (.int .i64 0)).setCell ⟨g, 5, none⟩ (.float .f64 0)) := by
    intro ty
    simp [Builtin.clear_, run_underlying Try.underlying32, Try.zeroValue51, Builtin.zeroCells, storeCells, go_sem, m4, m5, n4, n5, Addr.add, cell_far]
  go_wp2_with fail
  refine bodyPost_ret (results_tmp rfl _ _ _) rfl ?_
  refine ⟨rfl, ⟨?_, ?_, ?_, ?_⟩, only_setCell (only_setCell HG3.out (p := ⟨g, 4, none⟩) (.inl rfl) _) (p := ⟨g, 5, none⟩) (.inl rfl) _⟩
  · rw [cell_far _ _ _ _ _ (by decide), cell_far _ _ _ _ _ (by decide)]; exact m0
  · rw [cell_far _ _ _ _ _ (by decide), cell_far _ _ _ _ _ (by decide)]; exact m1
  · rw [cell_far _ _ _ _ _ (by decide), cell_far _ _ _ _ _ (by decide)]; exact m2
  · rw [cell_far _ _ _ _ _ (by decide), cell_far _ _ _ _ _ (by decide)]; exact m3
end Go.Proofs.Ytnglejopbpnknaa
namespace Go.Proofs.Ytnglejopbpnknaa
open Go.RowKit
theorem step_call1 {P : Program} {w : World} {ops : Array Oper} {o : Oper} {a : Act} {K : Act → World → Prop} {Q : Exit → Act → World → Prop} {E : Prop} (hgd : o.guard = none) (f : FuncId) (x : Operand) (ts : Array TypeId)
    (ho : o.op = .call { callee := .value (.func f), args := #[x], argTypes := ts }) (ef : ∀ args w, (callFunc f args).run P w = .ok (.enter f args) w) (v : Value) (hx : a.eval x = v)
    (h : Calls P f #[v] w fun e w' => ∃ r, e = .returned r ∧ K (a.put o.dst r) w') : if Region.wanted o (yielded ops a.tmps) = true then Oper.wp P o a w K Q else E := by
  have hw : Region.wanted o (yielded ops a.tmps) = true := by simp [Region.wanted, hgd]
  rw [if_pos hw]
  unfold Oper.wp execOp
  have hf : a.eval (.func f) = .func (.func f) #[] #[] := rfl
  simp only [ho, resolve, invoke, Sem.run_bind, List.map_toArray, List.map_cons, List.map_nil, hx, hf]
  have e : (Deferred.ofValue (.func (.func f) #[] #[]) #[v]).run P w = .ok { target := .fn (.func f) #[], args := #[v] } w := by simp [Deferred.ofValue, go_sem]
  rw [e]
  simp only [Result.andThen_ok, Array.append_empty, ef, Oper.upon_enter]
  refine h.mono ?_
  rintro e w' ⟨r, rfl, hk⟩
  exact hk
end Go.Proofs.Ytnglejopbpnknaa
