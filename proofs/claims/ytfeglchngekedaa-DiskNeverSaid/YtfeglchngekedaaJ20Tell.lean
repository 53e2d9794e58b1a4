/- What both disks tell is alike; an empty pair; any call of operation. An argument that is a row of Ops, opened. The first theorem: the kit's extra-structs 1. The walk of the law DiskNever (function 5). -/
import Derived.Test.YtfeglchngekedaaJ19Oper
import Derived.Test.YtfeglchngekedaaJ08Wakes
import Derived.Test.YtfeglchngekedaaJ10Rset
namespace Go.Proofs.Ytfeglchngekedaa
open Go.RowKit Go.Shelf Go.Maps

def PS.oper (x : PS) (k : Int) (nm t2 : ByteArray) (bs : List UInt8) : PS :=
  if k = 0 then (x.create nm).2 else if k = 1 then (x.append nm (bs.take 200)).2 else if k = 2 then (x.sync nm).2 else if k = 3 then (x.rename nm t2).2 else if k = 4 then (x.remove nm).2 else x.syncDir.2
theorem oper_any (w : World) (M : Nat → Prop) (pb p r n : Nat) (x : PS) (k a b : Int) (nm t2 : ByteArray) (A : Option Addr) (nb cb : Nat) (bs : List UInt8) (vc : Value) (hk : 0 ≤ k ∧ k < 6) (h : Both w M p r n x) (hpa : PairAt w M pb p r) (hn : n ≤ 10000) (hnm : nm.size ≤ maxLen) (ht2 : t2.size ≤ maxLen)
    (hR : Reads w w.heap.size 1 A nb (bytesV bs)) (hout : 0 < nb → ∀ ad, A = some ad → ¬ M ad.block) (hcb : nb ≤ cb) (hnb : nb ≤ maxLen) :
    Calls Try.prog 24 #[.pointer (some ⟨pb, 0, none⟩), .agg #[.int .i64 k, .int .i64 a, .int .i64 b, .string nm, .string t2, .slice A nb cb, vc]] w (OpPost w M p r n (x.oper k nm t2 bs)) := by
  have hcase : k = 0 ∨ k = 1 ∨ k = 2 ∨ k = 3 ∨ k = 4 ∨ k = 5 := by omega
  rcases hcase with rfl | rfl | rfl | rfl | rfl | rfl
  · exact op_create w M pb p r n x a b nm t2 _ vc h hpa hn hnm
  · exact op_append w M pb p r n x a b nm t2 A nb cb bs vc h hpa hn hnm hR hout hcb hnb
  · exact op_sync w M pb p r n x a b nm t2 _ vc h hpa hn hnm
  · exact op_rename w M pb p r n x a b nm t2 _ vc h hpa hn hnm ht2
  · exact op_remove w M pb p r n x a b nm t2 _ vc h hpa hn hnm
  · exact op_syncdir w M pb p r n x a b nm t2 _ vc h hpa hn

theorem empty_rel (cap : Int) (mn ms : Nat) : Rel (fun _ => 0) (emptyS cap mn ms) (emptyR cap).pl where
  cap := rfl
  ops := rfl
  flts := rfl
  stop := .inl ⟨rfl, rfl⟩
  kept := fun _ => rfl
  rdir := RDir.nil
  pend := trivial
  dir := rfl
  file := fun f hf => by
    rcases hf with ⟨e, he, _⟩ | ⟨c, hc, _⟩
    · cases he
    · cases hc
  inj := fun a b ha _ _ => by
    rcases ha with ⟨e, he, _⟩ | ⟨c, hc, _⟩
    · cases he
    · cases hc
  rep := rfl
theorem empty_pb (cap : Int) : PB 0 (emptyR cap).pl where
  count := Nat.le_refl _
  fltsL := Nat.le_refl _
  flts0 := fun f hf => by cases hf
  stopB := ⟨Int.le_refl _, by show (-1 : Int) ≤ 9223372036854775807; decide⟩
  filesL := Nat.le_refl _
  dirL := Nat.le_refl _
  keptL := Nat.le_refl _
  pendL := Nat.le_refl _
  dirF := fun e he => by cases he
  keptF := fun e he => by cases he
  pendF := fun c hc => by cases hc
  bytesL := fun f hf => by cases hf
  dirN := fun e he => by cases he
  keptN := fun e he => by cases he
  pendN := fun c hc => by cases hc
theorem empty_pc (cap : Int) : PC (emptyR cap).pl := ⟨Nat.le_refl _, Nat.le_refl _⟩

/-! ### what is told -/
theorem read_same {φ : Nat → Nat} {s : DS} {x : PS} (h : Rel φ s x) (nm : ByteArray) : readS s nm = x.read nm := by
  unfold readS PS.read
  rw [h.names]
  cases hr : rightB nm with
  | false => rfl
  | true =>
    cases hd : dget x.dir nm.data.toList with
    | none => rfl
    | some f =>
      have := h.file f (h.liveDir (dget_mem hd))
      simp only [Option.map_some, if_true]
      rw [this]
theorem list_same {φ : Nat → Nat} {s : DS} {x : PS} (h : Rel φ s x) (ht : s.names.Pairwise fun a b => a.1 ≠ b.1) (pre : Nm) {ss : List Nm} (hs : ss.Perm (begN pre (s.names.map (·.1)))) : ss.mergeSort (fun x y => decide (x ≤ y)) = x.list pre := by
  unfold PS.list
  exact sort_perm (hs.trans ((keys_perm h.names h.rnow ht).filter _).symm)
theorem durable_same {φ : Nat → Nat} {s : DS} {x : PS} (h : Rel φ s x) (ht : s.safe.Pairwise fun a b => a.1 ≠ b.1) {ss : List Nm} (hs : ss.Perm (s.safe.map (·.1))) : ss.mergeSort (fun x y => decide (x ≤ y)) = x.durable := by
  unfold PS.durable
  exact sort_perm (hs.trans (dir_keys h.kept h.rdir ht).symm)
section
variable (w : World) (M : Nat → Prop) (p r n : Nat) (x : PS)
theorem tell_read (nm : ByteArray) (h : Both w M p r n x) (hn : n ≤ 10000) (hnm : nm.size ≤ maxLen) : Calls Try.prog 14 #[.pointer (some ⟨p, 0, none⟩), .string nm] w (RReadPost w (x.read nm)) := by
  obtain ⟨F, G, s, t, φ, hp, hrel, hpb, hpc, rfl⟩ := h
  obtain ⟨ho, hf⟩ := hrel.opsB hpb hn
  refine (read_any w F p s nm hp.d (Nat.le_trans hnm (by simp [maxLen])) hnm (by omega)).mono ?_
  rintro e w' ⟨v, rfl, h1, h2⟩
  rw [read_same hrel nm] at h1 ⊢
  exact ⟨v, rfl, h1, h2⟩
theorem tell_rread (nm : ByteArray) (h : Both w M p r n x) (hn : n ≤ 10000) (hnm : nm.size ≤ maxLen) : Calls Try.prog 62 #[.pointer (some ⟨r, 0, none⟩), .string nm] w (RReadPost w (x.read nm)) := by
  obtain ⟨F, G, s, t, φ, hp, hrel, hpb, hpc, rfl⟩ := h
  refine rread_any w G r t nm hp.r (Nat.le_trans hpb.dirL (by omega)) (fun e he => ?_) (fun y hy => ?_) (Nat.le_trans hnm (by simp [maxLen]))
  · have := hpb.dirF e he
    simpa [RS.pl] using this
  · have h1 : y.bs.length ≤ 1000 * n := (hpb.bytesL y.pl (List.mem_map_of_mem hy)).1
    omega
theorem tell_list (pre : ByteArray) (h : Both w M p r n x) (hn : n ≤ 10000) : Calls Try.prog 25 #[.pointer (some ⟨p, 0, none⟩), .string pre] w (NamesPost w (x.list pre.data.toList)) := by
  obtain ⟨F, G, s, t, φ, hp, hrel, hpb, hpc, rfl⟩ := h
  obtain ⟨ho, hf⟩ := hrel.opsB hpb hn
  refine (list_any w F p s pre hp.d (by omega)).mono ?_
  rintro e w' ⟨v, ss, rfl, h1, h2, h3⟩
  rw [list_same hrel hp.d.names.tidy pre.data.toList h1] at h2
  refine ⟨v, rfl, ?_, h3⟩
  have e1 : ss.length = (t.pl.list pre.data.toList).length := by rw [← list_same hrel hp.d.names.tidy pre.data.toList h1, List.length_mergeSort]
  rwa [e1] at h2
theorem tell_rlist (pre : ByteArray) (h : Both w M p r n x) (hn : n ≤ 10000) (hpre : pre.size ≤ maxLen) : Calls Try.prog 63 #[.pointer (some ⟨r, 0, none⟩), .string pre] w (NamesPost w (x.list pre.data.toList)) := by
  obtain ⟨F, G, s, t, φ, hp, hrel, hpb, hpc, rfl⟩ := h
  exact rlist_any w G r t pre hp.r (Nat.le_trans hpb.dirL (by omega)) hpre (fun e he => Nat.le_trans (hpb.dirN e he) (by simp [maxLen]))
theorem tell_durable (h : Both w M p r n x) (hn : n ≤ 10000) : Calls Try.prog 31 #[.pointer (some ⟨p, 0, none⟩)] w (NamesPost w x.durable) := by
  obtain ⟨F, G, s, t, φ, hp, hrel, hpb, hpc, rfl⟩ := h
  obtain ⟨ho, hf⟩ := hrel.opsB hpb hn
  refine (durable_any w F p s hp.d (by omega)).mono ?_
  rintro e w' ⟨v, ss, rfl, h1, h2, h3⟩
  rw [durable_same hrel hp.d.safe.tidy h1] at h2
  refine ⟨v, rfl, ?_, h3⟩
  have e1 : ss.length = t.pl.durable.length := by rw [← durable_same hrel hp.d.safe.tidy h1, List.length_mergeSort]
  rwa [e1] at h2
theorem tell_rdurable (h : Both w M p r n x) (hn : n ≤ 10000) : Calls Try.prog 64 #[.pointer (some ⟨r, 0, none⟩)] w (NamesPost w x.durable) := by
  obtain ⟨F, G, s, t, φ, hp, hrel, hpb, hpc, rfl⟩ := h
  exact rdurable_any w G r t hp.r (Nat.le_trans hpb.keptL (by omega)) (fun e he => Nat.le_trans (hpb.keptN e he) (by simp [maxLen]))
theorem tell_used (h : Both w M p r n x) (hn : n ≤ 10000) : Calls Try.prog 26 #[.pointer (some ⟨p, 0, none⟩)] w fun e w' => e = .returned (.int .i64 (x.used : Int)) ∧ Below w.heap.size w w' := by
  obtain ⟨F, G, s, t, φ, hp, hrel, hpb, hpc, rfl⟩ := h
  obtain ⟨ho, hf⟩ := hrel.opsB hpb hn
  refine (used_any w F p s hp.d (by omega)).mono ?_
  rintro e w' ⟨rfl, h1⟩
  exact ⟨by rw [used_same hrel hp.d.names.tidy], h1⟩
theorem tell_rused (h : Both w M p r n x) (hn : n ≤ 10000) : Calls Try.prog 45 #[.pointer (some ⟨r, 0, none⟩)] w fun e w' => e = .returned (.int .i64 (x.used : Int)) ∧ ∃ q, w' = w.drewN q := by
  obtain ⟨F, G, s, t, φ, hp, hrel, hpb, hpc, rfl⟩ := h
  refine rused_any w G r t hp.r (Nat.le_trans hpb.dirL (by omega)) (fun e he => ?_) (fun y hy => ?_)
  · have := hpb.dirF e he
    simpa [RS.pl] using this
  · have h1 : y.bs.length ≤ 1000 * n := (hpb.bytesL y.pl (List.mem_map_of_mem hy)).1
    omega
theorem tell_ops (h : Both w M p r n x) : Calls Try.prog 28 #[.pointer (some ⟨p, 0, none⟩)] w fun e w' => e = .returned (.int .i64 (x.count : Int)) ∧ w' = w := by
  obtain ⟨F, G, s, t, φ, hp, hrel, hpb, hpc, rfl⟩ := h
  refine (ops_any w F p s hp.d).mono ?_
  rintro e w' ⟨rfl, h1⟩
  exact ⟨by rw [hrel.ops], h1⟩
end
theorem Both.below {w w' : World} {M : Nat → Prop} {p r n : Nat} {x : PS} (h : Both w M p r n x) (hb : Below w.heap.size w w') : Both w' M p r n x := by
  obtain ⟨F, G, s, t, φ, hp, h1, h2, h3, h9⟩ := h
  exact ⟨F, G, s, t, φ, (hp.below hb).1, h1, h2, h3, h9⟩
theorem Both.new {w : World} {M : Nat → Prop} {p r n : Nat} {x : PS} (h : Both w M p r n x) : ∀ k, w.heap.size ≤ k → M k := by
  obtain ⟨F, G, s, t, φ, hp, -⟩ := h
  exact hp.new

/-! ### Stop and SetCapacity of the document's disk -/
theorem rstop_ref (w : World) (F : Nat → Prop) (r : Nat) (t : RS) (k : Int) (h : RefAt w F r t) : Calls Try.prog 22 #[.pointer (some ⟨r, 0, none⟩), .int .i64 k] w (RDone w F r { t.pl with stop := max k 0 }) := by
  refine (rstop_any w r _ k t.stop h.blk rfl).mono ?_
  rintro e w' ⟨rfl, rfl⟩
  refine ⟨rfl, { t with stop := max k 0 }, h.turn { t with stop := max k 0 } false false false (by simp [World.setCell]) (fun x _ hne _ _ _ => Below.heap_setCell _ _ _ _ hne) (h.blk.set_ 6 _) (.inl ⟨rfl, rfl, rfl⟩) (.inl ⟨rfl, rfl⟩) (.inl ⟨rfl, rfl⟩) (.inl ⟨rfl, rfl, rfl⟩) (.inl ⟨rfl, rfl, rfl⟩) h.capB, rfl, ?_⟩
  exact (Chg.refl F w).setCell (p := ⟨r, 6, none⟩) (.inl h.own) _
theorem rcap_ref (w : World) (F : Nat → Prop) (r : Nat) (t : RS) (k : Int) (hk : k ≤ 9223372036854775807) (h : RefAt w F r t) : Calls Try.prog 41 #[.pointer (some ⟨r, 0, none⟩), .int .i64 k] w (RDone w F r { t.pl with cap := max k 0 }) := by
  refine (rsetcap_any w r _ k t.cap h.blk rfl).mono ?_
  rintro e w' ⟨rfl, rfl⟩
  refine ⟨rfl, { t with cap := max k 0 }, h.turn { t with cap := max k 0 } false false false (by simp [World.setCell]) (fun x _ hne _ _ _ => Below.heap_setCell _ _ _ _ hne) (h.blk.set_ 0 _) (.inl ⟨rfl, rfl, rfl⟩) (.inl ⟨rfl, rfl⟩) (.inl ⟨rfl, rfl⟩) (.inl ⟨rfl, rfl, rfl⟩) (.inl ⟨rfl, rfl, rfl⟩) (by show 0 ≤ max k 0 ∧ max k 0 < _; omega), rfl, ?_⟩
  exact (Chg.refl F w).setCell (p := ⟨r, 0, none⟩) (.inl h.own) _
end Go.Proofs.Ytfeglchngekedaa
namespace Go.Proofs.Ytfeglchngekedaa
open Go.ChangeShapes Go.WideShapes Go.ChangeAt Go.RowKit Go.Deep

section
variable {H : Type} {enc : TypeId × Value → H} {P : Program} {w : World} {base : Nat} {spare : Nat → Bool} {held : Bool}
theorem open_slice_fields {t e : TypeId} {fs : Array Field} {fuel : Nat} {cs : List Value} {x : DataW H × List MemPlace} (ht : P.underlying t = some (.slice e)) (he : P.underlying e = some (.struct fs))
    (hone : oneCellFields P fs = true) (hC : P.cellsOf e = fs.size) (h : DataW.trod enc P w base spare held fuel t cs = some x) :
    (cs = [.slice none 0 0] ∧ x = (.nil, [])) ∨
    ∃ (a : Addr) (len cap m : Nat) (D : Nat → DataW H) (Pl : Nat → List MemPlace), cs = [.slice (some a) len cap] ∧ base ≤ a.block ∧ len ≤ cap ∧ cap ≤ maxLen ∧ m = (if spare a.block then cap else len) ∧
      x = (.slice ((List.range len).map D) ((List.range (m - len)).map fun j => D (len + j)), MemPlace.row a (m * fs.size) ++ (List.range m).flatMap Pl) ∧
      ∀ i, i < m → ∃ (ys : List (DataW H × List MemPlace)) (n : Nat), D i = .agg (ys.map (·.1)) ∧ Pl i = ys.flatMap (·.2) ∧ ys.length = fs.size ∧
        ∀ (j : Nat) (f : Field), fs[j]? = some f → ∃ (v : Value) (y : DataW H × List MemPlace), w.cell? (a.add (i * fs.size + j)) = some v ∧ ys[j]? = some y ∧ DataW.trod enc P w base spare held n f.type [v] = some y := by
  rcases open_slice ht h with h0 | ⟨a, len, cap, m, n, D, Pl, hcs, hb, hl, hm, hmm, hx, hi⟩
  · exact .inl h0
  · refine .inr ⟨a, len, cap, m, D, Pl, hcs, hb, hl, hm, hmm, by rw [hC] at hx; exact hx, fun i him => ?_⟩
    obtain ⟨cs', hc, ht'⟩ := hi i him
    rw [hC] at hc
    obtain ⟨ys, n', hn', hy, hlen, hyl, hf⟩ := DataW.trod_struct he ht'
    obtain ⟨_, hcl, hat⟩ := World.cells?_some hc
    simp only [Prod.mk.injEq] at hy
    refine ⟨ys, n', hy.1, hy.2, hyl, fun j f hj => ?_⟩
    obtain ⟨ho, hk⟩ := hone_of hone j f hj
    have hjl : j < fs.size := (Array.getElem?_eq_some_iff.1 hj).1
    have hcell := hat j hjl
    have hv : cs'[j]? = some (cs'[j]'(by omega)) := List.getElem?_eq_getElem (by omega)
    have h1 := hf j f hj
    rw [ho, hk] at h1
    have hone' : (cs'.drop j).take 1 = [cs'[j]'(by omega)] := by
      rw [List.drop_eq_getElem_cons (by omega)]
      rfl
    rw [hone'] at h1
    have hys : ys[j]? = some (ys[j]'(by omega)) := List.getElem?_eq_getElem (by omega)
    refine ⟨_, _, ?_, hys, h1.trans hys⟩
    rw [← Go.Deep.add_add, hcell, hv]
theorem one_int {t : TypeId} {k : IntKind} {fuel : Nat} {v : Value} {x : DataW H × List MemPlace} (ht : P.underlying t = some (.int k)) (h : DataW.trod enc P w base spare held fuel t [v] = some x) : ∃ n, v = .int k n ∧ (Lit.int k n).wf = true := by
  obtain ⟨n, hn, -, hw⟩ := DataW.trod_int ht h
  exact ⟨n, by injection hn, hw⟩
theorem one_string {t : TypeId} {fuel : Nat} {v : Value} {x : DataW H × List MemPlace} (ht : P.underlying t = some .string) (h : DataW.trod enc P w base spare held fuel t [v] = some x) : ∃ s : ByteArray, v = .string s ∧ s.size ≤ maxLen := by
  obtain ⟨n, hn, -, hw⟩ := DataW.trod_string ht h
  exact ⟨n, by injection hn, hw⟩
theorem one_ints {t e : TypeId} {k : IntKind} {fuel : Nat} {v : Value} {x : DataW H × List MemPlace} (ht : P.underlying t = some (.slice e)) (he : P.underlying e = some (.int k)) (hc1 : P.cellsOf e = 1) (h : DataW.trod enc P w base spare held fuel t [v] = some x) :
    ∃ (A : Option Addr) (n cap : Nat) (l : List Int), v = .slice A n cap ∧ n ≤ cap ∧ n ≤ maxLen ∧ Reads w w.heap.size 1 A n (l.map (Value.int k)) ∧ ∀ x ∈ l, (Lit.int k x).wf = true := by
  rcases open_ints ht he hc1 h with ⟨hcs, _⟩ | ⟨a', len', cap', zs, hcs, _, hl, hm, hz, _, hc, hwf⟩
  · injection hcs with hcs
    exact ⟨none, 0, 0, [], hcs, Nat.le_refl _, Nat.zero_le _, Reads.none_, (fun x hx => by cases hx)⟩
  · injection hcs with hcs
    have hlz : len' ≤ zs.length := by rw [hz]; split <;> omega
    refine ⟨some a', len', cap', zs.take len', hcs, hl, Nat.le_trans hl hm, ⟨by simp; omega, fun h0 => ⟨a', rfl, ?_, fun j u hu => ?_⟩⟩, fun x hx => hwf x (List.mem_of_mem_take hx)⟩
    · have := World.block_lt_of_cell? w _ (hc 0 (by omega))
      rwa [block_of_add] at this
    · rw [List.getElem?_map] at hu
      obtain ⟨x, hx, rfl⟩ := Option.map_eq_some_iff.1 hu
      have hj : j < len' := by have := (List.getElem?_eq_some_iff.1 hx).1; simp at this; omega
      rw [hc j (by omega), List.getD]
      rw [List.getElem?_take_of_lt hj] at hx
      rw [hx]
      rfl
end

/-- an Op, as it reads -/
structure OpD where
  k : Int
  a : Int
  b : Int
  nm : ByteArray
  t2 : ByteArray
  A : Option Addr
  nb : Nat
  cb : Nat
  bs : List UInt8
  A2 : Option Addr
  nc : Nat
  cc : Nat
  cs : List Int
structure OpAt (W : World) (d : Addr) (i : Nat) (o : OpD) : Prop where
  c0 : W.cell? (d.add (i * 7)) = some (.int .i64 o.k)
  c1 : W.cell? (d.add (i * 7 + 1)) = some (.int .i64 o.a)
  c2 : W.cell? (d.add (i * 7 + 2)) = some (.int .i64 o.b)
  c3 : W.cell? (d.add (i * 7 + 3)) = some (.string o.nm)
  c4 : W.cell? (d.add (i * 7 + 4)) = some (.string o.t2)
  c5 : W.cell? (d.add (i * 7 + 5)) = some (.slice o.A o.nb o.cb)
  c6 : W.cell? (d.add (i * 7 + 6)) = some (.slice o.A2 o.nc o.cc)
  k63 : -9223372036854775808 ≤ o.k ∧ o.k ≤ 9223372036854775807
  a63 : -9223372036854775808 ≤ o.a ∧ o.a ≤ 9223372036854775807
  b63 : -9223372036854775808 ≤ o.b ∧ o.b ≤ 9223372036854775807
  nmL : o.nm.size ≤ maxLen
  t2L : o.t2.size ≤ maxLen
  bR : Reads W W.heap.size 1 o.A o.nb (bytesV o.bs)
  bC : o.nb ≤ o.cb
  bL : o.nb ≤ maxLen
  cR : Reads W W.heap.size 1 o.A2 o.nc (o.cs.map (Value.int .i64))
  cC : o.nc ≤ o.cc
  cL : o.nc ≤ maxLen
def OpsAt (W : World) (A : Option Addr) (n : Nat) : Prop := ∀ i, i < n → ∃ d, A = some d ∧ d.block < W.heap.size ∧ ∃ o, OpAt W d i o
theorem wf63 {n : Int} (h : (Lit.int .i64 n).wf = true) : -9223372036854775808 ≤ n ∧ n ≤ 9223372036854775807 := by
  simp [Lit.wf] at h
  have h2 : IntKind.i64.min = -9223372036854775808 := rfl
  rw [h2] at h
  exact h
set_option maxRecDepth 100000 in
theorem open_ops {H : Type} {enc : TypeId × Value → H} {W : World} {base b0 : Nat} {sp : Nat → Bool} {held : Bool} {r : Reach} {v : Value} {d : DataW H} {ps : List MemPlace}
    (hv : Value.okWide Try.prog W r b0 39 v) (h : DataW.Trod enc Try.prog W base sp held 39 v d ps) : ∃ (A : Option Addr) (n cap : Nat), v = .slice A n cap ∧ n ≤ cap ∧ n ≤ maxLen ∧ OpsAt W A n := by
  obtain ⟨a, len, cap, rfl⟩ := okWide_slice Try.underlying39 hv
  obtain ⟨fuel, hf⟩ := h
  rcases open_slice_fields Try.underlying39 Try.underlying47 (by kernel_rfl) (by kernel_rfl) hf with ⟨hcs, -⟩ | ⟨a', len', cap', m, D, Pl, hcs, -, hl, hm, hmm, -, hi⟩
  · simp only [Value.cells, List.cons.injEq, and_true] at hcs
    cases hcs
    exact ⟨none, 0, 0, rfl, Nat.le_refl _, Nat.zero_le _, fun i hi => absurd hi (Nat.not_lt_zero _)⟩
  · simp only [Value.cells, List.cons.injEq, and_true] at hcs
    cases hcs
    have hml : len ≤ m := by rw [hmm]; split <;> omega
    refine ⟨some a', len, cap, rfl, hl, Nat.le_trans hl hm, fun i hil => ?_⟩
    obtain ⟨ys, n, -, -, -, hfld⟩ := hi i (by omega)
    obtain ⟨v0, y0, q0, -, t0⟩ := hfld 0 _ rfl
    obtain ⟨v1, y1, q1, -, t1⟩ := hfld 1 _ rfl
    obtain ⟨v2, y2, q2, -, t2⟩ := hfld 2 _ rfl
    obtain ⟨v3, y3, q3, -, t3⟩ := hfld 3 _ rfl
    obtain ⟨v4, y4, q4, -, t4⟩ := hfld 4 _ rfl
    obtain ⟨v5, y5, q5, -, t5⟩ := hfld 5 _ rfl
    obtain ⟨v6, y6, q6, -, t6⟩ := hfld 6 _ rfl
    obtain ⟨n0, rfl, w0⟩ := one_int Try.underlying3 t0
    obtain ⟨n1, rfl, w1⟩ := one_int Try.underlying3 t1
    obtain ⟨n2, rfl, w2⟩ := one_int Try.underlying3 t2
    obtain ⟨s3, rfl, l3⟩ := one_string Try.underlying9 t3
    obtain ⟨s4, rfl, l4⟩ := one_string Try.underlying9 t4
    obtain ⟨A5, n5, c5, x5, rfl, hc5, hm5, hR5, hw5⟩ := one_ints Try.underlying22 Try.underlying5 cells5 t5
    obtain ⟨A6, n6, c6, x6, rfl, hc6, hm6, hR6, hw6⟩ := one_ints Try.underlying23 Try.underlying3 cells3 t6
    obtain ⟨b5, e5, -⟩ := u8_list x5 hw5
    rw [e5] at hR5
    refine ⟨a', rfl, ?_, ⟨n0, n1, n2, s3, s4, A5, n5, c5, b5, A6, n6, c6, x6⟩, ⟨q0, q1, q2, q3, q4, q5, q6, wf63 w0, wf63 w1, wf63 w2, l3, l4, hR5, hc5, hm5, hR6, hc6, hm6⟩⟩
    have := World.block_lt_of_cell? W _ q0
    rwa [block_of_add] at this
end Go.Proofs.Ytfeglchngekedaa
namespace Go.Proofs.Ytfeglchngekedaa
open Go.RowKit Go.Shelf Go.Maps

/-! ### the stopped disk, plainly -/
def X1 (c : Int) : PS := { cap := c, files := [([], 0)], dir := [([97], 0)], kept := [], pend := [⟨1, [], [97], 0⟩], flts := [], stop := -1, count := 1 }
def X2 (c : Int) : PS := { cap := c, files := [([120, 121], 0)], dir := [([97], 0)], kept := [], pend := [⟨1, [], [97], 0⟩], flts := [], stop := -1, count := 2 }
def X3 (c : Int) : PS := { X2 c with stop := 0 }
theorem x_create (c : Int) : (emptyR c).pl.create ⟨#[97]⟩ = (0, X1 c) := by
  unfold PS.create
  rw [right_a]
  rfl
theorem x_append : (X1 1000).append ⟨#[97]⟩ [120, 121] = (0, X2 1000) := by
  unfold PS.append PS.fits
  rw [right_a]
  rfl
structure Dead (x : PS) : Prop where
  stop : x.stop = 0
  dir : x.dir = [([97], 0)]
  files : x.files = [([120, 121], 0)]
theorem Dead.begun {x : PS} (h : Dead x) : Dead x.begun := ⟨by show (if 0 < x.stop then x.stop - 1 else x.stop) = 0; rw [h.stop]; rfl, h.dir, h.files⟩
theorem Dead.oper {x : PS} (h : Dead x) (k : Int) (nm t2 : ByteArray) (bs : List UInt8) : Dead (x.oper k nm t2 bs) := by
  have hb : x.beginC = (7, 0) := by unfold PS.beginC; rw [if_pos h.stop]
  have h7 : ¬ ((7 : Int) = 0) := by decide
  unfold PS.oper PS.create PS.append PS.sync PS.rename PS.remove PS.syncDir
  rw [hb]
  simp only [h7, if_false]
  have h02 : ¬ ((0 : Int) = 2) := by decide
  simp only [h02, false_and, if_false]
  repeat (first | exact h.begun | split)
theorem Dead.read {x : PS} (h : Dead x) : x.read ⟨#[97]⟩ = ([120, 121], 0) := by
  unfold PS.read
  rw [right_a, h.dir, h.files]
  rfl
theorem Dead.list {x : PS} (h : Dead x) : (x.list []).length = 1 := by
  unfold PS.list
  rw [h.dir, List.length_mergeSort, begN_nil]
  rfl
theorem Dead.used {x : PS} (h : Dead x) : x.used = 2 := by
  unfold PS.used
  rw [h.dir, h.files]
  rfl

def NevR (w : World) (n pb p r : Nat) (i : Value) (wr : World) : Prop :=
  ∃ (k : Nat) (x : PS), k ≤ n ∧ k ≤ 200 ∧ i = .int .i64 k ∧ Both wr (fun k => w.heap.size ≤ k ∧ k ≠ pb) p r (k + 3) x ∧ Dead x ∧ PairAt wr (fun k => w.heap.size ≤ k ∧ k ≠ pb) pb p r ∧ Below w.heap.size w wr

set_option maxRecDepth 100000 in
set_option maxHeartbeats 25600000 in
theorem never_any (w : World) (A : Option Addr) (n c : Nat) (hO : OpsAt w A n) : Calls Try.prog 5 #[.slice A n c] w fun e w' => e = .returned (.bool true) ∧ Below w.heap.size w w' := by
  have HO := Lib.hid hO
  clear hO
  go_enter Try.func5, Try.ntmps5
  go_wp2_with fail
  refine (new_any 1000 w (by omega)).mono ?_
  rintro e w1 ⟨p, mn, ms, rfl, hD1, hb1⟩
  have HD1 := Lib.hid hD1
  have HB1 := Lib.hid hb1
  have hs1 := hb1.size
  clear hD1 hb1
  go_wp2_with fail
  refine (create_any w1 _ p _ ⟨#[97]⟩ HD1.out (by decide) (by decide) (by show (0 : Nat) ≤ _; omega) (Nat.zero_le _)).mono ?_
  rintro e w2 ⟨v, s2, rfl, hD2, hC2, hs⟩
  have hcr := create_sim (W := w1.heap.size) (empty_rel 1000 mn ms) (empty_pb 1000) (empty_pc 1000) (by show (0 : Nat) ≤ _; omega) ⟨#[97]⟩ v s2 (fun g hg => live_lt HD1.out hg) hs
  rw [x_create] at hcr
  have hce : createC (emptyS (max 1000 0) mn ms) ⟨#[97]⟩ = 0 := hcr.1
  have hal2 : Alike s2 0 (X1 1000) := hcr.2
  rw [hce]
  have HB2 := Lib.hid (hC2.toBelow (B := w.heap.size) (fun k hk => hk) HB1.out.size)
  have HD2 := Lib.hid hD2
  have HAL2 := Lib.hid hal2
  have hcv := Lib.run_convert_bytes_const (P := Try.prog) w2 22 5 #[.int .u8 120, .int .u8 121] 2 2 Try.underlying22 Try.underlying5
  clear hcr hce hs hD2 hC2 hal2
  go_wp2_with fail
  obtain ⟨w3, hw3⟩ : ∃ w3, w2.alloc (.cells #[.int .u8 120, .int .u8 121] 5 (2, 3)) = w3 := ⟨_, rfl⟩
  have hs3 : w3.heap.size = w2.heap.size + 1 := by rw [← hw3]; simp
  have hs2 := HB2.out.size
  have hD3 := HD2.out.restrict.keep (w' := w3) (fun k _ hk => by rw [← hw3]; exact Below.heap_alloc _ _ _ hk) (fun _ h => h)
  have hR3 : Reads w3 w3.heap.size 1 (some ⟨w2.heap.size, 0, none⟩) ([120, 121] : List UInt8).length (bytesV [120, 121]) := by
    refine ⟨rfl, fun _ => ⟨_, rfl, by show w2.heap.size < _; omega, fun j u hu => ?_⟩⟩
    have e : (⟨w2.heap.size, 0, none⟩ : Addr).add j = ⟨w2.heap.size, j, none⟩ := by unfold Addr.add; split <;> simp_all
    rw [e, ← hw3, World.cell?_alloc_mark, ← Array.getElem?_toList]
    exact hu
  have HB3 := Lib.hid (show Below w.heap.size w w3 by rw [← hw3]; exact (HB1.out.trans HB2.out).alloc (Nat.le_trans hs1 hs2) _)
  have HD3 := Lib.hid hD3
  have HR3 := Lib.hid hR3
  rw [hw3]
  clear hw3 hD3 hR3 hcv
  obtain ⟨⟨φ2, hrel2⟩, hpb2, hpc2⟩ := HAL2.out
  have hops2 : s2.ops = 1 := hrel2.ops
  have hfl2 : s2.flts = [] := hrel2.flts
  have HREL2 := Lib.hid hrel2
  have HPB2 := Lib.hid hpb2
  have HPC2 := Lib.hid hpc2
  have HOP2 := Lib.hid hops2
  have HFL2 := Lib.hid hfl2
  clear hrel2 hpb2 hpc2 hops2 hfl2
  refine (append_any w3 _ p s2 ⟨#[97]⟩ _ 2 [120, 121] HD3.out HR3.out (fun _ ad e => by injection e with e; rw [← e]; rintro ⟨_, h⟩; exact absurd h (Nat.lt_irrefl _)) (by decide) (by decide) (by decide) (by decide) (by rw [HOP2.out]; omega) (by rw [HFL2.out]; exact Nat.zero_le _)).mono ?_
  rintro e w4 ⟨v4, s4, rfl, hD4, hC4, hs⟩
  have hcr := append_sim HREL2.out HPB2.out HPC2.out (by rw [HOP2.out]; omega) HD3.out.names.tidy ⟨#[97]⟩ [120, 121] (by decide) v4 s4 hs
  rw [x_append] at hcr
  have hce : appendC s2 ⟨#[97]⟩ ([120, 121] : List UInt8).length = 0 := hcr.1
  obtain ⟨⟨φ4, hrel4⟩, hpb4, hpc4⟩ := hcr.2
  rw [hce]
  have hin4 : ∀ k, Gr (fun k => Gr (fun k => w.heap.size ≤ k) w1 k ∧ k < w2.heap.size) w3 k → w.heap.size ≤ k := fun k hk => by
    rcases hk with ⟨h | h, -⟩ | h <;> omega
  have HD4 := Lib.hid (hD4.inF hin4)
  have HB4 := Lib.hid (HB3.out.trans (hC4.toBelow (B := w.heap.size) (fun k hk => hin4 k (.inl hk)) (by omega)))
  have HREL4 := Lib.hid hrel4
  have HPB4 := Lib.hid hpb4
  have HPC4 := Lib.hid hpc4
  have hops4 : s4.ops = 2 := hrel4.ops
  have HOP4 := Lib.hid hops4
  have hs4 := hC4.size
  clear hcr hce hs hD4 hC4 hin4 hrel4 hpb4 hpc4 hops4
  go_wp2_with fail
  refine (stop_any w4 _ p s4 0 HD4.out (by rw [HOP4.out]; omega) (by omega)).mono ?_
  rintro e w5 ⟨rfl, hD5, hC5⟩
  have hrel5 := stopped_rel HREL4.out (by rw [HOP4.out]; omega) 0
  have hX3 : ({ X2 1000 with stop := max 0 0 } : PS) = X3 1000 := rfl
  rw [hX3] at hrel5
  have HREL5 := Lib.hid hrel5
  have hs5 := hC5.size
  have HD5 := Lib.hid hD5.restrict
  have HB5 := Lib.hid (HB4.out.trans (hC5.toBelow (B := w.heap.size) (fun k hk => hk) HB4.out.size))
  clear hD5 hC5 hrel5 hX3
  go_wp2_with fail
  refine (rnew_any w5 1000 (by omega)).mono ?_
  rintro e w6 ⟨r, rfl, hR6, hb6⟩
  have HR6 := Lib.hid hR6
  have HB6 := Lib.hid hb6
  have hs6 := hb6.size
  clear hR6 hb6
  go_wp2_with fail
  refine (rcreate_any w6 _ r _ 0 ⟨#[97]⟩ HR6.out (empty_pb 1000) (Nat.zero_le _) (by decide)).mono ?_
  rintro e w7 ⟨t7, rfl, hR7, hpl7, hC7⟩
  have hpl7' : t7.pl = X1 1000 := by rw [hpl7, show (emptyR (max 1000 0)) = emptyR 1000 from rfl, x_create]
  have HR7 := Lib.hid hR7
  have HPL7 := Lib.hid hpl7'
  have HC7 := Lib.hid hC7
  have hs7 := hC7.size
  have hcv7 := Lib.run_convert_bytes_const (P := Try.prog) w7 22 5 #[.int .u8 120, .int .u8 121] 2 2 Try.underlying22 Try.underlying5
  clear hR7 hpl7 hpl7' hC7
  go_wp2_with fail
  obtain ⟨w8, hw8⟩ : ∃ w8, w7.alloc (.cells #[.int .u8 120, .int .u8 121] 5 (2, 3)) = w8 := ⟨_, rfl⟩
  have hs8 : w8.heap.size = w7.heap.size + 1 := by rw [← hw8]; simp
  have hb8 : Below w7.heap.size w7 w8 := by rw [← hw8]; exact (Below.refl _ w7).alloc (Nat.le_refl _) _
  have hR8 : Reads w8 w8.heap.size 1 (some ⟨w7.heap.size, 0, none⟩) ([120, 121] : List UInt8).length (bytesV [120, 121]) := by
    refine ⟨rfl, fun _ => ⟨_, rfl, by show w7.heap.size < _; omega, fun j u hu => ?_⟩⟩
    have e : (⟨w7.heap.size, 0, none⟩ : Addr).add j = ⟨w7.heap.size, j, none⟩ := by unfold Addr.add; split <;> simp_all
    rw [e, ← hw8, World.cell?_alloc_mark, ← Array.getElem?_toList]
    exact hu
  have hT8 := HR7.out.restrict.below hb8 (Nat.le_refl _)
  rw [hw8]
  have HT8 := Lib.hid hT8
  have HR8 := Lib.hid hR8
  have HB8 := Lib.hid hb8
  clear hw8 hR8 hT8 hb8 hcv7
  refine (rappend_any w8 _ r t7 1 ⟨#[97]⟩ _ 2 [120, 121] HT8.out (by rw [HPL7.out]; exact HPB2.out) (by omega) (by decide) HR8.out (fun _ ad e => by injection e with e; rw [← e]; rintro ⟨_, h⟩; exact absurd h (Nat.lt_irrefl _)) (by decide) (by decide)).mono ?_
  rintro e w9 ⟨t9, rfl, hR9, hpl9, hC9⟩
  rw [HPL7.out, x_append] at hpl9
  have HR9 := Lib.hid hR9
  have HPL9 := Lib.hid (show t9.pl = X2 1000 from hpl9)
  have HC9 := Lib.hid hC9
  have hs9 := hC9.size
  clear hR9 hpl9 hC9
  go_wp2_with fail
  refine (rstop_ref w9 _ r t9 0 HR9.out).mono ?_
  rintro e wa ⟨rfl, ta, hRa, hpla, hCa⟩
  rw [HPL9.out] at hpla
  have hpla : ta.pl = X3 1000 := hpla
  have hsa := hCa.size
  have HRa := Lib.hid hRa
  have HPLa := Lib.hid hpla
  have HCa := Lib.hid hCa
  clear hRa hpla hCa
  have hbx : Below w5.heap.size w5 wa := by
    have b7 := HC7.out.toBelow (B := w5.heap.size) (fun k hk => hk) (by omega)
    have b9 := HC9.out.toBelow (B := w5.heap.size) (fun k hk => by rcases hk with ⟨h | h, -⟩ <;> omega) (by omega)
    have ba := HCa.out.toBelow (B := w5.heap.size) (fun k hk => by rcases hk with ⟨h | h, -⟩ | h <;> omega) (by omega)
    exact (((HB6.out.trans b7).trans (HB8.out.mono (by omega))).trans b9).trans ba
  have hpb3 : PB 3 (X3 1000) := { HPB4.out.mono (show 1 + 1 ≤ 3 by omega) with stopB := ⟨by show (-1 : Int) ≤ 0; decide, by show (0 : Int) ≤ _; decide⟩ }
  have hpc3 : PC (X3 1000) := ⟨HPC4.out.kp, HPC4.out.dc⟩
  have hlow : w.heap.size ≤ w5.heap.size := HB5.out.size
  have hD : DiskAt wa (fun k => w.heap.size ≤ k ∧ k < w5.heap.size) p _ := HD5.out.keep (fun k hk hlt => hbx.block k hlt) (fun _ h => h)
  have hR : RefAt wa (fun k => w5.heap.size ≤ k ∧ k < wa.heap.size) r ta := HRa.out.restrict.inF (fun k hk => by
    refine ⟨?_, hk.2⟩
    rcases hk.1 with (⟨h | h, -⟩ | h) | h <;> omega)
  have hxs := hbx.size
  have hB : Both wa (fun k => w.heap.size ≤ k) p r 3 (X3 1000) := ⟨_, _, _, ta, φ4, ⟨hD, hR, fun k hk => ⟨hk.1, by omega⟩, fun k hk => ⟨by omega, hk.2⟩, fun k hk hg => by omega, fun k hk => by omega⟩, HREL5.out, hpb3, hpc3, HPLa.out⟩
  have hBb := hB.box (.cells #[.pointer (some ⟨p, 0, none⟩), .pointer (some ⟨r, 0, none⟩)] 45)
  have hBL : Below w.heap.size w (wa.alloc (.cells #[.pointer (some ⟨p, 0, none⟩), .pointer (some ⟨r, 0, none⟩)] 45)) := (HB5.out.trans (hbx.mono hlow)).alloc (by omega) _
  have hPA : PairAt (wa.alloc (.cells #[.pointer (some ⟨p, 0, none⟩), .pointer (some ⟨r, 0, none⟩)] 45)) (fun k => w.heap.size ≤ k ∧ k ≠ wa.heap.size) wa.heap.size p r := ⟨Blk.new wa 45 _, fun h => h.2 rfl⟩
  have HBB := Lib.hid hBb
  have HBL := Lib.hid hBL
  have HPA := Lib.hid hPA
  clear hbx hpb3 hpc3 hD hR hB hBb hBL hPA
  go_wp2_with fail
  generalize hpbq : wa.heap.size = pb at *
  go_loopw [6] (fun i wr => NevR w n pb p r i wr) (fun i _ => n - (intOf i).toNat)
  case atStart => exact ⟨0, X3 1000, Nat.zero_le _, Nat.zero_le _, rfl, HBB.out, ⟨rfl, rfl, rfl⟩, HPA.out, HBL.out⟩
  case round =>
    obtain ⟨k, x, hk, hk2, rfl, hB, hdead, hpa, hb⟩ := hrel
    have HB := Lib.hid hB
    have HDD := Lib.hid hdead
    have HPA1 := Lib.hid hpa
    have HBW := Lib.hid hb
    have hsz := hb.size
    by_cases hlt : k < n ∧ k < 200
    · obtain ⟨hl1, hl2⟩ := hlt
      obtain ⟨d, rfl, hdl, o, hop⟩ := HO.out k hl1
      have hadd : ∀ j, j ≠ 0 → d.add (k * 7 + j) = ⟨(d.add (k * 7)).block, (d.add (k * 7)).off + j, none⟩ := fun j hj => by
        rw [← add_of_add]
        generalize d.add (k * 7) = b
        unfold Addr.add
        rw [if_neg hj]
      have hcell : ∀ j v, w.cell? (d.add (k * 7 + j)) = some v → wr.cell? (d.add (k * 7 + j)) = some v := fun j v h => (hb.cell (by rw [block_of_add]; exact hdl)).trans h
      have x0 := hcell 0 _ hop.c0
      have x1 := hcell 1 _ hop.c1
      have x2 := hcell 2 _ hop.c2
      have x3 := hcell 3 _ hop.c3
      have x4 := hcell 4 _ hop.c4
      have x5 := hcell 5 _ hop.c5
      have x6 := hcell 6 _ hop.c6
      rw [Nat.add_zero] at x0
      rw [hadd 1 (by omega)] at x1
      rw [hadd 2 (by omega)] at x2
      rw [hadd 3 (by omega)] at x3
      rw [hadd 4 (by omega)] at x4
      rw [hadd 5 (by omega)] at x5
      rw [hadd 6 (by omega)] at x6
      have HOPT := Lib.hid hop
      have hk64 := hop.k63
      clear hadd hcell hop hB hdead hpa hb
      go_wp2_with fail
      refine (keepwithin_any o.k 6 _ (by omega) (by omega)).mono ?_
      rintro e wz ⟨rfl, rfl⟩
      go_wp2_with fail
      have hal : Below wr.heap.size wr (wr.alloc (.cells #[.int .i64 (o.k % 6), .int .i64 o.a, .int .i64 o.b, .string o.nm, .string o.t2, .slice o.A o.nb o.cb, .slice o.A2 o.nc o.cc] 47)) := (Below.refl _ wr).alloc (Nat.le_refl _) _
      have hk6 : 0 ≤ o.k % 6 ∧ o.k % 6 < 6 := by omega
      refine (oper_any _ (fun k => w.heap.size ≤ k ∧ k ≠ pb) pb p r (k + 3) x (o.k % 6) o.a o.b o.nm o.t2 o.A o.nb o.cb o.bs _ hk6 (HB.out.below hal) (HPA1.out.chg ((Chg.refl _ wr).alloc _)) (by omega) HOPT.out.nmL HOPT.out.t2L
        (((HOPT.out.bR.below HBW.out).more hsz).below hal |>.more (by simp)) (fun h0 ad e hm => by
          obtain ⟨ad', e', hlt, -⟩ := HOPT.out.bR.2 h0
          rw [e] at e'
          injection e' with e'
          subst e'
          exact absurd hm.1 (by omega)) HOPT.out.bC HOPT.out.bL).mono ?_
      rintro e wy ⟨rfl, hBy, hCy⟩
      have hdy : Dead (x.oper (o.k % 6) o.nm o.t2 o.bs) := HDD.out.oper _ _ _ _
      obtain ⟨y, hy⟩ : ∃ y, y = x.oper (o.k % 6) o.nm o.t2 o.bs := ⟨_, rfl⟩
      rw [← hy] at hBy hdy
      have hpy := (HPA1.out.chg ((Chg.refl _ wr).alloc (.cells #[.int .i64 (o.k % 6), .int .i64 o.a, .int .i64 o.b, .string o.nm, .string o.t2, .slice o.A o.nb o.cb, .slice o.A2 o.nc o.cc] 47))).chg hCy
      have hby : Below w.heap.size w wy := (HBW.out.trans (hal.mono hsz)).trans (hCy.toBelow (fun k hk => hk.1) (by simp; omega))
      have HBY := Lib.hid hBy
      have HDY := Lib.hid hdy
      have HPY := Lib.hid hpy
      have HBWY := Lib.hid hby
      have hsy := hby.size
      clear hk6 hal hBy hCy hdy hy hpy hby x0 x1 x2 x3 x4 x5 x6
      go_wp2_with fail
      refine (tell_read wy _ p r (k + 3 + 1) y ⟨#[97]⟩ HBY.out (by omega) (by decide)).mono ?_
      rintro e wu ⟨v, rfl, hrow, hbu⟩
      rw [HDY.out.read] at hrow ⊢
      obtain ⟨A8, d8, rfl⟩ := own_slice hrow
      have hcs : (convert 22 9 (.slice A8 2 d8)).run Try.prog wu = .ok (.string ⟨#[120, 121]⟩) wu := run_str_of_row wu _ _ [120, 121] hrow
      have hsu := hbu.size
      have HBU := Lib.hid hbu
      have HBYU := Lib.hid (HBY.out.below hbu)
      clear hrow hbu
      go_wp2_with fail
      refine (tell_list wu _ p r (k + 3 + 1) y ⟨#[]⟩ HBYU.out (by omega)).mono ?_
      rintro e wv ⟨v9, rfl, hrow9, hbv⟩
      obtain ⟨A9, d9, rfl⟩ := own_slice hrow9
      rw [show (y.list (⟨#[]⟩ : ByteArray).data.toList).length = 1 from HDY.out.list]
      have hsv := hbv.size
      have HBV := Lib.hid hbv
      have HBYV := Lib.hid (HBYU.out.below hbv)
      clear hrow9 hbv
      go_wp2_with fail
      refine (tell_used wv _ p r (k + 3 + 1) y HBYV.out (by omega)).mono ?_
      rintro e wq ⟨rfl, hbq⟩
      rw [HDY.out.used]
      have HBQ := Lib.hid hbq
      clear hbq
      go_wp2
      refine ⟨⟨k + 1, y, by omega, by omega, by go_num, ?_, HDY.out, ?_, ?_⟩, by simp [intOf]; omega⟩
      · have := HBYV.out.below HBQ.out
        rwa [show k + 3 + 1 = k + 1 + 3 by omega] at this
      · have c1 : Chg (fun k => w.heap.size ≤ k ∧ k ≠ pb) wy wq := ((((Chg.refl _ wy).below HBU.out (Nat.le_refl _)).below HBV.out hsu).below HBQ.out (by omega))
        exact HPY.out.chg c1
      · exact ((HBWY.out.trans (HBU.out.mono hsy)).trans (HBV.out.mono (by omega))).trans (HBQ.out.mono (by omega))
    · have hend : (k < n → ¬ k < 200) := fun h1 h2 => hlt ⟨h1, h2⟩
      clear hlt
      by_cases h1 : k < n
      case' pos =>
        have h2 := hend h1
        clear hend
      case' neg =>
        clear hend
      all_goals
        clear hB hdead hpa hb
        go_wp2_with fail
        refine (wakes_any wr).mono ?_
        rintro e we ⟨rfl, hbe⟩
        have HBE := Lib.hid hbe
        clear hbe
        go_wp2
        go_ret
        exact ⟨rfl, HBW.out.trans (HBE.out.mono hsz)⟩
end Go.Proofs.Ytfeglchngekedaa
