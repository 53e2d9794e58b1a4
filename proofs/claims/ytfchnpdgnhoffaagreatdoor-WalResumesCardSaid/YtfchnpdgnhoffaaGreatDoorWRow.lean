/- What each row of the seat wants: the listed error, a witness's world, arguments opened. Began as the kit's extra-structs 1, extra-small 9, the how-to's UptoLaidToy and the worked text MapyProofs. -/
import Derived.Test.YtfchnpdgnhoffaaGreatDoorCards
import Derived.Test.YtfchnpdgnhoffaaGreatDoorTie
import Derived.Test.YtfchnpdgnhoffaaGreatDoorJ18WAll
import Derived.WalkKit
import Derived.ProofKit
import Derived.OpenShut
import Derived.Deep.DeepHandedRow
import Derived.Deep.DeepWitnessRowRef
import Derived.Lib.LaidTab
import Derived.LaidMore
import Derived.LaidHandle
import Derived.Stop.LaidErr
import Derived.Stop.Joined
import Derived.SevenTiedAt
import Derived.Deep.Slices
import Derived.Deep.Fields
import Derived.ChangeSame
import Derived.Below
import Derived.Carry
import Derived.Laws.Cover2
namespace Go.Proofs.YtfchnpdgnhoffaaGreatDoor
open Go.ChangeShapes Go.WideShapes Go.ChangeAt Go.RowKit Go.Deep

theorem u8_list (l : List Int) (h : ∀ x ∈ l, (Lit.int .u8 x).wf = true) : ∃ b : List UInt8, l.map (Value.int .u8) = bytesV b ∧ b.length = l.length := by
  refine ⟨l.map fun x => UInt8.ofNat x.toNat, ?_, by simp⟩
  unfold bytesV
  rw [List.map_map]
  apply List.map_congr_left
  intro x hx
  have w := h x hx
  simp [Lit.wf, IntKind.max, IntKind.min, IntKind.signed, IntKind.bits] at w
  have : ((UInt8.ofNat x.toNat).toNat : Int) = x := by
    simp only [UInt8.toNat_ofNat']
    omega
  simp only [Function.comp]
  rw [this]

section
variable {H : Type} {enc : TypeId × Value → H} {P : Program} {w : World} {base : Nat} {spare : Nat → Bool} {held : Bool}
theorem open_slice_fields {t e : TypeId} {fs : Array Field} {fuel : Nat} {cs : List Value} {x : DataW H × List MemPlace} (ht : P.underlying t = some (.slice e)) (he : P.underlying e = some (.struct fs))
    (hone : oneCellFields P fs = true) (hC : P.cellsOf e = fs.size) (h : DataW.trod enc P w base spare held fuel t cs = some x) :
    (cs = [.slice none 0 0] ∧ x = (.nil, [])) ∨
    ∃ (a : Addr) (len cap m : Nat) (D : Nat → DataW H) (Pl : Nat → List MemPlace), cs = [.slice (some a) len cap] ∧ base ≤ a.block ∧ len ≤ cap ∧ cap ≤ maxLen ∧ m = (if spare a.block then cap else len) ∧
      x = (.slice ((List.range len).map D) ((List.range (m - len)).map fun j => D (len + j)), MemPlace.row a (m * fs.size) ++ (List.range m).flatMap Pl) ∧
      ∀ i, i < m → ∃ (ys : List (DataW H × List MemPlace)) (n : Nat), D i = .agg (ys.map (·.1)) ∧ Pl i = ys.flatMap (·.2) ∧ ys.length = fs.size ∧
        ∀ (j : Nat) (f : Field), fs[j]? = some f → ∃ (v : Value) (y : DataW H × List MemPlace), w.cell? (a.add (i * fs.size + j)) = some v ∧ ys[j]? = some y ∧ DataW.trod enc P w base spare held n f.type [v] = some y := by
  rcases open_slice ht h with h0 | ⟨a, len, cap, m, n, D, Pl, hcs, hb, hl, hm, hmm, hx, hi⟩
  · exact .inl h0
  · refine .inr ⟨a, len, cap, m, D, Pl, hcs, hb, hl, hm, hmm, by rw [hC] at hx; exact hx, fun i him => ?_⟩
    obtain ⟨cs', hc, ht'⟩ := hi i him
    rw [hC] at hc
    obtain ⟨ys, n', hn', hy, hlen, hyl, hf⟩ := DataW.trod_struct he ht'
    obtain ⟨_, hcl, hat⟩ := World.cells?_some hc
    simp only [Prod.mk.injEq] at hy
    refine ⟨ys, n', hy.1, hy.2, hyl, fun j f hj => ?_⟩
    obtain ⟨ho, hk⟩ := hone_of hone j f hj
    have hjl : j < fs.size := (Array.getElem?_eq_some_iff.1 hj).1
    have hcell := hat j hjl
    have hv : cs'[j]? = some (cs'[j]'(by omega)) := List.getElem?_eq_getElem (by omega)
    have h1 := hf j f hj
    rw [ho, hk] at h1
    have hone' : (cs'.drop j).take 1 = [cs'[j]'(by omega)] := by
      rw [List.drop_eq_getElem_cons (by omega)]
      rfl
    rw [hone'] at h1
    have hys : ys[j]? = some (ys[j]'(by omega)) := List.getElem?_eq_getElem (by omega)
    refine ⟨_, _, ?_, hys, h1.trans hys⟩
    rw [← Go.Deep.add_add, hcell, hv]
theorem one_int {t : TypeId} {k : IntKind} {fuel : Nat} {v : Value} {x : DataW H × List MemPlace} (ht : P.underlying t = some (.int k)) (h : DataW.trod enc P w base spare held fuel t [v] = some x) : ∃ n, v = .int k n ∧ (Lit.int k n).wf = true := by
  obtain ⟨n, hn, -, hw⟩ := DataW.trod_int ht h
  exact ⟨n, by injection hn, hw⟩
theorem one_ints {t e : TypeId} {k : IntKind} {fuel : Nat} {v : Value} {x : DataW H × List MemPlace} (ht : P.underlying t = some (.slice e)) (he : P.underlying e = some (.int k)) (hc1 : P.cellsOf e = 1) (h : DataW.trod enc P w base spare held fuel t [v] = some x) :
    ∃ (A : Option Addr) (n cap : Nat) (l : List Int), v = .slice A n cap ∧ n ≤ cap ∧ n ≤ maxLen ∧ Reads w w.heap.size 1 A n (l.map (Value.int k)) ∧ ∀ x ∈ l, (Lit.int k x).wf = true := by
  rcases open_ints ht he hc1 h with ⟨hcs, _⟩ | ⟨a', len', cap', zs, hcs, _, hl, hm, hz, _, hc, hwf⟩
  · injection hcs with hcs
    exact ⟨none, 0, 0, [], hcs, Nat.le_refl _, Nat.zero_le _, Reads.none_, (fun x hx => by cases hx)⟩
  · injection hcs with hcs
    have hlz : len' ≤ zs.length := by rw [hz]; split <;> omega
    refine ⟨some a', len', cap', zs.take len', hcs, hl, Nat.le_trans hl hm, ⟨by simp; omega, fun h0 => ⟨a', rfl, ?_, fun j u hu => ?_⟩⟩, fun x hx => hwf x (List.mem_of_mem_take hx)⟩
    · have := World.block_lt_of_cell? w _ (hc 0 (by omega))
      rwa [block_of_add] at this
    · rw [List.getElem?_map] at hu
      obtain ⟨x, hx, rfl⟩ := Option.map_eq_some_iff.1 hu
      have hj : j < len' := by have := (List.getElem?_eq_some_iff.1 hx).1; simp at this; omega
      rw [hc j (by omega), List.getD]
      rw [List.getElem?_take_of_lt hj] at hx
      rw [hx]
      rfl
end
theorem wf63 {n : Int} (h : (Lit.int .i64 n).wf = true) : -9223372036854775808 ≤ n ∧ n ≤ 9223372036854775807 := by
  simp [Lit.wf] at h
  have h2 : IntKind.i64.min = -9223372036854775808 := rfl
  rw [h2] at h
  exact h
section
variable {H : Type} {enc : TypeId × Value → H} {P : Program}
theorem post_of_below {f : Func} {s : ChangeSpec} {apart fresh handsOn again : Bool} {W W' : World} {args : Array Value} {v : Value} {ds gs : List (DataW H)} {before pa pv : List MemPlace}
    (hW : DataW.Whole enc P f.params.toList s.vars apart W args.toList ds gs before)
    (hres : ∀ (b : Nat) (sp : Nat → Bool) (hd : Bool), DataW.TrodAll enc P W' b sp hd f.resultTypes.toList (v.resultList f.resultTypes.size) (s.fn H (ds ++ gs)).results [])
    (hargs : ∀ sp : Nat → Bool, (∀ p ∈ before, sp p.block = true) → DataW.TrodAll enc P W' 0 sp true f.params.toList args.toList (s.fn H (ds ++ gs)).args pa)
    (hvars : ∀ sp : Nat → Bool, (∀ p ∈ before, sp p.block = true) → DataW.TrodVars enc P W' sp s.vars (s.fn H (ds ++ gs)).vars pv)
    (hps : before = pa ++ pv) (hb : Below W.heap.size W W')
    (hok : ∀ (j : Nat) (t : TypeId) (r : Value), f.resultTypes[j]? = some t → (v.resultList f.resultTypes.size)[j]? = some r → Value.okWide P W' .any 0 t r) :
    s.post enc P f apart fresh handsOn again W args v W' := by
  have hlt : ∀ p ∈ before, p.block < W.heap.size := fun p hp => hW.lt p hp
  have hold : ∀ p ∈ before, (fun b => decide (b < W.heap.size)) p.block = true := fun p hp => by simpa using hlt p hp
  refine ⟨ds, gs, before, [], pa, pv, hW, hres _ _ _, hargs _ hold, hvars _ hold, World.keptBut_mono (fun p hp => ⟨hp, ?_⟩) (hb.frame (· ∈ before)), fun _ => ?_⟩
  · rw [hps, List.mem_append] at hp
    exact Or.inr hp
  · obtain ⟨_, _, _, _, _, hz, hn⟩ := hW
    refine ⟨hok, _, _, ([] ++ pa) ++ pv, ⟨[] ++ pa, pv, trodAll_append (hargs _ (fun _ _ => rfl)) (hres _ _ _), hvars _ (fun _ _ => rfl), rfl, ?_, ?_⟩, ?_⟩
    · intro b off hp
      have hin : MemPlace.cell b off ∈ before := by rw [hps]; simpa using hp
      rw [hb.frozen (hlt _ hin)]
      exact hz b off hin
    · intro ha
      have := hn ha
      rw [hps] at this
      simpa using this
    · intro p hp _
      rw [hps]
      simpa using hp
end
theorem own : ownKnob Tryz.prog.godebug = none := by kernel_rfl
theorem cells3 : Tryz.prog.cellsOf 3 = 1 := by kernel_rfl
theorem cells5 : Tryz.prog.cellsOf 5 = 1 := by kernel_rfl
theorem cells25 : Tryz.prog.cellsOf 25 = 1 := by kernel_rfl
set_option maxRecDepth 100000 in
/-- an argument that is a row of numbers, opened -/
theorem open_nums {H : Type} {enc : TypeId × Value → H} {W : World} {base b0 : Nat} {sp : Nat → Bool} {held : Bool} {r : Reach} {v : Value} {d : DataW H} {ps : List MemPlace} {t e : TypeId} {k : IntKind}
    (ht : Tryz.prog.underlying t = some (.slice e)) (he : Tryz.prog.underlying e = some (.int k)) (hc1 : Tryz.prog.cellsOf e = 1)
    (hv : Value.okWide Tryz.prog W r b0 t v) (h : DataW.Trod enc Tryz.prog W base sp held t v d ps) :
    ∃ (A : Option Addr) (n cap : Nat) (l : List Int), v = .slice A n cap ∧ n ≤ cap ∧ n ≤ maxLen ∧ Reads W W.heap.size 1 A n (l.map (Value.int k)) ∧ ∀ x ∈ l, (Lit.int k x).wf = true := by
  obtain ⟨a, len, cap, rfl⟩ := okWide_slice ht hv
  obtain ⟨fuel, hf⟩ := h
  rcases open_ints ht he hc1 hf with ⟨hcs, _⟩ | ⟨a', len', cap', zs, hcs, _, hl, hm, hz, _, hc, hwf⟩
  · simp only [Value.cells, List.cons.injEq, and_true] at hcs
    cases hcs
    exact ⟨none, 0, 0, [], rfl, Nat.le_refl _, Nat.zero_le _, Reads.none_, (fun x hx => by cases hx)⟩
  · simp only [Value.cells, List.cons.injEq, and_true] at hcs
    cases hcs
    have hlz : len ≤ zs.length := by rw [hz]; split <;> omega
    refine ⟨some a', len, cap, zs.take len, rfl, hl, Nat.le_trans hl hm, ⟨by simp; omega, fun h0 => ⟨a', rfl, ?_, fun j u hu => ?_⟩⟩, fun x hx => hwf x (List.mem_of_mem_take hx)⟩
    · have := World.block_lt_of_cell? W _ (hc 0 (by omega))
      rwa [block_of_add] at this
    · rw [List.getElem?_map] at hu
      obtain ⟨x, hx, rfl⟩ := Option.map_eq_some_iff.1 hu
      have hj : j < len := by have := (List.getElem?_eq_some_iff.1 hx).1; simp at this; omega
      rw [hc j (by omega), List.getD]
      rw [List.getElem?_take_of_lt hj] at hx
      rw [hx]
      rfl

/-- rows of bytes, and rows of these, as arguments -/
theorem one_bytes {H : Type} {enc : TypeId × Value → H} {W : World} {base : Nat} {sp : Nat → Bool} {held : Bool} {fuel : Nat} {v : Value} {x : DataW H × List MemPlace} (h : DataW.trod enc Tryz.prog W base sp held fuel 25 [v] = some x) :
    ∃ b : Rec, ByR W (fun y => y < W.heap.size) v b ∧ b.length ≤ maxLen := by
  obtain ⟨A, n, cap, l, rfl, hc, hm, hR, hw⟩ := one_ints Tryz.underlying25 Tryz.underlying5 cells5 h
  obtain ⟨b, e, hl⟩ := u8_list l hw
  rw [e] at hR
  have hn : n = b.length := by have := hR.1; rw [bytesV_length] at this; omega
  subst hn
  refine ⟨b, ⟨A, cap, rfl, hc, hR, fun ad ea h0 => ?_⟩, hm⟩
  obtain ⟨ad2, e2, hlt, -⟩ := hR.2 h0
  rw [ea] at e2
  injection e2 with e2
  rw [e2]
  exact hlt
set_option maxRecDepth 100000 in
theorem one_rows {H : Type} {enc : TypeId × Value → H} {W : World} {base : Nat} {sp : Nat → Bool} {held : Bool} {fuel : Nat} {v : Value} {x : DataW H × List MemPlace} (h : DataW.trod enc Tryz.prog W base sp held fuel 29 [v] = some x) :
    ∃ l : List Rec, RecsR W (fun y => y < W.heap.size) v l ∧ l.length ≤ maxLen ∧ ∀ b ∈ l, b.length ≤ maxLen := by
  rcases open_slice Tryz.underlying29 h with ⟨hcs, -⟩ | ⟨a, len, cap, m, n, D, Pl, hcs, hb, hl, hm, hmm, hx, hi⟩
  · injection hcs with hcs
    subst hcs
    exact ⟨[], (RecsAt.nil _ _).read, Nat.zero_le _, fun b hb => by cases hb⟩
  · injection hcs with hcs
    subst hcs
    have hlm : len ≤ m := by rw [hmm]; split <;> omega
    have hx : ∀ i : Nat, ∃ y : Value × Rec, i < len → W.cell? (a.add i) = some y.1 ∧ ByR W (fun z => z < W.heap.size) y.1 y.2 ∧ y.2.length ≤ maxLen := by
      intro i
      by_cases hil : i < len
      · obtain ⟨cs', hc, ht⟩ := hi i (by omega)
        rw [cells25, Nat.mul_one] at hc
        obtain ⟨_, hcl, hat⟩ := World.cells?_some hc
        match cs', hcl, hat, ht with
        | [u], _, hat, ht =>
          obtain ⟨b, hb1, hb2⟩ := one_bytes ht
          have h0 := hat 0 (by omega)
          have h9 : W.cell? (a.add (i + 0)) = some u := by rw [← Go.Deep.add_add]; exact h0
          exact ⟨(u, b), fun _ => ⟨h9, hb1, hb2⟩⟩
      · exact ⟨(.nilFunc, []), fun h => absurd h hil⟩
    obtain ⟨f, hf⟩ := Classical.skolem.1 hx
    have hlr : ((List.range len).map fun i => (f i).2).length = len := by simp
    refine ⟨(List.range len).map fun i => (f i).2, ⟨some a, cap, (List.range len).map fun i => (f i).1, by rw [hlr], by rw [hlr]; exact hl, ?_, fun ad ea h0 => ?_, fun i u b h1 h2 => ?_⟩, by rw [hlr]; omega, fun b hb => ?_⟩
    · rw [hlr]
      refine ⟨by simp, fun h0 => ⟨a, rfl, ?_, fun j u hu => ?_⟩⟩
      · have := World.block_lt_of_cell? W _ (hf 0 h0).1
        rwa [block_of_add] at this
      · have hj : j < len := by have := (List.getElem?_eq_some_iff.1 hu).1; simpa using this
        rw [List.getElem?_map, List.getElem?_range hj] at hu
        injection hu with hu
        rw [← hu]
        exact (hf j hj).1
    · rw [hlr] at h0
      injection ea with ea
      have := World.block_lt_of_cell? W _ (hf 0 h0).1
      rw [block_of_add] at this
      rw [← ea]; exact this
    · have hj : i < len := by have := (List.getElem?_eq_some_iff.1 h1).1; simpa using this
      rw [List.getElem?_map, List.getElem?_range hj] at h1 h2
      injection h1 with h1
      injection h2 with h2
      rw [← h1, ← h2]
      exact (hf i hj).2.1
    · obtain ⟨i, hi', rfl⟩ := List.mem_map.1 hb
      exact (hf i (List.mem_range.1 hi')).2.2
set_option maxRecDepth 100000 in
theorem open_rows {H : Type} {enc : TypeId × Value → H} {W : World} {base b0 : Nat} {sp : Nat → Bool} {held : Bool} {r : Reach} {v : Value} {d : DataW H} {ps : List MemPlace}
    (hv : Value.okWide Tryz.prog W r b0 29 v) (h : DataW.Trod enc Tryz.prog W base sp held 29 v d ps) : ∃ l : List Rec, RecsR W (fun y => y < W.heap.size) v l ∧ l.length ≤ maxLen ∧ ∀ b ∈ l, b.length ≤ maxLen := by
  obtain ⟨a, len, cap, rfl⟩ := okWide_slice Tryz.underlying29 hv
  obtain ⟨fuel, hf⟩ := h
  exact one_rows hf
set_option maxRecDepth 100000 in
theorem open_ops {H : Type} {enc : TypeId × Value → H} {W : World} {base b0 : Nat} {sp : Nat → Bool} {held : Bool} {r : Reach} {v : Value} {d : DataW H} {ps : List MemPlace}
    (hv : Value.okWide Tryz.prog W r b0 50 v) (h : DataW.Trod enc Tryz.prog W base sp held 50 v d ps) : ∃ (A : Option Addr) (n cap : Nat), v = .slice A n cap ∧ n ≤ cap ∧ n ≤ maxLen ∧ OpsAt W A n := by
  obtain ⟨a, len, cap, rfl⟩ := okWide_slice Tryz.underlying50 hv
  obtain ⟨fuel, hf⟩ := h
  rcases open_slice_fields Tryz.underlying50 Tryz.underlying46 (by kernel_rfl) (by kernel_rfl) hf with ⟨hcs, -⟩ | ⟨a', len', cap', m, D, Pl, hcs, -, hl, hm, hmm, -, hi⟩
  · simp only [Value.cells, List.cons.injEq, and_true] at hcs
    cases hcs
    exact ⟨none, 0, 0, rfl, Nat.le_refl _, Nat.zero_le _, fun i hi => absurd hi (Nat.not_lt_zero _)⟩
  · simp only [Value.cells, List.cons.injEq, and_true] at hcs
    cases hcs
    have hml : len ≤ m := by rw [hmm]; split <;> omega
    refine ⟨some a', len, cap, rfl, hl, Nat.le_trans hl hm, fun i hil => ?_⟩
    obtain ⟨ys, n, -, -, -, hfld⟩ := hi i (by omega)
    obtain ⟨v0, y0, q0, -, t0⟩ := hfld 0 _ rfl
    obtain ⟨v1, y1, q1, -, t1⟩ := hfld 1 _ rfl
    obtain ⟨v2, y2, q2, -, t2⟩ := hfld 2 _ rfl
    obtain ⟨v3, y3, q3, -, t3⟩ := hfld 3 _ rfl
    obtain ⟨v4, y4, q4, -, t4⟩ := hfld 4 _ rfl
    obtain ⟨v5, y5, q5, -, t5⟩ := hfld 5 _ rfl
    obtain ⟨n0, rfl, w0⟩ := one_int Tryz.underlying3 t0
    obtain ⟨n1, rfl, w1⟩ := one_int Tryz.underlying3 t1
    obtain ⟨n2, rfl, w2⟩ := one_int Tryz.underlying3 t2
    obtain ⟨b3, hb3, hl3⟩ := one_bytes t3
    obtain ⟨l4, hr4, hl4, hb4⟩ := one_rows t4
    obtain ⟨A5, n5, c5, x5, rfl, hc5, hm5, hR5, hw5⟩ := one_ints Tryz.underlying22 Tryz.underlying3 cells3 t5
    have e5 : n5 = x5.length := by have := hR5.1; simpa using this.symm
    subst e5
    refine ⟨a', rfl, ?_, ⟨n0, n1, n2, b3, l4, x5⟩, v3, v4, _, ⟨q0, q1, q2, q3, q4, q5, ⟨hb3, hr4, ⟨A5, c5, rfl, hc5, hR5⟩, hl3, hl4, hb4, wf63 w0, wf63 w1⟩⟩⟩
    have := World.block_lt_of_cell? W _ q0
    rwa [block_of_add] at this

theorem laidOut : laidOutB Tryz.prog = true := by kernel_rfl
theorem all_stays {H : Type} {enc : TypeId × Value → H} {W W' : World} (hb : Below W.heap.size W W') {sp : Nat → Bool} : ∀ {ts : List TypeId} {vs : List Value} {ds : List (DataW H)} {ps : List MemPlace},
    (∀ t ∈ ts, Tryz.prog.readableRec t = true ∧ t < Tryz.prog.types.size) → DataW.TrodAll enc Tryz.prog W 0 (fun _ => true) true ts vs ds ps → (∀ p ∈ ps, p.block < W.heap.size) → (∀ p ∈ ps, sp p.block = true) →
    DataW.TrodAll enc Tryz.prog W' 0 sp true ts vs ds ps
  | [], [], [], _, _, h, _, _ => h
  | _ :: _, _ :: _, _ :: _, _, hT, ⟨p, q, h1, h2, e⟩, hl, hs =>
    ⟨p, q, WideElems.Trod_stays laidOut (hT _ List.mem_cons_self).1 (hT _ List.mem_cons_self).2 h1 (fun x hx => hb.same (hl x (by rw [e]; exact List.mem_append_left _ hx))) (fun x hx => hs x (by rw [e]; exact List.mem_append_left _ hx)),
      all_stays hb (fun t ht => hT t (List.mem_cons_of_mem _ ht)) h2 (fun x hx => hl x (by rw [e]; exact List.mem_append_right _ hx)) (fun x hx => hs x (by rw [e]; exact List.mem_append_right _ hx)), e⟩
set_option maxRecDepth 100000 in
/-- a law that answers true and leaves alone what lay before -/
theorem shut_law {H : Type} {enc : TypeId × Value → H} {fn : Func} {s : ChangeSpec} {W W' : World} {args : Array Value} {ds : List (DataW H)} {before : List MemPlace} (hv : s.vars = []) (hr : fn.resultTypes = #[4])
    (hspec : s.fn H (ds ++ []) = { results := [.lit (.bool true)], args := ds }) (hvs : (s.fn H (ds ++ [])).vars = []) (hW : DataW.Whole enc Tryz.prog fn.params.toList s.vars false W args.toList ds [] before)
    (hA : DataW.TrodAll enc Tryz.prog W 0 (fun _ => true) true fn.params.toList args.toList ds before) (hT : ∀ t ∈ fn.params.toList, Tryz.prog.readableRec t = true ∧ t < Tryz.prog.types.size) (hb : Below W.heap.size W W') :
    s.post enc Tryz.prog fn false true false false W args (.bool true) W' := by
  have hlt : ∀ p ∈ before, p.block < W.heap.size := fun p hp => hW.lt p hp
  refine post_of_below (pa := before) (pv := []) hW ?_ ?_ ?_ (by simp) hb ?_
  · intro b sp hd
    rw [hr, hspec]
    exact trodAll_cons_mk (shut_bool Tryz.underlying4 _) trodAll_mk0
  · intro sp hsp
    rw [hspec]
    exact all_stays hb hT hA hlt hsp
  · intro sp _
    rw [hv, hvs]
    rfl
  · exact ok_one hr rfl (okWide_bool_mk Tryz.underlying4 _)

/-! ### what is listed -/
theorem gErr : Tryz.prog.globalNamed "strconv.ErrSyntax" = some 0 := by kernel_rfl
theorem tErr : (Tryz.prog.globals[0]?).map (·.type) = some 128 := by kernel_rfl
theorem iface_of_trod {H : Type} {enc : TypeId × Value → H} {P : Program} {w : World} {base fuel : Nat} {spare : Nat → Bool} {held : Bool} {t : TypeId} {ms : Array (String × TypeId)} {cs : List Value} {x : DataW H × List MemPlace} (ht : P.underlying t = some (.interface ms))
    (h : DataW.trod enc P w base spare held fuel t cs = some x) : cs = [.nilIface] ∨ ∃ u v, cs = [.iface u v] := by
  cases fuel with
  | zero => simp [DataW.trod] at h
  | succ n =>
    unfold DataW.trod at h
    rw [ht] at h
    split at h <;> simp_all
/-- what each row's list gives: strconv's error -/
theorem syn_of {W : World} (h : laidMetH Tryz.prog Rows.walKeepsRow.laid W) : SynW W := by
  have h1 := laidMetH.filter (fun x => x.1 == "strconv.ErrSyntax") h
  have e : Rows.walKeepsRow.laid.filter (fun x => x.1 == "strconv.ErrSyntax") = [("strconv.ErrSyntax", Rows.laid_strconv_ErrSyntax)] := by kernel_rfl
  rw [e, MakeChecks.laidMetH_plain _ _ _ (by kernel_rfl)] at h1
  obtain ⟨ps, ⟨g0, t0, cs0, f0, p0, q0, hg0, ht0, hv0, hd0, _, e0⟩, _, hrows⟩ := h1
  obtain rfl := Option.some.inj (gErr.symm.trans hg0)
  obtain rfl := Option.some.inj (tErr.symm.trans ht0)
  have hcell := World.var?_cell hg0 hv0 0
  rcases iface_of_trod Tryz.underlying128 hd0 with h9 | ⟨u, v, h9⟩
  · rw [Array.eq_one_of_toList h9] at hcell
    exact ⟨.nilIface, by simpa using hcell, .inl rfl⟩
  · rw [Array.eq_one_of_toList h9] at hcell
    exact ⟨.iface u v, by simpa using hcell, .inr ⟨u, v, rfl⟩⟩
theorem door_met (os : Os) (args : Array Value) : laidMetH Tryz.prog Rows.walKeepsRow.laid ((World.doorLaid Tryz.prog 62 os).forCall (fun _ _ => 0) ⟨#[], args, []⟩).memory :=
  laidMetH_of_parts3 (fuel := 8) (laidMet_of_run' 8 (by kernel_rfl) (by kernel_rfl)) (by kernel_rfl) (by kernel_rfl)
end Go.Proofs.YtfchnpdgnhoffaaGreatDoor
