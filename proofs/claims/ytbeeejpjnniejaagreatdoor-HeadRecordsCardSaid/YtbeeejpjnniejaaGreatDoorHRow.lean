/- What each card of the seat wants: the tables, a witness's world, arguments opened. Began as the kit's extra-structs 1, extra-small 9 and the how-to's UptoLaidToy. -/
import Derived.Test.YtbeeejpjnniejaaGreatDoorCards
import Derived.Test.YtbeeejpjnniejaaGreatDoorTie
import Derived.Test.YtbeeejpjnniejaaGreatDoorHOrder
import Derived.WalkKit
import Derived.ProofKit
import Derived.OpenShut
import Derived.Deep.DeepHandedRow
import Derived.Deep.DeepWitnessRowRef
import Derived.Lib.LaidTab
import Derived.Lib.LaidU8
import Derived.LaidMore
import Derived.LaidHandle
import Derived.Stop.LaidErr
import Derived.Stop.Joined
import Derived.SevenTiedAt
import Derived.Deep.Slices
import Derived.Deep.Fields
import Derived.ChangeSame
import Derived.Below
import Derived.Carry
import Derived.Laws.Cover2
namespace Go.Proofs.YtbeeejpjnniejaaGreatDoor
open Go.ChangeShapes Go.WideShapes Go.ChangeAt Go.RowKit Go.Deep

section
variable {H : Type} {enc : TypeId × Value → H} {P : Program} {w : World} {base : Nat} {spare : Nat → Bool} {held : Bool}
theorem open_slice_fields {t e : TypeId} {fs : Array Field} {fuel : Nat} {cs : List Value} {x : DataW H × List MemPlace} (ht : P.underlying t = some (.slice e)) (he : P.underlying e = some (.struct fs))
    (hone : oneCellFields P fs = true) (hC : P.cellsOf e = fs.size) (h : DataW.trod enc P w base spare held fuel t cs = some x) :
    (cs = [.slice none 0 0] ∧ x = (.nil, [])) ∨
    ∃ (a : Addr) (len cap m : Nat) (D : Nat → DataW H) (Pl : Nat → List MemPlace), cs = [.slice (some a) len cap] ∧ base ≤ a.block ∧ len ≤ cap ∧ cap ≤ maxLen ∧ m = (if spare a.block then cap else len) ∧
      x = (.slice ((List.range len).map D) ((List.range (m - len)).map fun j => D (len + j)), MemPlace.row a (m * fs.size) ++ (List.range m).flatMap Pl) ∧
      ∀ i, i < m → ∃ (ys : List (DataW H × List MemPlace)) (n : Nat), D i = .agg (ys.map (·.1)) ∧ Pl i = ys.flatMap (·.2) ∧ ys.length = fs.size ∧
        ∀ (j : Nat) (f : Field), fs[j]? = some f → ∃ (v : Value) (y : DataW H × List MemPlace), w.cell? (a.add (i * fs.size + j)) = some v ∧ ys[j]? = some y ∧ DataW.trod enc P w base spare held n f.type [v] = some y := by
  rcases open_slice ht h with h0 | ⟨a, len, cap, m, n, D, Pl, hcs, hb, hl, hm, hmm, hx, hi⟩
  · exact .inl h0
  · refine .inr ⟨a, len, cap, m, D, Pl, hcs, hb, hl, hm, hmm, by rw [hC] at hx; exact hx, fun i him => ?_⟩
    obtain ⟨cs', hc, ht'⟩ := hi i him
    rw [hC] at hc
    obtain ⟨ys, n', hn', hy, hlen, hyl, hf⟩ := DataW.trod_struct he ht'
    obtain ⟨_, hcl, hat⟩ := World.cells?_some hc
    simp only [Prod.mk.injEq] at hy
    refine ⟨ys, n', hy.1, hy.2, hyl, fun j f hj => ?_⟩
    obtain ⟨ho, hk⟩ := hone_of hone j f hj
    have hjl : j < fs.size := (Array.getElem?_eq_some_iff.1 hj).1
    have hcell := hat j hjl
    have hv : cs'[j]? = some (cs'[j]'(by omega)) := List.getElem?_eq_getElem (by omega)
    have h1 := hf j f hj
    rw [ho, hk] at h1
    have hone' : (cs'.drop j).take 1 = [cs'[j]'(by omega)] := by
      rw [List.drop_eq_getElem_cons (by omega)]
      rfl
    rw [hone'] at h1
    have hys : ys[j]? = some (ys[j]'(by omega)) := List.getElem?_eq_getElem (by omega)
    refine ⟨_, _, ?_, hys, h1.trans hys⟩
    rw [← Go.Deep.add_add, hcell, hv]
theorem one_int {t : TypeId} {k : IntKind} {fuel : Nat} {v : Value} {x : DataW H × List MemPlace} (ht : P.underlying t = some (.int k)) (h : DataW.trod enc P w base spare held fuel t [v] = some x) : ∃ n, v = .int k n ∧ (Lit.int k n).wf = true := by
  obtain ⟨n, hn, -, hw⟩ := DataW.trod_int ht h
  exact ⟨n, by injection hn, hw⟩
end
theorem wf63 {n : Int} (h : (Lit.int .i64 n).wf = true) : -9223372036854775808 ≤ n ∧ n ≤ 9223372036854775807 := by
  simp [Lit.wf] at h
  have h2 : IntKind.i64.min = -9223372036854775808 := rfl
  rw [h2] at h
  exact h
section
variable {H : Type} {enc : TypeId × Value → H} {P : Program}
theorem post_of_below {f : Func} {s : ChangeSpec} {apart fresh handsOn again : Bool} {W W' : World} {args : Array Value} {v : Value} {ds gs : List (DataW H)} {before pa pv : List MemPlace}
    (hW : DataW.Whole enc P f.params.toList s.vars apart W args.toList ds gs before)
    (hres : ∀ (b : Nat) (sp : Nat → Bool) (hd : Bool), DataW.TrodAll enc P W' b sp hd f.resultTypes.toList (v.resultList f.resultTypes.size) (s.fn H (ds ++ gs)).results [])
    (hargs : ∀ sp : Nat → Bool, (∀ p ∈ before, sp p.block = true) → DataW.TrodAll enc P W' 0 sp true f.params.toList args.toList (s.fn H (ds ++ gs)).args pa)
    (hvars : ∀ sp : Nat → Bool, (∀ p ∈ before, sp p.block = true) → DataW.TrodVars enc P W' sp s.vars (s.fn H (ds ++ gs)).vars pv)
    (hps : before = pa ++ pv) (hb : Below W.heap.size W W')
    (hok : ∀ (j : Nat) (t : TypeId) (r : Value), f.resultTypes[j]? = some t → (v.resultList f.resultTypes.size)[j]? = some r → Value.okWide P W' .any 0 t r) :
    s.post enc P f apart fresh handsOn again W args v W' := by
  have hlt : ∀ p ∈ before, p.block < W.heap.size := fun p hp => hW.lt p hp
  have hold : ∀ p ∈ before, (fun b => decide (b < W.heap.size)) p.block = true := fun p hp => by simpa using hlt p hp
  refine ⟨ds, gs, before, [], pa, pv, hW, hres _ _ _, hargs _ hold, hvars _ hold, World.keptBut_mono (fun p hp => ⟨hp, ?_⟩) (hb.frame (· ∈ before)), fun _ => ?_⟩
  · rw [hps, List.mem_append] at hp
    exact Or.inr hp
  · obtain ⟨_, _, _, _, _, hz, hn⟩ := hW
    refine ⟨hok, _, _, ([] ++ pa) ++ pv, ⟨[] ++ pa, pv, trodAll_append (hargs _ (fun _ _ => rfl)) (hres _ _ _), hvars _ (fun _ _ => rfl), rfl, ?_, ?_⟩, ?_⟩
    · intro b off hp
      have hin : MemPlace.cell b off ∈ before := by rw [hps]; simpa using hp
      rw [hb.frozen (hlt _ hin)]
      exact hz b off hin
    · intro ha
      have := hn ha
      rw [hps] at this
      simpa using this
    · intro p hp _
      rw [hps]
      simpa using hp
end
theorem own : ownKnob Tryz.prog.godebug = none := by kernel_rfl
theorem trod_f64 {H : Type} {enc : TypeId × Value → H} {P : Program} {w : World} {base fuel : Nat} {spare : Nat → Bool} {held : Bool} {t : TypeId} {cs : List Value} {x : DataW H × List MemPlace} (ht : P.underlying t = some (.float .f64))
    (h : DataW.trod enc P w base spare held fuel t cs = some x) : ∃ b, cs = [.float .f64 b] ∧ b < 2 ^ 64 := by
  cases fuel with
  | zero => simp [DataW.trod] at h
  | succ n =>
    unfold DataW.trod at h
    rw [ht] at h
    split at h <;> simp_all [Lit.wf]
    rename_i hk
    subst hk
    simp at h
    exact ⟨_, ⟨h.1.1, rfl⟩, h.1.2⟩

set_option maxRecDepth 100000 in
theorem open_i64 {H : Type} {enc : TypeId × Value → H} {W : World} {base b0 : Nat} {sp : Nat → Bool} {held : Bool} {r : Reach} {v : Value} {d : DataW H} {ps : List MemPlace}
    (hv : Value.okWide Tryz.prog W r b0 3 v) (h : DataW.Trod enc Tryz.prog W base sp held 3 v d ps) : ∃ z : Int, v = .int .i64 z ∧ -9223372036854775808 ≤ z ∧ z ≤ 9223372036854775807 := by
  obtain ⟨z, rfl, _, _, hw⟩ := open_int Tryz.underlying3 hv h
  exact ⟨z, rfl, wf63 hw⟩
theorem laidOut : laidOutB Tryz.prog = true := by kernel_rfl
theorem all_stays {H : Type} {enc : TypeId × Value → H} {W W' : World} (hb : Below W.heap.size W W') {sp : Nat → Bool} : ∀ {ts : List TypeId} {vs : List Value} {ds : List (DataW H)} {ps : List MemPlace},
    (∀ t ∈ ts, Tryz.prog.readableRec t = true ∧ t < Tryz.prog.types.size) → DataW.TrodAll enc Tryz.prog W 0 (fun _ => true) true ts vs ds ps → (∀ p ∈ ps, p.block < W.heap.size) → (∀ p ∈ ps, sp p.block = true) →
    DataW.TrodAll enc Tryz.prog W' 0 sp true ts vs ds ps
  | [], [], [], _, _, h, _, _ => h
  | _ :: _, _ :: _, _ :: _, _, hT, ⟨p, q, h1, h2, e⟩, hl, hs =>
    ⟨p, q, WideElems.Trod_stays laidOut (hT _ List.mem_cons_self).1 (hT _ List.mem_cons_self).2 h1 (fun x hx => hb.same (hl x (by rw [e]; exact List.mem_append_left _ hx))) (fun x hx => hs x (by rw [e]; exact List.mem_append_left _ hx)),
      all_stays hb (fun t ht => hT t (List.mem_cons_of_mem _ ht)) h2 (fun x hx => hl x (by rw [e]; exact List.mem_append_right _ hx)) (fun x hx => hs x (by rw [e]; exact List.mem_append_right _ hx)), e⟩
set_option maxRecDepth 100000 in
/-- a law that answers true and leaves alone what lay before -/
theorem shut_law {H : Type} {enc : TypeId × Value → H} {fn : Func} {s : ChangeSpec} {W W' : World} {args : Array Value} {ds : List (DataW H)} {before : List MemPlace} (hv : s.vars = []) (hr : fn.resultTypes = #[4])
    (hspec : s.fn H (ds ++ []) = { results := [.lit (.bool true)], args := ds }) (hvs : (s.fn H (ds ++ [])).vars = []) (hW : DataW.Whole enc Tryz.prog fn.params.toList s.vars false W args.toList ds [] before)
    (hA : DataW.TrodAll enc Tryz.prog W 0 (fun _ => true) true fn.params.toList args.toList ds before) (hT : ∀ t ∈ fn.params.toList, Tryz.prog.readableRec t = true ∧ t < Tryz.prog.types.size) (hb : Below W.heap.size W W') :
    s.post enc Tryz.prog fn false true false false W args (.bool true) W' := by
  have hlt : ∀ p ∈ before, p.block < W.heap.size := fun p hp => hW.lt p hp
  refine post_of_below (pa := before) (pv := []) hW ?_ ?_ ?_ (by simp) hb ?_
  · intro b sp hd
    rw [hr, hspec]
    exact trodAll_cons_mk (shut_bool Tryz.underlying4 _) trodAll_mk0
  · intro sp hsp
    rw [hspec]
    exact all_stays hb hT hA hlt hsp
  · intro sp _
    rw [hv, hvs]
    rfl
  · exact ok_one hr rfl (okWide_bool_mk Tryz.underlying4 _)


/-! ### what is listed -/
set_option maxRecDepth 100000 in
theorem tabs_of {W : World} (h : laidMetH Tryz.prog Rows.headOrderRow.laid W) : Tabs W := by
  have h1 := laidMetH.filter (fun x => x.1 == "unicode/utf8.acceptRanges" || x.1 == "unicode/utf8.first") h
  have e : Rows.headOrderRow.laid.filter (fun x => x.1 == "unicode/utf8.acceptRanges" || x.1 == "unicode/utf8.first") = [("unicode/utf8.acceptRanges", Rows.laid_unicode_utf8_acceptRanges), ("unicode/utf8.first", Rows.laid_unicode_utf8_first)] := by kernel_rfl
  rw [e, MakeChecks.laidMetH_plain _ _ _ (by kernel_rfl)] at h1
  exact utf8Tabs_of_reads (ρ := Tryz.lays197_ren) { Tryz.lays197 with } ⟨by kernel_rfl, by kernel_rfl, by kernel_rfl, by kernel_rfl, by kernel_rfl, by kernel_rfl, by kernel_rfl⟩ (Lib.laidMet.reads h1 (.tail _ (.head _))) (Lib.laidMet.reads h1 (.head _))
/-- a world for a witness: the two tables hold what is listed -/
noncomputable def layFirst : Obj → Obj
  | .cells _ t frozen => .cells ((Array.range 256).map fun c => Value.int .u8 (Lib.firstT c : Int)) t frozen
  | o => o
noncomputable def layAccept : Obj → Obj
  | .cells _ t frozen => .cells ((Array.range 32).map fun i => Value.int .u8 ((if i % 2 = 0 then Lib.accLo (i / 2) else Lib.accHi (i / 2) : Nat) : Int)) t frozen
  | o => o
noncomputable def laidWorld (os : Os) : World :=
  { World.holding Tryz.prog os ⟨#[], #[], []⟩ with heap := ((World.holding Tryz.prog os ⟨#[], #[], []⟩).heap.modify 1 layFirst).modify 2 layAccept }
set_option maxRecDepth 100000 in
theorem door_met (os : Os) (args : Array Value) : laidMetH Tryz.prog Rows.headOrderRow.laid ((laidWorld os).forCall (fun _ _ => 0) ⟨#[], args, []⟩).memory :=
  laidMetH_of_parts3 (fuel := 8) (laidMet_of_run' 8 (by kernel_rfl) (by kernel_rfl)) (by kernel_rfl) (by kernel_rfl)

/-! ### labels, points, batches as arguments -/
theorem cells22 : Tryz.prog.cellsOf 22 = 1 := by kernel_rfl
section
variable {H : Type} {enc : TypeId × Value → H} {W : World} {base : Nat} {sp : Nat → Bool} {held : Bool}
theorem one_str {fuel : Nat} {v : Value} {x : DataW H × List MemPlace} (h : DataW.trod enc Tryz.prog W base sp held fuel 9 [v] = some x) : ∃ s : ByteArray, v = .string s ∧ s.size ≤ 9223372036854775807 := by
  obtain ⟨s, hs, -, hm⟩ := DataW.trod_string Tryz.underlying9 h
  injection hs with hs
  exact ⟨s, hs, hm⟩
set_option maxRecDepth 100000 in
theorem one_labels {fuel : Nat} {v : Value} {x : DataW H × List MemPlace} (h : DataW.trod enc Tryz.prog W base sp held fuel 37 [v] = some x) :
    ∃ ls : List Lbl, LabsAt W W.heap.size v ls ∧ Sized ls ∧ (∀ A n c, v = .slice A n c → n ≤ c) ∧ ∀ k, useB v = some k → k < W.heap.size := by
  rcases open_slice_fields Tryz.underlying37 Tryz.underlying55 (by kernel_rfl) (by kernel_rfl) h with ⟨hcs, -⟩ | ⟨a, len, cap, m, D, Pl, hcs, hb, hl, hm, hmm, hx, hi⟩
  · injection hcs with hcs
    subst hcs
    exact ⟨[], ⟨none, 0, rfl, Reads.none_⟩, ⟨Nat.zero_le _, fun q hq => by cases hq⟩, fun A n c e => by injection e with e1 e2 e3; omega, fun k hk => by cases hk⟩
  · injection hcs with hcs
    subst hcs
    have hlm : len ≤ m := by rw [hmm]; split <;> omega
    have hx : ∀ i : Nat, ∃ y : Lbl, i < len → W.cell? (a.add (i * 2)) = some (.string y.1) ∧ W.cell? (a.add (i * 2 + 1)) = some (.string y.2) ∧ y.1.size ≤ 9223372036854775807 ∧ y.2.size ≤ 9223372036854775807 := by
      intro i
      by_cases hil : i < len
      · obtain ⟨ys, n, -, -, -, hfld⟩ := hi i (by omega)
        obtain ⟨v0, y0, q0, -, t0⟩ := hfld 0 _ rfl
        obtain ⟨v1, y1, q1, -, t1⟩ := hfld 1 _ rfl
        obtain ⟨s0, rfl, m0⟩ := one_str t0
        obtain ⟨s1, rfl, m1⟩ := one_str t1
        exact ⟨(s0, s1), fun _ => ⟨q0, q1, m0, m1⟩⟩
      · exact ⟨(⟨#[]⟩, ⟨#[]⟩), fun h => absurd h hil⟩
    obtain ⟨f, hf⟩ := Classical.skolem.1 hx
    have hlr : ((List.range len).map f).length = len := by simp
    have hget : ∀ j (p : Lbl), ((List.range len).map f)[j]? = some p → j < len ∧ p = f j := fun j p hj => by
      have hjl : j < len := by have := (List.getElem?_eq_some_iff.1 hj).1; simpa using this
      rw [List.getElem?_map, List.getElem?_range hjl] at hj
      injection hj with hj
      exact ⟨hjl, hj.symm⟩
    refine ⟨(List.range len).map f, ⟨some a, cap, by rw [hlr], ?_⟩, ⟨by rw [hlr]; exact Nat.le_trans hl hm, fun q hq => ?_⟩, fun A n c e => by injection e with e1 e2 e3; omega, fun k hk => ?_⟩
    · rw [hlr]
      refine ⟨by rw [flat2_len, hlr], fun h0 => ⟨a, rfl, ?_, fun j u hu => ?_⟩⟩
      · have := World.block_lt_of_cell? W _ (hf 0 h0).1
        rwa [block_of_add] at this
      · have hj2 : j < len * 2 := by have := (List.getElem?_eq_some_iff.1 hu).1; rw [flat2_len, hlr] at this; exact this
        have hjl : j / 2 < len := by omega
        obtain ⟨g0, g1⟩ := flat2_get (fun p : Lbl => Value.string p.1) (fun p : Lbl => Value.string p.2) ((List.range len).map f) (j / 2) (f (j / 2)) (by rw [List.getElem?_map, List.getElem?_range hjl]; rfl)
        rcases Nat.mod_two_eq_zero_or_one j with h2 | h2
        · have ej : j / 2 * 2 = j := by omega
          rw [ej] at g0
          rw [show (flatL ((List.range len).map f))[j]? = _ from g0] at hu
          injection hu with hu
          have h9 := (hf (j / 2) hjl).1
          rw [ej] at h9
          rw [← hu]
          exact h9
        · have ej : j / 2 * 2 + 1 = j := by omega
          rw [ej] at g1
          rw [show (flatL ((List.range len).map f))[j]? = _ from g1] at hu
          injection hu with hu
          have h9 := (hf (j / 2) hjl).2.1
          rw [ej] at h9
          rw [← hu]
          exact h9
    · obtain ⟨i, hi', rfl⟩ := List.mem_map.1 hq
      exact (hf i (List.mem_range.1 hi')).2.2
    · cases hlen : len with
      | zero => rw [hlen] at hk; cases hk
      | succ q =>
        rw [hlen] at hk
        injection hk with hk
        have := World.block_lt_of_cell? W _ (hf 0 (by omega)).1
        rw [block_of_add] at this
        rw [← hk]
        exact this
set_option maxRecDepth 100000 in
theorem one_points {fuel : Nat} {v : Value} {x : DataW H × List MemPlace} (h : DataW.trod enc Tryz.prog W base sp held fuel 22 [v] = some x) :
    ∃ pts : List Pt, PtsAt W W.heap.size (fun k => k < W.heap.size) v pts ∧ CapsOk W v ∧ pts.length ≤ 9223372036854775807 := by
  rcases open_slice_fields Tryz.underlying22 Tryz.underlying57 (by kernel_rfl) (by kernel_rfl) h with ⟨hcs, -⟩ | ⟨a, len, cap, m, D, Pl, hcs, hb, hl, hm, hmm, hx, hi⟩
  · injection hcs with hcs
    subst hcs
    exact ⟨[], ⟨none, 0, [], rfl, rfl, Reads.none_, fun i x p h => by simp at h⟩, (fun d m c e => by injection e with e; cases e), Nat.zero_le _⟩
  · injection hcs with hcs
    subst hcs
    have hlm : len ≤ m := by rw [hmm]; split <;> omega
    have hx : ∀ i : Nat, ∃ y : (Value × Int × Nat) × Pt, i < len → W.cell? (a.add (i * 3)) = some y.1.1 ∧ W.cell? (a.add (i * 3 + 1)) = some (.int .i64 y.1.2.1) ∧ W.cell? (a.add (i * 3 + 2)) = some (.float .f64 y.1.2.2) ∧ PtIn W W.heap.size (fun k => k < W.heap.size) y.1 y.2 ∧ ∀ A n c, y.1.1 = .slice A n c → n ≤ c := by
      intro i
      by_cases hil : i < len
      · obtain ⟨ys, n, -, -, -, hfld⟩ := hi i (by omega)
        obtain ⟨v0, y0, q0, -, t0⟩ := hfld 0 _ rfl
        obtain ⟨v1, y1, q1, -, t1⟩ := hfld 1 _ rfl
        obtain ⟨v2, y2, q2, -, t2⟩ := hfld 2 _ rfl
        obtain ⟨ls, b1, b2, b3, b4⟩ := one_labels t0
        obtain ⟨n1, rfl, w1⟩ := one_int Tryz.underlying3 t1
        obtain ⟨fb, hfb, -⟩ := trod_f64 Tryz.underlying47 t2
        injection hfb with hfb
        subst hfb
        exact ⟨((v0, n1, fb), (ls, n1, fb)), fun _ => ⟨q0, q1, q2, ⟨rfl, b1, b2, b4⟩, b3⟩⟩
      · exact ⟨((.nilFunc, 0, 0), ([], 0, 0)), fun h => absurd h hil⟩
    obtain ⟨f, hf⟩ := Classical.skolem.1 hx
    have hlr : ((List.range len).map fun i => (f i).2).length = len := by simp
    refine ⟨(List.range len).map fun i => (f i).2, ⟨some a, cap, (List.range len).map fun i => (f i).1, by rw [hlr], by simp, ?_, fun i x p h1 h2 => ?_⟩, fun d m c e j A' n' c' hj hcell => ?_, by rw [hlr]; exact Nat.le_trans hl hm⟩
    · rw [hlr]
      refine ⟨by rw [ptsV_length]; simp, fun h0 => ⟨a, rfl, ?_, fun j u hu => ?_⟩⟩
      · have := World.block_lt_of_cell? W _ (hf 0 h0).1
        rwa [block_of_add] at this
      · have hj2 : j < len * 3 := by have := (List.getElem?_eq_some_iff.1 hu).1; rw [ptsV_length] at this; simpa using this
        have hjl : j / 3 < len := by omega
        obtain ⟨g0, g1, g2⟩ := ptsV_get ((List.range len).map fun i => (f i).1) (j / 3) (f (j / 3)).1 (by rw [List.getElem?_map, List.getElem?_range hjl]; rfl)
        obtain ⟨c0, c1, c2, -⟩ := hf (j / 3) hjl
        have h3 : j % 3 = 0 ∨ j % 3 = 1 ∨ j % 3 = 2 := by omega
        rcases h3 with h2 | h2 | h2
        · have ej : j / 3 * 3 = j := by omega
          rw [ej] at g0 c0
          rw [g0] at hu
          injection hu with hu
          rw [← hu]
          exact c0
        · have ej : j / 3 * 3 + 1 = j := by omega
          rw [ej] at g1 c1
          rw [g1] at hu
          injection hu with hu
          rw [← hu]
          exact c1
        · have ej : j / 3 * 3 + 2 = j := by omega
          rw [ej] at g2 c2
          rw [g2] at hu
          injection hu with hu
          rw [← hu]
          exact c2
    · have hj : i < len := by have := (List.getElem?_eq_some_iff.1 h1).1; simpa using this
      rw [List.getElem?_map, List.getElem?_range hj] at h1 h2
      injection h1 with h1
      injection h2 with h2
      rw [← h1, ← h2]
      exact (hf i hj).2.2.2.1
    · injection e with e1 e2 e3
      injection e1 with e1
      subst e1
      have hjl : j < len := by omega
      have h9 := (hf j hjl).1
      rw [hcell] at h9
      injection h9 with h9
      exact (hf j hjl).2.2.2.2 A' n' c' h9.symm
set_option maxRecDepth 100000 in
theorem open_bats {b0 : Nat} {r : Reach} {v : Value} {d : DataW H} {ps : List MemPlace} (hv : Value.okWide Tryz.prog W r b0 43 v) (h : DataW.Trod enc Tryz.prog W base sp held 43 v d ps) :
    ∃ (A : Option Addr) (n cap : Nat) (bs : List (List Pt)), v = .slice A n cap ∧ n = bs.length ∧ n ≤ 9223372036854775807 ∧ BatsAt W W.heap.size A bs := by
  obtain ⟨a, len, cap, rfl⟩ := okWide_slice Tryz.underlying43 hv
  obtain ⟨fuel, hf⟩ := h
  rcases open_slice Tryz.underlying43 hf with ⟨hcs, -⟩ | ⟨a', len', cap', m, n, D, Pl, hcs, hb, hl, hm, hmm, hx, hi⟩
  · simp only [Value.cells, List.cons.injEq, and_true] at hcs
    cases hcs
    exact ⟨none, 0, 0, [], rfl, rfl, Nat.zero_le _, ⟨[], Reads.none_, fun i x b h => by simp at h⟩⟩
  · simp only [Value.cells, List.cons.injEq, and_true] at hcs
    cases hcs
    have hlm : len ≤ m := by rw [hmm]; split <;> omega
    have hx : ∀ i : Nat, ∃ y : Value × List Pt, i < len → W.cell? (a'.add i) = some y.1 ∧ PtsAt W W.heap.size (fun k => k < W.heap.size) y.1 y.2 ∧ CapsOk W y.1 ∧ y.2.length ≤ 9223372036854775807 := by
      intro i
      by_cases hil : i < len
      · obtain ⟨cs', hc, ht⟩ := hi i (by omega)
        rw [cells22, Nat.mul_one] at hc
        obtain ⟨_, hcl, hat⟩ := World.cells?_some hc
        match cs', hcl, hat, ht with
        | [u], _, hat, ht =>
          obtain ⟨b, hb1, hb2, hb3⟩ := one_points ht
          have h0 := hat 0 (by omega)
          have h9 : W.cell? (a'.add (i + 0)) = some u := by rw [← Go.Deep.add_add]; exact h0
          exact ⟨(u, b), fun _ => ⟨h9, hb1, hb2, hb3⟩⟩
      · exact ⟨(.nilFunc, []), fun h => absurd h hil⟩
    obtain ⟨f, hf⟩ := Classical.skolem.1 hx
    have hlr : ((List.range len).map fun i => (f i).2).length = len := by simp
    refine ⟨some a', len, cap, (List.range len).map fun i => (f i).2, rfl, hlr.symm, Nat.le_trans hl hm, (List.range len).map fun i => (f i).1, ?_, fun i x b h1 h2 => ?_⟩
    · rw [hlr]
      refine ⟨by simp, fun h0 => ⟨a', rfl, ?_, fun j u hu => ?_⟩⟩
      · have := World.block_lt_of_cell? W _ (hf 0 h0).1
        rwa [block_of_add] at this
      · have hj : j < len := by have := (List.getElem?_eq_some_iff.1 hu).1; simpa using this
        rw [List.getElem?_map, List.getElem?_range hj] at hu
        injection hu with hu
        rw [← hu]
        exact (hf j hj).1
    · have hj : i < len := by have := (List.getElem?_eq_some_iff.1 h1).1; simpa using this
      rw [List.getElem?_map, List.getElem?_range hj] at h1 h2
      injection h1 with h1
      injection h2 with h2
      rw [← h1, ← h2]
      exact (hf i hj).2
end
end Go.Proofs.YtbeeejpjnniejaaGreatDoor
