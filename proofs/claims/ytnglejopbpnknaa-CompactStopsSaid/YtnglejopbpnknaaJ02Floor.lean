/- The walks of compact.Floor and of the law's wakes. The walk of the law's wakes. What each row of the seat wants: an argument that is a row of integers; a law that answers true and leaves alone what lay before. Began as the kit's extra-small 9 (post_of_below). Stable sorting, plainly: a list is known by its order and by what is of one rank in it; insertion, merging by symmetric cuts. Three-way comparisons, plainly: of bytes, of labels, of rows of labels. Rows of two cells each: one row of them, two that change places. swapRange of ser (80). rotate of ser (72). Stable sorting, plainly: the symmetric cut of two rows side by side, as the library's search finds it. -/
import Derived.Test.YtnglejopbpnknaaJ01Merge
import Derived.Test.YtnglejopbpnknaaRows
import Derived.WalkKit
import Derived.ProofKit
import Derived.OpenShut
import Derived.Deep.Slices
import Derived.ChangeSame
import Derived.ChangeSlices
import Derived.Below
import Derived.Carry
import Derived.Deep.DeepHandedRow
import Derived.Deep.Fields
import Derived.Test.YtnglejopbpnknaaJ00Lib
import Derived.Lib.Strings
import Derived.BigRegion
namespace Go.Proofs.Ytnglejopbpnknaa
open Go.RowKit Go.Shelf

def clampT (t : Int) : Int := min (max t (-9007199254740992)) 9007199254740992
theorem clampT_bd (t : Int) : -9007199254740992 ≤ clampT t ∧ clampT t ≤ 9007199254740992 := by unfold clampT; omega
def wideT (wd : Int) : Int := max wd 1
def floorZ (t wd : Int) : Int := clampT t - clampT t % wideT wd

theorem ret_int {a b : Int} (h : a = b) : Ending.returned (.int .i64 a) = Ending.returned (.int .i64 b) := by rw [h]
theorem within_any (t : Int) (w : World) : Calls Try.prog 34 #[.int .i64 t] w fun e w' => e = .returned (.int .i64 (clampT t)) ∧ w = w' := by
  go_enter Try.func34, Try.ntmps34
  go_wp2
  all_goals
    refine bodyPost_ret (results_tmp rfl _ _ _) rfl ?_
    refine ⟨ret_int ?_, rfl⟩
    unfold clampT
    first | omega | (split at * <;> omega)
theorem rem_facts (c b : Int) (hb : 1 ≤ b) : -b < c.tmod b ∧ c.tmod b < b ∧ (c.tmod b < 0 → c % b = c.tmod b + b) ∧ (0 ≤ c.tmod b → c % b = c.tmod b) := by
  have h1 := Int.tmod_lt_of_pos c (show 0 < b by omega)
  have h2 := Int.lt_tmod_of_pos c (show 0 < b by omega)
  refine ⟨h2, h1, fun h => ?_, fun h => ?_⟩
  · have h5 := Int.tmod_add_mul_tdiv c b
    have e : (c.tmod b + b) + b * (c.tdiv b - 1) = c := by rw [Int.mul_sub]; omega
    have e2 : c % b = ((c.tmod b + b) + b * (c.tdiv b - 1)) % b := by rw [e]
    rw [e2, Int.add_mul_emod_self_left, Int.emod_eq_of_lt (by omega) (by omega)]
  · have h5 := Int.tmod_add_mul_tdiv c b
    have e : c = c.tmod b + b * c.tdiv b := by omega
    have e2 : c % b = (c.tmod b + b * c.tdiv b) % b := by rw [← e]
    rw [e2, Int.add_mul_emod_self_left, Int.emod_eq_of_lt h h1]
theorem floor_ge (c b : Int) (hb : 9007199254740992 ≤ b) (hc : -9007199254740992 ≤ c) : -b ≤ c - c % b := by
  have h6 := Int.emod_add_mul_ediv c b
  have h7 : -1 ≤ c / b := Int.le_ediv_of_mul_le (by omega) (by omega)
  have h8 := Int.mul_le_mul_of_nonneg_left h7 (show 0 ≤ b by omega)
  omega
theorem floor_any (t wd : Int) (w : World) (hw : wd < 9223372036854775808) : Calls Try.prog 16 #[.int .i64 t, .int .i64 wd] w fun e w' => e = .returned (.int .i64 (floorZ t wd)) ∧ w = w' := by
  have hc := clampT_bd t
  have HF := Lib.hid (show floorZ t wd = clampT t - clampT t % wideT wd from rfl)
  have HR := Lib.hid (rem_facts (clampT t) (wideT wd) (by unfold wideT; omega))
  have HW := Lib.hid (show wideT wd = max wd 1 from rfl)
  generalize hcc : clampT t = c at *
  generalize hff : floorZ t wd = f at *
  generalize hbb : wideT wd = b at *
  have HG := Lib.hid (fun h => floor_ge c b h hc.1)
  clear hff hbb
  rcases Int.lt_or_le wd 1 with h | h
  case inl =>
    go_enter Try.func16, Try.ntmps16
    go_wp2_with fail
    refine (within_any t w).mono ?_
    rintro e w' ⟨rfl, rfl⟩
    rw [hcc]
    clear hcc
    go_wp2
    refine bodyPost_ret (results_tmp rfl _ _ _) rfl ?_
    refine ⟨ret_int ?_, rfl⟩
    have h1 := HW.out
    have h2 := HF.out
    have h3 : b = 1 := by omega
    rw [h3, Int.emod_one] at h2
    omega
  case inr =>
    have hne : wd ≠ 0 := by omega
    go_enter Try.func16, Try.ntmps16
    go_wp2_with fail
    refine (within_any t w).mono ?_
    rintro e w' ⟨rfl, rfl⟩
    rw [hcc]
    clear hcc
    go_wp2
    all_goals
      refine bodyPost_ret (results_tmp rfl _ _ _) rfl ?_
      refine ⟨ret_int ?_, rfl⟩
      have h1 := HW.out
      have h2 := HF.out
      have h3 : b = wd := by omega
      have h4 := HR.out
      have h6 := HG.out
      rw [h3] at h2 h4 h6
      obtain ⟨r1, r2, r3, r4⟩ := h4
      generalize c.tmod wd = m at *
      generalize c % wd = k at *
      unfold wrap64
      rcases Int.lt_or_le wd 9007199254740992 with hs | hs
      · first
          | (have r5 := r3 (by omega); omega)
          | (have r5 := r4 (by omega); omega)
      · have r6 := h6 hs
        first
          | (have r5 := r3 (by omega); omega)
          | (have r5 := r4 (by omega); omega)
end Go.Proofs.Ytnglejopbpnknaa
namespace Go.Proofs.Ytnglejopbpnknaa
open Go.RowKit Go.Shelf
attribute [local go_sem] run_store_float0

theorem eq_func_nil (w : World) (d : Nat) (f : Fn) (a c : Array Value) : (Op.equalIn (d + 1) 29 (.func f a c) .nilFunc).run Try.prog w = .ok false w := by
  simp [Op.equalIn, run_underlying Try.underlying29]
theorem func_nil (w : World) (f : Fn) (a c : Array Value) : (binOp .eql 29 (.func f a c) .nilFunc).run Try.prog w = .ok (.bool false) w := by
  simp only [binOp]
  simp [Op.equal, Op.maxDepth, eq_func_nil w 9999 f a c]

/-- the seven blocks that wakes lays -/
def wk (w : World) : World := (((((((w.alloc (.cells #[.string xA, .string yA] 61)).alloc (.cells #[.int .i64 1, .float .f64 4607182418800017408] 51)).alloc (.cells #[.slice (some ⟨w.heap.size, 0, none⟩) 1 1, .slice (some ⟨w.heap.size + 1, 0, none⟩) 1 1] 34)).alloc (.cells #[.string xA, .string yA] 61)).alloc (.cells #[.int .i64 1, .float .f64 4621256167635550208, .int .i64 2, .float .f64 4611686018427387904] 51)).alloc (.cells #[.slice (some ⟨w.heap.size + 1 + 1 + 1, 0, none⟩) 1 1, .slice (some ⟨w.heap.size + 1 + 1 + 1 + 1, 0, none⟩) 2 2] 34)).alloc (.cells #[.slice (some ⟨w.heap.size + 1 + 1, 0, none⟩) 1 1, .slice (some ⟨w.heap.size + 1 + 1 + 1 + 1 + 1, 0, none⟩) 1 1] 22))
theorem Blk.new_ (w : World) (g : Nat) (t : TypeId) (cs : Array Value) (h : w.heap.size = g) : Blk (w.alloc (.cells cs t)) g t cs := by rw [← h]; exact Blk.new w t cs
theorem wk_size (w : World) : (wk w).heap.size = w.heap.size + 1 + 1 + 1 + 1 + 1 + 1 + 1 := by unfold wk; simp only [World.size_alloc]
theorem wk_below (w : World) : Below w.heap.size w (wk w) := by
  have h0 := (Below.refl w.heap.size w).alloc (Nat.le_refl _) (.cells #[.string xA, .string yA] 61)
  have h1 := h0.alloc h0.size (.cells #[.int .i64 1, .float .f64 4607182418800017408] 51)
  have h2 := h1.alloc h1.size (.cells #[.slice (some ⟨w.heap.size, 0, none⟩) 1 1, .slice (some ⟨w.heap.size + 1, 0, none⟩) 1 1] 34)
  have h3 := h2.alloc h2.size (.cells #[.string xA, .string yA] 61)
  have h4 := h3.alloc h3.size (.cells #[.int .i64 1, .float .f64 4621256167635550208, .int .i64 2, .float .f64 4611686018427387904] 51)
  have h5 := h4.alloc h4.size (.cells #[.slice (some ⟨w.heap.size + 1 + 1 + 1, 0, none⟩) 1 1, .slice (some ⟨w.heap.size + 1 + 1 + 1 + 1, 0, none⟩) 2 2] 34)
  exact h5.alloc h5.size (.cells #[.slice (some ⟨w.heap.size + 1 + 1, 0, none⟩) 1 1, .slice (some ⟨w.heap.size + 1 + 1 + 1 + 1 + 1, 0, none⟩) 1 1] 22)
theorem wk_in2 (w : World) : In2 (wk w) (w.heap.size + 1 + 1 + 1 + 1 + 1 + 1) (w.heap.size + 1 + 1) (w.heap.size + 1 + 1 + 1 + 1 + 1) w.heap.size (w.heap.size + 1) (w.heap.size + 1 + 1 + 1) (w.heap.size + 1 + 1 + 1 + 1) := by
  have b0 : Blk (wk w) w.heap.size 61 #[.string xA, .string yA] := ((((((Blk.new w 61 _).alloc _).alloc _).alloc _).alloc _).alloc _).alloc _
  have b1 : Blk (wk w) (w.heap.size + 1) 51 #[.int .i64 1, .float .f64 4607182418800017408] := (((((Blk.new_ _ _ 51 _ (by simp only [World.size_alloc])).alloc _).alloc _).alloc _).alloc _).alloc _
  have b2 : Blk (wk w) (w.heap.size + 1 + 1) 34 #[.slice (some ⟨w.heap.size, 0, none⟩) 1 1, .slice (some ⟨w.heap.size + 1, 0, none⟩) 1 1] := ((((Blk.new_ _ _ 34 _ (by simp only [World.size_alloc])).alloc _).alloc _).alloc _).alloc _
  have b3 : Blk (wk w) (w.heap.size + 1 + 1 + 1) 61 #[.string xA, .string yA] := (((Blk.new_ _ _ 61 _ (by simp only [World.size_alloc])).alloc _).alloc _).alloc _
  have b4 : Blk (wk w) (w.heap.size + 1 + 1 + 1 + 1) 51 #[.int .i64 1, .float .f64 4621256167635550208, .int .i64 2, .float .f64 4611686018427387904] := ((Blk.new_ _ _ 51 _ (by simp only [World.size_alloc])).alloc _).alloc _
  have b5 : Blk (wk w) (w.heap.size + 1 + 1 + 1 + 1 + 1) 34 #[.slice (some ⟨w.heap.size + 1 + 1 + 1, 0, none⟩) 1 1, .slice (some ⟨w.heap.size + 1 + 1 + 1 + 1, 0, none⟩) 2 2] := (Blk.new_ _ _ 34 _ (by simp only [World.size_alloc])).alloc _
  have b6 : Blk (wk w) (w.heap.size + 1 + 1 + 1 + 1 + 1 + 1) 22 #[.slice (some ⟨w.heap.size + 1 + 1, 0, none⟩) 1 1, .slice (some ⟨w.heap.size + 1 + 1 + 1 + 1 + 1, 0, none⟩) 1 1] := Blk.new_ _ _ 22 _ (by simp only [World.size_alloc])
  exact ⟨b6.cell 0, b6.cell 1, b2.cell 0, b2.cell 1, b5.cell 0, b5.cell 1, ⟨b0.cell 0, b0.cell 1, b0.lt⟩, ⟨b3.cell 0, b3.cell 1, b3.lt⟩, b1.cell 0, b1.cell 1, b4.cell 0, b4.cell 1, b4.cell 2, b4.cell 3, b6.lt, b2.lt, b5.lt, b1.lt, b4.lt⟩

set_option maxRecDepth 100000 in
set_option maxHeartbeats 3200000 in
theorem wakes_any (w : World) : Calls Try.prog 12 #[] w fun e w' => e = .returned (.bool true) ∧ Below w.heap.size w w' := by
  go_enter Try.func12, Try.ntmps12
  go_wp2_with fail
  refine (merge_two _ _ _ _ _ _ _ (wk w) (wk_in2 w)).mono ?_
  rintro e w2 ⟨rfl, ⟨gB, cB, gL, cL, gS, cS, gL2, cL2, gS2, cS2, hM⟩, hb2⟩
  have hfn := fun W => func_nil W (.func 26) #[] #[.pointer (some ⟨(wk w).heap.size, 0, none⟩)]
  have HM := Lib.hid hM
  have HB2 := Lib.hid ((wk_below w).trans (hb2.mono (wk_below w).size))
  clear hM hb2
  go_wp2_with fail
  refine (collect_one _ gB cB gL cL gS cS gL2 cL2 gS2 cS2 w2 HM.out).mono ?_
  rintro e w3 ⟨g, c, gl, cl, gs, cs, rfl, hc⟩
  have c0 : w3.cell? ⟨g, 0, none⟩ = some (.slice (some ⟨gl, 0, none⟩) 1 cl) := by rw [hc.all_.cellAt 0 (by omega)]; rfl
  have c1 : w3.cell? ⟨g, 1, none⟩ = some (.slice (some ⟨gs, 0, none⟩) 2 cs) := by rw [hc.all_.cellAt 1 (by omega)]; rfl
  have d1 : w3.cell? ⟨gs, 1, none⟩ = some (.float .f64 4607182418800017408) := by rw [hc.smp.cellAt 1 (by omega)]; rfl
  have HB3 := Lib.hid (HB2.out.trans (hc.below.mono HB2.out.size))
  clear hc HM hfn
  go_wp2_with fail
  refine (floor_any (-1) 5 w3 (by omega)).mono ?_
  rintro e w4 ⟨rfl, rfl⟩
  rw [show floorZ (-1) 5 = -5 by decide]
  go_wp2
  refine bodyPost_ret (results_tmp rfl _ _ _) rfl ?_
  exact ⟨rfl, HB3.out⟩
end Go.Proofs.Ytnglejopbpnknaa
namespace Go.Proofs.Ytnglejopbpnknaa
open Go.ChangeShapes Go.WideShapes Go.ChangeAt Go.RowKit Go.Deep

section
variable {H : Type} {enc : TypeId × Value → H} {P : Program}
theorem post_of_below {f : Func} {s : ChangeSpec} {apart fresh handsOn again : Bool} {W W' : World} {args : Array Value} {v : Value} {ds gs : List (DataW H)} {before pa pv : List MemPlace}
    (hW : DataW.Whole enc P f.params.toList s.vars apart W args.toList ds gs before)
    (hres : ∀ (b : Nat) (sp : Nat → Bool) (hd : Bool), DataW.TrodAll enc P W' b sp hd f.resultTypes.toList (v.resultList f.resultTypes.size) (s.fn H (ds ++ gs)).results [])
    (hargs : ∀ sp : Nat → Bool, (∀ p ∈ before, sp p.block = true) → DataW.TrodAll enc P W' 0 sp true f.params.toList args.toList (s.fn H (ds ++ gs)).args pa)
    (hvars : ∀ sp : Nat → Bool, (∀ p ∈ before, sp p.block = true) → DataW.TrodVars enc P W' sp s.vars (s.fn H (ds ++ gs)).vars pv)
    (hps : before = pa ++ pv) (hb : Below W.heap.size W W')
    (hok : ∀ (j : Nat) (t : TypeId) (r : Value), f.resultTypes[j]? = some t → (v.resultList f.resultTypes.size)[j]? = some r → Value.okWide P W' .any 0 t r) :
    s.post enc P f apart fresh handsOn again W args v W' := by
  have hlt : ∀ p ∈ before, p.block < W.heap.size := fun p hp => hW.lt p hp
  have hold : ∀ p ∈ before, (fun b => decide (b < W.heap.size)) p.block = true := fun p hp => by simpa using hlt p hp
  refine ⟨ds, gs, before, [], pa, pv, hW, hres _ _ _, hargs _ hold, hvars _ hold, World.keptBut_mono (fun p hp => ⟨hp, ?_⟩) (hb.frame (· ∈ before)), fun _ => ?_⟩
  · rw [hps, List.mem_append] at hp
    exact Or.inr hp
  · obtain ⟨_, _, _, _, _, hz, hn⟩ := hW
    refine ⟨hok, _, _, ([] ++ pa) ++ pv, ⟨[] ++ pa, pv, trodAll_append (hargs _ (fun _ _ => rfl)) (hres _ _ _), hvars _ (fun _ _ => rfl), rfl, ?_, ?_⟩, ?_⟩
    · intro b off hp
      have hin : MemPlace.cell b off ∈ before := by rw [hps]; simpa using hp
      rw [hb.frozen (hlt _ hin)]
      exact hz b off hin
    · intro ha
      have := hn ha
      rw [hps] at this
      simpa using this
    · intro p hp _
      rw [hps]
      simpa using hp
end

theorem own : ownKnob Try.prog.godebug = none := by kernel_rfl
theorem cells3 : Try.prog.cellsOf 3 = 1 := by kernel_rfl

set_option maxRecDepth 100000 in
/-- an argument that is a row of integers, opened -/
theorem open_nums {H : Type} {enc : TypeId × Value → H} {W : World} {base b0 : Nat} {sp : Nat → Bool} {held : Bool} {r : Reach} {v : Value} {d : DataW H} {ps : List MemPlace}
    (hv : Value.okWide Try.prog W r b0 40 v) (h : DataW.Trod enc Try.prog W base sp held 40 v d ps) :
    ∃ (A : Option Addr) (n cap : Nat) (l : List Int), v = .slice A n cap ∧ n ≤ cap ∧ Reads W W.heap.size 1 A n (l.map (Value.int .i64)) := by
  obtain ⟨a, len, cap, rfl⟩ := okWide_slice Try.underlying40 hv
  obtain ⟨fuel, hf⟩ := h
  rcases open_ints Try.underlying40 Try.underlying3 cells3 hf with ⟨hcs, _⟩ | ⟨a', len', cap', zs, hcs, _, hl, _, hz, _, hc, _⟩
  · simp only [Value.cells, List.cons.injEq, and_true] at hcs
    cases hcs
    exact ⟨none, 0, 0, [], rfl, Nat.le_refl _, Reads.none_⟩
  · simp only [Value.cells, List.cons.injEq, and_true] at hcs
    cases hcs
    have hlz : len ≤ zs.length := by rw [hz]; split <;> omega
    refine ⟨some a', len, cap, zs.take len, rfl, hl, by simp; omega, fun h0 => ⟨a', rfl, ?_, fun j u hu => ?_⟩⟩
    · have := World.block_lt_of_cell? W _ (hc 0 (by omega))
      rwa [block_of_add] at this
    · rw [List.getElem?_map] at hu
      obtain ⟨x, hx, rfl⟩ := Option.map_eq_some_iff.1 hu
      have hj : j < len := by have := (List.getElem?_eq_some_iff.1 hx).1; simp at this; omega
      rw [hc j (by omega), List.getD]
      rw [List.getElem?_take_of_lt hj] at hx
      rw [hx]
      rfl

theorem laidOut : laidOutB Try.prog = true := by kernel_rfl

theorem all_stays {H : Type} {enc : TypeId × Value → H} {W W' : World} (hb : Below W.heap.size W W') {sp : Nat → Bool} : ∀ {ts : List TypeId} {vs : List Value} {ds : List (DataW H)} {ps : List MemPlace},
    (∀ t ∈ ts, Try.prog.readableRec t = true ∧ t < Try.prog.types.size) → DataW.TrodAll enc Try.prog W 0 (fun _ => true) true ts vs ds ps → (∀ p ∈ ps, p.block < W.heap.size) → (∀ p ∈ ps, sp p.block = true) →
    DataW.TrodAll enc Try.prog W' 0 sp true ts vs ds ps
  | [], [], [], _, _, h, _, _ => h
  | _ :: _, _ :: _, _ :: _, _, hT, ⟨p, q, h1, h2, e⟩, hl, hs =>
    ⟨p, q, WideElems.Trod_stays laidOut (hT _ List.mem_cons_self).1 (hT _ List.mem_cons_self).2 h1 (fun x hx => hb.same (hl x (by rw [e]; exact List.mem_append_left _ hx))) (fun x hx => hs x (by rw [e]; exact List.mem_append_left _ hx)),
      all_stays hb (fun t ht => hT t (List.mem_cons_of_mem _ ht)) h2 (fun x hx => hl x (by rw [e]; exact List.mem_append_right _ hx)) (fun x hx => hs x (by rw [e]; exact List.mem_append_right _ hx)), e⟩

set_option maxRecDepth 100000 in
/-- a law that answers true and leaves alone what lay before -/
theorem shut_law {H : Type} {enc : TypeId × Value → H} {fn : Func} {s : ChangeSpec} {W W' : World} {args : Array Value} {ds : List (DataW H)} {before : List MemPlace} (hv : s.vars = []) (hr : fn.resultTypes = #[4])
    (hspec : s.fn H (ds ++ []) = { results := [.lit (.bool true)], args := ds }) (hvs : (s.fn H (ds ++ [])).vars = []) (hW : DataW.Whole enc Try.prog fn.params.toList s.vars false W args.toList ds [] before)
    (hA : DataW.TrodAll enc Try.prog W 0 (fun _ => true) true fn.params.toList args.toList ds before) (hT : ∀ t ∈ fn.params.toList, Try.prog.readableRec t = true ∧ t < Try.prog.types.size) (hb : Below W.heap.size W W') :
    s.post enc Try.prog fn false true false false W args (.bool true) W' := by
  have hlt : ∀ p ∈ before, p.block < W.heap.size := fun p hp => hW.lt p hp
  refine post_of_below (pa := before) (pv := []) hW ?_ ?_ ?_ (by simp) hb ?_
  · intro b sp hd
    rw [hr, hspec]
    exact trodAll_cons_mk (shut_bool Try.underlying4 _) trodAll_mk0
  · intro sp hsp
    rw [hspec]
    exact all_stays hb hT hA hlt hsp
  · intro sp _
    rw [hv, hvs]
    rfl
  · exact ok_one hr rfl (okWide_bool_mk Try.underlying4 _)
end Go.Proofs.Ytnglejopbpnknaa
namespace Go.Proofs.Ytnglejopbpnknaa

/-- what a comparison must be: 'lt' is asymmetric, and its converse's complement carries over -/
structure Rank {α : Type} (lt : α → α → Bool) : Prop where
  asym : ∀ a b, lt a b = true → lt b a = false
  neg : ∀ a b c, lt a b = false → lt b c = false → lt a c = false
section
variable {α : Type} {lt : α → α → Bool}
def eqv (lt : α → α → Bool) (a b : α) : Bool := !lt a b && !lt b a
/-- none stands ahead of one that is less -/
def Asc (lt : α → α → Bool) (l : List α) : Prop := l.Pairwise fun a b => lt b a = false
/-- of each rank the same, in the same order -/
def Alike (lt : α → α → Bool) (l m : List α) : Prop := ∀ x, l.filter (eqv lt x) = m.filter (eqv lt x)
theorem Rank.irr (h : Rank lt) (a : α) : lt a a = false := by
  cases e : lt a a with
  | false => rfl
  | true => have := h.asym a a e; rw [e] at this; exact this
theorem eqv_true {a b : α} : eqv lt a b = true ↔ lt a b = false ∧ lt b a = false := by unfold eqv; simp
theorem Rank.refl (h : Rank lt) (a : α) : eqv lt a a = true := eqv_true.2 ⟨h.irr a, h.irr a⟩
theorem Rank.symm {a b : α} (h : eqv lt a b = true) : eqv lt b a = true := eqv_true.2 (eqv_true.1 h).symm
theorem Rank.trans (h : Rank lt) {a b c : α} (h1 : eqv lt a b = true) (h2 : eqv lt b c = true) : eqv lt a c = true := by
  obtain ⟨a1, a2⟩ := eqv_true.1 h1
  obtain ⟨b1, b2⟩ := eqv_true.1 h2
  exact eqv_true.2 ⟨h.neg _ _ _ a1 b1, h.neg _ _ _ b2 a2⟩
theorem Rank.lt_trans (h : Rank lt) {a b c : α} (h1 : lt a b = true) (h2 : lt c b = false) : lt a c = true := by
  cases e : lt a c with
  | true => rfl
  | false => have := h.neg _ _ _ e h2; rw [h1] at this; exact absurd this (by decide)
theorem Alike.refl (l : List α) : Alike lt l l := fun _ => rfl
theorem Alike.symm {l m : List α} (h : Alike lt l m) : Alike lt m l := fun x => (h x).symm
theorem Alike.trans {l m k : List α} (h : Alike lt l m) (h2 : Alike lt m k) : Alike lt l k := fun x => (h x).trans (h2 x)
theorem Alike.app {l m l' m' : List α} (h : Alike lt l m) (h2 : Alike lt l' m') : Alike lt (l ++ l') (m ++ m') := fun x => by rw [List.filter_append, List.filter_append, h x, h2 x]
theorem Alike.mem (hr : Rank lt) {l m : List α} (h : Alike lt l m) {x : α} (hx : x ∈ l) : x ∈ m := by
  have h1 : x ∈ l.filter (eqv lt x) := List.mem_filter.2 ⟨hx, hr.refl x⟩
  rw [h x] at h1
  exact (List.mem_filter.1 h1).1
theorem Alike.nil (hr : Rank lt) {l : List α} (h : Alike lt [] l) : l = [] := by
  cases l with
  | nil => rfl
  | cons a t => exact absurd (h.symm.mem hr List.mem_cons_self) (by simp)
/-- a list is known by its order and its ranks -/
theorem alike_eq (hr : Rank lt) : ∀ (l m : List α), Asc lt l → Asc lt m → Alike lt l m → l = m
  | [], m, _, _, h => (h.nil hr).symm
  | a :: t, [], _, _, h => absurd (h.mem hr List.mem_cons_self) (by simp)
  | a :: t, b :: s, h1, h2, h => by
    have ha := List.pairwise_cons.1 h1
    have hb := List.pairwise_cons.1 h2
    have e1 : lt b a = false := by
      rcases List.mem_cons.1 (h.symm.mem hr (List.mem_cons_self (a := b) (l := s))) with e | e
      · rw [e]; exact hr.irr _
      · exact ha.1 _ e
    have e2 : lt a b = false := by
      rcases List.mem_cons.1 (h.mem hr (List.mem_cons_self (a := a) (l := t))) with e | e
      · rw [e]; exact hr.irr _
      · exact hb.1 _ e
    have hab : eqv lt a b = true := eqv_true.2 ⟨e2, e1⟩
    have hh : a = b := by
      have := h a
      rw [List.filter_cons_of_pos (hr.refl a), List.filter_cons_of_pos hab] at this
      exact (List.cons.inj this).1
    subst hh
    have ht : Alike lt t s := fun x => by
      have := h x
      by_cases e : eqv lt x a = true
      · rw [List.filter_cons_of_pos e, List.filter_cons_of_pos e] at this
        exact (List.cons.inj this).2
      · rwa [List.filter_cons_of_neg e, List.filter_cons_of_neg e] at this
    rw [alike_eq hr t s ha.2 hb.2 ht]
/-- two rows change places where all of the one are less than all of the other -/
theorem alike_swap (hr : Rank lt) {u v : List α} (h : ∀ p ∈ u, ∀ q ∈ v, lt q p = true) : Alike lt (u ++ v) (v ++ u) := fun x => by
  rw [List.filter_append, List.filter_append]
  by_cases hu : u.filter (eqv lt x) = []
  · rw [hu, List.append_nil, List.nil_append]
  · obtain ⟨p, hp⟩ := List.exists_mem_of_ne_nil _ hu
    obtain ⟨hp1, hp2⟩ := List.mem_filter.1 hp
    have hv : v.filter (eqv lt x) = [] := List.filter_eq_nil_iff.2 fun q hq hq2 => by
      have := (eqv_true.1 (hr.trans (Rank.symm hq2) hp2)).1
      rw [h p hp1 q hq] at this
      exact absurd this (by decide)
    rw [hv, List.append_nil, List.nil_append]
theorem asc_app {u v : List α} : Asc lt (u ++ v) ↔ Asc lt u ∧ Asc lt v ∧ ∀ p ∈ u, ∀ q ∈ v, lt q p = false := List.pairwise_append
/-- cut symmetrically, the halves merged -/
theorem sym_split (hr : Rank lt) {u1 u2 v1 v2 w1 w2 : List α} (hu : Asc lt (u1 ++ u2)) (hv : Asc lt (v1 ++ v2)) (c1 : ∀ p ∈ u1, ∀ q ∈ v2, lt q p = false) (c2 : ∀ p ∈ u2, ∀ q ∈ v1, lt q p = true)
    (h1 : Asc lt w1) (h2 : Asc lt w2) (a1 : Alike lt (u1 ++ v1) w1) (a2 : Alike lt (u2 ++ v2) w2) : Asc lt (w1 ++ w2) ∧ Alike lt ((u1 ++ u2) ++ (v1 ++ v2)) (w1 ++ w2) := by
  obtain ⟨_, _, hu3⟩ := asc_app.1 hu
  obtain ⟨_, _, hv3⟩ := asc_app.1 hv
  refine ⟨asc_app.2 ⟨h1, h2, fun p hp q hq => ?_⟩, ?_⟩
  · rcases List.mem_append.1 (a1.symm.mem hr hp) with hp | hp <;> rcases List.mem_append.1 (a2.symm.mem hr hq) with hq | hq
    · exact hu3 p hp q hq
    · exact c1 p hp q hq
    · exact hr.asym _ _ (c2 q hq p hp)
    · exact hv3 p hp q hq
  · have hs : Alike lt (u2 ++ v1) (v1 ++ u2) := alike_swap hr c2
    have e1 : (u1 ++ u2) ++ (v1 ++ v2) = u1 ++ ((u2 ++ v1) ++ v2) := by simp
    have e2 : Alike lt (u1 ++ ((u2 ++ v1) ++ v2)) (u1 ++ ((v1 ++ u2) ++ v2)) := (Alike.refl u1).app (hs.app (Alike.refl v2))
    have e3 : u1 ++ ((v1 ++ u2) ++ v2) = (u1 ++ v1) ++ (u2 ++ v2) := by simp
    rw [e1]
    exact e2.trans (by rw [e3]; exact a1.app a2)
/-- one that goes into a row from behind -/
theorem ins_step {s1 s2 : List α} {e d : α} (h : Asc lt ((s1 ++ [d]) ++ s2)) (hs : ∀ q ∈ s2, lt e q = true) (hd : lt e d = true) : Asc lt (s1 ++ (d :: s2)) ∧ ∀ q ∈ d :: s2, lt e q = true := by
  refine ⟨by simpa using h, fun q hq => ?_⟩
  rcases List.mem_cons.1 hq with rfl | hq
  · exact hd
  · exact hs q hq
theorem ins_done (hr : Rank lt) {s1 s2 : List α} {e : α} (h : Asc lt (s1 ++ s2)) (hs : ∀ q ∈ s2, lt e q = true) (hd : ∀ d, s1.getLast? = some d → lt e d = false) : Asc lt (s1 ++ e :: s2) := by
  obtain ⟨h1, h2, h3⟩ := asc_app.1 h
  have hle : ∀ p ∈ s1, lt e p = false := fun p hp => by
    have hne : s1 ≠ [] := List.ne_nil_of_mem hp
    have hl := hd _ (List.getLast?_eq_some_getLast hne)
    obtain ⟨s0, hs0⟩ : ∃ s0, s1 = s0 ++ [s1.getLast hne] := ⟨s1.dropLast, (List.dropLast_concat_getLast hne).symm⟩
    rw [hs0] at hp h1
    rcases List.mem_append.1 hp with hp | hp
    · exact hr.neg _ _ _ hl ((asc_app.1 h1).2.2 p hp _ (by simp))
    · rw [List.mem_singleton.1 hp]; exact hl
  refine asc_app.2 ⟨h1, List.pairwise_cons.2 ⟨fun q hq => hr.asym _ _ (hs q hq), h2⟩, fun p hp q hq => ?_⟩
  rcases List.mem_cons.1 hq with rfl | hq
  · exact hle p hp
  · exact h3 p hp q hq
theorem ins_alike (hr : Rank lt) {s2 : List α} {e : α} (hs : ∀ q ∈ s2, lt e q = true) : Alike lt (s2 ++ [e]) (e :: s2) := alike_swap hr (v := [e]) fun p hp q hq => by rw [List.mem_singleton.1 hq]; exact hs p hp
/-- the search for the symmetric cut, at its end: all behind i are refused, all ahead taken -/
theorem bin_step {P : Nat → Prop} (hP : ∀ i j, i ≤ j → P j → P i) {lo c : Nat} (hl : ∀ i, i < lo → P i) (hc : P c) : ∀ i, i < c + 1 → P i := fun i hi => by
  rcases Nat.lt_or_ge i lo with h | h
  · exact hl i h
  · exact hP i c (by omega) hc
end
end Go.Proofs.Ytnglejopbpnknaa
namespace Go.Proofs.Ytnglejopbpnknaa
open Go.RowKit
structure Three {α : Type} (c : α → α → Int) : Prop where
  zero : ∀ a b, c a b = 0 ↔ a = b
  anti : ∀ a b, c b a = - c a b
  trans : ∀ a b d, c a b < 0 → c b d < 0 → c a d < 0
theorem Three.self {α : Type} {c : α → α → Int} (h : Three c) (a : α) : c a a = 0 := (h.zero a a).2 rfl
theorem bl_trans : ∀ a b c : List UInt8, Op.bytesLess a b = true → Op.bytesLess b c = true → Op.bytesLess a c = true
  | _, _, [], _, h2 => by simp [Op.bytesLess] at h2
  | _, [], _ :: _, h1, _ => by simp [Op.bytesLess] at h1
  | [], _ :: _, _ :: _, _, _ => rfl
  | a :: x, b :: y, c :: z, h1, h2 => by
    simp only [Op.bytesLess, Bool.or_eq_true, decide_eq_true_eq, Bool.and_eq_true, beq_iff_eq] at h1 h2 ⊢
    rcases h1 with h1 | ⟨rfl, h1⟩ <;> rcases h2 with h2 | ⟨rfl, h2⟩
    · exact .inl (UInt8.lt_trans h1 h2)
    · exact .inl h1
    · exact .inl h2
    · exact .inr ⟨rfl, bl_trans x y z h1 h2⟩
theorem bl_tri : ∀ a b : List UInt8, Op.bytesLess a b = false → Op.bytesLess b a = false → a = b
  | [], [], _, _ => rfl
  | [], _ :: _, h, _ => by simp [Op.bytesLess] at h
  | _ :: _, [], _, h => by simp [Op.bytesLess] at h
  | a :: x, b :: y, h1, h2 => by
    simp only [Op.bytesLess, Bool.or_eq_false_iff, decide_eq_false_iff_not, Bool.and_eq_false_iff, beq_eq_false_iff_ne] at h1 h2
    have e : a = b := by
      exact UInt8.toNat_inj.1 (by have := h1.1; have := h2.1; rw [UInt8.lt_iff_toNat_lt] at *; omega)
    subst e
    rw [bl_tri x y (by simpa using h1.2) (by simpa using h2.2)]
def cmpB (a b : List UInt8) : Int := if Op.bytesLess a b then -1 else if Op.bytesLess b a then 1 else 0
theorem cmpB_three : Three cmpB where
  zero a b := by
    unfold cmpB
    constructor
    · intro h
      cases h1 : Op.bytesLess a b with
      | true => rw [h1] at h; simp at h
      | false =>
        cases h2 : Op.bytesLess b a with
        | true => rw [h1, h2] at h; simp at h
        | false => exact bl_tri a b h1 h2
    · rintro rfl
      rw [bytesLess_self]; rfl
  anti a b := by
    unfold cmpB
    cases h1 : Op.bytesLess a b with
    | true =>
      cases h2 : Op.bytesLess b a with
      | true => have := bl_trans _ _ _ h1 h2; rw [bytesLess_self] at this; cases this
      | false => simp
    | false => cases h2 : Op.bytesLess b a <;> simp
  trans a b d h1 h2 := by
    have e1 : Op.bytesLess a b = true := by
      cases h : Op.bytesLess a b with
      | true => rfl
      | false => unfold cmpB at h1; rw [h] at h1; cases h3 : Op.bytesLess b a <;> rw [h3] at h1 <;> simp at h1
    have e2 : Op.bytesLess b d = true := by
      cases h : Op.bytesLess b d with
      | true => rfl
      | false => unfold cmpB at h2; rw [h] at h2; cases h3 : Op.bytesLess d b <;> rw [h3] at h2 <;> simp at h2
    unfold cmpB
    rw [bl_trans _ _ _ e1 e2]; simp
def lex (x y : Int) : Int := if x = 0 then y else x
theorem Three.pair {α β : Type} {c : α → α → Int} {d : β → β → Int} (h : Three c) (k : Three d) : Three fun p q : α × β => lex (c p.1 q.1) (d p.2 q.2) where
  zero p q := by
    unfold lex
    split
    · rename_i e
      rw [k.zero]
      exact ⟨fun e2 => Prod.ext ((h.zero _ _).1 e) e2, fun e2 => by rw [e2]⟩
    · rename_i e
      exact ⟨fun e2 => absurd e2 e, fun e2 => absurd (by rw [e2]; exact h.self _) e⟩
  anti p q := by
    unfold lex
    have := h.anti p.1 q.1
    have := k.anti p.2 q.2
    split <;> split <;> omega
  trans p q r h1 h2 := by
    unfold lex at h1 h2 ⊢
    by_cases e1 : c p.1 q.1 = 0
    · rw [if_pos e1] at h1
      have := (h.zero _ _).1 e1
      rw [this]
      by_cases e2 : c q.1 r.1 = 0
      · rw [if_pos e2] at h2 ⊢; exact k.trans _ _ _ h1 h2
      · rw [if_neg e2] at h2 ⊢; exact h2
    · rw [if_neg e1] at h1
      by_cases e2 : c q.1 r.1 = 0
      · have := (h.zero _ _).1 e2
        rw [← this, if_neg e1]; exact h1
      · rw [if_neg e2] at h2
        have := h.trans _ _ _ h1 h2
        rw [if_neg (by omega)]; exact this
def cmpList {α : Type} (c : α → α → Int) : List α → List α → Int
  | [], [] => 0
  | [], _ :: _ => -1
  | _ :: _, [] => 1
  | a :: x, b :: y => lex (c a b) (cmpList c x y)
theorem Three.list {α : Type} {c : α → α → Int} (h : Three c) : Three (cmpList c) where
  zero := fun a => by
    induction a with
    | nil => intro b; cases b <;> simp [cmpList]
    | cons a x ih =>
      intro b
      cases b with
      | nil => simp [cmpList]
      | cons b y =>
        simp only [cmpList, lex, List.cons.injEq]
        split
        · rename_i e; rw [ih, (h.zero _ _).1 e]; simp
        · rename_i e; exact ⟨fun e2 => absurd e2 e, fun e2 => absurd ((h.zero _ _).2 e2.1) e⟩
  anti := fun a => by
    induction a with
    | nil => intro b; cases b <;> simp [cmpList]
    | cons a x ih =>
      intro b
      cases b with
      | nil => simp [cmpList]
      | cons b y =>
        simp only [cmpList, lex]
        have := ih y
        have := h.anti a b
        split <;> split <;> omega
  trans := fun a => by
    induction a with
    | nil =>
      intro b d h1 h2
      cases b with
      | nil => simp [cmpList] at h1
      | cons b y =>
        cases d with
        | nil => simp [cmpList] at h2
        | cons d z => simp [cmpList]
    | cons a x ih =>
      intro b d h1 h2
      cases b with
      | nil => simp [cmpList] at h1
      | cons b y =>
        cases d with
        | nil => simp [cmpList] at h2
        | cons d z =>
          simp only [cmpList, lex] at h1 h2 ⊢
          by_cases e1 : c a b = 0
          · rw [if_pos e1] at h1
            have := (h.zero _ _).1 e1
            rw [this]
            by_cases e2 : c b d = 0
            · rw [if_pos e2] at h2 ⊢; exact ih _ _ h1 h2
            · rw [if_neg e2] at h2 ⊢; exact h2
          · rw [if_neg e1] at h1
            by_cases e2 : c b d = 0
            · have := (h.zero _ _).1 e2
              rw [← this, if_neg e1]; exact h1
            · rw [if_neg e2] at h2
              have := h.trans _ _ _ h1 h2
              rw [if_neg (by omega)]; exact this
/-- what is less by a comparison, of what is told of it, is a rank -/
theorem Three.rank {α β : Type} {c : α → α → Int} (h : Three c) (f : β → α) : Rank fun a b => decide (c (f a) (f b) < 0) where
  asym a b e := by
    have := of_decide_eq_true e
    have := h.anti (f a) (f b)
    exact decide_eq_false (by omega)
  neg a b d e1 e2 := by
    have e1 := of_decide_eq_false e1
    have e2 := of_decide_eq_false e2
    refine decide_eq_false fun e3 => ?_
    have k1 := h.anti (f a) (f b)
    have k2 := h.anti (f b) (f d)
    by_cases z1 : c (f a) (f b) = 0
    · rw [(h.zero _ _).1 z1] at e3; omega
    · by_cases z2 : c (f b) (f d) = 0
      · rw [← (h.zero _ _).1 z2] at e3; omega
      · have := h.trans _ _ _ (show c (f d) (f b) < 0 by omega) (show c (f b) (f a) < 0 by omega)
        have := h.anti (f a) (f d)
        omega
/-- a label: its name's and its value's bytes -/
abbrev Lbl := ByteArray × ByteArray
def cmpS (a b : ByteArray) : Int := cmpB a.toList b.toList
theorem toList_inj {a b : ByteArray} (h : a.toList = b.toList) : a = b := by
  rw [Lib.toList_data, Lib.toList_data] at h
  exact ByteArray.ext (Array.toList_inj.1 h)
theorem cmpS_three : Three cmpS where
  zero a b := (cmpB_three.zero _ _).trans ⟨toList_inj, fun h => by rw [h]⟩
  anti a b := cmpB_three.anti _ _
  trans a b d := cmpB_three.trans _ _ _
def cmpLab (p q : Lbl) : Int := lex (cmpS p.1 q.1) (cmpS p.2 q.2)
theorem cmpLab_three : Three cmpLab := cmpS_three.pair cmpS_three
def cmpL (a b : List Lbl) : Int := cmpList cmpLab a b
theorem cmpL_three : Three cmpL := cmpLab_three.list
theorem cmpS_range (a b : ByteArray) : cmpS a b = -1 ∨ cmpS a b = 0 ∨ cmpS a b = 1 := by
  unfold cmpS cmpB
  split
  · exact .inl rfl
  · split
    · exact .inr (.inr rfl)
    · exact .inr (.inl rfl)
end Go.Proofs.Ytnglejopbpnknaa
namespace Go.Proofs.Ytnglejopbpnknaa
open Go.RowKit

/-- block g begins with the rows vs, of two cells each -/
def RowAt (w : World) (g : Nat) (t : TypeId) (vs : List (Value × Value)) : Prop :=
  ∃ cs : Array Value, Blk w g t cs ∧ 2 * vs.length ≤ cs.size ∧ ∀ i p, vs[i]? = some p → cs[i * 2]? = some p.1 ∧ cs[i * 2 + 1]? = some p.2
section
variable {w w' : World} {g : Nat} {t : TypeId} {vs : List (Value × Value)}
theorem RowAt.lt (h : RowAt w g t vs) : g < w.heap.size := by obtain ⟨cs, h1, -⟩ := h; exact h1.lt
theorem RowAt.frozen (h : RowAt w g t vs) (i : Nat) : w.frozen? ⟨g, i, none⟩ = false := by obtain ⟨cs, h1, -⟩ := h; exact h1.frozen i
theorem RowAt.fst (h : RowAt w g t vs) {i : Nat} {p : Value × Value} (hi : vs[i]? = some p) : w.cell? ⟨g, i * 2, none⟩ = some p.1 := by
  obtain ⟨cs, h1, -, h3⟩ := h
  rw [h1.cell]
  exact (h3 i p hi).1
theorem RowAt.snd (h : RowAt w g t vs) {i : Nat} {p : Value × Value} (hi : vs[i]? = some p) : w.cell? ⟨g, i * 2 + 1, none⟩ = some p.2 := by
  obtain ⟨cs, h1, -, h3⟩ := h
  rw [h1.cell]
  exact (h3 i p hi).2
theorem RowAt.drewN (h : RowAt w g t vs) (n : Nat) : RowAt (w.drewN n) g t vs := h
theorem RowAt.keep (h : RowAt w g t vs) (hk : w'.heap[g]? = w.heap[g]?) : RowAt w' g t vs := by
  obtain ⟨cs, h1, h2⟩ := h
  exact ⟨cs, hk.trans h1, h2⟩
theorem RowAt.below (h : RowAt w g t vs) (hb : Below w.heap.size w w') : RowAt w' g t vs := h.keep (hb.block g h.lt)
/-- one row laid anew -/
theorem RowAt.set_ (h : RowAt w g t vs) (i : Nat) (p : Value × Value) (hi : i < vs.length) : RowAt ((w.setCell ⟨g, i * 2, none⟩ p.1).setCell ⟨g, i * 2 + 1, none⟩ p.2) g t (vs.set i p) := by
  obtain ⟨cs, h1, h2, h3⟩ := h
  refine ⟨_, (h1.set_ (i * 2) p.1).set_ (i * 2 + 1) p.2, by simpa using h2, fun j q hq => ?_⟩
  have hsz : i * 2 + 1 < cs.size := by omega
  rw [List.getElem?_set] at hq
  split at hq
  · rename_i e
    subst e
    injection hq with hq
    subst hq
    constructor
    · rw [Array.getElem?_setIfInBounds_ne (by omega), Array.getElem?_setIfInBounds_self, if_pos (by omega)]
    · rw [Array.getElem?_setIfInBounds_self, if_pos (by simpa using hsz)]
  · obtain ⟨e1, e2⟩ := h3 j q hq
    constructor
    · rw [Array.getElem?_setIfInBounds_ne (by omega), Array.getElem?_setIfInBounds_ne (by omega)]; exact e1
    · rw [Array.getElem?_setIfInBounds_ne (by omega), Array.getElem?_setIfInBounds_ne (by omega)]; exact e2
end
/-- two that change places -/
theorem set_two {α : Type} (X Y Z : List α) (p q : α) : ((X ++ p :: Y ++ q :: Z).set X.length q).set (X.length + 1 + Y.length) p = X ++ q :: Y ++ p :: Z := by
  have e1 : X ++ p :: Y ++ q :: Z = X ++ p :: (Y ++ q :: Z) := by simp
  rw [e1, List.set_append_right _ _ (Nat.le_refl _), Nat.sub_self, List.set_cons_zero]
  have e2 : X ++ q :: (Y ++ q :: Z) = (X ++ q :: Y) ++ q :: Z := by simp
  rw [e2, List.set_append_right _ _ (by simp; omega)]
  have e3 : X.length + 1 + Y.length - (X ++ q :: Y).length = 0 := by simp; omega
  rw [e3, List.set_cons_zero]
theorem get_one {α : Type} (X Z : List α) (p : α) : (X ++ p :: Z)[X.length]? = some p := by
  rw [List.getElem?_append_right (Nat.le_refl _), Nat.sub_self]; rfl
/-- two rows of rows that change places, j of them done -/
def swapped {α : Type} (x u y v z : List α) (j : Nat) : List α := x ++ (v.take j ++ u.drop j) ++ y ++ (u.take j ++ v.drop j) ++ z
theorem swapped_zero {α : Type} (x u y v z : List α) : swapped x u y v z 0 = x ++ u ++ y ++ v ++ z := by simp [swapped]
theorem swapped_all {α : Type} (x u y v z : List α) (h : u.length = v.length) : swapped x u y v z u.length = x ++ v ++ y ++ u ++ z := by
  unfold swapped
  rw [List.take_length, List.drop_length, h, List.take_length, List.drop_length]
  simp
/-- one round of it -/
theorem swapped_step {α : Type} (x u y v z : List α) (h : u.length = v.length) {j : Nat} (hj : j < u.length) : ∃ p q, p ∈ u ∧ q ∈ v ∧ (swapped x u y v z j)[x.length + j]? = some p ∧ (swapped x u y v z j)[(x ++ u ++ y).length + j]? = some q ∧
    ((swapped x u y v z j).set (x.length + j) q).set ((x ++ u ++ y).length + j) p = swapped x u y v z (j + 1) := by
  have hv : j < v.length := by omega
  obtain ⟨p, hp⟩ : ∃ p, p = u[j] := ⟨_, rfl⟩
  obtain ⟨q, hq⟩ : ∃ q, q = v[j] := ⟨_, rfl⟩
  have e1 : u.drop j = p :: u.drop (j + 1) := by rw [List.drop_eq_getElem_cons hj, hp]
  have e2 : v.drop j = q :: v.drop (j + 1) := by rw [List.drop_eq_getElem_cons hv, hq]
  have e3 : u.take (j + 1) = u.take j ++ [p] := by rw [List.take_succ_eq_append_getElem hj, hp]
  have e4 : v.take (j + 1) = v.take j ++ [q] := by rw [List.take_succ_eq_append_getElem hv, hq]
  have n1 : (x ++ v.take j).length = x.length + j := by simp; omega
  have n2 : (u.drop (j + 1) ++ y ++ u.take j).length + 1 = u.length + y.length := by simp; omega
  have e5 : swapped x u y v z j = (x ++ v.take j) ++ p :: (u.drop (j + 1) ++ y ++ u.take j) ++ q :: (v.drop (j + 1) ++ z) := by
    unfold swapped
    rw [e1, e2]
    simp
  have e6 : swapped x u y v z (j + 1) = (x ++ v.take j) ++ q :: (u.drop (j + 1) ++ y ++ u.take j) ++ p :: (v.drop (j + 1) ++ z) := by
    unfold swapped
    rw [e3, e4]
    simp
  have n3 : (x ++ u ++ y).length + j = (x ++ v.take j).length + 1 + (u.drop (j + 1) ++ y ++ u.take j).length := by
    rw [n1]
    simp only [List.length_append] at n2 ⊢
    omega
  refine ⟨p, q, by rw [hp]; exact List.getElem_mem _, by rw [hq]; exact List.getElem_mem _, ?_, ?_, ?_⟩
  · rw [e5, ← n1, List.append_assoc, List.cons_append]
    exact get_one _ _ _
  · rw [e5, n3]
    have := get_one ((x ++ v.take j) ++ p :: (u.drop (j + 1) ++ y ++ u.take j)) (v.drop (j + 1) ++ z) q
    rw [show ((x ++ v.take j) ++ p :: (u.drop (j + 1) ++ y ++ u.take j)).length = (x ++ v.take j).length + 1 + (u.drop (j + 1) ++ y ++ u.take j).length by rw [@List.length_append _ (x ++ v.take j) _, List.length_cons]; omega] at this
    exact this
  · rw [e5, n3, ← n1, set_two, e6]
theorem swapped_len {α : Type} (x u y v z : List α) (h : u.length = v.length) (j : Nat) (hj : j ≤ u.length) : (swapped x u y v z j).length = (x ++ u ++ y ++ v ++ z).length := by
  unfold swapped
  simp only [List.length_append, List.length_take, List.length_drop]
  omega
theorem swapped_mem {α : Type} {x u y v z : List α} {j : Nat} {p : α} (h : p ∈ swapped x u y v z j) : p ∈ x ++ u ++ y ++ v ++ z := by
  unfold swapped at h
  simp only [List.mem_append] at h ⊢
  rcases h with (((h | h | h) | h) | h | h) | h
  · simp [h]
  · simp [List.mem_of_mem_take h]
  · simp [List.mem_of_mem_drop h]
  · simp [h]
  · simp [List.mem_of_mem_take h]
  · simp [List.mem_of_mem_drop h]
  · simp [h]
end Go.Proofs.Ytnglejopbpnknaa
namespace Go.Proofs.Ytnglejopbpnknaa
open Go.RowKit
/-- what an element is -/
def IsSer (p : Value × Value) : Prop := (∃ A n c, p.1 = .slice A n c) ∧ ∃ A n c, p.2 = .slice A n c
def SwapSerR (w : World) (g : Nat) (x u y v z : List (Value × Value)) (i : Value) (wr : World) : Prop :=
  ∃ k : Nat, k ≤ u.length ∧ i = .int .i64 k ∧ RowAt wr g 34 (swapped x u y v z k) ∧ w.grownBy wr (some g)
set_option maxRecDepth 100000 in
set_option maxHeartbeats 3200000 in
theorem swap_ser (w : World) (g n c : Nat) (x u y v z : List (Value × Value)) (f : Value) (a b m : Int) (h : RowAt w g 34 (x ++ u ++ y ++ v ++ z)) (hS : ∀ p ∈ x ++ u ++ y ++ v ++ z, IsSer p) (hn : n = (x ++ u ++ y ++ v ++ z).length) (hl : n ≤ 100000) (huv : u.length = v.length)
    (ha : a = x.length) (hb : b = (x ++ u ++ y).length) (hm : m = u.length) :
    Calls Try.prog 80 #[.slice (some ⟨g, 0, none⟩) n c, .int .i64 a, .int .i64 b, .int .i64 m, f] w fun e w' => e = .returned (.tuple #[]) ∧ RowAt w' g 34 (x ++ v ++ y ++ u ++ z) ∧ w.grownBy w' (some g) := by
  obtain ⟨na, hna⟩ : ∃ n, n = x.length := ⟨_, rfl⟩
  obtain ⟨nb, hnb⟩ : ∃ n, n = (x ++ u ++ y).length := ⟨_, rfl⟩
  obtain ⟨nk, hnk⟩ : ∃ n, n = u.length := ⟨_, rfl⟩
  have hbn : nb + nk ≤ n := by rw [hnb, hnk, hn]; simp only [List.length_append]; omega
  have hab : na + nk ≤ nb := by rw [hna, hnb, hnk]; simp only [List.length_append]; omega
  rw [← hna] at ha
  rw [← hnb] at hb
  rw [← hnk] at hm
  subst ha hb hm
  have HNA := Lib.hid hna
  have HNB := Lib.hid hnb
  have HNK := Lib.hid hnk
  have HN := Lib.hid hn
  have H := Lib.hid h
  have HS := Lib.hid hS
  have HUV := Lib.hid huv
  clear h hn hna hnb hnk hS huv
  go_enter Try.func80, Try.ntmps80
  go_wp2_with fail
  go_loopw [10] (fun i wr => SwapSerR w g x u y v z i wr) (fun i _ => nk - (intOf i).toNat)
  case atStart => exact ⟨0, Nat.zero_le _, rfl, by rw [swapped_zero]; exact H.out, only_refl _ _⟩
  case round =>
    obtain ⟨j, hj, rfl, hr, hg⟩ := hrel
    have hj2 : j ≤ nk := by rw [HNK.out]; exact hj
    have HR := Lib.hid hr
    have HG := Lib.hid hg
    by_cases hlt : j < nk
    · obtain ⟨p, q, hpu, hqv, hp, hq, hst⟩ := swapped_step x u y v z HUV.out (show j < u.length by rw [← HNK.out]; exact hlt)
      rw [← HNA.out] at hp hst
      rw [← HNB.out] at hq hst
      have x1 := hr.fst hp
      have x2 := hr.snd hp
      have y1 := hr.fst hq
      have y2 := hr.snd hq
      obtain ⟨⟨A1, n1, c1, e1⟩, A2, n2, c2, e2⟩ := HS.out _ (by simp [hpu] : p ∈ x ++ u ++ y ++ v ++ z)
      obtain ⟨⟨A3, n3, c3, e3⟩, A4, n4, c4, e4⟩ := HS.out _ (by simp [hqv] : q ∈ x ++ u ++ y ++ v ++ z)
      obtain ⟨p1, p2⟩ := p
      obtain ⟨q1, q2⟩ := q
      dsimp only at x1 x2 y1 y2 e1 e2 e3 e4
      subst e1 e2 e3 e4
      have hs1 : IntKind.i64.wrap ((na : Int) + (j : Int)) = (na : Int) + (j : Int) := IntWalk.i64_in _ (by omega)
      have hs2 : IntKind.i64.wrap ((nb : Int) + (j : Int)) = (nb : Int) + (j : Int) := IntWalk.i64_in _ (by omega)
      have HST := Lib.hid hst
      have z1 := hr.frozen ((na + j) * 2)
      have z2 := hr.frozen ((nb + j) * 2)
      have z3 := hr.frozen ((na + j) * 2 + 1)
      have z4 := hr.frozen ((nb + j) * 2 + 1)
      have hsl := swapped_len x u y v z HUV.out j (by rw [← HNK.out]; exact hj2)
      rw [← HN.out] at hsl
      have HSL := Lib.hid hsl
      clear hr hg hp hq hst hpu hqv hj hsl
      go_upto_region 3 with fail
      go_region
      clear x1 x2 y1 y2 z1 z2 z3 z4
      go_wp2
      refine ⟨⟨j + 1, by rw [← HNK.out]; exact hlt, by go_num, ?_, ?_⟩, by simp [intOf]; omega⟩
      · have h1 := (HR.out.set_ (na + j) (.slice A3 n3 c3, .slice A4 n4 c4) (by rw [HSL.out]; omega)).set_ (nb + j) (.slice A1 n1 c1, .slice A2 n2 c2) (by rw [List.length_set, HSL.out]; omega)
        rw [HST.out] at h1
        exact h1
      · exact only_drew (only_setCell (only_setCell (only_setCell (only_setCell HG.out (.inl rfl) _) (.inl rfl) _) (.inl rfl) _) (.inl rfl) _)
    · obtain rfl : j = nk := by omega
      rw [HNK.out, swapped_all _ _ _ _ _ HUV.out] at hr
      have HR2 := Lib.hid hr
      clear hr hg hj
      go_wp2
      go_end0
      exact ⟨rfl, HR2.out, HG.out⟩
end Go.Proofs.Ytnglejopbpnknaa
namespace Go.Proofs.Ytnglejopbpnknaa
open Go.RowKit
def RotSerR (w : World) (g m : Nat) (fin : List (Value × Value)) (i j : Value) (wr : World) : Prop :=
  ∃ (A U V B : List (Value × Value)) (ci cj : Nat), ci = U.length ∧ cj = V.length ∧ i = .int .i64 ci ∧ j = .int .i64 cj ∧ 0 < ci ∧ 0 < cj ∧ A.length + ci = m ∧ A ++ V ++ U ++ B = fin ∧ RowAt wr g 34 (A ++ U ++ V ++ B) ∧ w.grownBy wr (some g)
set_option maxRecDepth 100000 in
set_option maxHeartbeats 3200000 in
theorem rot_ser (w : World) (g n c : Nat) (x u v z : List (Value × Value)) (f : Value) (a m b : Int) (h : RowAt w g 34 (x ++ u ++ v ++ z)) (hS : ∀ p ∈ x ++ u ++ v ++ z, IsSer p) (hn : n = (x ++ u ++ v ++ z).length) (hl : n ≤ 100000) (hu : 0 < u.length) (hv : 0 < v.length)
    (ha : a = x.length) (hm : m = (x ++ u).length) (hb : b = (x ++ u ++ v).length) :
    Calls Try.prog 72 #[.slice (some ⟨g, 0, none⟩) n c, .int .i64 a, .int .i64 m, .int .i64 b, f] w fun e w' => e = .returned (.tuple #[]) ∧ RowAt w' g 34 (x ++ v ++ u ++ z) ∧ w.grownBy w' (some g) := by
  obtain ⟨na, hna⟩ : ∃ n, n = x.length := ⟨_, rfl⟩
  obtain ⟨ni, hni⟩ : ∃ n, n = u.length := ⟨_, rfl⟩
  obtain ⟨nj, hnj⟩ : ∃ n, n = v.length := ⟨_, rfl⟩
  obtain ⟨nm, hnm⟩ : ∃ k, k = na + ni := ⟨_, rfl⟩
  obtain ⟨nb, hnb⟩ : ∃ k, k = nm + nj := ⟨_, rfl⟩
  have hbn : nb ≤ n := by rw [hnb, hnm, hna, hni, hnj, hn]; simp only [List.length_append]; omega
  rw [← hna] at ha
  rw [show (x ++ u).length = nm by rw [List.length_append]; omega] at hm
  rw [show (x ++ u ++ v).length = nb by rw [List.length_append, List.length_append]; omega] at hb
  subst ha hm hb
  have hd1 : IntKind.i64.wrap ((nm : Int) - (na : Int)) = (ni : Int) := (IntWalk.i64_in _ (by omega)).trans (by omega)
  have hd2 : IntKind.i64.wrap ((nb : Int) - (nm : Int)) = (nj : Int) := (IntWalk.i64_in _ (by omega)).trans (by omega)
  obtain ⟨fin, hfin⟩ : ∃ fin, fin = x ++ v ++ u ++ z := ⟨_, rfl⟩
  have hSf : ∀ p ∈ fin, IsSer p := fun p hp => hS p (by rw [hfin] at hp; simp only [List.mem_append] at hp ⊢; rcases hp with ((hp | hp) | hp) | hp <;> simp [hp])
  have hnf : n = fin.length := by rw [hn, hfin]; simp only [List.length_append]; omega
  rw [← hfin]
  have HI := Lib.hid (show RotSerR w g nm fin (.int .i64 ni) (.int .i64 nj) w from ⟨x, u, v, z, ni, nj, hni, hnj, rfl, rfl, by omega, by omega, by omega, hfin.symm, h, only_refl _ _⟩)
  have HS := Lib.hid hSf
  have HN := Lib.hid hnf
  have hmn : nm ≤ n := by omega
  clear h hS hn hu hv hna hni hnj hnm hnb hfin hSf hnf hbn
  go_enter Try.func72, Try.ntmps72
  go_wp2_with fail
  clear hd1 hd2
  go_loopw [10, 11] (fun i j wr => RotSerR w g nm fin i j wr) (fun i j _ => (intOf i).toNat + (intOf j).toNat)
  case atStart => exact HI.out
  case round =>
    obtain ⟨A, U, V, B, ci, cj, hci, hcj, rfl, rfl, hi0, hj0, hA, hF, hr, hg⟩ := hrel
    have hlen : A.length + ci + cj ≤ n := by
      rw [HN.out, ← hF, hci, hcj]
      simp only [List.length_append]
      omega
    have hmem : ∀ p, p ∈ A ++ U ++ V ++ B → IsSer p := fun p hp => HS.out p (by rw [← hF]; simp only [List.mem_append] at hp ⊢; rcases hp with ((hp | hp) | hp) | hp <;> simp [hp])
    have hl4 : n = (A ++ U ++ V ++ B).length := by
      rw [HN.out, ← hF]
      simp only [List.length_append]
      omega
    obtain ⟨la, hla⟩ : ∃ k, k = A.length := ⟨_, rfl⟩
    rw [← hla] at hA hlen
    have e1 : IntKind.i64.wrap ((nm : Int) - (ci : Int)) = (la : Int) := (IntWalk.i64_in _ (by omega)).trans (by omega)
    have HR := Lib.hid hr
    have HG := Lib.hid hg
    have HF := Lib.hid hF
    have HM := Lib.hid hmem
    have HL := Lib.hid hl4
    have HLA := Lib.hid hla
    have HCI := Lib.hid hci
    have HCJ := Lib.hid hcj
    clear hr hg hF hmem hl4 hla hci hcj
    rcases Nat.lt_trichotomy ci cj with hlt | heq | hgt
    · -- the first is shorter
      have e2 : IntKind.i64.wrap ((nm : Int) + (cj : Int)) = (nm : Int) + (cj : Int) := IntWalk.i64_in _ (by omega)
      obtain ⟨nd, hnd⟩ : ∃ k, k = nm + cj - ci := ⟨_, rfl⟩
      have e3 : IntKind.i64.wrap ((nm : Int) + (cj : Int) - (ci : Int)) = (nd : Int) := (IntWalk.i64_in _ (by omega)).trans (by omega)
      obtain ⟨ne, hne⟩ : ∃ k, k = cj - ci := ⟨_, rfl⟩
      have e4 : IntKind.i64.wrap ((cj : Int) - (ci : Int)) = (ne : Int) := (IntWalk.i64_in _ (by omega)).trans (by omega)
      have hgt2 : ¬ (cj : Int) < (ci : Int) := by omega
      have hne2 : ¬ (ci : Int) = (cj : Int) := by omega
      have HND := Lib.hid hnd
      have HNE := Lib.hid hne
      clear hnd hne
      go_wp2_with fail
      refine (swap_ser wr g n c A U (V.take ne) (V.drop ne) B f la nd ci (by
          rw [List.append_assoc A U, List.append_assoc _ _ (V.drop ne), List.append_assoc U, List.take_append_drop, ← List.append_assoc]
          exact HR.out) (fun p hp => HM.out p (by
          have e : A ++ U ++ V ++ B = A ++ U ++ V.take ne ++ V.drop ne ++ B := by rw [List.append_assoc (A ++ U) (V.take ne), List.take_append_drop]
          rw [e]; exact hp)) (by
          have e : A ++ U ++ V ++ B = A ++ U ++ V.take ne ++ V.drop ne ++ B := by rw [List.append_assoc (A ++ U) (V.take ne), List.take_append_drop]
          rw [← e]; exact HL.out) (by omega) (by rw [List.length_drop]; have := HCI.out; have := HCJ.out; have := HNE.out; omega) (by rw [HLA.out]) (by
          have := HCI.out; have := HCJ.out; have := HNE.out; have := HND.out; have := HLA.out
          simp only [List.length_append, List.length_take]
          omega) (by rw [HCI.out])).mono ?_
      rintro e w2 ⟨rfl, hr2, hg2⟩
      have HR2 := Lib.hid hr2
      have HG2 := Lib.hid hg2
      clear hr2 hg2
      go_wp2
      refine ⟨⟨A, V.drop ne, V.take ne, U ++ B, ci, ne, by rw [List.length_drop]; have := HCJ.out; have := HNE.out; omega, by rw [List.length_take]; have := HCJ.out; have := HNE.out; omega, rfl, rfl, hi0, by have := HNE.out; omega, by rw [← HLA.out]; exact hA, ?_, ?_, only_trans HG.out HG2.out⟩, by have := HNE.out; simp [intOf]; omega⟩
      · rw [← HF.out, List.append_assoc A, List.take_append_drop]
        simp
      · have := HR2.out
        simpa using this
    · -- both are as long
      subst heq
      have hne2 : (ci : Int) = (ci : Int) := rfl
      go_wp2_with fail
      refine (swap_ser wr g n c A U [] V B f la nm ci (by rw [List.append_nil]; exact HR.out) (fun p hp => HM.out p (by rw [List.append_nil] at hp; exact hp)) (by rw [List.append_nil]; exact HL.out) (by omega) (by rw [← HCI.out, ← HCJ.out]) (by rw [HLA.out]) (by
          have := HCI.out; have := HLA.out
          simp only [List.length_append, List.length_nil]
          omega) (by rw [HCI.out])).mono ?_
      rintro e w2 ⟨rfl, hr2, hg2⟩
      have HR2 := Lib.hid hr2
      have HG2 := Lib.hid hg2
      clear hr2 hg2
      go_wp2
      go_end0
      refine ⟨rfl, ?_, only_trans HG.out HG2.out⟩
      have := HR2.out
      rw [List.append_nil, HF.out] at this
      exact this
    · -- the second is shorter
      obtain ⟨ne, hne⟩ : ∃ k, k = ci - cj := ⟨_, rfl⟩
      have e4 : IntKind.i64.wrap ((ci : Int) - (cj : Int)) = (ne : Int) := (IntWalk.i64_in _ (by omega)).trans (by omega)
      have hgt2 : (cj : Int) < (ci : Int) := by omega
      have hne2 : ¬ (ci : Int) = (cj : Int) := by omega
      have HNE := Lib.hid hne
      clear hne
      go_wp2_with fail
      refine (swap_ser wr g n c A (U.take cj) (U.drop cj) V B f la nm cj (by
          rw [List.append_assoc A, List.take_append_drop]
          exact HR.out) (fun p hp => HM.out p (by rw [List.append_assoc A, List.take_append_drop] at hp; exact hp)) (by rw [List.append_assoc A, List.take_append_drop]; exact HL.out) (by omega) (by rw [List.length_take]; have := HCI.out; have := HCJ.out; omega) (by rw [HLA.out]) (by
          have := HCI.out; have := HLA.out
          rw [List.append_assoc A, List.take_append_drop, List.length_append]
          omega) (by rw [List.length_take]; have := HCI.out; omega)).mono ?_
      rintro e w2 ⟨rfl, hr2, hg2⟩
      have HR2 := Lib.hid hr2
      have HG2 := Lib.hid hg2
      clear hr2 hg2
      go_wp2
      refine ⟨⟨A ++ V, U.drop cj, U.take cj, B, ne, cj, by rw [List.length_drop]; have := HCI.out; have := HNE.out; omega, by rw [List.length_take]; have := HCI.out; omega, rfl, rfl, by have := HNE.out; omega, hj0, by rw [List.length_append, ← HLA.out, ← HCJ.out]; have := HNE.out; omega, ?_, ?_, only_trans HG.out HG2.out⟩, by have := HNE.out; simp [intOf]; omega⟩
      · rw [← HF.out, List.append_assoc (A ++ V), List.take_append_drop]
      · exact HR2.out
end Go.Proofs.Ytnglejopbpnknaa
namespace Go.Proofs.Ytnglejopbpnknaa
section
variable {α : Type} {lt : α → α → Bool}
/-- the bounds of the search -/
structure Cut (a m b mid s0 r0 : Nat) : Prop where
  am : a < m
  mb : m < b
  md : mid = (a + b) / 2
  lo : s0 = if mid < m then mid + m - b else a
  hi : r0 = if mid < m then mid else m
theorem Cut.bounds {a m b mid s0 r0 : Nat} (h : Cut a m b mid s0 r0) : a ≤ s0 ∧ s0 ≤ r0 ∧ r0 ≤ m ∧ r0 ≤ mid ∧ mid + m ≤ s0 + b ∧ ∀ c, s0 ≤ c → c < r0 → c < m ∧ m ≤ mid + m - 1 - c ∧ mid + m - 1 - c < b := by
  obtain ⟨h1, h2, h3, h4, h5⟩ := h
  split at h4 <;> rename_i h0
  · rw [if_pos h0] at h5
    refine ⟨by omega, by omega, by omega, by omega, by omega, fun c c1 c2 => ⟨by omega, by omega, by omega⟩⟩
  · rw [if_neg h0] at h5
    refine ⟨by omega, by omega, by omega, by omega, by omega, fun c c1 c2 => ⟨by omega, by omega, by omega⟩⟩
theorem sym_cut (hr : Rank lt) (f : Nat → α) {a m b mid s0 r0 s : Nat} (h : Cut a m b mid s0 r0) (hu : ∀ i j, a ≤ i → i ≤ j → j < m → lt (f j) (f i) = false) (hv : ∀ i j, m ≤ i → i ≤ j → j < b → lt (f j) (f i) = false)
    (h1 : s0 ≤ s) (h2 : s ≤ r0) (hl : ∀ c, s0 ≤ c → c < s → lt (f (mid + m - 1 - c)) (f c) = false) (hg : ∀ c, s ≤ c → c < r0 → lt (f (mid + m - 1 - c)) (f c) = true) :
    a ≤ s ∧ s ≤ m ∧ m ≤ mid + m - s ∧ mid + m - s ≤ b ∧ (∀ i j, a ≤ i → i < s → mid + m - s ≤ j → j < b → lt (f j) (f i) = false) ∧ ∀ i j, s ≤ i → i < m → m ≤ j → j < mid + m - s → lt (f j) (f i) = true := by
  obtain ⟨b1, b2, b3, b4, b5, b6⟩ := h.bounds
  refine ⟨by omega, by omega, by omega, by omega, fun i j i1 i2 j1 j2 => ?_, fun i j i1 i2 j1 j2 => ?_⟩
  · have hs : s0 < s := by
      rcases Nat.lt_or_ge s0 s with h9 | h9
      · exact h9
      · exfalso
        have hs : s = s0 := by omega
        have := h.lo
        split at this <;> omega
    have e := hl (s - 1) (by omega) (by omega)
    have e2 := b6 (s - 1) (by omega) (by omega)
    have e3 : mid + m - 1 - (s - 1) = mid + m - s := by omega
    rw [e3] at e e2
    exact hr.neg _ _ _ (hv _ _ e2.2.1 j1 j2) (hr.neg _ _ _ e (hu i (s - 1) i1 (by omega) e2.1))
  · have hs : s < r0 := by
      rcases Nat.lt_or_ge s r0 with h9 | h9
      · exact h9
      · exfalso
        have hs : s = r0 := by omega
        have := h.hi
        split at this <;> omega
    have e := hg s (Nat.le_refl _) hs
    have e2 := b6 s h1 hs
    have e3 : mid + m - 1 - s = mid + m - s - 1 := by omega
    rw [e3] at e e2
    -- f j ≤ f (end - 1) < f s ≤ f i
    have k1 : lt (f j) (f s) = true := by
      cases e9 : lt (f j) (f s) with
      | true => rfl
      | false =>
        have := hr.neg _ _ _ (hv j (mid + m - s - 1) j1 (by omega) e2.2.2) e9
        rw [e] at this
        exact absurd this (by decide)
    exact hr.lt_trans k1 (hu s i (by omega) i1 i2)
/-- the predicate of the search goes one way -/
theorem sym_mono (hr : Rank lt) (f : Nat → α) {a m b mid s0 r0 : Nat} (h : Cut a m b mid s0 r0) (hu : ∀ i j, a ≤ i → i ≤ j → j < m → lt (f j) (f i) = false) (hv : ∀ i j, m ≤ i → i ≤ j → j < b → lt (f j) (f i) = false) {c c' : Nat}
    (h1 : s0 ≤ c) (h2 : c ≤ c') (h3 : c' < r0) (hc : lt (f (mid + m - 1 - c')) (f c') = false) : lt (f (mid + m - 1 - c)) (f c) = false := by
  obtain ⟨b1, b2, b3, b4, b5, b6⟩ := h.bounds
  have e1 := b6 c h1 (by omega)
  have e2 := b6 c' (by omega) h3
  exact hr.neg _ _ _ (hv _ _ e2.2.1 (by omega) e1.2.2) (hr.neg _ _ _ hc (hu c c' (by omega) h2 e2.1))
end
end Go.Proofs.Ytnglejopbpnknaa
