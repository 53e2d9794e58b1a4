/- told: a series with its samples in a time that are not deleted. What Select tells, plainly: rising label sets, samples that rise, no older than the horizon. A region that draws its order, within a round or not: an operation that answers alike in all worlds of a class may be taken first. After the kit's law of the same kind. The iterator that sorted hands back: it tells each series' key and pointer, rising. -/
import Derived.Test.YtbeeejpjnniejaaGreatDoorJ10HCommit
import Derived.StillTailTactics
import Derived.Laws.Rows
import Derived.RegionIn
import Derived.OwnWalkIn
import Derived.Test.YtbeeejpjnniejaaGreatDoorJ00Lib
import Derived.Test.YtbeeejpjnniejaaGreatDoorJ04LRight
namespace Go.Proofs.YtbeeejpjnniejaaGreatDoor
open Go.RowKit Go.Maps Go.Sort Go.Shelf
attribute [-go_sem] Builtin.append_
attribute [local go_sem] run_store_float
/-! ### plainly -/
def smpOf (x : HSmp) : Smp := (x.1, x.2.1)
/-- the samples of a time that are not deleted -/
def selP (r : List HSmp) (a b : Int) : List Smp := (r.filter fun x => decide (a ≤ x.1) && decide (x.1 ≤ b) && !x.2.2).map smpOf
def liveP (l : List HSmp) : List Smp := (l.filter fun x => !x.2.2).map smpOf
theorem selP_of {r : List HSmp} {a b : Int} {i k : Nat} (hf : FromAt r a i) (hlow : ∀ x ∈ (r.drop i).take k, x.1 ≤ b) (hhigh : ∀ x ∈ (r.drop i).drop k, b < x.1) : selP r a b = liveP ((r.drop i).take k) := by
  have h1 : ∀ x ∈ r.take i, x.1 < a := fun x hx => by
    obtain ⟨j, hj, rfl⟩ := List.getElem_of_mem hx
    have hj2 : j < i ∧ j < r.length := by rw [List.length_take] at hj; omega
    have := hf.low j r[j] (List.getElem?_eq_getElem hj2.2) hj2.1
    rwa [List.getElem_take]
  have h2 : ∀ x ∈ r.drop i, a ≤ x.1 := fun x hx => by
    obtain ⟨j, hj, rfl⟩ := List.getElem_of_mem hx
    have hj2 : i + j < r.length := by rw [List.length_drop] at hj; omega
    have := hf.high (i + j) r[i + j] (List.getElem?_eq_getElem hj2) (by omega)
    rwa [List.getElem_drop]
  unfold selP liveP
  congr 1
  have e : r = r.take i ++ ((r.drop i).take k ++ (r.drop i).drop k) := by rw [List.take_append_drop, List.take_append_drop]
  rw [e, List.filter_append, List.filter_append]
  have e1 : (r.take i).filter (fun x => decide (a ≤ x.1) && decide (x.1 ≤ b) && !x.2.2) = [] := by
    rw [List.filter_eq_nil_iff]
    intro x hx
    have := h1 x hx
    have h3 : ¬ a ≤ x.1 := by omega
    simp [h3]
  have e2 : ((r.drop i).drop k).filter (fun x => decide (a ≤ x.1) && decide (x.1 ≤ b) && !x.2.2) = [] := by
    rw [List.filter_eq_nil_iff]
    intro x hx
    have := hhigh x hx
    have h3 : ¬ x.1 ≤ b := by omega
    simp [h3]
  rw [e1, e2, List.nil_append, List.append_nil, ← e]
  apply List.filter_congr
  intro x hx
  have k1 := h2 x (List.take_subset _ _ hx)
  have k2 := hlow x hx
  simp [k1, k2]
theorem liveP_snoc (l : List HSmp) (x : HSmp) : liveP (l ++ [x]) = liveP l ++ (if x.2.2 then [] else [smpOf x]) := by
  unfold liveP
  rw [List.filter_append, List.map_append]
  congr 1
  cases h : x.2.2 <;> simp [h]
theorem liveP_len (l : List HSmp) : (liveP l).length ≤ l.length := by
  unfold liveP
  rw [List.length_map]
  exact List.length_filter_le _ _
theorem selP_len (r : List HSmp) (a b : Int) : (selP r a b).length ≤ r.length := by
  unfold selP
  rw [List.length_map]
  exact List.length_filter_le _ _
theorem flatS_append (a b : List Smp) : flatS (a ++ b) = flatS a ++ flatS b := by simp [flatS, flat2]
/-! ### the walk -/
structure TlAt (w : World) (t7 : Nat) (labs : List Lbl) (sel : List Smp) (vl2 vs : Value) (wr : World) : Prop where
  box : Blk wr t7 40 #[vl2, vs]
  own : SerOwn wr w.heap.size (vl2, vs) (labs, sel)
  below : Below w.heap.size w wr
  res : Blk wr w.heap.size 40 #[.slice none 0 0, .slice none 0 0]
  lo : w.heap.size < t7
def TlR (w : World) (t7 : Nat) (labs : List Lbl) (tl : List HSmp) (b : Int) (i : Value) (wr : World) : Prop :=
  ∃ (k : Nat) (vl2 vs : Value), i = .int .i64 (k : Int) ∧ k ≤ tl.length ∧ (∀ x ∈ tl.take k, x.1 ≤ b) ∧ TlAt w t7 labs (liveP (tl.take k)) vl2 vs wr
theorem TlAt.fin {w : World} {t7 : Nat} {labs : List Lbl} {sel : List Smp} {vl2 vs : Value} {wr : World} (h : TlAt w t7 labs sel vl2 vs wr) :
    Blk ((wr.setCell ⟨w.heap.size, 0, none⟩ vl2).setCell ⟨w.heap.size, 1, none⟩ vs) w.heap.size 40 #[vl2, vs] ∧ SerOwn ((wr.setCell ⟨w.heap.size, 0, none⟩ vl2).setCell ⟨w.heap.size, 1, none⟩ vs) w.heap.size (vl2, vs) (labs, sel) ∧
      Below w.heap.size w ((wr.setCell ⟨w.heap.size, 0, none⟩ vl2).setCell ⟨w.heap.size, 1, none⟩ vs) := by
  have b1 : Blk (wr.setCell ⟨w.heap.size, 0, none⟩ vl2) w.heap.size 40 #[vl2, .slice none 0 0] := h.res.set_ 0 vl2
  refine ⟨b1.set_ 1 vs, ⟨?_, ?_⟩, (h.below.setCell (p := ⟨w.heap.size, 0, none⟩) (Nat.le_refl _) _).setCell (p := ⟨w.heap.size, 1, none⟩) (Nat.le_refl _) _⟩
  · have o1 := ownsRow_setCell_other h.own.1 (own_blk_ne h.own.1 h.res (by decide)) (a := ⟨w.heap.size, 0, none⟩) vl2
    exact ownsRow_setCell_other o1 (own_blk_ne o1 b1 (by decide)) (a := ⟨w.heap.size, 1, none⟩) vs
  · have o1 := ownsRow_setCell_other h.own.2 (own_blk_ne h.own.2 h.res (by decide)) (a := ⟨w.heap.size, 0, none⟩) vl2
    exact ownsRow_setCell_other o1 (own_blk_ne o1 b1 (by decide)) (a := ⟨w.heap.size, 1, none⟩) vs
def ToldPost (w : World) (labs : List Lbl) (sel : List Smp) (e : Ending) (w' : World) : Prop := ∃ vl2 vs, e = .returned (.agg #[vl2, vs]) ∧ SerOwn w' w.heap.size (vl2, vs) (labs, sel) ∧ Below w.heap.size w w'
set_option maxRecDepth 100000 in
set_option maxHeartbeats 6400000 in
theorem told_any (w : World) (g base : Nat) (vl v : Value) (labs : List Lbl) (r : List HSmp) (a b : Int) (hb : Blk w g 140 #[vl, v]) (hl : LabsAt w w.heap.size vl labs) (ho : w.ownsRow base 148 3 v r.length (rowV r)) (hn : r.length ≤ 100000) (hnl : labs.length ≤ 64) (hs : Rises r) :
    Calls Tryz.prog 68 #[.pointer (some ⟨g, 0, none⟩), .int .i64 a, .int .i64 b] w (ToldPost w labs (selP r a b)) := by
  obtain ⟨i0, hi, hz0, hz1, hz2⟩ := info_parts info55
  obtain ⟨j0, hj, hy0, hy1, hy2⟩ := info_parts info49
  have HI := Lib.hid hi
  have HZ0 := Lib.hid hz0
  have HZ1 := Lib.hid hz1
  have HZ2 := Lib.hid hz2
  have HJ := Lib.hid hj
  have HY0 := Lib.hid hy0
  have HY1 := Lib.hid hy1
  have HY2 := Lib.hid hy2
  clear hi hz0 hz1 hz2 hj hy0 hy1 hy2
  obtain ⟨n, hnn⟩ : ∃ n, n = r.length := ⟨_, rfl⟩
  obtain ⟨nL, hnL⟩ : ∃ n, n = labs.length := ⟨_, rfl⟩
  obtain ⟨A, c, hv⟩ := own_slice ho
  subst hv
  obtain ⟨AL, cL, hvl, hrl⟩ := hl
  subst hvl
  rw [← hnn] at hn ho hb
  rw [← hnL] at hnl hrl hb
  obtain ⟨w1, hw1⟩ : ∃ w1, w1 = w.alloc (.cells #[.slice none 0 0, .slice none 0 0] 40) := ⟨_, rfl⟩
  have hb1 : Below w.heap.size w w1 := by rw [hw1]; exact (Below.refl _ w).alloc (Nat.le_refl _) _
  have hr1 : Blk w1 w.heap.size 40 #[.slice none 0 0, .slice none 0 0] := by rw [hw1]; exact Blk.new w 40 _
  have hg1 := hb.below hb1 hb.lt
  have c0 : w1.cell? ⟨g, 0, none⟩ = some (.slice AL nL cL) := hg1.cell 0
  have HRL := Lib.hid (hrl.keep (w' := w1) fun p hp => hb1.cell hp)
  have HN := Lib.hid hnn
  have HNL := Lib.hid hnL
  have HO := Lib.hid ho
  have HG := Lib.hid hb
  have HS := Lib.hid hs
  have HW1 := Lib.hid hw1
  have HB1 := Lib.hid hb1
  have HR1 := Lib.hid hr1
  have HG1 := Lib.hid hg1
  have hs1 : w.heap.size ≤ w1.heap.size := hb1.size
  clear hnn hnL ho hb hs hw1 hb1 hr1 hg1 hrl
  go_enter Tryz.func68, Tryz.ntmps68
  go_upto_region 1 with fail
  rw [← HW1.out]
  go_upto_region 2 with (at_builtin; go_loud (refine wpList_append_any _ rfl (.const (.slice none 0 0)) (.tmp 13) 37 rfl w.heap.size 55 i0 (.agg #[.string ⟨#[]⟩, .string ⟨#[]⟩]) 2 32 Tryz.underlying37 HI.out HZ0.out HZ1.out HZ2.out rfl (by omega) (.slice none 0 0) 0 [] rfl (World.ownsRow_nil _ _ _ _) w.heap.size AL nL cL (flatL labs) rfl HRL.out (flatL_one _) (by simp [maxLen]; omega) (by omega) hs1 ?_; intro v2 w2 hown2 hgrow2 _; rw [Nat.zero_add, List.nil_append] at hown2; obtain ⟨A2, c2, hv2⟩ := own_slice hown2; subst hv2; have HW2 := Lib.hid hown2; have HG2 := Lib.hid (below_of_only hgrow2); clear hown2 hgrow2))
  obtain ⟨w3, hw3⟩ : ∃ w3, w3 = w2.alloc (.cells #[.slice A2 nL c2, .slice none 0 0] 40) := ⟨_, rfl⟩
  rw [← hw3]
  have hb3 : Below w.heap.size w w3 := by rw [hw3]; exact ((HB1.out.trans (HG2.out.mono hs1))).alloc (by have := HG2.out.size; omega) _
  have hg3 := HG.out.below hb3 HG.out.lt
  have ho3 : w3.ownsRow base 148 3 (.slice A n c) n (rowV r) := own_blk HO.out fun k hk => hb3.block k (HO.out.lt k hk).2
  have hr3 : Blk w3 w.heap.size 40 #[.slice none 0 0, .slice none 0 0] := by rw [hw3]; exact (HR1.out.below HG2.out HR1.out.lt).alloc _
  have hx3 : Blk w3 w2.heap.size 40 #[.slice A2 nL c2, .slice none 0 0] := by rw [hw3]; exact Blk.new w2 40 _
  have hl3 : w3.ownsRow w.heap.size 55 2 (.slice A2 nL c2) nL (flatL labs) := by rw [hw3]; exact HW2.out.alloc _
  have hsz2 : w.heap.size < w2.heap.size := by have := HG2.out.size; have := HR1.out.lt; omega
  have c1 : w3.cell? ⟨g, 1, none⟩ = some (.slice A n c) := hg3.cell 1
  have hnc : n ≤ c := by
    rcases HO.out.2 with ⟨h1, h2⟩ | ⟨g', cap, cur, h1, h2, h3, h4, -⟩
    · omega
    · injection h1 with h5 h6 h7
      omega
  have HF := Lib.hid (fun q => show Calls Tryz.prog 71 #[.pointer (some ⟨g, 0, none⟩), .int .i64 a] (w3.drewN q) fun e w' => ∃ i : Nat, e = .returned (.int .i64 (i : Int)) ∧ FromAt r a i ∧ Up (w3.drewN q) w' from
    from_any (w3.drewN q) g base _ (.slice A n c) r a hg3 (by rw [← HN.out]; exact ho3) (by rw [← HN.out]; exact hn) HS.out)
  have HW3 := Lib.hid hw3
  have HB3 := Lib.hid hb3
  have HO3 := Lib.hid ho3
  have HR3 := Lib.hid hr3
  have HX3 := Lib.hid hx3
  have HL3 := Lib.hid hl3
  have HG3 := Lib.hid hg3
  clear hw3 hb3 ho3 hr3 hx3 hl3 hg3
  go_cut [23, 24, 25] from 16 to 25 (fun v23 v24 v25 wx => ∃ i : Nat, v23 = .slice (if c = i then A else A.map (·.add (i * 3))) (n - i) (c - i) ∧ v24 = .int .i64 ((n - i : Nat) : Int) ∧ v25 = .int .i64 0 ∧ FromAt r a i ∧ Up w3 wx)
  case first =>
    go_region_with ((go_at_call 71; refine (HF.out 1).mono ?_; rintro e w5 ⟨i, rfl, hfr, hu5⟩; have hin : i ≤ n := Nat.le_trans hfr.le (Nat.le_of_eq HN.out.symm); have c5 : w5.cell? ⟨g, 1, none⟩ = some (.slice A n c) := (Blk.below (w := w3.drewN 1) HG3.out (hu5.below) HG3.out.lt).cell 1; have hu6 : Up w3 w5 := ((Up.refl w3).drewN 1).trans hu5; have HFR := Lib.hid hfr; have HU5 := Lib.hid hu6; clear hfr hu5 hu6))
    all_goals
      obtain ⟨A', hA'⟩ : ∃ x, x = (if c = i then A else Option.map (fun x => x.add (i * 3)) A) := ⟨_, rfl⟩
      rw [← hA']
      have HA' := Lib.hid hA'
      clear hA'
      go_wp2
      go_meet
      exact ⟨i, by rw [HA'.out], rfl, rfl, HFR.out, HU5.out⟩
  case rest =>
    obtain ⟨i, rfl, rfl, rfl, hfr, hu⟩ := hcut
    obtain ⟨tl, htl⟩ : ∃ tl, tl = r.drop i := ⟨_, rfl⟩
    obtain ⟨A', hA'⟩ : ∃ x, x = (if c = i then A else Option.map (fun x => x.add (i * 3)) A) := ⟨_, rfl⟩
    rw [← hA']
    have hin : i ≤ n := by rw [HN.out]; exact hfr.le
    obtain ⟨m, hm⟩ : ∃ m, m = n - i := ⟨_, rfl⟩
    obtain ⟨c', hc'⟩ : ∃ m, m = c - i := ⟨_, rfl⟩
    rw [← hm, ← hc']
    have hml : m = tl.length := by rw [htl, List.length_drop, ← HN.out]; exact hm
    have hrd : Reads w w.heap.size 3 A' m (rowV tl) := by
      have h1 := (Reads.of_own HO.out).cut (k := i) hin hnc
      rw [← hA', ← hm] at h1
      have h2 : (rowV r).drop (i * 3) = rowV tl := by
        have e : rowV r = rowV (r.take i) ++ rowV (r.drop i) := by rw [← rowV_append, List.take_append_drop]
        rw [e, List.drop_append_of_le_length (by rw [rowV_length, List.length_take]; have := hfr.le; rw [Nat.min_eq_left this]; exact Nat.le_refl _), htl]
        rw [List.drop_of_length_le (by rw [rowV_length, List.length_take]; have := hfr.le; rw [Nat.min_eq_left this]; exact Nat.le_refl _), List.nil_append]
      rw [h2] at h1
      exact h1
    have hst : TlR w w2.heap.size labs tl b (.int .i64 0) wc := by
      refine ⟨0, .slice A2 nL c2, .slice none 0 0, rfl, Nat.zero_le _, by simp, ?_⟩
      have hbb := hu.below
      exact ⟨HX3.out.below hbb HX3.out.lt, ⟨by rw [← HNL.out]; exact own_blk HL3.out fun k hk => hbb.block k (HL3.out.lt k hk).2, World.ownsRow_nil _ _ _ _⟩, HB3.out.trans (hbb.mono HB3.out.size), HR3.out.below hbb HR3.out.lt, hsz2⟩
    have HFR := Lib.hid hfr
    have HU := Lib.hid hu
    have HTL := Lib.hid htl
    have HML := Lib.hid hml
    have HRD := Lib.hid hrd
    have HST := Lib.hid hst
    clear hfr hu htl hml hrd hst hA' hc' HF c0 c1
    have hm5 : m ≤ 100000 := by omega
    go_wp2_with fail
    go_loopw [25] (fun i wr => TlR w w2.heap.size labs tl b i wr) (fun i _ => m - (intOf i).toNat)
    case atStart => exact HST.out
    case round =>
      obtain ⟨k, vl2, vs, rfl, hk, hlow, hT⟩ := hrel
      have hk2 : k ≤ m := by rw [HML.out]; exact hk
      obtain ⟨Al, cl, hvl2⟩ := own_slice hT.own.1
      obtain ⟨As, cs, hvs⟩ := own_slice hT.own.2
      dsimp only at hvl2 hvs
      obtain ⟨ms, hms⟩ : ∃ ms, ms = (liveP (tl.take k)).length := ⟨_, rfl⟩
      rw [← HNL.out] at hvl2
      rw [← hms] at hvs
      subst hvl2 hvs
      have hmsl : ms ≤ 100000 := by
        have h1 := liveP_len (tl.take k)
        rw [List.length_take] at h1
        omega
      have HMS := Lib.hid hms
      clear hms
      by_cases hlt : k < m
      · obtain ⟨x, hx⟩ : ∃ x, tl[k]? = some x := ⟨_, List.getElem?_eq_getElem (by have := HML.out; omega)⟩
        have htk : tl.take (k + 1) = tl.take k ++ [x] := by rw [List.take_add_one, hx]; rfl
        have hdk : tl.drop k = x :: tl.drop (k + 1) := by
          obtain ⟨h1, h2⟩ := List.getElem?_eq_some_iff.1 hx
          rw [List.drop_eq_getElem_cons h1, h2]
        obtain ⟨g0, g1, g2⟩ := rowV_get tl k x hx
        obtain ⟨d, hd, hdB, x0, x1, x2⟩ := (HRD.out.below hT.below).three (i := k) hlt g0 g1 g2
        subst hd
        obtain ⟨xt, xb, xd⟩ := x
        dsimp only at x0 x1 x2
        have i1 : (k : Int) < (m : Int) := by omega
        have sk : IntKind.i64.wrap ((k : Int) + 1) = ((k + 1 : Nat) : Int) := (IntWalk.i64_in _ (by omega)).trans (by omega)
        obtain ⟨w4, hw4⟩ : ∃ w4, w4 = wr.alloc (.cells #[.int .i64 xt, .float .f64 xb, .bool xd] 148) := ⟨_, rfl⟩
        have hb4 : Below wr.heap.size wr w4 := by rw [hw4]; exact (Below.refl _ wr).alloc (Nat.le_refl _) _
        have hbx : Blk w4 wr.heap.size 148 #[.int .i64 xt, .float .f64 xb, .bool xd] := by rw [hw4]; exact Blk.new wr 148 _
        have y0 : w4.cell? ⟨wr.heap.size, 0, none⟩ = some (.int .i64 xt) := hbx.cell 0
        have y1 : w4.cell? ⟨wr.heap.size, 1, none⟩ = some (.float .f64 xb) := hbx.cell 1
        have y2 : w4.cell? ⟨wr.heap.size, 2, none⟩ = some (.bool xd) := hbx.cell 2
        have hws : w.heap.size ≤ wr.heap.size := hT.below.size
        have hT4 : TlAt w w2.heap.size labs (liveP (tl.take k)) (.slice Al nL cl) (.slice As ms cs) w4 := by
          have hsx := hT.own
          exact ⟨hT.box.below hb4 hT.box.lt, ⟨own_blk hsx.1 fun j hj => hb4.block j (hsx.1.lt j hj).2, own_blk hsx.2 fun j hj => hb4.block j (hsx.2.lt j hj).2⟩, hT.below.trans (hb4.mono hws), hT.res.below hb4 hT.res.lt, hT.lo⟩
        have q0 : w4.cell? ⟨w2.heap.size, 0, none⟩ = some (.slice Al nL cl) := hT4.box.cell 0
        have q1 : w4.cell? ⟨w2.heap.size, 1, none⟩ = some (.slice As ms cs) := hT4.box.cell 1
        have HT4 := Lib.hid hT4
        have HW4 := Lib.hid hw4
        have HB4 := Lib.hid hb4
        have HX := Lib.hid hx
        have HTK := Lib.hid htk
        have HDK := Lib.hid hdk
        have HLOW := Lib.hid hlow
        clear hT hT4 hw4 hb4 hbx hx htk hdk hlow g0 g1 g2 hdB hk
        by_cases hbr : b < xt
        · have r0 := HT4.out.res.frozen 0
          have r1 := HT4.out.res.frozen 1
          have r2 : w4.cell? ⟨w.heap.size, 0, none⟩ = some (.slice none 0 0) := HT4.out.res.cell 0
          have r3 : w4.cell? ⟨w.heap.size, 1, none⟩ = some (.slice none 0 0) := HT4.out.res.cell 1
          go_upto_region 5 with fail
          rw [← HW4.out]
          go_wp2
          have hfin := HT4.out.fin
          refine bodyPost_ret (v := .agg #[.slice Al nL cl, .slice As ms cs]) ?_ ?_ ?_
          · exact results_cell_row rfl _ _ w.heap.size 40 #[.slice Al nL cl, .slice As ms cs] (0, 0) _ rfl hfin.1 Tryz.underlying40 rfl rfl
          · rfl
          refine ⟨_, _, rfl, ?_, hfin.2.2⟩
          rw [selP_of (k := k) HFR.out (by rw [← HTL.out]; exact HLOW.out) (fun y hy => ?_), ← HTL.out]
          · exact hfin.2.1
          · rw [← HTL.out, HDK.out] at hy
            have hs : (tl).Pairwise fun a b => a.1 < b.1 := by rw [HTL.out]; exact HS.out.sublist (List.drop_sublist _ _)
            have hs2 := hs.sublist (List.drop_sublist k _)
            rw [HDK.out, List.pairwise_cons] at hs2
            rcases List.mem_cons.1 hy with rfl | hy
            · exact hbr
            · have := hs2.1 y hy
              dsimp only at this
              omega
        · have hlow2 : ∀ y ∈ tl.take (k + 1), y.1 ≤ b := fun y hy => by
            rw [HTK.out] at hy
            rcases List.mem_append.1 hy with h | h
            · exact HLOW.out y h
            · rw [List.mem_singleton] at h
              subst h
              dsimp only
              omega
          have hlv : liveP (tl.take (k + 1)) = liveP (tl.take k) ++ (if xd then [] else [(xt, xb)]) := by rw [HTK.out, liveP_snoc]; rfl
          have HLOW2 := Lib.hid hlow2
          have HLV := Lib.hid hlv
          have hk1 : k + 1 ≤ tl.length := by have := HML.out; omega
          have HK1 := Lib.hid hk1
          clear hlow2 hlv hk1
          cases xd with
          | true =>
            go_upto_region 5 with fail
            rw [← HW4.out]
            go_wp2
            refine ⟨⟨k + 1, .slice Al nL cl, .slice As ms cs, rfl, HK1.out, HLOW2.out, ?_⟩, by simp only [intOf]; omega⟩
            rw [HLV.out]
            simp only [if_true, List.append_nil]
            exact HT4.out
          | false =>
            obtain ⟨sl, hsl⟩ : ∃ sl, sl = flatS (liveP (tl.take k)) := ⟨_, rfl⟩
            have hso : w4.ownsRow w.heap.size 49 2 (.slice As ms cs) ms sl := by
              have h1 := HT4.out.own.2
              dsimp only at h1
              rw [← HMS.out, ← hsl] at h1
              exact h1
            have HSL := Lib.hid hsl
            have HSO := Lib.hid hso
            have hs4 : wr.heap.size ≤ w4.heap.size := HB4.out.size
            clear hsl hso
            go_upto_region 5 with fail
            rw [← HW4.out]
            clear x0 x1 x2
            go_wp2_with (at_builtin; go_loud (refine wpList_append_any _ rfl (.tmp 38) (.tmp 41) 38 rfl w.heap.size 49 j0 (.agg #[.int .i64 0, .float .f64 0]) 2 16 Tryz.underlying38 HJ.out HY0.out HY1.out HY2.out rfl (by omega) (.slice As ms cs) ms sl rfl (HSO.out.alloc _) (w4.heap.size + 1) (some ⟨w4.heap.size, 0, none⟩) 1 1 [.int .i64 xt, .float .f64 xb] rfl ⟨rfl, fun _ => ⟨_, rfl, Nat.lt_succ_self _, cells_newL w4 49 _ _ rfl⟩⟩ (by simp [Value.oneCell']) (by simp [maxLen]; omega) (by omega) (by rw [World.size_alloc]; omega) ?_; intro v6 w6 hown6 hgrow6 _; obtain ⟨A6, c6, hv6⟩ := own_slice hown6; subst hv6; have ho1 := HSO.out.alloc (.cells #[.int .i64 xt, .float .f64 xb] 49); have bx1 := HT4.out.box.alloc (.cells #[.int .i64 xt, .float .f64 xb] 49); have bx6 := bx1.grown hgrow6 (own_blk_ne ho1 bx1 (by decide)).symm; have br1 := HT4.out.res.alloc (.cells #[.int .i64 xt, .float .f64 xb] 49); have br6 := br1.grown hgrow6 (own_blk_ne ho1 br1 (by decide)).symm; have e6 : w6.cell? ⟨w2.heap.size, 1, none⟩ = some (.slice As ms cs) := bx6.cell 1; have f6 := bx6.frozen 1; have HW6 := Lib.hid hown6; have HG6 := Lib.hid hgrow6; have HBX6 := Lib.hid bx6; have HBR6 := Lib.hid br6; clear hown6 hgrow6 bx1 bx6 br1 br6 ho1))
            have ho1 := HSO.out.alloc (.cells #[.int .i64 xt, .float .f64 xb] 49)
            have hl1 := HT4.out.own.1.alloc (.cells #[.int .i64 xt, .float .f64 xb] 49)
            have hl6 := hl1.kept HG6.out (own_ne2 hl1 ho1 (by decide))
            refine ⟨⟨k + 1, .slice Al nL cl, .slice A6 (ms + 1) c6, rfl, HK1.out, HLOW2.out, ?_⟩, by simp only [intOf]; omega⟩
            rw [HLV.out]
            have hbr7 : w.heap.size ≠ w2.heap.size := by have := HT4.out.lo; omega
            refine ⟨HBX6.out.set_ 1 _, ⟨ownsRow_setCell_other hl6 (own_blk_ne hl6 HBX6.out (by decide)) _, ?_⟩, ?_, HBR6.out.far (p := ⟨w2.heap.size, 1, none⟩) hbr7 _, HT4.out.lo⟩
            · have h1 := ownsRow_setCell_other HW6.out (own_blk_ne HW6.out HBX6.out (by decide)) (a := ⟨w2.heap.size, 1, none⟩) (.slice A6 (ms + 1) c6)
              simp only [Bool.false_eq_true, if_false]
              rw [flatS_append, List.length_append, ← HMS.out, ← HSL.out]
              exact h1
            · refine Below.setCell (((HT4.out.below.alloc HT4.out.below.size _).grown HG6.out (by rw [World.size_alloc]; omega) fun j hj => (HSO.out.lt j hj).1)) (p := ⟨w2.heap.size, 1, none⟩) ?_ _
              have := HT4.out.lo
              show w.heap.size ≤ w2.heap.size
              omega
      · have i1 : ¬ (k : Int) < (m : Int) := by omega
        have hkm : k = m := by omega
        have q0 : wr.cell? ⟨w2.heap.size, 0, none⟩ = some (.slice Al nL cl) := hT.box.cell 0
        have q1 : wr.cell? ⟨w2.heap.size, 1, none⟩ = some (.slice As ms cs) := hT.box.cell 1
        have r0 := hT.res.frozen 0
        have r1 := hT.res.frozen 1
        have r2 : wr.cell? ⟨w.heap.size, 0, none⟩ = some (.slice none 0 0) := hT.res.cell 0
        have r3 : wr.cell? ⟨w.heap.size, 1, none⟩ = some (.slice none 0 0) := hT.res.cell 1
        have HT := Lib.hid hT
        have HLOW := Lib.hid hlow
        clear hT hlow hk
        go_wp2
        have hfin := HT.out.fin
        refine bodyPost_ret (v := .agg #[.slice Al nL cl, .slice As ms cs]) ?_ ?_ ?_
        · exact results_cell_row rfl _ _ w.heap.size 40 #[.slice Al nL cl, .slice As ms cs] (0, 0) _ rfl hfin.1 Tryz.underlying40 rfl rfl
        · rfl
        refine ⟨_, _, rfl, ?_, hfin.2.2⟩
        rw [selP_of (k := k) HFR.out (by rw [← HTL.out]; exact HLOW.out) (fun y hy => ?_), ← HTL.out]
        · exact hfin.2.1
        · rw [← HTL.out, List.drop_of_length_le (by rw [← HML.out]; omega)] at hy
          cases hy
end Go.Proofs.YtbeeejpjnniejaaGreatDoor
namespace Go.Proofs.YtbeeejpjnniejaaGreatDoor
open Go.RowKit
/-- what is selected -/
def selS (mean : List Lbl → Bool) (a b : Int) (s : HSer) : Option Ser := if mean s.1 && !(selP s.2 a b).isEmpty then some (s.1, selP s.2 a b) else none
def Hd.sel (H : Hd) (mean : List Lbl → Bool) (a b : Int) : List Ser := H.ss.filterMap (selS mean (max a H.horizon) b)
theorem selS_some {mean : List Lbl → Bool} {a b : Int} {s : HSer} {x : Ser} (h : selS mean a b s = some x) : mean s.1 = true ∧ x = (s.1, selP s.2 a b) ∧ selP s.2 a b ≠ [] := by
  unfold selS at h
  split at h
  · rename_i hc
    injection h with h
    simp only [Bool.and_eq_true, Bool.not_eq_true', List.isEmpty_eq_false_iff] at hc
    exact ⟨hc.1, h.symm, hc.2⟩
  · cases h
theorem mem_selP {r : List HSmp} {a b : Int} {x : Smp} (h : x ∈ selP r a b) : a ≤ x.1 ∧ x.1 ≤ b ∧ ∃ y ∈ r, smpOf y = x := by
  unfold selP at h
  obtain ⟨y, hy, rfl⟩ := List.mem_map.1 h
  rw [List.mem_filter] at hy
  simp only [Bool.and_eq_true, decide_eq_true_eq] at hy
  exact ⟨hy.2.1.1, hy.2.1.2, y, hy.1, rfl⟩
theorem selP_rises {r : List HSmp} (h : Rises r) (a b : Int) : (selP r a b).Pairwise fun x y => x.1 < y.1 := by
  unfold selP
  rw [List.pairwise_map]
  exact List.Pairwise.sublist List.filter_sublist h
structure SelOk (H : Hd) (l : List Ser) : Prop where
  sorted : l.Pairwise fun x y => cmpL x.1 y.1 < 0
  pos : ∀ s ∈ l, s.2 ≠ []
  rises : ∀ s ∈ l, s.2.Pairwise fun x y => x.1 < y.1
  late : ∀ s ∈ l, ∀ x ∈ s.2, H.horizon ≤ x.1
  fit : ∀ s ∈ l, fitP s.1 = true
theorem sel_ok {H : Hd} (h : H.Ok) (mean : List Lbl → Bool) (a b : Int) : SelOk H (H.sel mean a b) where
  sorted := by
    unfold Hd.sel
    rw [List.pairwise_filterMap]
    refine h.sorted.imp ?_
    intro x y hxy x' hx y' hy
    obtain ⟨-, rfl, -⟩ := selS_some hx
    obtain ⟨-, rfl, -⟩ := selS_some hy
    exact hxy
  pos := fun s hs => by
    obtain ⟨x, hx, e⟩ := List.mem_filterMap.1 hs
    obtain ⟨-, rfl, hn⟩ := selS_some e
    exact hn
  rises := fun s hs => by
    obtain ⟨x, hx, e⟩ := List.mem_filterMap.1 hs
    obtain ⟨-, rfl, hn⟩ := selS_some e
    exact selP_rises (h.ser x hx).rises _ _
  late := fun s hs y hy => by
    obtain ⟨x, hx, e⟩ := List.mem_filterMap.1 hs
    obtain ⟨-, rfl, hn⟩ := selS_some e
    have := (mem_selP hy).1
    omega
  fit := fun s hs => by
    obtain ⟨x, hx, e⟩ := List.mem_filterMap.1 hs
    obtain ⟨-, rfl, hn⟩ := selS_some e
    exact (h.ser x hx).right
end Go.Proofs.YtbeeejpjnniejaaGreatDoor
namespace Go.Proofs.YtbeeejpjnniejaaGreatDoor
open Go.RowKit

def noDeferO (o : Oper) : Bool := match o.op with
  | .defer _ => false
  | _ => true
theorem noDeferO_spec {o : Oper} (h : noDeferO o = true) : ∀ c, o.op ≠ .defer c := fun c e => by
  unfold noDeferO at h
  rw [e] at h
  cases h
section
variable {F : Fence} {n : Nat} {P : Program} {ops : Array Oper} {md : Region.Mode} {C : World → Prop} {Q : Exit → Act → World → Prop}
/-- as wpAnyIn, and all worlds on the way are of the class -/
def wpAnyC (F : Fence) (n : Nat) (P : Program) (md : Region.Mode) (ops : Array Oper) (C : World → Prop) (Q : Exit → Act → World → Prop) : Nat → Array Bool → Act → World → Prop
  | 0, listed, a, w => Region.ready md ops listed = [] ∧ Q .normal a w
  | fuel + 1, listed, a, w =>
    (Region.ready md ops listed = [] → Q .normal a w) ∧
    ∀ i ∈ Region.ready md ops listed, wpOpIn F n P ops Q i (fun a' w' => C w' ∧ wpAnyC F n P md ops C Q fuel (listed.setIfInBounds i true) a' w') a w
theorem wpAnyIn_of_C : ∀ (fuel : Nat) (listed : Array Bool) (a : Act) (w : World), wpAnyC F n P md ops C Q fuel listed a w → wpAnyIn F n P md ops Q fuel listed a w
  | 0, _, _, _, h => h
  | fuel + 1, _, _, _, h => ⟨h.1, fun i hi => wpOpIn_mono (fun _ _ h' => wpAnyIn_of_C fuel _ _ _ h'.2) (h.2 i hi)⟩
/-- answers v in each world of the class, and leaves the world as it is -/
def YieldsC (F : Fence) (n : Nat) (P : Program) (ops : Array Oper) (C : World → Prop) (o : Oper) (v : Value) (a : Act) : Prop :=
  (Region.wanted o (yielded ops a.tmps) = true ∧ ∀ w, C w → (execOp a.eval o).run P w = .ok (.value v) w ∨ ∃ f args, (execOp a.eval o).run P w = .ok (.enter f args) w ∧ ((F.depth.isSome = true → 1 ≤ n) ∧ CallsIn F (n - 1) P f args w fun e w' => e = .returned v ∧ w' = w)) ∨ (Region.wanted o (yielded ops a.tmps) = false ∧ v = undef)
theorem YieldsC.of_same {o : Oper} {v : Value} {a a' : Act} (hy : YieldsC F n P ops C o v a) (he : execOp a'.eval o = execOp a.eval o)
    (hw : Region.wanted o (yielded ops a'.tmps) = Region.wanted o (yielded ops a.tmps)) : YieldsC F n P ops C o v a' := by
  unfold YieldsC at *
  rw [he, hw]
  exact hy
theorem YieldsC.wpOpIn {i : Nat} {o : Oper} {v : Value} {a : Act} (hfn : ∀ f, F.fn f) (hnd : noDeferO o = true) (hi : ops[i]? = some o) (hy : YieldsC F n P ops C o v a)
    {K : Act → World → Prop} {w : World} (hC : C w) (h : K (a.put o.dst v) w) : wpOpIn F n P ops Q i K a w := by
  unfold Go.wpOpIn
  simp only [hi]
  rcases hy with ⟨hw, hv⟩ | ⟨hw, rfl⟩
  · simp only [hw, if_true, Oper.wpIn]
    refine ⟨fun f _ => hfn f, ?_⟩
    rw [Oper.semAt_plain F _ _ (noDeferO_spec hnd)]
    rcases hv w hC with e | ⟨f, args, e, hd, hc⟩
    · rw [e]; exact h
    · rw [e]
      refine ⟨hd, hc.mono ?_⟩
      rintro _ _ ⟨rfl, rfl⟩
      exact h
  · simp only [hw, Bool.false_eq_true, if_false]; exact ⟨fun f _ => hfn f, h⟩
theorem wpOpC_put {j : Nat} {oi oj : Oper} {v : Value} (hfn : ∀ f, F.fn f) (hnd : noDeferO oj = true) (hj : ops[j]? = some oj) (hap : oi.apart ops oj = true)
    (hsi : ∀ cs b, oi.op ≠ .select cs b) (hsj : ∀ cs b, oj.op ≠ .select cs b)
    (hQ : ∀ c a w, Q (.panic c) (a.put oi.dst v) w → Q (.panic c) a w) {K : Act → World → Prop} {a : Act} {w : World}
    (hy : YieldsC F n P ops C oi v a) (h : wpOpIn F n P ops Q j K (a.put oi.dst v) w) :
    wpOpIn F n P ops Q j (fun a' w' => YieldsC F n P ops C oi v a' ∧ K (a'.put oi.dst v) w') a w := by
  obtain ⟨h1, h2, h3⟩ := Oper.apart_spec hap
  have keep : ∀ (a : Act), YieldsC F n P ops C oi v a → ∀ u, YieldsC F n P ops C oi v (a.put oj.dst u) := fun a hy u =>
    hy.of_same (execOp_put oi hsi a oj.dst u h3) (wanted_put oi a oj.dst u h3)
  unfold wpOpIn at *
  simp only [hj] at *
  rw [wanted_put oj a oi.dst v h1, about_put oj w a oi.dst v h1] at h
  split
  · rename_i hw
    simp only [hw, if_true] at h
    unfold Oper.wpIn at *
    rw [about_put oj w a oi.dst v h1] at h
    refine ⟨h.1, ?_⟩
    have h := h.2
    rw [Oper.semAt_plain F _ _ (noDeferO_spec hnd), execOp_put oj hsj a oi.dst v h1] at h
    rw [Oper.semAt_plain F _ _ (noDeferO_spec hnd)]
    generalize (execOp a.eval oj).run P w = r at *
    cases r with
    | ok x w' =>
      cases x <;> simp only [Oper.uponIn] at h ⊢
      case value u => exact ⟨keep a hy u, by rw [← Act.put_comm a v u h2]; exact h⟩
      case skip => exact ⟨keep a hy _, by rw [← Act.put_comm a v undef h2]; exact h⟩
      case defer d =>
        refine ⟨keep { a with defers := d :: a.defers } (hy.of_same rfl rfl) _, ?_⟩
        rw [← Act.put_comm _ v undef h2, ← Act.put_defers]
        exact h
      case enter f args =>
        refine ⟨h.1, CallsIn.mono h.2 fun e w'' he => ?_⟩
        cases e with
        | returned u => exact ⟨keep a hy u, by rw [← Act.put_comm a v u h2]; exact he⟩
        | panicked c => exact hQ _ _ _ he
        | outgrown => exact he
      case row row args => exact ⟨h.1, RowsIn.mono h.2 fun u w'' he => ⟨keep a hy u, by rw [← Act.put_comm a v u h2]; exact he⟩⟩
      case round l f tmps assign body =>
        refine ⟨h.1, RoundIn.mono h.2 fun e w'' he => ?_⟩
        cases e with
        | returned u => exact ⟨keep a hy u, by rw [← Act.put_comm a v u h2]; exact he⟩
        | panicked c => exact hQ _ _ _ he
        | outgrown => exact he
    | halt x w' =>
      cases x <;> simp only [Oper.uponIn] at h ⊢
      case panic u => exact hQ _ _ _ h
  · rename_i hw
    simp only [hw] at h
    exact ⟨h.1, keep a hy _, by rw [← Act.put_comm a v undef h2]; exact h.2⟩
theorem wpAnyC_first {i : Nat} {oi : Oper} {v : Value} (hfn : ∀ f, F.fn f) (hnd : ∀ (j : Nat) (o : Oper), ops[j]? = some o → noDeferO o = true) (hi : ops[i]? = some oi) (hsel : ∀ (j : Nat) (o : Oper) cs b, ops[j]? = some o → o.op ≠ .select cs b)
    (hQ : ∀ c a w, Q (.panic c) (a.put oi.dst v) w → Q (.panic c) a w) :
    ∀ (fuel : Nat) (listed : Array Bool) (a : Act) (w : World), C w →
      (∀ j oj, ops[j]? = some oj → j ≠ i → listed.getD j true = false → (∀ e ∈ oj.after, Region.binds md e = true → e.on ≠ i) → oi.apart ops oj = true) →
      i ∈ Region.ready md ops listed → YieldsC F n P ops C oi v a →
      wpAnyC F n P md ops C Q fuel (listed.setIfInBounds i true) (a.put oi.dst v) w → wpAnyC F n P md ops C Q (fuel + 1) listed a w := by
  intro fuel
  induction fuel with
  | zero =>
    intro listed a w hC _ hr hy H
    refine ⟨fun h => (by rw [h] at hr; cases hr), fun j hj => ?_⟩
    by_cases hji : j = i
    · subst hji; exact hy.wpOpIn hfn (hnd _ _ hi) hi hC ⟨hC, H⟩
    · have := ready_mono hj hji
      rw [H.1] at this
      cases this
  | succ fuel ih =>
    intro listed a w hC hfree hr hy H
    refine ⟨fun h => (by rw [h] at hr; cases hr), fun j hj => ?_⟩
    by_cases hji : j = i
    · subst hji; exact hy.wpOpIn hfn (hnd _ _ hi) hi hC ⟨hC, H⟩
    · have h1 := H.2 j (ready_mono hj hji)
      obtain ⟨hjun, oj, hoj, hall⟩ := mem_ready.1 hj
      have hnot : ∀ e ∈ oj.after, Region.binds md e = true → e.on ≠ i := fun e he hb heq => by
        have h1 := hall e he hb
        have h0 := (mem_ready.1 hr).1
        rw [heq] at h1
        rcases Nat.lt_or_ge i listed.size with h' | h'
        · simp [h'] at h0 h1; rw [h0] at h1; cases h1
        · simp [Array.getElem?_eq_none h'] at h1
      have h2 := wpOpC_put hfn (hnd _ _ hoj) hoj (hfree j oj hoj hji hjun hnot) (fun cs b => hsel i oi cs b hi) (fun cs b => hsel j oj cs b hoj) hQ hy h1
      have hfree' : ∀ k ok, ops[k]? = some ok → k ≠ i → (listed.setIfInBounds j true).getD k true = false →
          (∀ e ∈ ok.after, Region.binds md e = true → e.on ≠ i) → oi.apart ops ok = true := fun k ok hk hki hun hno => by
        refine hfree k ok hk hki ?_ hno
        by_cases hjk : j = k
        · subst hjk; exact hjun
        · rw [getD_set_ne true hjk] at hun; exact hun
      refine wpOpIn_mono (fun a' w' h3 => ⟨h3.2.1, ih (listed.setIfInBounds j true) a' w' h3.2.1 hfree' (ready_mono hr (Ne.symm hji)) h3.1 ?_⟩) h2
      rw [Array.setIfInBounds_comm _ _ hji]
      exact h3.2.2
def noDefers (ops : Array Oper) : Bool := ops.all noDeferO
theorem noDefers_spec (h : noDefers ops = true) (j : Nat) (o : Oper) (ho : ops[j]? = some o) : noDeferO o = true := by
  unfold noDefers at h
  rw [Array.all_eq_true_iff_forall_mem] at h
  exact h o (Array.mem_of_getElem? ho)
/-- an operation that answers alike in all worlds of the class is taken first -/
theorem wpAnyC_take {i : Nat} {oi : Oper} (v : Value) {fuel : Nat} {listed : Array Bool} {a : Act} {w : World} (hfn : ∀ f, F.fn f) (hi : ops[i]? = some oi)
    (hnd : noDefers ops = true) (hs : Region.noSelect ops = true) (hf : Region.free md ops listed i = true) (hr : (Region.ready md ops listed).contains i = true)
    (hQ : ∀ c a w, Q (.panic c) (a.put oi.dst v) w → Q (.panic c) a w) (hC : C w) (hw : Region.wanted oi (yielded ops a.tmps) = true) (hy : ∀ w, C w → (execOp a.eval oi).run P w = .ok (.value v) w)
    (h : wpAnyC F n P md ops C Q fuel (listed.setIfInBounds i true) (a.put oi.dst v) w) : wpAnyC F n P md ops C Q (fuel + 1) listed a w :=
  wpAnyC_first hfn (noDefers_spec hnd) hi (Region.noSelect_spec hs) hQ fuel listed a w hC (Region.free_spec hi hf) (by simpa using hr) (.inl ⟨hw, fun w hw => .inl (hy w hw)⟩) h
/-- the same for a call that leaves the world as it is -/
theorem wpAnyC_call {i : Nat} {oi : Oper} (v : Value) (f : FuncId) (args : Array Value) {fuel : Nat} {listed : Array Bool} {a : Act} {w : World} (hfn : ∀ f, F.fn f) (hdp : F.depth = none) (hi : ops[i]? = some oi)
    (hnd : noDefers ops = true) (hs : Region.noSelect ops = true) (hf : Region.free md ops listed i = true) (hr : (Region.ready md ops listed).contains i = true)
    (hQ : ∀ c a w, Q (.panic c) (a.put oi.dst v) w → Q (.panic c) a w) (hC : C w) (hw : Region.wanted oi (yielded ops a.tmps) = true) (he : ∀ w, C w → (execOp a.eval oi).run P w = .ok (.enter f args) w)
    (hc : ∀ w, C w → CallsIn F (n - 1) P f args w fun e w' => e = .returned v ∧ w' = w)
    (h : wpAnyC F n P md ops C Q fuel (listed.setIfInBounds i true) (a.put oi.dst v) w) : wpAnyC F n P md ops C Q (fuel + 1) listed a w :=
  wpAnyC_first hfn (noDefers_spec hnd) hi (Region.noSelect_spec hs) hQ fuel listed a w hC (Region.free_spec hi hf) (by simpa using hr)
    (.inl ⟨hw, fun w hw => .inr ⟨f, args, he w hw, (fun h => by rw [hdp] at h; cases h), hc w hw⟩⟩) h
theorem wpAnyC_done {listed : Array Bool} {a : Act} {w : World} (hr : Region.ready md ops listed = []) (h : Q .normal a w) : ∀ fuel, wpAnyC F n P md ops C Q fuel listed a w
  | 0 => ⟨hr, h⟩
  | _ + 1 => ⟨fun _ => h, by rw [hr]; simp⟩
def AllReadyC (F : Fence) (n : Nat) (P : Program) (md : Region.Mode) (ops : Array Oper) (C : World → Prop) (Q : Exit → Act → World → Prop) (fuel : Nat) (listed : Array Bool) (a : Act) (w : World) (rs : List Nat) : Prop :=
  ∀ i ∈ rs, wpOpIn F n P ops Q i (fun a' w' => C w' ∧ wpAnyC F n P md ops C Q fuel (listed.setIfInBounds i true) a' w') a w
theorem AllReadyC.nil {fuel : Nat} {listed : Array Bool} {a : Act} {w : World} : AllReadyC F n P md ops C Q fuel listed a w [] := fun _ h => by cases h
theorem AllReadyC.cons {fuel : Nat} {listed : Array Bool} {a : Act} {w : World} {i : Nat} {o : Oper} {rs : List Nat} (ho : ops[i]? = some o)
    (h : ∀ K' : Act → World → Prop, (∀ a w, C w ∧ wpAnyC F n P md ops C Q fuel (listed.setIfInBounds i true) a w → K' a w) → if Region.wanted o (yielded ops a.tmps) = true then Oper.wpIn F n P o a w K' Q else (∀ f, o.about P w a.eval = some f → F.fn f) ∧ K' (a.put o.dst undef) w)
    (hs : AllReadyC F n P md ops C Q fuel listed a w rs) : AllReadyC F n P md ops C Q fuel listed a w (i :: rs) := fun j hj => by
  rcases List.mem_cons.1 hj with rfl | hj
  · exact wpOpIn_step ho h
  · exact hs j hj
theorem wpAnyC_ready {rs : List Nat} {fuel : Nat} {listed : Array Bool} {a : Act} {w : World} (hr : Region.ready md ops listed = rs) (hne : rs ≠ [])
    (h : AllReadyC F n P md ops C Q fuel listed a w rs) : wpAnyC F n P md ops C Q (fuel + 1) listed a w :=
  ⟨fun h0 => absurd (hr ▸ h0) hne, hr ▸ h⟩
/-- a drawn region by its class -/
theorem wpIn_region_C {id : Nat} {a : Act} {w : World} (C : World → Prop) (hm : P.follows .mixedOrders = true)
    (h : wpAnyC F n P .any ops C Q ops.size (Array.replicate ops.size false) a w.drew) : (Code.region id ops true).wpIn F n P Q a w :=
  wpIn_region_any hm (wpAnyIn_of_C _ _ _ _ h)
end
end Go.Proofs.YtbeeejpjnniejaaGreatDoor
namespace Go.Proofs.YtbeeejpjnniejaaGreatDoor
open Go.RowKit Go.Maps Go.Sort Go.Shelf
attribute [local go_sem] Oper.semAt_some
/-- what the iterator reads -/
structure SortKeep (base p kb hb : Nat) (s : HS) (l : Dl) (v : Value) (w : World) : Prop where
  so : SortAt w base p kb hb s l v
  dir : DirAt w s.m s.dir.length s.dir
  mp : w.cell? ⟨p, 2, none⟩ = some (.map (some s.m))
def entAt (l : Dl) (k : Nat) : Nm × Nat := l[k]?.getD ([], 0)
theorem entAt_of {l : Dl} {k : Nat} {x : Nm × Nat} (h : l[k]? = some x) : entAt l k = x := by unfold entAt; rw [h]; rfl
def entArgs (l : Dl) (k : Nat) : Array Value := #[nmV (entAt l k).1, .pointer (some ⟨(entAt l k).2, 0, none⟩)]
set_option maxRecDepth 100000 in
set_option maxHeartbeats 1600000 in
theorem sorted_seq (n base p kb hb : Nat) (s : HS) (l : Dl) (v : Value) (hl : l.length ≤ 100000) (hkey : ∀ x ∈ s.dir, x.1.length ≤ 1000000) :
    SeqL Fence.wide n Tryz.prog 128 #[.pointer (some ⟨kb, 0, none⟩), .pointer (some ⟨hb, 0, none⟩)] (entArgs l) l.length (fun _ => True) (SortKeep base p kb hb s l v) := by
  intro lp J Jx W hJw hJb hY _ hJ0
  obtain ⟨m, hm⟩ : ∃ m, m = l.length := ⟨_, rfl⟩
  have hk0 := hJw 0 W hJ0
  obtain ⟨A, c, hv⟩ := own_slice hk0.so.keys
  subst hv
  rw [← hm] at hl hY hJw ⊢
  have x0 : W.cell? ⟨kb, 0, none⟩ = some (.slice A m c) := by rw [hm]; exact hk0.so.kB.cell 0
  have HM := Lib.hid hm
  have HJW := Lib.hid hJw
  have HJB := Lib.hid hJb
  have HY := Lib.hid hY
  have HKY := Lib.hid hkey
  have HI := Lib.hid (show AllR J m (.int .i64 0) W from ⟨0, rfl, Nat.zero_le _, hJ0⟩)
  clear hm hJw hJb hY hJ0 hk0 hkey
  refine callsIn_of_wp Tryz.func128 rfl trivial ?_ rfl
  simp only [Tryz.ntmps128, List.size_toArray, List.length_cons, List.length_nil, Nat.reduceAdd, Nat.reduceSub, Array.replicate_succ, Array.replicate_zero, List.push_toArray, List.append_toArray, List.nil_append, List.cons_append]
  refine wpIn_wide.2 ?_
  go_wp2_with fail
  go_loopw [8] (fun i wr => AllR J m i wr) (fun i _ => m - (intOf i).toNat)
  case atStart => exact HI.out
  case round =>
    obtain ⟨k, rfl, hk, hJk⟩ := hrel
    have hb' := HJW.out k wr hJk
    have HJK := Lib.hid hJk
    by_cases hlt : k < m
    · have i1 : (k : Int) < (m : Int) := by omega
      have sk : IntKind.i64.wrap ((k : Int) + 1) = ((k + 1 : Nat) : Int) := (IntWalk.i64_in _ (by omega)).trans (by omega)
      obtain ⟨x, hx⟩ : ∃ x, l[k]? = some x := ⟨_, List.getElem?_eq_getElem (by have := HM.out; omega)⟩
      have hxm : x ∈ s.dir := hb'.so.perm.mem_iff.1 (List.mem_of_getElem? hx)
      have hkeys := hb'.so.keys
      rw [← HM.out] at hkeys
      obtain ⟨d, u, rfl, -, hu, hcu⟩ := (Reads.of_own hkeys).at_ (k := k) hlt
      clear hkeys
      rw [List.getElem?_map, hx] at hu
      injection hu with hu
      subst hu
      have hla := entAt_of hx
      have h0 : wr.cell? ⟨hb, 0, none⟩ = some (.pointer (some ⟨p, 0, none⟩)) := hb'.so.hB.cell 0
      have h2 := hb'.mp
      have lx : (Instr.lookup 124 (.map (some s.m)) (nmV x.1) false).run Tryz.prog wr = .ok (.pointer (some ⟨x.2, 0, none⟩)) wr := by
        have h := hb'.dir.look124 ⟨x.1.toArray⟩ (by have := HKY.out x hxm; have h2 : (⟨x.1.toArray⟩ : ByteArray).size = x.1.length := by simp [ByteArray.size]
                                                    unfold maxLen; omega)
        rw [show (⟨x.1.toArray⟩ : ByteArray).data.toList = x.1 by simp, dget_of_mem hb'.dir.tidy hxm] at h
        exact h
      obtain ⟨fn, tmps, assign, body, hy, hRd⟩ := HY.out k wr HJK.out hlt
      have ha : entArgs l k = #[nmV x.1, .pointer (some ⟨x.2, 0, none⟩)] := by unfold entArgs; rw [hla]
      rw [ha] at hy
      obtain ⟨kx, hkx⟩ : ∃ z, z = nmV x.1 := ⟨_, rfl⟩
      dsimp only at hcu
      rw [← hkx] at hy lx hcu
      have HRD := Lib.hid hRd
      clear hx hla hJk hb' ha hkx hRd hxm
      go_upto_region 3 with (fail)
      refine (wpIn_wide (n := n)).1 ?_
      gi_wp2
      refine ⟨(fun h => by cases h), HRD.out.mono ?_⟩
      rintro e W3 (⟨rfl, hJ3⟩ | ⟨rfl, hJx3⟩)
      · have HJ3 := Lib.hid hJ3
        clear hJ3 hy HRD h0 h2 lx hcu
        gi_wp2
        go_wp2_with fail
        exact ⟨⟨k + 1, rfl, by omega, HJ3.out⟩, by simp [intOf]; omega⟩
      · have HJX := Lib.hid hJx3
        clear hy HRD hJx3 h0 h2 lx hcu
        gi_wp2
        go_wp2_with fail
        refine bodyPost_ret (results_none rfl _ _ _) rfl ?_
        exact ⟨⟨_, rfl⟩, .inr HJX.out⟩
    · have i1 : ¬ (k : Int) < (m : Int) := by omega
      obtain rfl : k = m := by omega
      clear hb' hJk
      go_wp2_with fail
      refine bodyPost_end (results_none rfl _ _ _) rfl ?_
      exact ⟨⟨_, rfl⟩, .inl HJK.out⟩
end Go.Proofs.YtbeeejpjnniejaaGreatDoor
