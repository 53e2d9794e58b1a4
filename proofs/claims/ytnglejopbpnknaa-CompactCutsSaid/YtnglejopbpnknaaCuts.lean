/- The walk of compact.Cuts. -/
import Derived.Lib.OwnBridge
import Derived.Sort.OwnSortedInts
import Derived.Test.YtnglejopbpnknaaShelf
import Derived.Test.YtnglejopbpnknaaSpoil
namespace Go.Proofs.Ytnglejopbpnknaa
open Go.RowKit Go.Shelf Go.Lib Go.Sort

/-- what a list of cuts is -/
def CutsPost (w : World) (ts : List Int) (newest wd : Int) (e : Ending) (w' : World) : Prop :=
  ∃ v l, e = .returned v ∧ w'.ownsRow w.heap.size 3 1 v l.length (l.map (Value.int .i64)) ∧ l.length ≤ ts.length ∧ IsCuts ts newest wd l ∧ Below w.heap.size w w'

def CutR (w : World) (ts : List Int) (newest wd : Int) (v i : Value) (wr : World) : Prop :=
  ∃ (k : Nat) (u : Value), k ≤ ts.length ∧ u = v ∧ i = .int .i64 k ∧ wr.ownsRow w.heap.size 3 1 u (cutF newest wd (ts.take k)).length ((cutF newest wd (ts.take k)).map (Value.int .i64)) ∧ Below w.heap.size w wr

theorem cutF_snoc (newest wd : Int) (ts : List Int) (k : Nat) (hk : k < ts.length) :
    cutF newest wd (ts.take (k + 1)) = cutF newest wd (ts.take k) ++ (if floorZ (ts.getD k 0) wd + wideT wd ≤ clampT newest - wideT wd / 2 then [floorZ (ts.getD k 0) wd] else []) := by
  unfold cutF
  rw [List.take_succ_eq_append_getElem hk, List.map_append, List.filter_append, List.getD, List.getElem?_eq_getElem hk]
  congr 1
  simp [List.filter_cons]
theorem cutF_len (newest wd : Int) (ts : List Int) : (cutF newest wd ts).length ≤ ts.length := by
  unfold cutF
  exact Nat.le_trans (List.length_filter_le _ _) (by simp)
theorem compact_len (zs : List Int) : (Lib.compact zs).length ≤ zs.length := by
  unfold Lib.compact Lib.compactUpTo
  rw [List.length_map]
  exact Nat.le_trans (List.length_filter_le _ _) (by simp)
theorem floor_up (t b : Int) (hb : 1 ≤ b) (hb2 : b < 36028797018963968) : -45035996273704960 ≤ floorZ t b ∧ floorZ t b ≤ 9007199254740992 := by
  have h1 := clampT_bd t
  have h2 := Int.emod_lt_of_pos (clampT t) (show 0 < wideT b by unfold wideT; omega)
  have h3 := Int.emod_nonneg (clampT t) (show wideT b ≠ 0 by unfold wideT; omega)
  have h4 : wideT b = b := by unfold wideT; omega
  unfold floorZ
  rw [h4] at h2 h3 ⊢
  omega

theorem compact_own (g cap n B : Nat) (zs : List Int) (w : World) (hz : zs.length = n) (h : w.ownsRow B 3 1 (.slice (some ⟨g, 0, none⟩) n cap) n (zs.map (Value.int .i64))) (hn : n ≤ 100000) :
    Calls Try.prog 36 #[.slice (some ⟨g, 0, none⟩) n cap] w fun e w' => e = .returned (.slice (some ⟨g, 0, none⟩) (Lib.compact zs).length cap) ∧
      w'.ownsRow B 3 1 (.slice (some ⟨g, 0, none⟩) (Lib.compact zs).length cap) (Lib.compact zs).length ((Lib.compact zs).map (Value.int .i64)) ∧
      ∃ q, w' = putRow (Value.int .i64) (Sort.ahead w q) g 0 (Lib.compact zs ++ List.replicate (zs.length - (Lib.compact zs).length) 0).toArray := by
  subst hz
  obtain ⟨g', cap', he, -, hgl, hnc, -, -, hH⟩ := Lib.holds_of_ownsRow h (by simp)
  obtain ⟨rfl, rfl⟩ : g = g' ∧ cap = cap' := by injection he with a b c; injection a with a; injection a with a; exact ⟨a, c⟩
  have hcl := compact_len zs
  refine (Try.slices_Compact_int g 0 cap zs w hH (by omega) hnc).mono ?_
  rintro e w' ⟨rfl, q, rfl⟩
  refine ⟨rfl, ?_, q, rfl⟩
  have := Lib.ownsRow_putRow (q := q) (k := (Lib.compact zs).length) (ys := Lib.compact zs ++ List.replicate (zs.length - (Lib.compact zs).length) 0) h (by simp; omega) hcl
  rwa [List.take_left'] at this
  rfl

set_option maxRecDepth 100000 in
set_option maxHeartbeats 1600000 in
theorem cuts_any (A : Option Addr) (n c : Nat) (ts : List Int) (newest wd : Int) (w : World) (h : Reads w w.heap.size 1 A n (ts.map (Value.int .i64))) (hn : n ≤ 100000) (hw : wd < 9223372036854775808) :
    Calls Try.prog 13 #[.slice A n c, .int .i64 newest, .int .i64 wd] w (CutsPost w ts newest wd) := by
  obtain ⟨i0, hi, hz0, hz1, hz2⟩ := info_parts info3
  obtain rfl : ts.length = n := h.len_int
  have hb : 1 ≤ wideT wd ∧ wideT wd < 9223372036854775808 := by unfold wideT; omega
  have hc := clampT_bd newest
  have HR := Lib.hid h.int_at
  have HI := Lib.hid hi
  have HZ0 := Lib.hid hz0
  have HZ1 := Lib.hid hz1
  have HZ2 := Lib.hid hz2
  have HWD := Lib.hid (show wideT wd = max wd 1 from rfl)
  have HID := Lib.hid (wideT_idem wd)
  have HFW := Lib.hid (fun t => floorZ_wide t wd)
  clear h hi hz0 hz1 hz2
  go_enter Try.func13, Try.ntmps13
  go_upto_region 1 with fail
  go_cut [1, 2] from 11 to 14 (fun s1 s2 wx => s1 = .int .i64 (clampT newest) ∧ s2 = .int .i64 (wideT wd) ∧ wx = w)
  case first =>
    go_wp2_with fail
    refine (within_any newest w).mono ?_
    rintro e w' ⟨rfl, rfl⟩
    go_wp2
    go_meet
    exact ⟨rfl, by rw [HWD.out], rfl⟩
  obtain ⟨rfl, rfl, rfl⟩ := hcut
  obtain ⟨b, hbb⟩ : ∃ b, b = wideT wd := ⟨_, rfl⟩
  obtain ⟨cn, hcn⟩ : ∃ cn, cn = clampT newest := ⟨_, rfl⟩
  rw [← hcn] at hc ⊢
  rw [← hbb] at hb ⊢
  have HB := Lib.hid hbb
  have HC := Lib.hid hcn
  clear hbb hcn
  rcases Int.lt_or_le b 36028797018963968 with h1 | h1
  case inr =>
    go_wp2
    go_ret
    refine ⟨_, [], rfl, World.ownsRow_nil _ _ _ _, Nat.zero_le _, IsCuts.nil (by rw [← HB.out]; exact h1), Below.refl _ _⟩
  case inl =>
    go_wp2_with fail
    go_loopw [7, 19] (fun v i wr => CutR wc ts newest wd v i wr) (fun _ i _ => ts.length - (intOf i).toNat)
    case atStart => exact ⟨0, _, Nat.zero_le _, rfl, rfl, World.ownsRow_nil _ _ _ _, Below.refl _ _⟩
    case round =>
      obtain ⟨k, u, hk, hu, rfl, ho, hB⟩ := hrel
      subst hu
      have HO := Lib.hid ho
      have HBW := Lib.hid hB
      have hsz := hB.size
      clear ho hB
      by_cases hlt : k < ts.length
      · obtain ⟨⟨g, o, s⟩, rfl, hg, hcell⟩ := HR.out (by omega)
        have c0 := (HBW.out.cell (p := Addr.add ⟨g, o, s⟩ k) (by rw [block_of_add]; exact hg)).trans (hcell k hlt)
        have HS := Lib.hid (cutF_snoc newest wd ts k hlt)
        have hL := cutF_len newest wd (ts.take k)
        rw [List.length_take] at hL
        generalize ts.getD k 0 = t at *
        clear hcell
        go_wp2_with fail
        refine (floor_any t b wr (by omega)).mono ?_
        rintro e w' ⟨rfl, rfl⟩
        have hfu := floor_up t b hb.1 h1
        have hfe : floorZ t b = floorZ t wd := by rw [HB.out]; exact HFW.out t
        generalize hz : floorZ t b = z at *
        subst hfe
        clear hz
        by_cases hcut : floorZ t wd + b ≤ cn - b / 2
        · go_wp2_with (at_builtin; go_loud (refine wpList_append_own _ rfl (.tmp 34) (.tmp 36) 40 rfl wc.heap.size 3 i0 (.int .i64 0) 1 8 Try.underlying40 HI.out HZ0.out HZ1.out HZ2.out rfl (by decide) u _ _ rfl (HO.out.alloc _) ⟨_, 0, none⟩ 1 1 [.int .i64 (floorZ t wd)] rfl rfl (cell_one_new _ _ _) (by simp [Value.oneCell']) (by simp only [maxLen]; omega) (by omega) (by simp; omega) ?_; intro v' w1 hown1 hgrow1 _; have HOW := Lib.hid hown1; have HGR := Lib.hid hgrow1; clear hown1 hgrow1))
          refine ⟨⟨k + 1, v', by omega, rfl, by go_num, ?_, (HBW.out.alloc (by omega) _).grown HGR.out (by simp; omega) (fun k hk => (HO.out.lt k hk).1)⟩, by simp [intOf]; omega⟩
          have h5 := HOW.out
          rw [HS.out, if_pos (by rw [← HB.out, ← HC.out]; exact hcut), List.length_append, List.map_append]
          exact h5
        · go_wp2
          refine ⟨⟨k + 1, u, by omega, rfl, by go_num, ?_, HBW.out⟩, by simp [intOf]; omega⟩
          rw [HS.out, if_neg (by rw [← HB.out, ← HC.out]; exact Int.not_le.2 hcut), List.append_nil]
          exact HO.out
      · obtain rfl : k = ts.length := by omega
        have HO' := Lib.hid (show wr.ownsRow wc.heap.size 3 1 u (cutF newest wd ts).length ((cutF newest wd ts).map (Value.int .i64)) by have := HO.out; rwa [List.take_length] at this)
        have hL := cutF_len newest wd ts
        have HF := Lib.hid (IsCuts.of_sort (ts := ts) (newest := newest) (wd := wd) (by rw [← HB.out]; exact h1))
        clear HO hlt
        generalize cutF newest wd ts = ys at *
        rcases Nat.eq_zero_or_pos ys.length with h0 | h0
        · obtain rfl : ys = [] := List.eq_nil_of_length_eq_zero h0
          obtain ⟨A', c', rfl⟩ := own_slice HO'.out
          clear h0 hL
          simp only [List.length_nil] at HO' ⊢
          go_wp2_with fail
          refine (Try.slices_Sort_int_none A' c' wr).mono ?_
          rintro e w' ⟨rfl, rfl⟩
          go_wp2_with fail
          refine (Try.slices_Compact_int_empty A' c' _).mono ?_
          rintro e w' ⟨rfl, rfl⟩
          go_wp2
          go_ret
          exact ⟨_, [], rfl, HO'.out, Nat.zero_le _, (by simpa [Lib.compact, Lib.compactUpTo] using HF.out), HBW.out⟩
        · obtain ⟨g, cap, cur, hv, hbg, hcur, hncap, hcm, hcs, -⟩ := HO'.out.2.resolve_left (fun h => by omega)
          subst hv
          obtain ⟨g', cap', he, -, hgl, -, -, -, hH⟩ := Lib.holds_of_ownsRow HO'.out (by simp)
          obtain ⟨rfl, rfl⟩ : g = g' ∧ cap = cap' := by injection he with a b c; injection a with a; injection a with a; exact ⟨a, c⟩
          have hms : (ys.mergeSort fun x y => decide (x ≤ y)).length = ys.length := List.length_mergeSort ..
          have hsrt := fun n os => ownsRow_sortedI (n := n) (os := os) hms hbg hcur hncap hcm hcs
          have HSR := Lib.hid hsrt
          have HMS := Lib.hid hms
          have HH := Lib.hid hH
          have HCL := Lib.hid (compact_len (ys.mergeSort fun x y => decide (x ≤ y)))
          clear hsrt he hcur hcs hms hH
          go_wp2_with fail
          refine (Try.slices_Sort_int g 0 cap ys wr HH.out hgl (by omega)).mono ?_
          rintro e w2 ⟨rfl, q, os, hw2⟩
          have ho2 : w2.ownsRow wc.heap.size 3 1 (.slice (some ⟨g, 0, none⟩) ys.length cap) ys.length ((ys.mergeSort fun x y => decide (x ≤ y)).map (Value.int .i64)) := by rw [hw2]; exact HSR.out q os
          have hg2 : wr.grownBy w2 (some g) := by rw [hw2]; exact grownBy_sortedI _
          have hb2 : Below wc.heap.size wc w2 := HBW.out.grown hg2 hsz (fun k hk => by cases hk; exact hbg)
          generalize (ys.mergeSort fun x y => decide (x ≤ y)) = zs at *
          have HO2 := Lib.hid ho2
          have HB2 := Lib.hid hb2
          clear hw2 hg2 ho2 hb2 HSR HH HO' HBW
          go_wp2_with fail
          refine (compact_own g cap ys.length wc.heap.size zs w2 HMS.out HO2.out (by omega)).mono ?_
          rintro e w3 ⟨rfl, ho3, q3, hw3⟩
          have hb3 : Below wc.heap.size wc w3 := by rw [hw3]; exact Lib.below_putRow HB2.out hbg
          have HO3 := Lib.hid ho3
          have HB3 := Lib.hid hb3
          clear hw3 ho3 hb3 HO2 HB2
          go_wp2
          go_ret
          exact ⟨_, _, rfl, HO3.out, by have := HCL.out; have := HMS.out; omega, HF.out, HB3.out⟩
end Go.Proofs.Ytnglejopbpnknaa
