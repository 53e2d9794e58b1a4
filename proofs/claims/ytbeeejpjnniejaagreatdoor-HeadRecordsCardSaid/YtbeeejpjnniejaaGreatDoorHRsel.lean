/- The document's head: Matches with no matchers (31), Select with none (60). -/
import Derived.Test.YtbeeejpjnniejaaGreatDoorHRplan
import Derived.Test.YtbeeejpjnniejaaGreatDoorJ11HTold
import Derived.Test.YtbeeejpjnniejaaGreatDoorJ09HCommit1
namespace Go.Proofs.YtbeeejpjnniejaaGreatDoor
open Go.RowKit Go.Shelf Go.Maps
attribute [-go_sem] Builtin.append_
attribute [local go_sem] run_store_float
set_option maxRecDepth 100000 in
set_option maxHeartbeats 1600000 in
theorem rmatches_nil (w : World) (v : Value) : Calls Tryz.prog 31 #[.slice none 0 0, v] w fun e w' => e = .returned (.tuple #[.bool true, .int .i64 0]) ∧ w = w' := by
  go_enter Tryz.func31, Tryz.ntmps31
  go_wp2_with fail
  go_loopw [6, 7, 8] (fun a b i wr => a = .slice none 0 0 ∧ b = .int .i64 0 ∧ i = .int .i64 0 ∧ wr = w) (fun _ _ _ _ => 0)
  case atStart => exact ⟨rfl, rfl, rfl, rfl⟩
  case round =>
    obtain ⟨rfl, rfl, rfl, rfl⟩ := hrel
    go_wp2_with fail
    go_loopw [13] (fun i wq => i = .int .i64 0 ∧ wq = wr) (fun _ _ => 0)
    case atStart => exact ⟨rfl, rfl⟩
    case round =>
      obtain ⟨rfl, rfl⟩ := hrel
      go_wp2_with fail
      go_loopw [14] (fun i wq => i = .int .i64 0 ∧ wq = wr) (fun _ _ => 0)
      case atStart => exact ⟨rfl, rfl⟩
      case round =>
        obtain ⟨rfl, rfl⟩ := hrel
        go_wp2
        go_ret2
        exact ⟨rfl, rfl⟩
theorem selP_snoc (r : List HSmp) (a b : Int) (x : HSmp) : selP (r ++ [x]) a b = selP r a b ++ if a ≤ x.1 ∧ x.1 ≤ b ∧ x.2.2 = false then [smpOf x] else [] := by
  unfold selP
  rw [List.filter_append, List.map_append]
  congr 1
  by_cases h : a ≤ x.1 ∧ x.1 ≤ b ∧ x.2.2 = false
  · rw [if_pos h]; simp [h.1, h.2.1, h.2.2]
  · rw [if_neg h]
    have : (decide (a ≤ x.1) && decide (x.1 ≤ b) && !x.2.2) = false := by
      cases hx : (decide (a ≤ x.1) && decide (x.1 ≤ b) && !x.2.2) with
      | false => rfl
      | true => exact absurd (by simpa [and_assoc] using hx) h
    simp [this]
theorem selP_take {r : List HSmp} {j : Nat} {x : HSmp} (a b : Int) (h : r[j]? = some x) : selP (r.take (j + 1)) a b = selP (r.take j) a b ++ if a ≤ x.1 ∧ x.1 ≤ b ∧ x.2.2 = false then [smpOf x] else [] := by
  rw [List.take_add_one, h]
  exact selP_snoc _ _ _ _
theorem flatS_snoc (l : List Smp) (t : Int) (v : Nat) : flatS (l ++ [(t, v)]) = flatS l ++ [.int .i64 t, .float .f64 v] := by
  unfold flatS
  rw [flat2_append]
  rfl
structure RsI (w : World) (sel : List Ser) (out : Value) (W : World) : Prop where
  own : ∃ vs : List VV, vs.length = sel.length ∧ W.ownsRow w.heap.size 40 2 out sel.length (flatV vs) ∧ ∀ (i : Nat) (x : VV) (s : Ser), vs[i]? = some x → sel[i]? = some s → LabsAt w w.heap.size x.1 s.1 ∧ W.ownsRow w.heap.size 49 2 x.2 s.2.length (flatS s.2)
  bel : Below w.heap.size w W
theorem RsI.below {w W W2 : World} {sel : List Ser} {out : Value} (h : RsI w sel out W) (hb : Below W.heap.size W W2) : RsI w sel out W2 := by
  obtain ⟨vs, h1, h2, h3⟩ := h.own
  exact ⟨⟨vs, h1, own_below h2 hb, fun i x s a b => ⟨(h3 i x s a b).1, own_below (h3 i x s a b).2 hb⟩⟩, h.bel.trans (hb.mono h.bel.size)⟩
theorem RsI.step {w W W7 : World} {sel : List Ser} {A : Option Addr} {n c : Nat} {v7 : Value} {vs : List VV} {q : VV} {s : Ser} {o : Obj} (hbel : Below w.heap.size w W) (hl : vs.length = sel.length) (ho : W.ownsRow w.heap.size 40 2 (.slice A n c) sel.length (flatV vs))
    (he : ∀ (i : Nat) (x : VV) (s : Ser), vs[i]? = some x → sel[i]? = some s → LabsAt w w.heap.size x.1 s.1 ∧ W.ownsRow w.heap.size 49 2 x.2 s.2.length (flatS s.2)) (hq1 : LabsAt w w.heap.size q.1 s.1) (hq2 : W.ownsRow w.heap.size 49 2 q.2 s.2.length (flatS s.2))
    (hg : (W.alloc o).grownBy W7 (Value.slice A n c).ownBlock) (ho7 : W7.ownsRow w.heap.size 40 2 v7 (sel.length + 1) (flatV vs ++ [q.1, q.2])) : RsI w (sel ++ [s]) v7 W7 := by
  have hk : ∀ {m : Nat} {v : Value} {xs : List Value}, W.ownsRow w.heap.size 49 2 v m xs → W7.ownsRow w.heap.size 49 2 v m xs := fun h => (h.alloc o).kept hg (own_ne2 (h.alloc o) (ho.alloc o) (by decide))
  refine ⟨⟨vs ++ [q], by simp [hl], ?_, ?_⟩, ?_⟩
  · have e : flatV (vs ++ [q]) = flatV vs ++ [q.1, q.2] := by unfold flatV; rw [flat2_append]; rfl
    rw [e, List.length_append]
    exact ho7
  · intro i x s' h1 h2
    by_cases hi : i < sel.length
    · rw [List.getElem?_append_left (by omega)] at h1 h2
      exact ⟨(he i x s' h1 h2).1, hk (he i x s' h1 h2).2⟩
    · rw [List.getElem?_append_right (by omega)] at h1 h2
      have hi0 : i - sel.length = 0 := by
        rcases Nat.eq_zero_or_pos (i - sel.length) with h0 | h0
        · exact h0
        · rw [List.getElem?_eq_none (by simp; omega)] at h2
          cases h2
      rw [hl, hi0] at h1
      rw [hi0] at h2
      simp at h1 h2
      subst h1 h2
      exact ⟨hq1, hk hq2⟩
  · have h1 : Below w.heap.size w (W.alloc o) := hbel.alloc hbel.size o
    exact h1.grown hg (by rw [World.size_alloc]; have := hbel.size; omega) fun j hj => (ho.lt j hj).1
def selK (H : Hd) (a b : Int) (k : Nat) : List Ser := (H.ss.take k).filterMap (selS (fun _ => true) a b)
theorem selK_len (H : Hd) (a b : Int) (k : Nat) : (selK H a b k).length ≤ H.ss.length := Nat.le_trans (List.length_filterMap_le _ _) (by rw [List.length_take]; omega)
theorem selK_step {H : Hd} {a b : Int} {k : Nat} {s : HSer} (h : H.ss[k]? = some s) : selK H a b (k + 1) = selK H a b k ++ if (selP s.2 a b).isEmpty then [] else [(s.1, selP s.2 a b)] := by
  unfold selK
  rw [List.take_add_one, h, List.filterMap_append]
  congr 1
  unfold selS
  cases hp : selP s.2 a b with
  | nil => simp [List.filterMap, hp]
  | cons x l => simp [List.filterMap, hp]
def RsR (w : World) (a b : Int) (H : Hd) (out i : Value) (wr : World) : Prop := ∃ k : Nat, i = .int .i64 (k : Int) ∧ k ≤ H.ss.length ∧ RsI w (selK H a b k) out wr
/-- in the inner loop -/
def RiR (W1 : World) (a b : Int) (r : List HSmp) (l i : Value) (wr : World) : Prop := ∃ j : Nat, i = .int .i64 (j : Int) ∧ j ≤ r.length ∧ wr.ownsRow W1.heap.size 49 2 l (selP (r.take j) a b).length (flatS (selP (r.take j) a b)) ∧ Below W1.heap.size W1 wr
set_option maxRecDepth 100000 in
set_option maxHeartbeats 6400000 in
theorem rsel_any (w : World) (F : Nat → Prop) (p n : Nat) (H : Hd) (a b : Int) (h : RHd w F p n H) (hn : n ≤ 100000) :
    Calls Tryz.prog 60 #[.pointer (some ⟨p, 0, none⟩), .slice none 0 0, .int .i64 a, .int .i64 b] w fun e w' => ∃ v, e = .returned (.tuple #[v, .int .i64 0]) ∧ SersRd w' w'.heap.size v (H.sel (fun _ => true) a b) ∧ Below w.heap.size w w' := by
  obtain ⟨j0, hj, hy0, hy1, hy2⟩ := info_parts info40
  have HJ := Lib.hid hj
  have HY0 := Lib.hid hy0
  have HY1 := Lib.hid hy1
  have HY2 := Lib.hid hy2
  obtain ⟨s0, hs, hx0, hx1, hx2⟩ := info_parts info49
  have HS0 := Lib.hid hs
  have HX0 := Lib.hid hx0
  have HX1 := Lib.hid hx1
  have HX2 := Lib.hid hx2
  clear hj hy0 hy1 hy2 hs hx0 hx1 hx2
  obtain ⟨hz, hhz⟩ : ∃ hz, hz = horizonP H.ret H.newest := ⟨_, rfl⟩
  have HHZ := Lib.hid (fun q => rhor_any (w.drewN q) F p n H (h.drewN q))
  rw [← hhz] at HHZ
  obtain ⟨hok, hn1, hn2, vL, vs, hr⟩ := h
  obtain ⟨AL, cL, rfl⟩ := own_slice hr.row
  obtain ⟨N, hN⟩ : ∃ N, N = H.ss.length := ⟨_, rfl⟩
  have hrow := hr.row
  have hblk := hr.blk
  rw [← hN] at hrow hblk hn1
  have hcl : ∀ q, (w.drewN q).cell? ⟨p, 1, none⟩ = some (.slice AL N cL) := fun q => hblk.cell 1
  have HCL := Lib.hid (show w.cell? ⟨p, 1, none⟩ = some (.slice AL N cL) from hblk.cell 1)
  have hpl : p < w.heap.size := hblk.lt
  have HST := Lib.hid (show ∀ mz q, RsR w mz b H (.slice none 0 0) (.int .i64 0) (w.drewN q) from fun mz q => ⟨0, rfl, Nat.zero_le _, ⟨[], rfl, World.ownsRow_nil _ _ _ _, fun i x s h => by simp at h⟩, below_drewN (Below.refl _ w) q⟩)
  have HR := Lib.hid hr
  have HRW := Lib.hid hrow
  have HN := Lib.hid hN
  have HHE := Lib.hid hhz
  have HN2 := Lib.hid hn2
  have HN1 := Lib.hid hn1
  clear hr hrow hN hblk hok hn2 hhz hcl
  have HM := Lib.hid (fun W v => rmatches_nil W v)
  go_enter Tryz.func60, Tryz.ntmps60
  go_wp2_with fail
  refine (HM.out _ _).mono ?_
  rintro e w' ⟨rfl, rfl⟩
  go_wp2_with fail
  refine (HHZ.out 0).mono ?_
  rintro e w' ⟨rfl, q, hw'⟩
  have hw2 : w' = w.drewN q := by rw [hw', World.drewN_drewN, Nat.zero_add]
  subst hw2
  clear hw'
  by_cases hlz : a < hz
  case' pos =>
    go_wp2_with fail
    refine (HHZ.out q).mono ?_
    rintro e w' ⟨rfl, q2, hw'⟩
    rw [World.drewN_drewN] at hw'
    subst hw'
    obtain ⟨q3, hq3⟩ : ∃ q3, q3 = q + q2 := ⟨_, rfl⟩
    rw [← hq3]
    clear hq3
    obtain ⟨mz, hmz⟩ : ∃ mz, mz = hz := ⟨_, rfl⟩
    have HMZ := Lib.hid (show mz = max a hz by omega)
    rw [← hmz]
    clear hlz hmz
    go_wp2_with fail
  case' neg =>
    obtain ⟨q3, hq3⟩ : ∃ q3, q3 = q := ⟨_, rfl⟩
    rw [← hq3]
    clear hq3
    go_wp2_with fail
    obtain ⟨mz, hmz⟩ : ∃ mz, mz = a := ⟨_, rfl⟩
    have HMZ := Lib.hid (show mz = max a hz by omega)
    rw [← hmz]
    clear hlz hmz
  all_goals
    go_loopw [12, 13] (fun out i wr => RsR w mz b H out i wr) (fun _ i _ => N - (intOf i).toNat)
    case atStart => exact HST.out mz q3
    case round =>
      obtain ⟨k, rfl, hk, hI⟩ := hrel
      obtain ⟨vs', hvl, hown, heach⟩ := hI.own
      obtain ⟨Ao, co, eo⟩ := own_slice hown
      subst eo
      have hbel := hI.bel
      have hws : w.heap.size ≤ wr.heap.size := hbel.size
      have y1 : wr.cell? ⟨p, 1, none⟩ = some (.slice AL N cL) := (hbel.cell (p := ⟨p, 1, none⟩) hpl).trans HCL.out
      have hsnl := selK_len H mz b k
      obtain ⟨sn, hsn⟩ : ∃ sn, sn = (selK H mz b k).length := ⟨_, rfl⟩
      rw [← hsn] at hvl hown hsnl hI ⊢
      have HVL := Lib.hid hvl
      have HOW := Lib.hid hown
      have HEA := Lib.hid heach
      have HI := Lib.hid hI
      have HBL := Lib.hid hbel
      have HSN := Lib.hid hsn
      have hsn5 : sn ≤ 100000 := by have := HN1.out; have := HN.out; omega
      clear hI hvl hown heach hbel hsn hsnl
      by_cases hlt : k < N
      · have i1 : (k : Int) < (N : Int) := by omega
        have i0 : (0 : Int) ≤ (k : Int) := by omega
        obtain ⟨s, hs⟩ : ∃ s, H.ss[k]? = some s := ⟨_, List.getElem?_eq_getElem (by have := HN.out; omega)⟩
        obtain ⟨x, hx⟩ : ∃ x, vs[k]? = some x := ⟨_, List.getElem?_eq_getElem (by have := HN.out; have := HR.out.len; omega)⟩
        have hea := HR.out.each k x s hx hs
        have hrd : Reads w w.heap.size 2 AL N (flatV vs) := Reads.of_own HRW.out
        obtain ⟨d, rfl, hdb, y2, y3⟩ := hrd.two hx
        obtain ⟨Al, cl, el⟩ := own_slice hea.1.1
        obtain ⟨AS, cS, es⟩ := own_slice hea.2.1
        have hlab := labs_of_own hea.1.1
        have hrs := hea.2.1
        rw [el] at y2 hlab
        rw [es] at y3 hrs
        obtain ⟨nl, hnl⟩ : ∃ nl, nl = s.1.length := ⟨_, rfl⟩
        obtain ⟨nr, hnr⟩ : ∃ nr, nr = s.2.length := ⟨_, rfl⟩
        rw [← hnl] at y2 hlab
        rw [← hnr] at y3 hrs
        have HYL := Lib.hid y2
        have HYR := Lib.hid y3
        replace y2 := (HBL.out.cell (p := d.add (k * 2)) (by rw [block_of_add]; exact hdb)).trans y2
        have HLAB := Lib.hid hlab
        have HRS := Lib.hid (Reads.of_own hrs)
        have HSK := Lib.hid hs
        have HNR := Lib.hid hnr
        have hnr5 : nr ≤ 100000 := by have := HN2.out s (List.mem_of_getElem? hs); omega
        clear hs hx hea hrd el es hlab hrs hnl hnr y3
        go_wp2_with fail
        refine (HM.out _ _).mono ?_
        rintro e w' ⟨rfl, rfl⟩
        go_wp2_with fail
        have HSI := Lib.hid (show RiR wr mz b s.2 (.slice none 0 0) (.int .i64 0) wr from ⟨0, rfl, Nat.zero_le _, World.ownsRow_nil _ _ _ _, Below.refl _ _⟩)
        obtain ⟨W1, hW1⟩ : ∃ W1, W1 = wr := ⟨_, rfl⟩
        have HSI2 := Lib.hid (show RiR W1 mz b s.2 (.slice none 0 0) (.int .i64 0) wr by rw [hW1]; exact HSI.out)
        have HI1 := Lib.hid (show RsI w (selK H mz b k) (.slice Ao sn co) W1 by rw [hW1]; exact HI.out)
        have HOW1 := Lib.hid (show W1.ownsRow w.heap.size 40 2 (.slice Ao sn co) sn (flatV vs') by rw [hW1]; exact HOW.out)
        have HEA1 := Lib.hid (show ∀ (i : Nat) (x : VV) (s : Ser), vs'[i]? = some x → (selK H mz b k)[i]? = some s → LabsAt w w.heap.size x.1 s.1 ∧ W1.ownsRow w.heap.size 49 2 x.2 s.2.length (flatS s.2) by rw [hW1]; exact HEA.out)
        have HBL1 := Lib.hid (show Below w.heap.size w W1 by rw [hW1]; exact HBL.out)
        have hws1 : w.heap.size ≤ W1.heap.size := by rw [hW1]; exact hws
        clear hW1 HSI HI HOW HEA HBL y1 y2 hws
        go_loopw [16, 17] (fun l j wq => RiR W1 mz b s.2 l j wq) (fun _ j _ => nr - (intOf j).toNat)
        case atStart => exact HSI2.out
        case round =>
          obtain ⟨j, rfl, hj, ho, hb⟩ := hrel
          have hbw : Below w.heap.size w wr := HBL1.out.trans (hb.mono hws1)
          have y1 : wr.cell? ⟨p, 1, none⟩ = some (.slice (some d) N cL) := (hbw.cell (p := ⟨p, 1, none⟩) hpl).trans HCL.out
          have y3 : wr.cell? ⟨(d.add (k * 2)).block, (d.add (k * 2)).off + 1, none⟩ = some (.slice AS nr cS) := (hbw.cell (p := ⟨(d.add (k * 2)).block, (d.add (k * 2)).off + 1, none⟩) (by rw [block_of_add]; exact hdb)).trans HYR.out
          obtain ⟨sp, hsp⟩ : ∃ sp, sp = selP (s.2.take j) mz b := ⟨_, rfl⟩
          rw [← hsp] at ho
          obtain ⟨Al2, cl2, e2⟩ := own_slice ho
          subst e2
          obtain ⟨cn, hcn⟩ : ∃ cn, cn = sp.length := ⟨_, rfl⟩
          rw [← hcn] at ho ⊢
          have hcn5 : cn ≤ 100000 := by
            have h1 : cn ≤ (s.2.take j).length := by rw [hcn, hsp]; unfold selP; rw [List.length_map]; exact List.length_filter_le _ _
            have h2 := List.length_take_le j s.2
            have h3 := HNR.out
            omega
          have HO := Lib.hid ho
          have HB := Lib.hid hb
          have HBW := Lib.hid hbw
          have HSP := Lib.hid hsp
          have HCN := Lib.hid hcn
          have hs1 : W1.heap.size ≤ wr.heap.size := hb.size
          clear ho hb hbw hsp hcn
          by_cases hlj : j < nr
          · have j1 : (j : Int) < (nr : Int) := by omega
            have j0' : (0 : Int) ≤ (j : Int) := by omega
            obtain ⟨xx, hxx⟩ : ∃ xx, s.2[j]? = some xx := ⟨_, List.getElem?_eq_getElem (by have := HNR.out; omega)⟩
            obtain ⟨t, bt, dd⟩ := xx
            obtain ⟨g0, g1, g2⟩ := rowV_get s.2 j _ hxx
            obtain ⟨dS, rfl, hdS, z0, z1, z2⟩ := HRS.out.three (i := j) (by omega) g0 g1 g2
            dsimp only at z0 z1 z2
            replace z0 := (HBW.out.cell (p := dS.add (j * 3)) (by rw [block_of_add]; exact hdS)).trans z0
            replace z1 := (HBW.out.cell (p := ⟨(dS.add (j * 3)).block, (dS.add (j * 3)).off + 1, none⟩) (by rw [block_of_add]; exact hdS)).trans z1
            replace z2 := (HBW.out.cell (p := ⟨(dS.add (j * 3)).block, (dS.add (j * 3)).off + 2, none⟩) (by rw [block_of_add]; exact hdS)).trans z2
            have hst := selP_take mz b hxx
            rw [← HSP.out] at hst
            dsimp only [smpOf] at hst
            have HSTP := Lib.hid hst
            obtain ⟨W4, hW4⟩ : ∃ W4, W4 = wr.alloc (.cells #[.int .i64 t, .float .f64 bt, .bool dd] 155) := ⟨_, rfl⟩
            have hb4 : Below wr.heap.size wr W4 := by rw [hW4]; exact (Below.refl _ wr).alloc (Nat.le_refl _) _
            have hbx : Blk W4 wr.heap.size 155 #[.int .i64 t, .float .f64 bt, .bool dd] := by rw [hW4]; exact Blk.new wr 155 _
            have u0 : W4.cell? ⟨wr.heap.size, 0, none⟩ = some (.int .i64 t) := hbx.cell 0
            have u1 : W4.cell? ⟨wr.heap.size, 1, none⟩ = some (.float .f64 bt) := hbx.cell 1
            have u2 : W4.cell? ⟨wr.heap.size, 2, none⟩ = some (.bool dd) := hbx.cell 2
            have HO4 := Lib.hid (own_below HO.out hb4)
            have HB4 := Lib.hid (HB.out.trans (hb4.mono hs1))
            have hs4 : W1.heap.size ≤ W4.heap.size := HB4.out.size
            have HW4 := Lib.hid hW4
            clear hxx g0 g1 g2 hst hb4 hbx hW4
            go_upto_region 17 with fail
            rw [← HW4.out]
            clear y1 y3 z0 z1 z2
            by_cases c1 : mz ≤ t
            · by_cases c2 : t ≤ b
              · cases dd with
                | false =>
                  have HSE := Lib.hid (show selP (s.2.take (j + 1)) mz b = sp ++ [(t, bt)] by rw [HSTP.out, if_pos ⟨c1, c2, rfl⟩])
                  go_wp2_with (at_builtin; go_loud (refine wpList_append_any _ rfl (.tmp 96) (.tmp 102) 38 rfl W1.heap.size 49 s0 (.agg #[.int .i64 0, .float .f64 0]) 2 16 Tryz.underlying38 HS0.out HX0.out HX1.out HX2.out rfl (by omega) (.slice Al2 cn cl2) cn (flatS sp) rfl (HO4.out.alloc _) (W4.heap.size + 1) (some ⟨W4.heap.size, 0, none⟩) 1 1 [.int .i64 t, .float .f64 bt] rfl ⟨rfl, fun _ => ⟨_, rfl, Nat.lt_succ_self _, cells_newL W4 49 _ _ rfl⟩⟩ (by simp [Value.oneCell']) (by simp [maxLen]; omega) (by omega) (by rw [World.size_alloc]; omega) ?_; intro v7 w7 hown7 hgrow7 _; obtain ⟨A7, c7, hv7⟩ := own_slice hown7; subst hv7; have HW7 := Lib.hid hown7; have HG7 := Lib.hid hgrow7; clear hown7 hgrow7))
                  refine ⟨⟨j + 1, rfl, by have := HNR.out; omega, ?_, ?_⟩, by simp [intOf]; omega⟩
                  · rw [HSE.out, flatS_snoc, List.length_append, ← HCN.out]
                    exact HW7.out
                  · exact (HB4.out.alloc hs4 (.cells #[.int .i64 t, .float .f64 bt] 49)).grown HG7.out (by rw [World.size_alloc]; omega) fun g hg => (HO4.out.lt g hg).1
                | true =>
                  have HSE := Lib.hid (show selP (s.2.take (j + 1)) mz b = sp by rw [HSTP.out, if_neg (by rintro ⟨-, -, h⟩; cases h), List.append_nil])
                  go_wp2
                  exact ⟨⟨j + 1, by first | rfl | go_num, by have := HNR.out; omega, by rw [HSE.out, ← HCN.out]; exact HO4.out, HB4.out⟩, by simp [intOf]; omega⟩
              · have HSE := Lib.hid (show selP (s.2.take (j + 1)) mz b = sp by rw [HSTP.out, if_neg (by rintro ⟨-, h, -⟩; exact c2 h), List.append_nil])
                go_wp2
                exact ⟨⟨j + 1, by first | rfl | go_num, by have := HNR.out; omega, by rw [HSE.out, ← HCN.out]; exact HO4.out, HB4.out⟩, by simp [intOf]; omega⟩
            · have HSE := Lib.hid (show selP (s.2.take (j + 1)) mz b = sp by rw [HSTP.out, if_neg (by rintro ⟨h, -, -⟩; exact c1 h), List.append_nil])
              go_wp2
              exact ⟨⟨j + 1, by first | rfl | go_num, by have := HNR.out; omega, by rw [HSE.out, ← HCN.out]; exact HO4.out, HB4.out⟩, by simp [intOf]; omega⟩
          · have j1 : ¬ (j : Int) < (nr : Int) := by omega
            have HSA := Lib.hid (show sp = selP s.2 mz b by rw [HSP.out, List.take_of_length_le (by have := HNR.out; omega)])
            have hstep := selK_step (a := mz) (b := b) HSK.out
            rw [← HSA.out] at hstep
            have HSTP := Lib.hid hstep
            have y2 : wr.cell? (d.add (k * 2)) = some (.slice Al nl cl) := (HBW.out.cell (p := d.add (k * 2)) (by rw [block_of_add]; exact hdb)).trans HYL.out
            have HO40 := Lib.hid (own_below HOW1.out HB.out)
            clear hstep hj
            by_cases h0 : 0 < cn
            · have i5 : (0 : Int) < (cn : Int) := by omega
              have HSE := Lib.hid (show selK H mz b (k + 1) = selK H mz b k ++ [(s.1, sp)] by
                rw [HSTP.out, if_neg]
                intro h
                have : sp = [] := List.isEmpty_iff.1 h
                rw [this] at HCN
                have := HCN.out
                simp at this
                omega)
              go_wp2_with (at_builtin; go_loud (refine wpList_append_any _ rfl (.tmp 107) (.tmp 118) 31 rfl w.heap.size 40 j0 (.agg #[.slice none 0 0, .slice none 0 0]) 2 48 Tryz.underlying31 HJ.out HY0.out HY1.out HY2.out rfl (by omega) (.slice Ao sn co) sn (flatV vs') rfl (HO40.out.alloc _) (wr.heap.size + 1) (some ⟨wr.heap.size, 0, none⟩) 1 1 [.slice Al nl cl, .slice Al2 cn cl2] rfl ⟨rfl, fun _ => ⟨_, rfl, Nat.lt_succ_self _, cells_newL wr 40 _ _ rfl⟩⟩ (by simp [Value.oneCell']) (by simp [maxLen]; omega) (by omega) (by rw [World.size_alloc]; omega) ?_; intro v7 w7 hown7 hgrow7 _; obtain ⟨A7, c7, hv7⟩ := own_slice hown7; subst hv7; have HW7 := Lib.hid hown7; have HG7 := Lib.hid hgrow7; clear hown7 hgrow7))
              refine ⟨⟨k + 1, rfl, by have := HN.out; omega, ?_⟩, by simp [intOf]; omega⟩
              rw [HSE.out]
              exact RsI.step (q := (.slice Al nl cl, .slice Al2 cn cl2)) (s := (s.1, sp)) HBW.out (by rw [← HSN.out]; exact HVL.out) (by rw [← HSN.out]; exact HO40.out) (fun i x s h1 h2 => ⟨(HEA1.out i x s h1 h2).1, own_below (HEA1.out i x s h1 h2).2 HB.out⟩) HLAB.out (by rw [← HCN.out]; exact own_less HO.out hws1) HG7.out (by rw [← HSN.out]; exact HW7.out)
            · have i5 : ¬ (0 : Int) < (cn : Int) := by omega
              have HSE := Lib.hid (show selK H mz b (k + 1) = selK H mz b k by
                have : sp = [] := List.eq_nil_of_length_eq_zero (by have := HCN.out; omega)
                rw [HSTP.out, this]
                simp)
              go_wp2
              exact ⟨⟨k + 1, by first | rfl | go_num, by have := HN.out; omega, by rw [HSE.out]; exact HI1.out.below HB.out⟩, by simp [intOf]; omega⟩
      · have i1 : ¬ (k : Int) < (N : Int) := by omega
        have HSE := Lib.hid (show selK H mz b k = H.sel (fun _ => true) a b by
          unfold selK Hd.sel
          rw [List.take_of_length_le (by have := HN.out; omega), HMZ.out, HHE.out]
          rfl)
        clear hk
        go_wp2
        go_ret2
        have hvl := HVL.out
        have how := HOW.out
        have hea := HEA.out
        have hsn' := HSN.out
        rw [HSE.out] at hea hsn'
        subst hsn'
        refine ⟨_, rfl, ⟨Ao, co, vs', rfl, hvl, Reads.of_own how, fun i x s h1 h2 => ?_⟩, HBL.out⟩
        obtain ⟨k1, k2⟩ := hea i x s h1 h2
        obtain ⟨A3, c3, e3⟩ := own_slice k2
        rw [e3] at k2
        exact ⟨(k1.below HBL.out (Nat.le_refl _)).more hws, A3, c3, e3, Reads.of_own k2⟩
end Go.Proofs.YtbeeejpjnniejaaGreatDoor
