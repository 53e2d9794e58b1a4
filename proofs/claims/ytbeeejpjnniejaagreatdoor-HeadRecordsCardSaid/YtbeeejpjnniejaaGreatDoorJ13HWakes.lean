/- wakes: a point is taken, found, and not taken again. batch: at most twenty points, with at most eight labels each. vigilkeep's Errs, where both rows are alike. The document's comparison of any two rows of labels (20). -/
import Derived.Test.YtbeeejpjnniejaaGreatDoorJ12HSel
import Derived.Test.YtbeeejpjnniejaaGreatDoorJ10HCommit
import Derived.Test.YtbeeejpjnniejaaGreatDoorJ09HCommit1
import Derived.Test.YtbeeejpjnniejaaGreatDoorJ01Keep
import Derived.Test.YtbeeejpjnniejaaGreatDoorJ00Lib
namespace Go.Proofs.YtbeeejpjnniejaaGreatDoor
open Go.RowKit Go.Shelf Go.Maps
attribute [local go_sem] run_store_float
theorem blk_reads {w : World} {g : Nat} {t : TypeId} {cs : Array Value} (h : Blk w g t cs) (B size n : Nat) (xs : List Value) (hx : cs.toList = xs) (hl : xs.length = n * size) (hB : g < B) : Reads w B size (some ⟨g, 0, none⟩) n xs := by
  refine ⟨hl, fun _ => ⟨_, rfl, hB, fun j u hj => ?_⟩⟩
  have e : (⟨g, 0, none⟩ : Addr).add j = ⟨g, j, none⟩ := by unfold Addr.add; split <;> simp_all
  rw [e, h.cell j, ← hj, ← hx]
  simp
/-- a point of one label -/
theorem pts_one {w : World} {g g2 B : Nat} {Q : Nat → Prop} {nm vl : ByteArray} {t : Int} {b : Nat} (h1 : Blk w g 55 #[.string nm, .string vl]) (h2 : Blk w g2 57 #[.slice (some ⟨g, 0, none⟩) 1 1, .int .i64 t, .float .f64 b]) (hn : nm.size ≤ 1000) (hv : vl.size ≤ 1000) (hB : g < B ∧ g2 < B) (hQ : Q g) :
    PtsAt w B Q (.slice (some ⟨g2, 0, none⟩) 1 1) [([(nm, vl)], t, b)] := by
  refine ⟨some ⟨g2, 0, none⟩, 1, [(.slice (some ⟨g, 0, none⟩) 1 1, t, b)], rfl, rfl, blk_reads h2 B 3 1 _ rfl rfl hB.2, ?_⟩
  intro i x p hx hp
  have hi : i = 0 := by
    rcases i with _ | i
    · rfl
    · simp at hx
  subst hi
  simp at hx hp
  subst hx hp
  refine ⟨rfl, ⟨some ⟨g, 0, none⟩, 1, rfl, blk_reads h1 B 2 1 _ rfl rfl hB.1⟩, ⟨by simp, fun q hq => ?_⟩, fun k hk => ?_⟩
  · simp at hq
    subst hq
    exact ⟨by show nm.size ≤ _; omega, by show vl.size ≤ _; omega⟩
  · injection hk with hk
    have h2 : g = k := hk
    rw [← h2]
    exact hQ
set_option maxRecDepth 100000 in
set_option maxHeartbeats 3200000 in
theorem wakes_any (w : World) (hT : Tabs w) : Calls Tryz.prog 18 #[] w fun e w' => e = .returned (.bool true) ∧ Below w.heap.size w w' := by
  have HN := Lib.hid (new_any 1000 w (by omega))
  have hT3 := hT.lt
  have HT := Lib.hid hT
  clear hT
  go_enter Tryz.func18, Tryz.ntmps18
  go_wp2_with fail
  refine HN.out.mono ?_
  rintro e w1 ⟨p, rfl, hh1, hb1⟩
  obtain ⟨F1, hF1e⟩ : ∃ F : Nat → Prop, F = fun k => w.heap.size ≤ k ∧ k < w1.heap.size := ⟨_, rfl⟩
  rw [← hF1e] at hh1
  have hF1a : ∀ k, F1 k → w.heap.size ≤ k ∧ k < w1.heap.size := fun k h => by rw [hF1e] at h; exact h
  have hb13 : Below w1.heap.size w1 ((w1.alloc (.cells #[.string la, .string l1] 55)).alloc (.cells #[.slice (some ⟨w1.heap.size, 0, none⟩) 1 1, .int .i64 10, .float .f64 4607182418800017408] 57)) := ((Below.refl _ w1).alloc (Nat.le_refl _) _).alloc (by simp) _
  have q1 : Blk ((w1.alloc (.cells #[.string la, .string l1] 55)).alloc (.cells #[.slice (some ⟨w1.heap.size, 0, none⟩) 1 1, .int .i64 10, .float .f64 4607182418800017408] 57)) w1.heap.size 55 #[.string la, .string l1] := (Blk.new w1 55 _).alloc _
  have q2 : Blk ((w1.alloc (.cells #[.string la, .string l1] 55)).alloc (.cells #[.slice (some ⟨w1.heap.size, 0, none⟩) 1 1, .int .i64 10, .float .f64 4607182418800017408] 57)) (w1.heap.size + 1) 57 #[.slice (some ⟨w1.heap.size, 0, none⟩) 1 1, .int .i64 10, .float .f64 4607182418800017408] := by
    have h1 := Blk.new (w1.alloc (.cells #[.string la, .string l1] 55)) 57 #[.slice (some ⟨w1.heap.size, 0, none⟩) 1 1, .int .i64 10, .float .f64 4607182418800017408]
    rw [World.size_alloc] at h1
    exact h1
  obtain ⟨w3, hw3⟩ : ∃ w3, w3 = (w1.alloc (.cells #[.string la, .string l1] 55)).alloc (.cells #[.slice (some ⟨w1.heap.size, 0, none⟩) 1 1, .int .i64 10, .float .f64 4607182418800017408] 57) := ⟨_, rfl⟩
  have hs3 : w3.heap.size = w1.heap.size + 1 + 1 := by rw [hw3]; simp
  rw [← hw3] at q1 q2 hb13
  have hp3 : PtsAt w3 w3.heap.size (fun k => ¬ F1 k) (.slice (some ⟨w1.heap.size + 1, 0, none⟩) 1 1) [pt1] := pts_one q1 q2 (by decide) (by decide) (by omega) (fun h => by have := (hF1a _ h).2; omega)
  have hb3 := hb1.trans (hb13.mono hb1.size)
  have hT3' : Tabs w3 := HT.out.below_ hb3
  have HC1 := Lib.hid (show Calls Tryz.prog 14 #[.pointer (some ⟨p, 0, none⟩), .slice (some ⟨w1.heap.size + 1, 0, none⟩) 1 1] w3 fun e w' => e = .returned (.int .i64 1) ∧ HdAt w' (Grs F1 w3 w') p 1 H1 ∧ Chg F1 w3 w' from
    (commit_any w3 F1 p 0 w3.heap.size (Hd.empty 1000) _ [pt1] (hh1.below hb13) hp3 hT3' ⟨hT3'.lt, Nat.le_refl _⟩ (fun k h => by have := (hF1a k h).2; omega) (by simp) (by omega)).mono fun e w' ⟨h1, h2, h3⟩ => by
      rw [taken1] at h1
      rw [take1] at h2
      exact ⟨h1, h2, h3⟩)
  have HF1 := Lib.hid hF1a
  have HQ1 := Lib.hid q1
  have HQ2 := Lib.hid q2
  have HP3 := Lib.hid hp3
  have HB3 := Lib.hid hb3
  have HT3 := Lib.hid hT3'
  have HW3 := Lib.hid hw3
  have hsz : w.heap.size ≤ w1.heap.size := hb1.size
  clear hh1 hb1 hp3 hb13 hw3 hb3 hT3' HN hF1e hF1a q1 q2
  go_upto_region 5 with fail
  rw [← HW3.out]
  go_wp2_with fail
  refine HC1.out.mono ?_
  rintro e w4 ⟨rfl, hh4, hc4⟩
  have hf1 := HF1.out
  have hb4 : Below w.heap.size w w4 := HB3.out.trans ((hc4.toBelow (fun k h => (hf1 k h).1) (by omega)))
  have hT4 := HT.out.below_ hb4
  have h34 := hc4.size
  have q14 : Blk w4 w1.heap.size 55 #[.string la, .string l1] := (hc4.block _ (by omega) (fun h => by have := (hf1 _ h).2; omega)).trans HQ1.out
  have q24 : Blk w4 (w1.heap.size + 1) 57 #[.slice (some ⟨w1.heap.size, 0, none⟩) 1 1, .int .i64 10, .float .f64 4607182418800017408] := (hc4.block _ (by omega) (fun h => by have := (hf1 _ h).2; omega)).trans HQ2.out
  have hp4 : PtsAt w4 w4.heap.size (fun k => ¬ Grs F1 w3 w4 k) (.slice (some ⟨w1.heap.size + 1, 0, none⟩) 1 1) [pt1] := pts_one q14 q24 (by decide) (by decide) (by omega) (fun h => by
    rcases h.1 with h1 | h1
    · have := (hf1 _ h1).2; omega
    · omega)
  have HC2 := Lib.hid (show Calls Tryz.prog 14 #[.pointer (some ⟨p, 0, none⟩), .slice (some ⟨w1.heap.size + 1, 0, none⟩) 1 1] w4 fun e w' => e = .returned (.int .i64 0) ∧ HdAt w' (Grs (Grs F1 w3 w4) w4 w') p 2 H1 ∧ Chg (Grs F1 w3 w4) w4 w' from
    (commit_any w4 _ p 1 w4.heap.size H1 _ [pt1] hh4 hp4 hT4 ⟨hT4.lt, Nat.le_refl _⟩ (fun k h => h.2) (by simp) (by omega)).mono fun e w' ⟨h1, h2, h3⟩ => by
      rw [taken2] at h1
      rw [take2] at h2
      exact ⟨h1, h2, h3⟩)
  have HB4 := Lib.hid hb4
  have hs4 : w.heap.size ≤ w4.heap.size := hb4.size
  have hlo : ∀ k, Grs F1 w3 w4 k → w.heap.size ≤ k := fun k h => by
    rcases h.1 with h1 | h1
    · exact (hf1 k h1).1
    · omega
  have HLO := Lib.hid hlo
  clear hh4 hc4 hf1 hb4 hT4 q14 q24 hp4 HC1 hlo
  go_wp2_with fail
  refine HC2.out.mono ?_
  rintro e w5 ⟨rfl, hh5, hc5⟩
  have hb5 : Below w.heap.size w w5 := HB4.out.trans (hc5.toBelow HLO.out hs4)
  have hb56 : Below w5.heap.size w5 (w5.alloc (.cells #[.int .i64 3, .string la, .string ex0] 24)) := (Below.refl _ w5).alloc (Nat.le_refl _) _
  have x6 : Blk (w5.alloc (.cells #[.int .i64 3, .string la, .string ex0] 24)) w5.heap.size 24 #[.int .i64 3, .string la, .string ex0] := Blk.new w5 24 _
  obtain ⟨w6, hw6⟩ : ∃ w6, w6 = w5.alloc (.cells #[.int .i64 3, .string la, .string ex0] 24) := ⟨_, rfl⟩
  rw [← hw6] at hb56 x6
  have hb6 := hb5.trans (hb56.mono hb5.size)
  have HS := Lib.hid (select_any w6 _ p 2 H1 (.slice (some ⟨w5.heap.size, 0, none⟩) 1 1) 0 (fun _ => true) 0 100 (hh5.below hb56) _
    (rdy_one w6 w6.heap.size 1 48 1 57 1 49 (some ⟨w5.heap.size, 0, none⟩) la ex0 (blk_reads x6 _ 3 1 _ rfl rfl x6.lt) (Nat.le_refl _) (HT.out.below_ hb6) rxp0 (by decide) (by omega) (by omega))
    (fun x hx => by
      have e : x = (lab1, [(10, 4607182418800017408, false)]) := by simpa [H1] using hx
      rw [e]
      exact ⟨by rw [get1]; decide, by rw [get1]; exact dec1⟩) (by omega) (fun k h => by have := h.2; have := hb56.size; omega))
  have HB6 := Lib.hid hb6
  have HW6 := Lib.hid hw6
  clear hh5 hc5 hb5 hb56 x6 hw6 hb6 HC2
  go_wp2_with fail
  rw [← HW6.out]
  refine HS.out.mono ?_
  rintro e w7 ⟨v, rfl, hb7, hsel⟩
  rw [if_pos rfl, sel1] at hsel
  obtain ⟨vs, hvl, hown, heach⟩ := hsel
  obtain ⟨q, rfl⟩ : ∃ q, vs = [q] := by
    rcases vs with _ | ⟨q, _ | ⟨q2, r⟩⟩
    · simp at hvl
    · exact ⟨q, rfl⟩
    · simp at hvl
  obtain ⟨-, ho2⟩ := heach 0 q _ rfl rfl
  obtain ⟨A, c, rfl⟩ := own_slice hown
  obtain ⟨d, rfl, -, hc⟩ := (Reads.of_own hown).2 (by simp)
  obtain ⟨A2, c2, e2⟩ := own_slice ho2
  obtain ⟨q1, q2⟩ := q
  dsimp only at e2 ho2
  subst e2
  obtain ⟨d2, rfl, -, hc2⟩ := (Reads.of_own ho2).2 (by simp)
  have x1 := hc 1 _ rfl
  have y0 := hc2 0 _ rfl
  have ed1 : d.add 1 = ⟨d.block, d.off + 1, none⟩ := by unfold Addr.add; simp
  have ed2 : d2.add 0 = d2 := by unfold Addr.add; simp
  rw [ed1] at x1
  rw [ed2] at y0
  dsimp only [List.length_cons, List.length_nil, Nat.zero_add] at x1
  dsimp only [List.length_cons, List.length_nil, Nat.zero_add]
  have HB7 := Lib.hid (HB6.out.trans (hb7.mono HB6.out.size))
  clear hb7 hown heach ho2 hc hc2 ed1 ed2 HS
  go_wp2
  go_ret
  exact ⟨rfl, HB7.out⟩
end Go.Proofs.YtbeeejpjnniejaaGreatDoor
namespace Go.Proofs.YtbeeejpjnniejaaGreatDoor
open Go.RowKit Go.Shelf Go.Maps
attribute [-go_sem] Builtin.append_
attribute [local go_sem] run_store_float
def cut8 (p : Pt) : Pt := (p.1.take 8, p.2)
def batchP (l : List Pt) : List Pt := (l.take 20).map cut8
structure BtAt (w : World) (B : Nat) (pts : List Pt) (k : Nat) (v : Value) (W : World) : Prop where
  out : ∃ vs : List (Value × Int × Nat), vs.length = k ∧ W.ownsRow w.heap.size 57 3 v k (ptsV vs) ∧ ∀ (i : Nat) (x : Value × Int × Nat) (p : Pt), vs[i]? = some x → pts[i]? = some p → PtIn W B (fun j => j < B) x (cut8 p)
  bel : Below w.heap.size w W
theorem flatL_take (ls : List Lbl) (k : Nat) : (flatL ls).take (k * 2) = flatL (ls.take k) := by
  have e : flatL ls = flatL (ls.take k) ++ flatL (ls.drop k) := by
    unfold flatL flat2
    rw [← List.flatMap_append, List.take_append_drop]
  by_cases h : k ≤ ls.length
  · have hl : (flatL (ls.take k)).length = k * 2 := by rw [flat2_len, List.length_take, Nat.min_eq_left h]
    rw [e, ← hl, List.take_left]
  · rw [List.take_of_length_le (by rw [flat2_len]; omega), List.take_of_length_le (l := ls) (by omega)]
theorem LabsAt.cut8 {w : World} {B : Nat} {A : Option Addr} {n c : Nat} {ls : List Lbl} (h : LabsAt w B (.slice A n c) ls) (hn : n = ls.length) (h8 : 8 < n) : LabsAt w B (.slice A 8 c) (ls.take 8) := by
  obtain ⟨A', c', e, h1, h2⟩ := h
  injection e with e1 e2 e3
  subst e1
  have hl : (ls.take 8).length = 8 := by rw [List.length_take]; omega
  refine ⟨A, c, by rw [hl], ?_, fun _ => ?_⟩
  · rw [hl, ← flatL_take, List.length_take, h1]; omega
  · obtain ⟨ad, rfl, hb, hc⟩ := h2 (by omega)
    refine ⟨ad, rfl, hb, fun j u hj => hc j u ?_⟩
    rw [← flatL_take, List.getElem?_take] at hj
    split at hj
    · exact hj
    · cases hj
/-- each point's labels lie within their row -/
def CapsOk (w : World) (v : Value) : Prop := ∀ d m c, v = .slice (some d) m c → ∀ (j : Nat) A' n' c', j < m → w.cell? (d.add (j * 3)) = some (.slice A' n' c') → n' ≤ c'
theorem PtIn.below {w w' : World} {B : Nat} {Q : Nat → Prop} {x : Value × Int × Nat} {p : Pt} (h : PtIn w B Q x p) {B2 : Nat} (hb : Below B2 w w') (hB : B ≤ B2) : PtIn w' B Q x p := h.keep fun k hk => hb.block k (by omega)
theorem PtsAt.drew {w : World} {B : Nat} {Q : Nat → Prop} {v : Value} {pts : List Pt} (h : PtsAt w B Q v pts) : PtsAt w.drew B Q v pts := h
theorem BtAt.fin {w : World} {B : Nat} {pts : List Pt} {k : Nat} {v : Value} {W : World} (h : BtAt w B pts k v W) (hk : k = (pts.take 20).length) (hB : B ≤ w.heap.size) : PtsAt W W.heap.size (fun k => k < B) v (batchP pts) := by
  obtain ⟨vs, hl, ho, he⟩ := h.out
  obtain ⟨A, c, rfl⟩ := own_slice ho
  have hlen : (batchP pts).length = k := by unfold batchP; rw [List.length_map, hk]
  refine ⟨A, c, vs, by rw [hlen], by rw [hlen, hl], by rw [hlen]; exact Reads.of_own ho, fun i x p hx hp => ?_⟩
  unfold batchP at hp
  rw [List.getElem?_map] at hp
  obtain ⟨p0, hp0, rfl⟩ := Option.map_eq_some_iff.1 hp
  have h1 : pts[i]? = some p0 := by
    rw [List.getElem?_take] at hp0
    split at hp0
    · exact hp0
    · cases hp0
  obtain ⟨a1, a2, a3⟩ := he i x p0 hx h1
  exact ⟨a1, a2.more (Nat.le_trans hB h.bel.size), a3⟩
theorem own_useB {w : World} {base z n : Nat} {e : TypeId} {v : Value} {xs : List Value} (h : w.ownsRow base e z v n xs) (k : Nat) (hk : useB v = some k) : base ≤ k := by
  rcases h.2 with ⟨e5, -⟩ | ⟨g, cap, cur, e5, h6, -⟩
  · rw [e5] at hk
    cases hk
  · rw [e5] at hk
    cases n with
    | zero => cases hk
    | succ m =>
      injection hk with hk
      rw [← hk]
      exact h6
set_option maxRecDepth 100000 in
set_option maxHeartbeats 3200000 in
theorem batch_any2 (w : World) (B : Nat) (v : Value) (pts : List Pt) (hp : PtsAt w B (fun k => k < B) v pts) (hB : B ≤ w.heap.size) (hN : pts.length ≤ 9223372036854775807) (hcp : CapsOk w v) :
    Calls Tryz.prog 15 #[v] w fun e w' => ∃ v', e = .returned v' ∧ Below w.heap.size w w' ∧ PtsAt w' w'.heap.size (fun k => k < B) v' (batchP pts) ∧ ∀ k, useB v' = some k → w.heap.size ≤ k := by
  obtain ⟨j0, hj, hy0, hy1, hy2⟩ := info_parts info57
  have HJ := Lib.hid hj
  have HY0 := Lib.hid hy0
  have HY1 := Lib.hid hy1
  have HY2 := Lib.hid hy2
  clear hj hy0 hy1 hy2
  have hp0 := hp
  obtain ⟨A, c, vs0, rfl, -⟩ := hp0
  obtain ⟨n, hn⟩ : ∃ n, n = pts.length := ⟨_, rfl⟩
  rw [← hn] at hp hN hcp ⊢
  have HP := Lib.hid hp
  have HCP := Lib.hid hcp
  have HN := Lib.hid hn
  clear hp hn hcp
  have hst : BtAt w B pts 0 (.slice none 0 0) w := ⟨⟨[], rfl, World.ownsRow_nil _ _ _ _, fun i x p h => by simp at h⟩, Below.refl _ w⟩
  have HST := Lib.hid hst
  clear hst
  go_enter Tryz.func15, Tryz.ntmps15
  go_wp2_with fail
  go_loopw [3, 4] (fun v3 i wr => ∃ k : Nat, i = .int .i64 k ∧ k ≤ n ∧ k ≤ 20 ∧ BtAt w B pts k v3 wr) (fun _ i _ => 20 - (intOf i).toNat)
  case atStart => exact ⟨0, rfl, Nat.zero_le _, Nat.zero_le _, HST.out⟩
  case round =>
    obtain ⟨k, rfl, hkn, hk20, hT⟩ := hrel
    obtain ⟨vs, hvl, hown, heach⟩ := hT.out
    obtain ⟨A3, c3, e3⟩ := own_slice hown
    subst e3
    have HT := Lib.hid hT.bel
    have HVL := Lib.hid hvl
    have HE := Lib.hid heach
    have HOW := Lib.hid hown
    have hws : w.heap.size ≤ wr.heap.size := hT.bel.size
    clear hT hvl heach hown
    by_cases hlt : k < n
    · have i1 : (k : Int) < (n : Int) := by omega
      by_cases h20 : k < 20
      · have i2 : (k : Int) < 20 := by omega
        obtain ⟨p, hpk⟩ : ∃ p, pts[k]? = some p := ⟨_, List.getElem?_eq_getElem (by have := HN.out; omega)⟩
        obtain ⟨d, c', AL, cL, hv, hdB, x0, x1, x2, hla, hsz, hQ⟩ := (HP.out.keep (w' := wr) fun q hq => HT.out.cell (by omega)).at_ hpk
        injection hv with hv1 hv2 hv3
        subst hv1 hv3
        clear hv2
        obtain ⟨pl, pt, pb⟩ := p
        dsimp only at x0 x1 x2 hla hsz hQ
        obtain ⟨nL, hnL⟩ : ∃ m, m = pl.length := ⟨_, rfl⟩
        rw [← hnL] at x0 hla hQ
        obtain ⟨w4, hw4⟩ : ∃ w4, w4 = wr.alloc (.cells #[.slice AL nL cL, .int .i64 pt, .float .f64 pb] 57) := ⟨_, rfl⟩
        have hb4 : Below wr.heap.size wr w4 := by rw [hw4]; exact (Below.refl _ wr).alloc (Nat.le_refl _) _
        have hbx : Blk w4 wr.heap.size 57 #[.slice AL nL cL, .int .i64 pt, .float .f64 pb] := by rw [hw4]; exact Blk.new wr 57 _
        have y0 : w4.cell? ⟨wr.heap.size, 0, none⟩ = some (.slice AL nL cL) := hbx.cell 0
        have y1 : w4.cell? ⟨wr.heap.size, 1, none⟩ = some (.int .i64 pt) := hbx.cell 1
        have y2 : w4.cell? ⟨wr.heap.size, 2, none⟩ = some (.float .f64 pb) := hbx.cell 2
        have z0 := hbx.frozen 0
        have sk : IntKind.i64.wrap ((k : Int) + 1) = ((k + 1 : Nat) : Int) := (IntWalk.i64_in _ (by omega)).trans (by omega)
        obtain ⟨Lv, hLv⟩ : ∃ Lv : Nat, Lv = if 8 < nL then 8 else nL := ⟨_, rfl⟩
        obtain ⟨w5, hw5⟩ : ∃ w5, w5 = if 8 < nL then w4.setCell ⟨wr.heap.size, 0, none⟩ (.slice AL 8 cL) else w4 := ⟨_, rfl⟩
        have hbl5 : Blk w5 wr.heap.size 57 #[.slice AL Lv cL, .int .i64 pt, .float .f64 pb] := by
          rw [hw5, hLv]
          split
          · have := hbx.set_ 0 (.slice AL 8 cL)
            exact this
          · exact hbx
        have hb5 : Below wr.heap.size wr w5 := by
          rw [hw5]
          split
          · exact hb4.setCell (p := ⟨wr.heap.size, 0, none⟩) (Nat.le_refl _) _
          · exact hb4
        have hpt : PtIn w5 B (fun j => j < B) (.slice AL Lv cL, pt, pb) (cut8 (pl, pt, pb)) := by
          have hlb : LabsAt w5 B (.slice AL nL cL) pl := hla.below hb5 (by omega)
          refine ⟨rfl, ?_, ?_, ?_⟩
          · show LabsAt w5 B (.slice AL Lv cL) (pl.take 8)
            rw [hLv]
            split
            · rename_i h8; exact hlb.cut8 hnL h8
            · rw [List.take_of_length_le (by omega)]; exact hlb
          · exact ⟨by show (pl.take 8).length ≤ _; rw [List.length_take]; omega, fun q hq => hsz.2 q (List.mem_of_mem_take hq)⟩
          · intro j hj
            refine hQ j ?_
            cases AL with
            | none => cases hj
            | some a =>
              cases hm : Lv with
              | zero => rw [hm] at hj; cases hj
              | succ q =>
                rw [hm] at hj
                cases hm2 : nL with
                | zero => rw [hLv, hm2] at hm; simp at hm
                | succ q2 => exact hj
        have q0 : w5.cell? ⟨wr.heap.size, 0, none⟩ = some (.slice AL Lv cL) := hbl5.cell 0
        have q1 : w5.cell? ⟨wr.heap.size, 1, none⟩ = some (.int .i64 pt) := hbl5.cell 1
        have q2 : w5.cell? ⟨wr.heap.size, 2, none⟩ = some (.float .f64 pb) := hbl5.cell 2
        have hs5 : wr.heap.size ≤ w5.heap.size := hb5.size
        have HW4 := Lib.hid hw4
        have HW5 := Lib.hid hw5
        have HLV := Lib.hid hLv
        have HB5 := Lib.hid hb5
        have HPT := Lib.hid hpt
        have HPK := Lib.hid hpk
        have HSO5 := Lib.hid (show w5.ownsRow w.heap.size 57 3 (.slice A3 k c3) k (ptsV vs) from own_blk HOW.out fun j hj => hb5.block j (HOW.out.lt j hj).2)
        have hcl : nL ≤ cL := HCP.out d _ _ rfl k AL nL cL (by omega) ((HT.out.cell (by rw [block_of_add]; omega)).symm.trans x0)
        clear hw4 hw5 hLv hb5 hpt hpk hbl5 hb4 hbx hla hsz hQ hnL
        go_upto_region 6 with fail
        rw [← HW4.out]
        by_cases h8 : 8 < nL
        · have i3 : (8 : Int) < (nL : Int) := by omega
          have hLv : Lv = 8 := by rw [HLV.out, if_pos h8]
          have HW5' := Lib.hid (show w5 = w4.setCell ⟨wr.heap.size, 0, none⟩ (.slice AL 8 cL) by rw [HW5.out, if_pos h8])
          have HLE := Lib.hid hLv
          clear hLv
          go_upto_region 8 with fail
          rw [← HW5'.out]
          clear x0 x1 x2 y0 y1 y2 z0
          go_wp2_with (at_builtin; go_loud (refine wpList_append_any _ rfl (.tmp 28) (.tmp 30) 22 rfl w.heap.size 57 j0 (.agg #[.slice none 0 0, .int .i64 0, .float .f64 0]) 3 40 Tryz.underlying22 HJ.out HY0.out HY1.out HY2.out rfl (by omega) (.slice A3 k c3) k (ptsV vs) rfl (HSO5.out.alloc _) (w5.heap.size + 1) (some ⟨w5.heap.size, 0, none⟩) 1 1 [.slice AL Lv cL, .int .i64 pt, .float .f64 pb] rfl ⟨rfl, fun _ => ⟨_, rfl, Nat.lt_succ_self _, cells_newL w5 57 _ _ rfl⟩⟩ (by simp [Value.oneCell']) (by simp [maxLen]; omega) (by omega) (by rw [World.size_alloc]; omega) ?_; intro v9 w9 hown9 hgrow9 _; obtain ⟨A9, c9, hv9⟩ := own_slice hown9; subst hv9; have HO9 := Lib.hid hown9; have HG9 := Lib.hid hgrow9; clear hown9 hgrow9))
          have hb9 : Below w.heap.size wr w9 := by
            have h1 : Below w.heap.size w5 (w5.alloc (.cells #[.slice AL Lv cL, .int .i64 pt, .float .f64 pb] 57)) := (Below.refl _ w5).alloc (by omega) _
            exact (HB5.out.mono hws).trans (h1.grown HG9.out (by rw [World.size_alloc]; omega) fun j hj => (HSO5.out.lt j hj).1)
          have hbB : ∀ {x : Value × Int × Nat} {p : Pt}, PtIn w5 B (fun j => j < B) x p → PtIn w9 B (fun j => j < B) x p := fun hx => hx.keep fun j hj => by
            have h1 : (w5.alloc (.cells #[.slice AL Lv cL, .int .i64 pt, .float .f64 pb] 57)).heap[j]? = w5.heap[j]? := Below.heap_alloc _ _ _ (by omega)
            exact (HG9.out.block j (by rw [World.size_alloc]; omega) (fun e => by have := (HSO5.out.lt j e.symm).1; omega)).trans h1
          refine ⟨⟨k + 1, rfl, by omega, by omega, ⟨vs ++ [(.slice AL Lv cL, pt, pb)], by simp [HVL.out], ?_, ?_⟩, HT.out.trans hb9⟩, by simp only [intOf]; omega⟩
          · rw [ptsV_append]
            exact HO9.out
          · intro i x p hx hp
            by_cases hi : i < k
            · rw [List.getElem?_append_left (by rw [HVL.out]; exact hi)] at hx
              exact hbB ((HE.out i x p hx hp).keep fun j hj => HB5.out.block j (by omega))
            · rw [List.getElem?_append_right (by rw [HVL.out]; omega), HVL.out] at hx
              have hi0 : i - k = 0 := by
                rcases Nat.eq_zero_or_pos (i - k) with h0 | h0
                · exact h0
                · rw [List.getElem?_eq_none (by simp; omega)] at hx
                  cases hx
              rw [hi0] at hx
              simp at hx
              obtain rfl : i = k := by omega
              have h1 := HPK.out
              rw [hp] at h1
              injection h1 with h1
              subst hx h1
              exact hbB HPT.out
        · have i3 : ¬ (8 : Int) < (nL : Int) := by omega
          have hLv : Lv = nL := by rw [HLV.out, if_neg h8]
          have HW5' := Lib.hid (show w5 = w4 by rw [HW5.out, if_neg h8])
          have HLE := Lib.hid hLv
          clear hLv
          go_upto_region 8 with fail
          rw [← HW5'.out]
          clear x0 x1 x2 y0 y1 y2 z0
          go_wp2_with (at_builtin; go_loud (refine wpList_append_any _ rfl (.tmp 28) (.tmp 30) 22 rfl w.heap.size 57 j0 (.agg #[.slice none 0 0, .int .i64 0, .float .f64 0]) 3 40 Tryz.underlying22 HJ.out HY0.out HY1.out HY2.out rfl (by omega) (.slice A3 k c3) k (ptsV vs) rfl (HSO5.out.alloc _) (w5.heap.size + 1) (some ⟨w5.heap.size, 0, none⟩) 1 1 [.slice AL Lv cL, .int .i64 pt, .float .f64 pb] rfl ⟨rfl, fun _ => ⟨_, rfl, Nat.lt_succ_self _, cells_newL w5 57 _ _ rfl⟩⟩ (by simp [Value.oneCell']) (by simp [maxLen]; omega) (by omega) (by rw [World.size_alloc]; omega) ?_; intro v9 w9 hown9 hgrow9 _; obtain ⟨A9, c9, hv9⟩ := own_slice hown9; subst hv9; have HO9 := Lib.hid hown9; have HG9 := Lib.hid hgrow9; clear hown9 hgrow9))
          have hb9 : Below w.heap.size wr w9 := by
            have h1 : Below w.heap.size w5 (w5.alloc (.cells #[.slice AL Lv cL, .int .i64 pt, .float .f64 pb] 57)) := (Below.refl _ w5).alloc (by omega) _
            exact (HB5.out.mono hws).trans (h1.grown HG9.out (by rw [World.size_alloc]; omega) fun j hj => (HSO5.out.lt j hj).1)
          have hbB : ∀ {x : Value × Int × Nat} {p : Pt}, PtIn w5 B (fun j => j < B) x p → PtIn w9 B (fun j => j < B) x p := fun hx => hx.keep fun j hj => by
            have h1 : (w5.alloc (.cells #[.slice AL Lv cL, .int .i64 pt, .float .f64 pb] 57)).heap[j]? = w5.heap[j]? := Below.heap_alloc _ _ _ (by omega)
            exact (HG9.out.block j (by rw [World.size_alloc]; omega) (fun e => by have := (HSO5.out.lt j e.symm).1; omega)).trans h1
          refine ⟨⟨k + 1, rfl, by omega, by omega, ⟨vs ++ [(.slice AL Lv cL, pt, pb)], by simp [HVL.out], ?_, ?_⟩, HT.out.trans hb9⟩, by simp only [intOf]; omega⟩
          · rw [ptsV_append]
            exact HO9.out
          · intro i x p hx hp
            by_cases hi : i < k
            · rw [List.getElem?_append_left (by rw [HVL.out]; exact hi)] at hx
              exact hbB ((HE.out i x p hx hp).keep fun j hj => HB5.out.block j (by omega))
            · rw [List.getElem?_append_right (by rw [HVL.out]; omega), HVL.out] at hx
              have hi0 : i - k = 0 := by
                rcases Nat.eq_zero_or_pos (i - k) with h0 | h0
                · exact h0
                · rw [List.getElem?_eq_none (by simp; omega)] at hx
                  cases hx
              rw [hi0] at hx
              simp at hx
              obtain rfl : i = k := by omega
              have h1 := HPK.out
              rw [hp] at h1
              injection h1 with h1
              subst hx h1
              exact hbB HPT.out
      · have i2 : ¬ (k : Int) < 20 := by omega
        go_wp2
        go_ret
        have hk : k = (pts.take 20).length := by rw [List.length_take, ← HN.out]; omega
        exact ⟨.slice A3 k c3, rfl, HT.out, BtAt.fin ⟨⟨vs, HVL.out, HOW.out, HE.out⟩, HT.out⟩ hk hB, own_useB HOW.out⟩
    · have i1 : ¬ (k : Int) < (n : Int) := by omega
      go_wp2
      go_ret
      have hk : k = (pts.take 20).length := by rw [List.length_take, ← HN.out]; omega
      exact ⟨.slice A3 k c3, rfl, HT.out, BtAt.fin ⟨⟨vs, HVL.out, HOW.out, HE.out⟩, HT.out⟩ hk hB, own_useB HOW.out⟩
theorem batch_any (w : World) (B : Nat) (v : Value) (pts : List Pt) (hp : PtsAt w B (fun k => k < B) v pts) (hB : B ≤ w.heap.size) (hN : pts.length ≤ 9223372036854775807) (hcp : CapsOk w v) :
    Calls Tryz.prog 15 #[v] w fun e w' => ∃ v', e = .returned v' ∧ Below w.heap.size w w' ∧ PtsAt w' w'.heap.size (fun k => k < B) v' (batchP pts) :=
  (batch_any2 w B v pts hp hB hN hcp).mono fun e w' ⟨v', h1, h2, h3, _⟩ => ⟨v', h1, h2, h3⟩
end Go.Proofs.YtbeeejpjnniejaaGreatDoor
namespace Go.Proofs.YtbeeejpjnniejaaGreatDoor
open Go.RowKit
set_option maxRecDepth 100000 in
set_option maxHeartbeats 3200000 in
theorem errs_any (w : World) (B1 B2 : Nat) (l : List Int) (A1 A2 : Option Addr) (c1 c2 n : Nat) (hr1 : Reads w B1 1 A1 n (l.map (Value.int .i64))) (hr2 : Reads w B2 1 A2 n (l.map (Value.int .i64))) (ha : n ≤ 100000) :
    Calls Tryz.prog 22 #[.slice A1 n c1, .slice A2 n c2] w fun e w' => e = .returned (.bool true) ∧ ∃ q, w' = w.drewN q := by
  have HR1 := Lib.hid hr1
  have HR2 := Lib.hid hr2
  have HI := Lib.hid (show KpR w n (.int .i64 0) w from ⟨0, 0, rfl, Nat.zero_le _, rfl⟩)
  clear hr1 hr2
  go_enter Tryz.func22, Tryz.ntmps22
  go_wp2_with fail
  go_loopw [5] (fun i wr => KpR w n i wr) (fun i _ => n - (intOf i).toNat)
  case atStart => exact HI.out
  case round =>
    obtain ⟨k, q0, rfl, hk, hw⟩ := hrel
    have HW := Lib.hid hw
    by_cases hlt : k < n
    · have i1 : (k : Int) < (n : Int) := by omega
      have i3 : (0 : Int) ≤ (k : Int) := by omega
      obtain ⟨d1, u1, rfl, -, hu1, x1⟩ := HR1.out.at_ hlt
      obtain ⟨d2, u2, rfl, -, hu2, y1⟩ := HR2.out.at_ hlt
      rw [hu1] at hu2
      injection hu2 with hu2
      subst hu2
      rw [List.getElem?_map] at hu1
      obtain ⟨z, hz, rfl⟩ := Option.map_eq_some_iff.1 hu1
      replace x1 : wr.cell? (d1.add k) = some (.int .i64 z) := by rw [hw]; exact x1
      replace y1 : wr.cell? (d2.add k) = some (.int .i64 z) := by rw [hw]; exact y1
      have s1 : IntKind.i64.wrap ((k : Int) + 1) = ((k + 1 : Nat) : Int) := (IntWalk.i64_in _ (by omega)).trans (by omega)
      have e1 : (z != z) = false := by simp
      clear hw hz hu1
      go_upto_region 6 with fail
      go_quiet (fail)
      go_wp2
      exact ⟨⟨k + 1, q0 + nq, rfl, by omega, by rw [HW.out, World.drewN_drewN]⟩, by simp [intOf]; omega⟩
    · have i1 : ¬ (k : Int) < (n : Int) := by omega
      clear hw
      go_wp2
      refine bodyPost_ret (results_tmp rfl _ _ _) rfl ?_
      exact ⟨rfl, _, HW.out⟩
end Go.Proofs.YtbeeejpjnniejaaGreatDoor
namespace Go.Proofs.YtbeeejpjnniejaaGreatDoor
open Go.RowKit
def RcR (w : World) (a b : List Lbl) (i : Value) (wr : World) : Prop :=
  ∃ k q : Nat, i = .int .i64 (k : Int) ∧ k ≤ a.length ∧ k ≤ b.length ∧ cmpL a b = cmpL (a.drop k) (b.drop k) ∧ wr = w.drewN q
theorem cmpS_lt {x y : ByteArray} (h : Op.bytesLess x.toList y.toList = true) : cmpS x y = -1 := by unfold cmpS cmpB; rw [h]; rfl
theorem cmpS_eq {x y : ByteArray} (h : (x.toList == y.toList) = true) : cmpS x y = 0 := by unfold cmpS cmpB; rw [eq_of_beq h, bytesLess_self]; rfl
theorem cmpS_gt {x y : ByteArray} (h1 : Op.bytesLess x.toList y.toList = false) (h2 : (x.toList == y.toList) = false) : cmpS x y = 1 := by
  have h3 : Op.bytesLess y.toList x.toList = true := by
    cases h4 : Op.bytesLess y.toList x.toList with
    | true => rfl
    | false => exact absurd (bl_tri _ _ h1 h4) (by simpa using h2)
  unfold cmpS cmpB
  rw [h1, h3]; rfl
theorem less_of_eq {x y : ByteArray} (h : (x.toList == y.toList) = true) : Op.bytesLess x.toList y.toList = false := by rw [eq_of_beq h, bytesLess_self]
set_option maxRecDepth 100000 in
set_option maxHeartbeats 6400000 in
theorem rcompare_any (w : World) (B : Nat) (v1 v2 : Value) (a b : List Lbl) (h1 : LabsAt w B v1 a) (h2 : LabsAt w B v2 b) (ha : a.length ≤ 100000) (hb : b.length ≤ 100000) :
    Calls Tryz.prog 19 #[v1, v2] w fun e w' => e = .returned (.int .i64 (cmpL a b)) ∧ ∃ q, w' = w.drewN q := by
  obtain ⟨A1, c1, rfl, hr1⟩ := h1
  obtain ⟨A2, c2, rfl, hr2⟩ := h2
  obtain ⟨n1, hn1⟩ : ∃ n, n = a.length := ⟨_, rfl⟩
  obtain ⟨n2, hn2⟩ : ∃ n, n = b.length := ⟨_, rfl⟩
  rw [← hn1] at hr1 ha ⊢
  rw [← hn2] at hr2 hb ⊢
  have HR1 := Lib.hid hr1
  have HR2 := Lib.hid hr2
  have HN1 := Lib.hid hn1
  have HN2 := Lib.hid hn2
  have HI := Lib.hid (show RcR w a b (.int .i64 0) w from ⟨0, 0, rfl, Nat.zero_le _, Nat.zero_le _, rfl, rfl⟩)
  clear hr1 hr2 hn1 hn2
  go_enter Tryz.func19, Tryz.ntmps19
  go_wp2_with fail
  go_loopw [5] (fun i wr => RcR w a b i wr) (fun i _ => n1 - (intOf i).toNat)
  case atStart => exact HI.out
  case round =>
    obtain ⟨k, q0, rfl, hka, hkb, hc, hw⟩ := hrel
    have HC := Lib.hid hc
    have HW := Lib.hid hw
    have hn1 := HN1.out
    have hn2 := HN2.out
    by_cases hlt : k < n1 ∧ k < n2
    · obtain ⟨hlt1, hlt2⟩ := hlt
      have i1 : (k : Int) < (n1 : Int) := by omega
      have i2 : (k : Int) < (n2 : Int) := by omega
      have i3 : (0 : Int) ≤ (k : Int) := by omega
      obtain ⟨p, hp⟩ : ∃ p, a[k]? = some p := ⟨_, List.getElem?_eq_getElem (by omega)⟩
      obtain ⟨q, hq⟩ : ∃ p, b[k]? = some p := ⟨_, List.getElem?_eq_getElem (by omega)⟩
      have hda : a.drop k = p :: a.drop (k + 1) := by
        obtain ⟨h8, h9⟩ := List.getElem?_eq_some_iff.1 hp
        rw [List.drop_eq_getElem_cons h8, h9]
      have hdb : b.drop k = q :: b.drop (k + 1) := by
        obtain ⟨h8, h9⟩ := List.getElem?_eq_some_iff.1 hq
        rw [List.drop_eq_getElem_cons h8, h9]
      obtain ⟨d1, rfl, -, x1, x2⟩ := HR1.out.two hp
      obtain ⟨d2, rfl, -, y1, y2⟩ := HR2.out.two hq
      obtain ⟨p1, p2⟩ := p
      obtain ⟨q1, q2⟩ := q
      dsimp only at x1 x2 y1 y2
      replace x1 : wr.cell? (d1.add (k * 2)) = some (.string p1) := by rw [hw]; exact x1
      replace x2 : wr.cell? ⟨(d1.add (k * 2)).block, (d1.add (k * 2)).off + 1, none⟩ = some (.string p2) := by rw [hw]; exact x2
      replace y1 : wr.cell? (d2.add (k * 2)) = some (.string q1) := by rw [hw]; exact y1
      replace y2 : wr.cell? ⟨(d2.add (k * 2)).block, (d2.add (k * 2)).off + 1, none⟩ = some (.string q2) := by rw [hw]; exact y2
      have HDA := Lib.hid hda
      have HDB := Lib.hid hdb
      have hrow : cmpL a b = lex (cmpLab (p1, p2) (q1, q2)) (cmpL (a.drop (k + 1)) (b.drop (k + 1))) := by rw [hc, hda, hdb]; rfl
      have HROW := Lib.hid hrow
      have s1 : IntKind.i64.wrap ((k : Int) + 1) = ((k + 1 : Nat) : Int) := (IntWalk.i64_in _ (by omega)).trans (by omega)
      clear hp hq hda hdb hc hw hn1 hn2 hrow
      go_upto_region 4 with fail
      go_quiet (fail)
      obtain ⟨wA, hwA⟩ : ∃ wA, wA = wr.drewN nq := ⟨_, rfl⟩
      rw [← hwA]
      replace x1 : wA.cell? (d1.add (k * 2)) = some (.string p1) := by rw [hwA]; exact x1
      replace x2 : wA.cell? ⟨(d1.add (k * 2)).block, (d1.add (k * 2)).off + 1, none⟩ = some (.string p2) := by rw [hwA]; exact x2
      replace y1 : wA.cell? (d2.add (k * 2)) = some (.string q1) := by rw [hwA]; exact y1
      replace y2 : wA.cell? ⟨(d2.add (k * 2)).block, (d2.add (k * 2)).off + 1, none⟩ = some (.string q2) := by rw [hwA]; exact y2
      have HwA := Lib.hid (show ∃ q, wA = w.drewN q from ⟨q0 + nq, by rw [hwA, HW.out, World.drewN_drewN]⟩)
      clear hwA
      cases h1 : Op.bytesLess p1.toList q1.toList with
      | true =>
        have HH := Lib.hid (cmpS_lt h1)
        clear h1 x1 x2 y1 y2
        go_wp2_with fail
        refine bodyPost_ret (results_tmp rfl _ _ _) rfl ?_
        refine ⟨?_, HwA.out⟩
        rw [HROW.out, show cmpLab (p1, p2) (q1, q2) = lex (cmpS p1 q1) (cmpS p2 q2) from rfl, HH.out]
        rfl
      | false =>
        have HH0 := Lib.hid h1
        go_upto_region 6 with fail
        go_quiet (fail)
        obtain ⟨wB, hwB⟩ : ∃ wB, wB = wA.drewN nq := ⟨_, rfl⟩
        rw [← hwB]
        replace x1 : wB.cell? (d1.add (k * 2)) = some (.string p1) := by rw [hwB]; exact x1
        replace x2 : wB.cell? ⟨(d1.add (k * 2)).block, (d1.add (k * 2)).off + 1, none⟩ = some (.string p2) := by rw [hwB]; exact x2
        replace y1 : wB.cell? (d2.add (k * 2)) = some (.string q1) := by rw [hwB]; exact y1
        replace y2 : wB.cell? ⟨(d2.add (k * 2)).block, (d2.add (k * 2)).off + 1, none⟩ = some (.string q2) := by rw [hwB]; exact y2
        have HwB := Lib.hid (show ∃ q, wB = w.drewN q by obtain ⟨q, e⟩ := HwA.out; exact ⟨q + nq, by rw [hwB, e, World.drewN_drewN]⟩)
        clear hwB
        cases h2 : p1.toList == q1.toList with
        | false =>
          have HH := Lib.hid (cmpS_gt HH0.out h2)
          simp only [HH0.out, Bool.or_self, Bool.not_false]
          clear h2 x1 x2 y1 y2
          go_wp2_with fail
          refine bodyPost_ret (results_tmp rfl _ _ _) rfl ?_
          refine ⟨?_, HwB.out⟩
          rw [HROW.out, show cmpLab (p1, p2) (q1, q2) = lex (cmpS p1 q1) (cmpS p2 q2) from rfl, HH.out]
          rfl
        | true =>
          have HH := Lib.hid (cmpS_eq h2)
          simp only [HH0.out, Bool.false_or, Bool.not_true]
          clear h2
          go_upto_region 8 with fail
          go_quiet (fail)
          obtain ⟨wC, hwC⟩ : ∃ wC, wC = wB.drewN nq := ⟨_, rfl⟩
          rw [← hwC]
          replace x2 : wC.cell? ⟨(d1.add (k * 2)).block, (d1.add (k * 2)).off + 1, none⟩ = some (.string p2) := by rw [hwC]; exact x2
          replace y2 : wC.cell? ⟨(d2.add (k * 2)).block, (d2.add (k * 2)).off + 1, none⟩ = some (.string q2) := by rw [hwC]; exact y2
          have HwC := Lib.hid (show ∃ q, wC = w.drewN q by obtain ⟨q, e⟩ := HwB.out; exact ⟨q + nq, by rw [hwC, e, World.drewN_drewN]⟩)
          clear hwC
          clear x1 y1
          cases h3 : Op.bytesLess p2.toList q2.toList with
          | true =>
            have HH2 := Lib.hid (cmpS_lt h3)
            clear h3 x2 y2
            go_wp2_with fail
            refine bodyPost_ret (results_tmp rfl _ _ _) rfl ?_
            refine ⟨?_, HwC.out⟩
            rw [HROW.out, show cmpLab (p1, p2) (q1, q2) = lex (cmpS p1 q1) (cmpS p2 q2) from rfl, HH.out, HH2.out]
            rfl
          | false =>
            have HH1 := Lib.hid h3
            go_upto_region 10 with fail
            go_quiet (fail)
            obtain ⟨wD, hwD⟩ : ∃ wD, wD = wC.drewN nq := ⟨_, rfl⟩
            rw [← hwD]
            have HwD := Lib.hid (show ∃ q, wD = w.drewN q by obtain ⟨q, e⟩ := HwC.out; exact ⟨q + nq, by rw [hwD, e, World.drewN_drewN]⟩)
            clear hwD
            clear x2 y2
            cases h4 : p2.toList == q2.toList with
            | false =>
              have HH2 := Lib.hid (cmpS_gt HH1.out h4)
              simp only [HH1.out, Bool.or_self, Bool.not_false]
              clear h4
              go_wp2_with fail
              refine bodyPost_ret (results_tmp rfl _ _ _) rfl ?_
              refine ⟨?_, HwD.out⟩
              rw [HROW.out, show cmpLab (p1, p2) (q1, q2) = lex (cmpS p1 q1) (cmpS p2 q2) from rfl, HH.out, HH2.out]
              rfl
            | true =>
              have HH2 := Lib.hid (cmpS_eq h4)
              simp only [HH1.out, Bool.false_or, Bool.not_true]
              clear h4
              go_wp2_with fail
              obtain ⟨q9, e9⟩ := HwD.out
              refine ⟨⟨k + 1, q9, rfl, by have := HN1.out; omega, by have := HN2.out; omega, ?_, e9⟩, by simp [intOf]; omega⟩
              rw [HROW.out, show cmpLab (p1, p2) (q1, q2) = lex (cmpS p1 q1) (cmpS p2 q2) from rfl, HH.out, HH2.out]
              rfl
    · have hdd : (k = n1 ∨ k = n2) := by omega
      by_cases e1 : k < n1
      case' pos =>
        have i1 : (k : Int) < (n1 : Int) := by omega
        have i2 : ¬ (k : Int) < (n2 : Int) := by omega
        have i6 : decide ((k : Int) < (n1 : Int)) = true := decide_eq_true i1
        have i5 : ¬ (n1 : Int) < (n2 : Int) := by omega
        have i4 : (n2 : Int) < (n1 : Int) := by omega
        have HV := Lib.hid (show cmpL a b = 1 by
          rw [hc, List.drop_of_length_le (l := b) (by omega)]
          cases e : a.drop k with
          | nil => have := congrArg List.length e; rw [List.length_drop] at this; simp at this; omega
          | cons q r => rfl)
        clear hc hn1 hn2 hw hdd hlt
        go_wp2_with fail
        refine bodyPost_ret (results_tmp rfl _ _ _) rfl ?_
        exact ⟨by rw [HV.out]; rfl, _, HW.out⟩
      case' neg =>
        have i1 : ¬ (k : Int) < (n1 : Int) := by omega
        have i6 : decide ((k : Int) < (n1 : Int)) = false := decide_eq_false i1
        by_cases e2 : k < n2
        · have i5 : (n1 : Int) < (n2 : Int) := by omega
          have HV := Lib.hid (show cmpL a b = -1 by
            rw [hc, List.drop_of_length_le (l := a) (by omega)]
            cases e : b.drop k with
            | nil => have := congrArg List.length e; rw [List.length_drop] at this; simp at this; omega
            | cons q r => rfl)
          clear hc hn1 hn2 hw hdd hlt
          go_wp2_with fail
          refine bodyPost_ret (results_tmp rfl _ _ _) rfl ?_
          exact ⟨by rw [HV.out]; rfl, _, HW.out⟩
        · have i5 : ¬ (n1 : Int) < (n2 : Int) := by omega
          have i4 : ¬ (n2 : Int) < (n1 : Int) := by omega
          have HV := Lib.hid (show cmpL a b = 0 by
            rw [hc, List.drop_of_length_le (l := a) (by omega), List.drop_of_length_le (l := b) (by omega)]
            rfl)
          clear hc hn1 hn2 hw hdd hlt
          go_wp2_with fail
          refine bodyPost_ret (results_tmp rfl _ _ _) rfl ?_
          exact ⟨by rw [HV.out]; rfl, _, HW.out⟩
end Go.Proofs.YtbeeejpjnniejaaGreatDoor
