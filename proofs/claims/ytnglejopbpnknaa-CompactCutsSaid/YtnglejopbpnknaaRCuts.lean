/- The walk of the document's Cuts. -/
import Derived.Test.YtnglejopbpnknaaCuts
namespace Go.Proofs.Ytnglejopbpnknaa
open Go.RowKit Go.Shelf Go.Lib Go.Sort

theorem Reads.take {w : World} {B size n : Nat} {A : Option Addr} {xs : List Value} (h : Reads w B size A n xs) {k : Nat} (hk : k ≤ n) : Reads w B size A k (xs.take (k * size)) := by
  refine ⟨by rw [List.length_take, h.1]; exact Nat.min_eq_left (Nat.mul_le_mul_right _ hk), fun hn => ?_⟩
  obtain ⟨ad, e, hb, hc⟩ := h.2 (by omega)
  refine ⟨ad, e, hb, fun j u hu => hc j u ?_⟩
  rw [List.getElem?_take] at hu
  split at hu
  · exact hu
  · cases hu

/-- a number laid into rising ones -/
theorem ins_rising (L : List Int) (k : Nat) (z : Int) (h : L.Pairwise (· < ·)) (hk : k ≤ L.length) (h1 : ∀ j, j < k → L.getD j 0 < z) (h2 : k < L.length → z < L.getD k 0) :
    (L.take k ++ [z] ++ L.drop k).Pairwise (· < ·) ∧ ∀ b, b ∈ L.take k ++ [z] ++ L.drop k ↔ b ∈ L ∨ b = z := by
  have e : L.take k ++ L.drop k = L := List.take_append_drop k L
  have hlo : ∀ x ∈ L.take k, x < z := by
    intro x hx
    obtain ⟨j, hj, rfl⟩ := List.getElem_of_mem hx
    have hj' : j < k ∧ j < L.length := by simp at hj; omega
    have := h1 j hj'.1
    rw [List.getD, List.getElem?_eq_getElem hj'.2] at this
    simpa using this
  have hhi : ∀ x ∈ L.drop k, z < x := by
    intro x hx
    obtain ⟨j, hj, rfl⟩ := List.getElem_of_mem hx
    have hj' : k + j < L.length := by simp at hj; omega
    have hk' := h2 (by omega)
    rw [List.getD, List.getElem?_eq_getElem (show k < L.length by omega)] at hk'
    simp only [Option.getD_some] at hk'
    rw [List.getElem_drop]
    rcases Nat.eq_zero_or_pos j with rfl | hj0
    · simpa using hk'
    · have := List.pairwise_iff_getElem.1 h k (k + j) (by omega) hj' (by omega)
      omega
  rw [← e, List.pairwise_append] at h
  refine ⟨?_, fun b => ?_⟩
  · rw [List.append_assoc, List.pairwise_append]
    refine ⟨h.1, ?_, ?_⟩
    · rw [List.singleton_append, List.pairwise_cons]
      exact ⟨hhi, h.2.1⟩
    · intro x hx y hy
      rcases List.mem_append.1 hy with hy | hy
      · rw [List.mem_singleton.1 hy]; exact hlo x hx
      · exact h.2.2 x hx y hy
  · have hm : b ∈ L ↔ b ∈ L.take k ∨ b ∈ L.drop k := by rw [← List.mem_append, e]
    rw [hm]
    simp only [List.mem_append, List.mem_singleton]
    constructor
    · rintro ((h | h) | h)
      · exact .inl (.inl h)
      · exact .inr h
      · exact .inl (.inr h)
    · rintro ((h | h) | h)
      · exact .inl (.inl h)
      · exact .inr h
      · exact .inl (.inr h)

def RCutR (w : World) (ts : List Int) (newest wd : Int) (v i : Value) (wr : World) : Prop :=
  ∃ (k : Nat) (L : List Int) (u : Value), k ≤ ts.length ∧ u = v ∧ i = .int .i64 k ∧ L.Pairwise (· < ·) ∧ (∀ b, b ∈ L ↔ b ∈ cutF newest wd (ts.take k)) ∧ L.length ≤ k ∧
    wr.ownsRow w.heap.size 3 1 u L.length (L.map (Value.int .i64)) ∧ Below w.heap.size w wr

/-- what a step leaves the members -/
theorem memb_snoc (newest wd : Int) (ts : List Int) (k : Nat) (hk : k < ts.length) (L : List Int) (h : ∀ b, b ∈ L ↔ b ∈ cutF newest wd (ts.take k)) (b : Int) :
    b ∈ cutF newest wd (ts.take (k + 1)) ↔ b ∈ L ∨ (floorZ (ts.getD k 0) wd + wideT wd ≤ clampT newest - wideT wd / 2 ∧ b = floorZ (ts.getD k 0) wd) := by
  rw [cutF_snoc newest wd ts k hk, List.mem_append, ← h b]
  split
  · rename_i hs; rw [List.mem_singleton]; exact ⟨fun h => h.imp id (fun h => ⟨hs, h⟩), fun h => h.imp id (fun h => h.2)⟩
  · rename_i hs; exact ⟨fun h => h.imp id (fun h => by cases h), fun h => h.imp id (fun h => absurd h.1 hs)⟩
theorem cut_wide (newest wd : Int) (ts : List Int) (h : wideT wd = 36028797018963968) : cutF newest wd ts = [] := by
  unfold cutF
  rw [List.filter_eq_nil_iff]
  intro b hb
  obtain ⟨t, _, rfl⟩ := List.mem_map.1 hb
  have h1 := clampT_bd t
  have h2 := clampT_bd newest
  have h3 := Int.emod_lt_of_pos (clampT t) (show 0 < wideT wd by omega)
  unfold floorZ
  simp
  omega

theorem own_low {w : World} {b b' : Nat} {e : TypeId} {z n : Nat} {v : Value} {xs : List Value} (h : w.ownsRow b e z v n xs) (hb : b' ≤ b) : w.ownsRow b' e z v n xs :=
  ⟨h.1, h.2.imp id fun ⟨g, c, cur, a, b, r⟩ => ⟨g, c, cur, a, by omega, r⟩⟩
theorem reads_new (w : World) (t : TypeId) (z : Int) : Reads (w.alloc (.cells #[.int .i64 z] t)) (w.heap.size + 1) 1 (some ⟨w.heap.size, 0, none⟩) 1 [.int .i64 z] :=
  ⟨rfl, fun _ => ⟨_, rfl, Nat.lt_succ_self _, cell_one_new _ _ _⟩⟩
theorem one_ints (L : List Int) : ∀ u ∈ L.map (Value.int .i64), u.oneCell' = true := by
  intro u hu
  obtain ⟨x, -, rfl⟩ := List.mem_map.1 hu
  rfl
theorem take_one (L : List Int) (m : Nat) : ∀ u ∈ (L.map (Value.int .i64)).take m, u.oneCell' = true := fun u hu => one_ints L u (List.mem_of_mem_take hu)
theorem drop_one (L : List Int) (m : Nat) : ∀ u ∈ (L.map (Value.int .i64)).drop m, u.oneCell' = true := fun u hu => one_ints L u (List.mem_of_mem_drop hu)

set_option maxRecDepth 100000 in
set_option maxHeartbeats 3200000 in
theorem rcuts_any (A : Option Addr) (n c : Nat) (ts : List Int) (newest wd : Int) (w : World) (h : Reads w w.heap.size 1 A n (ts.map (Value.int .i64))) (hn : n ≤ 100000) (hw : wd < 9223372036854775808) :
    Calls Try.prog 15 #[.slice A n c, .int .i64 newest, .int .i64 wd] w (CutsPost w ts newest wd) := by
  obtain ⟨i0, hi, hz0, hz1, hz2⟩ := info_parts info3
  obtain rfl : ts.length = n := h.len_int
  have hb : 1 ≤ wideT wd ∧ wideT wd < 9223372036854775808 := by unfold wideT; omega
  have hc := clampT_bd newest
  have HR := Lib.hid h.int_at
  have HI := Lib.hid hi
  have HZ0 := Lib.hid hz0
  have HZ1 := Lib.hid hz1
  have HZ2 := Lib.hid hz2
  have HFW := Lib.hid (fun t => floorZ_wide t wd)
  clear h hi hz0 hz1 hz2
  go_enter Try.func15, Try.ntmps15
  go_wp2_with fail
  refine (wide_any wd w).mono ?_
  rintro e w' ⟨rfl, rfl⟩
  obtain ⟨b, hbb⟩ : ∃ b, b = wideT wd := ⟨_, rfl⟩
  obtain ⟨cn, hcn⟩ : ∃ cn, cn = clampT newest := ⟨_, rfl⟩
  rw [← hcn] at hc
  rw [← hbb] at hb ⊢
  have HB := Lib.hid hbb
  have HC := Lib.hid hcn
  clear hbb hcn
  rcases Int.lt_or_le 36028797018963968 b with h1 | h1
  case inl =>
    go_wp2
    go_ret
    exact ⟨_, [], rfl, World.ownsRow_nil _ _ _ _, Nat.zero_le _, IsCuts.nil (by rw [← HB.out]; omega), Below.refl _ _⟩
  case inr =>
    go_wp2_with fail
    refine (inside_any newest w).mono ?_
    rintro e w' ⟨rfl, rfl⟩
    rw [← HC.out]
    go_wp2_with fail
    go_loopw [9, 10] (fun v i wr => RCutR w ts newest wd v i wr) (fun _ i _ => ts.length - (intOf i).toNat)
    case atStart => exact ⟨0, [], _, Nat.zero_le _, rfl, rfl, List.Pairwise.nil, fun _ => Iff.rfl, Nat.le_refl _, World.ownsRow_nil _ _ _ _, Below.refl _ _⟩
    case round =>
      obtain ⟨k, L, u, hk, hu, rfl, hri, hme, hLk, ho, hB⟩ := hrel
      subst hu
      have HO := Lib.hid ho
      have HBW := Lib.hid hB
      have HRI := Lib.hid hri
      have HME := Lib.hid hme
      have hsz := hB.size
      obtain ⟨A', c', rfl⟩ := own_slice ho
      clear ho hB hri hme
      by_cases hlt : k < ts.length
      · obtain ⟨⟨g, o, s⟩, rfl, hg, hcell⟩ := HR.out (by omega)
        have c0 := (HBW.out.cell (p := Addr.add ⟨g, o, s⟩ k) (by rw [block_of_add]; exact hg)).trans (hcell k hlt)
        have HMS := Lib.hid (memb_snoc newest wd ts k hlt L HME.out)
        generalize ts.getD k 0 = t at *
        clear hcell
        go_wp2_with fail
        refine (rfloor_any t b wr (by omega)).mono ?_
        rintro e w' ⟨rfl, rfl⟩
        have hfu : -45035996273704960 ≤ floorZ t b ∧ floorZ t b ≤ 9007199254740992 := by
          have h1 := clampT_bd t
          have h2 := Int.emod_lt_of_pos (clampT t) (show 0 < wideT b by unfold wideT; omega)
          have h3 := Int.emod_nonneg (clampT t) (show wideT b ≠ 0 by unfold wideT; omega)
          have h4 : wideT b = b := by unfold wideT; omega
          unfold floorZ
          rw [h4] at h2 h3 ⊢
          omega
        have hfe : floorZ t b = floorZ t wd := by rw [HB.out]; exact HFW.out t
        generalize hz : floorZ t b = z at *
        rw [← hfe, ← HB.out, ← HC.out] at HMS
        clear hz hfe
        by_cases hcut : z + b ≤ cn - b / 2
        · go_wp2_with fail
          obtain ⟨wo, hwo⟩ : ∃ wo, wo = wr := ⟨_, rfl⟩
          subst hwo
          go_loop [12] (fun s => ∃ m : Nat, m ≤ L.length ∧ s = .int .i64 m ∧ ∀ j, j < m → L.getD j 0 < z) (fun s => L.length - (intOf s).toNat)
          case atStart => exact ⟨0, Nat.zero_le _, rfl, fun j hj => absurd hj (Nat.not_lt_zero _)⟩
          case round =>
            obtain ⟨m, hm, rfl, hlow⟩ := hrel
            have HLO := Lib.hid hlow
            have hLc : L.length ≤ c' := by
              rcases HO.out.2 with ⟨h1, h2⟩ | ⟨g', cap, cur, h1, -, -, h2, -⟩
              · injection h1 with _ _ h3; omega
              · injection h1 with _ _ h3; omega
            clear hlow
            by_cases hml : m < L.length
            · obtain ⟨gu, cu, hAu⟩ := own_succ HO.out (by omega)
              injection hAu with e1 e2 e3
              subst e1 e3
              have d0 : wo.cell? ⟨gu, m, none⟩ = some (.int .i64 (L.getD m 0)) := by rw [HO.out.cellAt m (by omega), List.getElem?_map, List.getElem?_eq_getElem hml, List.getD, List.getElem?_eq_getElem hml]; rfl
              obtain ⟨y, hy⟩ : ∃ y, y = L.getD m 0 := ⟨_, rfl⟩
              rw [← hy] at d0
              have HY := Lib.hid hy
              clear hy e2
              rcases Int.lt_trichotomy y z with hlt' | heq | hgt
              · go_wp2
                go_round
                case rel => exact ⟨m + 1, by omega, by go_num, fun j hj => by
                  rcases Nat.lt_or_eq_of_le (Nat.lt_succ_iff.1 hj) with h | rfl
                  · exact HLO.out j h
                  · rw [← HY.out]; exact hlt'⟩
                case measure => simp [intOf]; omega
              · subst heq
                go_wp2
                refine ⟨⟨k + 1, L, _, by omega, rfl, by go_num, HRI.out, fun x => ?_, by omega, HO.out, HBW.out⟩, by simp [intOf]; omega⟩
                rw [HMS.out x]
                refine ⟨.inl, fun h => h.elim id fun h => ?_⟩
                rw [h.2, HY.out, List.getD, List.getElem?_eq_getElem hml]
                exact List.getElem_mem _
              · have HI2 := Lib.hid (ins_rising L m z HRI.out (by omega) HLO.out (fun _ => by rw [← HY.out]; exact hgt))
                have HRT := Lib.hid ((Reads.of_own HO.out).take (k := m) (by omega))
                have hmc : m ≤ c' := by omega
                clear HY
                have HRD := Lib.hid (show Reads wo wo.heap.size 1 (some ⟨gu, m, none⟩) (L.length - m) ((L.map (Value.int .i64)).drop (m * 1)) by have h9 := (Reads.of_own HO.out).cut (k := m) (by omega) hLc; rw [if_neg (by omega)] at h9; have e9 : (⟨gu, 0, none⟩ : Addr).add m = ⟨gu, m, none⟩ := (by unfold Addr.add; split <;> simp_all); simpa [e9] using h9)
                go_upto_region 15 with fail
                go_wp2_with (first | (at_builtin; (refine wpList_append_any _ rfl (.tmp 66) (.tmp 69) 40 rfl wo.heap.size 3 i0 (.int .i64 0) 1 8 Try.underlying40 HI.out HZ0.out HZ1.out HZ2.out rfl (by omega) (.slice (some ⟨wo.heap.size, 0, none⟩) 0 0) 0 [] rfl (World.ownsRow_made wo #[] 0 (Nat.le_refl _) (by simp [maxLen]) rfl) wo.heap.size (some ⟨gu, 0, none⟩) m c' ((L.map (Value.int .i64)).take (m * 1)) rfl (HRT.out.alloc (Nat.le_refl _) _) (take_one L (m * 1)) (by simp [maxLen]; omega) (by omega) (by simp) ?_; intro v1 w1 hown1 hgrow1 _; have HW1 := Lib.hid hown1; have HG1 := Lib.hid hgrow1; have hs1 := hgrow1.size; rw [World.size_alloc] at hs1; clear hown1 hgrow1)) | (at_builtin; (refine wpList_append_any _ rfl (.tmp 71) (.tmp 73) 40 rfl wo.heap.size 3 i0 (.int .i64 0) 1 8 Try.underlying40 HI.out HZ0.out HZ1.out HZ2.out rfl (by omega) v1 (0 + m) ([] ++ (L.map (Value.int .i64)).take (m * 1)) rfl (HW1.out.alloc _) (w1.heap.size + 1) (some ⟨w1.heap.size, 0, none⟩) 1 1 [.int .i64 z] rfl (reads_new w1 3 z) (one_ints [z]) (by simp [maxLen]; omega) (by omega) (by rw [World.size_alloc]; omega) ?_; intro v2 w2 hown2 hgrow2 _; have HW2 := Lib.hid hown2; have HG2 := Lib.hid hgrow2; have hs2 := hgrow2.size; rw [World.size_alloc] at hs2; clear hown2 hgrow2)) | (at_builtin; (refine wpList_append_any _ rfl (.tmp 75) (.tmp 78) 40 rfl wo.heap.size 3 i0 (.int .i64 0) 1 8 Try.underlying40 HI.out HZ0.out HZ1.out HZ2.out rfl (by omega) v2 (0 + m + 1) ([] ++ (L.map (Value.int .i64)).take (m * 1) ++ [.int .i64 z]) rfl HW2.out wo.heap.size _ (L.length - m) (c' - m) ((L.map (Value.int .i64)).drop (m * 1)) rfl (((HRD.out.alloc (Nat.le_refl _) _).grown HG1.out (by simp) (fun g hg => by cases hg; exact Nat.le_refl _)).alloc (by omega) _ |>.grown HG2.out (by rw [World.size_alloc]; omega) (fun g hg => (HW1.out.lt g hg).1)) (drop_one L (m * 1)) (by simp [maxLen]; omega) (by omega) (by omega) ?_; intro v3 w3 hown3 hgrow3 _; have HW3 := Lib.hid hown3; have HG3 := Lib.hid hgrow3; have hs3 := hgrow3.size; clear hown3 hgrow3)))
                refine ⟨⟨k + 1, L.take m ++ [z] ++ L.drop m, v3, by omega, rfl, by go_num, HI2.out.1, fun x => ?_, by simp; omega, ?_, ?_⟩, by simp [intOf]; omega⟩
                · exact (HI2.out.2 x).trans ⟨fun h => (HMS.out x).2 (h.imp id (fun h => ⟨hcut, h⟩)), fun h => ((HMS.out x).1 h).imp id (fun h => h.2)⟩
                · have h9 := HW3.out
                  rw [show (L.take m ++ [z] ++ L.drop m).length = 0 + m + 1 + (L.length - m) by simp; omega, show (L.take m ++ [z] ++ L.drop m).map (Value.int .i64) = [] ++ (L.map (Value.int .i64)).take (m * 1) ++ [.int .i64 z] ++ (L.map (Value.int .i64)).drop (m * 1) by simp [List.map_take, List.map_drop]]
                  exact own_low h9 hsz
                · have g1 := (HBW.out.alloc hsz (.cells #[] 3)).grown HG1.out (by rw [World.size_alloc]; omega) (fun g hg => by cases hg; exact hsz)
                  have g2 := (g1.alloc (by omega) (.cells #[.int .i64 z] 3)).grown HG2.out (by rw [World.size_alloc]; omega) (fun g hg => by have := (HW1.out.lt g hg).1; omega)
                  exact g2.grown HG3.out (by omega) (fun g hg => by have := (HW2.out.lt g hg).1; omega)
            · have HI2 := Lib.hid (ins_rising L m z HRI.out (by omega) HLO.out (fun h => absurd h hml))
              have HRT := Lib.hid ((Reads.of_own HO.out).take (k := m) (by omega))
              have hmc : m ≤ c' := by omega
              have HRD := Lib.hid (show Reads wo wo.heap.size 1 (if c' = m then A' else Option.map (fun x => x.add m) A') (L.length - m) ((L.map (Value.int .i64)).drop (m * 1)) by have h9 := (Reads.of_own HO.out).cut (k := m) (by omega) hLc; simpa using h9)
              go_upto_region 15 with fail
              go_wp2_with (first | (at_builtin; (refine wpList_append_any _ rfl (.tmp 66) (.tmp 69) 40 rfl wo.heap.size 3 i0 (.int .i64 0) 1 8 Try.underlying40 HI.out HZ0.out HZ1.out HZ2.out rfl (by omega) (.slice (some ⟨wo.heap.size, 0, none⟩) 0 0) 0 [] rfl (World.ownsRow_made wo #[] 0 (Nat.le_refl _) (by simp [maxLen]) rfl) wo.heap.size A' m c' ((L.map (Value.int .i64)).take (m * 1)) rfl (HRT.out.alloc (Nat.le_refl _) _) (take_one L (m * 1)) (by simp [maxLen]; omega) (by omega) (by simp) ?_; intro v1 w1 hown1 hgrow1 _; have HW1 := Lib.hid hown1; have HG1 := Lib.hid hgrow1; have hs1 := hgrow1.size; rw [World.size_alloc] at hs1; clear hown1 hgrow1)) | (at_builtin; (refine wpList_append_any _ rfl (.tmp 71) (.tmp 73) 40 rfl wo.heap.size 3 i0 (.int .i64 0) 1 8 Try.underlying40 HI.out HZ0.out HZ1.out HZ2.out rfl (by omega) v1 (0 + m) ([] ++ (L.map (Value.int .i64)).take (m * 1)) rfl (HW1.out.alloc _) (w1.heap.size + 1) (some ⟨w1.heap.size, 0, none⟩) 1 1 [.int .i64 z] rfl (reads_new w1 3 z) (one_ints [z]) (by simp [maxLen]; omega) (by omega) (by rw [World.size_alloc]; omega) ?_; intro v2 w2 hown2 hgrow2 _; have HW2 := Lib.hid hown2; have HG2 := Lib.hid hgrow2; have hs2 := hgrow2.size; rw [World.size_alloc] at hs2; clear hown2 hgrow2)) | (at_builtin; (refine wpList_append_any _ rfl (.tmp 75) (.tmp 78) 40 rfl wo.heap.size 3 i0 (.int .i64 0) 1 8 Try.underlying40 HI.out HZ0.out HZ1.out HZ2.out rfl (by omega) v2 (0 + m + 1) ([] ++ (L.map (Value.int .i64)).take (m * 1) ++ [.int .i64 z]) rfl HW2.out wo.heap.size _ (L.length - m) (c' - m) ((L.map (Value.int .i64)).drop (m * 1)) rfl (((HRD.out.alloc (Nat.le_refl _) _).grown HG1.out (by simp) (fun g hg => by cases hg; exact Nat.le_refl _)).alloc (by omega) _ |>.grown HG2.out (by rw [World.size_alloc]; omega) (fun g hg => (HW1.out.lt g hg).1)) (drop_one L (m * 1)) (by simp [maxLen]; omega) (by omega) (by omega) ?_; intro v3 w3 hown3 hgrow3 _; have HW3 := Lib.hid hown3; have HG3 := Lib.hid hgrow3; have hs3 := hgrow3.size; clear hown3 hgrow3)))
              refine ⟨⟨k + 1, L.take m ++ [z] ++ L.drop m, v3, by omega, rfl, by go_num, HI2.out.1, fun x => ?_, by simp; omega, ?_, ?_⟩, by simp [intOf]; omega⟩
              · exact (HI2.out.2 x).trans ⟨fun h => (HMS.out x).2 (h.imp id (fun h => ⟨hcut, h⟩)), fun h => ((HMS.out x).1 h).imp id (fun h => h.2)⟩
              · have h9 := HW3.out
                rw [show (L.take m ++ [z] ++ L.drop m).length = 0 + m + 1 + (L.length - m) by simp; omega, show (L.take m ++ [z] ++ L.drop m).map (Value.int .i64) = [] ++ (L.map (Value.int .i64)).take (m * 1) ++ [.int .i64 z] ++ (L.map (Value.int .i64)).drop (m * 1) by simp [List.map_take, List.map_drop]]
                exact own_low h9 hsz
              · have g1 := (HBW.out.alloc hsz (.cells #[] 3)).grown HG1.out (by rw [World.size_alloc]; omega) (fun g hg => by cases hg; exact hsz)
                have g2 := (g1.alloc (by omega) (.cells #[.int .i64 z] 3)).grown HG2.out (by rw [World.size_alloc]; omega) (fun g hg => by have := (HW1.out.lt g hg).1; omega)
                exact g2.grown HG3.out (by omega) (fun g hg => by have := (HW2.out.lt g hg).1; omega)
        · go_wp2
          refine ⟨⟨k + 1, L, _, by omega, rfl, by go_num, HRI.out, fun x => ?_, by omega, HO.out, HBW.out⟩, by simp [intOf]; omega⟩
          rw [HMS.out x]
          exact ⟨.inl, fun h => h.resolve_right (fun h => absurd h.1 (Int.not_le.2 hcut))⟩
      · obtain rfl : k = ts.length := by omega
        go_wp2
        go_ret
        refine ⟨_, L, rfl, HO.out, hLk, ⟨HRI.out, fun x => ?_⟩, HBW.out⟩
        rw [HME.out x, List.take_length]
        refine ⟨fun hx => ⟨?_, hx⟩, fun hx => hx.2⟩
        rw [← HB.out]
        rcases Int.lt_or_eq_of_le h1 with h2 | h2
        · exact h2
        · rw [cut_wide newest wd ts (by rw [← HB.out]; exact h2)] at hx
          cases hx
end Go.Proofs.Ytnglejopbpnknaa
