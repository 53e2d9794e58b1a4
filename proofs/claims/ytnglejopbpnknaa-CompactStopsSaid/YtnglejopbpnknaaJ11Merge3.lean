/- compact.Merge of any lists: the sort, and all of it. slices.CompactFunc of any row of samples: the walk. symMerge of smp (58), where one element lies ahead. symMerge of smp (58), where one element lies behind. symMerge of smp (58): the rotation and the two smaller merges behind the search. -/
import Derived.Test.YtnglejopbpnknaaJ07Sym3Ser
import Derived.Test.YtnglejopbpnknaaJ09RCmp
import Derived.Test.YtnglejopbpnknaaJ05InsSmp
import Derived.Test.YtnglejopbpnknaaJ06Sym1Ser
namespace Go.Proofs.Ytnglejopbpnknaa
open Go.RowKit
theorem flat2_inj {α : Type} {f g : α → Value} (hf : ∀ a b, f a = f b → g a = g b → a = b) : ∀ l m : List α, flat2 f g l = flat2 f g m → l = m
  | [], [], _ => rfl
  | [], b :: m, h => by simp [flat2] at h
  | a :: l, [], h => by simp [flat2] at h
  | a :: l, b :: m, h => by
    simp only [flat2, List.flatMap_cons, List.cons_append, List.nil_append, List.cons.injEq] at h
    obtain ⟨h1, h2, h3⟩ := h
    rw [hf a b h1 h2, flat2_inj hf l m h3]
theorem flatL_inj {l m : List Lbl} (h : flatL l = flatL m) : l = m := flat2_inj (fun a b h1 h2 => by
  injection h1 with h1
  injection h2 with h2
  exact Prod.ext h1 h2) l m h
theorem flatS_inj {l m : List Smp} (h : flatS l = flatS m) : l = m := flat2_inj (fun a b h1 h2 => by
  injection h1 with _ h1
  injection h2 with _ h2
  exact Prod.ext h1 h2) l m h
/-- what a row owns is one thing -/
theorem own_one {w : World} {b1 b2 : Nat} {e : TypeId} {v : Value} {n1 n2 : Nat} {x1 x2 : List Value} (h1 : w.ownsRow b1 e 2 v n1 x1) (h2 : w.ownsRow b2 e 2 v n2 x2) : x1 = x2 := by
  have l1 := h1.1
  have l2 := h2.1
  rcases h1.2 with ⟨rfl, rfl⟩ | ⟨g, cap, cur, rfl, _, hh, _, _, _, ht⟩
  · rcases h2.2 with ⟨-, rfl⟩ | ⟨g', cap', cur', e', _⟩
    · rw [List.length_eq_zero_iff.1 l1, List.length_eq_zero_iff.1 l2]
    · cases e'
  · rcases h2.2 with ⟨e', _⟩ | ⟨g', cap', cur', e', _, hh', _, _, _, ht'⟩
    · cases e'
    · injection e' with e1 e2 e3
      injection e1 with e1
      injection e1 with e1
      subst e1 e2
      rw [hh] at hh'
      injection hh' with hh'
      injection hh' with hh'
      subst hh'
      rw [← ht, ← ht']
noncomputable def labsOf (w : World) (v : Value) : List Lbl := Classical.epsilon fun ls => w.ownsRow 0 61 2 v ls.length (flatL ls)
noncomputable def smpsOf (w : World) (v : Value) : List Smp := Classical.epsilon fun ls => w.ownsRow 0 51 2 v ls.length (flatS ls)
theorem labsOf_eq {w : World} {b : Nat} {v : Value} {ls : List Lbl} (h : w.ownsRow b 61 2 v ls.length (flatL ls)) : labsOf w v = ls := by
  have h0 := own_less h (Nat.zero_le b)
  have := Classical.epsilon_spec (p := fun ls => w.ownsRow 0 61 2 v ls.length (flatL ls)) ⟨ls, h0⟩
  exact flatL_inj (own_one this h0)
theorem smpsOf_eq {w : World} {b : Nat} {v : Value} {ls : List Smp} (h : w.ownsRow b 51 2 v ls.length (flatS ls)) : smpsOf w v = ls := by
  have h0 := own_less h (Nat.zero_le b)
  have := Classical.epsilon_spec (p := fun ls => w.ownsRow 0 51 2 v ls.length (flatS ls)) ⟨ls, h0⟩
  exact flatS_inj (own_one this h0)
noncomputable def serOf (w : World) (p : VV) : Ser := (labsOf w p.1, smpsOf w p.2)
theorem serOf_eq {w : World} {b : Nat} {p : VV} {s : Ser} (h : SerOwn w b p s) : serOf w p = s := Prod.ext (labsOf_eq h.1) (smpsOf_eq h.2)
theorem alike_map {α β : Type} {lt : β → β → Bool} (hr : Rank lt) (f : α → β) {l m : List α} (h : Alike (fun a b => lt (f a) (f b)) l m) : Alike lt (l.map f) (m.map f) := fun x => by
  have hr2 : Rank fun a b => lt (f a) (f b) := ⟨fun a b => hr.asym _ _, fun a b c => hr.neg _ _ _⟩
  rw [List.filter_map, List.filter_map]
  by_cases e : ∃ y ∈ l, eqv lt x (f y) = true
  · obtain ⟨y, -, hy⟩ := e
    have h1 := h y
    have e2 : ((eqv lt x) ∘ f) = eqv (fun a b => lt (f a) (f b)) y := by
      funext a
      show eqv lt x (f a) = eqv lt (f y) (f a)
      cases e3 : eqv lt (f y) (f a) with
      | true => exact hr.trans hy e3
      | false =>
        cases e4 : eqv lt x (f a) with
        | false => rfl
        | true => rw [hr.trans (Rank.symm hy) e4] at e3; cases e3
    rw [e2, h1]
  · have n1 : l.filter ((eqv lt x) ∘ f) = [] := List.filter_eq_nil_iff.2 fun a ha hh => e ⟨a, ha, hh⟩
    have n2 : m.filter ((eqv lt x) ∘ f) = [] := List.filter_eq_nil_iff.2 fun a ha hh => e ⟨a, h.symm.mem hr2 ha, hh⟩
    rw [n1, n2]
theorem map_of {w : World} {b : Nat} {vs : List VV} {ss : List Ser} (hl : vs.length = ss.length) (h : ∀ (i : Nat) (p : VV) (s : Ser), vs[i]? = some p → ss[i]? = some s → SerOwn w b p s) : vs.map (serOf w) = ss := by
  refine List.ext_getElem (by simpa using hl) fun i h1 h2 => ?_
  rw [List.getElem_map]
  simp only [List.length_map] at h1
  exact serOf_eq (h i _ _ (List.getElem?_eq_getElem h1) (List.getElem?_eq_getElem h2))
theorem row_of_own {w : World} {b g n c : Nat} {vs : List VV} (h : w.ownsRow b 34 2 (.slice (some ⟨g, 0, none⟩) n c) n (flatV vs)) (hn : vs.length = n) : RowAt w g 34 vs := by
  rcases h.2 with ⟨e, _⟩ | ⟨g', cap, cur, e, _, hh, hc, _, hs, ht⟩
  · cases e
  · injection e with e1
    injection e1 with e1
    injection e1 with e1
    subst e1
    refine ⟨cur, hh, by omega, fun i p hp => ?_⟩
    have hi := (List.getElem?_eq_some_iff.1 hp).1
    obtain ⟨k1, k2⟩ := flat2_get Prod.fst Prod.snd vs i p hp
    have ht2 : List.take (n * 2) cur.toList = flat2 Prod.fst Prod.snd vs := ht
    rw [← ht2, List.getElem?_take_of_lt (by omega)] at k1 k2
    exact ⟨by simpa using k1, by simpa using k2⟩
theorem all_sort (w w3 : World) (all : List Ser) (hsm : Small all) (hl : all.length ≤ 10000) (h : AllAt w3 w.heap.size all) (hb : Below w.heap.size w w3) :
    ∃ sv, w3.cell? ⟨w.heap.size, 0, none⟩ = some sv ∧ Calls Try.prog 23 #[sv, .func (.func 24) #[] #[]] w3 fun e w4 => e = .returned (.tuple #[]) ∧ (∃ L : List Ser, Asc ltS L ∧ Alike ltS all L ∧ BoxAt w4 w.heap.size L) ∧ Below w.heap.size w w4 := by
  obtain ⟨v, vs, h1, h2, h3, h4⟩ := h
  refine ⟨v, h1.cell 0, ?_⟩
  by_cases h0 : all.length = 0
  · have e0 : all = [] := List.length_eq_zero_iff.1 h0
    subst e0
    obtain ⟨A, c, rfl⟩ := own_slice h3
    refine (sort0_ser w3 A c).mono ?_
    rintro e w4 ⟨rfl, rfl⟩
    exact ⟨rfl, ⟨[], List.Pairwise.nil, Alike.refl _, A, c, [], h1, rfl, fun h => absurd h (Nat.lt_irrefl _), fun i p s h => by simp at h⟩, hb⟩
  · obtain ⟨g, c, rfl⟩ := own_succ h3 (by omega)
    have hrow := row_of_own h3 h2
    obtain ⟨hg1, hg2⟩ := h3.lt g rfl
    obtain ⟨S, hS⟩ : ∃ S : VV → Prop, S = fun p => ∃ s : Ser, SerOwn w3 (w.heap.size + 1) p s ∧ s.1.length ≤ 1000 ∧ s.2.length ≤ 1000 := ⟨_, rfl⟩
    have hSp : ∀ p ∈ vs, S p := fun p hp => by
      obtain ⟨i, hi⟩ := List.mem_iff_getElem?.1 hp
      have hlt := (List.getElem?_eq_some_iff.1 hi).1
      have hs : all[i]? = some all[i] := List.getElem?_eq_getElem (by omega)
      rw [hS]
      exact ⟨_, h4 i p _ hi hs, hsm _ (List.getElem_mem _)⟩
    have hrowx := hrow
    obtain ⟨cs, hblk, -⟩ := hrowx
    have hfar : ∀ W, w3.grownBy W (some g) → ∀ p s, SerOwn w3 (w.heap.size + 1) p s → SerOwn W (w.heap.size + 1) p s := fun W hW p s h => h.far hblk (by decide) (by decide) hW
    have hrk : Rank fun p q : VV => ltS (serOf w3 p) (serOf w3 q) := ⟨fun a b => ltS_rank.asym _ _, fun a b c => ltS_rank.neg _ _ _⟩
    refine (sort_ser w3 w3 g all.length c S (fun p q => ltS (serOf w3 p) (serOf w3 q)) hrk ?_ ?_ vs (only_refl _ _) hrow hSp h2.symm (by omega)).mono ?_
    · intro p hp
      rw [hS] at hp
      obtain ⟨s, hs, -⟩ := hp
      obtain ⟨A, c, A2, c2, e⟩ := hs.slices
      rw [e]
      exact ⟨⟨_, _, _, rfl⟩, ⟨_, _, _, rfl⟩⟩
    · intro W hW p q hp hq
      rw [hS] at hp hq
      obtain ⟨s, hs, s1, s2⟩ := hp
      obtain ⟨t, ht, t1, t2⟩ := hq
      refine (scmp_any W p.1 q.1 p.2 q.2 s.1 t.1 (hfar W hW p s hs).rd.1 (hfar W hW q t ht).rd.1 (by omega) (by omega)).mono ?_
      rintro e W' ⟨rfl, hb⟩
      refine ⟨_, rfl, ?_, hb⟩
      show cmpL s.1 t.1 < 0 ↔ ltS (serOf w3 p) (serOf w3 q) = true
      rw [serOf_eq hs, serOf_eq ht]
      simp
    · rintro e w4 ⟨rfl, L', k1, k2, k3, k4, k5⟩
      have hb4 : Below w.heap.size w w4 := hb.grown k5 hb.size (fun k hk => by injection hk with hk; omega)
      have e1 : vs.map (serOf w3) = all := map_of h2 h4
      refine ⟨rfl, ⟨L'.map (serOf w3), List.pairwise_map.2 k1, ?_, some ⟨g, 0, none⟩, c, L', ?_, by simp, fun _ => ⟨g, rfl, hg1, k4⟩, fun i p s hp hs => ?_⟩, hb4⟩
      · rw [← e1]
        exact alike_map ltS_rank _ k2
      · rw [List.length_map, k3, h2]
        exact h1.grown k5 (fun e => by injection e with e; omega)
      · rw [List.getElem?_map, hp] at hs
        injection hs with hs
        have hm := (Alike.symm k2).mem hrk (List.mem_of_getElem? hp)
        have := hSp p hm
        rw [hS] at this
        obtain ⟨s', hs', -⟩ := this
        have e2 := serOf_eq hs'
        rw [← hs, e2]
        exact hfar w4 k5 p s' hs'
theorem merge_any (w : World) (v : Value) (lists : List (List Ser)) (h : ListsRd w w.heap.size v lists) (hsm : ∀ ss ∈ lists, Small ss) (hl : lists.flatten.length ≤ 10000) (hl2 : lists.length ≤ 1000) :
    Calls Try.prog 8 #[v] w fun e w' => e = .returned (.func (.func 26) #[] #[.pointer (some ⟨w.heap.size, 0, none⟩)]) ∧ (∃ L : List Ser, Asc ltS L ∧ Alike ltS lists.flatten L ∧ BoxAt w' w.heap.size L) ∧ Below w.heap.size w w' :=
  merge_fill w v lists h hsm hl hl2 fun w3 h3 hb => all_sort w w3 lists.flatten (fun s hs => by
    obtain ⟨ss, h1, h2⟩ := List.mem_flatten.1 hs
    exact hsm ss h1 s h2) hl h3 hb
end Go.Proofs.Ytnglejopbpnknaa
namespace Go.Proofs.Ytnglejopbpnknaa
open Go.RowKit
attribute [local go_sem] run_store_float
set_option maxRecDepth 100000 in
set_option maxHeartbeats 6400000 in
theorem uniq_smp (w : World) (g n c : Nat) (L : List VV) (h : RowAt w g 51 L) (hS : ∀ p ∈ L, IsSmp p) (hn : n = L.length) (h1 : 1 ≤ n) (hc : n ≤ c) (hl : n ≤ 100000) (hcl : c ≤ maxLen) :
    Calls Try.prog 30 #[.slice (some ⟨g, 0, none⟩) n c, .func (.func 31) #[] #[]] w fun e w' => e = .returned (.slice (some ⟨g, 0, none⟩) (ddup L).length c) ∧ RowAt w' g 51 (ddup L) ∧ w.grownBy w' (some g) := by
  by_cases hn1 : n = 1
  · obtain ⟨a, rfl⟩ := List.length_eq_one_iff.1 (hn ▸ hn1)
    have H := Lib.hid h
    subst hn1
    clear hn h hS
    go_enter Try.func30, Try.ntmps30
    go_wp2
    refine bodyPost_ret (results_tmp rfl _ _ _) rfl ?_
    exact ⟨rfl, H.out, only_refl _ _⟩
  have HI := Lib.hid (U1R.start h (by omega))
  have HS := Lib.hid hS
  have HN := Lib.hid hn
  have i0 : ¬ (n : Int) < 2 := by omega
  have i00 : decide ((n : Int) < 2) = false := decide_eq_false i0
  clear h hS hn
  go_enter Try.func30, Try.ntmps30
  go_wp2_with fail
  go_loopw [5] (fun i wr => U1R w g L i wr) (fun i _ => n - (intOf i).toNat)
  case atStart => exact HI.out
  case round =>
    obtain ⟨k, rfl, hk1, hkn, hdd, hrow, hg⟩ := hrel
    have HDD := Lib.hid hdd
    have HR := Lib.hid hrow
    have HG := Lib.hid hg
    rw [← HN.out] at hkn
    have hnl := HN.out
    by_cases hlt : k < n
    · have i1 : (k : Int) < (n : Int) := by omega
      obtain ⟨p, hp⟩ : ∃ p, L[k]? = some p := ⟨_, List.getElem?_eq_getElem (by omega)⟩
      obtain ⟨q, hq⟩ : ∃ q, L[k - 1]? = some q := ⟨_, List.getElem?_eq_getElem (by omega)⟩
      have hSp := HS.out p (List.mem_of_getElem? hp)
      have hSq := HS.out q (List.mem_of_getElem? hq)
      have x1 := hrow.fst hp
      have x2 := hrow.snd hp
      have y1 := hrow.fst hq
      have y2 := hrow.snd hq
      have HP := Lib.hid hp
      have HQ := Lib.hid hq
      obtain ⟨p1, p2⟩ := p
      obtain ⟨q1, q2⟩ := q
      obtain ⟨⟨A1, a1⟩, A2, a2⟩ := hSp
      obtain ⟨⟨B1, b1⟩, B2, b2⟩ := hSq
      dsimp only at x1 x2 y1 y2 a1 a2 b1 b2
      subst a1 a2 b1 b2
      have s2 : IntKind.i64.wrap ((k : Int) + 1) = ((k + 1 : Nat) : Int) := (IntWalk.i64_in _ (by omega)).trans (by omega)
      have d1 : (1 : Int) ≤ (k : Int) := by omega
      have d6 : k ≤ 100000 := by omega
      have d7 : ((k : Int) - 1).toNat = k - 1 := by omega
      have s1 : IntKind.i64.wrap ((k : Int) - 1) = (k : Int) - 1 := IntWalk.i64_in _ (by omega)
      have d2 : (k : Int) ≤ (n : Int) := by omega
      have d3 : (0 : Int) ≤ (k : Int) - 1 := by omega
      have d5 : (k : Int) - 1 < (n : Int) := by omega
      clear hdd hrow hg hp hq hnl
      go_upto_region 6 with fail
      go_region_held3 (fun w' => w'.cell? ⟨g, k * 2, none⟩ = some (.int .i64 A1) ∧ w'.cell? ⟨g, k * 2 + 1, none⟩ = some (.float .f64 A2) ∧ w'.cell? ⟨g, (k - 1) * 2, none⟩ = some (.int .i64 B1) ∧ w'.cell? ⟨g, (k - 1) * 2 + 1, none⟩ = some (.float .f64 B2))
        (first | exact ⟨x1, x2, y1, y2⟩ | exact ⟨u1, u2, u3, u4⟩)
        (first | (go_at_call 31; refine (teq2_any A1 B1 A2 B2 wr.drew).mono ?_; rintro e w4 ⟨rfl, hb4⟩; replace hb4 : Below wr.heap.size wr w4 := ((Below.refl wr.heap.size wr).drew).trans hb4; have hr4 := HR.out.below hb4; have u1 := hr4.fst HP.out; have u2 := hr4.snd HP.out; have u3 := hr4.fst HQ.out; have u4 := hr4.snd HQ.out; dsimp only at u1 u2 u3 u4; have HR4 := Lib.hid hr4; have HB4 := Lib.hid hb4; clear hr4 hb4))
      clear x1 x2 y1 y2 u1 u2 u3 u4 d3 d5 d7 s1
      by_cases he : A1 = B1
      · have he2 : (A1 == B1) = true := by simp [he]
        simp only [he2]
        clear he2
        have HT := Lib.hid (u1_turn hk1 HDD.out HP.out HQ.out he)
        have HI2 := Lib.hid (show U2R w g L k (.int .i64 (k : Int)) (.int .i64 1) w4 from ⟨k, 1, L, rfl, rfl, Nat.le_refl _, by rw [← HN.out]; omega, by omega, rfl, rfl, HT.out, HR4.out, only_trans HG.out (only_of_below HB4.out _)⟩)
        have hck : ¬ c = k := by omega
        have hck2 : (k : Int) ≤ (c : Int) := by omega
        clear he
        go_wp2_with fail
        generalize hnk : n - k = nk
        generalize hck3 : c - k = ck
        have HNK := Lib.hid hnk
        have HCK := Lib.hid hck3
        clear hnk hck3 hck hck2
        go_loopw [5, 7] (fun i j wr => U2R w g L k i j wr) (fun _ j _ => n - (intOf j).toNat)
        case atStart => exact HI2.out
        case round =>
          obtain ⟨kw, j2, M, rfl, rfl, hj1, hjl, hkj, hMl, hMd, hdd2, hrow2, hg2⟩ := hrel
          rw [← HN.out] at hjl
          have hnk := HNK.out
          have hck := HCK.out
          have hnl := HN.out
          have HDD2 := Lib.hid hdd2
          have HMD := Lib.hid hMd
          have HML := Lib.hid hMl
          have HR5 := Lib.hid hrow2
          have HG5 := Lib.hid hg2
          by_cases hlt2 : j2 < nk
          · have i2 : (j2 : Int) < (nk : Int) := by omega
            obtain ⟨p, hp⟩ : ∃ p, L[k + j2]? = some p := ⟨_, List.getElem?_eq_getElem (by omega)⟩
            obtain ⟨q, hq⟩ : ∃ q, L[k + j2 - 1]? = some q := ⟨_, List.getElem?_eq_getElem (by omega)⟩
            have hSp := HS.out p (List.mem_of_getElem? hp)
            have hSq := HS.out q (List.mem_of_getElem? hq)
            have hpM : M[k + j2]? = some p := (drop_get hMd (by omega)).trans hp
            have hqM : M[k + j2 - 1]? = some q := (drop_get hMd (by omega)).trans hq
            have x1 := hrow2.fst hpM
            have x2 := hrow2.snd hpM
            have y1 := hrow2.fst hqM
            have y2 := hrow2.snd hqM
            rw [show (k + j2) * 2 = k * 2 + j2 * 2 by omega] at x1 x2
            rw [show (k + j2 - 1) * 2 = k * 2 + (j2 - 1) * 2 by omega] at y1 y2
            have HP2 := Lib.hid hp
            have HQ2 := Lib.hid hq
            have HPM := Lib.hid hpM
            have HQM := Lib.hid hqM
            obtain ⟨p1, p2⟩ := p
            obtain ⟨q1, q2⟩ := q
            obtain ⟨⟨A3, a1⟩, A4, a2⟩ := hSp
            obtain ⟨⟨B3, b1⟩, B4, b2⟩ := hSq
            dsimp only at x1 x2 y1 y2 a1 a2 b1 b2
            subst a1 a2 b1 b2
            have s2 : IntKind.i64.wrap ((kw : Int) + 1) = ((kw + 1 : Nat) : Int) := (IntWalk.i64_in _ (by omega)).trans (by omega)
            have s3 : IntKind.i64.wrap ((j2 : Int) + 1) = ((j2 + 1 : Nat) : Int) := (IntWalk.i64_in _ (by omega)).trans (by omega)
            have d1 : (1 : Int) ≤ (j2 : Int) := by omega
            have d6 : j2 ≤ 100000 := by omega
            have d7 : ((j2 : Int) - 1).toNat = j2 - 1 := by omega
            have s1 : IntKind.i64.wrap ((j2 : Int) - 1) = (j2 : Int) - 1 := IntWalk.i64_in _ (by omega)
            have d2 : (j2 : Int) ≤ (nk : Int) := by omega
            have d3 : (0 : Int) ≤ (j2 : Int) - 1 := by omega
            have d5 : (j2 : Int) - 1 < (nk : Int) := by omega
            have d4 : (0 : Int) ≤ (j2 : Int) := by omega
            clear hdd2 hrow2 hg2 hp hq hpM hqM hnk hck hMd hnl hMl hjl
            go_upto_region 11 with fail
            go_region_held3 (fun w' => w'.cell? ⟨g, k * 2 + j2 * 2, none⟩ = some (.int .i64 A3) ∧ w'.cell? ⟨g, k * 2 + j2 * 2 + 1, none⟩ = some (.float .f64 A4) ∧ w'.cell? ⟨g, k * 2 + (j2 - 1) * 2, none⟩ = some (.int .i64 B3) ∧ w'.cell? ⟨g, k * 2 + (j2 - 1) * 2 + 1, none⟩ = some (.float .f64 B4))
              (first | exact ⟨x1, x2, y1, y2⟩ | exact ⟨u1, u2, u3, u4⟩)
              (first | (go_at_call 31; refine (teq2_any A3 B3 A4 B4 wr.drew).mono ?_; rintro e w6 ⟨rfl, hb6⟩; replace hb6 : Below wr.heap.size wr w6 := ((Below.refl wr.heap.size wr).drew).trans hb6; have hr6 := HR5.out.below hb6; have u1 := hr6.fst HPM.out; have u2 := hr6.snd HPM.out; have u3 := hr6.fst HQM.out; have u4 := hr6.snd HQM.out; rw [show (k + j2) * 2 = k * 2 + j2 * 2 by omega] at u1 u2; rw [show (k + j2 - 1) * 2 = k * 2 + (j2 - 1) * 2 by omega] at u3 u4; dsimp only at u1 u2 u3 u4; have HR6 := Lib.hid hr6; have HB6 := Lib.hid hb6; clear hr6 hb6))
            clear x1 x2 y1 y2 u3 u4 d3 d5 d7 s1
            by_cases he : A3 = B3
            · have he2 : (A3 == B3) = true := by simp [he]
              simp only [he2, Bool.not_true]
              have HT := Lib.hid (u2_skip (k := kw) (j := k + j2) (by omega) HDD2.out HP2.out HQ2.out he)
              clear he u1 u2
              go_wp2
              refine ⟨⟨kw, j2 + 1, M, rfl, rfl, by omega, by have := HNK.out; have := HN.out; omega, by omega, HML.out, u2_drop0 (j := k + j2) (by omega) HMD.out, HT.out, HR6.out, only_trans HG5.out (only_of_below HB6.out _)⟩, by have := HNK.out; simp [intOf]; omega⟩
            · have he2 : (A3 == B3) = false := by simp [he]
              simp only [he2, Bool.not_false]
              have HT := Lib.hid (u2_take (j := k + j2) (by omega) hkj HML.out HDD2.out HP2.out HQ2.out he)
              have hkn3 : kw < n := by have := HNK.out; omega
              obtain ⟨o, ho⟩ : ∃ o, M[kw]? = some o := ⟨_, List.getElem?_eq_getElem (by have := HML.out; have := HN.out; omega)⟩
              have z1 := HR6.out.fst ho
              have z2 := HR6.out.snd ho
              have z3 := HR6.out.frozen (kw * 2)
              have z4 := HR6.out.frozen (kw * 2 + 1)
              have e1 : (kw : Int) < (n : Int) := by omega
              have e2 : (0 : Int) ≤ (kw : Int) := by omega
              clear he ho
              go_wp2
              refine ⟨⟨kw + 1, j2 + 1, M.set kw (.int .i64 A3, .float .f64 A4), rfl, rfl, by omega, by have := HNK.out; have := HN.out; omega, by omega, by rw [List.length_set]; exact HML.out, u2_drop (j := k + j2) hkj HMD.out, HT.out, ?_, only_setCell (only_setCell (only_trans HG5.out (only_of_below HB6.out _)) (p := ⟨g, kw * 2, none⟩) (.inl rfl) _) (p := ⟨g, kw * 2 + 1, none⟩) (.inl rfl) _⟩, by have := HNK.out; simp [intOf]; omega⟩
              exact HR6.out.set_ kw (.int .i64 A3, .float .f64 A4) (by have := HML.out; have := HN.out; omega)
          · have i2 : ¬ (j2 : Int) < (nk : Int) := by omega
            have hj : k + j2 = n := by omega
            obtain ⟨q, hq⟩ : ∃ q, q = M.take kw := ⟨_, rfl⟩
            obtain ⟨r, hr⟩ : ∃ r, r = M.drop kw := ⟨_, rfl⟩
            have hql : q.length = kw := by rw [hq, List.length_take]; omega
            have hrl : r.length = n - kw := by rw [hr, List.length_drop]; omega
            have HF := Lib.hid (show ddup L = q by
              have := HDD2.out
              rw [hj, hnl, List.drop_length, ← hq] at this
              rw [this]; simp [ddr])
            have hrq : RowAt wr g 51 (q ++ r) := by rw [hq, hr, List.take_append_drop]; exact hrow2
            obtain ⟨w7, hcl7, hr7, hg7⟩ := clear_rows hrq (by omega) (c - kw)
            rw [hql, hrl] at hcl7
            have e1 : (kw : Int) ≤ (n : Int) := by omega
            have e2 : ¬ c = kw := by omega
            have e3 : (kw : Int) ≤ (c : Int) := by omega
            have HR7 := Lib.hid hr7
            have HG7 := Lib.hid hg7
            have HQL := Lib.hid hql
            clear hdd2 hrow2 hg2 hMd hMl hnl hnk hck hq hr hql hrl hrq hr7 hg7 hj hjl
            go_wp2
            refine bodyPost_ret (results_tmp rfl _ _ _) rfl ?_
            rw [HF.out]
            refine ⟨?_, HR7.out, only_trans HG5.out HG7.out⟩
            rw [HQL.out]
            rfl
      · have he2 : (A1 == B1) = false := by simp [he]
        simp only [he2]
        clear he2
        have HT := Lib.hid (u1_step hk1 HDD.out HP.out HQ.out he)
        clear he
        go_wp2
        exact ⟨⟨k + 1, rfl, by omega, by rw [← HN.out]; omega, HT.out, HR4.out, only_trans HG.out (only_of_below HB4.out _)⟩, by simp [intOf]; omega⟩
    · have hkn2 : k = n := by omega
      have HF := Lib.hid (show ddup L = L by
        have := HDD.out
        rw [hkn2, hnl, List.take_length, List.drop_length] at this
        rw [this]; simp [ddr])
      have i1 : ¬ (k : Int) < (n : Int) := by omega
      clear hdd hrow hg hnl
      go_wp2
      refine bodyPost_ret (results_tmp rfl _ _ _) rfl ?_
      refine ⟨?_, by rw [HF.out]; exact HR.out, HG.out⟩
      rw [HF.out, ← HN.out]
      rfl
end Go.Proofs.Ytnglejopbpnknaa
namespace Go.Proofs.Ytnglejopbpnknaa
open Go.RowKit
attribute [local go_sem] run_store_float
def Mov1SmpR (w0 : World) (g na ci : Nat) (x v z : List (Value × Value)) (e : Value × Value) (i : Value) (wr : World) : Prop :=
  ∃ l : Nat, l ≤ ci ∧ i = .int .i64 ((na + l : Nat) : Int) ∧ RowAt wr g 51 (x ++ v.take l ++ e :: (v.drop l ++ z)) ∧ w0.grownBy wr (some g)
def Sea1SmpR (w0 : World) (g nm : Nat) (lt : Value × Value → Value × Value → Bool) (L v : List (Value × Value)) (e : Value × Value) (i j : Value) (wr : World) : Prop :=
  ∃ ci cj : Nat, i = .int .i64 ((nm + ci : Nat) : Int) ∧ j = .int .i64 ((nm + cj : Nat) : Int) ∧ Srch1 lt v e ci cj ∧ RowAt wr g 51 L ∧ w0.grownBy wr (some g)
set_option maxRecDepth 100000 in
set_option maxHeartbeats 6400000 in
theorem sym1_smp (w0 w : World) (g n c : Nat) (S : Value × Value → Prop) (lt : Value × Value → Value × Value → Bool) (hr : Rank lt) (hIs : ∀ p, S p → IsSmp p) (hC : CmpSmp w0 g S lt) (x v z : List (Value × Value)) (e : Value × Value) (a m b : Int) (hw : w0.grownBy w (some g))
    (h : RowAt w g 51 (x ++ e :: (v ++ z))) (hS : ∀ p ∈ x ++ e :: (v ++ z), S p) (hn : n = (x ++ e :: (v ++ z)).length) (hl : n ≤ 100000) (hv : Asc lt v) (ha : a = x.length) (hm : m = ((x.length + 1 : Nat) : Int)) (hb : b = ((x.length + 1 + v.length : Nat) : Int)) :
    Calls Try.prog 58 #[.slice (some ⟨g, 0, none⟩) n c, .int .i64 a, .int .i64 m, .int .i64 b, .func (.func 28) #[] #[]] w fun e' w' => e' = .returned (.tuple #[]) ∧ ∃ s', Asc lt s' ∧ Alike lt ([e] ++ v) s' ∧ s'.length = v.length + 1 ∧ RowAt w' g 51 (x ++ s' ++ z) ∧ w0.grownBy w' (some g) := by
  obtain ⟨na, hna⟩ : ∃ n, n = x.length := ⟨_, rfl⟩
  obtain ⟨nv, hnv⟩ : ∃ n, n = v.length := ⟨_, rfl⟩
  obtain ⟨nm, hnm⟩ : ∃ k, k = na + 1 := ⟨_, rfl⟩
  obtain ⟨nb, hnb⟩ : ∃ k, k = nm + nv := ⟨_, rfl⟩
  have hbn : nb ≤ n := by rw [hnb, hnm, hna, hnv, hn]; simp only [List.length_append, List.length_cons]; omega
  rw [← hna] at ha
  rw [← hna, ← hnm] at hm
  rw [← hna, ← hnm, ← hnv, ← hnb] at hb
  subst ha hm hb
  have hd1 : IntKind.i64.wrap ((nm : Int) - (na : Int)) = 1 := (IntWalk.i64_in _ (by omega)).trans (by omega)
  obtain ⟨L, hL⟩ : ∃ L, L = x ++ e :: (v ++ z) := ⟨_, rfl⟩
  rw [← hL] at h hn
  have hsr : Srch1 lt v e 0 nv := by rw [hnv]; exact Srch1.start v e
  have HI := Lib.hid (show Sea1SmpR w0 g nm lt L v e (.int .i64 (nm : Int)) (.int .i64 (nb : Int)) w from ⟨0, nv, rfl, by rw [hnb], hsr, h, hw⟩)
  have HS := Lib.hid hS
  have HN := Lib.hid hn
  have HNA := Lib.hid hna
  have HNV := Lib.hid hnv
  have HNM := Lib.hid hnm
  have HNB := Lib.hid hnb
  have HL := Lib.hid hL
  have HV := Lib.hid hv
  have HRK := Lib.hid hr
  have HIS := Lib.hid hIs
  have HCM := Lib.hid hC
  have hnm9 : nm ≤ 100000 := by omega
  have hna9 : na < n := by omega
  clear h hS hn hna hnv hnm hnb hr hIs hC hw hL hv hsr
  go_enter Try.func58, Try.ntmps58
  go_wp2_with fail
  clear hd1
  go_loopw [10, 11] (fun i j wr => Sea1SmpR w0 g nm lt L v e i j wr) (fun i j _ => (intOf j).toNat - (intOf i).toNat)
  case atStart => exact HI.out
  case round =>
    obtain ⟨ci, cj, rfl, rfl, hsr, hrow, hg⟩ := hrel
    have HR := Lib.hid hrow
    have HG := Lib.hid hg
    have HSR := Lib.hid hsr
    have hjl := hsr.jl
    rw [← HNV.out] at hjl
    obtain ⟨i', hi'⟩ : ∃ i', i' = nm + ci := ⟨_, rfl⟩
    obtain ⟨j', hj'⟩ : ∃ j', j' = nm + cj := ⟨_, rfl⟩
    rw [← hi', ← hj']
    have hjn : j' ≤ nb := by have := HNB.out; omega
    have HII := Lib.hid hi'
    have HJJ := Lib.hid hj'
    by_cases hlt : i' < j'
    · obtain ⟨hh, hhh⟩ : ∃ hh, hh = (i' + j') / 2 := ⟨_, rfl⟩
      obtain ⟨ch, hch⟩ : ∃ ch, hh = nm + ch := ⟨hh - nm, by omega⟩
      have s1 : IntKind.i64.wrap ((i' : Int) + (j' : Int)) = (i' : Int) + (j' : Int) := IntWalk.i64_in _ (by omega)
      have s3 : ((i' : Int) + (j' : Int)) / 2 = (hh : Int) := by omega
      have hc1 : ci ≤ ch := by omega
      have hc2 : ch < cj := by omega
      obtain ⟨q, hq⟩ : ∃ q, v[ch]? = some q := ⟨_, List.getElem?_eq_getElem (show ch < v.length by rw [← HNV.out]; omega)⟩
      have hLh : L[hh]? = some q := by
        rw [HL.out, List.getElem?_append_right (by rw [← HNA.out]; have := HNM.out; omega), ← HNA.out, show hh - na = ch + 1 by have := HNM.out; omega, List.getElem?_cons_succ, List.getElem?_append_left (by rw [← HNV.out]; omega)]
        exact hq
      have hLa : L[na]? = some e := by rw [HL.out, HNA.out]; exact get_one _ _ _
      have hSE : S e := HS.out e (by simp)
      have hSD : S q := HS.out q (by have := List.mem_of_getElem? hq; simp [this])
      have hup := fun hl => hsr.up HRK.out HV.out hc1 hc2 hq hl
      have hdn := fun hl => hsr.down HRK.out HV.out hc1 hc2 hq hl
      obtain ⟨q1, q2⟩ := q
      obtain ⟨f1, f2⟩ := e
      obtain ⟨⟨A3, q3⟩, A4, q4⟩ := HIS.out _ hSD
      dsimp only at q3 q4
      subst q3 q4
      obtain ⟨⟨A1, q1⟩, A2, q2⟩ := HIS.out _ hSE
      dsimp only at q1 q2
      subst q1 q2
      have x1 := hrow.fst hLa
      have x2 := hrow.snd hLa
      have y1 := hrow.fst hLh
      have y2 := hrow.snd hLh
      dsimp only at x1 x2 y1 y2
      have hhn : hh < n := by omega
      have b1 : (na : Int) < (n : Int) := by omega
      have b2 : (hh : Int) < (n : Int) := by omega
      have b3 : (0 : Int) ≤ (na : Int) := by omega
      have b4 : (0 : Int) ≤ (hh : Int) := by omega
      have s4 : IntKind.i64.wrap ((hh : Int) + 1) = (hh : Int) + 1 := IntWalk.i64_in _ (by omega)
      have HHH := Lib.hid hhh
      have HCH := Lib.hid hch
      have HLH := Lib.hid hLh
      have HLA := Lib.hid hLa
      have HSE := Lib.hid hSE
      have HSD := Lib.hid hSD
      have HUP := Lib.hid hup
      have HDN := Lib.hid hdn
      clear hrow hg hsr hhh hch hq hLh hLa hSE hSD hup hdn hi' hj'
      cases hlt2 : lt (.int .i64 A3, .float .f64 A4) (.int .i64 A1, .float .f64 A2) with
      | true =>
        have HLT := Lib.hid hlt2
        clear hlt2
        have HC := Lib.hid (show ∀ z, Calls Try.prog 28 #[.agg #[.int .i64 A3, .float .f64 A4], .agg #[.int .i64 A1, .float .f64 A2]] (wr.drewN z) fun e W' => ∃ q : Int, e = .returned (.int .i64 q) ∧ q < 0 ∧ Below wr.heap.size wr W' from fun z => (HCM.out (wr.drewN z) (only_drewN HG.out z) (.int .i64 A3, .float .f64 A4) (.int .i64 A1, .float .f64 A2) HSD.out HSE.out).mono fun e W' ⟨q, h1, h2, h3⟩ => ⟨q, h1, by rw [HLT.out] at h2; simp at h2; omega, (below_drewN (Below.refl _ _) z).trans h3⟩)
        go_upto_region 5 with fail
        go_region_held3 (fun w' => w'.cell? ⟨g, na * 2, none⟩ = some (.int .i64 A1) ∧ w'.cell? ⟨g, na * 2 + 1, none⟩ = some (.float .f64 A2) ∧ w'.cell? ⟨g, hh * 2, none⟩ = some (.int .i64 A3) ∧ w'.cell? ⟨g, hh * 2 + 1, none⟩ = some (.float .f64 A4))
          (first | exact ⟨x1, x2, y1, y2⟩ | exact ⟨v1, v2, v3, v4⟩)
          (first | (go_at_call 28; refine (HC.out 1).mono ?_; rintro e w4 ⟨q, rfl, hq, hb4⟩; have hr4 := HR.out.below hb4; have v1 := hr4.fst HLA.out; have v2 := hr4.snd HLA.out; have v3 := hr4.fst HLH.out; have v4 := hr4.snd HLH.out; dsimp only at v1 v2 v3 v4; have HR4 := Lib.hid hr4; have HB4 := Lib.hid hb4; clear hr4 hb4))
        clear x1 x2 y1 y2 v1 v2 v3 v4
        go_wp2
        have h8 := HCH.out
        have h9 := HHH.out
        refine ⟨⟨ch + 1, cj, by rw [show ((nm + (ch + 1) : Nat) : Int) = (hh : Int) + 1 by omega], by rw [HJJ.out], HUP.out HLT.out, HR4.out, only_trans HG.out (only_of_below HB4.out _)⟩, by simp [intOf]; omega⟩
      | false =>
        have HLT := Lib.hid hlt2
        clear hlt2
        have HC := Lib.hid (show ∀ z, Calls Try.prog 28 #[.agg #[.int .i64 A3, .float .f64 A4], .agg #[.int .i64 A1, .float .f64 A2]] (wr.drewN z) fun e W' => ∃ q : Int, e = .returned (.int .i64 q) ∧ 0 ≤ q ∧ Below wr.heap.size wr W' from fun z => (HCM.out (wr.drewN z) (only_drewN HG.out z) (.int .i64 A3, .float .f64 A4) (.int .i64 A1, .float .f64 A2) HSD.out HSE.out).mono fun e W' ⟨q, h1, h2, h3⟩ => ⟨q, h1, by rw [HLT.out] at h2; simp at h2; omega, (below_drewN (Below.refl _ _) z).trans h3⟩)
        go_upto_region 5 with fail
        go_region_held3 (fun w' => w'.cell? ⟨g, na * 2, none⟩ = some (.int .i64 A1) ∧ w'.cell? ⟨g, na * 2 + 1, none⟩ = some (.float .f64 A2) ∧ w'.cell? ⟨g, hh * 2, none⟩ = some (.int .i64 A3) ∧ w'.cell? ⟨g, hh * 2 + 1, none⟩ = some (.float .f64 A4))
          (first | exact ⟨x1, x2, y1, y2⟩ | exact ⟨v1, v2, v3, v4⟩)
          (first | (go_at_call 28; refine (HC.out 1).mono ?_; rintro e w4 ⟨q, rfl, hq, hb4⟩; have hr4 := HR.out.below hb4; have v1 := hr4.fst HLA.out; have v2 := hr4.snd HLA.out; have v3 := hr4.fst HLH.out; have v4 := hr4.snd HLH.out; dsimp only at v1 v2 v3 v4; have HR4 := Lib.hid hr4; have HB4 := Lib.hid hb4; clear hr4 hb4))
        clear x1 x2 y1 y2 v1 v2 v3 v4
        go_wp2
        have h8 := HCH.out
        have h9 := HHH.out
        refine ⟨⟨ci, ch, by rw [HII.out], by rw [HCH.out], HDN.out HLT.out, HR4.out, only_trans HG.out (only_of_below HB4.out _)⟩, by simp [intOf]; omega⟩
    · have hij : ci = cj := by have := hsr.ij; omega
      subst hij
      have hdone := hsr.done HRK.out HV.out
      have HD := Lib.hid hdone
      have hge : ¬ (i' : Int) < (j' : Int) := by omega
      have s5 : IntKind.i64.wrap ((i' : Int) - 1) = ((na + ci : Nat) : Int) := (IntWalk.i64_in _ (by omega)).trans (by have := HNM.out; omega)
      obtain ⟨nc, hnc⟩ : ∃ nc, nc = na + ci := ⟨_, rfl⟩
      rw [← hnc] at s5
      have hcv : ci ≤ nv := hjl
      have HNC := Lib.hid hnc
      have HI2 := Lib.hid (show Mov1SmpR w0 g na ci x v z e (.int .i64 (na : Int)) wr from ⟨0, Nat.zero_le _, rfl, by rw [List.take_zero, List.drop_zero, List.append_nil, ← HL.out]; exact HR.out, HG.out⟩)
      clear hrow hg hsr hdone hnc hi' hj' hlt
      go_wp2_with fail
      go_loopw [13] (fun i wr => Mov1SmpR w0 g na ci x v z e i wr) (fun i _ => nc - (intOf i).toNat)
      case atStart => exact HI2.out
      case round =>
        obtain ⟨l, hlc, rfl, hrow, hg⟩ := hrel
        obtain ⟨kk, hkk⟩ : ∃ kk, kk = na + l := ⟨_, rfl⟩
        rw [← hkk]
        have HR5 := Lib.hid hrow
        have HG5 := Lib.hid hg
        have HKK := Lib.hid hkk
        by_cases hlt : kk < nc
        · have hll : l < ci := by have := HNC.out; omega
          have hlv : l < v.length := by rw [← HNV.out]; omega
          obtain ⟨q, hq⟩ : ∃ q, q = v[l] := ⟨_, rfl⟩
          have htk : v.take (l + 1) = v.take l ++ [q] := by rw [List.take_succ_eq_append_getElem hlv, hq]
          have hdr : v.drop l = q :: v.drop (l + 1) := by rw [List.drop_eq_getElem_cons hlv, hq]
          have hXl : (x ++ v.take l).length = kk := by rw [List.length_append, List.length_take, ← HNA.out, hkk, Nat.min_eq_left (by omega)]
          have e6 : x ++ v.take l ++ e :: (v.drop l ++ z) = (x ++ v.take l) ++ e :: [] ++ q :: (v.drop (l + 1) ++ z) := by rw [hdr]; simp
          have e7 : x ++ v.take (l + 1) ++ e :: (v.drop (l + 1) ++ z) = (x ++ v.take l) ++ q :: [] ++ e :: (v.drop (l + 1) ++ z) := by rw [htk]; simp
          have k1 := set_two (x ++ v.take l) [] (v.drop (l + 1) ++ z) e q
          rw [hXl, show kk + 1 + ([] : List (Value × Value)).length = kk + 1 from rfl, ← e7, ← e6] at k1
          have hPA : (x ++ v.take l ++ e :: (v.drop l ++ z))[kk]? = some e := by
            have := get_one (x ++ v.take l) (v.drop l ++ z) e
            rwa [hXl] at this
          have hPB : (x ++ v.take l ++ e :: (v.drop l ++ z))[kk + 1]? = some q := by
            have := get_one (x ++ v.take l ++ [e]) (v.drop (l + 1) ++ z) q
            rw [show (x ++ v.take l ++ [e]).length = kk + 1 by rw [List.length_append, hXl]; rfl] at this
            rw [hdr]
            simpa using this
          have hln : (x ++ v.take l ++ e :: (v.drop l ++ z)).length = n := by
            rw [HN.out, HL.out]
            simp only [List.length_append, List.length_cons, List.length_take, List.length_drop]
            omega
          have hSE : S e := HS.out e (by simp)
          have hSD : S q := HS.out q (by rw [hq]; simp [List.getElem_mem])
          have K1 := Lib.hid k1
          have HLN := Lib.hid hln
          clear hkk hq htk hdr hXl e6 e7 k1 hln
          obtain ⟨q1, q2⟩ := q
          obtain ⟨f1, f2⟩ := e
          obtain ⟨⟨A3, q3⟩, A4, q4⟩ := HIS.out _ hSD
          dsimp only at q3 q4
          subst q3 q4
          obtain ⟨⟨A1, q1⟩, A2, q2⟩ := HIS.out _ hSE
          dsimp only at q1 q2
          subst q1 q2
          have x1 := hrow.fst hPA
          have x2 := hrow.snd hPA
          have y1 := hrow.fst hPB
          have y2 := hrow.snd hPB
          dsimp only at x1 x2 y1 y2
          have z1 := hrow.frozen (kk * 2)
          have z2 := hrow.frozen (kk * 2 + 1)
          have z3 := hrow.frozen ((kk + 1) * 2)
          have z4 := hrow.frozen ((kk + 1) * 2 + 1)
          have hkn : kk + 1 < n := by have := HNC.out; have := HNB.out; have := HNM.out; omega
          have s6 : IntKind.i64.wrap ((kk : Int) + 1) = ((kk + 1 : Nat) : Int) := (IntWalk.i64_in _ (by omega)).trans (by omega)
          obtain ⟨k2, hk2⟩ : ∃ k2, k2 = kk + 1 := ⟨_, rfl⟩
          rw [← hk2] at y1 y2 z3 z4 s6 hkn
          have hkl : kk < k2 := by omega
          have HK2 := Lib.hid hk2
          clear hrow hg hPA hPB hSE hSD hk2 hge
          go_upto_region 11 with fail
          clear s5
          go_region
          clear x1 x2 y1 y2 z1 z2 z3 z4
          go_wp2
          refine ⟨⟨l + 1, hll, by rw [HK2.out, HKK.out]; rfl, ?_, only_drew (only_setCell (only_setCell (only_setCell (only_setCell HG5.out (.inl rfl) _) (.inl rfl) _) (.inl rfl) _) (.inl rfl) _)⟩, by have := HK2.out; simp [intOf]; omega⟩
          have h9 := (HR5.out.set_ kk (.int .i64 A3, .float .f64 A4) (by rw [HLN.out]; omega)).set_ k2 (.int .i64 A1, .float .f64 A2) (by rw [List.length_set, HLN.out]; exact hkn)
          have hk9 := K1.out
          rw [← HK2.out] at hk9
          rw [hk9] at h9
          exact h9
        · have hll : l = ci := by have := HNC.out; omega
          subst hll
          have HF := Lib.hid (show ∃ s', Asc lt s' ∧ Alike lt ([e] ++ v) s' ∧ s'.length = v.length + 1 ∧ RowAt wr g 51 (x ++ s' ++ z) ∧ w0.grownBy wr (some g) from ⟨v.take l ++ e :: v.drop l, HD.out.1, HD.out.2, by
              simp only [List.length_append, List.length_cons, List.length_take, List.length_drop]
              rw [← HNV.out]
              omega, by have := HR5.out; simpa using this, HG5.out⟩)
          clear hrow hg hkk hge
          go_wp2
          (try simp only [Exit.inBlock, Exit.then])
          refine bodyPost_ret (results_none rfl _ _ _) rfl ?_
          obtain ⟨s', h1, h2, h3, h4, h5⟩ := HF.out
          exact ⟨rfl, s', h1, h2, h3, by first | exact h4 | (rw [← List.append_assoc]; exact h4), h5⟩
end Go.Proofs.Ytnglejopbpnknaa
namespace Go.Proofs.Ytnglejopbpnknaa
open Go.RowKit
attribute [local go_sem] run_store_float
def Mov2SmpR (w0 : World) (g na ci : Nat) (x u z : List (Value × Value)) (e : Value × Value) (i : Value) (wr : World) : Prop :=
  ∃ p : Nat, ci ≤ p ∧ p ≤ u.length ∧ i = .int .i64 ((na + p : Nat) : Int) ∧ RowAt wr g 51 (x ++ u.take p ++ e :: (u.drop p ++ z)) ∧ w0.grownBy wr (some g)
def Sea2SmpR (w0 : World) (g na : Nat) (lt : Value × Value → Value × Value → Bool) (L u : List (Value × Value)) (e : Value × Value) (i j : Value) (wr : World) : Prop :=
  ∃ ci cj : Nat, i = .int .i64 ((na + ci : Nat) : Int) ∧ j = .int .i64 ((na + cj : Nat) : Int) ∧ Srch2 lt u e ci cj ∧ RowAt wr g 51 L ∧ w0.grownBy wr (some g)
set_option maxRecDepth 100000 in
set_option maxHeartbeats 6400000 in
theorem sym2_smp (w0 w : World) (g n c : Nat) (S : Value × Value → Prop) (lt : Value × Value → Value × Value → Bool) (hr : Rank lt) (hIs : ∀ p, S p → IsSmp p) (hC : CmpSmp w0 g S lt) (x u z : List (Value × Value)) (e : Value × Value) (a m b : Int) (hw : w0.grownBy w (some g))
    (h : RowAt w g 51 (x ++ u ++ e :: z)) (hS : ∀ p ∈ x ++ u ++ e :: z, S p) (hn : n = (x ++ u ++ e :: z).length) (hl : n ≤ 100000) (hu : Asc lt u) (hu1 : u.length ≠ 1) (ha : a = x.length) (hm : m = ((x.length + u.length : Nat) : Int)) (hb : b = ((x.length + u.length + 1 : Nat) : Int)) :
    Calls Try.prog 58 #[.slice (some ⟨g, 0, none⟩) n c, .int .i64 a, .int .i64 m, .int .i64 b, .func (.func 28) #[] #[]] w fun e' w' => e' = .returned (.tuple #[]) ∧ ∃ s', Asc lt s' ∧ Alike lt (u ++ [e]) s' ∧ s'.length = u.length + 1 ∧ RowAt w' g 51 (x ++ s' ++ z) ∧ w0.grownBy w' (some g) := by
  obtain ⟨na, hna⟩ : ∃ n, n = x.length := ⟨_, rfl⟩
  obtain ⟨nu, hnu⟩ : ∃ n, n = u.length := ⟨_, rfl⟩
  obtain ⟨nm, hnm⟩ : ∃ k, k = na + nu := ⟨_, rfl⟩
  obtain ⟨nb, hnb⟩ : ∃ k, k = nm + 1 := ⟨_, rfl⟩
  have hbn : nb ≤ n := by rw [hnb, hnm, hna, hnu, hn]; simp only [List.length_append, List.length_cons]; omega
  rw [← hna] at ha
  rw [← hna, ← hnu, ← hnm] at hm
  rw [← hna, ← hnu, ← hnm, ← hnb] at hb
  subst ha hm hb
  have hd1 : IntKind.i64.wrap ((nm : Int) - (na : Int)) = (nu : Int) := (IntWalk.i64_in _ (by omega)).trans (by omega)
  have hd2 : IntKind.i64.wrap ((nb : Int) - (nm : Int)) = 1 := (IntWalk.i64_in _ (by omega)).trans (by omega)
  have hd3 : ¬ (nu : Int) = 1 := by omega
  have hd4 : ((nu : Int) == 1) = false := beq_eq_false_iff_ne.2 hd3
  obtain ⟨L, hL⟩ : ∃ L, L = x ++ u ++ e :: z := ⟨_, rfl⟩
  rw [← hL] at h hn
  have hsr : Srch2 lt u e 0 nu := by rw [hnu]; exact Srch2.start u e
  have HI := Lib.hid (show Sea2SmpR w0 g na lt L u e (.int .i64 (na : Int)) (.int .i64 (nm : Int)) w from ⟨0, nu, rfl, by rw [hnm], hsr, h, hw⟩)
  have HS := Lib.hid hS
  have HN := Lib.hid hn
  have HNA := Lib.hid hna
  have HNU := Lib.hid hnu
  have HNM := Lib.hid hnm
  have HNB := Lib.hid hnb
  have HL := Lib.hid hL
  have HU := Lib.hid hu
  have HRK := Lib.hid hr
  have HIS := Lib.hid hIs
  have HCM := Lib.hid hC
  have hnm9 : nm < n := by omega
  have hna9 : na ≤ 100000 := by omega
  clear h hS hn hna hnu hnm hnb hr hIs hC hw hL hu hsr hu1
  go_enter Try.func58, Try.ntmps58
  go_wp2_with fail
  clear hd1 hd2 hd3 hd4
  go_loopw [14, 15] (fun i j wr => Sea2SmpR w0 g na lt L u e i j wr) (fun i j _ => (intOf j).toNat - (intOf i).toNat)
  case atStart => exact HI.out
  case round =>
    obtain ⟨ci, cj, rfl, rfl, hsr, hrow, hg⟩ := hrel
    have HR := Lib.hid hrow
    have HG := Lib.hid hg
    have HSR := Lib.hid hsr
    have hjl := hsr.jl
    rw [← HNU.out] at hjl
    obtain ⟨i', hi'⟩ : ∃ i', i' = na + ci := ⟨_, rfl⟩
    obtain ⟨j', hj'⟩ : ∃ j', j' = na + cj := ⟨_, rfl⟩
    rw [← hi', ← hj']
    have hjn : j' ≤ nm := by have := HNM.out; omega
    have HII := Lib.hid hi'
    have HJJ := Lib.hid hj'
    by_cases hlt : i' < j'
    · obtain ⟨hh, hhh⟩ : ∃ hh, hh = (i' + j') / 2 := ⟨_, rfl⟩
      obtain ⟨ch, hch⟩ : ∃ ch, hh = na + ch := ⟨hh - na, by omega⟩
      have s1 : IntKind.i64.wrap ((i' : Int) + (j' : Int)) = (i' : Int) + (j' : Int) := IntWalk.i64_in _ (by omega)
      have s3 : ((i' : Int) + (j' : Int)) / 2 = (hh : Int) := by omega
      have hc1 : ci ≤ ch := by omega
      have hc2 : ch < cj := by omega
      have hcu : ch < u.length := by rw [← HNU.out]; omega
      obtain ⟨q, hq⟩ : ∃ q, u[ch]? = some q := ⟨_, List.getElem?_eq_getElem hcu⟩
      have hLh : L[hh]? = some q := by
        rw [HL.out, List.getElem?_append_left (by rw [List.length_append, ← HNA.out]; omega), List.getElem?_append_right (by rw [← HNA.out]; omega), ← HNA.out, show hh - na = ch by omega]
        exact hq
      have hLa : L[nm]? = some e := by
        have := get_one (x ++ u) z e
        rw [show (x ++ u).length = nm by rw [List.length_append, ← HNA.out, ← HNU.out, HNM.out]] at this
        rw [HL.out]
        exact this
      have hSE : S e := HS.out e (by simp)
      have hSD : S q := HS.out q (by have := List.mem_of_getElem? hq; simp [this])
      have hup := fun hl => hsr.up HRK.out HU.out hc1 hc2 hq hl
      have hdn := fun hl => hsr.down HRK.out HU.out hc1 hc2 hq hl
      obtain ⟨q1, q2⟩ := q
      obtain ⟨f1, f2⟩ := e
      obtain ⟨⟨A3, q3⟩, A4, q4⟩ := HIS.out _ hSD
      dsimp only at q3 q4
      subst q3 q4
      obtain ⟨⟨A1, q1⟩, A2, q2⟩ := HIS.out _ hSE
      dsimp only at q1 q2
      subst q1 q2
      have x1 := hrow.fst hLa
      have x2 := hrow.snd hLa
      have y1 := hrow.fst hLh
      have y2 := hrow.snd hLh
      dsimp only at x1 x2 y1 y2
      have hhn : hh < n := by omega
      have b1 : (nm : Int) < (n : Int) := by omega
      have b2 : (hh : Int) < (n : Int) := by omega
      have b3 : (0 : Int) ≤ (nm : Int) := by omega
      have b4 : (0 : Int) ≤ (hh : Int) := by omega
      have s4 : IntKind.i64.wrap ((hh : Int) + 1) = (hh : Int) + 1 := IntWalk.i64_in _ (by omega)
      have HHH := Lib.hid hhh
      have HCH := Lib.hid hch
      have HLH := Lib.hid hLh
      have HLA := Lib.hid hLa
      have HSE := Lib.hid hSE
      have HSD := Lib.hid hSD
      have HUP := Lib.hid hup
      have HDN := Lib.hid hdn
      clear hrow hg hsr hhh hch hq hLh hLa hSE hSD hup hdn hi' hj' hcu
      cases hlt2 : lt (.int .i64 A1, .float .f64 A2) (.int .i64 A3, .float .f64 A4) with
      | false =>
        have HLT := Lib.hid hlt2
        clear hlt2
        have HC := Lib.hid (show ∀ z, Calls Try.prog 28 #[.agg #[.int .i64 A1, .float .f64 A2], .agg #[.int .i64 A3, .float .f64 A4]] (wr.drewN z) fun e W' => ∃ q : Int, e = .returned (.int .i64 q) ∧ 0 ≤ q ∧ Below wr.heap.size wr W' from fun z => (HCM.out (wr.drewN z) (only_drewN HG.out z) (.int .i64 A1, .float .f64 A2) (.int .i64 A3, .float .f64 A4) HSE.out HSD.out).mono fun e W' ⟨q, h1, h2, h3⟩ => ⟨q, h1, by rw [HLT.out] at h2; simp at h2; omega, (below_drewN (Below.refl _ _) z).trans h3⟩)
        go_upto_region 17 with fail
        go_region_held3 (fun w' => w'.cell? ⟨g, nm * 2, none⟩ = some (.int .i64 A1) ∧ w'.cell? ⟨g, nm * 2 + 1, none⟩ = some (.float .f64 A2) ∧ w'.cell? ⟨g, hh * 2, none⟩ = some (.int .i64 A3) ∧ w'.cell? ⟨g, hh * 2 + 1, none⟩ = some (.float .f64 A4))
          (first | exact ⟨x1, x2, y1, y2⟩ | exact ⟨v1, v2, v3, v4⟩)
          (first | (go_at_call 28; refine (HC.out 1).mono ?_; rintro e w4 ⟨q, rfl, hq, hb4⟩; have hq2 : decide (q < 0) = false := by { first | exact decide_eq_false (by omega) | exact decide_eq_true hq }; have hq3 : decide (0 ≤ q) = true := by { first | exact decide_eq_false (by omega) | exact decide_eq_true hq }; have hr4 := HR.out.below hb4; have v1 := hr4.fst HLA.out; have v2 := hr4.snd HLA.out; have v3 := hr4.fst HLH.out; have v4 := hr4.snd HLH.out; dsimp only at v1 v2 v3 v4; have HR4 := Lib.hid hr4; have HB4 := Lib.hid hb4; clear hr4 hb4))
        clear x1 x2 y1 y2 v1 v2 v3 v4
        go_wp2
        have h8 := HCH.out
        have h9 := HHH.out
        refine ⟨⟨ch + 1, cj, by rw [show ((na + (ch + 1) : Nat) : Int) = (hh : Int) + 1 by omega], by rw [HJJ.out], HUP.out HLT.out, HR4.out, only_trans HG.out (only_of_below HB4.out _)⟩, by simp [intOf]; omega⟩
      | true =>
        have HLT := Lib.hid hlt2
        clear hlt2
        have HC := Lib.hid (show ∀ z, Calls Try.prog 28 #[.agg #[.int .i64 A1, .float .f64 A2], .agg #[.int .i64 A3, .float .f64 A4]] (wr.drewN z) fun e W' => ∃ q : Int, e = .returned (.int .i64 q) ∧ q < 0 ∧ Below wr.heap.size wr W' from fun z => (HCM.out (wr.drewN z) (only_drewN HG.out z) (.int .i64 A1, .float .f64 A2) (.int .i64 A3, .float .f64 A4) HSE.out HSD.out).mono fun e W' ⟨q, h1, h2, h3⟩ => ⟨q, h1, by rw [HLT.out] at h2; simp at h2; omega, (below_drewN (Below.refl _ _) z).trans h3⟩)
        go_upto_region 17 with fail
        go_region_held3 (fun w' => w'.cell? ⟨g, nm * 2, none⟩ = some (.int .i64 A1) ∧ w'.cell? ⟨g, nm * 2 + 1, none⟩ = some (.float .f64 A2) ∧ w'.cell? ⟨g, hh * 2, none⟩ = some (.int .i64 A3) ∧ w'.cell? ⟨g, hh * 2 + 1, none⟩ = some (.float .f64 A4))
          (first | exact ⟨x1, x2, y1, y2⟩ | exact ⟨v1, v2, v3, v4⟩)
          (first | (go_at_call 28; refine (HC.out 1).mono ?_; rintro e w4 ⟨q, rfl, hq, hb4⟩; have hq2 : decide (q < 0) = true := by { first | exact decide_eq_false (by omega) | exact decide_eq_true hq }; have hq3 : decide (0 ≤ q) = false := by { first | exact decide_eq_false (by omega) | exact decide_eq_true hq }; have hr4 := HR.out.below hb4; have v1 := hr4.fst HLA.out; have v2 := hr4.snd HLA.out; have v3 := hr4.fst HLH.out; have v4 := hr4.snd HLH.out; dsimp only at v1 v2 v3 v4; have HR4 := Lib.hid hr4; have HB4 := Lib.hid hb4; clear hr4 hb4))
        clear x1 x2 y1 y2 v1 v2 v3 v4
        go_wp2
        have h8 := HCH.out
        have h9 := HHH.out
        refine ⟨⟨ci, ch, by rw [HII.out], by rw [HCH.out], HDN.out HLT.out, HR4.out, only_trans HG.out (only_of_below HB4.out _)⟩, by simp [intOf]; omega⟩
    · have hij : ci = cj := by have := hsr.ij; omega
      subst hij
      have hdone := hsr.done HRK.out HU.out
      have HD := Lib.hid hdone
      have hge : ¬ (i' : Int) < (j' : Int) := by omega
      have hcv : ci ≤ nu := hjl
      have HI2 := Lib.hid (show Mov2SmpR w0 g na ci x u z e (.int .i64 (nm : Int)) wr from ⟨nu, hcv, by rw [HNU.out]; exact Nat.le_refl _, by rw [HNM.out], by rw [HNU.out, List.take_length, List.drop_length, List.nil_append, ← HL.out]; exact HR.out, HG.out⟩)
      clear hrow hg hsr hdone hi' hj' hlt
      go_wp2_with fail
      go_loopw [17] (fun i wr => Mov2SmpR w0 g na ci x u z e i wr) (fun i _ => (intOf i).toNat)
      case atStart => exact HI2.out
      case round =>
        obtain ⟨p, hcp, hpl, rfl, hrow, hg⟩ := hrel
        rw [← HNU.out] at hpl
        obtain ⟨kk, hkk⟩ : ∃ kk, kk = na + p := ⟨_, rfl⟩
        rw [← hkk]
        have HR5 := Lib.hid hrow
        have HG5 := Lib.hid hg
        have HKK := Lib.hid hkk
        by_cases hlt : i' < kk
        · have hpp : ci < p := by have := HII.out; omega
          obtain ⟨l, rfl⟩ : ∃ l, p = l + 1 := ⟨p - 1, by omega⟩
          have hlv : l < u.length := by rw [← HNU.out]; omega
          obtain ⟨q, hq⟩ : ∃ q, q = u[l] := ⟨_, rfl⟩
          have htk : u.take (l + 1) = u.take l ++ [q] := by rw [List.take_succ_eq_append_getElem hlv, hq]
          have hdr : u.drop l = q :: u.drop (l + 1) := by rw [List.drop_eq_getElem_cons hlv, hq]
          obtain ⟨kd, hkd⟩ : ∃ kd, kd = na + l := ⟨_, rfl⟩
          have hXl : (x ++ u.take l).length = kd := by rw [List.length_append, List.length_take, ← HNA.out, hkd, Nat.min_eq_left (by omega)]
          have e6 : x ++ u.take (l + 1) ++ e :: (u.drop (l + 1) ++ z) = (x ++ u.take l) ++ q :: [] ++ e :: (u.drop (l + 1) ++ z) := by rw [htk]; simp
          have e7 : x ++ u.take l ++ e :: (u.drop l ++ z) = (x ++ u.take l) ++ e :: [] ++ q :: (u.drop (l + 1) ++ z) := by rw [hdr]; simp
          have k1 := set_two (x ++ u.take l) [] (u.drop (l + 1) ++ z) q e
          rw [hXl, show kd + 1 + ([] : List (Value × Value)).length = kk by rw [hkd, hkk]; rfl, ← e7, ← e6, List.set_comm _ _ (by omega)] at k1
          have hPA : (x ++ u.take (l + 1) ++ e :: (u.drop (l + 1) ++ z))[kk]? = some e := by
            have := get_one (x ++ u.take (l + 1)) (u.drop (l + 1) ++ z) e
            rwa [show (x ++ u.take (l + 1)).length = kk by rw [List.length_append, List.length_take, ← HNA.out, hkk, Nat.min_eq_left (by omega)]] at this
          have hPB : (x ++ u.take (l + 1) ++ e :: (u.drop (l + 1) ++ z))[kd]? = some q := by
            have := get_one (x ++ u.take l) ([] ++ e :: (u.drop (l + 1) ++ z)) q
            rw [hXl] at this
            rw [e6, List.append_assoc]
            exact this
          have hln : (x ++ u.take (l + 1) ++ e :: (u.drop (l + 1) ++ z)).length = n := by
            rw [HN.out, HL.out]
            simp only [List.length_append, List.length_cons, List.length_take, List.length_drop]
            omega
          have hSE : S e := HS.out e (by simp)
          have hSD : S q := HS.out q (by rw [hq]; simp [List.getElem_mem])
          have K1 := Lib.hid k1
          have HLN := Lib.hid hln
          have hkl : kd < kk := by omega
          have s6 : IntKind.i64.wrap ((kk : Int) - 1) = (kd : Int) := (IntWalk.i64_in _ (by have := HNM.out; omega)).trans (by omega)
          have hkn : kk < n := by have := HNM.out; omega
          have HKD := Lib.hid hkd
          clear hkk hq htk hdr hXl e6 e7 k1 hln hkd
          obtain ⟨q1, q2⟩ := q
          obtain ⟨f1, f2⟩ := e
          obtain ⟨⟨A3, q3⟩, A4, q4⟩ := HIS.out _ hSD
          dsimp only at q3 q4
          subst q3 q4
          obtain ⟨⟨A1, q1⟩, A2, q2⟩ := HIS.out _ hSE
          dsimp only at q1 q2
          subst q1 q2
          have x1 := hrow.fst hPA
          have x2 := hrow.snd hPA
          have y1 := hrow.fst hPB
          have y2 := hrow.snd hPB
          dsimp only at x1 x2 y1 y2
          have z1 := hrow.frozen (kk * 2)
          have z2 := hrow.frozen (kk * 2 + 1)
          have z3 := hrow.frozen (kd * 2)
          have z4 := hrow.frozen (kd * 2 + 1)
          clear hrow hg hPA hPB hSE hSD hge
          go_upto_region 23 with fail
          go_region
          clear x1 x2 y1 y2 z1 z2 z3 z4
          go_wp2
          refine ⟨⟨l, by omega, by rw [← HNU.out]; omega, by rw [HKD.out], ?_, only_drew (only_setCell (only_setCell (only_setCell (only_setCell HG5.out (.inl rfl) _) (.inl rfl) _) (.inl rfl) _) (.inl rfl) _)⟩, by simp [intOf]; omega⟩
          have h9 := (HR5.out.set_ kk (.int .i64 A3, .float .f64 A4) (by rw [HLN.out]; exact hkn)).set_ kd (.int .i64 A1, .float .f64 A2) (by rw [List.length_set, HLN.out]; omega)
          rw [K1.out] at h9
          exact h9
        · have hll : p = ci := by have := HII.out; omega
          subst hll
          have HF := Lib.hid (show ∃ s', Asc lt s' ∧ Alike lt (u ++ [e]) s' ∧ s'.length = u.length + 1 ∧ RowAt wr g 51 (x ++ s' ++ z) ∧ w0.grownBy wr (some g) from ⟨u.take p ++ e :: u.drop p, HD.out.1, HD.out.2, by
              simp only [List.length_append, List.length_cons, List.length_take, List.length_drop]
              rw [← HNU.out]
              omega, by have := HR5.out; simpa using this, HG5.out⟩)
          clear hrow hg hkk hge
          go_wp2
          (try simp only [Exit.inBlock, Exit.then])
          refine bodyPost_ret (results_none rfl _ _ _) rfl ?_
          obtain ⟨s', h1, h2, h3, h4, h5⟩ := HF.out
          exact ⟨rfl, s', h1, h2, h3, by first | exact h4 | (rw [← List.append_assoc]; exact h4), h5⟩
end Go.Proofs.Ytnglejopbpnknaa
namespace Go.Proofs.Ytnglejopbpnknaa
open Go.RowKit
def FinSmp (w0 : World) (g : Nat) (lt : Value × Value → Value × Value → Bool) (x u v z : List (Value × Value)) (w' : World) : Prop :=
  ∃ s', Asc lt s' ∧ Alike lt (u ++ v) s' ∧ s'.length = u.length + v.length ∧ RowAt w' g 51 (x ++ s' ++ z) ∧ w0.grownBy w' (some g)
def SymSmpPost (w0 : World) (g : Nat) (lt : Value × Value → Value × Value → Bool) (x u v z : List (Value × Value)) (e' : Ending) (w' : World) : Prop :=
  e' = .returned (.tuple #[]) ∧ FinSmp w0 g lt x u v z w'
/-- the merge of rows shorter than N together -/
def SymSmpLaw (w0 : World) (g n c : Nat) (S : Value × Value → Prop) (lt : Value × Value → Value × Value → Bool) (N : Nat) : Prop :=
  ∀ (w : World) (x u v z : List (Value × Value)) (a m b : Int), u.length + v.length < N → 0 < u.length → 0 < v.length → w0.grownBy w (some g) → RowAt w g 51 (x ++ u ++ v ++ z) → (∀ p ∈ x ++ u ++ v ++ z, S p) → n = (x ++ u ++ v ++ z).length → Asc lt u → Asc lt v →
    a = x.length → m = ((x.length + u.length : Nat) : Int) → b = ((x.length + u.length + v.length : Nat) : Int) →
    Calls Try.prog 58 #[.slice (some ⟨g, 0, none⟩) n c, .int .i64 a, .int .i64 m, .int .i64 b, .func (.func 28) #[] #[]] w (SymSmpPost w0 g lt x u v z)
section
variable {w0 : World} {g n c : Nat} {S : Value × Value → Prop} {lt : Value × Value → Value × Value → Bool} {x u v u1 u2 v1 v2 z : List (Value × Value)} {na nm nb mid st en : Nat}
theorem step1_smp (hIs : ∀ p, S p → IsSmp p) (hp : Parts3 lt x u v u1 u2 v1 v2 na nm nb mid st en) (hS : ∀ p ∈ x ++ u ++ v ++ z, S p) (hn : n = (x ++ u ++ v ++ z).length) (hl : n ≤ 100000) {W : World} (h : RowAt W g 51 (x ++ u ++ v ++ z)) (hg : w0.grownBy W (some g)) (hc : st < nm ∧ nm < en) :
    Calls Try.prog 73 #[.slice (some ⟨g, 0, none⟩) n c, .int .i64 (st : Int), .int .i64 (nm : Int), .int .i64 (en : Int), .func (.func 28) #[] #[]] W fun e W' => e = .returned (.tuple #[]) ∧ Aft1 w0 g 51 x u1 v1 u2 v2 z W' := by
  have h0 := hp.l0
  have h1 := hp.l1
  have h2 := hp.l2
  have h3 := hp.l3
  rw [hp.row0] at h hS hn
  refine (rot_smp W g n c (x ++ u1) u2 v1 (v2 ++ z) _ _ _ _ h (fun p q => hIs p (hS p q)) hn hl (by omega) (by omega) (by rw [List.length_append]; omega) (by simp only [List.length_append]; omega) (by simp only [List.length_append]; omega)).mono ?_
  rintro e W' ⟨rfl, k1, k2⟩
  exact ⟨rfl, by rwa [Parts3.row1] at k1, only_trans hg k2⟩
theorem step2_smp (hr : Rank lt) {N : Nat} (hIH : SymSmpLaw w0 g n c S lt N) (hp : Parts3 lt x u v u1 u2 v1 v2 na nm nb mid st en) (hN : nb - na = N) (hmb : mid < nb) (hu : Asc lt u) (hv : Asc lt v) (hS : ∀ p ∈ x ++ u ++ v ++ z, S p) (hn : n = (x ++ u ++ v ++ z).length) {W : World} (h : Aft1 w0 g 51 x u1 v1 u2 v2 z W) (hc : na < st ∧ st < mid) :
    Calls Try.prog 58 #[.slice (some ⟨g, 0, none⟩) n c, .int .i64 (na : Int), .int .i64 (st : Int), .int .i64 (mid : Int), .func (.func 28) #[] #[]] W fun e W' => e = .returned (.tuple #[]) ∧ Aft2 w0 g 51 lt x u1 v1 u2 v2 z W' := by
  have h0 := hp.l0
  have h1 := hp.l1
  have h2 := hp.l2
  have h3 := hp.l3
  have h4 := hp.l4
  have h5 := hp.l5
  rw [hp.ue] at hu hS hn
  rw [hp.ve] at hv hS hn
  refine (hIH W x u1 v1 (u2 ++ v2 ++ z) _ _ _ (by omega) (by omega) (by omega) h.2 h.1 (fun p q => hS p ?_) ?_ (asc_app.1 hu).1 (asc_app.1 hv).1 (by omega) (by omega) (by omega)).mono ?_
  · simp only [List.mem_append] at q ⊢
    rcases q with ((q | q) | q) | (q | q) | q <;> simp [q]
  · rw [hn]; simp only [List.length_append]; omega
  rintro e W' ⟨rfl, s', k1, k2, k3, k4, k5⟩
  refine ⟨rfl, s', k1, k2, k3, ?_, k5⟩
  rw [show x ++ s' ++ u2 ++ v2 ++ z = x ++ s' ++ (u2 ++ v2 ++ z) by simp]
  exact k4
theorem skip2_smp (hp : Parts3 lt x u v u1 u2 v1 v2 na nm nb mid st en) (hu : Asc lt u) (hv : Asc lt v) {W : World} (h : Aft1 w0 g 51 x u1 v1 u2 v2 z W) (hc : ¬ (na < st ∧ st < mid)) : Aft2 w0 g 51 lt x u1 v1 u2 v2 z W :=
  ⟨u1 ++ v1, hp.skip2 hu hv hc, Alike.refl _, by simp, by have := h.1; simpa using this, h.2⟩
theorem step3_smp (hr : Rank lt) {N : Nat} (hIH : SymSmpLaw w0 g n c S lt N) (hp : Parts3 lt x u v u1 u2 v1 v2 na nm nb mid st en) (hN : nb - na = N) (hma : na < mid) (hu : Asc lt u) (hv : Asc lt v) (hS : ∀ p ∈ x ++ u ++ v ++ z, S p) (hn : n = (x ++ u ++ v ++ z).length) {W : World} (h : Aft2 w0 g 51 lt x u1 v1 u2 v2 z W) (hc : mid < en ∧ en < nb) :
    Calls Try.prog 58 #[.slice (some ⟨g, 0, none⟩) n c, .int .i64 (mid : Int), .int .i64 (en : Int), .int .i64 (nb : Int), .func (.func 28) #[] #[]] W fun e W' => e = .returned (.tuple #[]) ∧ FinSmp w0 g lt x u v z W' := by
  have h0 := hp.l0
  have h1 := hp.l1
  have h2 := hp.l2
  have h3 := hp.l3
  have h4 := hp.l4
  have h5 := hp.l5
  obtain ⟨w1, k1, k2, k3, k4, k5⟩ := h
  have hu' := hu
  have hv' := hv
  rw [hp.ue] at hu' hS hn
  rw [hp.ve] at hv' hS hn
  refine (hIH W (x ++ w1) u2 v2 z _ _ _ (by omega) (by omega) (by omega) k5 k4 (fun p q => hS p ?_) ?_ (asc_app.1 hu').2.1 (asc_app.1 hv').2.1 (by rw [List.length_append]; omega) (by rw [List.length_append]; omega) (by rw [List.length_append]; omega)).mono ?_
  · simp only [List.mem_append] at q ⊢
    rcases q with (((q | q) | q) | q) | q
    · simp [q]
    · rcases List.mem_append.1 (k2.symm.mem hr q) with q | q <;> simp [q]
    · simp [q]
    · simp [q]
    · simp [q]
  · rw [hn]; simp only [List.length_append]; omega
  rintro e W' ⟨rfl, s', j1, j2, j3, j4, j5⟩
  obtain ⟨m1, m2⟩ := hp.join hr hu hv k1 j1 k2 j2
  refine ⟨rfl, w1 ++ s', m1, m2, ?_, ?_, j5⟩
  · rw [hp.ue, hp.ve]; simp only [List.length_append]; omega
  · rw [show x ++ (w1 ++ s') ++ z = x ++ w1 ++ s' ++ z by simp]
    exact j4
theorem skip3_smp (hr : Rank lt) (hp : Parts3 lt x u v u1 u2 v1 v2 na nm nb mid st en) (hu : Asc lt u) (hv : Asc lt v) {W : World} (h : Aft2 w0 g 51 lt x u1 v1 u2 v2 z W) (hc : ¬ (mid < en ∧ en < nb)) : FinSmp w0 g lt x u v z W := by
  obtain ⟨w1, k1, k2, k3, k4, k5⟩ := h
  obtain ⟨m1, m2⟩ := hp.join hr hu hv k1 (hp.skip3 hu hv hc) k2 (Alike.refl _)
  refine ⟨w1 ++ (u2 ++ v2), m1, m2, ?_, ?_, k5⟩
  · rw [hp.ue, hp.ve]; simp only [List.length_append]; omega
  · rw [show x ++ (w1 ++ (u2 ++ v2)) ++ z = x ++ w1 ++ u2 ++ v2 ++ z by simp]
    exact k4
end
end Go.Proofs.Ytnglejopbpnknaa
