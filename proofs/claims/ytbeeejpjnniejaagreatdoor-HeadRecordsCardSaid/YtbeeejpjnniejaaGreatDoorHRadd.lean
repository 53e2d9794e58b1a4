/- The document's head: add (116). -/
import Derived.Test.YtbeeejpjnniejaaGreatDoorHRaddE
import Derived.Deep.RegionHeldLaw
namespace Go.Proofs.YtbeeejpjnniejaaGreatDoor
open Go.RowKit Go.Shelf Go.Maps
attribute [-go_sem] Builtin.append_
attribute [local go_sem] tobits_call run_store_float
theorem reads_blk3 {w : World} {b : Nat} {t : TypeId} {x y z : Value} (h : Blk w b t #[x, y, z]) : Reads w w.heap.size 3 (some ⟨b, 0, none⟩) 1 [x, y, z] :=
  Reads.of_own (c := 1) (base := 0) (e := t) ⟨rfl, .inr ⟨b, 1, #[x, y, z], rfl, Nat.zero_le _, h, Nat.le_refl _, by simp [maxLen], rfl, rfl⟩⟩
theorem below_own {B : Nat} {wc w w' : World} {e : TypeId} {z n : Nat} {v : Value} {xs : List Value} (hb : Below B wc w) (ho : w.ownsRow B e z v n xs) (hg : w.grownBy w' v.ownBlock) (hB : B ≤ w.heap.size := by omega) : Below B wc w' :=
  Below.grown hb hg hB fun j hj => (ho.lt j hj).1
theorem below_frozen {w w' : World} {a : Addr} (hb : Below w.heap.size w w') (h : a.block < w.heap.size) : w'.frozen? a = w.frozen? a := by
  unfold World.frozen?
  rw [hb.block _ h]
structure LawA (wc : World) (xs : List Value) (AS : Option Addr) (k : Nat) (W : World) (b : Nat) : Prop where
  bel : Below wc.heap.size wc W
  own : W.ownsRow wc.heap.size 155 3 (.slice (some ⟨b, 0, none⟩) 0 0) 0 []
  rd : Reads W wc.heap.size 3 AS k xs
  lo : wc.heap.size ≤ b
theorem LawA.grow {wc : World} {xs : List Value} {AS : Option Addr} {k : Nat} {W w6 : World} {b : Nat} (h : LawA wc xs AS k W b) (hg : W.grownBy w6 (Value.slice (some ⟨b, 0, none⟩) 0 0).ownBlock) : Below wc.heap.size wc w6 := Below.grown h.bel hg h.bel.size fun j hj => by cases hj; exact h.lo
theorem own_lower3 {w : World} {b b2 : Nat} {e : TypeId} {z n : Nat} {v : Value} {xs : List Value} (h : w.ownsRow b e z v n xs) (hb : b2 ≤ b) : w.ownsRow b2 e z v n xs := by
  obtain ⟨h1, h2 | ⟨g, cap, cur, hv, hg, r⟩⟩ := h
  · exact ⟨h1, .inl h2⟩
  · exact ⟨h1, .inr ⟨g, cap, cur, hv, Nat.le_trans hb hg, r⟩⟩
theorem flatV_insert (vs : List VV) (i : Nat) (a b : Value) (hi : i ≤ vs.length) : (flatV vs).take (i * 2) ++ [a, b] ++ (flatV vs).drop (i * 2) = flatV (vs.take i ++ (a, b) :: vs.drop i) := by
  have e1 : flatV vs = flatV (vs.take i) ++ flatV (vs.drop i) := by
    unfold flatV
    rw [← flat2_append, List.take_append_drop]
  have e2 : (flatV (vs.take i)).length = i * 2 := by
    unfold flatV
    rw [flat2_len, List.length_take]
    omega
  rw [e1, List.take_left' e2, List.drop_left' e2]
  unfold flatV
  rw [flat2_append, List.append_assoc]
  rfl
theorem own_ne_blk {w : World} {b b2 : Nat} {e e2 : TypeId} {z z2 n n2 : Nat} {v v2 : Value} {xs xs2 : List Value} (h : w.ownsRow b e z v n xs) (h2 : w.ownsRow b2 e2 z2 v2 n2 xs2) (hne : e ≠ e2) (k : Nat) (hk : v.ownBlock = some k) : v2.ownBlock ≠ some k := fun h3 => by
  rcases own_ne2 h h2 hne with h4 | h4
  · rw [h4] at hk; cases hk
  · exact h4 (hk.trans h3.symm)
theorem ownsRow_grown_other {w w' : World} {b : Nat} {e : TypeId} {z n : Nat} {v : Value} {xs : List Value} {row : Option Nat} (h : w.ownsRow b e z v n xs) (hg : w.grownBy w' row) (hne : ∀ k, v.ownBlock = some k → row ≠ some k) : w'.ownsRow b e z v n xs :=
  own_blk h fun j hj => hg.block j (h.lt j hj).2 fun e => hne j hj e.symm
theorem info153 : (Tryz.prog.info? 153).map (fun i => (i.zero, i.size, i.bytes)) = some (some (.agg #[.slice none 0 0, .slice none 0 0]), 2, 48) := by kernel_rfl
theorem Reads.take2 {w : World} {B size n : Nat} {A : Option Addr} {xs : List Value} (h : Reads w B size A n xs) {k : Nat} (hk : k ≤ n) : Reads w B size A k (xs.take (k * size)) := by
  refine ⟨by rw [List.length_take, h.1]; exact Nat.min_eq_left (Nat.mul_le_mul_right _ hk), fun hn => ?_⟩
  obtain ⟨ad, e, hb, hc⟩ := h.2 (by omega)
  refine ⟨ad, e, hb, fun j u hu => hc j u ?_⟩
  obtain ⟨h1, h2⟩ := List.getElem?_eq_some_iff.1 hu
  rw [List.length_take] at h1
  rw [List.getElem_take] at h2
  exact List.getElem?_eq_some_iff.2 ⟨by omega, h2⟩
theorem RAt.one {w : World} {F : Nat → Prop} {p : Nat} {H : Hd} {vL : Value} {vs : List VV} (h : RAt w F p H vL vs) : ∀ u ∈ flatV vs, u.oneCell' = true := by
  intro u hu
  obtain ⟨x, hx, hu⟩ := List.mem_flatMap.1 hu
  obtain ⟨j, hj⟩ := List.mem_iff_getElem?.1 hx
  have hlt := (List.getElem?_eq_some_iff.1 hj).1
  have hea := h.each j x _ hj (List.getElem?_eq_getElem (by have := h.len; omega))
  obtain ⟨A1, c1, e1⟩ := own_slice hea.1.1
  obtain ⟨A2, c2, e2⟩ := own_slice hea.2.1
  simp only [List.mem_cons, List.not_mem_nil, or_false] at hu
  rcases hu with rfl | rfl
  · rw [e1]; rfl
  · rw [e2]; rfl
theorem own_cap {w : World} {b : Nat} {e : TypeId} {z n c : Nat} {A : Option Addr} {xs : List Value} (h : w.ownsRow b e z (.slice A n c) n xs) : n ≤ c := by
  obtain ⟨h1, ⟨h2, h3⟩ | ⟨g, cap, cur, hv, hb, hh, h4, r⟩⟩ := h
  · omega
  · injection hv with _ _ hc
    omega
theorem info155 : (Tryz.prog.info? 155).map (fun i => (i.zero, i.size, i.bytes)) = some (some (.agg #[.int .i64 0, .float .f64 0, .bool false]), 3, 24) := by kernel_rfl
set_option maxRecDepth 100000 in
set_option maxHeartbeats 6400000 in
theorem radd_any (w : World) (F : Nat → Prop) (p n B : Nat) (H : Hd) (A : Option Addr) (c : Nat) (pl : List Lbl) (pt : Int) (pb : Nat) (h : RHd w F p n H) (hn : n ≤ 100000) (hv : LabsAt w B (.slice A pl.length c) pl) (hB : B ≤ w.heap.size) (hl : pl.length ≤ 100000)
    (hF : ∀ k, F k → k < w.heap.size) (hcd : H.code (pl, pt, pb) = 0) :
    Calls Tryz.prog 116 #[.pointer (some ⟨p, 0, none⟩), .slice A pl.length c, .int .i64 pt, .float .f64 pb] w fun e w' => e = .returned (.tuple #[]) ∧ RHd w' (Grs F w w') p (n + 1) (H.add (pl, pt, pb)) ∧ Chg F w w' := by
  have HA := Lib.hid (rat_any w F p n B H (.slice A pl.length c) pl h hn hv hl)
  obtain ⟨m, hm⟩ : ∃ m, m = pl.length := ⟨_, rfl⟩
  rw [← hm] at HA ⊢
  obtain ⟨i, hi⟩ : ∃ i, i = (atP pl H.ss).1 := ⟨_, rfl⟩
  obtain ⟨f, hf⟩ : ∃ f, f = (atP pl H.ss).2 := ⟨_, rfl⟩
  rw [← hi, ← hf] at HA
  have HI := Lib.hid hi
  have HF := Lib.hid hf
  have HM := Lib.hid hm
  have HH := Lib.hid h
  have HV := Lib.hid hv
  have HB := Lib.hid hB
  have HFF := Lib.hid hF
  have HCD := Lib.hid hcd
  have HOK := Lib.hid h.1
  have HLN := Lib.hid h.2.1
  have HLP := Lib.hid hl
  have HLS := Lib.hid h.2.2.1
  clear h hv hB hF hcd hm hi hf hl
  go_enter Tryz.func116, Tryz.ntmps116
  go_wp2_with fail
  refine HA.out.mono ?_
  rintro e w2 ⟨rfl, q, rfl⟩
  go_upto_if 18 with fail
  go_cut [] from 10 to 44 (fun wx => MidA w F p n i H pl wx)
  case first =>
    cases f with
    | true =>
      have HMD := Lib.hid (show MidA w F p n i H pl (w.drewN q) from by
        obtain ⟨hok, hn1, hn2, vL, vs, hr⟩ := HH.out
        obtain ⟨s, hs, hsl, -, hset⟩ := atP_found pl (0, 0, false) HF.out.symm
        rw [← HI.out] at hs hset
        subst hsl
        refine ⟨H, vL, vs, s.2, hr.keep (fun _ _ _ => rfl) (fun k hk hlt => ⟨.inl hk, hlt⟩), rfl, rfl, hs, hn2 s (List.mem_of_getElem? hs), by omega, fun x => ?_, (Chg.refl _ _).drewN q⟩
        obtain ⟨s', hs', -, -, hset'⟩ := atP_found s.1 x HF.out.symm
        rw [← HI.out] at hs' hset'
        rw [hs] at hs'
        injection hs' with hs'
        subst hs'
        exact hset')
      go_wp2
      go_meet
      exact HMD.out
    | false =>
      obtain ⟨hok, hn1, hn2, vL, vs, hr⟩ := HH.out
      have hiN : i ≤ H.ss.length := by rw [HI.out]; exact atP_le pl H.ss
      have hrow := hr.row
      have hblk := hr.blk
      obtain ⟨AL, cL, rfl⟩ := own_slice hrow
      obtain ⟨N, hN⟩ : ∃ N, N = H.ss.length := ⟨_, rfl⟩
      rw [← hN] at hrow hiN hn1 hblk
      have y1 : w.cell? ⟨p, 1, none⟩ = some (.slice AL N cL) := hblk.cell 1
      have hz1 : w.frozen? ⟨p, 1, none⟩ = false := hblk.frozen 1
      have hcap : N ≤ cL := own_cap hrow
      have j0 : (0 : Int) ≤ (i : Int) := by omega
      have j1 : (i : Int) ≤ (N : Int) := by omega
      have j2 : (i : Int) ≤ (cL : Int) := by omega
      have j3 : (N : Int) ≤ (cL : Int) := by omega
      have HRD := Lib.hid (show Reads w w.heap.size 2 AL N (flatV vs) from Reads.of_own hrow)
      have HR := Lib.hid hr
      have HN := Lib.hid hN
      clear hok hn1 hn2 hr hrow hblk hN
      obtain ⟨i3, hi3, hz30, hz31, hz32⟩ := info_parts info153
      have HI3 := Lib.hid hi3
      have HZ30 := Lib.hid hz30
      have HZ31 := Lib.hid hz31
      have HZ32 := Lib.hid hz32
      have HON := Lib.hid (RAt.one HR.out)
      obtain ⟨wq, hwq⟩ : ∃ wq, wq = w.drewN q := ⟨_, rfl⟩
      rw [← hwq]
      have HZQ := Lib.hid (show wq.frozen? ⟨p, 1, none⟩ = false by rw [hwq]; exact hz1)
      have HQS := Lib.hid (show wq.heap.size = w.heap.size by rw [hwq]; rfl)
      have HBQ := Lib.hid (show Below w.heap.size w wq by rw [hwq]; exact below_drewN (Below.refl _ w) q)
      have y1q : wq.cell? ⟨p, 1, none⟩ = some (.slice AL N cL) := by rw [hwq]; exact y1
      have hpq : p < wq.heap.size := World.block_lt_of_cell? wq ⟨p, 1, none⟩ y1q
      have y1a := (World.cell?_alloc_lt wq (.cells #[] 153) ⟨p, 1, none⟩ hpq).trans y1q
      have HRQ := Lib.hid (show Reads wq wq.heap.size 2 AL N (flatV vs) by rw [hwq]; exact HRD.out.drewN q)
      clear hwq hi3 hz30 hz31 hz32 y1 hz1 HRD
      have hN1 : N ≤ 100000 := by have := HLN.out; have := HN.out; omega
      go_upto_region 3 with (at_builtin; go_loud (refine wpList_append_any _ rfl (.tmp 19) (.tmp 25) 142 rfl wq.heap.size 153 i3 (.agg #[.slice none 0 0, .slice none 0 0]) 2 48 Tryz.underlying142 HI3.out HZ30.out HZ31.out HZ32.out rfl (by omega) (.slice (some ⟨wq.heap.size, 0, none⟩) 0 0) 0 [] rfl (World.ownsRow_lit wq #[] 0 (Nat.le_refl _) (by simp [maxLen]) rfl) wq.heap.size AL i cL ((flatV vs).take (i * 2)) rfl ((HRQ.out.take2 hiN).alloc (Nat.le_refl _) _) (fun u hu => HON.out u (List.mem_of_mem_take hu)) (by simp [maxLen]; omega) (by omega) (by simp) ?_; intro v3 w3 hown3 hgrow3 hor3; clear hor3; rw [Nat.zero_add, List.nil_append] at hown3; obtain ⟨A3, c3, hv3⟩ := own_slice hown3; subst hv3; have hb3 : Below wq.heap.size wq w3 := Below.grown ((Below.refl _ wq).alloc (Nat.le_refl _) _) hgrow3 (by simp) (fun j hj => by cases hj; exact Nat.le_refl _); have HB3 := Lib.hid hb3; have HO3 := Lib.hid hown3; clear hown3 hgrow3 hb3))
      have hbw3 : Below w.heap.size w w3 := HBQ.out.trans (HB3.out.mono HBQ.out.size)
      have HL3 := Lib.hid (show Reads w3 B 2 A m (flatL pl) by
        obtain ⟨A', c', e, hr'⟩ := HV.out
        injection e with e1 e2 e3
        rw [e1, HM.out]
        exact hr'.below (hbw3.mono HB.out))
      have HS3 := Lib.hid (show B ≤ w3.heap.size from Nat.le_trans HB.out hbw3.size)
      have HBW3 := Lib.hid hbw3
      obtain ⟨i5, hi5, hz50, hz51, hz52⟩ := info_parts info55
      have HI5 := Lib.hid hi5
      have HZ50 := Lib.hid hz50
      have HZ51 := Lib.hid hz51
      have HZ52 := Lib.hid hz52
      have hm1 : m ≤ 100000 := by have := HM.out; have := HLP.out; omega
      have hi1 : i ≤ 100000 := by omega
      clear hi5 hz50 hz51 hz52 hbw3 y1a
      go_upto_region 4 with (at_builtin; go_loud (first
        | (refine wpList_append_any _ rfl (.tmp 28) (.tmp 29) 37 rfl w3.heap.size 55 i5 (.agg #[.string ⟨#[]⟩, .string ⟨#[]⟩]) 2 32 Tryz.underlying37 HI5.out HZ50.out HZ51.out HZ52.out rfl (by omega) (.slice (some ⟨w3.heap.size, 0, none⟩) 0 0) 0 [] rfl (World.ownsRow_lit w3 #[] 0 (Nat.le_refl _) (by simp [maxLen]) rfl) B A m c (flatL pl) rfl (HL3.out.alloc HS3.out _) (flatL_one1 _) (by simp [maxLen]; omega) (by omega) (by simp) ?_; intro v4 w4 hown4 hgrow4 hor4; clear hor4; rw [Nat.zero_add, List.nil_append] at hown4; obtain ⟨A4, c4, hv4⟩ := own_slice hown4; subst hv4; have hb4 : Below w3.heap.size w3 w4 := Below.grown ((Below.refl _ w3).alloc (Nat.le_refl _) _) hgrow4 (by simp) (fun j hj => by cases hj; exact Nat.le_refl _); have HB4 := Lib.hid hb4; have HO4 := Lib.hid hown4; have HO34 := Lib.hid (own_blk HO3.out fun j hj => hb4.block j (HO3.out.lt j hj).2); clear hown4 hgrow4 hb4)
        | (refine wpList_append_any _ rfl (.tmp 27) (.tmp 32) 142 rfl wq.heap.size 153 i3 (.agg #[.slice none 0 0, .slice none 0 0]) 2 48 Tryz.underlying142 HI3.out HZ30.out HZ31.out HZ32.out rfl (by omega) (.slice A3 i c3) i ((flatV vs).take (i * 2)) rfl (HO34.out.alloc _) (w4.heap.size + 1) (some ⟨w4.heap.size, 0, none⟩) 1 1 [.slice A4 m c4, .slice none 0 0] rfl ⟨rfl, fun _ => ⟨_, rfl, Nat.lt_succ_self _, cells_newL w4 153 _ _ rfl⟩⟩ (by simp [Value.oneCell']) (by simp [maxLen]; omega) (by omega) (by rw [World.size_alloc]; have := HB4.out.size; have := HB3.out.size; omega) ?_; intro v5 w5 hown5 hgrow5 hor5; clear hor5; obtain ⟨A5, c5, hv5⟩ := own_slice hown5; subst hv5; have hb5 : Below wq.heap.size wq w5 := below_own ((HB3.out.trans (HB4.out.mono HB3.out.size)).alloc (by have := HB4.out.size; have := HB3.out.size; omega) _) (HO34.out.alloc _) hgrow5 (by rw [World.size_alloc]; have := HB4.out.size; have := HB3.out.size; omega); have HO45 := Lib.hid (ownsRow_grown_other (HO4.out.alloc (.cells #[.slice A4 m c4, .slice none 0 0] 153)) hgrow5 (own_ne_blk (HO4.out.alloc (.cells #[.slice A4 m c4, .slice none 0 0] 153)) (HO34.out.alloc (.cells #[.slice A4 m c4, .slice none 0 0] 153)) (by decide))); have y5 := (hb5.cell (p := ⟨p, 1, none⟩) hpq).trans y1q; have z5 := (hb5.frozen (p := ⟨p, 1, none⟩) hpq).trans HZQ.out; have HB5 := Lib.hid hb5; have HO5 := Lib.hid hown5; clear hown5 hgrow5 hb5)))
      have HR5 := Lib.hid (HRQ.out.below HB5.out)
      have sk : IntKind.i64.wrap ((N : Int) - (i : Int)) = ((N - i : Nat) : Int) := (IntWalk.i64_in _ (by omega)).trans (by omega)
      have HFIN := Lib.hid (show ∀ w6 A6 c6, Below wq.heap.size wq w6 → w6.ownsRow w3.heap.size 55 2 (.slice A4 m c4) m (flatL pl) → w6.ownsRow wq.heap.size 153 2 (.slice A6 (i + 1 + (N - i)) c6) (i + 1 + (N - i)) ((flatV vs).take (i * 2) ++ [.slice A4 m c4, .slice none 0 0] ++ (flatV vs).drop (i * 2)) → MidA w F p n i H pl (w6.setCell ⟨p, 1, none⟩ (.slice A6 (i + 1 + (N - i)) c6)) from by
        intro w6 A6 c6 hb h4 h6
        have hbw := HBQ.out.trans (hb.mono (Nat.le_of_eq HQS.out.symm))
        have hvl : vs.length = N := by rw [HN.out]; exact HR.out.len
        have eN : i + 1 + (N - i) = H.ss.length + 1 := by have := HN.out; omega
        rw [flatV_insert vs i _ _ (by omega), eN, HQS.out] at h6
        rw [eN]
        rw [HM.out] at h4 h6
        have h9 := add_new HR.out HLN.out HF.out.symm hbw (own_lower3 h4 HBW3.out.size) (by rw [← HI.out]; exact h6)
        rw [← HI.out] at h9
        exact h9)
      by_cases hci : cL = i
      · have HNC := Lib.hid (show N - i = 0 by omega)
        have h10 := HFIN.out
        rw [HNC.out] at h10
        have H10 := Lib.hid h10
        clear h10
        subst hci
        go_wp2_with (at_builtin; go_loud (refine wpList_append_any _ rfl (.tmp 35) (.tmp 41) 142 rfl wq.heap.size 153 i3 (.agg #[.slice none 0 0, .slice none 0 0]) 2 48 Tryz.underlying142 HI3.out HZ30.out HZ31.out HZ32.out rfl (by omega) (.slice A5 (cL + 1) c5) (cL + 1) ((flatV vs).take (cL * 2) ++ [.slice A4 m c4, .slice none 0 0]) rfl HO5.out wq.heap.size AL 0 0 ((flatV vs).drop (cL * 2)) (by first | rfl | (simp [Act.eval, Act.put]; done)) (by have h9 := HR5.out.cut (k := cL) (cap := cL) hiN hcap; rw [if_pos rfl, HNC.out] at h9; exact h9) (fun u hu => HON.out u (List.mem_of_mem_drop hu)) (by simp [maxLen]; omega) (by omega) HB5.out.size ?_; intro v6 w6 hown6 hgrow6 hor6; clear hor6; obtain ⟨A6, c6, hv6⟩ := own_slice hown6; subst hv6; have hb6 : Below wq.heap.size wq w6 := below_own HB5.out HO5.out hgrow6 HB5.out.size; have HO46 := Lib.hid (ownsRow_grown_other HO45.out hgrow6 (own_ne_blk HO45.out HO5.out (by decide))); have y6 := (hb6.cell (p := ⟨p, 1, none⟩) hpq).trans y1q; have z6 := (hb6.frozen (p := ⟨p, 1, none⟩) hpq).trans HZQ.out; have HB6 := Lib.hid hb6; have HO6 := Lib.hid hown6; clear hown6 hgrow6 hb6))
        go_meet
        exact H10.out _ _ _ HB6.out HO46.out HO6.out
      · have hci2 : ¬ (cL : Int) = (i : Int) := by omega
        go_wp2_with (at_builtin; go_loud (refine wpList_append_any _ rfl (.tmp 35) (.tmp 41) 142 rfl wq.heap.size 153 i3 (.agg #[.slice none 0 0, .slice none 0 0]) 2 48 Tryz.underlying142 HI3.out HZ30.out HZ31.out HZ32.out rfl (by omega) (.slice A5 (i + 1) c5) (i + 1) ((flatV vs).take (i * 2) ++ [.slice A4 m c4, .slice none 0 0]) rfl HO5.out wq.heap.size (AL.map (·.add (i * 2))) (N - i) (cL - i) ((flatV vs).drop (i * 2)) (by first | rfl | (simp [Act.eval, Act.put]; done)) (by have h9 := HR5.out.cut (k := i) (cap := cL) hiN hcap; rwa [if_neg hci] at h9) (fun u hu => HON.out u (List.mem_of_mem_drop hu)) (by simp [maxLen]; omega) (by omega) HB5.out.size ?_; intro v6 w6 hown6 hgrow6 hor6; clear hor6; obtain ⟨A6, c6, hv6⟩ := own_slice hown6; subst hv6; have hb6 : Below wq.heap.size wq w6 := below_own HB5.out HO5.out hgrow6 HB5.out.size; have HO46 := Lib.hid (ownsRow_grown_other HO45.out hgrow6 (own_ne_blk HO45.out HO5.out (by decide))); have y6 := (hb6.cell (p := ⟨p, 1, none⟩) hpq).trans y1q; have z6 := (hb6.frozen (p := ⟨p, 1, none⟩) hpq).trans HZQ.out; have HB6 := Lib.hid hb6; have HO6 := Lib.hid hown6; clear hown6 hgrow6 hb6))
        go_meet
        exact HFIN.out _ _ _ HB6.out HO46.out HO6.out
  obtain ⟨H1, vL, vs, r, hr, hret, hnew, hs, hrn, hss, hadd, hch⟩ := hcut
  have hn1 : n + 1 ≤ 100001 := by omega
  obtain ⟨N, hN⟩ : ∃ N, N = H1.ss.length := ⟨_, rfl⟩
  obtain ⟨k, hk⟩ : ∃ k, k = r.length := ⟨_, rfl⟩
  have hiN : i < N := by rw [hN]; exact (List.getElem?_eq_some_iff.1 hs).1
  obtain ⟨xv, hxv⟩ : ∃ xv, vs[i]? = some xv := ⟨_, List.getElem?_eq_getElem (by have := hr.len; omega)⟩
  have hea := hr.each i xv _ hxv hs
  have hrow := hr.row
  have hblk := hr.blk
  rw [← hN] at hrow
  obtain ⟨AL, cL, rfl⟩ := own_slice hrow
  have y1 : wc.cell? ⟨p, 1, none⟩ = some (.slice AL N cL) := hblk.cell 1
  have hrd : Reads wc wc.heap.size 2 AL N (flatV vs) := Reads.of_own hrow
  obtain ⟨d, rfl, -, -, y2⟩ := hrd.two hxv
  obtain ⟨AS, cS, hxs⟩ := own_slice hea.2.1
  have hsr := hea.2.1
  have hsF := hea.2.2
  rw [hxs] at hsr y2 hsF
  dsimp only at hsr y2 hsF
  rw [← hk] at hsr y2 hsF
  have hrs : Reads wc wc.heap.size 3 AS k (rowV r) := Reads.of_own hsr
  have hfz : wc.frozen? ⟨(d.add (i * 2)).block, (d.add (i * 2)).off + 1, none⟩ = false := by rw [(own_add hrow (i * 2)).2]; exact own_free hrow _
  have j1 : (i : Int) < (N : Int) := by omega
  have j0 : (0 : Int) ≤ (i : Int) := by omega
  have hpb : p ≠ (d.add (i * 2)).block := fun e => own_blk_ne hrow hblk (by decide) ((congrArg some (own_add hrow (i * 2)).2.symm).trans (congrArg some e.symm))
  have HR := Lib.hid hr
  have HRS := Lib.hid hrs
  have HRW := Lib.hid hsr
  have HSF := Lib.hid hsF
  have HXS := Lib.hid hxs
  have HXV := Lib.hid hxv
  have HS := Lib.hid hs
  have HNE := Lib.hid hN
  have HKE := Lib.hid hk
  have HADD := Lib.hid hadd
  have HCH := Lib.hid hch
  have HWS := Lib.hid hch.size
  have HRET := Lib.hid hret
  have HNEW := Lib.hid hnew
  have hkn : k ≤ 100000 := by omega
  obtain ⟨i0, hi0, hz0, hz1, hz2⟩ := info_parts info155
  have HI0 := Lib.hid hi0
  have HZ0 := Lib.hid hz0
  have HZ1 := Lib.hid hz1
  have HZ2 := Lib.hid hz2
  clear hi0 hz0 hz1 hz2 hr hrs hsr hsF hxs hxv hs hN hk hadd hch hret hnew hea hrow hblk hrd hrn hss hiN
  rename_i Kx hKx
  refine hKx _ _ ?_
  clear hKx
  go_upto_region 5 with fail
  have ka : ∀ (W : World) (o : Obj) (a : Addr) (v : Value), W.cell? a = some v → (W.alloc o).cell? a = some v := fun W o a v h => (World.cell?_alloc_lt W _ a (World.block_lt_of_cell? W _ h)).trans h
  have t1 := ka wc (.cells #[] 155) _ _ y2
  have t2 := ka wc (.cells #[.int .i64 pt, .float .f64 pb, .bool false] 155) _ _ y2
  have t3 := ka _ (.cells #[.int .i64 pt, .float .f64 pb, .bool false] 155) _ _ t1
  have t4 := ka _ (.cells #[] 155) _ _ t2
  have hsX : (wc.alloc (.cells #[] 155)).heap.size = wc.heap.size + 1 := World.size_alloc _ _
  have hsY : (wc.alloc (.cells #[.int .i64 pt, .float .f64 pb, .bool false] 155)).heap.size = wc.heap.size + 1 := World.size_alloc _ _
  have hW1 : Below wc.heap.size wc (wc.alloc (.cells #[] 155)) := (Below.refl _ wc).alloc (Nat.le_refl _) _
  have hW2 : Below wc.heap.size wc (wc.alloc (.cells #[.int .i64 pt, .float .f64 pb, .bool false] 155)) := (Below.refl _ wc).alloc (Nat.le_refl _) _
  have hW3 : Below wc.heap.size wc ((wc.alloc (.cells #[] 155)).alloc (.cells #[.int .i64 pt, .float .f64 pb, .bool false] 155)) := hW1.alloc hW1.size _
  have hW4 : Below wc.heap.size wc ((wc.alloc (.cells #[.int .i64 pt, .float .f64 pb, .bool false] 155)).alloc (.cells #[] 155)) := hW2.alloc hW2.size _
  have HL1 := Lib.hid (show LawA wc (rowV r) AS k (wc.alloc (.cells #[] 155)).drew wc.heap.size from ⟨hW1.drew, (World.ownsRow_lit wc #[] 0 (Nat.le_refl _) (by simp [maxLen]) rfl).drew, (HRS.out.below hW1).drew, Nat.le_refl _⟩)
  have HL3 := Lib.hid (show LawA wc (rowV r) AS k ((wc.alloc (.cells #[] 155)).alloc (.cells #[.int .i64 pt, .float .f64 pb, .bool false] 155)).drew wc.heap.size from ⟨hW3.drew, ((World.ownsRow_lit wc #[] 0 (Nat.le_refl _) (by simp [maxLen]) rfl).alloc _).drew, (HRS.out.below hW3).drew, Nat.le_refl _⟩)
  have HL4 := Lib.hid (show LawA wc (rowV r) AS k ((wc.alloc (.cells #[.int .i64 pt, .float .f64 pb, .bool false] 155)).alloc (.cells #[] 155)).drew (wc.heap.size + 1) from ⟨hW4.drew, by have h1 := World.ownsRow_lit (e := 155) (size := 3) (base := wc.heap.size) (wc.alloc (.cells #[.int .i64 pt, .float .f64 pb, .bool false] 155)) #[] 0 (by omega) (by simp [maxLen]) rfl; rw [hsY] at h1; exact h1.drew, (HRS.out.below hW4).drew, by omega⟩)
  have HQ3 := Lib.hid (show Blk ((wc.alloc (.cells #[] 155)).alloc (.cells #[.int .i64 pt, .float .f64 pb, .bool false] 155)).drew (wc.heap.size + 1) 155 #[.int .i64 pt, .float .f64 pb, .bool false] from by have h1 := Blk.new (wc.alloc (.cells #[] 155)) 155 #[.int .i64 pt, .float .f64 pb, .bool false]; rw [hsX] at h1; exact h1)
  have HQ4 := Lib.hid (show Blk ((wc.alloc (.cells #[.int .i64 pt, .float .f64 pb, .bool false] 155)).alloc (.cells #[] 155)).drew wc.heap.size 155 #[.int .i64 pt, .float .f64 pb, .bool false] from (Blk.new wc 155 #[.int .i64 pt, .float .f64 pb, .bool false]).alloc _)
  have hdb : (d.add (i * 2)).block < wc.heap.size := World.block_lt_of_cell? wc ⟨(d.add (i * 2)).block, (d.add (i * 2)).off + 1, none⟩ y2
  have hpl : p < wc.heap.size := World.block_lt_of_cell? wc _ y1
  have HY1 := Lib.hid y1
  have HY2 := Lib.hid y2
  clear ka hW1 hW2 hW3 hW4 hsX hsY
  have r1 := (World.cell?_alloc_lt wc (.cells #[] 155) ⟨p, 1, none⟩ hpl).trans y1
  have r2 := (World.cell?_alloc_lt wc (.cells #[.int .i64 pt, .float .f64 pb, .bool false] 155) ⟨p, 1, none⟩ hpl).trans y1
  have r3 := (World.cell?_alloc_lt (wc.alloc (.cells #[] 155)) (.cells #[.int .i64 pt, .float .f64 pb, .bool false] 155) ⟨p, 1, none⟩ (World.block_lt_of_cell? _ ⟨p, 1, none⟩ r1)).trans r1
  have r4 := (World.cell?_alloc_lt (wc.alloc (.cells #[.int .i64 pt, .float .f64 pb, .bool false] 155)) (.cells #[] 155) ⟨p, 1, none⟩ (World.block_lt_of_cell? _ ⟨p, 1, none⟩ r2)).trans r2
  go_cut [] from 45 to 66 (fun wx => ∃ vL vs, RAt wx (Grs F w wx) p { H1 with ss := addS pl (pt, pb, false) H.ss } vL vs ∧ Chg F w wx)
  case first =>
    obtain ⟨vs1, ws1, hs1, os1, gs1, -⟩ := run_append_any (w := (wc.alloc (.cells #[] 155)).drew) (P := Tryz.prog) wc.heap.size 151 151 155 i0 (.agg #[.int .i64 0, .float .f64 0, .bool false]) 3 24 Tryz.underlying151 HI0.out HZ0.out HZ1.out HZ2.out rfl (by omega) (.slice (some ⟨wc.heap.size, 0, none⟩) 0 0) 0 [] HL1.out.own wc.heap.size AS k cS (rowV r) HL1.out.rd (rowV_one _) (by simp [maxLen]; omega) (by omega) HL1.out.bel.size
    rw [Nat.zero_add, List.nil_append] at os1
    obtain ⟨As1, cs1, es1⟩ := own_slice os1
    subst es1
    have bs1 : Below wc.heap.size wc ws1 := HL1.out.grow gs1
    have ps1 := (bs1.cell (p := ⟨p, 1, none⟩) hpl).trans y1
    have qs1 := (World.cell?_alloc_lt ws1 (.cells #[.int .i64 pt, .float .f64 pb, .bool false] 155) ⟨p, 1, none⟩ (World.block_lt_of_cell? ws1 ⟨p, 1, none⟩ ps1)).trans ps1
    obtain ⟨vs1t, ws1t, hs1t, os1t, gs1t, -⟩ := run_append_any (w := (ws1.alloc (.cells #[.int .i64 pt, .float .f64 pb, .bool false] 155))) (P := Tryz.prog) wc.heap.size 151 151 155 i0 (.agg #[.int .i64 0, .float .f64 0, .bool false]) 3 24 Tryz.underlying151 HI0.out HZ0.out HZ1.out HZ2.out rfl (by omega) (.slice As1 k cs1) k (rowV r) (os1.alloc _) (ws1.heap.size + 1) (some ⟨ws1.heap.size, 0, none⟩) 1 1 [.int .i64 pt, .float .f64 pb, .bool false] ⟨rfl, fun _ => ⟨_, rfl, Nat.lt_succ_self _, cells_newL ws1 155 _ _ rfl⟩⟩ (by simp [Value.oneCell']) (by simp [maxLen]; omega) (by omega) (by rw [World.size_alloc]; have := bs1.size; omega)
    obtain ⟨As1t, cs1t, es1t⟩ := own_slice os1t
    subst es1t
    have bs1t : Below wc.heap.size wc ws1t := below_own (bs1.alloc bs1.size _) (os1.alloc _) gs1t (by rw [World.size_alloc]; have := bs1.size; omega)
    have ps1t := (bs1t.cell (p := ⟨p, 1, none⟩) hpl).trans y1
    have zs1t := (bs1t.cell (p := ⟨(d.add (i * 2)).block, (d.add (i * 2)).off + 1, none⟩) hdb).trans y2
    have fs1t := (below_frozen (a := ⟨(d.add (i * 2)).block, (d.add (i * 2)).off + 1, none⟩) bs1t hdb).trans hfz
    have HBs1 := Lib.hid bs1t
    have HOs1 := Lib.hid os1t
    clear os1 gs1 bs1 os1t gs1t bs1t
    obtain ⟨vs2, ws2, hs2, os2, gs2, -⟩ := run_append_any (w := ((wc.alloc (.cells #[] 155)).alloc (.cells #[.int .i64 pt, .float .f64 pb, .bool false] 155)).drew) (P := Tryz.prog) wc.heap.size 151 151 155 i0 (.agg #[.int .i64 0, .float .f64 0, .bool false]) 3 24 Tryz.underlying151 HI0.out HZ0.out HZ1.out HZ2.out rfl (by omega) (.slice (some ⟨wc.heap.size, 0, none⟩) 0 0) 0 [] HL3.out.own wc.heap.size AS k cS (rowV r) HL3.out.rd (rowV_one _) (by simp [maxLen]; omega) (by omega) HL3.out.bel.size
    rw [Nat.zero_add, List.nil_append] at os2
    obtain ⟨As2, cs2, es2⟩ := own_slice os2
    subst es2
    have bs2 : Below wc.heap.size wc ws2 := HL3.out.grow gs2
    have ps2 := (bs2.cell (p := ⟨p, 1, none⟩) hpl).trans y1
    obtain ⟨vs2t, ws2t, hs2t, os2t, gs2t, -⟩ := run_append_any (w := ws2) (P := Tryz.prog) wc.heap.size 151 151 155 i0 (.agg #[.int .i64 0, .float .f64 0, .bool false]) 3 24 Tryz.underlying151 HI0.out HZ0.out HZ1.out HZ2.out rfl (by omega) (.slice As2 k cs2) k (rowV r) os2 (ws2.heap.size) (some ⟨wc.heap.size + 1, 0, none⟩) 1 1 [.int .i64 pt, .float .f64 pb, .bool false] (reads_blk3 (HQ3.out.grown gs2 (by simp [Value.ownBlock]))) (by simp [Value.oneCell']) (by simp [maxLen]; omega) (by omega) bs2.size
    obtain ⟨As2t, cs2t, es2t⟩ := own_slice os2t
    subst es2t
    have bs2t : Below wc.heap.size wc ws2t := below_own bs2 os2 gs2t bs2.size
    have ps2t := (bs2t.cell (p := ⟨p, 1, none⟩) hpl).trans y1
    have zs2t := (bs2t.cell (p := ⟨(d.add (i * 2)).block, (d.add (i * 2)).off + 1, none⟩) hdb).trans y2
    have fs2t := (below_frozen (a := ⟨(d.add (i * 2)).block, (d.add (i * 2)).off + 1, none⟩) bs2t hdb).trans hfz
    have HBs2 := Lib.hid bs2t
    have HOs2 := Lib.hid os2t
    clear os2 gs2 bs2 os2t gs2t bs2t
    obtain ⟨vs3, ws3, hs3, os3, gs3, -⟩ := run_append_any (w := ((wc.alloc (.cells #[.int .i64 pt, .float .f64 pb, .bool false] 155)).alloc (.cells #[] 155)).drew) (P := Tryz.prog) wc.heap.size 151 151 155 i0 (.agg #[.int .i64 0, .float .f64 0, .bool false]) 3 24 Tryz.underlying151 HI0.out HZ0.out HZ1.out HZ2.out rfl (by omega) (.slice (some ⟨wc.heap.size + 1, 0, none⟩) 0 0) 0 [] HL4.out.own wc.heap.size AS k cS (rowV r) HL4.out.rd (rowV_one _) (by simp [maxLen]; omega) (by omega) HL4.out.bel.size
    rw [Nat.zero_add, List.nil_append] at os3
    obtain ⟨As3, cs3, es3⟩ := own_slice os3
    subst es3
    have bs3 : Below wc.heap.size wc ws3 := HL4.out.grow gs3
    have ps3 := (bs3.cell (p := ⟨p, 1, none⟩) hpl).trans y1
    obtain ⟨vs3t, ws3t, hs3t, os3t, gs3t, -⟩ := run_append_any (w := ws3) (P := Tryz.prog) wc.heap.size 151 151 155 i0 (.agg #[.int .i64 0, .float .f64 0, .bool false]) 3 24 Tryz.underlying151 HI0.out HZ0.out HZ1.out HZ2.out rfl (by omega) (.slice As3 k cs3) k (rowV r) os3 (ws3.heap.size) (some ⟨wc.heap.size, 0, none⟩) 1 1 [.int .i64 pt, .float .f64 pb, .bool false] (reads_blk3 (HQ4.out.grown gs3 (by simp [Value.ownBlock]))) (by simp [Value.oneCell']) (by simp [maxLen]; omega) (by omega) bs3.size
    obtain ⟨As3t, cs3t, es3t⟩ := own_slice os3t
    subst es3t
    have bs3t : Below wc.heap.size wc ws3t := below_own bs3 os3 gs3t bs3.size
    have ps3t := (bs3t.cell (p := ⟨p, 1, none⟩) hpl).trans y1
    have zs3t := (bs3t.cell (p := ⟨(d.add (i * 2)).block, (d.add (i * 2)).off + 1, none⟩) hdb).trans y2
    have fs3t := (below_frozen (a := ⟨(d.add (i * 2)).block, (d.add (i * 2)).off + 1, none⟩) bs3t hdb).trans hfz
    have HBs3 := Lib.hid bs3t
    have HOs3 := Lib.hid os3t
    clear os3 gs3 bs3 os3t gs3t bs3t
    go_region
    all_goals
      go_wp2
      go_meet
      rw [HADD.out]
      first
        | exact ⟨_, _, add_row (x := (pt, pb, false)) HR.out HNE.out HXV.out HS.out HBs1.out HWS.out HKE.out HOs1.out HCH.out⟩
        | exact ⟨_, _, add_row (x := (pt, pb, false)) HR.out HNE.out HXV.out HS.out HBs2.out HWS.out HKE.out HOs2.out HCH.out⟩
        | exact ⟨_, _, add_row (x := (pt, pb, false)) HR.out HNE.out HXV.out HS.out HBs3.out HWS.out HKE.out HOs3.out HCH.out⟩
  obtain ⟨vL8, vs8, hra, hc8⟩ := hcut
  rename_i Kx2 hKx2
  refine hKx2 _ _ ?_
  clear hKx2 y1 y2 hfz t1 t2 t3 t4 r1 r2 r3 r4 hpb hdb hpl
  obtain ⟨w8, hw8⟩ : ∃ x, x = wc := ⟨_, rfl⟩
  rw [← hw8] at hra hc8 ⊢
  clear hw8
  obtain ⟨ha, hbb⟩ := add_end hra HRET.out HNEW.out rfl HOK.out HCD.out HLN.out HLS.out
  have n2 : w8.cell? ⟨p, 2, none⟩ = some (.int .i64 H.newest) := by
    have h1 : w8.cell? ⟨p, 2, none⟩ = some (.int .i64 H1.newest) := hra.blk.cell 2
    rw [h1, HNEW.out]
  have f2 : w8.frozen? ⟨p, 2, none⟩ = false := hra.blk.frozen 2
  have hFp : F p ∨ w.heap.size ≤ p := hra.own.1
  have HC9 := Lib.hid (hc8.setCell (p := ⟨p, 2, none⟩) hFp (.int .i64 pt))
  have HC8 := Lib.hid hc8
  obtain ⟨nw, hnw⟩ : ∃ nw, nw = H.newest := ⟨_, rfl⟩
  rw [← hnw] at n2 ha hbb
  clear hc8 hra hnw hFp
  by_cases hgt : nw < pt
  · have HE := Lib.hid (hbb hgt)
    clear ha hbb
    go_wp2
    refine bodyPost_end (results_none rfl _ _ _) rfl ?_
    exact ⟨rfl, HE.out, HC9.out⟩
  · have HE := Lib.hid (ha (by omega))
    clear ha hbb
    go_wp2
    refine bodyPost_end (results_none rfl _ _ _) rfl ?_
    exact ⟨rfl, HE.out, HC8.out⟩
end Go.Proofs.YtbeeejpjnniejaaGreatDoor
