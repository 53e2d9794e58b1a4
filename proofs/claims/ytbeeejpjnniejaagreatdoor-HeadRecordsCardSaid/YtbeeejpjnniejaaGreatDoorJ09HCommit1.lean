/- Plan, and what Commit collects (its closure). A sample that is put behind a series (head.put): the states between, plainly. A sample that is put behind a series (head.put). -/
import Derived.Test.YtbeeejpjnniejaaGreatDoorJ07HPlan
import Derived.Deep.RegionLaw
namespace Go.Proofs.YtbeeejpjnniejaaGreatDoor
open Go.RowKit Go.Shelf Go.Maps
attribute [-go_sem] Builtin.append_
attribute [local go_sem] run_store_float
theorem info9 : (Tryz.prog.info? 9).map (fun i => (i.zero, i.size, i.bytes)) = some (some (.string ⟨#[]⟩), 1, 16) := by kernel_rfl
theorem info57 : (Tryz.prog.info? 57).map (fun i => (i.zero, i.size, i.bytes)) = some (some (.agg #[.slice none 0 0, .int .i64 0, .float .f64 0]), 3, 40) := by kernel_rfl
/-- what Plan does with what is taken: nothing -/
def NoJ (_ : List Pt) (G : Nat → Prop) (_ : World) : Prop := ∀ k, ¬ G k
theorem noTake (B N : Nat) (Q : Nat → Prop) : TakeAt 69 #[] B N Q NoJ where
  keep _ _ _ _ h _ _ := h
  lt _ _ _ h k hk := absurd hk (h k)
  call l G W p A c h _ _ _ _ _ := by
    have HG := Lib.hid h
    clear h
    go_enter Tryz.func69, Tryz.ntmps69
    go_wp2
    refine bodyPost_end (results_none rfl _ _ _) rfl ?_
    exact ⟨rfl, G, HG.out, Chg.of_below ((Below.refl _ W).alloc (Nat.le_refl _) _), fun k hk => .inl hk⟩
theorem hplan_any (w : World) (F Q : Nat → Prop) (p n B : Nat) (H : Hd) (v : Value) (pts : List Pt) (hh : HdAt w F p n H) (hp : PtsAt w B Q v pts) (hT : Tabs w) (hB : 2 < B ∧ B ≤ w.heap.size) (hN : pts.length ≤ 100000) (hn : n ≤ 100000) :
    Calls Tryz.prog 21 #[.pointer (some ⟨p, 0, none⟩), v] w fun e w' => ∃ out, e = .returned out ∧ w'.ownsRow w.heap.size 32 1 out pts.length (((H.take pts).1).map (Value.int .i64)) ∧ Below w.heap.size w w' := by
  obtain ⟨A, c, hv⟩ : ∃ A c, v = .slice A pts.length c := by obtain ⟨A, c, vs, e, -⟩ := hp; exact ⟨A, c, e⟩
  subst hv
  have HC := Lib.hid (plan_any w F (fun _ => False) Q p 100000 n B 69 #[] NoJ H (.slice A pts.length c) pts (enters_of Tryz.func69 (by kernel_rfl) rfl) (noTake B 100000 Q) (fun _ h => h) hh hp hT hB (fun k h => h.elim) hN (Nat.le_refl _) hn)
  clear hh hp hT hB
  go_enter Tryz.func21, Tryz.ntmps21
  go_wp2_with fail
  refine HC.out.mono ?_
  rintro e w' ⟨out, G, rfl, h1, h2, h3, h4, h5⟩
  have H1 := Lib.hid h1
  have H5 := Lib.hid (h5.toBelow (B := w.heap.size) (fun k h => h.elim) (Nat.le_refl _))
  clear h1 h2 h3 h4 h5 HC
  obtain ⟨A', c', ho⟩ := own_slice H1.out
  subst ho
  go_wp2
  go_ret
  exact ⟨_, rfl, H1.out, H5.out⟩
theorem own_ne2 {w : World} {b b2 : Nat} {e e2 : TypeId} {z z2 n n2 : Nat} {v v2 : Value} {xs xs2 : List Value} (h : w.ownsRow b e z v n xs) (h2 : w.ownsRow b2 e2 z2 v2 n2 xs2) (hne : e ≠ e2) : v.ownBlock = none ∨ v.ownBlock ≠ v2.ownBlock := by
  rcases h.2 with ⟨rfl, _⟩ | ⟨g, cap, cur, rfl, _, hh, _⟩
  · exact .inl rfl
  · refine .inr fun e => ?_
    rcases h2.2 with ⟨rfl, _⟩ | ⟨g', cap', cur', rfl, _, hh', _⟩
    · cases e
    · injection e with e
      have e : g = g' := e
      subst e
      rw [hh] at hh'
      injection hh' with hh'
      injection hh' with _ ht
      exact hne ht
/-- what Commit collects: keys and points, in two boxes -/
structure CmtB (B base bk bp : Nat) (Q : Nat → Prop) (l : List Pt) (G : Nat → Prop) (W : World) (vk vp : Value) (vs : List (Value × Int × Nat)) : Prop where
  kb : Blk W bk 88 #[vk]
  pb : Blk W bp 22 #[vp]
  keys : W.ownsRow base 9 1 vk l.length (l.map fun p => .string (keyS p.1))
  len : vs.length = l.length
  points : W.ownsRow base 57 3 vp l.length (ptsV vs)
  each : ∀ (i : Nat) (x : Value × Int × Nat) (p : Pt), vs[i]? = some x → l[i]? = some p → PtIn W B Q x p
  own : ∀ k, G k ↔ (k = bk ∨ k = bp ∨ vk.ownBlock = some k ∨ vp.ownBlock = some k)
  lo : B ≤ base ∧ base ≤ bk ∧ base ≤ bp
def CmtJ (B base bk bp : Nat) (Q : Nat → Prop) (l : List Pt) (G : Nat → Prop) (W : World) : Prop := ∃ vk vp vs, CmtB B base bk bp Q l G W vk vp vs
theorem PtIn.keep {w w' : World} {B : Nat} {Q : Nat → Prop} {x : Value × Int × Nat} {p : Pt} (h : PtIn w B Q x p) (hb : ∀ k, k < B → w'.heap[k]? = w.heap[k]?) : PtIn w' B Q x p := ⟨h.1, h.2.1.keep fun a ha => World.cell?_of_block (hb _ ha), h.2.2⟩
theorem fitP_sized {l : List Lbl} (h : fitP l = true) : Sized l := by
  have := fitP_fit h
  exact ⟨by have := this.1; omega, fun q hq => by have := this.2 q hq; omega⟩
theorem CmtB.lt {B base bk bp : Nat} {Q : Nat → Prop} {l : List Pt} {G : Nat → Prop} {W : World} {vk vp : Value} {vs : List (Value × Int × Nat)} (h : CmtB B base bk bp Q l G W vk vp vs) (k : Nat) (hk : G k) : B ≤ k ∧ k < W.heap.size := by
  obtain ⟨l1, l2, l3⟩ := h.lo
  rcases (h.own k).1 hk with rfl | rfl | hk | hk
  · exact ⟨Nat.le_trans l1 l2, h.kb.lt⟩
  · exact ⟨Nat.le_trans l1 l3, h.pb.lt⟩
  · have := h.keys.lt k hk; omega
  · have := h.points.lt k hk; omega
theorem CmtB.keep {B base bk bp : Nat} {Q : Nat → Prop} {l : List Pt} {G : Nat → Prop} {W W' : World} {vk vp : Value} {vs : List (Value × Int × Nat)} (h : CmtB B base bk bp Q l G W vk vp vs) (hk : ∀ k, G k ∨ k < B → W'.heap[k]? = W.heap[k]?) : CmtB B base bk bp Q l G W' vk vp vs :=
  ⟨(hk bk (.inl ((h.own _).2 (.inl rfl)))).trans h.kb, (hk bp (.inl ((h.own _).2 (.inr (.inl rfl))))).trans h.pb, own_blk h.keys fun g hg => hk g (.inl ((h.own _).2 (.inr (.inr (.inl hg))))), h.len, own_blk h.points fun g hg => hk g (.inl ((h.own _).2 (.inr (.inr (.inr hg))))),
    fun i x p a b => (h.each i x p a b).keep fun k hb => hk k (.inr hb), h.own, h.lo⟩
set_option maxRecDepth 100000 in
set_option maxHeartbeats 3200000 in
theorem cmtTake (B base bk bp N : Nat) (Q : Nat → Prop) (hN : N ≤ 100000) : TakeAt 63 #[.pointer (some ⟨bk, 0, none⟩), .pointer (some ⟨bp, 0, none⟩)] B N Q (CmtJ B base bk bp Q) where
  keep l G W W' h hk _ := by
    obtain ⟨vk, vp, vs, h⟩ := h
    exact ⟨vk, vp, vs, h.keep hk⟩
  lt l G W h k hk := by
    obtain ⟨vk, vp, vs, h⟩ := h
    exact h.lt k hk
  call l G W p A c h hl hB hla hQ hf := by
    obtain ⟨vk, vp, vs, h⟩ := h
    obtain ⟨i0, hi, hz0, hz1, hz2⟩ := info_parts info9
    obtain ⟨j0, hj, hy0, hy1, hy2⟩ := info_parts info57
    have HI := Lib.hid hi
    have HZ0 := Lib.hid hz0
    have HZ1 := Lib.hid hz1
    have HZ2 := Lib.hid hz2
    have HJ := Lib.hid hj
    have HY0 := Lib.hid hy0
    have HY1 := Lib.hid hy1
    have HY2 := Lib.hid hy2
    clear hi hz0 hz1 hz2 hj hy0 hy1 hy2
    obtain ⟨Ak, ck, hvk⟩ := own_slice h.keys
    obtain ⟨Ap, cp, hvp⟩ := own_slice h.points
    subst hvk hvp
    obtain ⟨pl, pt, pb⟩ := p
    obtain ⟨m, hm⟩ : ∃ m, m = l.length := ⟨_, rfl⟩
    obtain ⟨nL, hnL⟩ : ∃ n, n = pl.length := ⟨_, rfl⟩
    dsimp only
    dsimp only at hla hf hQ
    rw [← hnL] at hla hQ ⊢
    have HQ := Lib.hid hQ
    clear hQ
    obtain ⟨ks, hks⟩ : ∃ ks, ks = keyS pl := ⟨_, rfl⟩
    rw [← hks]
    obtain ⟨w1, hw1⟩ : ∃ w1, w1 = W.alloc (.cells #[.slice A nL c, .int .i64 pt, .float .f64 pb] 57) := ⟨_, rfl⟩
    have hb1 : Below W.heap.size W w1 := by rw [hw1]; exact (Below.refl _ W).alloc (Nat.le_refl _) _
    have hbx : Blk w1 W.heap.size 57 #[.slice A nL c, .int .i64 pt, .float .f64 pb] := by rw [hw1]; exact Blk.new W 57 _
    have h1 : CmtB B base bk bp Q l G w1 _ _ vs := h.keep (W' := w1) fun k hk => by
      rcases hk with hk | hk
      · exact hb1.block k (h.lt k hk).2
      · exact hb1.block k (by omega)
    have x1 : w1.cell? ⟨bk, 0, none⟩ = some (.slice Ak m ck) := by rw [hm]; exact h1.kb.cell 0
    have z1 := h1.kb.frozen 0
    have HH1 := Lib.hid h1
    have HW1 := Lib.hid hw1
    have HB1 := Lib.hid hb1
    have HBX := Lib.hid hbx
    have HM := Lib.hid hm
    have HNL := Lib.hid hnL
    have HKS := Lib.hid hks
    have HLA := Lib.hid hla
    have HF := Lib.hid hf
    have HG := Lib.hid h
    have hml : m < 100000 := by omega
    have hwb := hb1.size
    clear h h1 hw1 hb1 hbx hm hnL hks hla hf hl
    go_enter Tryz.func63, Tryz.ntmps63
    go_upto_region 1 with (fail)
    rw [← HW1.out]
    obtain ⟨kv, hkv⟩ : ∃ kv, kv = l.map fun p : Pt => Value.string (keyS p.1) := ⟨_, rfl⟩
    have hko := HH1.out.keys
    rw [← hkv, ← HM.out] at hko
    have HKO := Lib.hid hko
    have HKV := Lib.hid hkv
    have hBb : base ≤ w1.heap.size := by have := HH1.out.lo; have := HH1.out.kb.lt; omega
    clear hko hkv
    go_upto_region 2 with (at_builtin; go_loud (refine wpList_append_any _ rfl (.tmp 6) (.tmp 8) 88 rfl base 9 i0 (.string ⟨#[]⟩) 1 16 Tryz.underlying88 HI.out HZ0.out HZ1.out HZ2.out rfl (by omega) (.slice Ak m ck) m kv rfl (HKO.out.alloc _) (w1.heap.size + 1) (some ⟨w1.heap.size, 0, none⟩) 1 1 [.string ks] rfl ⟨rfl, fun _ => ⟨_, rfl, Nat.lt_succ_self _, cells_newL w1 9 _ _ rfl⟩⟩ (by simp [Value.oneCell']) (by simp [maxLen]; omega) (by omega) (by rw [World.size_alloc]; omega) ?_; intro v2 w2 hown2 hgrow2 hor2; obtain ⟨A2, c2, hv2⟩ := own_slice hown2; subst hv2; have HW2 := Lib.hid hown2; have HG2 := Lib.hid hgrow2; have HO2 := Lib.hid hor2; have bk1 := HH1.out.kb.alloc (.cells #[.string ks] 9); have bk2 := bk1.grown hgrow2 (own_blk_ne (HKO.out.alloc _) bk1 (by decide)).symm; rw [← HM.out] at bk2; have e2 : w2.cell? ⟨bk, 0, none⟩ = some (.slice Ak m ck) := bk2.cell 0; have f2 := bk2.frozen 0; have HBK2 := Lib.hid bk2; clear hown2 hgrow2 hor2 bk1 bk2))
    obtain ⟨w3, hw3⟩ : ∃ w3, w3 = w2.setCell ⟨bk, 0, none⟩ (.slice A2 (m + 1) c2) := ⟨_, rfl⟩
    rw [← hw3]
    have hs2 := HG2.out.size
    rw [World.size_alloc] at hs2
    have pb1 := HH1.out.pb.alloc (.cells #[.string ks] 9)
    have pb2 := pb1.grown HG2.out (own_blk_ne (HKO.out.alloc _) pb1 (by decide)).symm
    have bx1 := HBX.out.alloc (.cells #[.string ks] 9)
    have bx2 := bx1.grown HG2.out (own_blk_ne (HKO.out.alloc _) bx1 (by decide)).symm
    have pb3 : Blk w3 bp 22 #[.slice Ap m cp] := by rw [hw3, HM.out]; exact pb2.far (p := ⟨bk, 0, none⟩) (Blk.ne_ pb2 HBK2.out (by decide)) _
    have bx3 : Blk w3 W.heap.size 57 #[.slice A nL c, .int .i64 pt, .float .f64 pb] := by rw [hw3]; exact bx2.far (p := ⟨bk, 0, none⟩) (Blk.ne_ bx2 HBK2.out (by decide)) _
    have bk3 : Blk w3 bk 88 #[.slice A2 (m + 1) c2] := by rw [hw3]; exact HBK2.out.set_ 0 _
    have po1 := HH1.out.points.alloc (.cells #[.string ks] 9)
    have po2 := po1.kept HG2.out (own_ne2 po1 (HKO.out.alloc _) (by decide))
    have po3 : w3.ownsRow base 57 3 (.slice Ap m cp) m (ptsV vs) := by
      rw [hw3, HM.out]
      exact ownsRow_setCell_other po2 (own_blk_ne po2 HBK2.out (by decide)) _
    have ko3 : w3.ownsRow base 9 1 (.slice A2 (m + 1) c2) (m + 1) (kv ++ [.string ks]) := by
      rw [hw3]
      exact ownsRow_setCell_other HW2.out (own_blk_ne HW2.out HBK2.out (by decide)) _
    have g3 : w3.cell? ⟨bp, 0, none⟩ = some (.slice Ap m cp) := pb3.cell 0
    have fz3 := pb3.frozen 0
    have q0 : w3.cell? ⟨W.heap.size, 0, none⟩ = some (.slice A nL c) := bx3.cell 0
    have q1 : w3.cell? ⟨W.heap.size, 1, none⟩ = some (.int .i64 pt) := bx3.cell 1
    have q2 : w3.cell? ⟨W.heap.size, 2, none⟩ = some (.float .f64 pb) := bx3.cell 2
    have hs3 : w3.heap.size = w2.heap.size := by rw [hw3]; simp [World.setCell]
    have HS3 := Lib.hid hs3
    have hs3' : w1.heap.size + 1 ≤ w3.heap.size := by omega
    have HW3 := Lib.hid hw3
    have HPB3 := Lib.hid pb3
    have HPO3 := Lib.hid po3
    have HKO3 := Lib.hid ko3
    have HBK3 := Lib.hid bk3
    clear hw3 pb1 pb2 bx1 bx2 pb3 bx3 po1 po2 po3 ko3 hs3 bk3 x1 z1 e2 f2
    go_wp2_with (at_builtin; go_loud (refine wpList_append_any _ rfl (.tmp 10) (.tmp 12) 22 rfl base 57 j0 (.agg #[.slice none 0 0, .int .i64 0, .float .f64 0]) 3 40 Tryz.underlying22 HJ.out HY0.out HY1.out HY2.out rfl (by omega) (.slice Ap m cp) m (ptsV vs) rfl (HPO3.out.alloc _) (w3.heap.size + 1) (some ⟨w3.heap.size, 0, none⟩) 1 1 [.slice A nL c, .int .i64 pt, .float .f64 pb] rfl ⟨rfl, fun _ => ⟨_, rfl, Nat.lt_succ_self _, cells_newL w3 57 _ _ rfl⟩⟩ (by simp [Value.oneCell']) (by simp [maxLen]; omega) (by omega) (by rw [World.size_alloc]; omega) ?_; intro v4 w4 hown4 hgrow4 hor4; obtain ⟨A4, c4, hv4⟩ := own_slice hown4; subst hv4; have HW4 := Lib.hid hown4; have HG4 := Lib.hid hgrow4; have HO4 := Lib.hid hor4; have bp1 := HPB3.out.alloc (.cells #[.slice A nL c, .int .i64 pt, .float .f64 pb] 57); have bp2 := bp1.grown hgrow4 (own_blk_ne (HPO3.out.alloc _) bp1 (by decide)).symm; have e4 : w4.cell? ⟨bp, 0, none⟩ = some (.slice Ap m cp) := bp2.cell 0; have f4 := bp2.frozen 0; have HBP4 := Lib.hid bp2; clear hown4 hgrow4 hor4 bp1 bp2))
    refine bodyPost_end (results_none rfl _ _ _) rfl ?_
    have hs4 := HG4.out.size
    rw [World.size_alloc] at hs4
    have hbkbp : bk ≠ bp := Blk.ne_ HBK3.out HPB3.out (by decide)
    obtain ⟨ob, hob⟩ : ∃ ob, ob = Obj.cells #[.slice A nL c, .int .i64 pt, .float .f64 pb] 57 := ⟨_, rfl⟩
    have hpa := HPO3.out.alloc ob
    have hka := HKO3.out.alloc ob
    have hba := HBK3.out.alloc ob
    have hg4 := HG4.out
    rw [← hob] at hg4
    have kb4 := hba.grown hg4 (own_blk_ne hpa hba (by decide)).symm
    have ko4 := hka.kept hg4 (own_ne2 hka hpa (by decide))
    obtain ⟨g1, g2, g3'⟩ := HH1.out.lo
    have hGk : G bk := (HG.out.own bk).2 (.inl rfl)
    have hGp : G bp := (HG.out.own bp).2 (.inr (.inl rfl))
    have hGak : ∀ j, (Value.slice Ak m ck).ownBlock = some j → G j := fun j hj => (HG.out.own j).2 (.inr (.inr (.inl (by rw [HM.out] at hj; exact hj))))
    have hGap : ∀ j, (Value.slice Ap m cp).ownBlock = some j → G j := fun j hj => (HG.out.own j).2 (.inr (.inr (.inr (by rw [HM.out] at hj; exact hj))))
    have hc1 : Chg G W w1 := Chg.of_below HB1.out
    have hc2 : Chg G W w2 := (hc1.alloc _).grown HG2.out fun j hj => .inl (hGak j hj)
    have hc3 : Chg G W w3 := by rw [HW3.out]; exact hc2.setCell (p := ⟨bk, 0, none⟩) (.inl hGk) _
    have hc4 : Chg G W w4 := (hc3.alloc _).grown HG4.out fun j hj => .inl (hGap j hj)
    have hc5 : Chg G W (w4.setCell ⟨bp, 0, none⟩ (.slice A4 (m + 1) c4)) := hc4.setCell (p := ⟨bp, 0, none⟩) (.inl hGp) _
    have hB5 : ∀ k, k < B → (w4.setCell ⟨bp, 0, none⟩ (.slice A4 (m + 1) c4)).heap[k]? = W.heap[k]? := fun k hk => hc5.block k (by omega) fun hG => by have := (HG.out.lt k hG).1; omega
    refine ⟨rfl, fun k => k = bk ∨ k = bp ∨ (Value.slice A2 (m + 1) c2).ownBlock = some k ∨ (Value.slice A4 (m + 1) c4).ownBlock = some k, ⟨.slice A2 (m + 1) c2, .slice A4 (m + 1) c4, vs ++ [(.slice A nL c, pt, pb)], kb4.far (p := ⟨bp, 0, none⟩) hbkbp _, HBP4.out.set_ 0 _, ?_, by simp [HG.out.len], ?_, fun i x q hx hq => ?_, fun k => Iff.rfl, g1, g2, g3'⟩, hc5, fun k hk => ?_⟩
    · have h5 := ownsRow_setCell_other ko4 (own_blk_ne ko4 HBP4.out (by decide)) (a := ⟨bp, 0, none⟩) (.slice A4 (m + 1) c4)
      rw [List.length_append, ← HM.out, List.map_append, ← HKV.out]
      simp only [List.map_cons, List.map_nil, List.length_cons, List.length_nil]
      rw [← HKS.out]
      exact h5
    · have h5 := ownsRow_setCell_other HW4.out (own_blk_ne HW4.out HBP4.out (by decide)) (a := ⟨bp, 0, none⟩) (.slice A4 (m + 1) c4)
      rw [List.length_append, ← HM.out, ptsV_append]
      exact h5
    · have hvl := HG.out.len
      rcases Nat.lt_or_ge i vs.length with e | e
      · rw [List.getElem?_append_left e] at hx
        rw [List.getElem?_append_left (by omega)] at hq
        exact (HG.out.each i x q hx hq).keep hB5
      · have e0 : i = vs.length := by
          have := (List.getElem?_eq_some_iff.1 hx).1
          simp at this; omega
        subst e0
        rw [List.getElem?_append_right (Nat.le_refl _), Nat.sub_self] at hx
        rw [List.getElem?_append_right (by omega), hvl, Nat.sub_self] at hq
        simp at hx hq
        subst hx hq
        refine PtIn.keep (w := W) ⟨rfl, ?_, fitP_sized HF.out, HQ.out⟩ hB5
        exact HLA.out
    · rcases hk with rfl | rfl | hk | hk
      · exact .inl hGk
      · exact .inl hGp
      · rcases HO2.out with e | e
        · exact .inl (hGak k (e ▸ hk))
        · rw [e] at hk
          injection hk with hk
          rw [World.size_alloc] at hk
          exact .inr (by omega)
      · rcases HO4.out with e | e
        · exact .inl (hGap k (e ▸ hk))
        · rw [e] at hk
          injection hk with hk
          rw [World.size_alloc] at hk
          exact .inr (by omega)
end Go.Proofs.YtbeeejpjnniejaaGreatDoor
namespace Go.Proofs.YtbeeejpjnniejaaGreatDoor
open Go.RowKit Go.Shelf Go.Maps
def Grs (F : Nat → Prop) (w w' : World) (k : Nat) : Prop := Gr F w k ∧ k < w'.heap.size
/-- a state tells a head, if it has just its series -/
theorem tells_of {w : World} {F : Nat → Prop} {p : Nat} {s : HS} {H : Hd} (h : HeadAt w F p s) (hr : s.ret = H.ret) (hn : s.newest = H.newest) (hs : H.ss.Pairwise fun a b => cmpL a.1 b.1 < 0) (hm : ∀ sr, (∃ x ∈ s.dir, (s.lab x.2, s.row x.2) = sr) ↔ sr ∈ H.ss) : Tells s H := by
  refine ⟨hr, hn, ?_⟩
  have n1 : (s.dir.map fun x => (s.lab x.2, s.row x.2)).Nodup := by
    have ht := h.dir.tidy
    unfold List.Nodup
    rw [List.pairwise_map]
    refine List.Pairwise.imp_of_mem (fun {a b} ha hb hne e => hne ?_) ht
    rw [h.key a ha, h.key b hb]
    injection e with e1 e2
    rw [e1]
  have n2 : H.ss.Nodup := by
    unfold List.Nodup
    refine hs.imp fun {a b} hlt e => ?_
    rw [e, cmpL_three.self] at hlt
    omega
  refine (List.perm_ext_iff_of_nodup n1 n2).2 fun sr => ?_
  rw [← hm, List.mem_map]
/-- once the series is there -/
structure MidPut (w : World) (F : Nat → Prop) (p : Nat) (H : Hd) (q : Pt) (bx g : Nat) (s1 : HS) (wx : World) : Prop where
  hd : HeadAt wx (Grs F w wx) p s1
  memD : (lbytes q.1, g) ∈ s1.dir
  labE : s1.lab g = q.1
  rowE : s1.row g = (findS q.1 H.ss).getD []
  oth : ∀ sr, (∃ x ∈ s1.dir, x.2 ≠ g ∧ (s1.lab x.2, s1.row x.2) = sr) ↔ (sr ∈ H.ss ∧ sr.1 ≠ q.1)
  retE : s1.ret = H.ret
  newE : s1.newest = H.newest
  boxB : Blk wx bx 49 #[.int .i64 q.2.1, .float .f64 q.2.2]
  chgW : Chg F w wx
theorem pair_once {α β : Type} {f : α → β} : ∀ {l : List α}, l.Pairwise (fun x y => f x ≠ f y) → ∀ {x y : α}, x ∈ l → y ∈ l → f x = f y → x = y
  | [], _, _, _, hx, _, _ => by cases hx
  | a :: l, hp, x, y, hx, hy, e => by
    rw [List.pairwise_cons] at hp
    rcases List.mem_cons.1 hx with h1 | h1
    · rcases List.mem_cons.1 hy with h2 | h2
      · rw [h1, h2]
      · exact absurd (h1 ▸ e) (hp.1 y h2)
    · rcases List.mem_cons.1 hy with h2 | h2
      · exact absurd (h2 ▸ e.symm) (hp.1 x h1)
      · exact pair_once hp.2 h1 h2 e
theorem dir_once {s : HS} (h : s.dir.Pairwise fun x y => x.2 ≠ y.2) {x y : Nm × Nat} (hx : x ∈ s.dir) (hy : y ∈ s.dir) (e : x.2 = y.2) : x = y := pair_once (f := Prod.snd) h hx hy e
/-- a series that is there -/
theorem mid_there {w wx : World} {F : Nat → Prop} {p n : Nat} {H : Hd} {q : Pt} {bx g : Nat} {s : HS} (h : HeadAt w F p s) (ht : Tells s H) (hok : H.Ok) (hf : fitP q.1 = true) (hg : dget s.dir (lbytes q.1) = some g) (hb : Below w.heap.size w wx) (hbx : Blk wx bx 49 #[.int .i64 q.2.1, .float .f64 q.2.2]) :
    MidPut w F p H q bx g s wx := by
  obtain ⟨f1, -⟩ := h.find ht hok hf
  obtain ⟨k1, k2, k3⟩ := f1 g hg
  have hm := dget_mem hg
  have hhd : HeadAt wx (Grs F w wx) p s := by
    have h1 := h.keep (w' := wx) (G := F) (fun k _ hk => hb.block k hk) (fun _ h => h) hb.size
    have hlt : ∀ k, F k → k < w.heap.size → Grs F w wx k := fun k hk hl => ⟨.inl hk, by have := hb.size; omega⟩
    have hs := hb.size
    refine ⟨h1.blk, hlt _ h.own h.blk.lt, h1.dir, hlt _ h.mF h.dir.lt, fun x hx => ?_, h1.key, h1.inj, h1.apart⟩
    have h2 := h1.ser x hx
    have h3 := h.ser x hx
    exact ⟨h2.blk, hlt _ h3.own h3.blk.lt, h2.labs, fun k e => hlt _ (h3.labF k e) (h3.labs.lt k e).2, h2.row, fun k e => hlt _ (h3.rowF k e) (h3.row.lt k e).2⟩
  refine ⟨hhd, hm, k1, by rw [k2]; rfl, fun sr => ⟨?_, ?_⟩, ht.ret, ht.newest, hbx, Chg.of_below hb⟩
  · rintro ⟨x, hx, hne, rfl⟩
    refine ⟨ht.perm.mem_iff.1 (List.mem_map.2 ⟨x, hx, rfl⟩), fun e => hne ?_⟩
    have e1 := h.key x hx
    dsimp only at e
    rw [e] at e1
    exact congrArg Prod.snd (pair_once (f := Prod.fst) h.dir.tidy hx (dget_mem hg) e1)
  · rintro ⟨h1, h2⟩
    obtain ⟨x, hx, hxe⟩ := List.mem_map.1 (ht.perm.mem_iff.2 h1)
    refine ⟨x, hx, fun e => h2 ?_, hxe⟩
    rw [← hxe]
    show s.lab x.2 = q.1
    rw [e, k1]
theorem dins_perm (x : Nm × Nat) : ∀ l : Dl, (dins x l).Perm (x :: l)
  | [] => by unfold dins; exact List.Perm.refl _
  | y :: r => by
    unfold dins
    split
    · exact List.Perm.refl _
    · exact ((dins_perm x r).cons y).trans (List.Perm.swap _ _ _)
theorem ddel_none {l : Dl} {s : Nm} (h : dget l s = none) : ddel l s = l := by
  unfold ddel
  rw [List.filter_eq_self]
  intro y hy
  simpa using dget_none.1 h y hy
/-- a function that is turned at one place -/
def upd {α : Type} (f : Nat → α) (g : Nat) (a : α) (k : Nat) : α := if k = g then a else f k
theorem upd_same {α : Type} (f : Nat → α) (g : Nat) (a : α) : upd f g a g = a := if_pos rfl
theorem upd_ne {α : Type} (f : Nat → α) {g k : Nat} (a : α) (h : k ≠ g) : upd f g a k = f k := if_neg h
def HS.new (s : HS) (l : List Lbl) (g : Nat) (v : Value) : HS := { s with dir := dput s.dir (lbytes l) g, vl := upd s.vl g v, vr := upd s.vr g (.slice none 0 0), lab := upd s.lab g l, row := upd s.row g [] }
/-- a series that is made -/
theorem mid_new {w wa wc : World} {F : Nat → Prop} {p n : Nat} {H : Hd} {q : Pt} {bx : Nat} {s : HS} {vL : Value} (h : HeadAt w F p s) (ht : Tells s H) (hok : H.Ok) (hf : fitP q.1 = true) (hg : dget s.dir (lbytes q.1) = none)
    (hb : Below w.heap.size w wa) (hbx : Blk wa bx 49 #[.int .i64 q.2.1, .float .f64 q.2.2]) (hL : wa.ownsRow w.heap.size 55 2 vL q.1.length (flatL q.1))
    (hgr : (wa.alloc (.cells #[vL, .slice none 0 0] 140)).grownBy wc (some s.m)) (hd : DirAt wc s.m n (dput s.dir (lbytes q.1) wa.heap.size)) :
    MidPut w F p H q bx wa.heap.size (s.new q.1 wa.heap.size vL) wc := by
  obtain ⟨-, f2⟩ := h.find ht hok hf
  have hfn := f2 hg
  obtain ⟨wb, hwb⟩ : ∃ wb, wb = wa.alloc (.cells #[vL, .slice none 0 0] 140) := ⟨_, rfl⟩
  have hbb : Below w.heap.size w wb := by rw [hwb]; exact hb.alloc hb.size _
  have hsz : wb.heap.size = wa.heap.size + 1 := by rw [hwb]; simp
  rw [← hwb] at hgr
  have hs1 := hb.size
  have hs2 := hgr.size
  have hml := h.dir.lt
  have hold : ∀ k, k < w.heap.size → k ≠ s.m → wc.heap[k]? = w.heap[k]? := fun k hk hne => (hgr.block k (by omega) (fun e => hne (by injection e))).trans (hbb.block k hk)
  have hch : Chg F w wc := (Chg.of_below hbb).grown hgr fun g hg => by cases hg; exact .inl h.mF
  have hlt : ∀ k, F k → k < w.heap.size → Grs F w wc k := fun k hk hl => ⟨.inl hk, by omega⟩
  have hpm : p ≠ s.m := fun e => h.dir.blk_ne h.blk e.symm
  have hin : ∀ y, y ∈ dput s.dir (lbytes q.1) wa.heap.size ↔ y = (lbytes q.1, wa.heap.size) ∨ y ∈ s.dir := fun y => by
    rw [mem_dput]
    exact ⟨fun h1 => h1.imp id And.left, fun h1 => h1.imp id fun h2 => ⟨h2, dget_none.1 hg y h2⟩⟩
  have hglt : ∀ x ∈ s.dir, x.2 < w.heap.size := fun x hx => (h.ser x hx).blk.lt
  have hne : ∀ x ∈ s.dir, x.2 ≠ wa.heap.size := fun x hx => by have := hglt x hx; omega
  have hser : ∀ x ∈ s.dir, SerAt wc (Grs F w wc) (s.new q.1 wa.heap.size vL) x.2 := fun x hx => by
    have h3 := h.ser x hx
    have hb3 : x.2 ≠ s.m := fun e => h.dir.blk_ne h3.blk e.symm
    have e1 : (s.new q.1 wa.heap.size vL).vl x.2 = s.vl x.2 := upd_ne _ _ (hne x hx)
    have e2 : (s.new q.1 wa.heap.size vL).vr x.2 = s.vr x.2 := upd_ne _ _ (hne x hx)
    have e3 : (s.new q.1 wa.heap.size vL).lab x.2 = s.lab x.2 := upd_ne _ _ (hne x hx)
    have e4 : (s.new q.1 wa.heap.size vL).row x.2 = s.row x.2 := upd_ne _ _ (hne x hx)
    refine ⟨?_, hlt _ h3.own h3.blk.lt, ?_, ?_, ?_, ?_⟩
    · rw [e1, e2]; exact (hold _ h3.blk.lt hb3).trans h3.blk
    · rw [e1, e3]; exact own_blk h3.labs fun g hg => hold g (h3.labs.lt g hg).2 fun e => h.dir.own_ne h3.labs (e ▸ hg)
    · rw [e1]; exact fun k e => hlt _ (h3.labF k e) (h3.labs.lt k e).2
    · rw [e2, e4]; exact own_blk h3.row fun g hg => hold g (h3.row.lt g hg).2 fun e => h.dir.own_ne h3.row (e ▸ hg)
    · rw [e2]; exact fun k e => hlt _ (h3.rowF k e) (h3.row.lt k e).2
  have hnm : wa.heap.size ≠ s.m := by omega
  have hLb : wb.ownsRow w.heap.size 55 2 vL q.1.length (flatL q.1) := by rw [hwb]; exact hL.alloc _
  have hdm : ∀ j, vL.ownBlock = some j → j ≠ s.m := fun j hj e => by have := (hL.lt j hj).1; omega
  have hLc : wc.ownsRow 0 55 2 vL q.1.length (flatL q.1) := own_less (own_blk hLb fun g hg => hgr.block g (hLb.lt g hg).2 (fun e => hdm g hg (by injection e))) (Nat.zero_le _)
  have hnew : SerAt wc (Grs F w wc) (s.new q.1 wa.heap.size vL) wa.heap.size := by
    have e1 : (s.new q.1 wa.heap.size vL).vl wa.heap.size = vL := upd_same _ _ _
    have e2 : (s.new q.1 wa.heap.size vL).vr wa.heap.size = .slice none 0 0 := upd_same _ _ _
    have e3 : (s.new q.1 wa.heap.size vL).lab wa.heap.size = q.1 := upd_same _ _ _
    have e4 : (s.new q.1 wa.heap.size vL).row wa.heap.size = [] := upd_same _ _ _
    refine ⟨?_, ⟨.inr hs1, by omega⟩, ?_, ?_, ?_, ?_⟩
    · rw [e1, e2]
      have : Blk wb wa.heap.size 140 #[vL, .slice none 0 0] := by rw [hwb]; exact Blk.new wa 140 _
      exact this.grown hgr (fun e => hnm (by injection e))
    · rw [e1, e3]; exact hLc
    · rw [e1]; exact fun k e => ⟨.inr (hL.lt k e).1, by have := (hLc.lt k e).2; exact this⟩
    · rw [e2, e4]; exact World.ownsRow_nil _ _ _ _
    · rw [e2]; exact fun k e => by cases e
  refine ⟨⟨?_, hlt _ h.own h.blk.lt, hd.tight, hlt _ h.mF hml, fun x hx => ?_, fun x hx => ?_, ?_, fun x hx y hy hxy => ?_⟩, (hin _).2 (.inl rfl), upd_same _ _ _, ?_, fun sr => ⟨?_, ?_⟩, ht.ret, ht.newest, ?_, hch⟩
  · exact (hold p h.blk.lt hpm).trans h.blk
  · rcases (hin x).1 hx with rfl | hx
    · exact hnew
    · exact hser x hx
  · rcases (hin x).1 hx with rfl | hx
    · show lbytes q.1 = lbytes (upd s.lab _ _ _); rw [upd_same]
    · show x.1 = lbytes (upd s.lab _ _ _); rw [upd_ne _ _ (hne x hx)]; exact h.key x hx
  · show (dput s.dir (lbytes q.1) wa.heap.size).Pairwise _
    unfold dput
    rw [ddel_none hg]
    refine ((dins_perm _ _).pairwise_iff (fun {a b} e => Ne.symm e)).2 ?_
    rw [List.pairwise_cons]
    exact ⟨fun y hy => (hne y hy).symm, h.inj⟩
  · rcases (hin x).1 hx with rfl | hx
    · exact .inl (by show (upd s.vr _ _ _).ownBlock = none; rw [upd_same]; rfl)
    · rcases (hin y).1 hy with rfl | hy
      · show (upd s.vr _ _ x.2).ownBlock = none ∨ (upd s.vr _ _ x.2).ownBlock ≠ (upd s.vr _ _ wa.heap.size).ownBlock
        rw [upd_same]
        cases hv : (upd s.vr wa.heap.size (.slice none 0 0) x.2).ownBlock with
        | none => exact .inl rfl
        | some j => exact .inr (fun e => by cases e)
      · show (upd s.vr _ _ x.2).ownBlock = none ∨ (upd s.vr _ _ x.2).ownBlock ≠ (upd s.vr _ _ y.2).ownBlock
        rw [upd_ne _ _ (hne x hx), upd_ne _ _ (hne y hy)]
        exact h.apart x hx y hy hxy
  · show upd s.row _ _ _ = _
    rw [upd_same, hfn]; rfl
  · rintro ⟨x, hx, hne2, rfl⟩
    rcases (hin x).1 hx with rfl | hx
    · exact absurd rfl hne2
    · have e3 : (s.new q.1 wa.heap.size vL).lab x.2 = s.lab x.2 := upd_ne _ _ (hne x hx)
      have e4 : (s.new q.1 wa.heap.size vL).row x.2 = s.row x.2 := upd_ne _ _ (hne x hx)
      rw [e3, e4]
      have h1 := ht.perm.mem_iff.1 (List.mem_map.2 ⟨x, hx, rfl⟩)
      exact ⟨h1, fun e => findS_none.1 hfn _ h1 e⟩
  · rintro ⟨h1, h2⟩
    obtain ⟨x, hx, hxe⟩ := List.mem_map.1 (ht.perm.mem_iff.2 h1)
    have e3 : (s.new q.1 wa.heap.size vL).lab x.2 = s.lab x.2 := upd_ne _ _ (hne x hx)
    have e4 : (s.new q.1 wa.heap.size vL).row x.2 = s.row x.2 := upd_ne _ _ (hne x hx)
    exact ⟨x, (hin x).2 (.inr hx), hne x hx, by rw [e3, e4]; exact hxe⟩
  · have : Blk wb bx 49 #[.int .i64 q.2.1, .float .f64 q.2.2] := by rw [hwb]; exact hbx.alloc _
    exact this.grown hgr (fun e => by
      injection e with e
      subst e
      have hd2 := h.dir.keep (hb.block _ hml)
      exact hd2.blk_ne hbx rfl)
theorem addS_len (l : List Lbl) (x : HSmp) : ∀ ss : List HSer, (addS l x ss).length ≤ ss.length + 1
  | [] => by simp [addS]
  | a :: ss => by
    unfold addS
    split
    · simp
    · split
      · simp
      · have := addS_len l x ss
        simp only [List.length_cons]
        omega
theorem Chg.sizes {F : Nat → Prop} {a b : World} (h : Chg F a b) : a.heap.size ≤ b.heap.size := h.size
/-- the sample lies behind its series -/
theorem mid_done {w wx wy w5 : World} {F : Nat → Prop} {p n : Nat} {H : Hd} {q : Pt} {bx g : Nat} {s1 : HS} {v5 : Value} (h : MidPut w F p H q bx g s1 wx) (hok : (H.add q).Ok) (hs : H.Ok) (hn1 : H.ss.length ≤ n) (hn2 : ∀ x ∈ H.ss, x.2.length ≤ n)
    (hb : Below wx.heap.size wx wy) (hown : w5.ownsRow 0 148 3 v5 (s1.row g ++ [(q.2.1, q.2.2, false)]).length (rowV (s1.row g ++ [(q.2.1, q.2.2, false)]))) (hgr : wy.grownBy w5 (s1.vr g).ownBlock)
    (hor : v5.ownBlock = (s1.vr g).ownBlock ∨ v5.ownBlock = some wy.heap.size) :
    HdAt ((w5.setCell ⟨g, 1, none⟩ v5).setCell ⟨p, 1, none⟩ (.int .i64 (max H.newest q.2.1))) (Grs F w ((w5.setCell ⟨g, 1, none⟩ v5).setCell ⟨p, 1, none⟩ (.int .i64 (max H.newest q.2.1)))) p (n + 1) (H.add q) ∧
      Chg F w ((w5.setCell ⟨g, 1, none⟩ v5).setCell ⟨p, 1, none⟩ (.int .i64 (max H.newest q.2.1))) := by
  obtain ⟨wz, hwz⟩ : ∃ wz, wz = (w5.setCell ⟨g, 1, none⟩ v5).setCell ⟨p, 1, none⟩ (.int .i64 (max H.newest q.2.1)) := ⟨_, rfl⟩
  rw [← hwz]
  have hd := h.hd
  have hsg := hd.ser _ h.memD
  dsimp only at hsg
  have hszy := hb.size
  have hsz5 := hgr.size
  have hszz : wz.heap.size = w5.heap.size := by rw [hwz]; simp [World.setCell]
  have hpg : p ≠ g := Blk.ne_ hd.blk hsg.blk (by decide)
  -- what is no row's, no series' and not the head's block
  have hkeep : ∀ k, k < wx.heap.size → some k ≠ (s1.vr g).ownBlock → k ≠ g → k ≠ p → wz.heap[k]? = wx.heap[k]? := fun k hk h1 h2 h3 => by
    rw [hwz]
    have e1 := Below.heap_setCell (w5.setCell ⟨g, 1, none⟩ v5) ⟨p, 1, none⟩ (.int .i64 (max H.newest q.2.1)) k h3
    have e2 := Below.heap_setCell w5 ⟨g, 1, none⟩ v5 k h2
    exact e1.trans (e2.trans ((hgr.block k (by omega) h1).trans (hb.block k hk)))
  have hrowne : ∀ {e : TypeId} {b z m : Nat} {v : Value} {xs : List Value}, wx.ownsRow b e z v m xs → e ≠ 148 → e ≠ 140 → e ≠ 126 → wz.ownsRow b e z v m xs := by
    intro e b z m v xs ho h1 h2 h3
    refine own_blk ho fun j hj => hkeep j (ho.lt j hj).2 (fun e => ?_) (fun e => ?_) fun e => ?_
    · rcases own_ne2 ho hsg.row h1 with h4 | h4
      · rw [h4] at hj; cases hj
      · exact h4 (hj.trans e)
    · exact own_blk_ne ho hsg.blk h2 (e ▸ hj)
    · exact own_blk_ne ho hd.blk h3 (e ▸ hj)
  have hgF : Grs F w wx g := hsg.own
  have hpF : Grs F w wx p := hd.own
  have hup : ∀ k, Grs F w wx k → Grs F w wz k := fun k hk => ⟨hk.1, by have := hk.2; omega⟩
  have hch : Chg F w wz := by
    rw [hwz]
    have c1 := (h.chgW.below hb h.chgW.size).grown hgr fun j hj => (hsg.rowF j hj).1
    exact (c1.setCell (p := ⟨g, 1, none⟩) hgF.1 _).setCell (p := ⟨p, 1, none⟩) hpF.1 _
  have hbg : Blk wz g 140 #[s1.vl g, v5] := by
    rw [hwz]
    have b1 : Blk w5 g 140 #[s1.vl g, s1.vr g] := (hsg.blk.below hb hsg.blk.lt).grown hgr (own_blk_ne hsg.row hsg.blk (by decide)).symm
    have b2 := b1.set_ 1 v5
    exact b2.far (p := ⟨p, 1, none⟩) (fun e => hpg e.symm) _
  have hbp : Blk wz p 126 #[.int .i64 s1.ret, .int .i64 (max H.newest q.2.1), .map (some s1.m)] := by
    rw [hwz]
    have b1 : Blk w5 p 126 _ := (hd.blk.below hb hd.blk.lt).grown hgr (own_blk_ne hsg.row hd.blk (by decide)).symm
    have b2 := b1.far (p := ⟨g, 1, none⟩) hpg v5
    exact b2.set_ 1 _
  have hdirz : DirAt wz s1.m s1.dir.length s1.dir := hd.dir.keep (hkeep _ hd.dir.lt (hd.dir.own_ne hsg.row).symm (hd.dir.blk_ne hsg.blk) (hd.dir.blk_ne hd.blk))
  have hownz : wz.ownsRow 0 148 3 v5 (s1.row g ++ [(q.2.1, q.2.2, false)]).length (rowV (s1.row g ++ [(q.2.1, q.2.2, false)])) := by
    rw [hwz]
    have b1 : Blk w5 g 140 #[s1.vl g, s1.vr g] := (hsg.blk.below hb hsg.blk.lt).grown hgr (own_blk_ne hsg.row hsg.blk (by decide)).symm
    have b3 : Blk (w5.setCell ⟨g, 1, none⟩ v5) p 126 _ := ((hd.blk.below hb hd.blk.lt).grown hgr (own_blk_ne hsg.row hd.blk (by decide)).symm).far (p := ⟨g, 1, none⟩) hpg v5
    have o1 := ownsRow_setCell_other hown (own_blk_ne hown b1 (by decide)) (a := ⟨g, 1, none⟩) v5
    exact ownsRow_setCell_other o1 (own_blk_ne o1 b3 (by decide)) (a := ⟨p, 1, none⟩) _
  have hv5F : ∀ k, v5.ownBlock = some k → Grs F w wz k := fun k hk => by
    refine ⟨?_, by have := (hownz.lt k hk).2; exact this⟩
    rcases hor with e | e
    · exact (hsg.rowF k (e ▸ hk)).1
    · rw [e] at hk
      injection hk with hk
      exact .inr (by have := h.chgW.size; omega)
  have hHead : HeadAt wz (Grs F w wz) p { s1 with newest := max H.newest q.2.1, vr := upd s1.vr g v5, row := upd s1.row g (s1.row g ++ [(q.2.1, q.2.2, false)]) } := by
    refine ⟨hbp, hup _ hpF, hdirz, hup _ hd.mF, fun x hx => ?_, hd.key, hd.inj, fun x hx y hy hxy => ?_⟩
    · have hsx := hd.ser x hx
      by_cases e : x.2 = g
      · rw [e] at hsx ⊢
        refine ⟨?_, hup _ hgF, hrowne hsx.labs (by decide) (by decide) (by decide), fun k e => hup _ (hsx.labF k e), ?_, ?_⟩
        · show Blk wz g 140 #[s1.vl g, upd s1.vr g v5 g]
          rw [upd_same]; exact hbg
        · show World.ownsRow wz 0 148 3 (upd s1.vr g v5 g) (upd s1.row g _ g).length (rowV (upd s1.row g _ g))
          rw [upd_same, upd_same]; exact hownz
        · show ∀ k, (upd s1.vr g v5 g).ownBlock = some k → _
          rw [upd_same]; exact hv5F
      · have hxm : x.2 ≠ p := Blk.ne_ hsx.blk hd.blk (by decide)
        have happ := hd.apart x hx (lbytes q.1, g) h.memD e
        dsimp only at happ
        refine ⟨?_, hup _ hsx.own, hrowne hsx.labs (by decide) (by decide) (by decide), fun k e => hup _ (hsx.labF k e), ?_, ?_⟩
        · show Blk wz x.2 140 #[s1.vl x.2, upd s1.vr g v5 x.2]
          rw [upd_ne _ _ e]
          exact (hkeep x.2 hsx.blk.lt (own_blk_ne hsg.row hsx.blk (by decide)).symm e hxm).trans hsx.blk
        · show World.ownsRow wz 0 148 3 (upd s1.vr g v5 x.2) (upd s1.row g _ x.2).length (rowV (upd s1.row g _ x.2))
          rw [upd_ne _ _ e, upd_ne _ _ e]
          refine own_blk hsx.row fun j hj => hkeep j (hsx.row.lt j hj).2 (fun e2 => ?_) (fun e2 => own_blk_ne hsx.row hsg.blk (by decide) (e2 ▸ hj)) fun e2 => own_blk_ne hsx.row hd.blk (by decide) (e2 ▸ hj)
          rcases happ with h4 | h4
          · rw [h4] at hj; cases hj
          · exact h4 (hj.trans e2)
        · show ∀ k, (upd s1.vr g v5 x.2).ownBlock = some k → _
          rw [upd_ne _ _ e]
          exact fun k e => hup _ (hsx.rowF k e)
    · show (upd s1.vr g v5 x.2).ownBlock = none ∨ (upd s1.vr g v5 x.2).ownBlock ≠ (upd s1.vr g v5 y.2).ownBlock
      have hax := hd.apart x hx y hy hxy
      by_cases e : x.2 = g
      · have ey : y.2 ≠ g := fun e2 => hxy (e.trans e2.symm)
        rw [e, upd_same, upd_ne _ _ ey]
        rcases hor with h5 | h5
        · rw [h5]
          rw [e] at hax
          exact hax
        · refine .inr fun e2 => ?_
          rw [h5] at e2
          have := ((hd.ser y hy).row.lt _ e2.symm).2
          omega
      · by_cases ey : y.2 = g
        · rw [ey, upd_same, upd_ne _ _ e]
          rcases hor with h5 | h5
          · rw [h5]
            rw [ey] at hax
            exact hax
          · refine .inr fun e2 => ?_
            rw [h5] at e2
            have := ((hd.ser x hx).row.lt _ e2).2
            omega
        · rw [upd_ne _ _ e, upd_ne _ _ ey]
          exact hax
  refine ⟨⟨_, hHead, tells_of hHead h.retE rfl hok.sorted fun sr => ?_, hok, Nat.le_trans (addS_len _ _ _) (by omega), fun x hx => ?_⟩, hch⟩
  · show (∃ x ∈ s1.dir, (s1.lab x.2, upd s1.row g _ x.2) = sr) ↔ sr ∈ addS q.1 (q.2.1, q.2.2, false) H.ss
    rw [mem_addS _ _ _ hs.sorted, ← h.oth sr, ← h.rowE]
    constructor
    · rintro ⟨x, hx, rfl⟩
      by_cases e : x.2 = g
      · refine .inr ?_
        rw [e, upd_same, h.labE]
      · refine .inl ⟨x, hx, e, ?_⟩
        rw [upd_ne _ _ e]
    · rintro (⟨x, hx, e, rfl⟩ | rfl)
      · exact ⟨x, hx, by rw [upd_ne _ _ e]⟩
      · exact ⟨_, h.memD, by dsimp only; rw [upd_same, h.labE]⟩
  · rcases (mem_addS _ _ _ hs.sorted x).1 hx with ⟨h1, _⟩ | rfl
    · have := hn2 x h1; omega
    · show (((findS q.1 H.ss).getD []) ++ [_]).length ≤ n + 1
      rw [List.length_append]
      cases hfd : findS q.1 H.ss with
      | none => simp
      | some r =>
        obtain ⟨sr, k1, k2, k3⟩ := findS_mem hfd
        have := hn2 sr k1
        rw [k3] at this
        simp
        omega
end Go.Proofs.YtbeeejpjnniejaaGreatDoor
namespace Go.Proofs.YtbeeejpjnniejaaGreatDoor
open Go.RowKit Go.Shelf Go.Maps
attribute [-go_sem] Builtin.append_
attribute [local go_sem] run_store_float
def PutPost (w : World) (F : Nat → Prop) (p n : Nat) (H : Hd) (q : Pt) (e : Ending) (w' : World) : Prop := e = .returned (.tuple #[]) ∧ HdAt w' (Grs F w w') p (n + 1) (H.add q) ∧ Chg F w w'
def MidR (w : World) (F : Nat → Prop) (p : Nat) (H : Hd) (q : Pt) (bx : Nat) (v8 : Value) (wx : World) : Prop := ∃ (g : Nat) (s1 : HS), v8 = .pointer (some ⟨g, 0, none⟩) ∧ MidPut w F p H q bx g s1 wx
set_option maxRecDepth 100000 in
set_option maxHeartbeats 6400000 in
theorem put_any (w : World) (F : Nat → Prop) (p n B : Nat) (H : Hd) (q : Pt) (AL : Option Addr) (cL : Nat) (hh : HdAt w F p n H) (hn : n ≤ 100000) (hla : LabsAt w B (.slice AL q.1.length cL) q.1) (hB : B ≤ w.heap.size) (hf : fitP q.1 = true) (hok : (H.add q).Ok) :
    Calls Tryz.prog 64 #[.pointer (some ⟨p, 0, none⟩), .string (keyS q.1), .slice AL q.1.length cL, .agg #[.int .i64 q.2.1, .float .f64 q.2.2]] w (PutPost w F p n H q) := by
  obtain ⟨s, hs, htl, hHok, hn1, hn2⟩ := hh
  obtain ⟨i0, hi, hz0, hz1, hz2⟩ := info_parts info55
  obtain ⟨j0, hj, hy0, hy1, hy2⟩ := info_parts info148
  have HI := Lib.hid hi
  have HZ0 := Lib.hid hz0
  have HZ1 := Lib.hid hz1
  have HZ2 := Lib.hid hz2
  have HJ := Lib.hid hj
  have HY0 := Lib.hid hy0
  have HY1 := Lib.hid hy1
  have HY2 := Lib.hid hy2
  clear hi hz0 hz1 hz2 hj hy0 hy1 hy2
  obtain ⟨qt, hqt⟩ : ∃ x, x = q.2.1 := ⟨_, rfl⟩
  obtain ⟨qb, hqb⟩ : ∃ x, x = q.2.2 := ⟨_, rfl⟩
  obtain ⟨nL, hnL⟩ : ∃ x, x = q.1.length := ⟨_, rfl⟩
  obtain ⟨ks, hks⟩ : ∃ x, x = keyS q.1 := ⟨_, rfl⟩
  rw [← hqt, ← hqb, ← hnL, ← hks]
  rw [← hnL] at hla
  have hkd : ks.data.toList = lbytes q.1 := by rw [hks]; rfl
  have hksz : ks.size ≤ maxLen := by
    have h1 := lbytes_len (fitP_fit hf)
    have h2 : ks.size = (lbytes q.1).length := by rw [hks]; simp [keyS, ByteArray.size]
    unfold maxLen
    omega
  have hnL64 : nL ≤ 64 := by rw [hnL]; exact (fitP_fit hf).1
  obtain ⟨w1, hw1⟩ : ∃ w1, w1 = w.alloc (.cells #[.int .i64 qt, .float .f64 qb] 49) := ⟨_, rfl⟩
  have hb1 : Below w.heap.size w w1 := by rw [hw1]; exact (Below.refl _ w).alloc (Nat.le_refl _) _
  have hbx : Blk w1 w.heap.size 49 #[.int .i64 qt, .float .f64 qb] := by rw [hw1]; exact Blk.new w 49 _
  have hwx : w1.heap.size = w.heap.size + 1 := by rw [hw1]; simp
  have hp1 := hs.blk.below hb1 hs.blk.lt
  have y2 : w1.cell? ⟨p, 2, none⟩ = some (.map (some s.m)) := hp1.cell 2
  have hlk : (Instr.lookup 124 (.map (some s.m)) (.string ks) false).run Tryz.prog w1 = .ok (ptrV (dget s.dir ks.data.toList)) w1 := DirAt.look124 (hs.dir.keep (hb1.block _ hs.dir.lt)) ks hksz
  rw [hkd] at hlk
  have HS := Lib.hid hs
  have HTL := Lib.hid htl
  have HHO := Lib.hid hHok
  have HN1 := Lib.hid hn1
  have HN2 := Lib.hid hn2
  have HLA := Lib.hid hla
  have HBB := Lib.hid hB
  have HF := Lib.hid hf
  have HOK := Lib.hid hok
  have HQT := Lib.hid hqt
  have HQB := Lib.hid hqb
  have HNL := Lib.hid hnL
  have HKD := Lib.hid hkd
  have HKZ := Lib.hid hksz
  have HW1 := Lib.hid hw1
  have HB1 := Lib.hid hb1
  have HBX := Lib.hid hbx
  have HWX := Lib.hid hwx
  have HP1 := Lib.hid hp1
  clear hs htl hHok hn1 hn2 hla hB hf hok hqt hqb hnL hks hkd hksz hw1 hb1 hbx hwx hp1
  go_enter Tryz.func64, Tryz.ntmps64
  go_upto_region 1 with (fail)
  rw [← HW1.out]
  go_cut [8] from 9 to 14 (fun v8 wx => v8 = ptrV (dget s.dir (lbytes q.1)) ∧ wx = w1)
  case first =>
    go_wp2
    go_meet
    exact ⟨rfl, rfl⟩
  obtain ⟨rfl, hwc⟩ := hcut
  rw [hwc]
  clear hwc hlk
  rename_i Kx hKx
  refine hKx _ _ ?_
  clear hKx
  refine wp_seq_k fun K1 hK1 => ?_
  have hdl : s.dir.length ≤ 100000 := by
    have h1 := HTL.out.perm.length_eq
    rw [List.length_map] at h1
    have := HN1.out
    omega
  go_cut [8] from 15 to 26 (fun v8 wx => MidR w F p H q w.heap.size v8 wx)
  case first =>
    cases hg : dget s.dir (lbytes q.1) with
    | some g =>
      have HMD := Lib.hid (mid_there (n := n) HS.out HTL.out HHO.out HF.out hg HB1.out (by rw [← HQT.out, ← HQB.out]; exact HBX.out))
      clear hg y2
      have hpv : ptrV (some g) = .pointer (some ⟨g, 0, none⟩) := rfl
      rw [hpv]
      clear hpv
      go_wp2
      go_meet
      exact ⟨g, s, rfl, HMD.out⟩
    | none =>
      obtain ⟨Ax, cx, hex, hrx⟩ := HLA.out
      injection hex with ha1 ha2 ha3
      subst ha1 ha3
      have HRX := Lib.hid (hrx.keep (w' := w1) fun a ha => HB1.out.cell (by have := HBB.out; omega))
      rw [← HNL.out] at HRX
      have HG := Lib.hid hg
      have hpv : ptrV none = .pointer none := rfl
      rw [hpv]
      have hws := HWX.out
      have HWS := Lib.hid (show w.heap.size ≤ w1.heap.size by omega)
      have hbb := HBB.out
      clear hg hpv ha2 hrx hws
      go_upto_region 4 with (at_builtin; go_loud (refine wpList_append_any _ rfl (.const (.slice none 0 0)) (.tmp 17) 37 rfl w.heap.size 55 i0 (.agg #[.string ⟨#[]⟩, .string ⟨#[]⟩]) 2 32 Tryz.underlying37 HI.out HZ0.out HZ1.out HZ2.out rfl (by omega) (.slice none 0 0) 0 [] rfl (World.ownsRow_nil _ _ _ _) B AL nL cL (flatL q.1) rfl HRX.out (flatL_one _) (by simp [maxLen]; omega) (by omega) HWS.out ?_; intro v2 w2 hown2 hgrow2 _; rw [Nat.zero_add, List.nil_append] at hown2; obtain ⟨A2, c2, hv2⟩ := own_slice hown2; subst hv2; have HW2 := Lib.hid hown2; have HG2 := Lib.hid (below_of_only hgrow2); clear hown2 hgrow2))
      obtain ⟨w3, hw3⟩ : ∃ w3, w3 = w2.alloc (.cells #[.slice A2 nL c2, .slice none 0 0] 140) := ⟨_, rfl⟩
      rw [← hw3]
      have hb3 : Below w1.heap.size w1 w3 := by rw [hw3]; exact HG2.out.alloc HG2.out.size _
      have y3 : w3.cell? ⟨p, 2, none⟩ = some (.map (some s.m)) := (HP1.out.below hb3 HP1.out.lt).cell 2
      have HD3 := Lib.hid (HS.out.dir.keep ((hb3.block _ (by have := HS.out.dir.lt; have := HWS.out; omega)).trans (HB1.out.block _ HS.out.dir.lt)))
      have HW3 := Lib.hid hw3
      clear hw3 hb3 y2
      go_wp2_with (at_mapUpdate; go_loud (refine wpList_mapUpdate_own _ rfl _ _ _ 124 rfl 9 136 law9 Tryz.underlying124 ptrElem s.m s.dir.length (dirD s.dir) rfl HD3.out (by simp [maxLen]; omega) _ _ (.string ks.data.toList) rfl rfl (key_nm ks HKZ.out) (.lit (.int .i64 (w2.heap.size : Int))) [] rfl ?_; intro w4 hown4 hgrow4; have HO4 := Lib.hid hown4; have HG4 := Lib.hid hgrow4; clear hown4 hgrow4))
      go_meet
      refine ⟨w2.heap.size, s.new q.1 w2.heap.size (.slice A2 nL c2), rfl, ?_⟩
      have hd4 : DirAt w4 s.m (s.dir.length + 1) (dput s.dir (lbytes q.1) w2.heap.size) := by
        have := HO4.out
        rw [dirD_put, HKD.out] at this
        exact this
      refine mid_new (n := s.dir.length + 1) HS.out HTL.out HHO.out HF.out HG.out (HB1.out.trans (HG2.out.mono HWS.out)) ?_ ?_ (by rw [← HW3.out]; exact HG4.out) hd4
      · rw [← HQT.out, ← HQB.out]
        exact HBX.out.below HG2.out HBX.out.lt
      · rw [← HNL.out]; exact HW2.out
  case rest =>
    obtain ⟨g, s1, rfl, hm⟩ := hcut
    refine hK1 _ _ ?_
    clear hK1 y2
    have hsg := hm.hd.ser _ hm.memD
    dsimp only at hsg
    obtain ⟨rw_, hrw⟩ : ∃ r, r = s1.row g := ⟨_, rfl⟩
    obtain ⟨rn, hrn⟩ : ∃ r, r = rw_.length := ⟨_, rfl⟩
    obtain ⟨Ar, cr, hvr⟩ := own_slice hsg.row
    rw [← hrw, ← hrn] at hvr
    have how := hsg.row
    have hbg := hsg.blk
    rw [hvr, ← hrw, ← hrn] at how
    rw [hvr] at hbg
    have hrnn : rn ≤ n := by
      rw [hrn, hrw, hm.rowE]
      cases hfd : findS q.1 H.ss with
      | none => simp
      | some r =>
        obtain ⟨sr, k1, k2, k3⟩ := findS_mem hfd
        have := HN2.out sr k1
        rw [k3] at this
        simpa using this
    have hbox := hm.boxB
    rw [← HQT.out, ← HQB.out] at hbox
    have hnw := hm.newE
    have hbp := hm.hd.blk
    rw [hnw] at hbp
    have c1 : wc.cell? ⟨g, 1, none⟩ = some (.slice Ar rn cr) := hbg.cell 1
    have z1 := hbg.frozen 1
    have b0 : wc.cell? ⟨w.heap.size, 0, none⟩ = some (.int .i64 qt) := hbox.cell 0
    have b1 : wc.cell? ⟨w.heap.size, 1, none⟩ = some (.float .f64 qb) := hbox.cell 1
    have hml := hbox.lt
    have hgl := hbg.lt
    have c1a : ∀ o, (wc.alloc o).cell? ⟨g, 1, none⟩ = some (.slice Ar rn cr) := fun o => (hbg.alloc o).cell 1
    have HM := Lib.hid hm
    have HRW := Lib.hid hrw
    have HRN := Lib.hid hrn
    have HVR := Lib.hid hvr
    have HOW := Lib.hid how
    have HBG := Lib.hid hbg
    have HBP := Lib.hid hbp
    have HBO := Lib.hid hbox
    clear hm hsg hrw hrn hvr how hbg hbox hnw hbp
    go_upto_region 5 with (fail)
    go_region_law (first
      | (refine step_append_any _ (by rfl) (.tmp 31) (.tmp 34) 138 (by rfl) 0 148 j0 (.agg #[.int .i64 0, .float .f64 0, .bool false]) 3 24 Tryz.underlying138 HJ.out HY0.out HY1.out HY2.out rfl (by omega) (.slice Ar rn cr) rn (rowV rw_) (by rfl) (World.ownsRow.alloc (w := wc.drew) HOW.out _) (wc.heap.size + 1) (some ⟨wc.heap.size, 0, none⟩) 1 1 [.int .i64 qt, .float .f64 qb, .bool false] (by rfl) ⟨rfl, fun _ => ⟨_, rfl, Nat.lt_succ_self _, cells_newL wc.drew 148 _ _ rfl⟩⟩ (by simp [Value.oneCell']) (by simp [maxLen]; omega) (by omega) (Nat.zero_le _) ?_; intro v5 w5 hown5 hgrow5 hor5; obtain ⟨A5, c5, hv5⟩ := own_slice hown5; subst hv5; have bg1 : Blk (wc.drew.alloc (.cells #[.int .i64 qt, .float .f64 qb, .bool false] 148)) g 140 #[s1.vl g, .slice Ar rn cr] := Blk.alloc (w := wc.drew) HBG.out _; have ho1 : World.ownsRow (wc.drew.alloc (.cells #[.int .i64 qt, .float .f64 qb, .bool false] 148)) 0 148 3 (.slice Ar rn cr) rn (rowV rw_) := World.ownsRow.alloc (w := wc.drew) HOW.out _; have bg2 := bg1.grown hgrow5 (own_blk_ne ho1 bg1 (by decide)).symm; have bp1 : Blk (wc.drew.alloc (.cells #[.int .i64 qt, .float .f64 qb, .bool false] 148)) p 126 #[.int .i64 s1.ret, .int .i64 H.newest, .map (some s1.m)] := Blk.alloc (w := wc.drew) HBP.out _; have bp2 := bp1.grown hgrow5 (own_blk_ne ho1 bp1 (by decide)).symm; have bx1 : Blk (wc.drew.alloc (.cells #[.int .i64 qt, .float .f64 qb, .bool false] 148)) w.heap.size 49 #[.int .i64 qt, .float .f64 qb] := Blk.alloc (w := wc.drew) HBO.out _; have bx2 := bx1.grown hgrow5 (own_blk_ne ho1 bx1 (by decide)).symm; have e5 : w5.cell? ⟨g, 1, none⟩ = some (.slice Ar rn cr) := bg2.cell 1; have f5 := bg2.frozen 1; have HBG5 := Lib.hid bg2; have HBP5 := Lib.hid bp2; have HBX5 := Lib.hid bx2; have HW5 := Lib.hid hown5; have HG5 := Lib.hid hgrow5; have HO5 := Lib.hid hor5; clear hown5 hgrow5 hor5 bg1 bg2 bp1 bp2 bx1 bx2 ho1))
    all_goals
      clear c1 z1 b0 b1 c1a e5 f5
      have hpg : p ≠ g := Blk.ne_ HBP.out HBG.out (by decide)
      have hbg : w.heap.size ≠ g := Blk.ne_ HBO.out HBG.out (by decide)
      have p6 : Blk (w5.setCell ⟨g, 1, none⟩ (.slice A5 (rn + 1) c5)) p 126 #[.int .i64 s1.ret, .int .i64 H.newest, .map (some s1.m)] := HBP5.out.far (p := ⟨g, 1, none⟩) hpg _
      have x6 : Blk (w5.setCell ⟨g, 1, none⟩ (.slice A5 (rn + 1) c5)) w.heap.size 49 #[.int .i64 qt, .float .f64 qb] := HBX5.out.far (p := ⟨g, 1, none⟩) hbg _
      obtain ⟨w6, hw6⟩ : ∃ x, x = w5.setCell ⟨g, 1, none⟩ (.slice A5 (rn + 1) c5) := ⟨_, rfl⟩
      rw [← hw6] at p6 x6 ⊢
      have n6 : w6.cell? ⟨p, 1, none⟩ = some (.int .i64 H.newest) := p6.cell 1
      have m6 : w6.frozen? ⟨p, 1, none⟩ = false := p6.frozen 1
      have b6 : w6.cell? ⟨w.heap.size, 0, none⟩ = some (.int .i64 qt) := x6.cell 0
      have HW6 := Lib.hid hw6
      clear hw6 p6 x6 hpg hbg
      go_wp2_with (fail)
      go_region
    all_goals
      refine bodyPost_end (results_none rfl _ _ _) rfl ?_
      rw [HW6.out]
      obtain ⟨wy, hwy⟩ : ∃ x, x = (wc.alloc (.cells #[.int .i64 qt, .float .f64 qb, .bool false] 148)).drew := ⟨_, rfl⟩
      have hb : Below wc.heap.size wc wy := by rw [hwy]; exact ((Below.refl _ wc).alloc (Nat.le_refl _) _).drew
      have hg5 := HG5.out
      have ho5 := HO5.out
      rw [← hwy, ← HVR.out] at hg5
      rw [← hwy, ← HVR.out] at ho5
      have hrw := HRW.out
      have hmd := mid_done HM.out HOK.out HHO.out HN1.out HN2.out hb (v5 := .slice A5 (rn + 1) c5) (w5 := w5) (by
        rw [← hrw, ← HQT.out, ← HQB.out, List.length_append, ← HRN.out, rowV_append]
        exact HW5.out) hg5 ho5
      rw [← HQT.out] at hmd
      exact ⟨rfl, hmd.1.keep (fun _ _ _ => rfl) (Nat.le_refl _), hmd.2.drew⟩
end Go.Proofs.YtbeeejpjnniejaaGreatDoor
