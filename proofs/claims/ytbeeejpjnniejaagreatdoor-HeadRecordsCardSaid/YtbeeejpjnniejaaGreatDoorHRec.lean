/- Record (55): what it does with each point that would be taken (112). -/
import Derived.Test.YtbeeejpjnniejaaGreatDoorHRecP
import Derived.Test.YtbeeejpjnniejaaGreatDoorHEight
import Derived.Test.YtbeeejpjnniejaaGreatDoorJ09HCommit1
namespace Go.Proofs.YtbeeejpjnniejaaGreatDoor
open Go.RowKit Go.Shelf Go.Maps
attribute [-go_sem] Builtin.append_
attribute [local go_sem] tobits_call
theorem step_call1 {P : Program} {w : World} {ops : Array Oper} {o : Oper} {a : Act} {K : Act → World → Prop} {Q : Exit → Act → World → Prop} {E : Prop} (hgd : o.guard = none) (f : FuncId) (x : Operand) (ts : Array TypeId)
    (ho : o.op = .call { callee := .value (.func f), args := #[x], argTypes := ts }) (ef : ∀ args w, (callFunc f args).run P w = .ok (.enter f args) w) (v : Value) (hx : a.eval x = v)
    (h : Calls P f #[v] w fun e w' => ∃ r, e = .returned r ∧ K (a.put o.dst r) w') : if Region.wanted o (yielded ops a.tmps) = true then Oper.wp P o a w K Q else E := by
  have hw : Region.wanted o (yielded ops a.tmps) = true := by simp [Region.wanted, hgd]
  rw [if_pos hw]
  unfold Oper.wp execOp
  have hf : a.eval (.func f) = .func (.func f) #[] #[] := rfl
  simp only [ho, resolve, invoke, Sem.run_bind, List.map_toArray, List.map_cons, List.map_nil, hx, hf]
  have e : (Deferred.ofValue (.func (.func f) #[] #[]) #[v]).run P w = .ok { target := .fn (.func f) #[], args := #[v] } w := by simp [Deferred.ofValue, go_sem]
  rw [e]
  simp only [Result.andThen_ok, Array.append_empty, ef, Oper.upon_enter]
  refine h.mono ?_
  rintro e w' ⟨r, rfl, hk⟩
  exact hk
section
variable {P : Program} (w : World)
/-- where the row lies that a text's bytes were laid behind -/
theorem str_where (base : Nat) (t u ty e : TypeId) (i : TypeInfo) (ht : P.underlying t = some (.slice e)) (hu : P.underlying u = some .string) (hi : P.info? e = some i) (hz : i.zero = some (.int .u8 0)) (hsize : i.size = 1) (hby : i.bytes = 1)
    (v : Value) (n : Nat) (xs : List Value) (hown : w.ownsRow base e 1 v n xs) (s : ByteArray) (h0 : 0 < n) (h63 : n + s.size ≤ maxLen) (hbytes : n + s.size ≤ 140737488355328)
    {v' : Value} {w' : World} (hr : (Builtin.append_ #[t, u] ty #[v, .string s]).run P w = .ok v' w') : v'.ownBlock = v.ownBlock ∨ v'.ownBlock = some w.heap.size := by
  rcases hown.2 with ⟨-, e0⟩ | ⟨g, cap, cur, rfl, hbg, hg, hnc, hcm, hcs, htake⟩
  · omega
  · have hxl : xs.length = n := by simpa using hown.1
    by_cases hroom : n + s.size ≤ cap
    · have h1 := Lib.run_append_room_string (P := P) w t u ty e i ht hu hi hsize g n cap cur hg s hroom (by omega)
      rw [hr] at h1
      injection h1 with h1 _
      rw [h1]
      exact .inl rfl
    · have hsmall : n + s.size ≤ 9223372036854775807 := by simp only [maxLen] at h63; omega
      have holds : ∀ j u, xs[j]? = some u → w.cell? ((⟨g, 0, none⟩ : Addr).add j) = some u := hown.cells (g := g) rfl
      have h1 := Lib.run_append_grow_string (P := P) w t u ty e i (.int .u8 0) ht hu hi hz ⟨g, 0, none⟩ n cap xs (by rw [hsize]; simpa using hxl) holds s (by omega) (by omega) (by rw [hby]; exact growslice_fits (by omega) (by omega))
      rw [hr] at h1
      injection h1 with h1 _
      rw [h1]
      exact .inr rfl
theorem wpList_append_strAt {ops : Array Oper} {rest : List Oper} {o : Oper} {a : Act} {Q : Exit → Act → World → Prop} (hgd : o.guard = none) (sl x : Operand) (t u : TypeId)
    (ho : o.op = .call { callee := .builtin .append, args := #[sl, x], argTypes := #[t, u] })
    (base : Nat) (e : TypeId) (i : TypeInfo) (ht : P.underlying t = some (.slice e)) (hu : P.underlying u = some .string) (hi : P.info? e = some i) (hz : i.zero = some (.int .u8 0))
    (hsize : i.size = 1) (hby : i.bytes = 1)
    (v : Value) (n : Nat) (xs : List Value) (hs : a.eval sl = v) (hown : w.ownsRow base e 1 v n xs) (s : ByteArray) (hx : a.eval x = .string s)
    (h0 : 0 < n) (h63 : n + s.size ≤ maxLen) (hbytes : n + s.size ≤ 140737488355328) (hbase : base ≤ w.heap.size)
    (h : ∀ v' w', w'.ownsRow base e 1 v' (n + s.size) (xs ++ bytesV s.data.toList) → w.grownBy w' v.ownBlock → (v'.ownBlock = v.ownBlock ∨ v'.ownBlock = some w.heap.size) → wpList P ops Q rest (a.put o.dst v') w') : wpList P ops Q (o :: rest) a w := by
  refine wpList_plain hgd fun K hK => ?_
  obtain ⟨v', w', hr, h2, h3, -⟩ := Lib.run_append_own_string (P := P) w base t u o.type e i ht hu hi hz hsize hby v n xs hown s h63 hbytes hbase
  have hw := str_where w base t u o.type e i ht hu hi hz hsize hby v n xs hown s h0 h63 hbytes hr
  unfold Oper.wp execOp
  simp only [ho, resolve, invoke, builtin, Sem.run_bind, Sem.run_pure, Result.andThen_ok, List.map_toArray, List.map_cons, List.map_nil, hs, hx, hr]
  exact hK _ _ (h v' w' h2 h3 hw)
end
/-- what has been written down, in its box, since W0 -/
structure RecT (W0 : World) (base bo : Nat) (v0 : Value) (raw : List UInt8) (n : Nat) (W : World) (v : Value) : Prop where
  box : Blk W bo 90 #[v]
  len : raw.length = n
  row : W.ownsRow base 5 1 v n (bytesV raw)
  chg : Chg (fun k => k = bo ∨ v0.ownBlock = some k) W0 W
  at_ : ∀ k, v.ownBlock = some k → v0.ownBlock = some k ∨ W0.heap.size ≤ k
theorem RecT.below {W0 W W' : World} {base bo n : Nat} {v0 v : Value} {raw : List UInt8} (h : RecT W0 base bo v0 raw n W v) (hb : Below W.heap.size W W') : RecT W0 base bo v0 raw n W' v :=
  ⟨h.box.below hb h.box.lt, h.len, own_blk h.row fun j hj => hb.block j (h.row.lt j hj).2, h.chg.below hb h.chg.size, h.at_⟩
theorem RecT.keep {W0 W : World} {base bo n b : Nat} {v0 v : Value} {raw : List UInt8} {ty : TypeId} {cs : Array Value} (h : RecT W0 base bo v0 raw n W v) (hx : Blk W0 b ty cs) (hne : b ≠ bo) (hn : v0.ownBlock ≠ some b) : Blk W b ty cs :=
  (h.chg.block b hx.lt fun hf => hf.elim hne hn).trans hx
theorem RecT.drew {W0 W : World} {base bo n : Nat} {v0 v : Value} {raw : List UInt8} (h : RecT W0 base bo v0 raw n W v) : RecT W0 base bo v0 raw n W.drew v := h.below ((Below.refl _ W).drew)
theorem RecT.step {W0 W w5 : World} {base bo n m : Nat} {v0 v v5 : Value} {raw new : List UInt8} (h : RecT W0 base bo v0 raw n W v) (hm : new.length = m) (ho : w5.ownsRow base 5 1 v5 (n + m) (bytesV raw ++ bytesV new)) (hg : W.grownBy w5 v.ownBlock) (hw : v5.ownBlock = v.ownBlock ∨ v5.ownBlock = some W.heap.size) (hbo : bo < W0.heap.size) :
    RecT W0 base bo v0 (raw ++ new) (n + m) (w5.setCell ⟨bo, 0, none⟩ v5) v5 := by
  have b1 : Blk w5 bo 90 #[v] := h.box.grown hg (own_blk_ne h.row h.box (by decide)).symm
  have hs := h.chg.size
  rw [← bytesV_append] at ho
  refine ⟨b1.set_ 0 v5, by rw [List.length_append, h.len, hm], ownsRow_setCell_other ho (own_blk_ne ho b1 (by decide)) (a := ⟨bo, 0, none⟩) v5, ?_, fun k hk => ?_⟩
  · exact (h.chg.grown hg fun k hk => by
      rcases h.at_ k hk with h1 | h1
      · exact .inl (.inr h1)
      · exact .inr h1).setCell (p := ⟨bo, 0, none⟩) (.inl (.inl rfl)) _
  · rcases hw with h1 | h1
    · exact h.at_ k (h1 ▸ hk)
    · rw [h1] at hk
      injection hk with hk
      exact .inr (by omega)
theorem enters113 : ∀ args w, (callFunc 113 args).run Tryz.prog w = .ok (.enter 113 args) w := enters_of Tryz.func113 (by kernel_rfl) rfl
structure RecB (B base bo : Nat) (l : List Pt) (G : Nat → Prop) (W : World) (v : Value) : Prop where
  box : Blk W bo 90 #[v]
  row : W.ownsRow base 5 1 v (recB l).length (bytesV (recB l))
  own : ∀ k, G k ↔ (k = bo ∨ v.ownBlock = some k)
  lo : B ≤ base ∧ base ≤ bo
  few : (recB l).length ≤ 200000 * l.length
structure RecN (B base bo : Nat) (l : List Pt) (n : Nat) (G : Nat → Prop) (W : World) (v : Value) : Prop where
  box : Blk W bo 90 #[v]
  row : W.ownsRow base 5 1 v n (bytesV (recB l))
  own : ∀ k, G k ↔ (k = bo ∨ v.ownBlock = some k)
  lo : B ≤ base ∧ base ≤ bo
def RecJ (B base bo : Nat) (l : List Pt) (G : Nat → Prop) (W : World) : Prop := ∃ v, RecB B base bo l G W v
set_option maxRecDepth 100000 in
set_option maxHeartbeats 6400000 in
theorem recTake (B base bo N : Nat) (Q : Nat → Prop) (hN : N ≤ 10000) : TakeAt 112 #[.pointer (some ⟨bo, 0, none⟩)] B N Q (RecJ B base bo) where
  keep l G W W' h hk _ := by
    obtain ⟨v, h⟩ := h
    exact ⟨v, (hk bo (.inl ((h.own _).2 (.inl rfl)))).trans h.box, own_blk h.row fun g hg => hk g (.inl ((h.own _).2 (.inr hg))), h.own, h.lo, h.few⟩
  lt l G W h k hk := by
    obtain ⟨v, h⟩ := h
    obtain ⟨l1, l2⟩ := h.lo
    rcases (h.own k).1 hk with rfl | hk
    · exact ⟨Nat.le_trans l1 l2, h.box.lt⟩
    · have := h.row.lt k hk; omega
  call l G W p A c h hl hB hla hQ hf := by
    obtain ⟨v, h⟩ := h
    obtain ⟨i0, hi, hz0, hz1, hz2⟩ := info_parts info5
    have HI := Lib.hid hi
    have HZ0 := Lib.hid hz0
    have HZ1 := Lib.hid hz1
    have HZ2 := Lib.hid hz2
    clear hi hz0 hz1 hz2
    obtain ⟨n, hn⟩ : ∃ n, n = (recB l).length := ⟨_, rfl⟩
    have hfew := h.few
    have hnb : n ≤ 2000000000 := by
      rw [hn]
      have := Nat.mul_le_mul_left 200000 (show l.length ≤ 10000 by omega)
      omega
    replace h : RecN B base bo l n G W v := ⟨h.box, hn.symm ▸ h.row, h.own, h.lo⟩
    obtain ⟨A0, c0, rfl⟩ := own_slice h.row
    obtain ⟨pl, pt, pb⟩ := p
    dsimp only
    dsimp only at hla hf hQ
    obtain ⟨ks, hks⟩ : ∃ ks, ks = keyS pl := ⟨_, rfl⟩
    rw [← hks]
    have hkd : ks.data.toList = lbytes pl := by rw [hks]; rfl
    have hkl := lbytes_len (fitP_fit hf)
    have hksz : ks.size = (lbytes pl).length := by rw [← hkd]; simp
    obtain ⟨kn, hkn⟩ : ∃ kn, kn = ks.size := ⟨_, rfl⟩
    have hkn2 : kn ≤ 131329 := by omega
    obtain ⟨w1, hw1⟩ : ∃ w1, w1 = W.alloc (.cells #[.slice A pl.length c, .int .i64 pt, .float .f64 pb] 57) := ⟨_, rfl⟩
    have hb1 : Below W.heap.size W w1 := by rw [hw1]; exact (Below.refl _ W).alloc (Nat.le_refl _) _
    have hbx : Blk w1 W.heap.size 57 #[.slice A pl.length c, .int .i64 pt, .float .f64 pb] := by rw [hw1]; exact Blk.new W 57 _
    have HT1 := Lib.hid (show RecT w1 base bo (.slice A0 n c0) (recB l) n w1 (.slice A0 n c0) from ⟨h.box.below hb1 h.box.lt, hn.symm, own_blk h.row fun j hj => hb1.block j (h.row.lt j hj).2, Chg.refl _ _, fun k hk => .inl hk⟩)
    have hbo : bo < W.heap.size := h.box.lt
    have hbw : bo < w1.heap.size := by have := hb1.size; omega
    have hbb1 : base ≤ w1.heap.size := by have := h.lo; have := hb1.size; omega
    have x1 : w1.cell? ⟨bo, 0, none⟩ = some (.slice A0 n c0) := HT1.out.box.cell 0
    have z1 := HT1.out.box.frozen 0
    have HBX := Lib.hid hbx
    have HW1 := Lib.hid hw1
    obtain ⟨tn, htn⟩ : ∃ tn : Nat, tn = (pt % 18446744073709551616).toNat := ⟨_, rfl⟩
    have HTN := Lib.hid (show IntKind.u64.wrap pt = (tn : Int) by rw [htn]; show pt % 18446744073709551616 = _; omega)
    have HF := Lib.hid (show ∀ w' A' c', RecT w1 base bo (.slice A0 n c0) (recB l ++ eightL kn ++ lbytes pl ++ eightL tn ++ eightL pb) (n + 8 + kn + 8 + 8) w' (.slice A' (n + 8 + kn + 8 + 8) c') → (∃ G', RecJ B base bo (l ++ [(pl, pt, pb)]) G' w' ∧ Chg G W w' ∧ ∀ k, G' k → G k ∨ W.heap.size ≤ k) from by
      intro w' A' c' h9
      have eB : recB l ++ eightL kn ++ lbytes pl ++ eightL tn ++ eightL pb = recB (l ++ [(pl, pt, pb)]) := by
        rw [show recB (l ++ [(pl, pt, pb)]) = recB l ++ recB1 (pl, pt, pb) by unfold recB; simp]
        unfold recB1 numB
        rw [← htn, ← hksz, ← hkn]
        simp only [List.append_assoc]
      rw [eB] at h9
      have hlen : (recB (l ++ [(pl, pt, pb)])).length = n + 8 + kn + 8 + 8 := h9.len
      have hst : (W.heap.size : Nat) ≤ w1.heap.size := hb1.size
      refine ⟨fun k => k = bo ∨ (Value.slice A' (n + 8 + kn + 8 + 8) c').ownBlock = some k, ⟨_, ⟨h9.box, by rw [hlen]; exact h9.row, fun k => Iff.rfl, h.lo, by rw [hlen, List.length_append, List.length_singleton]; omega⟩⟩, ?_, ?_⟩
      · exact (Chg.of_below (F := G) hb1).trans h9.chg fun k hk => .inl ((h.own k).2 hk)
      · rintro k (rfl | hk)
        · exact .inl ((h.own _).2 (.inl rfl))
        · rcases h9.at_ k hk with h1 | h1
          · exact .inl ((h.own k).2 (.inr h1))
          · exact .inr (by omega))
    have HNX := Lib.hid (show (Value.slice A0 n c0).ownBlock ≠ some W.heap.size from fun e => by have := (h.row.lt _ e).2; omega)
    have HH := Lib.hid h
    have HN := Lib.hid hn
    have HKD := Lib.hid hkd
    have HKN := Lib.hid hkn
    have HKZ := Lib.hid hksz
    have hs1 : w1.heap.size = W.heap.size + 1 := by rw [hw1]; simp
    have HS1 := Lib.hid hs1
    have hbb : base ≤ W.heap.size := by have := h.lo; omega
    have e1 : IntKind.u64.wrap (kn : Int) = (kn : Int) := IntWalk.u64_in _ (by omega)
    have hksk : (ks.size : Int) = (kn : Int) := by rw [hkn]
    clear h hb1 hbx hw1 hn hkd hkn hksz htn hs1 hla hQ hf hks hkl hfew
    go_enter Tryz.func112, Tryz.ntmps112
    go_upto_region 1 with fail
    rw [← HW1.out]
    go_cut [] from 5 to 10 (fun wx => ∃ A4 c4, RecT w1 base bo (.slice A0 n c0) (recB l ++ eightL kn) (n + 8) wx (.slice A4 (n + 8) c4))
    case first =>
      go_region_law (first
        | (refine step_call1 (by rfl) 113 (.tmp 8) #[203] (by rfl) enters113 (.int .u64 (kn : Int)) (by rfl) ?_; refine (eight_any _ kn).mono ?_; rintro e w2 ⟨v5, rfl, ho5, hb5⟩; refine ⟨_, rfl, ?_⟩; obtain ⟨A5, c5, hv5⟩ := own_slice ho5; subst hv5; have ht2 := HT1.out.drew.below hb5; have x2 : w2.cell? ⟨bo, 0, none⟩ = some (.slice A0 n c0) := ht2.box.cell 0; have z2 := ht2.box.frozen 0; have HT2 := Lib.hid ht2; have HO5 := Lib.hid ho5; have HB5 := Lib.hid hb5; clear ho5 hb5 ht2)
        | (refine step_append_any _ (by rfl) (.tmp 5) (.tmp 9) 90 (by rfl) base 5 i0 (.int .u8 0) 1 1 Tryz.underlying90 HI.out HZ0.out HZ1.out HZ2.out rfl (by omega) (.slice A0 n c0) n (bytesV (recB l)) (by rfl) (HT2.out.row) w2.heap.size A5 8 c5 (bytesV (eightL kn)) (by rfl) (Reads.of_own HO5.out) (bytesV_one _) (by simp [maxLen]; omega) (by omega) (by have := HT2.out.chg.size; omega) ?_; intro v6 w3 hown3 hgrow3 hor3; obtain ⟨A6, c6, hv6⟩ := own_slice hown3; subst hv6; have b3 := HT2.out.box.grown hgrow3 (own_blk_ne HT2.out.row HT2.out.box (by decide)).symm; have x3 : w3.cell? ⟨bo, 0, none⟩ = some (.slice A0 n c0) := b3.cell 0; have z3 := b3.frozen 0; have HO3 := Lib.hid hown3; have HG3 := Lib.hid hgrow3; have HL3 := Lib.hid hor3; clear hown3 hgrow3 hor3 b3))
      all_goals
        go_wp2
        go_meet
        refine ⟨A6, c6, ?_⟩
        exact HT2.out.step (eightL_len _) HO3.out HG3.out HL3.out hbw
    obtain ⟨A4, c4, ht4⟩ := hcut
    rename_i Kx hKx
    refine hKx _ _ ?_
    clear hKx x1 z1 e1 hksk
    obtain ⟨w4, hw4⟩ : ∃ x, x = wc := ⟨_, rfl⟩
    subst hw4
    have x4 : w4.cell? ⟨bo, 0, none⟩ = some (.slice A4 (n + 8) c4) := ht4.box.cell 0
    have z4 := ht4.box.frozen 0
    have hb4 : base ≤ w4.heap.size := by have := ht4.chg.size; omega
    have bx4 := ht4.keep HBX.out (by omega) HNX.out
    have d14 : w4.cell? ⟨W.heap.size, 1, none⟩ = some (.int .i64 pt) := bx4.cell 1
    have d24 : w4.cell? ⟨W.heap.size, 2, none⟩ = some (.float .f64 pb) := bx4.cell 2
    have HT4 := Lib.hid ht4
    clear ht4 bx4
    refine wp_seq_k fun K2 hK2 => ?_
    go_cut [] from 11 to 13 (fun wx => ∃ A5 c5, RecT w1 base bo (.slice A0 n c0) (recB l ++ eightL kn ++ lbytes pl) (n + 8 + kn) wx (.slice A5 (n + 8 + kn) c5))
    case first =>
      go_wp2_with (at_builtin; go_loud (refine wpList_append_strAt _ (by rfl) (.tmp 11) (.tmp 12) 90 9 (by rfl) base 5 i0 Tryz.underlying90 Tryz.underlying9 HI.out HZ0.out HZ1.out HZ2.out (.slice A4 (n + 8) c4) (n + 8) (bytesV (recB l ++ eightL kn)) (by rfl) HT4.out.row ks (by rfl) (by omega) (by rw [← HKN.out]; simp [maxLen]; omega) (by rw [← HKN.out]; omega) (by omega) ?_; rw [HKD.out, ← HKN.out]; intro v6 w3 hown3 hgrow3 hor3; obtain ⟨A6, c6, hv6⟩ := own_slice hown3; subst hv6; have b3 := HT4.out.box.grown hgrow3 (own_blk_ne HT4.out.row HT4.out.box (by decide)).symm; have x3 : w3.cell? ⟨bo, 0, none⟩ = some (.slice A4 (n + 8) c4) := b3.cell 0; have z3 := b3.frozen 0; have HO3 := Lib.hid hown3; have HG3 := Lib.hid hgrow3; have HL3 := Lib.hid hor3; clear hown3 hgrow3 hor3 b3))
      go_meet
      refine ⟨A6, c6, ?_⟩
      exact HT4.out.step (by rw [← HKZ.out, HKN.out]) HO3.out HG3.out HL3.out hbw
    obtain ⟨A7, c7, ht7⟩ := hcut
    refine hK2 _ _ ?_
    clear hK2 x4 z4 d14 d24
    obtain ⟨w7, hw7⟩ : ∃ x, x = wc := ⟨_, rfl⟩
    subst hw7
    have x7 : w7.cell? ⟨bo, 0, none⟩ = some (.slice A7 (n + 8 + kn) c7) := ht7.box.cell 0
    have z7 := ht7.box.frozen 0
    have hb7 : base ≤ w7.heap.size := by have := ht7.chg.size; omega
    have bx7 := ht7.keep HBX.out (by omega) HNX.out
    have d17 : w7.cell? ⟨W.heap.size, 1, none⟩ = some (.int .i64 pt) := bx7.cell 1
    have d27 : w7.cell? ⟨W.heap.size, 2, none⟩ = some (.float .f64 pb) := bx7.cell 2
    have HT7 := Lib.hid ht7
    clear ht7 bx7
    have etn : IntKind.u64.wrap pt = (tn : Int) := HTN.out
    refine wp_seq_k fun K3 hK3 => ?_
    go_cut [] from 14 to 19 (fun wx => ∃ A5 c5, RecT w1 base bo (.slice A0 n c0) (recB l ++ eightL kn ++ lbytes pl ++ eightL tn) (n + 8 + kn + 8) wx (.slice A5 (n + 8 + kn + 8) c5))
    case first =>
      go_region_law (first
        | (refine step_call1 (by rfl) 113 (.tmp 17) #[203] (by rfl) enters113 (.int .u64 (tn : Int)) (by rfl) ?_; refine (eight_any _ tn).mono ?_; rintro e w2 ⟨v5, rfl, ho5, hb5⟩; refine ⟨_, rfl, ?_⟩; obtain ⟨A5, c5, hv5⟩ := own_slice ho5; subst hv5; have ht2 := HT7.out.drew.below hb5; have x2 : w2.cell? ⟨bo, 0, none⟩ = some (.slice A7 (n + 8 + kn) c7) := ht2.box.cell 0; have z2 := ht2.box.frozen 0; have bb := ht2.keep HBX.out (by omega) HNX.out; have d1 := bb.cell 1; have d2 := bb.cell 2; have HT2 := Lib.hid ht2; have HO5 := Lib.hid ho5; have HB5 := Lib.hid hb5; clear ho5 hb5 ht2 bb)
        | (refine step_append_any _ (by rfl) (.tmp 14) (.tmp 18) 90 (by rfl) base 5 i0 (.int .u8 0) 1 1 Tryz.underlying90 HI.out HZ0.out HZ1.out HZ2.out rfl (by omega) (.slice A7 (n + 8 + kn) c7) (n + 8 + kn) (bytesV (recB l ++ eightL kn ++ lbytes pl)) (by rfl) (HT2.out.row) w2.heap.size A5 8 c5 (bytesV (eightL tn)) (by rfl) (Reads.of_own HO5.out) (bytesV_one _) (by simp [maxLen]; omega) (by omega) (by have := HT2.out.chg.size; omega) ?_; intro v6 w3 hown3 hgrow3 hor3; obtain ⟨A6, c6, hv6⟩ := own_slice hown3; subst hv6; have b3 := HT2.out.box.grown hgrow3 (own_blk_ne HT2.out.row HT2.out.box (by decide)).symm; have x3 : w3.cell? ⟨bo, 0, none⟩ = some (.slice A7 (n + 8 + kn) c7) := b3.cell 0; have z3 := b3.frozen 0; have HO3 := Lib.hid hown3; have HG3 := Lib.hid hgrow3; have HL3 := Lib.hid hor3; clear hown3 hgrow3 hor3 b3))
      all_goals
        go_wp2
        go_meet
        refine ⟨A6, c6, ?_⟩
        exact HT2.out.step (eightL_len _) HO3.out HG3.out HL3.out hbw
    obtain ⟨A8, c8, ht8⟩ := hcut
    refine hK3 _ _ ?_
    clear hK3 x7 z7 etn d17 d27
    obtain ⟨w8, hw8⟩ : ∃ x, x = wc := ⟨_, rfl⟩
    subst hw8
    have x8 : w8.cell? ⟨bo, 0, none⟩ = some (.slice A8 (n + 8 + kn + 8) c8) := ht8.box.cell 0
    have z8 := ht8.box.frozen 0
    have hb8 : base ≤ w8.heap.size := by have := ht8.chg.size; omega
    have bx8 := ht8.keep HBX.out (by omega) HNX.out
    have d18 : w8.cell? ⟨W.heap.size, 1, none⟩ = some (.int .i64 pt) := bx8.cell 1
    have d28 : w8.cell? ⟨W.heap.size, 2, none⟩ = some (.float .f64 pb) := bx8.cell 2
    have HT8 := Lib.hid ht8
    clear ht8 bx8
    go_upto_region 4 with fail
    go_region_law (first
      | (refine step_call1 (by rfl) 113 (.tmp 23) #[203] (by rfl) enters113 (.int .u64 (pb : Int)) (by rfl) ?_; refine (eight_any _ pb).mono ?_; rintro e w2 ⟨v5, rfl, ho5, hb5⟩; refine ⟨_, rfl, ?_⟩; obtain ⟨A5, c5, hv5⟩ := own_slice ho5; subst hv5; have ht2 := HT8.out.drew.below hb5; have x2 : w2.cell? ⟨bo, 0, none⟩ = some (.slice A8 (n + 8 + kn + 8) c8) := ht2.box.cell 0; have z2 := ht2.box.frozen 0; have bb := ht2.keep HBX.out (by omega) HNX.out; have d1 := bb.cell 1; have d2 := bb.cell 2; have HT2 := Lib.hid ht2; have HO5 := Lib.hid ho5; have HB5 := Lib.hid hb5; clear ho5 hb5 ht2 bb)
      | (refine step_append_any _ (by rfl) (.tmp 20) (.tmp 24) 90 (by rfl) base 5 i0 (.int .u8 0) 1 1 Tryz.underlying90 HI.out HZ0.out HZ1.out HZ2.out rfl (by omega) (.slice A8 (n + 8 + kn + 8) c8) (n + 8 + kn + 8) (bytesV (recB l ++ eightL kn ++ lbytes pl ++ eightL tn)) (by rfl) (HT2.out.row) w2.heap.size A5 8 c5 (bytesV (eightL pb)) (by rfl) (Reads.of_own HO5.out) (bytesV_one _) (by simp [maxLen]; omega) (by omega) (by have := HT2.out.chg.size; omega) ?_; intro v6 w3 hown3 hgrow3 hor3; obtain ⟨A6, c6, hv6⟩ := own_slice hown3; subst hv6; have b3 := HT2.out.box.grown hgrow3 (own_blk_ne HT2.out.row HT2.out.box (by decide)).symm; have x3 : w3.cell? ⟨bo, 0, none⟩ = some (.slice A8 (n + 8 + kn + 8) c8) := b3.cell 0; have z3 := b3.frozen 0; have HO3 := Lib.hid hown3; have HG3 := Lib.hid hgrow3; have HL3 := Lib.hid hor3; clear hown3 hgrow3 hor3 b3))
    all_goals
      have ht9 := HT2.out.step (eightL_len _) HO3.out HG3.out HL3.out hbw
      have HT9 := Lib.hid ht9
      clear ht9
      go_wp2
      refine bodyPost_end (results_none rfl _ _ _) rfl ?_
      exact ⟨rfl, HF.out _ _ _ HT9.out⟩
end Go.Proofs.YtbeeejpjnniejaaGreatDoor
