/- The walk of chunk.Decode. -/
import Derived.Test.YtjlfkdopkhejbaaDoorIter
namespace Go.Proofs.YtjlfkdopkhejbaaDoor
open Go.RowKit Go.Shelf Ck
attribute [local go_sem] Oper.semAt_some frombits_call tobits_call run_store_float

/-- the cells of samples -/
def smpV (l : List Smp) : List Value := l.flatMap fun x => [.int .i64 x.t, .float .f64 x.v]
theorem smpV_length (l : List Smp) : (smpV l).length = l.length * 2 := by
  induction l with
  | nil => rfl
  | cons x l ih =>
    have e : smpV (x :: l) = .int .i64 x.t :: .float .f64 x.v :: smpV l := rfl
    rw [e, List.length_cons, List.length_cons, List.length_cons, ih]
    omega
theorem smpV_snoc (l : List Smp) (x : Smp) : smpV (l ++ [x]) = smpV l ++ [.int .i64 x.t, .float .f64 x.v] := by simp [smpV]
theorem smpV_get (l : List Smp) (i : Nat) (x : Smp) (h : l[i]? = some x) : (smpV l)[i * 2]? = some (.int .i64 x.t) ∧ (smpV l)[i * 2 + 1]? = some (.float .f64 x.v) := by
  induction l generalizing i with
  | nil => cases h
  | cons y l ih =>
    have e : smpV (y :: l) = .int .i64 y.t :: .float .f64 y.v :: smpV l := rfl
    rw [e]
    cases i with
    | zero => cases h; exact ⟨rfl, rfl⟩
    | succ i =>
      have h' : l[i]? = some x := h
      obtain ⟨a, b⟩ := ih i h'
      exact ⟨(by rw [show (i + 1) * 2 = i * 2 + 1 + 1 by omega]; exact a), (by rw [show (i + 1) * 2 + 1 = i * 2 + 1 + 1 + 1 by omega]; exact b)⟩
theorem own_smp {w : World} {base : Nat} {v : Value} {l : List Smp} (h : w.ownsRow base 41 2 v l.length (smpV l)) : ∃ A c, v = .slice A l.length c ∧ SmpAt w w.heap.size A l := by
  rcases h.2 with ⟨rfl, h0⟩ | ⟨g, cap, cur, rfl, hb, hg, _⟩
  · exact ⟨none, 0, by rw [h0], fun h1 => absurd h1 (by omega)⟩
  · refine ⟨some ⟨g, 0, none⟩, cap, rfl, fun _ => ⟨g, 0, rfl, (Array.getElem?_eq_some_iff.1 hg).1, fun i x hx => ?_⟩⟩
    have hi : i < l.length := (List.getElem?_eq_some_iff.1 hx).1
    obtain ⟨a, b⟩ := smpV_get l i x hx
    exact ⟨by rw [Nat.zero_add, h.cellAt (i * 2) (by omega), a], by rw [Nat.zero_add, h.cellAt (i * 2 + 1) (by omega), b]⟩

theorem decGo_ok (rb : List Bool) : ∀ (k : Nat) (r : Rd), Win r.s → r.s.v < 2 ^ 64 → (∀ x ∈ decGo rb k r, x.ok) := by
  intro k
  induction k with
  | zero => intro r _ _ x hx; cases hx
  | succ k ih =>
    intro r hw hv x hx
    rw [decGo] at hx
    obtain ⟨kw, kv, _⟩ := nextR_keeps rb r hw hv
    split at hx
    · cases hx
    · rcases List.mem_cons.1 hx with rfl | hx
      · refine ⟨?_, kv⟩
        have e : ∃ z, (nextR rb r).s.t = wrap64 z := by
          unfold nextR
          split
          · exact ⟨_, rfl⟩
          · exact ⟨_, rfl⟩
        obtain ⟨z, hz⟩ := e
        simp only
        rw [hz]
        exact wrap64_range z
      · exact ih _ kw kv x hx
theorem allOf_ok (bs : List Nat) : ∀ x ∈ allOf bs, x.ok := by
  intro x hx
  unfold allOf at hx
  split at hx
  · cases hx
  · exact decGo_ok _ _ _ (fun h => by cases h) (by decide) x hx

theorem cells_new2 (w : World) (t : TypeId) (a b : Value) : ∀ (j : Nat) (u : Value), [a, b][j]? = some u → (w.alloc (.cells #[a, b] t)).cell? ((⟨w.heap.size, 0, none⟩ : Addr).add j) = some u := by
  intro j u hu
  have h := (Blk.new w t #[a, b]).cell j
  have e : (⟨w.heap.size, 0, none⟩ : Addr).add j = ⟨w.heap.size, j, none⟩ := by unfold Addr.add; split <;> simp_all
  rw [e, h]
  match j with
  | 0 => exact hu
  | 1 => exact hu
  | j + 2 => cases hu

def DecPost (w : World) (r : Option (List Smp)) (e : Ending) (w' : World) : Prop :=
  Below w.heap.size w w' ∧ match r with
    | some l => ∃ v, e = .returned (.tuple #[v, .int .i64 0]) ∧ w'.ownsRow w.heap.size 41 2 v l.length (smpV l)
    | none => e = .returned (.tuple #[.slice none 0 0, .int .i64 8])

/-- between two rounds: the box (block X) holds the samples that have come -/
def DecI (w : World) (D : Nat) (pre : List Smp) (W : World) : Prop :=
  ∃ v, Blk W w.heap.size 22 #[v] ∧ W.ownsRow (D + 3) 41 2 v pre.length (smpV pre) ∧ Below w.heap.size w W ∧ pre.length ≤ 120

theorem DecI.step {w A B : World} {D r : Nat} {pre : List Smp} (h : DecI w D pre A) (hg : A.grownBy B (some r)) (h1 : w.heap.size < D) (h2 : D ≤ r) (h3 : r ≤ D + 2) : DecI w D pre B := by
  obtain ⟨v, hx, ho, hb, hn⟩ := h
  refine ⟨v, hx.grown hg (by simp; omega), ho.kept hg ?_, hb.grown hg hb.size (fun k hk => by cases hk; omega), hn⟩
  cases hv : v.ownBlock with
  | none => exact .inl rfl
  | some k =>
    have := (ho.lt k hv).1
    right
    simp
    omega

theorem info41 : (Tryd.prog.info? 41).map (fun i => (i.zero, i.size, i.bytes)) = some (some (.agg #[.int .i64 0, .float .f64 0]), 2, 16) := by kernel_rfl

set_option maxRecDepth 100000 in
set_option maxHeartbeats 1600000 in
theorem decode_any (A : Option Addr) (cap : Nat) (bs : List Nat) (w : World) (h : BytAt w w.heap.size A bs) (hl : bs.length ≤ 1000000) (hlt : ∀ b ∈ bs, b < 256) (hT : TabW w) :
    Calls Tryd.prog 11 #[.slice A bs.length cap] w (DecPost w (Ck.decode bs)) := by
  obtain ⟨i0, hi, hz0, hz1, hz2⟩ := info_parts info41
  have H := Lib.hid h
  have HL := Lib.hid hlt
  have HT := Lib.hid hT
  have HI := Lib.hid hi
  have HZ0 := Lib.hid hz0
  have HZ1 := Lib.hid hz1
  have HZ2 := Lib.hid hz2
  clear h hlt hT hi hz0 hz1 hz2
  refine (callsIn_wide (n := 9)).1 ?_
  refine callsIn_of_wp_marks Tryd.func11 rfl trivial ?_ rfl
  simp only [Tryd.ntmps11, List.size_toArray, List.length_cons, List.length_nil, Nat.reduceAdd, Nat.reduceSub, Array.replicate_succ, Array.replicate_zero, List.push_toArray, List.append_toArray, List.nil_append, List.cons_append]
  gi_wp2_with fail
  refine ⟨trivial, (callsIn_wide.2 (all_any A cap bs _ ((H.out.below ((Below.refl _ w).alloc (Nat.le_refl _) _)).mono (by simp)) hl HL.out)).mono ?_⟩
  rintro e w2 ⟨v, rfl, ha, hb⟩
  have hx2 := (Blk.new w 22 #[.slice none 0 0]).below hb (by simp)
  have hb2 : Below w.heap.size w w2 := ((Below.refl _ w).alloc (Nat.le_refl _) _).trans (hb.mono (by simp))
  rw [World.size_alloc] at ha
  have hsz := ha.box.lt
  have HA := Lib.hid ha
  have HX := Lib.hid hx2
  have HB := Lib.hid hb2
  clear ha hb hx2 hb2
  rw [World.size_alloc]
  gi_wp2_with fail
  rename_i K hKK
  obtain ⟨D, hD⟩ : ∃ D, D = w2.heap.size := ⟨_, rfl⟩
  have hw2 : w.heap.size + 1 < D := by rw [hD]; exact hsz
  have HD := Lib.hid hD
  clear hD
  obtain ⟨res, hres⟩ : ∃ r, r = Ck.decode bs := ⟨_, rfl⟩
  rw [← hres] at hKK ⊢
  have hend : ∀ W : World, DecI w D ((allOf bs).take 120) W → W.heap[D]? = some (.deferred (some [])) → K
    { tmps := #[.slice A bs.length cap, undef, .slice none 0 0, .int .i64 0, .pointer (some ⟨w.heap.size, 0, none⟩), undef, undef, undef, undef, .slice A bs.length cap, .func (.func 36) #[] #[.pointer (some ⟨w.heap.size + 1, 0, none⟩)], undef, undef,
        undef, undef, undef, undef, undef, undef, undef, undef, undef, undef, undef, undef, undef, undef, undef, undef, undef, undef, undef], defers := [{ target := .collected D, args := #[] }] } W := by
    rintro W ⟨v1, hx1, ho1, hb1, hn1⟩ hdf
    refine hKK _ _ ?_
    clear hKK
    have hok := fun x hx => allOf_ok bs x (List.mem_of_mem_take (i := 120) hx)
    have hdec : res = if chunkOf ((allOf bs).take 120) = bs then some ((allOf bs).take 120) else none := hres
    obtain ⟨l, hle⟩ : ∃ l, l = (allOf bs).take 120 := ⟨_, rfl⟩
    rw [← hle] at ho1 hn1 hok hdec
    have HDEC := Lib.hid hdec
    obtain ⟨A1, c1, rfl, hs1⟩ := own_smp ho1
    have x1 : W.cell? ⟨w.heap.size, 0, none⟩ = some (.slice A1 l.length c1) := hx1.cell 0
    have hT1 : TabW W := HT.out.below hb1 HT.out.lt
    have hDl : D < W.heap.size := (Array.getElem?_eq_some_iff.1 hdf).1
    have hclt := chunkOf_lt l
    have HO1 := Lib.hid ho1
    have HB1 := Lib.hid hb1
    have HS1 := Lib.hid hs1
    have HT1 := Lib.hid hT1
    have HOK := Lib.hid hok
    have HDF := Lib.hid hdf
    have HX1 := Lib.hid hx1
    have HCLT := Lib.hid hclt
    clear ho1 hb1 hs1 hT1 hok hdf hdec hle hx1 hclt
    gi_wp2_with fail
    refine ⟨trivial, (callsIn_wide.2 (encode_any A1 c1 l W HS1.out (by omega) HOK.out HT1.out)).mono ?_⟩
    rintro e w3 ⟨hb3, hq⟩
    rw [if_pos hn1] at hq
    obtain ⟨v3, rfl, ho3⟩ := hq
    obtain ⟨A3, c3, rfl, hby3⟩ := own_byt ho3
    have x3 : w3.cell? ⟨w.heap.size, 0, none⟩ = some (.slice A1 l.length c1) := (hb3.cell (p := ⟨w.heap.size, 0, none⟩) HX1.out.lt).trans x1
    have HB3 := Lib.hid hb3
    have HY3 := Lib.hid hby3
    clear hb3 hby3 ho3
    obtain ⟨cb, hcb⟩ : ∃ cb, cb = chunkOf l := ⟨_, rfl⟩
    rw [← hcb] at HY3 HCLT HDEC ⊢
    clear hcb
    gi_wp2_with fail
    refine ⟨trivial, (callsIn_wide.2 (equal_any A3 A c3 cap w3.heap.size w.heap.size cb bs w3 HY3.out (H.out.below (HB1.out.trans (HB3.out.mono HB1.out.size))) HCLT.out HL.out)).mono ?_⟩
    rintro e w4 ⟨rfl, rfl⟩
    have hdf3 : w3.heap[D]? = some (.deferred (some [])) := (HB3.out.block D hDl).trans HDF.out
    have hb3' : Below w.heap.size w (w3.putObj D (.deferred none)) := (HB1.out.trans (HB3.out.mono HB1.out.size)).grown (grownBy_putObj' w3 D _) (HB1.out.trans (HB3.out.mono HB1.out.size)).size (fun k hk => by cases hk; omega)
    have ho3' : (w3.putObj D (.deferred none)).ownsRow (D + 3) 41 2 (.slice A1 l.length c1) l.length (smpV l) := ownsRow_putObj (HO1.out.kept (only_of_below HB3.out none) (by cases (Value.slice A1 l.length c1).ownBlock <;> simp)) _ hdf3 rfl
    have HDF3 := Lib.hid hdf3
    have HB3' := Lib.hid hb3'
    have HO3' := Lib.hid ho3'
    clear hdf3 hb3' ho3'
    by_cases hc : cb = bs
    · have hr := HDEC.out
      rw [if_pos hc] at hr
      subst hr
      rw [decide_eq_true hc]
      gi_wp2
      refine ⟨by simp, .inl ⟨_, _, rfl, run_takeDeferred HDF3.out, ?_⟩⟩
      refine ⟨_, results_tmp2 rfl _ _ _, HB3'.out, _, rfl, ?_⟩
      have h3 := HO3'.out
      exact ⟨h3.1, h3.2.imp id fun ⟨g, c, cur, a, b, r⟩ => ⟨g, c, cur, a, by omega, r⟩⟩
    · have hr := HDEC.out
      rw [if_neg hc] at hr
      subst hr
      rw [decide_eq_false hc]
      gi_wp2
      refine ⟨by simp, .inl ⟨_, _, rfl, run_takeDeferred HDF3.out, ?_⟩⟩
      exact ⟨_, results_tmp2 rfl _ _ _, HB3'.out, rfl⟩
  clear hKK
  have hD := HD.out
  clear HD
  subst hD
  refine wpIn_rangeFunc_c rfl (by omega) (gf := 36) (lb := #[.pointer (some ⟨w.heap.size + 1, 0, none⟩)]) rfl trivial (enters_of Tryd.func36 (by kernel_rfl) rfl) (iter_seq _ (w.heap.size + 1) v bs w2 HA.out) (Below.refl _ _) (fun k hk => (HA.out.own.lt k hk).2) (fun _ => rfl)
    (DecI w w2.heap.size) (fun c s W => ∃ pre x, s = pre ++ [x] ∧ c = .exit 0 ∧ pre.length = 120 ∧ DecI w w2.heap.size pre W)
    (fun s A B r hs hg h1 h2 => hs.step hg (by omega) (by omega) (by omega))
    (fun c s A B r hs hg h1 h2 => by obtain ⟨pre, x, e1, e2, e3, e4⟩ := hs; exact ⟨pre, x, e1, e2, e3, e4.step hg (by omega) (by omega) (by omega)⟩)
    ⟨.slice none 0 0, HX.out, World.ownsRow_nil _ _ _ _, HB.out, by simp⟩
    (fun x => { tmps := #[.slice A bs.length cap, undef, .slice none 0 0, .int .i64 0, .pointer (some ⟨w.heap.size, 0, none⟩), .int .i64 x.t, .float .f64 x.v, undef, undef, .slice A bs.length cap, .func (.func 36) #[] #[.pointer (some ⟨w.heap.size + 1, 0, none⟩)], .int .i64 x.t, .float .f64 x.v,
        undef, undef, undef, undef, undef, undef, undef, undef, undef, undef, undef, undef, undef, undef, undef, undef, undef, undef, undef], defers := [] }) ?assign ?body ?done ?stop
  case assign =>
    intro l x W K' hK'
    dsimp only [encS]
    gi_wp2
    exact hK'
  case body =>
    rintro l pre x W ⟨v1, hx1, ho1, hb1, hn1⟩ _ hbig
    obtain ⟨A1, c1, rfl, _⟩ := own_smp ho1
    have x1 : W.cell? ⟨w.heap.size, 0, none⟩ = some (.slice A1 pre.length c1) := hx1.cell 0
    by_cases h120 : pre.length = 120
    · have hge : (120 : Int) ≤ (pre.length : Int) := by omega
      gi_wp2
      exact ⟨Nat.le_refl _, fun _ _ => rfl, pre, x, rfl, rfl, h120, _, hx1, ho1, hb1, hn1⟩
    · have hlt : (pre.length : Int) < 120 := by omega
      have HX1 := Lib.hid hx1
      have HO1 := Lib.hid ho1
      have HB1 := Lib.hid hb1
      clear hx1 ho1 hb1
      have hnX : (Value.slice A1 pre.length c1).ownBlock ≠ some w.heap.size := fun hk => by
        have := (HO1.out.lt _ hk).1
        omega
      gi_wp2_with (gi_at_builtin; refine wpListIn_append_own _ rfl (.tmp 16) (.tmp 20) 22 rfl (w2.heap.size + 3) 41 i0 (.agg #[.int .i64 0, .float .f64 0]) 2 16 Tryd.underlying22 HI.out HZ0.out HZ1.out HZ2.out rfl (by decide) (.slice A1 pre.length c1) pre.length (smpV pre) rfl (HO1.out.alloc _) ⟨W.heap.size, 0, none⟩ 1 1 [.int .i64 x.t, .float .f64 x.v] rfl rfl (cells_new2 W 41 _ _) (by simp [Value.oneCell']) (by simp [maxLen]; omega) (by omega) (by simp; omega) ?_; intro v' w1 hown1 hgrow1 _; obtain ⟨g', c', hv'⟩ := own_succ hown1 (by omega); subst hv'; have hX1 := (HX1.out.alloc (.cells #[.int .i64 x.t, .float .f64 x.v] 41)).grown hgrow1 (fun e => hnX e.symm); have y1 : w1.cell? ⟨w.heap.size, 0, none⟩ = some (.slice A1 pre.length c1) := hX1.cell 0; have yf := hX1.frozen 0; have HX2 := Lib.hid hX1; have HOW := Lib.hid hown1; have HG1 := Lib.hid hgrow1; clear hX1 hown1 hgrow1)
      have hC : ∀ k, v.ownBlock = some k → w.heap.size + 1 + 1 ≤ k ∧ k < w2.heap.size := fun k hk => HA.out.own.lt k hk
      have hR : ∀ k, (Value.slice A1 pre.length c1).ownBlock = some k → w2.heap.size + 3 ≤ k := fun k hk => (HO1.out.lt k hk).1
      refine ⟨?_, ?_, _, HX2.out.set_ 0 _, ?_, ?_, ?_⟩
      · have := HG1.out.size
        simp at this ⊢
        omega
      · intro k hk
        have hk1 : w.heap.size < k ∧ k < w2.heap.size + 3 := by
          rcases hk with hk | hk
          · omega
          · have := hC k hk; omega
        refine (Below.heap_setCell _ _ _ k (by simp; omega)).trans ((HG1.out.block k (by simp; omega) (fun e => ?_)).trans (Below.heap_alloc _ _ k (by omega)))
        have := hR k e.symm
        omega
      · rw [List.length_append, smpV_snoc]
        exact ownsRow_setCell_below HOW.out (by simp; omega) _
      · refine Below.setCell (p := ⟨w.heap.size, 0, none⟩) ?_ (Nat.le_refl _) _
        exact (HB1.out.alloc HB1.out.size _).grown HG1.out (by have := HB1.out.size; simp; omega) (fun k hk => by have := hR k hk; omega)
      · rw [List.length_append]; simp; omega
  case done =>
    intro W hI hdf
    exact hend W (by rw [List.take_of_length_le hI.choose_spec.2.2.2]; exact hI) hdf
  case stop =>
    rintro c pre W hpre ⟨pre', x, rfl, rfl, h120, hI⟩ hdf
    have e : (allOf bs).take 120 = pre' := by
      obtain ⟨rest, hr⟩ := hpre
      rw [← hr, List.append_assoc, ← h120, List.take_left']
      rfl
    have := hend W (by rw [e]; exact hI) hdf
    gi_wp2
    exact this
end Go.Proofs.YtjlfkdopkhejbaaDoor
