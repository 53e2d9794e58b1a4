/- The walk of (*Disk).begin. The walk of (*Disk).Create. -/
import Derived.Test.YtfeglchngekedaaJ03Right
namespace Go.Proofs.Ytfeglchngekedaa
open Go.RowKit Go.Shelf Go.Maps

theorem own_slice {w : World} {base : Nat} {e : TypeId} {size : Nat} {v : Value} {n : Nat} {xs : List Value} (h : w.ownsRow base e size v n xs) : ∃ A c, v = .slice A n c := by
  rcases h.2 with ⟨rfl, h0⟩ | ⟨g, cap, cur, rfl, _⟩
  · exact ⟨none, 0, by rw [h0]⟩
  · exact ⟨_, _, rfl⟩
theorem own_low {w : World} {b b' : Nat} {e : TypeId} {z n : Nat} {v : Value} {xs : List Value} (h : w.ownsRow b e z v n xs) (hb : b' ≤ b) : w.ownsRow b' e z v n xs :=
  ⟨h.1, h.2.imp id fun ⟨g, c, cur, a, b, r⟩ => ⟨g, c, cur, a, by omega, r⟩⟩
theorem info103 : (Try.prog.info? 103).map (fun i => (i.zero, i.size, i.bytes)) = some (some (.agg #[.int .i64 0, .int .i64 0]), 2, 16) := by kernel_rfl

def leftF (l : List (Int × Int)) (t : Int) : List (Int × Int) := l.filter fun f => !(f.1 == t)
def struckF (l : List (Int × Int)) (t : Int) : Option Int := (l.find? fun f => f.1 == t).map (·.2)
theorem leftF_len (l : List (Int × Int)) (t : Int) : (leftF l t).length ≤ l.length := List.length_filter_le _ _
theorem leftF_snoc (l : List (Int × Int)) (k : Nat) (h : k < l.length) (t : Int) : leftF (l.take (k + 1)) t = leftF (l.take k) t ++ (if l[k].1 = t then [] else [l[k]]) := by
  unfold leftF
  rw [List.take_succ_eq_append_getElem h, List.filter_append]
  congr 1
  by_cases e : l[k].1 = t <;> simp [e]
theorem struckF_snoc (l : List (Int × Int)) (k : Nat) (h : k < l.length) (t : Int) : struckF (l.take (k + 1)) t = (struckF (l.take k) t).or (if l[k].1 = t then some l[k].2 else none) := by
  unfold struckF
  rw [List.take_succ_eq_append_getElem h, List.find?_append]
  cases (l.take k).find? (fun f => f.1 == t) with
  | some x => rfl
  | none =>
    by_cases e : l[k].1 = t <;> simp [e]

theorem fltsV_at : ∀ (l : List (Int × Int)) (k : Nat) (h : k < l.length), (fltsV l)[k * 2]? = some (.int .i64 l[k].1) ∧ (fltsV l)[k * 2 + 1]? = some (.int .i64 l[k].2)
  | [], k, h => absurd h (Nat.not_lt_zero _)
  | a :: l, 0, h => ⟨rfl, rfl⟩
  | a :: l, k + 1, h => by
    have := fltsV_at l k (by simpa using h)
    have e : fltsV (a :: l) = [.int .i64 a.1, .int .i64 a.2] ++ fltsV l := rfl
    rw [e, List.getElem?_append_right (by simp; omega), List.getElem?_append_right (by simp; omega)]
    refine ⟨?_, ?_⟩
    · rw [show (k + 1) * 2 - [Value.int .i64 a.1, .int .i64 a.2].length = k * 2 by simp; omega]; exact this.1
    · rw [show (k + 1) * 2 + 1 - [Value.int .i64 a.1, .int .i64 a.2].length = k * 2 + 1 by simp; omega]; exact this.2
theorem fltV_one (x : Int × Int) : ∀ u ∈ fltV x, u.oneCell' = true := by
  intro u hu
  simp only [fltV, List.mem_cons, List.not_mem_nil, or_false] at hu
  rcases hu with rfl | rfl <;> rfl

theorem reads_new2 (w : World) (t : TypeId) (a b : Value) : Reads (w.alloc (.cells #[a, b] t)) (w.heap.size + 1) 2 (some ⟨w.heap.size, 0, none⟩) 1 [a, b] := by
  have hb := Blk.new w t #[a, b]
  refine ⟨rfl, fun _ => ⟨_, rfl, Nat.lt_succ_self _, fun j u hu => ?_⟩⟩
  have e : (⟨w.heap.size, 0, none⟩ : Addr).add j = ⟨w.heap.size, j, none⟩ := by unfold Addr.add; split <;> simp_all
  rw [e, hb.cell j]
  match j with
  | 0 => exact hu
  | 1 => exact hu
  | j + 2 => cases hu

def beginS (s : DS) (ns : List ByteArray) : Int × Int :=
  if s.stopped = true ∧ s.stop ≤ (s.ops : Int) then (0, 7)
  else match struckF s.flts s.ops with
    | some k => (k, 6)
    | none => if ns.all rightB then (0, 0) else (0, 2)
def begun (s : DS) (v : Value) : DS := { s with ops := s.ops + 1, flts := leftF s.flts s.ops, vf := v }

theorem DiskAt.begun {w w' : World} {F : Nat → Prop} {p : Nat} {s : DS} (h : DiskAt w F p s) (v : Value) (hg : ∀ k, k < w.heap.size → k ≠ p → w'.heap[k]? = w.heap[k]?)
    (hb : Blk w' p 68 #[.int .i64 s.cap, .int .i64 ((s.ops : Int) + 1), .map (some s.mn), .map (some s.ms), s.vp, v, .bool s.stopped, .int .i64 s.stop])
    (hv : w'.ownsRow 0 103 2 v (leftF s.flts s.ops).length (fltsV (leftF s.flts s.ops))) (hF : ∀ k, v.ownBlock = some k → Gr F w k) : DiskAt w' (Gr F w) p (begun s v) := by
  have hmn : s.mn ≠ p := h.names.blk_ne h.blk
  have hms : s.ms ≠ p := h.safe.blk_ne h.blk
  have hvp : ∀ k, s.vp.ownBlock = some k → k ≠ p := fun k hk e => own_blk_ne h.pend h.blk (by decide) (by rw [hk, e])
  exact {
    blk := hb
    own := .inl h.own
    names := h.names.keep (hg _ h.names.lt hmn)
    safe := h.safe.keep (hg _ h.safe.lt hms)
    namesL := Nat.le_succ_of_le h.namesL
    safeL := Nat.le_succ_of_le h.safeL
    mnF := .inl h.mnF
    msF := .inl h.msF
    mne := h.mne
    pend := own_keep h.pend fun k hk hlt => hg k hlt (hvp k hk)
    pendF := fun k hk => .inl (h.pendF k hk)
    pendL := Nat.le_succ_of_le h.pendL
    flts := hv
    fltsF := hF
    file := fun g hl => by
      have hf := h.file g hl
      have hgp : g ≠ p := Blk.ne_ hf.blk h.blk (by decide)
      refine ⟨(hg g hf.blk.lt hgp).trans hf.blk, .inl hf.own, own_keep hf.row fun k hk hlt => hg k hlt fun e => own_blk_ne hf.row h.blk (by decide) (by rw [← e]; exact hk), fun k hk => .inl (hf.rowF k hk), hf.le, ?_⟩
      have := hf.len
      show (s.bytes g).length ≤ 1000 * (s.ops + 1)
      omega
    apart := h.apart
    nameOk := h.nameOk
    safeOk := h.safeOk
    pendOk := h.pendOk
    capB := h.capB
    rep := h.rep }

/-- what begin leaves -/
def BeginPost (w : World) (F : Nat → Prop) (p : Nat) (s : DS) (ns : List ByteArray) (e : Ending) (w' : World) : Prop :=
  ∃ v, e = .returned (.tuple #[.int .i64 (beginS s ns).1, .int .i64 (beginS s ns).2]) ∧ DiskAt w' (Gr F w) p (begun s v) ∧ Chg F w w'

def BegR (w1 : World) (l : List (Int × Int)) (t : Int) (v b kd i : Value) (wr : World) : Prop :=
  ∃ (k : Nat) (u : Value), k ≤ l.length ∧ u = v ∧ b = .bool (struckF (l.take k) t).isSome ∧ kd = .int .i64 ((struckF (l.take k) t).getD 0) ∧ i = .int .i64 k ∧
    wr.ownsRow w1.heap.size 103 2 u (leftF (l.take k) t).length (fltsV (leftF (l.take k) t)) ∧ Below w1.heap.size w1 wr

def NameR (w : World) (ns : List ByteArray) (i : Value) (wr : World) : Prop := ∃ k q : Nat, k ≤ ns.length ∧ i = .int .i64 k ∧ wr = w.drewN q ∧ (ns.take k).all rightB = true

set_option maxRecDepth 100000 in
set_option maxHeartbeats 6400000 in
theorem begin_any (w : World) (F : Nat → Prop) (p : Nat) (s : DS) (ns : List ByteArray) (A : Option Addr) (n c : Nat) (h : DiskAt w F p s) (hR : Reads w w.heap.size 1 A n (ns.map Value.string)) (hns : ∀ x ∈ ns, x.size ≤ 9223372036854775807) (hn : n ≤ 2)
    (ho : s.ops ≤ 1000000) (hf : s.flts.length ≤ 100000) (hAp : ∀ ad, A = some ad → ad.block ≠ p) : Calls Try.prog 32 #[.pointer (some ⟨p, 0, none⟩), .slice A n c] w (BeginPost w F p s ns) := by
  obtain ⟨i0, hi, hz0, hz1, hz2⟩ := info_parts info103
  have HI := Lib.hid hi
  have HZ0 := Lib.hid hz0
  have HZ1 := Lib.hid hz1
  have HZ2 := Lib.hid hz2
  obtain ⟨-, c1, -, -, -, c5, -, -⟩ := h.cells
  have f1 := h.blk.frozen 1
  obtain ⟨A5, d5, hvf⟩ := own_slice h.flts
  rw [hvf] at c5
  have HVF := Lib.hid hvf
  have HA5 := Lib.hid (show 0 < s.flts.length → ∃ g, A5 = some ⟨g, 0, none⟩ from fun h0 => by
    obtain ⟨g, c, e⟩ := own_succ h.flts h0
    rw [hvf] at e
    injection e with e
    exact ⟨g, e⟩)
  have hRF := Reads.of_own (hvf ▸ h.flts)
  have HRF := Lib.hid hRF
  have hp := h.lt
  have H := Lib.hid h
  have HR := Lib.hid hR
  have HN := Lib.hid hns
  have HAP := Lib.hid hAp
  clear hAp h hR hns hi hz0 hz1 hz2 hvf hRF
  go_enter Try.func32, Try.ntmps32
  go_wp2_with fail
  obtain ⟨w1, hw1⟩ : ∃ w1, w.setCell ⟨p, 1, none⟩ (.int .i64 ((s.ops : Int) + 1)) = w1 := ⟨_, rfl⟩
  have hs1 : w1.heap.size = w.heap.size := by rw [← hw1]; simp [World.setCell]
  have hk1 : ∀ k, k ≠ p → w1.heap[k]? = w.heap[k]? := fun k hk => by rw [← hw1]; exact Below.heap_setCell w ⟨p, 1, none⟩ _ k hk
  have hb1 : Blk w1 p 68 #[.int .i64 s.cap, .int .i64 ((s.ops : Int) + 1), .map (some s.mn), .map (some s.ms), s.vp, s.vf, .bool s.stopped, .int .i64 s.stop] := by
    rw [← hw1]; exact H.out.blk.set_ 1 _
  have hc1 : Chg F w w1 := by rw [← hw1]; exact (Chg.refl F w).setCell (.inl H.out.own) _
  rw [hw1]
  have hRF1 : Reads w1 w1.heap.size 2 A5 s.flts.length (fltsV s.flts) := by
    have := own_keep (w' := w1) H.out.flts (fun k hk _ => hk1 k (fun e => own_blk_ne H.out.flts H.out.blk (by decide) (by rw [hk, e])))
    rw [HVF.out] at this
    exact Reads.of_own this
  have HRF1 := Lib.hid hRF1
  have HK1 := Lib.hid hk1
  have HB1 := Lib.hid hb1
  have HC1 := Lib.hid hc1
  have hp1 : p < w1.heap.size := by omega
  clear hw1 hk1 hb1 hc1 hRF1 c1 c5 f1
  generalize hl : s.flts = fl at *
  generalize ht : (s.ops : Int) = t at *
  go_loopw [7, 8, 4, 29] (fun v b kd i wr => BegR w1 fl t v b kd i wr) (fun _ _ _ i _ => fl.length - (intOf i).toNat)
  case atStart => exact ⟨0, _, Nat.zero_le _, rfl, rfl, rfl, rfl, World.ownsRow_nil _ _ _ _, Below.refl _ _⟩
  case round =>
    obtain ⟨k, u, hk, hu, rfl, rfl, rfl, ho, hb⟩ := hrel
    subst hu
    have HO := Lib.hid ho
    have HB := Lib.hid hb
    have hsz := hb.size
    clear ho hb
    by_cases hlt : k < fl.length
    · have hfa := fltsV_at fl k hlt
      have hLS := leftF_snoc fl k hlt t
      have hSS := struckF_snoc fl k hlt t
      have hll := leftF_len (fl.take k) t
      rw [List.length_take] at hll
      obtain ⟨ad, hA, hg5, hcell⟩ := HRF1.out.2 (by omega)
      obtain ⟨g5, hA'⟩ := HA5.out (by omega)
      subst hA'
      obtain rfl : ⟨g5, 0, none⟩ = ad := by injection hA
      clear hA
      have hadd : ∀ j, (⟨g5, 0, none⟩ : Addr).add j = ⟨g5, j, none⟩ := fun j => by unfold Addr.add; split <;> simp_all
      obtain ⟨x, y, hxy⟩ : ∃ x y, fl[k] = (x, y) := ⟨_, _, rfl⟩
      rw [hxy] at hfa hLS hSS
      have e0 : w1.cell? ⟨g5, k * 2, none⟩ = some (.int .i64 x) := by rw [← hadd]; exact hcell _ _ hfa.1
      have e1 : w1.cell? ⟨g5, k * 2 + 1, none⟩ = some (.int .i64 y) := by rw [← hadd]; exact hcell _ _ hfa.2
      have d0 : wr.cell? ⟨g5, k * 2, none⟩ = some (.int .i64 x) := (HB.out.cell (p := ⟨g5, k * 2, none⟩) hg5).trans e0
      have d1 : wr.cell? ⟨g5, k * 2 + 1, none⟩ = some (.int .i64 y) := (HB.out.cell (p := ⟨g5, k * 2 + 1, none⟩) hg5).trans e1
      clear e0 e1
      have HLS := Lib.hid hLS
      have HSS := Lib.hid hSS
      clear hfa hLS hSS hcell hxy hadd
      have hkl : (leftF (fl.take k) t).length ≤ 100000 := by omega
      clear hll
      by_cases hx : x = t
      · have q : (x != t) = false := by simp [hx]
        have HX := Lib.hid hx
        cases hs : struckF (List.take k fl) t with
        | none =>
          have HS := Lib.hid hs
          clear hx hs
          go_wp2_with fail
          go_quiet (fail)
          go_wp2
          refine ⟨⟨k + 1, u, by omega, rfl, ?_, ?_, by go_num, ?_, below_drewN (HB.out.alloc (by omega) _) _⟩, by simp [intOf]; omega⟩
          · rw [HSS.out, HS.out, if_pos HX.out]; rfl
          · rw [HSS.out, HS.out, if_pos HX.out]; rfl
          · rw [HLS.out, if_pos HX.out, List.append_nil]; exact HO.out.alloc _
        | some v0 =>
          have HS := Lib.hid hs
          clear hx hs
          go_wp2_with fail
          refine ⟨⟨k + 1, u, by omega, rfl, ?_, ?_, by go_num, ?_, HB.out.alloc (by omega) _⟩, by simp [intOf]; omega⟩
          · rw [HSS.out, HS.out]; rfl
          · rw [HSS.out, HS.out]; rfl
          · rw [HLS.out, if_pos HX.out, List.append_nil]; exact HO.out.alloc _
      · have q : (x != t) = true := by simp [hx]
        have HX := Lib.hid hx
        clear hx
        go_wp2_with (at_builtin; go_loud (refine wpList_append_any _ rfl (.tmp 38) (.tmp 40) 66 rfl w1.heap.size 103 i0 (.agg #[.int .i64 0, .int .i64 0]) 2 16 Try.underlying66 HI.out HZ0.out HZ1.out HZ2.out rfl (by omega) u _ _ rfl ((HO.out.alloc _).alloc _) (wr.heap.size + 2) (some ⟨wr.heap.size + 1, 0, none⟩) 1 1 [.int .i64 x, .int .i64 y] rfl (by have := reads_new2 (wr.alloc (.cells #[.int .i64 x, .int .i64 y] 103)) 103 (.int .i64 x) (.int .i64 y); rwa [World.size_alloc] at this) (fltV_one (x, y)) (by simp [maxLen]; omega) (by omega) (by simp; omega) ?_; intro v2 w2 hown2 hgrow2 _; have HW2 := Lib.hid hown2; have HG2 := Lib.hid hgrow2; clear hown2 hgrow2))
        have hg := HG2.out.size
        refine ⟨⟨k + 1, v2, by omega, rfl, ?_, ?_, by go_num, ?_, ((HB.out.alloc (by omega) _).alloc (by simp; omega) _).grown HG2.out (by simp; omega) (fun g hg => (HO.out.lt g hg).1)⟩, by simp [intOf]; omega⟩
        · rw [HSS.out, if_neg HX.out, Option.or_none]
        · rw [HSS.out, if_neg HX.out, Option.or_none]
        · rw [HLS.out, if_neg HX.out, List.length_append, fltsV_snoc]
          exact HW2.out
    · obtain rfl : k = fl.length := by omega
      have HO' := Lib.hid (show wr.ownsRow w1.heap.size 103 2 u (leftF fl t).length (fltsV (leftF fl t)) by have := HO.out; rwa [List.take_length] at this)
      have hBR := HB1.out.below HB.out hp1
      have c6 : wr.cell? ⟨p, 6, none⟩ = some (.bool s.stopped) := hBR.cell 6
      have c7 : wr.cell? ⟨p, 7, none⟩ = some (.int .i64 s.stop) := hBR.cell 7
      have c5 : wr.cell? ⟨p, 5, none⟩ = some s.vf := hBR.cell 5
      have f5 := hBR.frozen 5
      have HBR := Lib.hid hBR
      rw [List.take_length]
      obtain ⟨A7, d7, hu⟩ := own_slice HO'.out
      subst hu
      clear hBR HO hlt
      go_upto_region 14 with fail
      obtain ⟨w3, hw3⟩ : ∃ w3, wr.setCell ⟨p, 5, none⟩ (.slice A7 (leftF fl t).length d7) = w3 := ⟨_, rfl⟩
      rw [hw3]
      have hb3 : Blk w3 p 68 #[.int .i64 s.cap, .int .i64 (t + 1), .map (some s.mn), .map (some s.ms), s.vp, .slice A7 (leftF fl t).length d7, .bool s.stopped, .int .i64 s.stop] := by
        rw [← hw3]; exact HBR.out.set_ 5 _
      have hs3 : w3.heap.size = wr.heap.size := by rw [← hw3]; simp [World.setCell]
      have ho3 : w3.ownsRow w1.heap.size 103 2 (.slice A7 (leftF fl t).length d7) (leftF fl t).length (fltsV (leftF fl t)) := by
        rw [← hw3]; exact ownsRow_setCell_below HO'.out hp1 _
      have hk3 : ∀ k, k < w.heap.size → k ≠ p → w3.heap[k]? = w.heap[k]? := fun k hk hne => by
        rw [← hw3, Below.heap_setCell _ _ _ _ hne, HB.out.block k (by omega), HK1.out k hne]
      have hc3 : Chg F w w3 := by rw [← hw3]; exact (HC1.out.below HB.out (by omega)).setCell (.inl H.out.own) _
      have hD : DiskAt w3 (Gr F w) p (begun s (.slice A7 (leftF fl t).length d7)) := by
        refine H.out.begun _ hk3 (by rw [ht]; exact hb3) ?_ ?_
        · rw [hl, ht]; exact own_low ho3 (Nat.zero_le _)
        · intro k hk
          have := (ho3.lt k hk).1
          exact .inr (by omega)
      have c6' : w3.cell? ⟨p, 6, none⟩ = some (.bool s.stopped) := hb3.cell 6
      have c7' : w3.cell? ⟨p, 7, none⟩ = some (.int .i64 s.stop) := hb3.cell 7
      have HD := Lib.hid hD
      have HC3 := Lib.hid hc3
      have HR3 := Lib.hid (show Reads w3 w3.heap.size 1 A n (ns.map Value.string) from ⟨HR.out.1, fun h0 => by
        obtain ⟨ad, e, hlt, hc⟩ := HR.out.2 h0
        refine ⟨ad, e, by omega, fun j v hv => (World.cell?_of_block (a := ad.add j) ?_).trans (hc j v hv)⟩
        rw [block_of_add]
        exact hk3 _ hlt (HAP.out ad e)⟩)
      clear hw3 hb3 ho3 hk3 hc3 hD c6 c7 c5 f5 HBR HO'
      have hnl : ns.length = n := by have := HR3.out.1; simpa using this
      have hfin : ∀ q k w4, w4 = w3.drewN q → beginS s ns = k → BeginPost w F p s ns (.returned (.tuple #[.int .i64 k.1, .int .i64 k.2])) w4 := by
        rintro q k w4 rfl rfl
        exact ⟨_, rfl, HD.out.drewN q, HC3.out.drewN q⟩
      have HFIN := Lib.hid hfin
      clear hfin
      by_cases hst : s.stopped = true ∧ s.stop ≤ t
      · obtain ⟨h1, h2⟩ := hst
        have HB0 := Lib.hid (show beginS s ns = (0, 7) by unfold beginS; rw [if_pos ⟨h1, by rw [ht]; exact h2⟩])
        rw [h1] at c6'
        clear h1
        go_wp2
        go_ret2
        exact HFIN.out 0 (0, 7) _ rfl HB0.out
      · have hB1 : beginS s ns = match struckF fl t with | some k => (k, 6) | none => if ns.all rightB then (0, 0) else (0, 2) := by unfold beginS; rw [if_neg (by rw [ht]; exact hst), hl, ht]
        have HB1' := Lib.hid hB1
        clear hB1
        have hcase : s.stopped = false ∨ (s.stopped = true ∧ t < s.stop) := by
          cases hs : s.stopped
          · exact .inl rfl
          · refine .inr ⟨rfl, ?_⟩
            rcases Int.lt_or_le t s.stop with h | h
            · exact h
            · exact absurd ⟨hs, h⟩ hst
        clear hst
        cases hs : struckF fl t with
        | some v0 =>
          rw [hs] at HB1'
          rcases hcase with hc | ⟨hc, hlt⟩
          all_goals
            rw [hc] at c6'
            clear hc hs
            go_wp2
            go_ret2
            exact HFIN.out 0 (v0, 6) _ rfl HB1'.out
        | none =>
          rw [hs] at HB1'
          rcases hcase with hc | ⟨hc, hlt⟩
          all_goals
            rw [hc] at c6'
            clear hc hs
            go_wp2_with fail
            go_loopw [68] (fun i wx => NameR w3 ns i wx) (fun i _ => n - (intOf i).toNat)
            case atStart => exact ⟨0, 0, Nat.zero_le _, rfl, rfl, rfl⟩
            case round =>
              obtain ⟨k, q, hk, rfl, hwx, hall⟩ := hrel
              obtain ⟨wx, hwxe⟩ : ∃ wx, wx = wr := ⟨_, rfl⟩
              subst hwxe
              have HWX := Lib.hid hwx
              have HA := Lib.hid hall
              clear hall
              by_cases hlt : k < n
              · obtain ⟨ad, rfl, -, hcell⟩ := HR3.out.2 (by omega)
                have hkl : k < ns.length := by omega
                have HSZ := Lib.hid (HN.out ns[k] (List.getElem_mem _))
                have HSN := Lib.hid (show (ns.take (k + 1)) = ns.take k ++ [ns[k]] from List.take_succ_eq_append_getElem hkl)
                have HMEM := Lib.hid (show ns[k] ∈ ns from List.getElem_mem _)
                have d0 : wx.cell? (ad.add k) = some (.string ns[k]) := by
                  rw [hwx]
                  exact hcell k _ (by rw [List.getElem?_map, List.getElem?_eq_getElem hkl]; rfl)
                generalize ns[k] = nm at *
                clear hcell hwx
                go_wp2_with fail
                refine (right_any nm wx HSZ.out).mono ?_
                rintro e w5 ⟨rfl, q5, hw5⟩
                have HW5 := Lib.hid hw5
                clear hw5 d0
                cases hr : rightB nm with
                | true =>
                  have HRT := Lib.hid hr
                  clear hr
                  go_wp2
                  refine ⟨⟨k + 1, q + q5, by omega, by go_num, by rw [HW5.out, HWX.out]; exact World.drewN_drewN w3 _ _, by rw [HSN.out, List.all_append, HA.out, List.all_cons, HRT.out]; rfl⟩, by simp [intOf]; omega⟩
                | false =>
                  have HRT := Lib.hid hr
                  clear hr
                  go_wp2
                  go_ret2
                  refine HFIN.out (q + q5) (0, 2) _ (by rw [HW5.out, HWX.out]; exact World.drewN_drewN w3 _ _) ?_
                  have : ns.all rightB = false := List.all_eq_false.2 ⟨nm, HMEM.out, by rw [HRT.out]; simp⟩
                  rw [HB1'.out, this]
                  rfl
              · obtain rfl : k = n := by omega
                clear hwx
                go_wp2
                go_ret2
                refine HFIN.out q (0, 0) _ HWX.out ?_
                have : ns.all rightB = true := by have := HA.out; rwa [← hnl, List.take_length] at this
                rw [HB1'.out, this]
                rfl
end Go.Proofs.Ytfeglchngekedaa
namespace Go.Proofs.Ytfeglchngekedaa
open Go.RowKit Go.Shelf Go.Maps

theorem info75 : (Try.prog.info? 75).map (fun i => (i.zero, i.size, i.bytes)) = some (some (.agg #[.string ⟨#[]⟩, .string ⟨#[]⟩, .pointer none]), 3, 40) := by kernel_rfl

theorem own_ne2 {w : World} {b1 b2 : Nat} {e1 e2 : TypeId} {z1 z2 n1 n2 : Nat} {v1 v2 : Value} {x1 x2 : List Value} (h1 : w.ownsRow b1 e1 z1 v1 n1 x1) (h2 : w.ownsRow b2 e2 z2 v2 n2 x2) (hne : e1 ≠ e2) {k : Nat} (hk : v1.ownBlock = some k) : v2.ownBlock ≠ some k := by
  rcases h1.2 with ⟨rfl, _⟩ | ⟨g, cap, cur, rfl, _, hh, _⟩
  · cases hk
  · have e : g = k := by simpa [Value.ownBlock] using hk
    subst e
    exact own_blk_ne h2 hh (Ne.symm hne)

def upd {α : Type} (f : Nat → α) (g : Nat) (x : α) : Nat → α := fun k => if k = g then x else f k
theorem upd_same {α : Type} (f : Nat → α) (g : Nat) (x : α) : upd f g x g = x := by simp [upd]
theorem upd_other {α : Type} (f : Nat → α) {g k : Nat} (x : α) (h : k ≠ g) : upd f g x k = f k := by simp [upd, h]

def created (s : DS) (nm : Nm) (g : Nat) (v : Value) : DS :=
  { s with names := dput s.names nm g, pend := s.pend ++ [⟨[], nm, some g⟩], vp := v, raw := upd s.raw g (.slice none 0 0), bytes := upd s.bytes g [], kept := upd s.kept g 0 }

theorem live_lt {w : World} {F : Nat → Prop} {p : Nat} {s : DS} (h : DiskAt w F p s) {g : Nat} (hg : live s g) : g < w.heap.size := (h.file g hg).blk.lt

theorem DiskAt.created {w w' : World} {F : Nat → Prop} {p : Nat} {s : DS} (h : DiskAt w F p s) (nm : Nm) (g : Nat) (v : Value) (hg : w.heap.size ≤ g)
    (hk : ∀ k, k < w.heap.size → k ≠ p → k ≠ s.mn → s.vp.ownBlock ≠ some k → w'.heap[k]? = w.heap[k]?)
    (hb : Blk w' p 68 #[.int .i64 s.cap, .int .i64 (s.ops : Int), .map (some s.mn), .map (some s.ms), v, s.vf, .bool s.stopped, .int .i64 s.stop])
    (hd : DirAt w' s.mn (dput s.names nm g).length (dput s.names nm g)) (hf : Blk w' g 73 #[.slice none 0 0, .int .i64 0])
    (hv : w'.ownsRow 0 75 3 v (s.pend.length + 1) (chsV (s.pend ++ [⟨[], nm, some g⟩]))) (hvF : v.ownBlock = s.vp.ownBlock ∨ (∀ k, v.ownBlock = some k → w.heap.size ≤ k))
    (hl1 : (dput s.names nm g).length ≤ s.ops) (hl2 : s.pend.length + 1 ≤ s.ops) (hn : nmOk nm) (hn0 : nm ≠ []) : DiskAt w' (Gr F w) p (created s nm g v) := by
  have hms : s.ms ≠ p := h.safe.blk_ne h.blk
  have hlive : ∀ x, live (Ytfeglchngekedaa.created s nm g v) x → x = g ∨ (x ≠ g ∧ live s x) := by
    intro x hx
    by_cases e : x = g
    · exact .inl e
    · refine .inr ⟨e, ?_⟩
      rcases hx with ⟨y, hy, rfl⟩ | ⟨y, hy, rfl⟩ | ⟨c, hc, he⟩
      · rcases (mem_dput _ _ _ _).1 hy with rfl | ⟨hy, _⟩
        · exact absurd rfl e
        · exact .inl ⟨y, hy, rfl⟩
      · exact .inr (.inl ⟨y, hy, rfl⟩)
      · rcases List.mem_append.1 hc with hc | hc
        · exact .inr (.inr ⟨c, hc, he⟩)
        · rw [List.mem_singleton.1 hc] at he
          exact absurd (Option.some.inj he).symm e
  exact {
    blk := hb
    own := .inl h.own
    names := hd
    safe := h.safe.keep (hk _ h.safe.lt hms (Ne.symm h.mne) (h.safe.own_ne h.pend))
    namesL := hl1
    safeL := h.safeL
    mnF := .inl h.mnF
    msF := .inl h.msF
    mne := h.mne
    pend := by
      have e : (s.pend ++ [(⟨[], nm, some g⟩ : Ch)]).length = s.pend.length + 1 := by simp
      show w'.ownsRow 0 75 3 v (s.pend ++ [(⟨[], nm, some g⟩ : Ch)]).length (chsV (s.pend ++ [⟨[], nm, some g⟩]))
      rw [e]; exact hv
    pendF := fun k hk' => by
      rcases hvF with e | e
      · exact .inl (h.pendF k (by rw [← e]; exact hk'))
      · exact .inr (e k hk')
    pendL := by show (s.pend ++ [(⟨[], nm, some g⟩ : Ch)]).length ≤ s.ops; simp; omega
    flts := own_keep h.flts fun k hk' hlt => hk k hlt (fun e => own_blk_ne h.flts h.blk (by decide) (by rw [← e]; exact hk')) (fun e => h.names.own_ne h.flts (by rw [← e]; exact hk'))
      (own_ne2 h.flts h.pend (by decide) hk')
    fltsF := fun k hk' => .inl (h.fltsF k hk')
    file := fun x hx => by
      rcases hlive x hx with rfl | ⟨hne, hx⟩
      · refine ⟨?_, .inr hg, ?_, ?_, ?_, ?_⟩
        · show Blk w' x 73 #[upd s.raw x (.slice none 0 0) x, .int .i64 ((upd s.kept x 0 x : Nat) : Int)]
          rw [upd_same, upd_same]; exact hf
        · show w'.ownsRow 0 5 1 (upd s.raw x (.slice none 0 0) x) (upd s.bytes x [] x).length (bytesV (upd s.bytes x [] x))
          rw [upd_same, upd_same]; exact World.ownsRow_nil _ _ _ _
        · intro k hk'
          have : (upd s.raw x (.slice none 0 0) x).ownBlock = some k := hk'
          rw [upd_same] at this
          cases this
        · show upd s.kept x 0 x ≤ (upd s.bytes x [] x).length
          rw [upd_same, upd_same]; exact Nat.zero_le _
        · show (upd s.bytes x [] x).length ≤ _
          rw [upd_same]; exact Nat.zero_le _
      · have hf' := h.file x hx
        refine ⟨?_, .inl hf'.own, ?_, ?_, ?_, ?_⟩
        · show Blk w' x 73 #[upd s.raw g (.slice none 0 0) x, .int .i64 ((upd s.kept g 0 x : Nat) : Int)]
          rw [upd_other _ _ hne, upd_other _ _ hne]
          exact (hk x hf'.blk.lt (Blk.ne_ hf'.blk h.blk (by decide)) (fun e => h.names.blk_ne hf'.blk e.symm) (own_blk_ne h.pend hf'.blk (by decide))).trans hf'.blk
        · show w'.ownsRow 0 5 1 (upd s.raw g (.slice none 0 0) x) (upd s.bytes g [] x).length (bytesV (upd s.bytes g [] x))
          rw [upd_other _ _ hne, upd_other _ _ hne]
          exact own_keep hf'.row fun k hk' hlt => hk k hlt (fun e => own_blk_ne hf'.row h.blk (by decide) (by rw [← e]; exact hk')) (fun e => h.names.own_ne hf'.row (by rw [← e]; exact hk'))
            (own_ne2 hf'.row h.pend (by decide) hk')
        · intro k hk'
          have : (upd s.raw g (.slice none 0 0) x).ownBlock = some k := hk'
          rw [upd_other _ _ hne] at this
          exact .inl (hf'.rowF k this)
        · show upd s.kept g 0 x ≤ (upd s.bytes g [] x).length
          rw [upd_other _ _ hne, upd_other _ _ hne]; exact hf'.le
        · show (upd s.bytes g [] x).length ≤ _
          rw [upd_other _ _ hne]; exact hf'.len
    apart := fun x y hx hy hne => by
      show (upd s.raw g (.slice none 0 0) x).ownBlock = none ∨ (upd s.raw g (.slice none 0 0) x).ownBlock ≠ (upd s.raw g (.slice none 0 0) y).ownBlock
      rcases hlive x hx with rfl | ⟨hnx, hx⟩
      · rw [upd_same]; exact .inl rfl
      · rcases hlive y hy with rfl | ⟨hny, hy⟩
        · rw [upd_same, upd_other _ _ hnx]
          cases e : (s.raw x).ownBlock with
          | none => exact .inl rfl
          | some k => exact .inr (by simp [Value.ownBlock])
        · rw [upd_other _ _ hnx, upd_other _ _ hny]; exact h.apart x y hx hy hne
    nameOk := fun x hx => by
      rcases (mem_dput _ _ _ _).1 hx with rfl | ⟨hx, _⟩
      · exact hn
      · exact h.nameOk x hx
    safeOk := h.safeOk
    pendOk := fun c hc => by
      rcases List.mem_append.1 hc with hc | hc
      · exact h.pendOk c hc
      · rw [List.mem_singleton.1 hc]; exact ⟨Nat.zero_le _, hn⟩
    capB := h.capB
    rep := h.rep.snoc _ (fun e => by cases e) (by show (if nm = [] then s.names else dput s.names nm g) = dput s.names nm g; rw [if_neg hn0]) }

theorem reads_new3 (w : World) (t : TypeId) (a b c : Value) : Reads (w.alloc (.cells #[a, b, c] t)) (w.heap.size + 1) 3 (some ⟨w.heap.size, 0, none⟩) 1 [a, b, c] := by
  have hb := Blk.new w t #[a, b, c]
  refine ⟨rfl, fun _ => ⟨_, rfl, Nat.lt_succ_self _, fun j u hu => ?_⟩⟩
  have e : (⟨w.heap.size, 0, none⟩ : Addr).add j = ⟨w.heap.size, j, none⟩ := by unfold Addr.add; split <;> simp_all
  rw [e, hb.cell j]
  match j with
  | 0 => exact hu
  | 1 => exact hu
  | 2 => exact hu
  | j + 3 => cases hu
theorem chV_one (nm : ByteArray) (a : Option Addr) : ∀ u ∈ [Value.string ⟨#[]⟩, .string nm, .pointer a], u.oneCell' = true := by
  intro u hu
  simp only [List.mem_cons, List.not_mem_nil, or_false] at hu
  rcases hu with rfl | rfl | rfl <;> rfl
/-- what Create answers -/
def createC (s : DS) (nm : ByteArray) : Int := if (beginS s [nm]).2 = 0 then (if (dget s.names nm.data.toList).isSome then 4 else 0) else (beginS s [nm]).2
def CreatePost (w : World) (F : Nat → Prop) (p : Nat) (s : DS) (nm : ByteArray) (e : Ending) (w' : World) : Prop :=
  ∃ v s', e = .returned (.int .i64 (createC s nm)) ∧ DiskAt w' (Gr F w) p s' ∧ Chg F w w' ∧
    ((createC s nm ≠ 0 ∧ s' = begun s v) ∨ (createC s nm = 0 ∧ rightB nm = true ∧ dget s.names nm.data.toList = none ∧ ∃ g v2, w.heap.size ≤ g ∧ s' = created (begun s v) nm.data.toList g v2))
theorem beginS_right {s : DS} {nm : ByteArray} (h : (beginS s [nm]).2 = 0) : rightB nm = true := by
  unfold beginS at h
  split at h
  · cases h
  · split at h
    · cases h
    · cases hr : rightB nm with
      | true => rfl
      | false => simp [hr] at h
theorem rightB_size {nm : ByteArray} (h : rightB nm = true) : nm.size ≤ 64 := by
  unfold rightB at h
  simp at h
  exact h.2
theorem rightB_ne {nm : ByteArray} (h : rightB nm = true) : nm.data.toList ≠ [] := by
  unfold rightB at h
  simp at h
  intro e
  have e3 : nm.data.toList.length = 0 := by rw [e]; rfl
  rw [Array.length_toList] at e3
  have h2 : nm.data.size = nm.size := rfl
  omega

set_option maxRecDepth 100000 in
set_option maxHeartbeats 6400000 in
theorem create_any (w : World) (F : Nat → Prop) (p : Nat) (s : DS) (nm : ByteArray) (h : DiskAt w F p s) (hnm : nm.size ≤ 9223372036854775807) (hnm2 : nm.size ≤ maxLen)
    (ho : s.ops ≤ 999999) (hf : s.flts.length ≤ 100000) : Calls Try.prog 9 #[.pointer (some ⟨p, 0, none⟩), .string nm] w (CreatePost w F p s nm) := by
  obtain ⟨i0, hi, hz0, hz1, hz2⟩ := info_parts info75
  have HI := Lib.hid hi
  have HZ0 := Lib.hid hz0
  have HZ1 := Lib.hid hz1
  have HZ2 := Lib.hid hz2
  have hp := h.lt
  have H := Lib.hid h
  clear h hi hz0 hz1 hz2
  go_enter Try.func9, Try.ntmps9
  go_wp2_with fail
  obtain ⟨w1, hw1⟩ : ∃ w1, w.alloc (.cells #[.string nm] 9) = w1 := ⟨_, rfl⟩
  have hs1 : w1.heap.size = w.heap.size + 1 := by rw [← hw1]; simp
  have hR1 : Reads w1 w1.heap.size 1 (some ⟨w.heap.size, 0, none⟩) 1 ([nm].map Value.string) := by
    have hb := Blk.new w 9 #[.string nm]
    rw [hw1] at hb
    refine ⟨rfl, fun _ => ⟨_, rfl, hb.lt, fun j u hu => ?_⟩⟩
    have e : (⟨w.heap.size, 0, none⟩ : Addr).add j = ⟨w.heap.size, j, none⟩ := by unfold Addr.add; split <;> simp_all
    rw [e, hb.cell j]
    match j with
    | 0 => exact hu
    | j + 1 => cases hu
  have hc1 : Chg F w w1 := by rw [← hw1]; exact (Chg.refl F w).alloc _
  have hD1 : DiskAt w1 (Gr F w) p s := H.out.keep (fun k _ hk => by rw [← hw1]; exact Below.heap_alloc w _ k hk) (fun k hk => .inl hk)
  rw [hw1]
  refine (begin_any w1 (Gr F w) p s [nm] (some ⟨w.heap.size, 0, none⟩) 1 1 hD1 hR1 (fun x hx => by rw [List.mem_singleton.1 hx]; exact hnm) (by omega) (by omega) hf (fun ad e => by injection e with e; rw [← e]; show w.heap.size ≠ p; omega)).mono ?_
  rintro e w2 ⟨v, rfl, hD2, hc2⟩
  have hC2 : Chg F w w2 := hc1.then hc2
  have hD2' : DiskAt w2 (Gr F w) p (begun s v) := hD2.inF (fun k hk => Gr.mono (by omega) k hk)
  have hs2 := hc2.size
  have HD := Lib.hid hD2'
  have HC := Lib.hid hC2
  clear hw1 hR1 hc1 hD1 hD2 hc2 hC2 hD2'
  obtain ⟨kd, why, hk⟩ : ∃ kd why, beginS s [nm] = (kd, why) := ⟨_, _, rfl⟩
  rw [hk]
  have HK := Lib.hid hk
  clear hk
  by_cases hwy : why = 0
  · subst hwy
    have hrt := beginS_right (s := s) (nm := nm) (by rw [HK.out])
    have HRT := Lib.hid hrt
    obtain ⟨-, -, c2, -, c4, -, -, -⟩ := HD.out.cells
    have hlook := HD.out.names.look nm hnm2
    have f4 := HD.out.blk.frozen 4
    clear hrt
    cases hd : dget (begun s v).names nm.data.toList with
    | some g =>
      have HDG := Lib.hid hd
      rw [hd] at hlook
      simp only [ptrV] at hlook
      clear hd
      go_wp2
      go_ret
      have e4 : createC s nm = 4 := by
        unfold createC
        rw [HK.out, if_pos rfl, if_pos (by have := HDG.out; rw [show s.names = (begun s v).names from rfl, this]; rfl)]
      exact ⟨v, _, by rw [e4]; rfl, HD.out, HC.out, .inl ⟨by rw [e4]; decide, rfl⟩⟩
    | none =>
      have HDG := Lib.hid hd
      rw [hd] at hlook
      simp only [ptrV] at hlook
      clear hd
      obtain ⟨A4, d4, hvp⟩ := own_slice HD.out.pend
      have HVP := Lib.hid hvp
      rw [hvp] at c4
      have hbl := HD.out.blk.lt
      have hml := HD.out.names.lt
      have hmp := HD.out.names.blk_ne HD.out.blk
      have hpl := HD.out.pendL
      have hnl := HD.out.namesL
      have hol : (begun s v).ops = s.ops + 1 := rfl
      have hpl' := H.out.pendL
      have hnl' := H.out.namesL
      have hpe : (begun s v).pend = s.pend := rfl
      have hne : (begun s v).names = s.names := rfl
      clear hvp
      generalize hs1e : begun s v = s1 at *
      have HSE := Lib.hid hs1e
      have hpl2 : s1.pend.length ≤ s.ops := by rw [hpe]; exact hpl'
      have hnl2 : s1.names.length ≤ s.ops := by rw [hne]; exact hnl'
      have HOL := Lib.hid hol
      have HNE := Lib.hid hne
      clear hs1e hpe hne hol hpl hnl hpl' hnl'
      go_upto_region 7 with fail
      obtain ⟨w3, hw3⟩ : ∃ w3, w2.alloc (.cells #[.slice none 0 0, .int .i64 0] 73) = w3 := ⟨_, rfl⟩
      have hs3 : w3.heap.size = w2.heap.size + 1 := by rw [← hw3]; simp
      have hb3 : Below w2.heap.size w2 w3 := by rw [← hw3]; exact (Below.refl _ w2).alloc (Nat.le_refl _) _
      have bF : Blk w3 w2.heap.size 73 #[.slice none 0 0, .int .i64 0] := by rw [← hw3]; exact Blk.new w2 73 _
      have hN3 : DirAt w3 s1.mn s1.names.length s1.names := HD.out.names.keep (hb3.block _ hml)
      have bP : Blk w3 p 68 _ := HD.out.blk.below hb3 hbl
      have oP := own_keep (w' := w3) HD.out.pend (fun k _ hk => hb3.block k hk)
      rw [HVP.out] at oP
      rw [hw3]
      have e2 : w3.cell? ⟨p, 2, none⟩ = some (.map (some s1.mn)) := bP.cell 2
      have HN3 := Lib.hid hN3
      have HBP := Lib.hid bP
      have HOP := Lib.hid oP
      have HBF := Lib.hid bF
      have HB3 := Lib.hid hb3
      have hgm : w2.heap.size ≠ s1.mn := by omega
      have hgp : w2.heap.size ≠ p := by omega
      have hAm : ∀ k, (Value.slice A4 s1.pend.length d4).ownBlock = some k → k ≠ s1.mn := fun k hk e => by rw [e] at hk; exact hN3.own_ne oP hk
      have HAM := Lib.hid hAm
      clear hw3 hb3 bF hN3 bP oP c2 c4 f4 hlook hAm
      go_wp2_with (first
        | (at_mapUpdate; refine wpList_mapUpdate_own _ rfl _ _ _ 64 rfl 9 71 law9 Try.underlying64 ptrElem s1.mn s1.names.length (dirD s1.names) rfl HN3.out (by simp [maxLen]; omega) _ _ (.string nm.data.toList) rfl rfl (key_nm nm hnm2) (.lit (.int .i64 (w2.heap.size : Int))) [] rfl ?_; intro w4 hown4 hgrow4; have hs4 := hgrow4.size; have bP4 := HBP.out.grown hgrow4 (by simp; omega); have e4 : w4.cell? ⟨p, 4, none⟩ = some (.slice A4 s1.pend.length d4) := (bP4.cell 4).trans (by rw [← HVP.out]; rfl); have HOW4 := Lib.hid hown4; have HG4 := Lib.hid hgrow4; have HBP4 := Lib.hid bP4; have HOP4 := Lib.hid (own_keep (w' := w4) HOP.out (fun k hk hlt => hgrow4.block k hlt (by have := HAM.out k hk; simpa using this))); clear hown4 hgrow4 bP4)
        | (at_builtin; go_loud (refine wpList_append_any _ rfl (.tmp 37) (.tmp 41) 65 rfl 0 75 i0 (.agg #[.string ⟨#[]⟩, .string ⟨#[]⟩, .pointer none]) 3 40 Try.underlying65 HI.out HZ0.out HZ1.out HZ2.out rfl (by omega) (.slice A4 s1.pend.length d4) s1.pend.length (chsV s1.pend) rfl (HOP4.out.alloc _) (w4.heap.size + 1) (some ⟨w4.heap.size, 0, none⟩) 1 1 [.string ⟨#[]⟩, .string nm, .pointer (some ⟨w2.heap.size, 0, none⟩)] rfl (reads_new3 w4 75 _ _ _) (chV_one nm _) (by simp [maxLen]; omega) (by omega) (Nat.zero_le _) ?_; intro v5 w5 hown5 hgrow5 hloc5; obtain ⟨A5, d5, hv5⟩ := own_slice hown5; subst hv5; have bP5 := (HBP4.out.alloc (.cells #[.string ⟨#[]⟩, .string nm, .pointer (some ⟨w2.heap.size, 0, none⟩)] 75)).grown hgrow5 (Ne.symm (own_blk_ne HOP4.out HBP4.out (by decide))); have y4 : w5.cell? ⟨p, 4, none⟩ = some s1.vp := bP5.cell 4; have z4 := bP5.frozen 4; have HBP5 := Lib.hid bP5; clear bP5; have HW5 := Lib.hid hown5; have HG5 := Lib.hid hgrow5; have HL5 := Lib.hid hloc5; have hs5 := hgrow5.size; rw [World.size_alloc] at hs5; clear hown5 hgrow5 hloc5)))
      go_ret
      have e4 : createC s nm = 0 := by
        unfold createC
        rw [HK.out, if_pos rfl, if_neg (by rw [← HNE.out, HDG.out]; simp)]
      have hnmn : nmOk nm.data.toList := by unfold nmOk; have := rightB_size HRT.out; rw [Array.length_toList]; exact this
      obtain ⟨w6, hw6⟩ : ∃ w6, w5.setCell ⟨p, 4, none⟩ (.slice A5 (s1.pend.length + 1) d5) = w6 := ⟨_, rfl⟩
      rw [hw6]
      have hk6 : ∀ k, k < w2.heap.size → k ≠ p → k ≠ s1.mn → s1.vp.ownBlock ≠ some k → w6.heap[k]? = w2.heap[k]? := fun k hk h1 h2 h3 => by
        rw [← hw6, Below.heap_setCell _ _ _ _ h1, HG5.out.block k (by rw [World.size_alloc]; omega) (by rw [← HVP.out]; exact Ne.symm h3), Below.heap_alloc _ _ _ (by omega), HG4.out.block k (by omega) (by simpa using h2), HB3.out.block k hk]
      have hD : DiskAt w6 (Gr (Gr F w) w2) p (created s1 nm.data.toList w2.heap.size (.slice A5 (s1.pend.length + 1) d5)) := by
        refine HD.out.created nm.data.toList w2.heap.size _ (Nat.le_refl _) hk6 ?_ ?_ ?_ ?_ ?_ ?_ ?_ hnmn (rightB_ne HRT.out)
        · rw [← hw6]; exact HBP5.out.set_ 4 _
        · have hd : DirAt w4 s1.mn (s1.names.length + 1) (dput s1.names nm.data.toList w2.heap.size) := by
            have := HOW4.out
            rw [dirD_put] at this
            exact this
          refine hd.tight.keep ?_
          rw [← hw6, Below.heap_setCell _ _ _ _ hmp, HG5.out.block _ (by rw [World.size_alloc]; omega) (fun e => HAM.out _ e.symm rfl), Below.heap_alloc _ _ _ (by omega)]
        · rw [← hw6]
          refine Blk.far ?_ hgp _
          have b4 := (HBF.out.grown HG4.out (by simpa using hgm)).alloc (.cells #[.string ⟨#[]⟩, .string nm, .pointer (some ⟨w2.heap.size, 0, none⟩)] 75)
          exact b4.grown HG5.out (Ne.symm (own_blk_ne (HOP4.out.alloc _) b4 (by decide)))
        · have e5 : chsV (s1.pend ++ [⟨[], nm.data.toList, some w2.heap.size⟩]) = chsV s1.pend ++ [.string ⟨#[]⟩, .string nm, .pointer (some ⟨w2.heap.size, 0, none⟩)] := by
            rw [chsV_snoc]
            simp [chV, nmV, ptrV]
          rw [e5, ← hw6]
          exact ownsRow_setCell_other HW5.out (own_blk_ne HW5.out HBP5.out (by decide)) _
        · rcases HL5.out with e | e
          · exact .inl (by rw [HVP.out]; exact e)
          · refine .inr fun k hk => ?_
            rw [e] at hk
            injection hk with hk
            rw [World.size_alloc] at hk
            omega
        · have := len_dput s1.names nm.data.toList w2.heap.size
          have := HOL.out
          omega
        · have := HOL.out
          omega
      have hC : Chg F w w6 := by
        rw [← hw6]
        have c3 := HC.out.below HB3.out (by omega)
        have c4 := c3.grown HG4.out (fun g hg => by cases hg; exact HD.out.mnF)
        have c5 := (c4.alloc (.cells #[.string ⟨#[]⟩, .string nm, .pointer (some ⟨w2.heap.size, 0, none⟩)] 75)).grown HG5.out (fun g hg => HD.out.pendF g (by rw [HVP.out]; exact hg))
        exact c5.setCell (p := ⟨p, 4, none⟩) HD.out.own _
      refine ⟨v, _, by rw [e4]; rfl, hD.inF (fun k hk => Gr.mono (by omega) k hk), hC, .inr ⟨e4, HRT.out, by rw [← HNE.out]; exact HDG.out, w2.heap.size, _, by omega, by rw [HSE.out]⟩⟩
  · have hq : (why != 0) = true := by simp [hwy]
    have HWY := Lib.hid hwy
    clear hwy
    go_wp2
    go_ret
    have e4 : createC s nm = why := by
      unfold createC
      rw [HK.out, if_neg HWY.out]
    exact ⟨v, _, by rw [e4]; rfl, HD.out, HC.out, .inl ⟨by rw [e4]; exact HWY.out, rfl⟩⟩
end Go.Proofs.Ytfeglchngekedaa
