/- The walk of (*Disk).begin. -/
import Derived.Test.YtfeglchngekedaaNew
namespace Go.Proofs.Ytfeglchngekedaa
open Go.RowKit Go.Shelf Go.Maps

theorem own_slice {w : World} {base : Nat} {e : TypeId} {size : Nat} {v : Value} {n : Nat} {xs : List Value} (h : w.ownsRow base e size v n xs) : ∃ A c, v = .slice A n c := by
  rcases h.2 with ⟨rfl, h0⟩ | ⟨g, cap, cur, rfl, _⟩
  · exact ⟨none, 0, by rw [h0]⟩
  · exact ⟨_, _, rfl⟩
theorem own_low {w : World} {b b' : Nat} {e : TypeId} {z n : Nat} {v : Value} {xs : List Value} (h : w.ownsRow b e z v n xs) (hb : b' ≤ b) : w.ownsRow b' e z v n xs :=
  ⟨h.1, h.2.imp id fun ⟨g, c, cur, a, b, r⟩ => ⟨g, c, cur, a, by omega, r⟩⟩
theorem info103 : (Try.prog.info? 103).map (fun i => (i.zero, i.size, i.bytes)) = some (some (.agg #[.int .i64 0, .int .i64 0]), 2, 16) := by kernel_rfl

def leftF (l : List (Int × Int)) (t : Int) : List (Int × Int) := l.filter fun f => !(f.1 == t)
def struckF (l : List (Int × Int)) (t : Int) : Option Int := (l.find? fun f => f.1 == t).map (·.2)
theorem leftF_len (l : List (Int × Int)) (t : Int) : (leftF l t).length ≤ l.length := List.length_filter_le _ _
theorem leftF_snoc (l : List (Int × Int)) (k : Nat) (h : k < l.length) (t : Int) : leftF (l.take (k + 1)) t = leftF (l.take k) t ++ (if l[k].1 = t then [] else [l[k]]) := by
  unfold leftF
  rw [List.take_succ_eq_append_getElem h, List.filter_append]
  congr 1
  by_cases e : l[k].1 = t <;> simp [e]
theorem struckF_snoc (l : List (Int × Int)) (k : Nat) (h : k < l.length) (t : Int) : struckF (l.take (k + 1)) t = (struckF (l.take k) t).or (if l[k].1 = t then some l[k].2 else none) := by
  unfold struckF
  rw [List.take_succ_eq_append_getElem h, List.find?_append]
  cases (l.take k).find? (fun f => f.1 == t) with
  | some x => rfl
  | none =>
    by_cases e : l[k].1 = t <;> simp [e]

theorem fltsV_at : ∀ (l : List (Int × Int)) (k : Nat) (h : k < l.length), (fltsV l)[k * 2]? = some (.int .i64 l[k].1) ∧ (fltsV l)[k * 2 + 1]? = some (.int .i64 l[k].2)
  | [], k, h => absurd h (Nat.not_lt_zero _)
  | a :: l, 0, h => ⟨rfl, rfl⟩
  | a :: l, k + 1, h => by
    have := fltsV_at l k (by simpa using h)
    have e : fltsV (a :: l) = [.int .i64 a.1, .int .i64 a.2] ++ fltsV l := rfl
    rw [e, List.getElem?_append_right (by simp; omega), List.getElem?_append_right (by simp; omega)]
    refine ⟨?_, ?_⟩
    · rw [show (k + 1) * 2 - [Value.int .i64 a.1, .int .i64 a.2].length = k * 2 by simp; omega]; exact this.1
    · rw [show (k + 1) * 2 + 1 - [Value.int .i64 a.1, .int .i64 a.2].length = k * 2 + 1 by simp; omega]; exact this.2
theorem fltV_one (x : Int × Int) : ∀ u ∈ fltV x, u.oneCell' = true := by
  intro u hu
  simp only [fltV, List.mem_cons, List.not_mem_nil, or_false] at hu
  rcases hu with rfl | rfl <;> rfl

theorem reads_new2 (w : World) (t : TypeId) (a b : Value) : Reads (w.alloc (.cells #[a, b] t)) (w.heap.size + 1) 2 (some ⟨w.heap.size, 0, none⟩) 1 [a, b] := by
  have hb := Blk.new w t #[a, b]
  refine ⟨rfl, fun _ => ⟨_, rfl, Nat.lt_succ_self _, fun j u hu => ?_⟩⟩
  have e : (⟨w.heap.size, 0, none⟩ : Addr).add j = ⟨w.heap.size, j, none⟩ := by unfold Addr.add; split <;> simp_all
  rw [e, hb.cell j]
  match j with
  | 0 => exact hu
  | 1 => exact hu
  | j + 2 => cases hu

def beginS (s : DS) (ns : List ByteArray) : Int × Int :=
  if s.stopped = true ∧ s.stop ≤ (s.ops : Int) then (0, 7)
  else match struckF s.flts s.ops with
    | some k => (k, 6)
    | none => if ns.all rightB then (0, 0) else (0, 2)
def begun (s : DS) (v : Value) : DS := { s with ops := s.ops + 1, flts := leftF s.flts s.ops, vf := v }

theorem DiskAt.begun {w w' : World} {F : Nat → Prop} {p : Nat} {s : DS} (h : DiskAt w F p s) (v : Value) (hg : ∀ k, k < w.heap.size → k ≠ p → w'.heap[k]? = w.heap[k]?)
    (hb : Blk w' p 68 #[.int .i64 s.cap, .int .i64 ((s.ops : Int) + 1), .map (some s.mn), .map (some s.ms), s.vp, v, .bool s.stopped, .int .i64 s.stop])
    (hv : w'.ownsRow 0 103 2 v (leftF s.flts s.ops).length (fltsV (leftF s.flts s.ops))) (hF : ∀ k, v.ownBlock = some k → Gr F w k) : DiskAt w' (Gr F w) p (begun s v) := by
  have hmn : s.mn ≠ p := h.names.blk_ne h.blk
  have hms : s.ms ≠ p := h.safe.blk_ne h.blk
  have hvp : ∀ k, s.vp.ownBlock = some k → k ≠ p := fun k hk e => own_blk_ne h.pend h.blk (by decide) (by rw [hk, e])
  exact {
    blk := hb
    own := .inl h.own
    names := h.names.keep (hg _ h.names.lt hmn)
    safe := h.safe.keep (hg _ h.safe.lt hms)
    namesL := Nat.le_succ_of_le h.namesL
    safeL := Nat.le_succ_of_le h.safeL
    mnF := .inl h.mnF
    msF := .inl h.msF
    mne := h.mne
    pend := own_keep h.pend fun k hk hlt => hg k hlt (hvp k hk)
    pendF := fun k hk => .inl (h.pendF k hk)
    pendL := Nat.le_succ_of_le h.pendL
    flts := hv
    fltsF := hF
    file := fun g hl => by
      have hf := h.file g hl
      have hgp : g ≠ p := Blk.ne_ hf.blk h.blk (by decide)
      refine ⟨(hg g hf.blk.lt hgp).trans hf.blk, .inl hf.own, own_keep hf.row fun k hk hlt => hg k hlt fun e => own_blk_ne hf.row h.blk (by decide) (by rw [← e]; exact hk), fun k hk => .inl (hf.rowF k hk), hf.le, ?_⟩
      have := hf.len
      show (s.bytes g).length ≤ 1000 * (s.ops + 1)
      omega
    apart := h.apart
    nameOk := h.nameOk
    safeOk := h.safeOk
    pendOk := h.pendOk
    capB := h.capB
    rep := h.rep }

/-- what begin leaves -/
def BeginPost (w : World) (F : Nat → Prop) (p : Nat) (s : DS) (ns : List ByteArray) (e : Ending) (w' : World) : Prop :=
  ∃ v, e = .returned (.tuple #[.int .i64 (beginS s ns).1, .int .i64 (beginS s ns).2]) ∧ DiskAt w' (Gr F w) p (begun s v) ∧ Chg F w w'

def BegR (w1 : World) (l : List (Int × Int)) (t : Int) (v b kd i : Value) (wr : World) : Prop :=
  ∃ (k : Nat) (u : Value), k ≤ l.length ∧ u = v ∧ b = .bool (struckF (l.take k) t).isSome ∧ kd = .int .i64 ((struckF (l.take k) t).getD 0) ∧ i = .int .i64 k ∧
    wr.ownsRow w1.heap.size 103 2 u (leftF (l.take k) t).length (fltsV (leftF (l.take k) t)) ∧ Below w1.heap.size w1 wr

def NameR (w : World) (ns : List ByteArray) (i : Value) (wr : World) : Prop := ∃ k q : Nat, k ≤ ns.length ∧ i = .int .i64 k ∧ wr = w.drewN q ∧ (ns.take k).all rightB = true

set_option maxRecDepth 100000 in
set_option maxHeartbeats 6400000 in
theorem begin_any (w : World) (F : Nat → Prop) (p : Nat) (s : DS) (ns : List ByteArray) (A : Option Addr) (n c : Nat) (h : DiskAt w F p s) (hR : Reads w w.heap.size 1 A n (ns.map Value.string)) (hns : ∀ x ∈ ns, x.size ≤ 9223372036854775807) (hn : n ≤ 2)
    (ho : s.ops ≤ 1000000) (hf : s.flts.length ≤ 100000) (hAp : ∀ ad, A = some ad → ad.block ≠ p) : Calls Try.prog 32 #[.pointer (some ⟨p, 0, none⟩), .slice A n c] w (BeginPost w F p s ns) := by
  obtain ⟨i0, hi, hz0, hz1, hz2⟩ := info_parts info103
  have HI := Lib.hid hi
  have HZ0 := Lib.hid hz0
  have HZ1 := Lib.hid hz1
  have HZ2 := Lib.hid hz2
  obtain ⟨-, c1, -, -, -, c5, -, -⟩ := h.cells
  have f1 := h.blk.frozen 1
  obtain ⟨A5, d5, hvf⟩ := own_slice h.flts
  rw [hvf] at c5
  have HVF := Lib.hid hvf
  have HA5 := Lib.hid (show 0 < s.flts.length → ∃ g, A5 = some ⟨g, 0, none⟩ from fun h0 => by
    obtain ⟨g, c, e⟩ := own_succ h.flts h0
    rw [hvf] at e
    injection e with e
    exact ⟨g, e⟩)
  have hRF := Reads.of_own (hvf ▸ h.flts)
  have HRF := Lib.hid hRF
  have hp := h.lt
  have H := Lib.hid h
  have HR := Lib.hid hR
  have HN := Lib.hid hns
  have HAP := Lib.hid hAp
  clear hAp h hR hns hi hz0 hz1 hz2 hvf hRF
  go_enter Try.func32, Try.ntmps32
  go_wp2_with fail
  obtain ⟨w1, hw1⟩ : ∃ w1, w.setCell ⟨p, 1, none⟩ (.int .i64 ((s.ops : Int) + 1)) = w1 := ⟨_, rfl⟩
  have hs1 : w1.heap.size = w.heap.size := by rw [← hw1]; simp [World.setCell]
  have hk1 : ∀ k, k ≠ p → w1.heap[k]? = w.heap[k]? := fun k hk => by rw [← hw1]; exact Below.heap_setCell w ⟨p, 1, none⟩ _ k hk
  have hb1 : Blk w1 p 68 #[.int .i64 s.cap, .int .i64 ((s.ops : Int) + 1), .map (some s.mn), .map (some s.ms), s.vp, s.vf, .bool s.stopped, .int .i64 s.stop] := by
    rw [← hw1]; exact H.out.blk.set_ 1 _
  have hc1 : Chg F w w1 := by rw [← hw1]; exact (Chg.refl F w).setCell (.inl H.out.own) _
  rw [hw1]
  have hRF1 : Reads w1 w1.heap.size 2 A5 s.flts.length (fltsV s.flts) := by
    have := own_keep (w' := w1) H.out.flts (fun k hk _ => hk1 k (fun e => own_blk_ne H.out.flts H.out.blk (by decide) (by rw [hk, e])))
    rw [HVF.out] at this
    exact Reads.of_own this
  have HRF1 := Lib.hid hRF1
  have HK1 := Lib.hid hk1
  have HB1 := Lib.hid hb1
  have HC1 := Lib.hid hc1
  have hp1 : p < w1.heap.size := by omega
  clear hw1 hk1 hb1 hc1 hRF1 c1 c5 f1
  generalize hl : s.flts = fl at *
  generalize ht : (s.ops : Int) = t at *
  go_loopw [7, 8, 4, 29] (fun v b kd i wr => BegR w1 fl t v b kd i wr) (fun _ _ _ i _ => fl.length - (intOf i).toNat)
  case atStart => exact ⟨0, _, Nat.zero_le _, rfl, rfl, rfl, rfl, World.ownsRow_nil _ _ _ _, Below.refl _ _⟩
  case round =>
    obtain ⟨k, u, hk, hu, rfl, rfl, rfl, ho, hb⟩ := hrel
    subst hu
    have HO := Lib.hid ho
    have HB := Lib.hid hb
    have hsz := hb.size
    clear ho hb
    by_cases hlt : k < fl.length
    · have hfa := fltsV_at fl k hlt
      have hLS := leftF_snoc fl k hlt t
      have hSS := struckF_snoc fl k hlt t
      have hll := leftF_len (fl.take k) t
      rw [List.length_take] at hll
      obtain ⟨ad, hA, hg5, hcell⟩ := HRF1.out.2 (by omega)
      obtain ⟨g5, hA'⟩ := HA5.out (by omega)
      subst hA'
      obtain rfl : ⟨g5, 0, none⟩ = ad := by injection hA
      clear hA
      have hadd : ∀ j, (⟨g5, 0, none⟩ : Addr).add j = ⟨g5, j, none⟩ := fun j => by unfold Addr.add; split <;> simp_all
      obtain ⟨x, y, hxy⟩ : ∃ x y, fl[k] = (x, y) := ⟨_, _, rfl⟩
      rw [hxy] at hfa hLS hSS
      have e0 : w1.cell? ⟨g5, k * 2, none⟩ = some (.int .i64 x) := by rw [← hadd]; exact hcell _ _ hfa.1
      have e1 : w1.cell? ⟨g5, k * 2 + 1, none⟩ = some (.int .i64 y) := by rw [← hadd]; exact hcell _ _ hfa.2
      have d0 : wr.cell? ⟨g5, k * 2, none⟩ = some (.int .i64 x) := (HB.out.cell (p := ⟨g5, k * 2, none⟩) hg5).trans e0
      have d1 : wr.cell? ⟨g5, k * 2 + 1, none⟩ = some (.int .i64 y) := (HB.out.cell (p := ⟨g5, k * 2 + 1, none⟩) hg5).trans e1
      clear e0 e1
      have HLS := Lib.hid hLS
      have HSS := Lib.hid hSS
      clear hfa hLS hSS hcell hxy hadd
      have hkl : (leftF (fl.take k) t).length ≤ 100000 := by omega
      clear hll
      by_cases hx : x = t
      · have q : (x != t) = false := by simp [hx]
        have HX := Lib.hid hx
        cases hs : struckF (List.take k fl) t with
        | none =>
          have HS := Lib.hid hs
          clear hx hs
          go_wp2_with fail
          go_quiet (fail)
          go_wp2
          refine ⟨⟨k + 1, u, by omega, rfl, ?_, ?_, by go_num, ?_, below_drewN (HB.out.alloc (by omega) _) _⟩, by simp [intOf]; omega⟩
          · rw [HSS.out, HS.out, if_pos HX.out]; rfl
          · rw [HSS.out, HS.out, if_pos HX.out]; rfl
          · rw [HLS.out, if_pos HX.out, List.append_nil]; exact HO.out.alloc _
        | some v0 =>
          have HS := Lib.hid hs
          clear hx hs
          go_wp2_with fail
          refine ⟨⟨k + 1, u, by omega, rfl, ?_, ?_, by go_num, ?_, HB.out.alloc (by omega) _⟩, by simp [intOf]; omega⟩
          · rw [HSS.out, HS.out]; rfl
          · rw [HSS.out, HS.out]; rfl
          · rw [HLS.out, if_pos HX.out, List.append_nil]; exact HO.out.alloc _
      · have q : (x != t) = true := by simp [hx]
        have HX := Lib.hid hx
        clear hx
        go_wp2_with (at_builtin; go_loud (refine wpList_append_any _ rfl (.tmp 38) (.tmp 40) 66 rfl w1.heap.size 103 i0 (.agg #[.int .i64 0, .int .i64 0]) 2 16 Try.underlying66 HI.out HZ0.out HZ1.out HZ2.out rfl (by omega) u _ _ rfl ((HO.out.alloc _).alloc _) (wr.heap.size + 2) (some ⟨wr.heap.size + 1, 0, none⟩) 1 1 [.int .i64 x, .int .i64 y] rfl (by have := reads_new2 (wr.alloc (.cells #[.int .i64 x, .int .i64 y] 103)) 103 (.int .i64 x) (.int .i64 y); rwa [World.size_alloc] at this) (fltV_one (x, y)) (by simp [maxLen]; omega) (by omega) (by simp; omega) ?_; intro v2 w2 hown2 hgrow2 _; have HW2 := Lib.hid hown2; have HG2 := Lib.hid hgrow2; clear hown2 hgrow2))
        have hg := HG2.out.size
        refine ⟨⟨k + 1, v2, by omega, rfl, ?_, ?_, by go_num, ?_, ((HB.out.alloc (by omega) _).alloc (by simp; omega) _).grown HG2.out (by simp; omega) (fun g hg => (HO.out.lt g hg).1)⟩, by simp [intOf]; omega⟩
        · rw [HSS.out, if_neg HX.out, Option.or_none]
        · rw [HSS.out, if_neg HX.out, Option.or_none]
        · rw [HLS.out, if_neg HX.out, List.length_append, fltsV_snoc]
          exact HW2.out
    · obtain rfl : k = fl.length := by omega
      have HO' := Lib.hid (show wr.ownsRow w1.heap.size 103 2 u (leftF fl t).length (fltsV (leftF fl t)) by have := HO.out; rwa [List.take_length] at this)
      have hBR := HB1.out.below HB.out hp1
      have c6 : wr.cell? ⟨p, 6, none⟩ = some (.bool s.stopped) := hBR.cell 6
      have c7 : wr.cell? ⟨p, 7, none⟩ = some (.int .i64 s.stop) := hBR.cell 7
      have c5 : wr.cell? ⟨p, 5, none⟩ = some s.vf := hBR.cell 5
      have f5 := hBR.frozen 5
      have HBR := Lib.hid hBR
      rw [List.take_length]
      obtain ⟨A7, d7, hu⟩ := own_slice HO'.out
      subst hu
      clear hBR HO hlt
      go_upto_region 14 with fail
      obtain ⟨w3, hw3⟩ : ∃ w3, wr.setCell ⟨p, 5, none⟩ (.slice A7 (leftF fl t).length d7) = w3 := ⟨_, rfl⟩
      rw [hw3]
      have hb3 : Blk w3 p 68 #[.int .i64 s.cap, .int .i64 (t + 1), .map (some s.mn), .map (some s.ms), s.vp, .slice A7 (leftF fl t).length d7, .bool s.stopped, .int .i64 s.stop] := by
        rw [← hw3]; exact HBR.out.set_ 5 _
      have hs3 : w3.heap.size = wr.heap.size := by rw [← hw3]; simp [World.setCell]
      have ho3 : w3.ownsRow w1.heap.size 103 2 (.slice A7 (leftF fl t).length d7) (leftF fl t).length (fltsV (leftF fl t)) := by
        rw [← hw3]; exact ownsRow_setCell_below HO'.out hp1 _
      have hk3 : ∀ k, k < w.heap.size → k ≠ p → w3.heap[k]? = w.heap[k]? := fun k hk hne => by
        rw [← hw3, Below.heap_setCell _ _ _ _ hne, HB.out.block k (by omega), HK1.out k hne]
      have hc3 : Chg F w w3 := by rw [← hw3]; exact (HC1.out.below HB.out (by omega)).setCell (.inl H.out.own) _
      have hD : DiskAt w3 (Gr F w) p (begun s (.slice A7 (leftF fl t).length d7)) := by
        refine H.out.begun _ hk3 (by rw [ht]; exact hb3) ?_ ?_
        · rw [hl, ht]; exact own_low ho3 (Nat.zero_le _)
        · intro k hk
          have := (ho3.lt k hk).1
          exact .inr (by omega)
      have c6' : w3.cell? ⟨p, 6, none⟩ = some (.bool s.stopped) := hb3.cell 6
      have c7' : w3.cell? ⟨p, 7, none⟩ = some (.int .i64 s.stop) := hb3.cell 7
      have HD := Lib.hid hD
      have HC3 := Lib.hid hc3
      have HR3 := Lib.hid (show Reads w3 w3.heap.size 1 A n (ns.map Value.string) from ⟨HR.out.1, fun h0 => by
        obtain ⟨ad, e, hlt, hc⟩ := HR.out.2 h0
        refine ⟨ad, e, by omega, fun j v hv => (World.cell?_of_block (a := ad.add j) ?_).trans (hc j v hv)⟩
        rw [block_of_add]
        exact hk3 _ hlt (HAP.out ad e)⟩)
      clear hw3 hb3 ho3 hk3 hc3 hD c6 c7 c5 f5 HBR HO'
      have hnl : ns.length = n := by have := HR3.out.1; simpa using this
      have hfin : ∀ q k w4, w4 = w3.drewN q → beginS s ns = k → BeginPost w F p s ns (.returned (.tuple #[.int .i64 k.1, .int .i64 k.2])) w4 := by
        rintro q k w4 rfl rfl
        exact ⟨_, rfl, HD.out.drewN q, HC3.out.drewN q⟩
      have HFIN := Lib.hid hfin
      clear hfin
      by_cases hst : s.stopped = true ∧ s.stop ≤ t
      · obtain ⟨h1, h2⟩ := hst
        have HB0 := Lib.hid (show beginS s ns = (0, 7) by unfold beginS; rw [if_pos ⟨h1, by rw [ht]; exact h2⟩])
        rw [h1] at c6'
        clear h1
        go_wp2
        go_ret2
        exact HFIN.out 0 (0, 7) _ rfl HB0.out
      · have hB1 : beginS s ns = match struckF fl t with | some k => (k, 6) | none => if ns.all rightB then (0, 0) else (0, 2) := by unfold beginS; rw [if_neg (by rw [ht]; exact hst), hl, ht]
        have HB1' := Lib.hid hB1
        clear hB1
        have hcase : s.stopped = false ∨ (s.stopped = true ∧ t < s.stop) := by
          cases hs : s.stopped
          · exact .inl rfl
          · refine .inr ⟨rfl, ?_⟩
            rcases Int.lt_or_le t s.stop with h | h
            · exact h
            · exact absurd ⟨hs, h⟩ hst
        clear hst
        cases hs : struckF fl t with
        | some v0 =>
          rw [hs] at HB1'
          rcases hcase with hc | ⟨hc, hlt⟩
          all_goals
            rw [hc] at c6'
            clear hc hs
            go_wp2
            go_ret2
            exact HFIN.out 0 (v0, 6) _ rfl HB1'.out
        | none =>
          rw [hs] at HB1'
          rcases hcase with hc | ⟨hc, hlt⟩
          all_goals
            rw [hc] at c6'
            clear hc hs
            go_wp2_with fail
            go_loopw [68] (fun i wx => NameR w3 ns i wx) (fun i _ => n - (intOf i).toNat)
            case atStart => exact ⟨0, 0, Nat.zero_le _, rfl, rfl, rfl⟩
            case round =>
              obtain ⟨k, q, hk, rfl, hwx, hall⟩ := hrel
              obtain ⟨wx, hwxe⟩ : ∃ wx, wx = wr := ⟨_, rfl⟩
              subst hwxe
              have HWX := Lib.hid hwx
              have HA := Lib.hid hall
              clear hall
              by_cases hlt : k < n
              · obtain ⟨ad, rfl, -, hcell⟩ := HR3.out.2 (by omega)
                have hkl : k < ns.length := by omega
                have HSZ := Lib.hid (HN.out ns[k] (List.getElem_mem _))
                have HSN := Lib.hid (show (ns.take (k + 1)) = ns.take k ++ [ns[k]] from List.take_succ_eq_append_getElem hkl)
                have HMEM := Lib.hid (show ns[k] ∈ ns from List.getElem_mem _)
                have d0 : wx.cell? (ad.add k) = some (.string ns[k]) := by
                  rw [hwx]
                  exact hcell k _ (by rw [List.getElem?_map, List.getElem?_eq_getElem hkl]; rfl)
                generalize ns[k] = nm at *
                clear hcell hwx
                go_wp2_with fail
                refine (right_any nm wx HSZ.out).mono ?_
                rintro e w5 ⟨rfl, q5, hw5⟩
                have HW5 := Lib.hid hw5
                clear hw5 d0
                cases hr : rightB nm with
                | true =>
                  have HRT := Lib.hid hr
                  clear hr
                  go_wp2
                  refine ⟨⟨k + 1, q + q5, by omega, by go_num, by rw [HW5.out, HWX.out]; exact World.drewN_drewN w3 _ _, by rw [HSN.out, List.all_append, HA.out, List.all_cons, HRT.out]; rfl⟩, by simp [intOf]; omega⟩
                | false =>
                  have HRT := Lib.hid hr
                  clear hr
                  go_wp2
                  go_ret2
                  refine HFIN.out (q + q5) (0, 2) _ (by rw [HW5.out, HWX.out]; exact World.drewN_drewN w3 _ _) ?_
                  have : ns.all rightB = false := List.all_eq_false.2 ⟨nm, HMEM.out, by rw [HRT.out]; simp⟩
                  rw [HB1'.out, this]
                  rfl
              · obtain rfl : k = n := by omega
                clear hwx
                go_wp2
                go_ret2
                refine HFIN.out q (0, 0) _ HWX.out ?_
                have : ns.all rightB = true := by have := HA.out; rwa [← hnl, List.take_length] at this
                rw [HB1'.out, this]
                rfl
end Go.Proofs.Ytfeglchngekedaa
