/- The walk of the iterator that chunk.All hands back. -/
import Derived.Test.YtjlfkdopkhejbaaDoorAll
import Derived.Sort.QuietIn
import Derived.Laws.BitsAllLaws
import Derived.Laws.BitsLemmas
namespace Go.Proofs.YtjlfkdopkhejbaaDoor
open Go.RowKit Go.Shelf Ck
attribute [local go_sem] Oper.semAt_some frombits_call tobits_call run_store_float

/-- a sample as yield is handed it -/
def encS (x : Smp) : Array Value := #[.int .i64 x.t, .float .f64 x.v]

theorem AllAt.below {w w' : World} {X : Nat} {v : Value} {bs : List Nat} (h : AllAt w X v bs) (hb : Below w.heap.size w w') : AllAt w' X v bs :=
  ⟨h.box.below hb h.box.lt, h.own.kept (only_of_below hb none) (by cases hv : v.ownBlock <;> simp), h.lt, h.small⟩

set_option maxRecDepth 100000 in
set_option maxHeartbeats 800000 in
theorem iter_short (n l X : Nat) (v : Value) (bs : List Nat) (W : World) (h : AllAt W X v bs) (hs : bs.length < 2) :
    CallsIn Fence.wide n Tryd.prog 36 #[.func (.yield l) #[] #[], .pointer (some ⟨X, 0, none⟩)] W fun e W' => (∃ u, e = .returned u) ∧ W = W' := by
  obtain ⟨A, c, rfl, _⟩ := own_byt h.own
  have x0 : W.cell? ⟨X, 0, none⟩ = some (.slice A bs.length c) := h.box.cell 0
  clear h
  refine callsIn_of_wp Tryd.func36 rfl trivial ?_ rfl
  simp only [Tryd.ntmps36, List.size_toArray, List.length_cons, List.length_nil, Nat.reduceAdd, Nat.reduceSub, Array.replicate_succ, Array.replicate_zero, List.push_toArray, List.append_toArray, List.nil_append, List.cons_append]
  gi_wp2
  refine bodyPost_ret (results_none rfl _ _ _) rfl ?_
  exact ⟨⟨_, rfl⟩, rfl⟩

theorem RdAt.kept {w w' : World} {R G off cap : Nat} {bs : List Nat} {r : Rd} (h : RdAt w R G off cap bs r) (hR : w'.heap[R]? = w.heap[R]?) (hG : w'.heap[G]? = w.heap[G]?) (hs : w.heap.size ≤ w'.heap.size) : RdAt w' R G off cap bs r :=
  ⟨hR.trans h.blk, h.ne, h.small, fun i hi => (World.cell?_of_block hG).trans (h.byte i hi), h.lt, h.pos, fun hn => Nat.lt_of_lt_of_le (h.inG hn) hs⟩

def IterRel (J : List Smp → World → Prop) (R C off cap cnt : Nat) (bs : List Nat) (all : List Smp) (i : Value) (wr : World) : Prop :=
  ∃ (pre : List Smp) (rk : Rd), i = .int .i64 pre.length ∧ pre.length ≤ cnt ∧ RdAt wr R C off cap bs rk ∧ Win rk.s ∧ rk.s.n = pre.length ∧ rk.s.v < 2 ^ 64 ∧
    all = pre ++ decGo (ofBytes bs) (cnt - pre.length) rk ∧ J pre wr ∧ R < wr.heap.size

theorem i64_or_nat (a b : Nat) (ha : a < 9223372036854775808) (hb : b < 9223372036854775808) : bits .or .i64 (a : Int) (b : Int) = ((a ||| b : Nat) : Int) := by
  have hx : a ||| b < 2 ^ 63 := Nat.or_lt_two_pow (by omega) (by omega)
  show IntKind.i64.wrap ((BitVec.ofInt 64 (a : Int) ||| BitVec.ofInt 64 (b : Int)).toNat : Int) = _
  have e : ∀ c : Nat, c < 9223372036854775808 → (BitVec.ofInt 64 (c : Int)).toNat = c := fun c hc => by
    rw [BitVec.ofInt_natCast, BitVec.toNat_ofNat]; exact Nat.mod_eq_of_lt (by omega)
  rw [BitVec.toNat_or, e a ha, e b hb, IntKind.wrap_i64]
  omega
theorem count_bits (b0 b1 : Nat) (h0 : b0 < 256) (h1 : b1 < 256) : bits .or .i64 ((b0 : Int) * 256) (b1 : Int) = ((b0 * 256 + b1 : Nat) : Int) := by
  have e2 : (b0 : Int) * 256 = ((b0 * 256 : Nat) : Int) := by omega
  rw [e2, i64_or_nat _ _ (by omega) (by omega)]
  congr 1
  have h := Nat.two_pow_add_eq_or_of_lt (i := 8) (b := b1) (by omega) b0
  rw [Nat.mul_comm, show (256 : Nat) = 2 ^ 8 from rfl, ← h]
theorem allOf_long (bs : List Nat) (h : 2 ≤ bs.length) : allOf bs = decGo (ofBytes (bs.drop 2)) (bs.getD 0 0 * 256 + bs.getD 1 0) Rd.zero := by
  unfold allOf
  rw [if_neg (by omega)]


set_option maxRecDepth 100000 in
set_option maxHeartbeats 1600000 in
theorem iter_longA (n l X C cap : Nat) (bs : List Nat) (W : World) (h : AllAt W X (.slice (some ⟨C, 0, none⟩) bs.length cap) bs) (hs : 2 ≤ bs.length) (_hcap : bs.length ≤ cap) (hc2 : cap ≠ 2)
    (J Jx : List Smp → World → Prop) (hJ : ∀ s A B, J s A → A.grownBy B (some W.heap.size) → J s B)
    (hY : ∀ pre x W1, J pre W1 → pre ++ [x] <+: allOf bs → W.heap.size < W1.heap.size → YieldAt Fence.wide (n - 1) Tryd.prog l (encS x) W1 fun e W' =>
      (e = .returned (.bool true) ∧ J (pre ++ [x]) W' ∧ W1.heap.size ≤ W'.heap.size ∧ ∀ k, k = W.heap.size ∨ k = C → W'.heap[k]? = W1.heap[k]?) ∨ (e = .returned (.bool false) ∧ Jx (pre ++ [x]) W'))
    (h0 : J [] W) :
    CallsIn Fence.wide n Tryd.prog 36 #[.func (.yield l) #[] #[], .pointer (some ⟨X, 0, none⟩)] W fun e W' => (∃ u, e = .returned u) ∧ (J (allOf bs) W' ∨ ∃ pre, pre <+: allOf bs ∧ Jx pre W') := by
  have x0 : W.cell? ⟨X, 0, none⟩ = some (.slice (some ⟨C, 0, none⟩) bs.length cap) := h.box.cell 0
  have hb0 := getD_lt h.lt 0
  have hb1 := getD_lt h.lt 1
  have q0 : W.cell? ⟨C, 0, none⟩ = some (.int .u8 (bs.getD 0 0 : Nat)) := by
    rw [h.own.cellAt 0 (by omega), bytesV, List.getElem?_map, List.getElem?_eq_getElem (by omega)]
    simp [List.getD, List.getElem?_eq_getElem (show 0 < bs.length by omega)]
  have q1 : W.cell? ⟨C, 1, none⟩ = some (.int .u8 (bs.getD 1 0 : Nat)) := by
    rw [h.own.cellAt 1 (by omega), bytesV, List.getElem?_map, List.getElem?_eq_getElem (by omega)]
    simp [List.getD, List.getElem?_eq_getElem (show 1 < bs.length by omega)]
  have hall := allOf_long bs hs
  have hbyte : ∀ i, i < (bs.drop 2).length → W.cell? ⟨C, 2 + i, none⟩ = some (.int .u8 ((bs.drop 2).getD i 0 : Nat)) := fun i hi => by
    rw [List.length_drop] at hi
    rw [h.own.cellAt (2 + i) (by omega), bytesV, List.getElem?_map, List.getElem?_eq_getElem (by omega)]
    simp [List.getD, List.getElem?_eq_getElem (show 2 + i < bs.length by omega)]
  have hlt2 : ∀ b ∈ bs.drop 2, b < 256 := fun b hb => h.lt b (List.mem_of_mem_drop hb)
  have hlen : (bs.drop 2).length = (bs.length - 2) := by rw [List.length_drop]
  obtain ⟨bd, hbd⟩ : ∃ bd, bd = bs.drop 2 := ⟨_, rfl⟩
  rw [← hbd] at hall hbyte hlt2 hlen
  obtain ⟨all, hal⟩ : ∃ all, all = allOf bs := ⟨_, rfl⟩
  rw [← hal] at hall hY ⊢
  have H := Lib.hid h
  have HJ := Lib.hid hJ
  have HY := Lib.hid hY
  have H0 := Lib.hid h0
  have HAL := Lib.hid hall
  have HBY := Lib.hid hbyte
  have HLT := Lib.hid hlt2
  have HLEN := Lib.hid hlen
  have hsm := h.small
  clear h hJ hY h0 hall hbyte hlt2 hlen hbd hal
  obtain ⟨b0, hb0e⟩ : ∃ b, b = bs.getD 0 0 := ⟨_, rfl⟩
  obtain ⟨b1, hb1e⟩ : ∃ b, b = bs.getD 1 0 := ⟨_, rfl⟩
  rw [← hb0e] at hb0 q0 HAL
  rw [← hb1e] at hb1 q1 HAL
  clear hb0e hb1e
  refine callsIn_of_wp Tryd.func36 rfl trivial ?_ rfl
  simp only [Tryd.ntmps36, List.size_toArray, List.length_cons, List.length_nil, Nat.reduceAdd, Nat.reduceSub, Array.replicate_succ, Array.replicate_zero, List.push_toArray, List.append_toArray, List.nil_append, List.cons_append]
  have hp0 : 0 < bs.length := by omega
  have hp1 : (0 : Int) < (bs.length : Int) := by omega
  have hp2 : (1 : Int) < (bs.length : Int) := by omega
  gi_wp2
  have hR := Blk.new W 72 (rdCells Rd.zero (.slice (some ⟨C, 2, none⟩) (bs.length - 2) (cap - 2)))
  have hg := only_alloc (only_refl W (some W.heap.size)) (.cells (rdCells Rd.zero (.slice (some ⟨C, 2, none⟩) (bs.length - 2) (cap - 2))) 72)
  obtain ⟨W1, hW1⟩ : ∃ W', W.alloc (.cells (rdCells Rd.zero (.slice (some ⟨C, 2, none⟩) (bs.length - 2) (cap - 2))) 72) = W' := ⟨_, rfl⟩
  have hsz : W1.heap.size = W.heap.size + 1 := by rw [← hW1]; simp
  rw [hW1] at hR hg
  change Code.wpIn _ _ _ _ _ _ (W.alloc (.cells (rdCells Rd.zero (.slice (some ⟨C, 2, none⟩) (bs.length - 2) (cap - 2))) 72))
  rw [hW1]
  have hXl := H.out.box.lt
  have hCl : C < W.heap.size := (H.out.own.lt C rfl).2
  have x1 : W1.cell? ⟨X, 0, none⟩ = some (.slice (some ⟨C, 0, none⟩) bs.length cap) := (World.cell?_of_block (hg.block X hXl (by simp; omega))).trans x0
  have r0 : W1.cell? ⟨C, 0, none⟩ = some (.int .u8 (b0 : Nat)) := (World.cell?_of_block (hg.block C hCl (by simp; omega))).trans q0
  have r1 : W1.cell? ⟨C, 1, none⟩ = some (.int .u8 (b1 : Nat)) := (World.cell?_of_block (hg.block C hCl (by simp; omega))).trans q1
  have hrd : RdAt W1 W.heap.size C 2 (cap - 2) bd Rd.zero := by
    refine ⟨?_, by omega, by rw [HLEN.out]; omega, fun i hi => (World.cell?_of_block (hg.block C hCl (by simp; omega))).trans (HBY.out i hi), HLT.out, Nat.zero_le _, fun _ => by omega⟩
    rw [HLEN.out]; exact hR
  have HRD := Lib.hid hrd
  have HG := Lib.hid hg
  have HSZ := Lib.hid hsz
  clear hW1 hR hg hsz x0 q0 q1 hrd
  gi_quiet (fail)
  gi_wp2_with fail
  rw [count_bits b0 b1 hb0 hb1]
  have hJ1 : J [] (W1.drewN nq) := HJ.out [] W _ H0.out (only_drewN HG.out nq)
  have hszn : W.heap.size < (W1.drewN nq).heap.size := by have := HSZ.out; show W.heap.size < W1.heap.size; omega
  obtain ⟨cnt, hcnt⟩ : ∃ c, c = b0 * 256 + b1 := ⟨_, rfl⟩
  have hc6 : cnt ≤ 65535 := by omega
  rw [← hcnt] at HAL ⊢
  clear hcnt r0 r1 x1 HG HSZ
  have hrel0 : IterRel J W.heap.size C 2 (cap - 2) cnt bd all (.int .i64 0) (W1.drewN nq) := ⟨[], Rd.zero, rfl, Nat.zero_le _, HRD.out.drewN nq, (fun h => by cases h), rfl, by decide, HAL.out, hJ1, hszn⟩
  have HREL0 := Lib.hid hrel0
  clear hrel0 hJ1 hszn HRD
  gi_loopw [24] (fun i wr => IterRel J W.heap.size C 2 (cap - 2) cnt bd all i wr) (fun i _ => cnt - (intOf i).toNat)
  case atStart => exact HREL0.out
  case round =>
    clear HREL0
    obtain ⟨pre, rk, rfl, hk, hr, hw, hn, hv, ha, hj, hsz⟩ := hrel
    by_cases hlt : pre.length < cnt
    · have HR := Lib.hid hr
      have HW := Lib.hid hw
      have HN := Lib.hid hn
      have HV := Lib.hid hv
      have HA := Lib.hid ha
      have HJ1 := Lib.hid hj
      clear hr hw hn hv ha hj
      gi_wp2_with fail
      refine ⟨trivial, (fun h => by cases h), (callsIn_wide.2 (next_any W.heap.size C 2 (cap - 2) bd rk wr HR.out HW.out (by rw [HN.out]; omega) HV.out)).mono ?_⟩
      rintro e w2 ⟨rfl, hr2, hg2⟩
      obtain ⟨kw, kv, kn⟩ := nextR_keeps (ofBytes bd) rk HW.out HV.out
      have hdec : decGo (ofBytes bd) (cnt - pre.length) rk = if (nextR (ofBytes bd) rk).short = true then [] else ⟨(nextR (ofBytes bd) rk).s.t, (nextR (ofBytes bd) rk).s.v⟩ :: decGo (ofBytes bd) (cnt - (pre.length + 1)) (nextR (ofBytes bd) rk) := by
        obtain ⟨m, hm⟩ : ∃ m, cnt - pre.length = m + 1 := ⟨cnt - pre.length - 1, by omega⟩
        rw [hm, decGo, show cnt - (pre.length + 1) = m by omega]
      obtain ⟨r2, hr2e⟩ : ∃ r, r = nextR (ofBytes bd) rk := ⟨_, rfl⟩
      rw [← hr2e] at hr2 kw kv kn hdec ⊢
      have hj2 := HJ.out _ _ _ HJ1.out hg2
      have hsz2 : W.heap.size < w2.heap.size := Nat.lt_of_lt_of_le hsz hg2.size
      have ha2 := HA.out
      rw [hdec] at ha2
      rw [HN.out] at kn
      have HR2 := Lib.hid hr2
      have HJ2 := Lib.hid hj2
      have HKW := Lib.hid kw
      have HKV := Lib.hid kv
      have HKN := Lib.hid kn
      clear hr2 hj2 kw kv kn hr2e hdec hg2
      by_cases hsh : r2.short = true
      · rw [if_pos hsh, List.append_nil] at ha2
        have HA2 := Lib.hid ha2
        clear ha2
        rw [show (!r2.short) = false by rw [hsh]; rfl]
        gi_wp2
        refine ⟨(fun f h => by cases h), ?_⟩
        gi_wp2
        refine bodyPost_ret (results_none rfl _ _ _) rfl ?_
        exact ⟨⟨_, rfl⟩, .inl (by rw [HA2.out]; exact HJ2.out)⟩
      · rw [if_neg hsh] at ha2
        have hsf : r2.short = false := by simpa using hsh
        have HA2 := Lib.hid ha2
        clear ha2 hsh
        rw [show (!r2.short) = true by rw [hsf]; rfl]
        have hpre : pre ++ [⟨r2.s.t, r2.s.v⟩] <+: all := ⟨decGo (ofBytes bd) (cnt - (pre.length + 1)) r2, by rw [HA2.out]; simp⟩
        obtain ⟨fn, tmps, assign, body, hy, hRd⟩ := HY.out pre ⟨r2.s.t, r2.s.v⟩ w2 HJ2.out hpre hsz2
        dsimp only [encS] at hy
        have HP := Lib.hid hpre
        clear hpre
        gi_wp2
        refine ⟨(fun h => by cases h), hRd.mono ?_⟩
        rintro e W3 (⟨rfl, hJ3, hs3, hk3⟩ | ⟨rfl, hJx3⟩)
        · have hr3 := HR2.out.kept (hk3 _ (.inl rfl)) (hk3 _ (.inr rfl)) hs3
          have HR3 := Lib.hid hr3
          have HJ3 := Lib.hid hJ3
          have hsz3 : W.heap.size < W3.heap.size := Nat.lt_of_lt_of_le hsz2 hs3
          clear hr3 hJ3 hs3 hk3 hRd hy
          gi_wp2
          go_roundw
          case rel => exact ⟨pre ++ [⟨r2.s.t, r2.s.v⟩], r2, by rw [List.length_append]; rfl, by rw [List.length_append]; simp; omega, HR3.out, HKW.out, by rw [HKN.out, List.length_append]; rfl, HKV.out, by rw [HA2.out, List.length_append]; simp, HJ3.out, hsz3⟩
          case measure => simp [intOf]; omega
        · clear hRd hy
          gi_wp2
          refine bodyPost_ret (results_none rfl _ _ _) rfl ?_
          exact ⟨⟨_, rfl⟩, .inr ⟨_, HP.out, hJx3⟩⟩
    · have hkc : pre.length = cnt := by omega
      have HA := Lib.hid ha
      clear ha hr hw
      gi_wp2
      go_end0
      refine ⟨⟨_, rfl⟩, .inl ?_⟩
      have e := HA.out
      rw [hkc, Nat.sub_self] at e
      rw [e, decGo, List.append_nil]
      exact hj

set_option maxRecDepth 100000 in
set_option maxHeartbeats 1600000 in
theorem iter_longB (n l X C cap : Nat) (bs : List Nat) (W : World) (h : AllAt W X (.slice (some ⟨C, 0, none⟩) bs.length cap) bs) (hs : 2 ≤ bs.length) (hcap : bs.length ≤ cap) (hc2 : cap = 2)
    (J Jx : List Smp → World → Prop) (hJ : ∀ s A B, J s A → A.grownBy B (some W.heap.size) → J s B)
    (hY : ∀ pre x W1, J pre W1 → pre ++ [x] <+: allOf bs → W.heap.size < W1.heap.size → YieldAt Fence.wide (n - 1) Tryd.prog l (encS x) W1 fun e W' =>
      (e = .returned (.bool true) ∧ J (pre ++ [x]) W' ∧ W1.heap.size ≤ W'.heap.size ∧ ∀ k, k = W.heap.size ∨ k = C → W'.heap[k]? = W1.heap[k]?) ∨ (e = .returned (.bool false) ∧ Jx (pre ++ [x]) W'))
    (h0 : J [] W) :
    CallsIn Fence.wide n Tryd.prog 36 #[.func (.yield l) #[] #[], .pointer (some ⟨X, 0, none⟩)] W fun e W' => (∃ u, e = .returned u) ∧ (J (allOf bs) W' ∨ ∃ pre, pre <+: allOf bs ∧ Jx pre W') := by
  subst hc2
  have x0 : W.cell? ⟨X, 0, none⟩ = some (.slice (some ⟨C, 0, none⟩) bs.length 2) := h.box.cell 0
  have hb0 := getD_lt h.lt 0
  have hb1 := getD_lt h.lt 1
  have q0 : W.cell? ⟨C, 0, none⟩ = some (.int .u8 (bs.getD 0 0 : Nat)) := by
    rw [h.own.cellAt 0 (by omega), bytesV, List.getElem?_map, List.getElem?_eq_getElem (by omega)]
    simp [List.getD, List.getElem?_eq_getElem (show 0 < bs.length by omega)]
  have q1 : W.cell? ⟨C, 1, none⟩ = some (.int .u8 (bs.getD 1 0 : Nat)) := by
    rw [h.own.cellAt 1 (by omega), bytesV, List.getElem?_map, List.getElem?_eq_getElem (by omega)]
    simp [List.getD, List.getElem?_eq_getElem (show 1 < bs.length by omega)]
  have hall := allOf_long bs hs
  have hbyte : ∀ i, i < (bs.drop 2).length → W.cell? ⟨C, 0 + i, none⟩ = some (.int .u8 ((bs.drop 2).getD i 0 : Nat)) := fun i hi => by
    rw [List.length_drop] at hi
    omega
  have hlt2 : ∀ b ∈ bs.drop 2, b < 256 := fun b hb => h.lt b (List.mem_of_mem_drop hb)
  have hlen : (bs.drop 2).length = 0 := by rw [List.length_drop]; omega
  obtain ⟨bd, hbd⟩ : ∃ bd, bd = bs.drop 2 := ⟨_, rfl⟩
  rw [← hbd] at hall hbyte hlt2 hlen
  obtain ⟨all, hal⟩ : ∃ all, all = allOf bs := ⟨_, rfl⟩
  rw [← hal] at hall hY ⊢
  have H := Lib.hid h
  have HJ := Lib.hid hJ
  have HY := Lib.hid hY
  have H0 := Lib.hid h0
  have HAL := Lib.hid hall
  have HBY := Lib.hid hbyte
  have HLT := Lib.hid hlt2
  have HLEN := Lib.hid hlen
  have hsm := h.small
  clear h hJ hY h0 hall hbyte hlt2 hlen hbd hal
  obtain ⟨b0, hb0e⟩ : ∃ b, b = bs.getD 0 0 := ⟨_, rfl⟩
  obtain ⟨b1, hb1e⟩ : ∃ b, b = bs.getD 1 0 := ⟨_, rfl⟩
  rw [← hb0e] at hb0 q0 HAL
  rw [← hb1e] at hb1 q1 HAL
  clear hb0e hb1e
  refine callsIn_of_wp Tryd.func36 rfl trivial ?_ rfl
  simp only [Tryd.ntmps36, List.size_toArray, List.length_cons, List.length_nil, Nat.reduceAdd, Nat.reduceSub, Array.replicate_succ, Array.replicate_zero, List.push_toArray, List.append_toArray, List.nil_append, List.cons_append]
  have hp0 : 0 < bs.length := by omega
  have hp1 : (0 : Int) < (bs.length : Int) := by omega
  have hp2 : (1 : Int) < (bs.length : Int) := by omega
  gi_wp2
  have hR := Blk.new W 72 (rdCells Rd.zero (.slice (some ⟨C, 0, none⟩) 0 0))
  have hg := only_alloc (only_refl W (some W.heap.size)) (.cells (rdCells Rd.zero (.slice (some ⟨C, 0, none⟩) 0 0)) 72)
  obtain ⟨W1, hW1⟩ : ∃ W', W.alloc (.cells (rdCells Rd.zero (.slice (some ⟨C, 0, none⟩) 0 0)) 72) = W' := ⟨_, rfl⟩
  have hsz : W1.heap.size = W.heap.size + 1 := by rw [← hW1]; simp
  rw [hW1] at hR hg
  change Code.wpIn _ _ _ _ _ _ (W.alloc (.cells (rdCells Rd.zero (.slice (some ⟨C, 0, none⟩) 0 0)) 72))
  rw [hW1]
  have hXl := H.out.box.lt
  have hCl : C < W.heap.size := (H.out.own.lt C rfl).2
  have x1 : W1.cell? ⟨X, 0, none⟩ = some (.slice (some ⟨C, 0, none⟩) bs.length 2) := (World.cell?_of_block (hg.block X hXl (by simp; omega))).trans x0
  have r0 : W1.cell? ⟨C, 0, none⟩ = some (.int .u8 (b0 : Nat)) := (World.cell?_of_block (hg.block C hCl (by simp; omega))).trans q0
  have r1 : W1.cell? ⟨C, 1, none⟩ = some (.int .u8 (b1 : Nat)) := (World.cell?_of_block (hg.block C hCl (by simp; omega))).trans q1
  have hrd : RdAt W1 W.heap.size C 0 0 bd Rd.zero := by
    refine ⟨?_, by omega, by rw [HLEN.out]; omega, fun i hi => (World.cell?_of_block (hg.block C hCl (by simp; omega))).trans (HBY.out i hi), HLT.out, Nat.zero_le _, fun _ => by omega⟩
    rw [HLEN.out]; exact hR
  have HRD := Lib.hid hrd
  have HG := Lib.hid hg
  have HSZ := Lib.hid hsz
  clear hW1 hR hg hsz x0 q0 q1 hrd
  gi_quiet (fail)
  gi_wp2_with fail
  rw [count_bits b0 b1 hb0 hb1]
  have hJ1 : J [] (W1.drewN nq) := HJ.out [] W _ H0.out (only_drewN HG.out nq)
  have hszn : W.heap.size < (W1.drewN nq).heap.size := by have := HSZ.out; show W.heap.size < W1.heap.size; omega
  obtain ⟨cnt, hcnt⟩ : ∃ c, c = b0 * 256 + b1 := ⟨_, rfl⟩
  have hc6 : cnt ≤ 65535 := by omega
  rw [← hcnt] at HAL ⊢
  clear hcnt r0 r1 x1 HG HSZ
  have hrel0 : IterRel J W.heap.size C 0 0 cnt bd all (.int .i64 0) (W1.drewN nq) := ⟨[], Rd.zero, rfl, Nat.zero_le _, HRD.out.drewN nq, (fun h => by cases h), rfl, by decide, HAL.out, hJ1, hszn⟩
  have HREL0 := Lib.hid hrel0
  clear hrel0 hJ1 hszn HRD
  gi_loopw [24] (fun i wr => IterRel J W.heap.size C 0 0 cnt bd all i wr) (fun i _ => cnt - (intOf i).toNat)
  case atStart => exact HREL0.out
  case round =>
    clear HREL0
    obtain ⟨pre, rk, rfl, hk, hr, hw, hn, hv, ha, hj, hsz⟩ := hrel
    by_cases hlt : pre.length < cnt
    · have HR := Lib.hid hr
      have HW := Lib.hid hw
      have HN := Lib.hid hn
      have HV := Lib.hid hv
      have HA := Lib.hid ha
      have HJ1 := Lib.hid hj
      clear hr hw hn hv ha hj
      gi_wp2_with fail
      refine ⟨trivial, (fun h => by cases h), (callsIn_wide.2 (next_any W.heap.size C 0 0 bd rk wr HR.out HW.out (by rw [HN.out]; omega) HV.out)).mono ?_⟩
      rintro e w2 ⟨rfl, hr2, hg2⟩
      obtain ⟨kw, kv, kn⟩ := nextR_keeps (ofBytes bd) rk HW.out HV.out
      have hdec : decGo (ofBytes bd) (cnt - pre.length) rk = if (nextR (ofBytes bd) rk).short = true then [] else ⟨(nextR (ofBytes bd) rk).s.t, (nextR (ofBytes bd) rk).s.v⟩ :: decGo (ofBytes bd) (cnt - (pre.length + 1)) (nextR (ofBytes bd) rk) := by
        obtain ⟨m, hm⟩ : ∃ m, cnt - pre.length = m + 1 := ⟨cnt - pre.length - 1, by omega⟩
        rw [hm, decGo, show cnt - (pre.length + 1) = m by omega]
      obtain ⟨r2, hr2e⟩ : ∃ r, r = nextR (ofBytes bd) rk := ⟨_, rfl⟩
      rw [← hr2e] at hr2 kw kv kn hdec ⊢
      have hj2 := HJ.out _ _ _ HJ1.out hg2
      have hsz2 : W.heap.size < w2.heap.size := Nat.lt_of_lt_of_le hsz hg2.size
      have ha2 := HA.out
      rw [hdec] at ha2
      rw [HN.out] at kn
      have HR2 := Lib.hid hr2
      have HJ2 := Lib.hid hj2
      have HKW := Lib.hid kw
      have HKV := Lib.hid kv
      have HKN := Lib.hid kn
      clear hr2 hj2 kw kv kn hr2e hdec hg2
      by_cases hsh : r2.short = true
      · rw [if_pos hsh, List.append_nil] at ha2
        have HA2 := Lib.hid ha2
        clear ha2
        rw [show (!r2.short) = false by rw [hsh]; rfl]
        gi_wp2
        refine ⟨(fun f h => by cases h), ?_⟩
        gi_wp2
        refine bodyPost_ret (results_none rfl _ _ _) rfl ?_
        exact ⟨⟨_, rfl⟩, .inl (by rw [HA2.out]; exact HJ2.out)⟩
      · rw [if_neg hsh] at ha2
        have hsf : r2.short = false := by simpa using hsh
        have HA2 := Lib.hid ha2
        clear ha2 hsh
        rw [show (!r2.short) = true by rw [hsf]; rfl]
        have hpre : pre ++ [⟨r2.s.t, r2.s.v⟩] <+: all := ⟨decGo (ofBytes bd) (cnt - (pre.length + 1)) r2, by rw [HA2.out]; simp⟩
        obtain ⟨fn, tmps, assign, body, hy, hRd⟩ := HY.out pre ⟨r2.s.t, r2.s.v⟩ w2 HJ2.out hpre hsz2
        dsimp only [encS] at hy
        have HP := Lib.hid hpre
        clear hpre
        gi_wp2
        refine ⟨(fun h => by cases h), hRd.mono ?_⟩
        rintro e W3 (⟨rfl, hJ3, hs3, hk3⟩ | ⟨rfl, hJx3⟩)
        · have hr3 := HR2.out.kept (hk3 _ (.inl rfl)) (hk3 _ (.inr rfl)) hs3
          have HR3 := Lib.hid hr3
          have HJ3 := Lib.hid hJ3
          have hsz3 : W.heap.size < W3.heap.size := Nat.lt_of_lt_of_le hsz2 hs3
          clear hr3 hJ3 hs3 hk3 hRd hy
          gi_wp2
          go_roundw
          case rel => exact ⟨pre ++ [⟨r2.s.t, r2.s.v⟩], r2, by rw [List.length_append]; rfl, by rw [List.length_append]; simp; omega, HR3.out, HKW.out, by rw [HKN.out, List.length_append]; rfl, HKV.out, by rw [HA2.out, List.length_append]; simp, HJ3.out, hsz3⟩
          case measure => simp [intOf]; omega
        · clear hRd hy
          gi_wp2
          refine bodyPost_ret (results_none rfl _ _ _) rfl ?_
          exact ⟨⟨_, rfl⟩, .inr ⟨_, HP.out, hJx3⟩⟩
    · have hkc : pre.length = cnt := by omega
      have HA := Lib.hid ha
      clear ha hr hw
      gi_wp2
      go_end0
      refine ⟨⟨_, rfl⟩, .inl ?_⟩
      have e := HA.out
      rw [hkc, Nat.sub_self] at e
      rw [e, decGo, List.append_nil]
      exact hj

/-- the iterator's contract -/
theorem iter_seq (n X : Nat) (v : Value) (bs : List Nat) (w0 : World) (h : AllAt w0 X v bs) :
    SeqC Fence.wide n Tryd.prog 36 #[.pointer (some ⟨X, 0, none⟩)] encS (fun k => v.ownBlock = some k) (allOf bs) w0 := by
  intro l J Jx W hb hJ hY h0
  have h' := h.below hb
  by_cases hs : bs.length < 2
  · refine (iter_short n l X v bs W h' hs).mono ?_
    rintro e W' ⟨hu, rfl⟩
    refine ⟨hu, .inl ?_⟩
    have e : allOf bs = [] := by unfold allOf; rw [if_pos hs]
    rw [e]
    exact h0
  · obtain ⟨g, cap, rfl⟩ := own_succ h'.own (by omega)
    have hc : bs.length ≤ cap := by
      rcases h'.own.2 with ⟨_, h0⟩ | ⟨g1, cap1, cur, hv, _, _, hc, _⟩
      · omega
      · simp only [Value.slice.injEq] at hv
        omega
    by_cases h2 : cap = 2
    · exact iter_longB n l X g cap bs W h' (by omega) hc h2 J Jx hJ (fun pre x W1 hj hp hlt => (hY pre x W1 hj hp hlt).mono fun e W' hh => hh.imp (fun ⟨a, b, c, d⟩ => ⟨a, b, c, fun k hk => d k (hk.imp id fun hk => by rw [hk]; rfl)⟩) id) h0
    · exact iter_longA n l X g cap bs W h' (by omega) hc h2 J Jx hJ (fun pre x W1 hj hp hlt => (hY pre x W1 hj hp hlt).mono fun e W' hh => hh.imp (fun ⟨a, b, c, d⟩ => ⟨a, b, c, fun k hk => d k (hk.imp id fun hk => by rw [hk]; rfl)⟩) id) h0
end Go.Proofs.YtjlfkdopkhejbaaDoor
