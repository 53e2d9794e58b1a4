/- The walk of (*chunk.Writer).put: it writes just the bits. -/
import Derived.Test.YtjlfkdopkhejbaaDoorGet
import Derived.Deep.DeepCutAuto
import Derived.BigRegion
namespace Go.Proofs.YtjlfkdopkhejbaaDoor
open Go.RowKit Ck

/-- a writer's cells -/
def wrCells (s : St) (raw : Value) (used : Int) : Array Value :=
  #[.int .i64 s.n, .int .i64 s.t, .int .i64 s.delta, .int .u64 s.v, .int .i64 s.lead, .int .i64 s.tail, .bool s.opn, raw, .int .i64 used]

def bytesV (bs : List Nat) : List Value := bs.map fun b : Nat => .int .u8 (b : Int)

/-- block B is a writer in state s; its row of bytes is bs; so many bits are used -/
structure WrRaw (w : World) (B : Nat) (s : St) (bs : List Nat) (used : Nat) (raw : Value) : Prop where
  blk : Blk w B 76 (wrCells s raw used)
  own : w.ownsRow B 5 1 raw bs.length (bytesV bs)

/-- block B is a writer in state s that has written the bits l -/
def WrAt (w : World) (B : Nat) (s : St) (l : List Bool) : Prop := ∃ raw, WrRaw w B s (pack l) l.length raw

theorem WrRaw.ne {w : World} {B : Nat} {s : St} {bs : List Nat} {used : Nat} {raw : Value} (h : WrRaw w B s bs used raw) : raw.ownBlock ≠ some B := by
  obtain ⟨hb, ho⟩ := h
  rcases ho.2 with ⟨rfl, _⟩ | ⟨g, cap, cur, rfl, _, hh, _⟩
  · simp [Value.ownBlock]
  · intro he
    have : g = B := by simpa [Value.ownBlock] using he
    subst this
    exact Blk.ne_ (t := 5) hh hb (by decide) rfl

/-- from w to w' a writer at block B has been at work: what lay below B is as it was, and each block that is neither B nor a row of bytes -/
structure Wrote (B : Nat) (w w' : World) : Prop where
  below : Below B w w'
  keep : ∀ k t cs, k ≠ B → t ≠ 5 → Blk w k t cs → Blk w' k t cs
theorem Wrote.refl (B : Nat) (w : World) : Wrote B w w := ⟨Below.refl _ _, fun _ _ _ _ _ h => h⟩
theorem Wrote.trans {B : Nat} {a b c : World} (h : Wrote B a b) (k : Wrote B b c) : Wrote B a c :=
  ⟨h.below.trans k.below, fun i t cs hi ht hb => k.keep i t cs hi ht (h.keep i t cs hi ht hb)⟩
theorem Wrote.drewN {B : Nat} {a b : World} (h : Wrote B a b) (n : Nat) : Wrote B a (b.drewN n) := ⟨below_drewN h.below n, fun k t cs hk ht hb => h.keep k t cs hk ht hb⟩
theorem Wrote.of_below {B : Nat} {w w' : World} (hB : B ≤ w.heap.size) (h : Below w.heap.size w w') : Wrote B w w' := ⟨h.mono hB, fun _ _ _ _ _ hb => hb.below h hb.lt⟩
theorem Wrote.put {B : Nat} {a b : World} (h : Wrote B a b) (i : Nat) (u : Value) : Wrote B a (b.setCell ⟨B, i, none⟩ u) :=
  ⟨h.below.setCell (p := ⟨B, i, none⟩) (Nat.le_refl _) u, fun k t cs hk ht hb => (h.keep k t cs hk ht hb).far (p := ⟨B, i, none⟩) hk u⟩

theorem info5 : (Tryd.prog.info? 5).map (fun i => (i.zero, i.size, i.bytes)) = some (some (.int .u8 0), 1, 1) := by kernel_rfl

theorem testBit_div (x k : Nat) : (x.testBit k).toNat = x / 2 ^ k % 2 := by
  rw [Nat.testBit_eq_decide_div_mod_eq]
  have := Nat.mod_two_eq_zero_or_one (x / 2 ^ k)
  rcases this with e | e <;> rw [e] <;> simp
/-- one bit set in, as the walk spells it -/
theorem put_eq (x b k p : Nat) (hx : x < 2 ^ 64) (hb : b < 256) (hp : p ≤ 7) :
    bits BinOp.or IntKind.u8 (b : Int) (bits BinOp.and IntKind.u64 ((x : Int) / 2 ^ k) 1 % 256 * 2 ^ p % 256) = ((b ||| (x.testBit k).toNat * 2 ^ p : Nat) : Int) := by
  have h3 : x / 2 ^ k < 18446744073709551616 := Nat.lt_of_le_of_lt (Nat.div_le_self _ _) hx
  have e1 : ((x : Int) / 2 ^ k) = ((x / 2 ^ k : Nat) : Int) := by norm_cast
  have e2 := u64_and_nat (x / 2 ^ k) 1 h3 (by omega)
  rw [show ((1 : Nat) : Int) = 1 from rfl] at e2
  rw [e1, e2, nat_mask1, testBit_div]
  have h2 : x / 2 ^ k % 2 < 2 := Nat.mod_lt _ (by omega)
  generalize x / 2 ^ k % 2 = c at *
  have hp2 : (2 : Nat) ^ p ≤ 2 ^ 7 := Nat.pow_le_pow_right (by omega) hp
  have e3 : (((c : Nat) : Int) % 256 * 2 ^ p % 256) = ((c * 2 ^ p : Nat) : Int) := by
    have h4 : c * 2 ^ p < 256 := by
      have : c * 2 ^ p ≤ 1 * 2 ^ p := Nat.mul_le_mul_right _ (by omega)
      omega
    have h5 : ((c : Nat) : Int) % 256 = ((c : Nat) : Int) := by omega
    rw [h5]
    have h6 : ((c : Nat) : Int) * 2 ^ p = ((c * 2 ^ p : Nat) : Int) := by norm_cast
    rw [h6]
    omega
  rw [e3]
  have h4 : c * 2 ^ p < 256 := by
    have : c * 2 ^ p ≤ 1 * 2 ^ p := Nat.mul_le_mul_right _ (by omega)
    omega
  exact u8_or_nat _ _ hb h4

def PutRel (w : World) (B : Nat) (s : St) (l : List Bool) (x n : Nat) (i : Value) (wr : World) : Prop :=
  ∃ (m : Nat) (pre : List Bool), m ≤ n ∧ i = .int .i64 ((m : Int) - 1) ∧ pre ++ bitsOf x m = bitsOf x n ∧ WrAt wr B s (l ++ pre) ∧ Wrote B w wr

set_option maxRecDepth 100000 in
set_option maxHeartbeats 1600000 in
theorem put_any (B : Nat) (s : St) (l : List Bool) (x : Nat) (size : Int) (w : World) (h : WrAt w B s l) (h0 : 0 ≤ size) (h1 : size ≤ 64) (hx : x < 2 ^ 64) (hl : l.length ≤ 100000) :
    Calls Tryd.prog 42 #[.pointer (some ⟨B, 0, none⟩), .int .u64 (x : Int), .int .i64 size] w fun e w' => e = .returned (.tuple #[]) ∧ WrAt w' B s (l ++ bitsOf x size.toNat) ∧ Wrote B w w' := by
  obtain ⟨n, rfl⟩ := Int.eq_ofNat_of_zero_le h0
  rw [Int.toNat_natCast]
  obtain ⟨i0, hi, hz0, hz1, hz2⟩ := info_parts info5
  have H := Lib.hid h
  have HI := Lib.hid hi
  have HZ0 := Lib.hid hz0
  have HZ1 := Lib.hid hz1
  have HZ2 := Lib.hid hz2
  clear h hi hz0 hz1 hz2
  go_enter Tryd.func42, Tryd.ntmps42
  go_wp2_with fail
  go_loopw [6] (fun i wr => PutRel w B s l x n i wr) (fun i _ => (intOf i + 1).toNat)
  case atStart => exact ⟨n, [], Nat.le_refl _, rfl, rfl, by simpa using H.out, Wrote.refl _ _⟩
  case round =>
    obtain ⟨m, pre, hm, rfl, hpre, ⟨raw, hr⟩, hb⟩ := hrel
    have hpl : pre.length + m = n := by have := congrArg List.length hpre; simpa [bitsOf_length] using this
    have HP := Lib.hid hpre
    have HB := Lib.hid hb
    clear hpre hb
    by_cases hm0 : m = 0
    · have HM := Lib.hid hm0
      have HR := Lib.hid hr
      have hneg : (m : Int) - 1 < 0 := by omega
      clear hm0 hr
      go_wp2
      go_end0
      have e : pre = bitsOf x n := by have := HP.out; rw [HM.out, bitsOf_zero] at this; simpa using this
      rw [← e]
      exact ⟨rfl, ⟨raw, HR.out⟩, HB.out⟩
    · have hlen : (l ++ pre).length ≤ 100100 := by simp; omega
      obtain ⟨L, hL⟩ : ∃ L, L = l ++ pre := ⟨_, rfl⟩
      rw [← hL] at hr hlen
      have HL := Lib.hid hL
      have hpos : 0 ≤ (m : Int) - 1 := by omega
      have hm1 : (m : Int) - 1 ≤ 63 := by omega
      obtain ⟨U, hU⟩ : ∃ U, U = L.length := ⟨_, rfl⟩
      have hU2 : U ≤ 100100 := by omega
      have c8 : wr.cell? ⟨B, 8, none⟩ = some (.int .i64 (U : Nat)) := by rw [hU]; exact hr.blk.cell 8
      have c7 : wr.cell? ⟨B, 7, none⟩ = some raw := hr.blk.cell 7
      have f7 := hr.blk.frozen 7
      have f8 := hr.blk.frozen 8
      have HU := Lib.hid hU
      clear hL hU
      go_upto_if 18 with fail
      go_cut [] (fun wx => ∃ v, WrRaw wx B s (opened L) U v ∧ Wrote B wr wx)
      case first =>
        by_cases h8 : U % 8 = 0
        · have hsz := hr.blk.lt
          have HR := Lib.hid hr
          have h8' : ((U : Int) % 8 == 0) = true := by simp; omega
          have HE8 := Lib.hid h8
          clear hr h8
          go_wp2_with (at_builtin; refine wpList_append_own _ rfl (.tmp 23) (.tmp 24) 23 rfl B 5 i0 (.int .u8 0) 1 1 Tryd.underlying23 HI.out HZ0.out HZ1.out HZ2.out rfl (by decide) raw (pack L).length (bytesV (pack L)) rfl (HR.out.own.alloc _) ⟨wr.heap.size, 0, none⟩ 1 1 [.int .u8 0] rfl rfl (cell_one_new _ _ _) (by simp [Value.oneCell']) (by rw [pack_length]; simp only [maxLen]; omega) (by rw [pack_length]; omega) (by simp; omega) ?_; intro v' w1 hown1 hgrow1 _; obtain ⟨g', cap', rfl⟩ := own_succ hown1 (by omega); have hB1 := (HR.out.blk.alloc (.cells #[.int .u8 0] 5)).grown hgrow1 HR.out.ne.symm; have b7 : w1.cell? ⟨B, 7, none⟩ = some raw := hB1.cell 7; have g7 := hB1.frozen 7; have HOW := Lib.hid hown1; have HGR := Lib.hid hgrow1; have HB1 := Lib.hid hB1; clear hown1 hgrow1 hB1)
          go_meet
          case rel =>
            have e : opened L = pack L ++ [0] := by unfold opened; rw [if_pos (by rw [← HU.out]; exact HE8.out)]
            have hB1 := HB1.out.set_ 7 (.slice (some ⟨g', 0, none⟩) ((pack L).length + 1) cap')
            refine ⟨.slice (some ⟨g', 0, none⟩) ((pack L).length + 1) cap', ⟨?_, ?_⟩, ?_⟩
            · rw [HU.out]; exact hB1
            · rw [e, List.length_append, bytesV, List.map_append]
              exact ownsRow_setCell_other HOW.out (own_blk_ne HOW.out HB1.out (by decide)) _
            · refine Wrote.put ⟨((Below.refl B wr).alloc (by omega) _).grown HGR.out (by simp; omega) (fun k hk => (HR.out.own.lt k hk).1), fun k t cs hk ht hb => ?_⟩ 7 _
              exact (hb.alloc _).grown HGR.out (own_blk_ne HR.out.own hb (Ne.symm ht)).symm
        · have HR := Lib.hid hr
          have h8' : ((U : Int) % 8 == 0) = false := by simp; omega
          have HE8 := Lib.hid h8
          clear hr h8
          go_wp2
          go_meet
          case rel => refine ⟨raw, ?_, Wrote.refl _ _⟩; have e : opened L = pack L := by unfold opened; rw [if_neg (by rw [← HU.out]; exact HE8.out)]
                      rw [e, HU.out]; exact HR.out
      case rest =>
        obtain ⟨v, hv, hbw⟩ := hcut
        have hol := opened_length L
        obtain ⟨g, cap, rfl⟩ := own_succ hv.own (by omega)
        have q7 : wc.cell? ⟨B, 7, none⟩ = some (.slice (some ⟨g, 0, none⟩) (opened L).length cap) := hv.blk.cell 7
        have q8 : wc.cell? ⟨B, 8, none⟩ = some (.int .i64 (U : Nat)) := hv.blk.cell 8
        have k8 := hv.blk.frozen 8
        have hUl : U / 8 < (opened L).length := by rw [hol, HU.out]; omega
        have hop := opened_at L
        have hbl := pbyte_lt L (L.length / 8)
        rw [← HU.out] at hop hbl
        obtain ⟨b, hb⟩ : ∃ b, b = pbyte L (U / 8) := ⟨_, rfl⟩
        rw [← hb] at hop hbl
        have HBp := Lib.hid hb
        have qg : wc.cell? ⟨g, U / 8, none⟩ = some (.int .u8 (b : Nat)) := by
          rw [hv.own.cellAt (U / 8) (by omega), bytesV, List.getElem?_map]
          rw [List.getD_eq_getElem?_getD, List.getElem?_eq_getElem hUl] at hop
          rw [List.getElem?_eq_getElem hUl]
          simp only [Option.getD_some] at hop
          rw [hop]; rfl
        have kg := hv.own.frozenAt (U / 8)
        have HV := Lib.hid hv
        have HBW := Lib.hid hbw
        obtain ⟨N, hN⟩ : ∃ N, N = (opened L).length := ⟨_, rfl⟩
        rw [← hN] at q7 hUl
        have HN := Lib.hid hN
        clear hv hbw hol hop hb hN c7 c8 f7 f8 hr
        go_upto_region 5 with fail
        go_cut [] (fun wx => ∃ u, WrRaw wx B s ((opened L).set (U / 8) (b ||| (x.testBit (m - 1)).toNat * 2 ^ (7 - U % 8))) U (.slice (some ⟨g, 0, none⟩) u cap) ∧ Wrote B wr wx)
        case first =>
          go_region
          all_goals (go_wp2_with fail; go_meet)
          rw [put_eq x b (m - 1) (7 - U % 8) hx hbl (by omega)]
          have hs := HV.out.own.stored (U / 8) (.int .u8 ((b ||| (x.testBit (m - 1)).toNat * 2 ^ (7 - U % 8) : Nat) : Int))
          have hg := HV.out.own.lt g rfl
          have hgB : g ≠ B := fun e => own_blk_ne HV.out.own HV.out.blk (by decide) (by rw [← e]; rfl)
          refine ⟨(opened L).length, ⟨?_, ?_⟩, ?_⟩
          · exact (HV.out.blk.far (p := ⟨g, U / 8, none⟩) (Ne.symm hgB) _).drew
          · rw [List.length_set, bytesV, List.map_set]
            exact hs.1.drew
          · refine ⟨(HBW.out.below.setCell (p := ⟨g, U / 8, none⟩) hg.1 _).drew, fun k t cs hk ht hb => ?_⟩
            have hb1 := HBW.out.keep k t cs hk ht hb
            exact (hb1.far (p := ⟨g, U / 8, none⟩) (fun e => own_blk_ne HV.out.own hb1 (Ne.symm ht) (by rw [e]; rfl)) _).drew
        case rest =>
          obtain ⟨u, hv, hbw⟩ := hcut
          have r8 : wc.cell? ⟨B, 8, none⟩ = some (.int .i64 (U : Nat)) := hv.blk.cell 8
          have g8 := hv.blk.frozen 8
          have HV := Lib.hid hv
          have HBW := Lib.hid hbw
          clear hv hbw q7 q8 k8 qg kg
          go_wp2
          obtain ⟨m', rfl⟩ : ∃ m', m = m' + 1 := ⟨m - 1, by omega⟩
          refine ⟨⟨m', pre ++ [x.testBit m'], by omega, by congr 1; omega, ?_, ⟨.slice (some ⟨g, 0, none⟩) u cap, ?_, ?_⟩, ?_⟩, by simp [intOf]⟩
          · rw [← HP.out, bitsOf_cons]; simp
          · have hb2 := HV.out.blk.set_ 8 (.int .i64 ((U : Int) + 1))
            have e : (l ++ (pre ++ [x.testBit m'])).length = U + 1 := by rw [HU.out, HL.out]; simp; omega
            rw [e, show (((U + 1 : Nat) : Int)) = (U : Int) + 1 by omega]
            exact hb2
          · have e : pack (l ++ (pre ++ [x.testBit m'])) = (opened L).set (U / 8) (b ||| (x.testBit (m' + 1 - 1)).toNat * 2 ^ (7 - U % 8)) := by
              rw [HBp.out, HU.out, Nat.add_sub_cancel, opened_set, HL.out, List.append_assoc]
            rw [e]
            exact ownsRow_setCell_other HV.out.own (own_blk_ne HV.out.own HV.out.blk (by decide)) _
          · exact (HB.out.trans HBW.out).put 8 _
end Go.Proofs.YtjlfkdopkhejbaaDoor
