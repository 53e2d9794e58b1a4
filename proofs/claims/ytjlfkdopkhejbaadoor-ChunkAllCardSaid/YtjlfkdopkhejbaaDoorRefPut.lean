/- The walks of the keep's own writer of bits: (*bits).put and (*bits).dod. -/
import Derived.Test.YtjlfkdopkhejbaaDoorUnlike
namespace Go.Proofs.YtjlfkdopkhejbaaDoor
open Go.RowKit Go.Shelf Ck
attribute [local go_sem] frombits_call tobits_call run_store_float

/-- bits, one a byte -/
def boolN (l : List Bool) : List Nat := l.map Bool.toNat
theorem boolN_length (l : List Bool) : (boolN l).length = l.length := by simp [boolN]

/-- block B is the keep's row of bits -/
structure RefAt (w : World) (B : Nat) (l : List Bool) (raw : Value) : Prop where
  blk : Blk w B 79 #[raw]
  own : w.ownsRow B 5 1 raw l.length (bytesV (boolN l))

theorem ref_bit (x k : Nat) (hx : x < 2 ^ 64) : bits BinOp.and IntKind.u64 ((x : Int) / 2 ^ k) 1 % 256 = (((x.testBit k).toNat : Nat) : Int) := by
  have h3 : x / 2 ^ k < 18446744073709551616 := Nat.lt_of_le_of_lt (Nat.div_le_self _ _) hx
  have e1 : ((x : Int) / 2 ^ k) = ((x / 2 ^ k : Nat) : Int) := by norm_cast
  have e2 := u64_and_nat (x / 2 ^ k) 1 h3 (by omega)
  rw [show ((1 : Nat) : Int) = 1 from rfl] at e2
  rw [e1, e2, nat_mask1, testBit_div]
  omega

def RefPutI (w : World) (B : Nat) (l : List Bool) (x n : Nat) (i : Value) (wr : World) : Prop :=
  ∃ (m : Nat) (pre : List Bool), m ≤ n ∧ i = .int .i64 ((m : Int) - 1) ∧ pre ++ bitsOf x m = bitsOf x n ∧ (∃ raw, RefAt wr B (l ++ pre) raw) ∧ Below B w wr

set_option maxRecDepth 100000 in
set_option maxHeartbeats 1600000 in
theorem refput_any (B : Nat) (l : List Bool) (x : Nat) (size : Int) (w : World) (h : ∃ raw, RefAt w B l raw) (h0 : 0 ≤ size) (h1 : size ≤ 64) (hx : x < 2 ^ 64) (hl : l.length ≤ 100000) :
    Calls Tryd.prog 39 #[.pointer (some ⟨B, 0, none⟩), .int .u64 (x : Int), .int .i64 size] w fun e w' => e = .returned (.tuple #[]) ∧ (∃ raw, RefAt w' B (l ++ bitsOf x size.toNat) raw) ∧ Below B w w' := by
  obtain ⟨n, rfl⟩ := Int.eq_ofNat_of_zero_le h0
  rw [Int.toNat_natCast]
  obtain ⟨i0, hi, hz0, hz1, hz2⟩ := info_parts info5
  have H := Lib.hid h
  have HI := Lib.hid hi
  have HZ0 := Lib.hid hz0
  have HZ1 := Lib.hid hz1
  have HZ2 := Lib.hid hz2
  clear h hi hz0 hz1 hz2
  go_enter Tryd.func39, Tryd.ntmps39
  go_wp2_with fail
  go_loopw [6] (fun i wr => RefPutI w B l x n i wr) (fun i _ => (intOf i + 1).toNat)
  case atStart => exact ⟨n, [], Nat.le_refl _, rfl, rfl, by simpa using H.out, Below.refl _ _⟩
  case round =>
    obtain ⟨m, pre, hm, rfl, hpre, ⟨raw, hr⟩, hb⟩ := hrel
    have hpl : pre.length + m = n := by have := congrArg List.length hpre; simpa [bitsOf_length] using this
    have HP := Lib.hid hpre
    have HB := Lib.hid hb
    have HR := Lib.hid hr
    clear hpre hb hr
    by_cases hm0 : m = 0
    · have HM := Lib.hid hm0
      have hneg : (m : Int) - 1 < 0 := by omega
      clear hm0
      go_wp2
      go_end0
      have e : pre = bitsOf x n := by have := HP.out; rw [HM.out, bitsOf_zero] at this; simpa using this
      rw [← e]
      exact ⟨rfl, ⟨raw, HR.out⟩, HB.out⟩
    · have hlen : (l ++ pre).length ≤ 100100 := by simp; omega
      obtain ⟨L, hL⟩ : ∃ L, L = l ++ pre := ⟨_, rfl⟩
      have hr := HR.out
      rw [← hL] at hr hlen
      have HR1 := Lib.hid hr
      have HL := Lib.hid hL
      have hpos : 0 ≤ (m : Int) - 1 := by omega
      have hm1 : (m : Int) - 1 ≤ 63 := by omega
      have hsz := hr.blk.lt
      have c0 : wr.cell? ⟨B, 0, none⟩ = some raw := hr.blk.cell 0
      have f0 := hr.blk.frozen 0
      have hne := own_blk_ne hr.own hr.blk (by decide)
      have HNE := Lib.hid hne
      obtain ⟨A, c, hraw, hlc⟩ : ∃ A c, raw = .slice A L.length c ∧ 0 = 0 := by
        rcases hr.own.2 with ⟨rfl, h0⟩ | ⟨g, cap, cur, rfl, _⟩
        · exact ⟨none, 0, by rw [h0], rfl⟩
        · exact ⟨_, _, rfl, rfl⟩
      subst hraw
      obtain ⟨u, hu⟩ : ∃ u : Nat, u = (x.testBit (m - 1)).toNat := ⟨_, rfl⟩
      have hbit := ref_bit x (m - 1) hx
      rw [← hu] at hbit
      have HU := Lib.hid hu
      have HBI := Lib.hid hbit
      clear hL hr HR hne hlc hu hbit
      go_wp2_with (at_builtin; refine wpList_append_own _ rfl (.tmp 17) (.tmp 24) 23 rfl B 5 i0 (.int .u8 0) 1 1 Tryd.underlying23 HI.out HZ0.out HZ1.out HZ2.out rfl (by decide) (.slice A L.length c) L.length (bytesV (boolN L)) rfl (HR1.out.own.alloc _) ⟨wr.heap.size, 0, none⟩ 1 1 [.int .u8 (bits BinOp.and IntKind.u64 ((x : Int) / 2 ^ (m - 1)) 1 % 256)] rfl rfl (cell_one_new _ _ _) (by simp [Value.oneCell']) (by simp only [maxLen]; omega) (by omega) (by simp; omega) ?_; intro v' w1 hown1 hgrow1 _; obtain ⟨g', cap', hv'⟩ := own_succ hown1 (by omega); subst hv'; have hB1 := (HR1.out.blk.alloc (.cells #[.int .u8 (bits BinOp.and IntKind.u64 ((x : Int) / 2 ^ (m - 1)) 1 % 256)] 5)).grown hgrow1 (fun e => HNE.out e.symm); have b0 : w1.cell? ⟨B, 0, none⟩ = some (.slice A L.length c) := hB1.cell 0; have g0 := hB1.frozen 0; have HOW := Lib.hid hown1; have HGR := Lib.hid hgrow1; have HB1 := Lib.hid hB1; clear hown1 hgrow1 hB1)
      have hb1 := HB1.out.set_ 0 (.slice (some ⟨g', 0, none⟩) (L.length + 1) cap')
      refine ⟨⟨m - 1, pre ++ [x.testBit (m - 1)], by omega, by go_num, ?_, ⟨_, hb1, ?_⟩, ?_⟩, by simp [intOf]; omega⟩
      · have e := HP.out
        obtain ⟨k, rfl⟩ : ∃ k, m = k + 1 := ⟨m - 1, by omega⟩
        rw [bitsOf_cons] at e
        rw [Nat.add_sub_cancel, List.append_assoc]
        exact e
      · have e := ownsRow_setCell_other HOW.out (own_blk_ne HOW.out HB1.out (by decide)) (a := ⟨B, 0, none⟩) (.slice (some ⟨g', 0, none⟩) (L.length + 1) cap')
        rw [HBI.out] at e
        have e2 : (l ++ (pre ++ [x.testBit (m - 1)])).length = L.length + 1 := by rw [HL.out]; simp; omega
        have e3 : bytesV (boolN (l ++ (pre ++ [x.testBit (m - 1)]))) = bytesV (boolN L) ++ [.int .u8 ((u : Nat) : Int)] := by
          rw [HL.out, HU.out]
          simp [boolN, bytesV]
        rw [e2, e3]
        exact e
      · exact (HB.out.trans (((Below.refl B wr).alloc (by omega) _).grown HGR.out (by simp; omega) (fun k hk => (HR1.out.own.lt k hk).1))).setCell (p := ⟨B, 0, none⟩) (Nat.le_refl _) _
end Go.Proofs.YtjlfkdopkhejbaaDoor
