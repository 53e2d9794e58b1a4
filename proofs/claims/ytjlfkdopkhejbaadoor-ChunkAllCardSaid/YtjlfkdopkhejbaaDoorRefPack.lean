/- The walks of the keep's own Pack and Encode. -/
import Derived.Test.YtjlfkdopkhejbaaDoorRefRow
namespace Go.Proofs.YtjlfkdopkhejbaaDoor
open Go.RowKit Go.Shelf Ck
attribute [local go_sem] frombits_call tobits_call run_store_float

def PackR (w : World) (l : List Bool) (v i : Value) (wr : World) : Prop :=
  ∃ (k : Nat) (u : Value), k ≤ l.length ∧ u = v ∧ i = .int .i64 k ∧ wr.ownsRow w.heap.size 5 1 u (pack (l.take k)).length (bytesV (pack (l.take k))) ∧ Below w.heap.size w wr

theorem pk_eq (b c p : Nat) (hb : b < 256) (hc : c ≤ 1) (hp : p ≤ 7) : bits BinOp.or IntKind.u8 (b : Int) ((c : Int) * 2 ^ p % 256) = ((b ||| c * 2 ^ p : Nat) : Int) := by
  have h4 : c * 2 ^ p < 256 := by
    have h1 : c * 2 ^ p ≤ 1 * 2 ^ p := Nat.mul_le_mul_right _ hc
    have h2 : (2 : Nat) ^ p ≤ 2 ^ 7 := Nat.pow_le_pow_right (by omega) hp
    omega
  have h6 : ((c : Nat) : Int) * 2 ^ p = ((c * 2 ^ p : Nat) : Int) := by norm_cast
  rw [h6, show ((c * 2 ^ p : Nat) : Int) % 256 = ((c * 2 ^ p : Nat) : Int) by omega]
  exact u8_or_nat _ _ hb h4

set_option maxRecDepth 100000 in
set_option maxHeartbeats 1600000 in
theorem pack_any (A : Option Addr) (cap : Nat) (l : List Bool) (w : World) (h : BytAt w w.heap.size A (boolN l)) (hl : l.length ≤ 100000) :
    Calls Tryd.prog 38 #[.slice A l.length cap] w fun e w' => ∃ v, e = .returned v ∧ w'.ownsRow w.heap.size 5 1 v (pack l).length (bytesV (pack l)) ∧ Below w.heap.size w w' := by
  obtain ⟨i0, hi, hz0, hz1, hz2⟩ := info_parts info5
  have H := Lib.hid h
  have HI := Lib.hid hi
  have HZ0 := Lib.hid hz0
  have HZ1 := Lib.hid hz1
  have HZ2 := Lib.hid hz2
  clear h hi hz0 hz1 hz2
  go_enter Tryd.func38, Tryd.ntmps38
  go_wp2_with fail
  go_loopw [3, 4] (fun v i wr => PackR w l v i wr) (fun _ i _ => l.length - (intOf i).toNat)
  case atStart => exact ⟨0, _, Nat.zero_le _, rfl, rfl, by rw [List.take_zero, pack_nil]; exact World.ownsRow_nil _ _ _ _, Below.refl _ _⟩
  case round =>
    obtain ⟨k, u, hk, rfl, rfl, ho, hb⟩ := hrel
    have HO := Lib.hid ho
    have HB := Lib.hid hb
    clear ho hb
    by_cases hlt : k < l.length
    · obtain ⟨g0, off, hA, hg, hc⟩ := H.out (by rw [boolN_length]; omega)
      obtain ⟨c, hcd⟩ : ∃ c, c = l[k].toNat := ⟨_, rfl⟩
      have hc1 : c ≤ 1 := by rw [hcd]; cases l[k] <;> simp
      have d1 := (HB.out.cell (p := ⟨g0, off + k, none⟩) hg).trans (hc k c (by rw [boolN, List.getElem?_map, List.getElem?_eq_getElem hlt, hcd]; rfl))
      obtain ⟨L, hL⟩ : ∃ L, L = l.take k := ⟨_, rfl⟩
      have hLl : L.length = k := by rw [hL]; simp; omega
      have hset := opened_set L l[k]
      rw [← hcd] at hset
      have hgoal : ∀ v' wr', wr'.ownsRow w.heap.size 5 1 v' (pack (L ++ [l[k]])).length (bytesV (pack (L ++ [l[k]]))) → Below w.heap.size w wr' → PackR w l v' (.int .i64 ((k : Int) + 1)) wr' := fun v' wr' a b => by
        refine ⟨k + 1, v', by omega, rfl, by go_num, ?_, b⟩
        rw [List.take_succ_eq_append_getElem hlt, ← hL]
        exact a
      rw [← hL] at HO
      have HG := Lib.hid hgoal
      have HS := Lib.hid hset
      have HLL := Lib.hid hLl
      subst hA
      clear hc hgoal hset hLl hL hcd
      go_upto_if 13 with fail
      go_cut [3] (fun s3 wx => wx.ownsRow w.heap.size 5 1 s3 (opened L).length (bytesV (opened L)) ∧ Below w.heap.size w wx)
      case first =>
        by_cases h8 : k % 8 = 0
        · have h8' : ((k : Int) % 8 == 0) = true := by simp; omega
          have HE8 := Lib.hid h8
          have hsz := HB.out.size
          have hLn : L.length ≤ 100000 := by have := HLL.out; omega
          clear h8
          go_wp2_with (at_builtin; go_loud (refine wpList_append_own _ rfl (.tmp 14) (.tmp 15) 23 rfl w.heap.size 5 i0 (.int .u8 0) 1 1 Tryd.underlying23 HI.out HZ0.out HZ1.out HZ2.out rfl (by decide) u (pack L).length (bytesV (pack L)) rfl (HO.out.alloc _) ⟨wr.heap.size, 0, none⟩ 1 1 [.int .u8 0] rfl rfl (cell_one_new _ _ _) (by simp [Value.oneCell']) (by rw [pack_length]; simp only [maxLen]; omega) (by rw [pack_length]; omega) (by simp; omega) ?_; intro v' w1 hown1 hgrow1 _; have HOW := Lib.hid hown1; have HGR := Lib.hid hgrow1; clear hown1 hgrow1))
          go_meet
          case rel =>
            have e : opened L = pack L ++ [0] := by unfold opened; rw [if_pos (by rw [HLL.out]; exact HE8.out)]
            refine ⟨?_, ?_⟩
            · rw [e, List.length_append, bytesV, List.map_append]
              exact HOW.out
            · exact (HB.out.alloc (by omega) _).grown HGR.out (by simp; omega) (fun k hk => (HO.out.lt k hk).1)
        · have h8' : ((k : Int) % 8 == 0) = false := by simp; omega
          have HE8 := Lib.hid h8
          clear h8
          go_wp2
          go_meet
          case rel =>
            have e : opened L = pack L := by unfold opened; rw [if_neg (by rw [HLL.out]; exact HE8.out)]
            rw [e]
            exact ⟨HO.out, HB.out⟩
      case rest =>
        obtain ⟨ho, hb⟩ := hcut
        have hol := opened_length L
        obtain ⟨g, c9, hv9⟩ := own_succ ho (by omega)
        subst hv9
        have hUl : k / 8 < (opened L).length := by rw [hol, HLL.out]; omega
        have hop := opened_at L
        have hbl := pbyte_lt L (L.length / 8)
        rw [HLL.out] at hop hbl
        obtain ⟨b, hb'⟩ : ∃ b, b = pbyte L (k / 8) := ⟨_, rfl⟩
        rw [← hb'] at hop hbl
        have HBp := Lib.hid hb'
        have qg : wc.cell? ⟨g, k / 8, none⟩ = some (.int .u8 (b : Nat)) := by
          rw [ho.cellAt (k / 8) (by omega), bytesV, List.getElem?_map]
          rw [List.getD_eq_getElem?_getD, List.getElem?_eq_getElem hUl] at hop
          rw [List.getElem?_eq_getElem hUl]
          simp only [Option.getD_some] at hop
          rw [hop]; rfl
        have kg := ho.frozenAt (k / 8)
        have d1' : wc.cell? ⟨g0, off + k, none⟩ = some (.int .u8 (c : Nat)) := (hb.cell (p := ⟨g0, off + k, none⟩) hg).trans ((HB.out.cell (p := ⟨g0, off + k, none⟩) hg).symm.trans d1)
        have HV := Lib.hid ho
        have HBW := Lib.hid hb
        obtain ⟨N, hN⟩ : ∃ N, N = (opened L).length := ⟨_, rfl⟩
        rw [← hN] at hUl ⊢
        have HN := Lib.hid hN
        clear ho hb hol hop hb' hN d1
        go_upto_region 7 with fail
        go_region
        all_goals
          go_wp2
          rw [pk_eq b c (7 - k % 8) hbl hc1 (by omega)]
          have hs := HV.out.stored (k / 8) (.int .u8 ((b ||| c * 2 ^ (7 - k % 8) : Nat) : Int))
          rw [← HN.out] at hs
          have hg1 := HV.out.lt g rfl
          have hS := HS.out
          rw [HLL.out, ← HBp.out] at hS
          refine ⟨HG.out _ _ ?_ ?_, by simp [intOf]; omega⟩
          · rw [← hS, List.length_set, ← HN.out, bytesV, List.map_set]
            exact hs.1.drew
          · exact (HBW.out.setCell (p := ⟨g, k / 8, none⟩) hg1.1 _).drew
    · have hkl : k = l.length := by omega
      have HK := Lib.hid hkl
      clear hkl
      go_wp2
      go_ret
      have := HO.out
      rw [HK.out, List.take_length] at this
      exact ⟨_, rfl, this, HB.out⟩

theorem boolN_lt (l : List Bool) : ∀ b ∈ boolN l, b < 256 := by
  intro b hb
  obtain ⟨x, _, rfl⟩ := List.mem_map.1 hb
  cases x <;> simp

set_option maxHeartbeats 800000 in
/-- what the keep's Encode answers -/
theorem refenc_any (A : Option Addr) (cap : Nat) (l : List Smp) (w : World) (h : SmpAt w w.heap.size A l) (hl : l.length ≤ 140737488355327) (hok : ∀ x ∈ l, x.ok) :
    Calls Tryd.prog 23 #[.slice A l.length cap] w (EncPost w l) := by
  have H := Lib.hid h
  have HO := Lib.hid hok
  clear h hok
  go_enter Tryd.func23, Tryd.ntmps23
  by_cases h120 : l.length ≤ 120
  · go_wp2_with fail
    refine (row_any A cap l w H.out (by omega) HO.out).mono ?_
    rintro e w1 ⟨v, rfl, ho, hb⟩
    have hel := encBits_length St.zero l St.zero_ok HO.out
    have hlr := refBits_length l
    have hpk := pack_refBits l
    obtain ⟨R, hR⟩ : ∃ R, R = refBits l := ⟨_, rfl⟩
    rw [← hR] at ho hlr hpk
    have hRl : R.length ≤ 100000 := by omega
    have ho' : w1.ownsRow w.heap.size 5 1 v (boolN R).length (bytesV (boolN R)) := by rw [boolN_length]; exact ho
    obtain ⟨A1, c1, hv1, hby⟩ := own_byt ho'
    rw [boolN_length] at hv1
    subst hv1
    have HPK := Lib.hid hpk
    clear hR hel hlr hpk ho'
    have HB := Lib.hid hb
    have HY := Lib.hid hby
    clear hb hby ho
    go_wp2_with fail
    refine (pack_any A1 c1 R w1 HY.out hRl).mono ?_
    rintro e w2 ⟨v2, rfl, ho2, hb2⟩
    rw [HPK.out] at ho2
    have HO2 := Lib.hid ho2
    have HB2 := Lib.hid (HB.out.trans (hb2.mono HB.out.size))
    have hsz := HB.out.size
    clear ho2 hb2
    go_wp2
    refine bodyPost_ret (results_tmp2 rfl _ _ _) rfl ?_
    refine ⟨HB2.out, ?_⟩
    rw [if_pos h120]
    refine ⟨v2, rfl, HO2.out.1, ?_⟩
    rcases HO2.out.2 with h0 | ⟨g, c, cur, hv, hg, rest⟩
    · exact .inl h0
    · exact .inr ⟨g, c, cur, hv, Nat.le_trans hsz hg, rest⟩
  · go_wp2
    refine bodyPost_ret (results_tmp2 rfl _ _ _) rfl ?_
    refine ⟨Below.refl _ _, ?_⟩
    rw [if_neg h120]
    rfl
end Go.Proofs.YtjlfkdopkhejbaaDoor
