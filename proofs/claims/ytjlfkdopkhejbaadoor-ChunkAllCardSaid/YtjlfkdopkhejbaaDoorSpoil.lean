/- The walks of the law's cut and of the keep's SpoilBytes. -/
import Derived.Test.YtjlfkdopkhejbaaDoorRefPack
import Derived.Laws.BitsAllLaws
namespace Go.Proofs.YtjlfkdopkhejbaaDoor
open Go.RowKit Go.Shelf Ck
attribute [local go_sem] frombits_call tobits_call run_store_float

set_option maxHeartbeats 400000 in
theorem cut_any (A : Option Addr) (cap : Nat) (l : List Smp) (w : World) (hc : l.length ≤ cap) :
    Calls Tryd.prog 22 #[.slice A l.length cap] w fun e w' => e = .returned (.slice A (l.take 130).length cap) ∧ w = w' := by
  by_cases h : l.length ≤ 130
  · have g1 : (l.length : Int) ≤ 130 := by omega
    have e1 : l.take 130 = l := List.take_of_length_le h
    have HE := Lib.hid e1
    clear h e1
    go_enter Tryd.func22, Tryd.ntmps22
    go_wp2
    go_ret
    rw [HE.out]
    exact ⟨rfl, rfl⟩
  · have g1 : (130 : Int) < (l.length : Int) := by omega
    have q1 : (130 : Int) ≤ (cap : Int) := by omega
    have e1 : (l.take 130).length = 130 := by simp; omega
    have HE := Lib.hid e1
    clear h e1
    go_enter Tryd.func22, Tryd.ntmps22
    go_wp2
    refine bodyPost_ret (results_tmp rfl _ _ _) rfl ?_
    rw [HE.out]
    exact ⟨rfl, rfl⟩

def SpoilR (w : World) (b : Nat) (v : Value) (n : Nat) (i : Value) (wr : World) : Prop :=
  ∃ (k : Nat) (bs : List Nat), k ≤ n ∧ i = .int .i64 k ∧ bs.length = n ∧ (∀ x ∈ bs, x < 256) ∧ wr.ownsRow b 5 1 v n (bytesV bs) ∧ Below b w wr
def SpoilR2 (w : World) (b : Nat) (n : Nat) (v i : Value) (wr : World) : Prop :=
  ∃ (k : Nat) (u : Value) (bs : List Nat), k ≤ 40 ∧ u = v ∧ i = .int .i64 k ∧ bs.length = n + k ∧ wr.ownsRow b 5 1 u (n + k) (bytesV bs) ∧ Below b w wr

theorem set_lt {bs : List Nat} (h : ∀ x ∈ bs, x < 256) (k c : Nat) (hc : c < 256) : ∀ x ∈ bs.set k c, x < 256 := by
  intro x hx
  rcases List.mem_or_eq_of_mem_set hx with h1 | h1
  · exact h x h1
  · rw [h1]; exact hc
theorem own_bytes_at {w : World} {b g c n : Nat} {bs : List Nat} (h : w.ownsRow b 5 1 (.slice (some ⟨g, 0, none⟩) n c) n (bytesV bs)) (hn : bs.length = n) (k : Nat) (hk : k < n) :
    w.cell? ⟨g, k, none⟩ = some (.int .u8 (bs.getD k 0 : Nat)) := by
  rw [h.cellAt k (by omega), bytesV, List.getElem?_map, List.getElem?_eq_getElem (by omega)]
  simp [List.getD, List.getElem?_eq_getElem (show k < bs.length by omega)]

set_option maxRecDepth 100000 in
set_option maxHeartbeats 1600000 in
theorem spoil_any (v : Value) (bs : List Nat) (b : Nat) (w : World) (h : w.ownsRow b 5 1 v bs.length (bytesV bs)) (hlt : ∀ x ∈ bs, x < 256) (hb : b ≤ w.heap.size) (hl : bs.length ≤ 100000) :
    Calls Tryd.prog 27 #[v] w fun e w' => e = .returned (.tuple #[]) ∧ Below b w w' := by
  obtain ⟨i0, hi, hz0, hz1, hz2⟩ := info_parts info5
  obtain ⟨N, hN⟩ : ∃ N, N = bs.length := ⟨_, rfl⟩
  obtain ⟨A, c, rfl, hA⟩ : ∃ A c, v = .slice A N c ∧ (N ≠ 0 → ∃ g, A = some ⟨g, 0, none⟩) := by
    rcases h.2 with ⟨rfl, h0⟩ | ⟨g, cap, cur, rfl, _⟩
    · exact ⟨none, 0, by rw [hN, h0], fun hn => absurd (hN.trans h0) hn⟩
    · exact ⟨_, _, by rw [hN], fun _ => ⟨_, rfl⟩⟩
  rw [← hN] at h
  have H := Lib.hid h
  have HLT := Lib.hid hlt
  have HN := Lib.hid hN
  have HA := Lib.hid hA
  have HI := Lib.hid hi
  have HZ0 := Lib.hid hz0
  have HZ1 := Lib.hid hz1
  have HZ2 := Lib.hid hz2
  have hN2 : N ≤ 100000 := by omega
  clear h hlt hi hz0 hz1 hz2 hN hA
  go_enter Tryd.func27, Tryd.ntmps27
  go_wp2_with fail
  go_loopw [2] (fun i wr => SpoilR w b (.slice A N c) N i wr) (fun i _ => N - (intOf i).toNat)
  case atStart => exact ⟨0, bs, Nat.zero_le _, rfl, HN.out.symm, HLT.out, H.out, Below.refl _ _⟩
  case round =>
    obtain ⟨k, cs, hk, rfl, hcn, hclt, ho, hB⟩ := hrel
    have HO := Lib.hid ho
    have HB := Lib.hid hB
    have HCN := Lib.hid hcn
    have HCLT := Lib.hid hclt
    clear ho hB hcn hclt
    by_cases hlt : k < N
    · obtain ⟨g, hg⟩ := HA.out (by omega)
      subst hg
      have q1 := own_bytes_at HO.out HCN.out k hlt
      have kg := HO.out.frozenAt k
      have hx := getD_lt HCLT.out k
      obtain ⟨x, hxe⟩ : ∃ x, x = cs.getD k 0 := ⟨_, rfl⟩
      rw [← hxe] at q1 hx
      have hxor := u8_xor_nat x 255 hx (by omega)
      rw [show ((255 : Nat) : Int) = 255 from rfl] at hxor
      have hxx : x ^^^ 255 < 256 := Nat.xor_lt_two_pow (n := 8) hx (by omega)
      clear hxe
      go_wp2
      have hs := HO.out.stored k (.int .u8 ((x ^^^ 255 : Nat) : Int))
      have hg1 := HO.out.lt g rfl
      refine ⟨⟨k + 1, cs.set k (x ^^^ 255), by omega, by go_num, by rw [List.length_set]; exact HCN.out, set_lt HCLT.out _ _ hxx, ?_, ?_⟩, by simp [intOf]; omega⟩
      · rw [bytesV, List.map_set]; exact hs.1
      · exact HB.out.setCell (p := ⟨g, k, none⟩) hg1.1 _
    · have hkl : k = N := by omega
      subst hkl
      clear HLT H HA hlt
      go_wp2_with fail
      go_loopw [0, 3] (fun v i wr' => SpoilR2 w b k v i wr') (fun _ i _ => 40 - (intOf i).toNat)
      case atStart => exact ⟨0, _, cs, Nat.zero_le _, rfl, rfl, HCN.out, HO.out, HB.out⟩
      case round =>
        obtain ⟨j, u, ds, hj, hu, rfl, hdn, ho, hB⟩ := hrel
        subst hu
        have HO2 := Lib.hid ho
        have HB2 := Lib.hid hB
        have HDN := Lib.hid hdn
        have hsz := hB.size
        clear ho hB hdn HO HB HCN HCLT
        by_cases hlt : j < 40
        · go_wp2_with (at_builtin; go_loud (refine wpList_append_own _ rfl (.tmp 22) (.tmp 23) 23 rfl b 5 i0 (.int .u8 0) 1 1 Tryd.underlying23 HI.out HZ0.out HZ1.out HZ2.out rfl (by decide) u (k + j) (bytesV ds) rfl (HO2.out.alloc _) ⟨_, 0, none⟩ 1 1 [.int .u8 85] rfl rfl (cell_one_new _ _ _) (by simp [Value.oneCell']) (by simp only [maxLen]; omega) (by omega) (by simp; omega) ?_; intro v' w1 hown1 hgrow1 _; have HOW := Lib.hid hown1; have HGR := Lib.hid hgrow1; clear hown1 hgrow1))
          refine ⟨⟨j + 1, v', ds ++ [85], by omega, rfl, by go_num, by rw [List.length_append, HDN.out]; rfl, ?_, ?_⟩, by simp [intOf]; omega⟩
          · rw [bytesV, List.map_append]; exact HOW.out
          · exact (HB2.out.alloc (by omega) _).grown HGR.out (by simp; omega) (fun k hk => (HO2.out.lt k hk).1)
        · go_wp2
          go_end0
          exact ⟨rfl, HB2.out⟩
end Go.Proofs.YtjlfkdopkhejbaaDoor
