/- The walks of the laws ChunkBack and ChunkUnlike. -/
import Derived.Test.YtjlfkdopkhejbaaDoorWakes
namespace Go.Proofs.YtjlfkdopkhejbaaDoor
open Go.RowKit Go.Shelf Ck
attribute [local go_sem] frombits_call tobits_call run_store_float

/-- at most 120 samples of a row: what the laws look at -/
theorem SmpAt.cut {w : World} {lim : Nat} {A : Option Addr} {l : List Smp} (h : SmpAt w lim A l) (hok : ∀ x ∈ l, x.ok) :
    ∃ k, k.length = min 120 l.length ∧ k = l.take 120 ∧ SmpAt w lim A k ∧ ∀ x ∈ k, x.ok :=
  ⟨l.take 120, by simp, rfl, h.take 120, fun x hx => hok x (List.mem_of_mem_take hx)⟩

set_option maxRecDepth 100000 in
set_option maxHeartbeats 1600000 in
theorem back_any (A : Option Addr) (cap : Nat) (l : List Smp) (w : World) (h : SmpAt w w.heap.size A l) (hc : l.length ≤ cap) (hok : ∀ x ∈ l, x.ok) (hT : TabW w) :
    Calls Tryd.prog 3 #[.slice A l.length cap] w fun e w' => e = .returned (.bool true) ∧ Below w.heap.size w w' := by
  obtain ⟨k, hk, -, hs, hko⟩ := h.cut hok
  have hE : ∀ q, q = k.length → Calls Tryd.prog 10 #[.slice A q cap] w (EncPost w k) := by
    rintro q rfl; exact encode_any A cap k w hs (by omega) hko hT
  have hS : ∀ q w3 A5 c5, q = k.length → Below w.heap.size w w3 → SmpAt w3 w3.heap.size A5 k → Calls Tryd.prog 12 #[.slice A q cap, .slice A5 k.length c5] w3 fun e w' => e = .returned (.bool true) ∧ Drawn w3 w' := by
    rintro q w3 A5 c5 rfl hb h5
    exact (samples_any A A5 cap c5 _ _ k k w3 (hs.below hb) h5 (by omega) (by omega)).mono fun e w' hh => ⟨by rw [hh.1]; simp [same], hh.2⟩
  have hk1 : l.length ≤ 120 → l.length = k.length := by omega
  have hk2 : 120 < l.length → 120 = k.length := by omega
  have hk3 : k.length ≤ 120 := by omega
  have HE := Lib.hid hE
  have HS := Lib.hid hS
  have HK1 := Lib.hid hk1
  have HK2 := Lib.hid hk2
  have HKO := Lib.hid hko
  have HT := Lib.hid hT
  clear h hs hok hE hS hk1 hk2 hko hT hk
  by_cases h120 : l.length ≤ 120
  case' pos =>
    have hg : (l.length : Int) ≤ 120 := by omega
    have HE1 := Lib.hid (HE.out _ (HK1.out h120))
    have HS1 := Lib.hid (fun w3 A5 c5 => HS.out _ w3 A5 c5 (HK1.out h120))
    clear HE HS
    go_enter Tryd.func3, Tryd.ntmps3
    go_wp2_with fail
    refine HE1.out.mono ?_
    clear HE1
  case' neg =>
    have hg : (120 : Int) < (l.length : Int) := by omega
    have hcc : (120 : Int) ≤ (cap : Int) := by omega
    have HE1 := Lib.hid (HE.out 120 (HK2.out (by omega)))
    have HS1 := Lib.hid (fun w3 A5 c5 => HS.out 120 w3 A5 c5 (HK2.out (by omega)))
    clear HE HS
    go_enter Tryd.func3, Tryd.ntmps3
    go_wp2_with fail
    refine HE1.out.mono ?_
    clear HE1
  all_goals
    rintro e w2 ⟨hb2, hq⟩
    rw [if_pos hk3] at hq
    obtain ⟨v2, rfl, ho2⟩ := hq
    obtain ⟨A2, c2, rfl, hby2⟩ := own_byt ho2
    have hdec := decode_chunkOf k HKO.out hk3
    have hbl := chunkOf_small k hk3 HKO.out
    have hclt := chunkOf_lt k
    obtain ⟨cb, hcb⟩ : ∃ cb, cb = chunkOf k := ⟨_, rfl⟩
    rw [← hcb] at hby2 hdec hbl hclt ⊢
    have HBy := Lib.hid hby2
    have HB2 := Lib.hid hb2
    have HD := Lib.hid hdec
    have HCL := Lib.hid hclt
    have HT2 := Lib.hid (HT.out.below hb2 HT.out.lt)
    clear hby2 hb2 ho2 hdec hclt hcb
    go_wp2_with fail
    refine (decode_any A2 c2 cb w2 HBy.out hbl HCL.out HT2.out).mono ?_
    rintro e w3 ⟨hb3, hq⟩
    rw [HD.out] at hq
    obtain ⟨v3, rfl, ho3⟩ := hq
    obtain ⟨A3, c3, rfl, hs3⟩ := own_smp ho3
    have HB3 := Lib.hid (HB2.out.trans (hb3.mono HB2.out.size))
    have HS3 := Lib.hid hs3
    have HT3 := Lib.hid (HT2.out.below hb3 HT2.out.lt)
    clear hb3 ho3 hs3
    go_wp2_with fail
    refine (HS1.out w3 A3 c3 HB3.out HS3.out).mono ?_
    rintro e w4 ⟨rfl, hd4⟩
    have HB4 := Lib.hid (HB3.out.trans (hd4.below _))
    have HT4 := Lib.hid (HT3.out.below (hd4.below w3.heap.size) HT3.out.lt)
    clear hd4
    go_wp2_with fail
    refine (wakes_any w4 HT4.out).mono ?_
    rintro e w5 ⟨rfl, hb5⟩
    have HB5 := Lib.hid (HB4.out.trans (hb5.mono HB4.out.size))
    clear hb5
    go_wp2
    go_ret
    exact ⟨rfl, HB5.out⟩
end Go.Proofs.YtjlfkdopkhejbaaDoor
