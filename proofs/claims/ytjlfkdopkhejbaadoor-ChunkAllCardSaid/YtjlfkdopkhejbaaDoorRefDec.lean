/- The walk of the keep's own Decode. -/
import Derived.Test.YtjlfkdopkhejbaaDoorRefAll
namespace Go.Proofs.YtjlfkdopkhejbaaDoor
open Go.RowKit Go.Shelf Ck
attribute [local go_sem] frombits_call tobits_call run_store_float

theorem decode_few (bs : List Nat) (h : (allOf bs).length ≤ 120) : Ck.decode bs = if chunkOf (allOf bs) = bs then some (allOf bs) else none := by
  unfold Ck.decode
  rw [List.take_of_length_le h]
theorem decode_many (bs : List Nat) (h : ¬ (allOf bs).length ≤ 120) : Ck.decode bs = none := by
  unfold Ck.decode
  rw [if_neg]
  intro e
  have hl : ((allOf bs).take 120).length = 120 := by simp; omega
  have := allOf_chunkOf ((allOf bs).take 120) (fun x hx => allOf_ok bs x (List.mem_of_mem_take hx)) (by omega)
  rw [e] at this
  rw [this] at h
  omega
theorem decGo_length (rb : List Bool) : ∀ (k : Nat) (r : Rd), (decGo rb k r).length ≤ k := by
  intro k
  induction k with
  | zero => intro r; simp [decGo]
  | succ k ih =>
    intro r
    rw [decGo]
    split
    · simp
    · have := ih (nextR rb r)
      simp; omega
theorem allOf_length (bs : List Nat) (hlt : ∀ b ∈ bs, b < 256) : (allOf bs).length ≤ 65535 := by
  unfold allOf
  split
  · simp
  · have h0 := getD_lt hlt 0
    have h1 := getD_lt hlt 1
    have := decGo_length (ofBytes (bs.drop 2)) (bs.getD 0 0 * 256 + bs.getD 1 0) Rd.zero
    omega

set_option maxHeartbeats 800000 in
theorem refdec_any (A : Option Addr) (cap : Nat) (bs : List Nat) (w : World) (h : BytAt w w.heap.size A bs) (hl : bs.length ≤ 1000000) (hlt : ∀ b ∈ bs, b < 256) :
    Calls Tryd.prog 15 #[.slice A bs.length cap] w (DecPost w (Ck.decode bs)) := by
  have H := Lib.hid h
  have HL := Lib.hid hlt
  have hlen := allOf_length bs hlt
  have hok := allOf_ok bs
  have hfew := decode_few bs
  have hmany := decode_many bs
  have HALL := Lib.hid (refall_any A cap bs w h hl hlt)
  obtain ⟨l, hle⟩ : ∃ l, l = allOf bs := ⟨_, rfl⟩
  rw [← hle] at hlen hok hfew hmany HALL
  obtain ⟨res, hres⟩ : ∃ r, r = Ck.decode bs := ⟨_, rfl⟩
  rw [← hres] at hfew hmany ⊢
  have HOK := Lib.hid hok
  have HF := Lib.hid hfew
  have HM := Lib.hid hmany
  clear h hlt hle hres hok hfew hmany
  go_enter Tryd.func15, Tryd.ntmps15
  go_wp2_with fail
  refine HALL.out.mono ?_
  rintro e w1 ⟨v, rfl, ho, hb⟩
  obtain ⟨A1, c1, rfl, hs1⟩ := own_smp ho
  have HO := Lib.hid ho
  have HB := Lib.hid hb
  have HS := Lib.hid hs1
  clear ho hb hs1 HALL
  go_wp2_with fail
  refine (refenc_any A1 c1 l w1 HS.out (by omega) HOK.out).mono ?_
  rintro e w2 ⟨hb2, hq⟩
  have HB2 := Lib.hid (HB.out.trans (hb2.mono HB.out.size))
  have HO2 := Lib.hid (HO.out.kept (only_of_below hb2 none) (by cases (Value.slice A1 l.length c1).ownBlock <;> simp))
  have hy := H.out.below HB2.out
  by_cases h120 : l.length ≤ 120
  · rw [if_pos h120] at hq
    obtain ⟨v2, rfl, ho2⟩ := hq
    obtain ⟨A2, c2, rfl, hby2⟩ := own_byt ho2
    have j1 := conv_any hby2 c2
    have j2 := conv_any hy cap
    have hse := strOf_eq (chunkOf l) bs (chunkOf_lt l) HL.out
    have hr := HF.out h120
    obtain ⟨cb, hcb⟩ : ∃ cb, cb = chunkOf l := ⟨_, rfl⟩
    rw [← hcb] at j1 hse hr ⊢
    clear ho2 hby2 hcb HF HM hb2 hy
    by_cases hc : cb = bs
    · rw [if_pos hc] at hr
      subst hr
      subst hc
      have HR := Lib.hid hse
      clear hse
      go_wp2
      refine bodyPost_ret (results_tmp2 rfl _ _ _) rfl ?_
      refine ⟨HB2.out, _, rfl, ?_⟩
      have h3 := HO2.out
      exact ⟨h3.1, h3.2.imp id fun ⟨g, c, cur, a, b, r⟩ => ⟨g, c, cur, a, by omega, r⟩⟩
    · rw [if_neg hc] at hr
      subst hr
      rw [decide_eq_false hc] at hse
      clear hc
      go_wp2
      refine bodyPost_ret (results_tmp2 rfl _ _ _) rfl ?_
      exact ⟨HB2.out, rfl⟩
  · rw [if_neg h120] at hq
    subst hq
    have hr := HM.out h120
    subst hr
    clear HF HM hb2 hy
    go_wp2
    refine bodyPost_ret (results_tmp2 rfl _ _ _) rfl ?_
    exact ⟨HB2.out, rfl⟩
end Go.Proofs.YtjlfkdopkhejbaaDoor
