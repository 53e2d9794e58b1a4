/- The walk of the keep's own (*reader).dod. -/
import Derived.Test.YtjlfkdopkhejbaaDoorRefGet
namespace Go.Proofs.YtjlfkdopkhejbaaDoor
open Go.RowKit Go.Shelf Ck
attribute [local go_sem] frombits_call tobits_call run_store_float

def RDodRel (w : World) (R lim : Nat) (A : Option Addr) (cap : Nat) (bs : List Nat) (s : RB) (i : Value) (wr : World) : Prop :=
  ∃ (k : Nat) (sk : RB), k ≤ 4 ∧ i = .int .i64 k ∧ RbAt wr R lim A cap bs sk ∧ dodFrom (ofBytes bs) (4 - k) k sk = dodB (ofBytes bs) s ∧ w.grownBy wr (some R)

def DodPost (w : World) (R lim : Nat) (A : Option Addr) (cap : Nat) (bs : List Nat) (q : Int × RB) (e : Ending) (w' : World) : Prop :=
  e = .returned (.int .i64 q.1) ∧ RbAt w' R lim A cap bs q.2 ∧ w.grownBy w' (some R)

set_option maxRecDepth 100000 in
set_option maxHeartbeats 1600000 in
theorem rdod_any (R lim : Nat) (A : Option Addr) (cap : Nat) (bs : List Nat) (s : RB) (w : World) (h : RbAt w R lim A cap bs s) :
    Calls Tryd.prog 34 #[.pointer (some ⟨R, 0, none⟩)] w (DodPost w R lim A cap bs (dodB (ofBytes bs) s)) := by
  have H := Lib.hid h
  obtain ⟨q, hq⟩ : ∃ q, q = dodB (ofBytes bs) s := ⟨_, rfl⟩
  rw [← hq]
  have HQ := Lib.hid hq
  clear h hq
  go_enter Tryd.func34, Tryd.ntmps34
  go_wp2_with fail
  go_loopw [3] (fun i wr => RDodRel w R lim A cap bs s i wr) (fun i _ => 4 - (intOf i).toNat)
  case atStart => exact ⟨0, s, by omega, rfl, H.out, rfl, only_refl _ _⟩
  case round =>
    obtain ⟨k, sk, hk, rfl, hr, hd, hb⟩ := hrel
    rw [← HQ.out] at hd
    have HR := Lib.hid hr
    have HD := Lib.hid hd
    have HB := Lib.hid hb
    clear hr hd hb
    by_cases hlt : k < 4
    · go_wp2_with fail
      refine (rget_any R lim A cap bs sk _ _ HR.out (by omega) (by omega)).mono ?_
      rintro e w2 ⟨rfl, hr2, hb2⟩
      rw [show Int.toNat 1 = 1 from rfl] at hr2 ⊢
      have hv := rget_lt (ofBytes bs) sk 1
      have HR2 := Lib.hid hr2
      have HB2 := Lib.hid (only_trans HB.out hb2)
      clear hr2 hb2
      have hstep : dodFrom (ofBytes bs) (4 - k) k sk = if (rget (ofBytes bs) sk 1).1 = 1 then dodFrom (ofBytes bs) (4 - (k + 1)) (k + 1) (rget (ofBytes bs) sk 1).2 else fin (ofBytes bs) k (rget (ofBytes bs) sk 1).2 := by
        rw [show 4 - k = (4 - (k + 1)) + 1 by omega, dodFrom]
      rw [HD.out] at hstep
      obtain ⟨v, hve⟩ : ∃ v, v = (rget (ofBytes bs) sk 1).1 := ⟨_, rfl⟩
      obtain ⟨s1, hs1⟩ : ∃ s1, s1 = (rget (ofBytes bs) sk 1).2 := ⟨_, rfl⟩
      rw [← hve] at hv hstep ⊢
      rw [← hs1] at hstep HR2
      clear hve hs1 HD HR HB
      by_cases hv1 : v = 1
      · rw [if_pos hv1] at hstep
        subst hv1
        have HS := Lib.hid hstep
        clear hstep hv
        go_wp2
        exact ⟨⟨k + 1, s1, by omega, by go_num, HR2.out, by rw [← HQ.out]; exact HS.out.symm, HB2.out⟩, by simp [intOf]; omega⟩
      · rw [if_neg hv1] at hstep
        obtain rfl : v = 0 := by omega
        have K : k = 0 ∨ k = 1 ∨ k = 2 ∨ k = 3 := by omega
        clear hv hv1 HQ
        rcases K with rfl | rfl | rfl | rfl
        · have hq : q = (0, s1) := hstep
          subst hq
          clear hstep
          go_wp2
          go_ret
          exact ⟨rfl, HR2.out, HB2.out⟩
        · have hq : q = (((rget (ofBytes bs) s1 7).1 : Int) - 63, (rget (ofBytes bs) s1 7).2) := hstep
          have hv := rget_lt (ofBytes bs) s1 7
          have HV := Lib.hid hv
          have HQ := Lib.hid hq
          clear hstep hv hq
          go_wp2_with fail
          refine (rget_any R lim A cap bs s1 _ _ HR2.out (by omega) (by omega)).mono ?_
          rintro e w3 ⟨rfl, hr3, hb3⟩
          rw [show Int.toNat 7 = 7 from rfl] at hr3 ⊢
          have HR3 := Lib.hid hr3
          have HB3 := Lib.hid (only_trans HB2.out hb3)
          obtain ⟨v, hve⟩ : ∃ v, v = (rget (ofBytes bs) s1 7).1 := ⟨_, rfl⟩
          have hv : v < 128 := by rw [hve]; exact HV.out
          rw [← hve] at HQ ⊢
          clear hr3 hb3 hve HV
          go_wp2
          first | go_ret | (refine bodyPost_ret (results_tmp rfl _ _ _) rfl ?_)
          rw [HQ.out]
          exact ⟨rfl, HR3.out, HB3.out⟩
        · have hq : q = (((rget (ofBytes bs) s1 9).1 : Int) - 255, (rget (ofBytes bs) s1 9).2) := hstep
          have hv := rget_lt (ofBytes bs) s1 9
          have HV := Lib.hid hv
          have HQ := Lib.hid hq
          clear hstep hv hq
          go_wp2_with fail
          refine (rget_any R lim A cap bs s1 _ _ HR2.out (by omega) (by omega)).mono ?_
          rintro e w3 ⟨rfl, hr3, hb3⟩
          rw [show Int.toNat 9 = 9 from rfl] at hr3 ⊢
          have HR3 := Lib.hid hr3
          have HB3 := Lib.hid (only_trans HB2.out hb3)
          obtain ⟨v, hve⟩ : ∃ v, v = (rget (ofBytes bs) s1 9).1 := ⟨_, rfl⟩
          have hv : v < 512 := by rw [hve]; exact HV.out
          rw [← hve] at HQ ⊢
          clear hr3 hb3 hve HV
          go_wp2
          first | go_ret | (refine bodyPost_ret (results_tmp rfl _ _ _) rfl ?_)
          rw [HQ.out]
          exact ⟨rfl, HR3.out, HB3.out⟩
        · have hq : q = (((rget (ofBytes bs) s1 12).1 : Int) - 2047, (rget (ofBytes bs) s1 12).2) := hstep
          have hv := rget_lt (ofBytes bs) s1 12
          have HV := Lib.hid hv
          have HQ := Lib.hid hq
          clear hstep hv hq
          go_wp2_with fail
          refine (rget_any R lim A cap bs s1 _ _ HR2.out (by omega) (by omega)).mono ?_
          rintro e w3 ⟨rfl, hr3, hb3⟩
          rw [show Int.toNat 12 = 12 from rfl] at hr3 ⊢
          have HR3 := Lib.hid hr3
          have HB3 := Lib.hid (only_trans HB2.out hb3)
          obtain ⟨v, hve⟩ : ∃ v, v = (rget (ofBytes bs) s1 12).1 := ⟨_, rfl⟩
          have hv : v < 4096 := by rw [hve]; exact HV.out
          rw [← hve] at HQ ⊢
          clear hr3 hb3 hve HV
          go_wp2
          first | go_ret | (refine bodyPost_ret (results_tmp rfl _ _ _) rfl ?_)
          rw [HQ.out]
          exact ⟨rfl, HR3.out, HB3.out⟩
    · obtain rfl : k = 4 := by omega
      have hq : q = (wrap64 ((rget (ofBytes bs) sk 64).1 : Nat), (rget (ofBytes bs) sk 64).2) := HD.out.symm
      have HQ2 := Lib.hid hq
      clear hq HQ HD
      go_wp2_with fail
      refine (rget_any R lim A cap bs sk _ _ HR.out (by omega) (by omega)).mono ?_
      rintro e w3 ⟨rfl, hr3, hb3⟩
      rw [show Int.toNat 64 = 64 from rfl] at hr3 ⊢
      have HR3 := Lib.hid hr3
      have HB3 := Lib.hid (only_trans HB.out hb3)
      obtain ⟨v, hve⟩ : ∃ v, v = (rget (ofBytes bs) sk 64).1 := ⟨_, rfl⟩
      rw [← hve] at HQ2 ⊢
      clear hr3 hb3 hve
      go_wp2
      first | go_ret | (refine bodyPost_ret (results_tmp rfl _ _ _) rfl ?_)
      rw [HQ2.out]
      exact ⟨rfl, HR3.out, HB3.out⟩
end Go.Proofs.YtjlfkdopkhejbaaDoor
