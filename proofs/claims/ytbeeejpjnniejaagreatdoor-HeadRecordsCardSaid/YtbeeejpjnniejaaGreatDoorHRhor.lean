/- The document's head: Horizon (118). -/
import Derived.Test.YtbeeejpjnniejaaGreatDoorHRh
import Derived.BigQuiet
namespace Go.Proofs.YtbeeejpjnniejaaGreatDoor
open Go.RowKit Go.Shelf Go.Maps
set_option maxRecDepth 100000 in
set_option maxHeartbeats 3200000 in
theorem rhor_any (w : World) (F : Nat → Prop) (p n : Nat) (H : Hd) (h : RHd w F p n H) : Calls Tryz.prog 118 #[.pointer (some ⟨p, 0, none⟩)] w fun e w' => e = .returned (.int .i64 (horizonP H.ret H.newest)) ∧ ∃ q, w' = w.drewN q := by
  obtain ⟨hok, hn1, hn2, vL, vs, hr⟩ := h
  obtain ⟨⟨hr0, hr1⟩, ⟨hw0, hw1⟩, -, -⟩ := hok
  unfold big at hw0 hw1
  obtain ⟨rt, hrt⟩ : ∃ x, x = H.ret := ⟨_, rfl⟩
  obtain ⟨nw, hnw⟩ : ∃ x, x = H.newest := ⟨_, rfl⟩
  have hb := hr.blk
  rw [← hrt, ← hnw] at hb ⊢
  rw [← hrt] at hr0 hr1
  rw [← hnw] at hw0 hw1
  have HE := Lib.hid (horizon_same (ret := rt) (newest := nw) hr0 (by omega))
  have b0 : w.cell? ⟨p, 0, none⟩ = some (.int .i64 rt) := hb.cell 0
  have b2 : w.cell? ⟨p, 2, none⟩ = some (.int .i64 nw) := hb.cell 2
  have s1 : IntKind.i64.wrap (-9007199254740992 + rt) = -9007199254740992 + rt := IntWalk.i64_in _ (by omega)
  clear hrt hnw hb hr hn1 hn2
  by_cases c1 : nw < -9007199254740992 + rt
  · have d1 : decide (nw < -9007199254740992 + rt) = true := decide_eq_true c1
    have HV := Lib.hid (show horizonP rt nw = -9007199254740993 by rw [← HE.out, if_pos (.inl c1)])
    go_enter Tryz.func118, Tryz.ntmps118
    go_upto_region 1 with fail
    go_quiet (fail)
    go_wp2
    go_ret
    exact ⟨by rw [HV.out]; rfl, _, rfl⟩
  · have d1 : decide (nw < -9007199254740992 + rt) = false := decide_eq_false c1
    by_cases c2 : 18014398509481984 < rt
    · have d2 : decide (18014398509481984 < rt) = true := decide_eq_true c2
      have HV := Lib.hid (show horizonP rt nw = -9007199254740993 by rw [← HE.out, if_pos (.inr c2)])
      go_enter Tryz.func118, Tryz.ntmps118
      go_upto_region 1 with fail
      go_quiet (fail)
      go_wp2
      go_ret
      exact ⟨by rw [HV.out]; rfl, _, rfl⟩
    · have d2 : decide (18014398509481984 < rt) = false := decide_eq_false c2
      have HV := Lib.hid (show horizonP rt nw = nw - rt by rw [← HE.out, if_neg (fun h => h.elim c1 c2)])
      have s2 : IntKind.i64.wrap (nw - rt) = nw - rt := IntWalk.i64_in _ (by omega)
      go_enter Tryz.func118, Tryz.ntmps118
      go_upto_region 1 with fail
      go_quiet (fail)
      go_upto_region 3 with fail
      go_quiet (fail)
      go_wp2
      go_ret
      exact ⟨by rw [HV.out]; rfl, _, rfl⟩
end Go.Proofs.YtbeeejpjnniejaaGreatDoor
