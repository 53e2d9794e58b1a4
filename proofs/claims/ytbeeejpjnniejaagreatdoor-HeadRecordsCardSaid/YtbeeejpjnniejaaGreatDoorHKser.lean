/- The keeper: are two lists of series alike (61), where they are. -/
import Derived.Test.YtbeeejpjnniejaaGreatDoorJ01Keep
namespace Go.Proofs.YtbeeejpjnniejaaGreatDoor
open Go.RowKit
set_option maxRecDepth 100000 in
set_option maxHeartbeats 6400000 in
theorem kseries_any (w : World) (B1 B2 : Nat) (v1 v2 : Value) (a : List Ser) (h1 : SersRd w B1 v1 a) (h2 : SersRd w B2 v2 a) (ha : a.length ≤ 100000) (hs : ∀ s ∈ a, s.1.length ≤ 100000 ∧ s.2.length ≤ 100000) :
    Calls Tryz.prog 61 #[v1, v2] w fun e w' => e = .returned (.bool true) ∧ ∃ q, w' = w.drewN q := by
  obtain ⟨A1, c1, vs1, rfl, hl1, hr1, he1⟩ := h1
  obtain ⟨A2, c2, vs2, rfl, hl2, hr2, he2⟩ := h2
  obtain ⟨n, hn⟩ : ∃ n, n = a.length := ⟨_, rfl⟩
  rw [← hn] at hr1 hr2 ha hl1 hl2 ⊢
  have HR1 := Lib.hid hr1
  have HR2 := Lib.hid hr2
  have HE1 := Lib.hid he1
  have HE2 := Lib.hid he2
  have HN := Lib.hid hn
  have HL1 := Lib.hid hl1
  have HL2 := Lib.hid hl2
  have HS := Lib.hid hs
  have HI := Lib.hid (show KpR w n (.int .i64 0) w from ⟨0, 0, rfl, Nat.zero_le _, rfl⟩)
  clear hr1 hr2 hn hl1 hl2 he1 he2 hs
  go_enter Tryz.func61, Tryz.ntmps61
  go_wp2_with fail
  go_loopw [5] (fun i wr => KpR w n i wr) (fun i _ => n - (intOf i).toNat)
  case atStart => exact HI.out
  case round =>
    obtain ⟨k, q0, rfl, hk, hw⟩ := hrel
    have HW := Lib.hid hw
    by_cases hlt : k < n
    · have i1 : (k : Int) < (n : Int) := by omega
      have i3 : (0 : Int) ≤ (k : Int) := by omega
      obtain ⟨s, hs⟩ : ∃ s, a[k]? = some s := ⟨_, List.getElem?_eq_getElem (by have := HN.out; omega)⟩
      obtain ⟨p1, hp1⟩ : ∃ p, vs1[k]? = some p := ⟨_, List.getElem?_eq_getElem (by have := HL1.out; omega)⟩
      obtain ⟨p2, hp2⟩ : ∃ p, vs2[k]? = some p := ⟨_, List.getElem?_eq_getElem (by have := HL2.out; omega)⟩
      have hss := HS.out s (List.mem_of_getElem? hs)
      have k1 := HE1.out k p1 s hp1 hs
      have k2 := HE2.out k p2 s hp2 hs
      have HKL := Lib.hid (fun q => klabels_any (wr.drewN q) B1 B2 p1.1 p2.1 s.1 (by rw [hw]; exact k1.1) (by rw [hw]; exact k2.1) hss.1)
      have HKS := Lib.hid (fun q => ksamples_any (wr.drewN q) B1 B2 p1.2 p2.2 s.2 (by rw [hw]; exact k1.2) (by rw [hw]; exact k2.2) hss.2)
      obtain ⟨d1, rfl, -, x1, x2⟩ := HR1.out.two hp1
      obtain ⟨d2, rfl, -, y1, y2⟩ := HR2.out.two hp2
      obtain ⟨a1, b1⟩ := p1
      obtain ⟨a2, b2⟩ := p2
      dsimp only at x1 x2 y1 y2 HKL HKS
      replace x1 : wr.cell? (d1.add (k * 2)) = some a1 := by rw [hw]; exact x1
      replace x2 : wr.cell? ⟨(d1.add (k * 2)).block, (d1.add (k * 2)).off + 1, none⟩ = some b1 := by rw [hw]; exact x2
      replace y1 : wr.cell? (d2.add (k * 2)) = some a2 := by rw [hw]; exact y1
      replace y2 : wr.cell? ⟨(d2.add (k * 2)).block, (d2.add (k * 2)).off + 1, none⟩ = some b2 := by rw [hw]; exact y2
      have s1 : IntKind.i64.wrap ((k : Int) + 1) = ((k + 1 : Nat) : Int) := (IntWalk.i64_in _ (by omega)).trans (by omega)
      clear hs hp1 hp2 hss k1 k2 hw
      go_upto_region 6 with fail
      go_quiet ((first | (go_at_call 20; exact Calls.quiet_of (HKL.out _)) | (go_at_call 119; exact Calls.quiet_of (HKS.out _))))
      go_wp2
      exact ⟨⟨k + 1, q0 + nq, rfl, by omega, by rw [HW.out, World.drewN_drewN]⟩, by simp [intOf]; omega⟩
    · have i1 : ¬ (k : Int) < (n : Int) := by omega
      clear hw
      go_wp2
      refine bodyPost_ret (results_tmp rfl _ _ _) rfl ?_
      exact ⟨rfl, _, HW.out⟩
end Go.Proofs.YtbeeejpjnniejaaGreatDoor
