/- Replay (58): a written batch, taken again. -/
import Derived.Test.YtbeeejpjnniejaaGreatDoorHPoints
import Derived.Test.YtbeeejpjnniejaaGreatDoorJ10HCommit
namespace Go.Proofs.YtbeeejpjnniejaaGreatDoor
open Go.RowKit Go.Shelf Go.Maps
attribute [-go_sem] Builtin.append_
def ReplayPost (w : World) (F : Nat → Prop) (p n : Nat) (H : Hd) (raw : List UInt8) (e : Ending) (w' : World) : Prop :=
  match pointsP (raw.length + 1) [] raw with
  | none => e = .returned (.int .i64 8) ∧ Below w.heap.size w w'
  | some pts => e = .returned (.int .i64 0) ∧ HdAt w' (Grs F w w') p (n + pts.length) (H.take pts).2 ∧ Chg F w w'
set_option maxRecDepth 100000 in
set_option maxHeartbeats 6400000 in
theorem replay_any (w : World) (F : Nat → Prop) (p n : Nat) (H : Hd) (A : Option Addr) (c : Nat) (raw : List UInt8) (hh : HdAt w F p n H) (hr : Reads w w.heap.size 1 A raw.length (bytesV raw)) (hc : raw.length ≤ c) (hT : Tabs w) (h2 : 2 < w.heap.size)
    (hF : ∀ k, F k → k < w.heap.size) (hl : raw.length ≤ 10000000) (hN : ∀ pts, pointsP (raw.length + 1) [] raw = some pts → pts.length ≤ 50000) (hn : n ≤ 50000) :
    Calls Tryz.prog 58 #[.pointer (some ⟨p, 0, none⟩), .slice A raw.length c] w (ReplayPost w F p n H raw) := by
  obtain ⟨m, hm⟩ : ∃ m, m = raw.length := ⟨_, rfl⟩
  have HP := Lib.hid (points_any w A c raw hr hc hT hl)
  rw [← hm] at HP
  have HPC := Lib.hid (show ∀ w2 v pts, PtsI w w2 pts v → pts.length ≤ 50000 → Calls Tryz.prog 14 #[.pointer (some ⟨p, 0, none⟩), v] w2 fun e w' => (∃ k : Int, e = .returned (.int .i64 k)) ∧ HdAt w' (Grs F w w') p (n + pts.length) (H.take pts).2 ∧ Chg F w w' from by
    intro w2 v pts hI hlen
    have hb := hI.bel
    have hs := hb.size
    refine (commit_any w2 F p n w2.heap.size H v pts (hh.below hb) (hI.pts fun k hk hf => by have := hF k hf; omega) (hT.below (hb.mono (Nat.le_refl _)) h2) ⟨by omega, Nat.le_refl _⟩ (fun k hk => by have := hF k hk; omega) hlen hn).mono ?_
    rintro e w' ⟨rfl, h3, h4⟩
    exact ⟨⟨_, rfl⟩, h3.inF fun k hk => grs_of hs k hk, (Chg.of_below (F := F) hb).trans h4 fun k hk => .inl hk⟩)
  have HM := Lib.hid hm
  have HN := Lib.hid hN
  clear hh hr hT hF hN hc hl h2
  rw [← hm]
  clear hm
  go_enter Tryz.func58, Tryz.ntmps58
  go_wp2_with fail
  refine HP.out.mono ?_
  intro e w2 hpost
  unfold PointsPost at hpost
  have HN2 := HN.out
  cases hx : pointsP (raw.length + 1) [] raw with
  | none =>
    have HX := Lib.hid hx
    rw [hx] at hpost
    obtain ⟨rfl, hb⟩ := hpost
    have HB := Lib.hid hb
    clear hb hx HN2
    go_wp2
    go_ret
    unfold ReplayPost
    rw [HX.out]
    exact ⟨rfl, HB.out⟩
  | some pts =>
    have HX := Lib.hid hx
    rw [hx] at hpost
    obtain ⟨v, rfl, hI⟩ := hpost
    have HI := Lib.hid (HPC.out w2 v pts hI (HN2 pts hx))
    clear hI hx HN2
    go_wp2_with fail
    refine HI.out.mono ?_
    rintro e w3 ⟨⟨k, rfl⟩, h3⟩
    have H3 := Lib.hid h3
    clear h3
    go_wp2
    go_ret
    unfold ReplayPost
    rw [HX.out]
    exact ⟨rfl, H3.out⟩
end Go.Proofs.YtbeeejpjnniejaaGreatDoor
