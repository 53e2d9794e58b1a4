/- For the document's add: its end. -/
import Derived.Test.YtbeeejpjnniejaaGreatDoorHRaddN
import Derived.Test.YtbeeejpjnniejaaGreatDoorJ09HCommit1
namespace Go.Proofs.YtbeeejpjnniejaaGreatDoor
open Go.RowKit Go.Shelf Go.Maps
theorem addS_lens {n : Nat} {H : Hd} (hok : H.Ok) (hl : H.ss.length ≤ n) (hls : ∀ x ∈ H.ss, x.2.length ≤ n) (pl : List Lbl) (x : HSmp) : (addS pl x H.ss).length ≤ n + 1 ∧ ∀ s ∈ addS pl x H.ss, s.2.length ≤ n + 1 := by
  refine ⟨by have := addS_len pl x H.ss; omega, fun s hs => ?_⟩
  rcases (mem_addS pl x H.ss hok.sorted s).1 hs with ⟨h1, -⟩ | h1
  · have := hls s h1; omega
  · subst h1
    show (((findS pl H.ss).getD []) ++ [x]).length ≤ n + 1
    rw [List.length_append, List.length_singleton]
    cases hf : findS pl H.ss with
    | none => simp
    | some r =>
      obtain ⟨s', h1, h2, h3⟩ := findS_mem hf
      have := hls s' h1
      rw [h3] at this
      show r.length + 1 ≤ n + 1
      omega
theorem add_end {w w8 : World} {F : Nat → Prop} {p n : Nat} {H H1 : Hd} {ss : List HSer} {pl : List Lbl} {pt : Int} {pb : Nat} {vL : Value} {vs : List VV} (hra : RAt w8 (Grs F w w8) p { H1 with ss := ss } vL vs) (hret : H1.ret = H.ret) (hnew : H1.newest = H.newest)
    (hss : addS pl (pt, pb, false) H.ss = ss) (hok : H.Ok) (hcd : H.code (pl, pt, pb) = 0) (hl : H.ss.length ≤ n) (hls : ∀ x ∈ H.ss, x.2.length ≤ n) :
    (pt ≤ H.newest → RHd w8 (Grs F w w8) p (n + 1) (H.add (pl, pt, pb))) ∧ (H.newest < pt → RHd (w8.setCell ⟨p, 2, none⟩ (.int .i64 pt)) (Grs F w (w8.setCell ⟨p, 2, none⟩ (.int .i64 pt))) p (n + 1) (H.add (pl, pt, pb))) := by
  have hlens := addS_lens hok hl hls pl (pt, pb, false)
  have hadd : H.add (pl, pt, pb) = { ret := H.ret, newest := max H.newest pt, ss := addS pl (pt, pb, false) H.ss } := rfl
  have hsc : (w8.setCell ⟨p, 2, none⟩ (.int .i64 pt)).heap.size = w8.heap.size := by simp [World.setCell]
  obtain ⟨r1, n1, s1⟩ := H1
  dsimp only at hret hnew hra
  subst hret hnew
  refine ⟨fun h => ⟨hok.add hcd, hlens.1, hlens.2, vL, vs, ?_⟩, fun h => ⟨hok.add hcd, hlens.1, hlens.2, vL, vs, ?_⟩⟩
  · rw [hadd, hss, show max H.newest pt = H.newest by omega]
    exact hra
  · have h2 := hra.newest pt
    rw [hadd, hss, show max H.newest pt = pt by omega]
    exact h2.keep (fun _ _ _ => rfl) fun j hj _ => ⟨hj.1, by rw [hsc]; exact hj.2⟩
end Go.Proofs.YtbeeejpjnniejaaGreatDoor
