/- The walk of (*Disk).Append. -/
import Derived.Test.YtfeglchngekedaaFits
namespace Go.Proofs.Ytfeglchngekedaa
open Go.RowKit Go.Shelf Go.Maps

theorem info5 : (Try.prog.info? 5).map (fun i => (i.zero, i.size, i.bytes)) = some (some (.int .u8 0), 1, 1) := by kernel_rfl

def appended (s : DS) (g : Nat) (v : Value) (b : List UInt8) : DS := { s with raw := upd s.raw g v, bytes := upd s.bytes g (s.bytes g ++ b) }

theorem DiskAt.appended {w w' : World} {F : Nat → Prop} {p : Nat} {s : DS} (h : DiskAt w F p s) (g : Nat) (v : Value) (b : List UInt8) (hg : live s g)
    (hk : ∀ k, k < w.heap.size → k ≠ g → (s.raw g).ownBlock ≠ some k → w'.heap[k]? = w.heap[k]?)
    (hf : Blk w' g 73 #[v, .int .i64 (s.kept g : Int)]) (hv : w'.ownsRow 0 5 1 v (s.bytes g ++ b).length (bytesV (s.bytes g ++ b)))
    (hvF : v.ownBlock = (s.raw g).ownBlock ∨ (∀ k, v.ownBlock = some k → w.heap.size ≤ k)) (hl : (s.bytes g ++ b).length ≤ 1000 * s.ops) : DiskAt w' (Gr F w) p (appended s g v b) := by
  have fg := h.file g hg
  have hpg : p ≠ g := Blk.ne_ h.blk fg.blk (by decide)
  have hpr : (s.raw g).ownBlock ≠ some p := own_blk_ne fg.row h.blk (by decide)
  exact {
    blk := (hk p h.blk.lt hpg hpr).trans h.blk
    own := .inl h.own
    names := h.names.keep (hk _ h.names.lt (h.names.blk_ne fg.blk) (h.names.own_ne fg.row))
    safe := h.safe.keep (hk _ h.safe.lt (h.safe.blk_ne fg.blk) (h.safe.own_ne fg.row))
    namesL := h.namesL
    safeL := h.safeL
    mnF := .inl h.mnF
    msF := .inl h.msF
    mne := h.mne
    pend := own_keep h.pend fun k hk' hlt => hk k hlt (fun e => own_blk_ne h.pend fg.blk (by decide) (by rw [← e]; exact hk')) (own_ne2 h.pend fg.row (by decide) hk')
    pendF := fun k hk' => .inl (h.pendF k hk')
    pendL := h.pendL
    flts := own_keep h.flts fun k hk' hlt => hk k hlt (fun e => own_blk_ne h.flts fg.blk (by decide) (by rw [← e]; exact hk')) (own_ne2 h.flts fg.row (by decide) hk')
    fltsF := fun k hk' => .inl (h.fltsF k hk')
    file := fun x hx => by
      by_cases e : x = g
      · subst e
        refine ⟨?_, .inl fg.own, ?_, ?_, ?_, ?_⟩
        · show Blk w' x 73 #[upd s.raw x v x, .int .i64 (s.kept x : Int)]
          rw [upd_same]; exact hf
        · show w'.ownsRow 0 5 1 (upd s.raw x v x) (upd s.bytes x (s.bytes x ++ b) x).length (bytesV (upd s.bytes x (s.bytes x ++ b) x))
          rw [upd_same, upd_same]; exact hv
        · intro k hk'
          have hk2 : v.ownBlock = some k := by
            have : (upd s.raw x v x).ownBlock = some k := hk'
            rwa [upd_same] at this
          rcases hvF with e | e
          · exact .inl (fg.rowF k (by rw [← e]; exact hk2))
          · exact .inr (e k hk2)
        · show s.kept x ≤ (upd s.bytes x (s.bytes x ++ b) x).length
          rw [upd_same]
          have := fg.le
          simp
          omega
        · show (upd s.bytes x (s.bytes x ++ b) x).length ≤ _
          rw [upd_same]; exact hl
      · have fx := h.file x hx
        refine ⟨?_, .inl fx.own, ?_, ?_, ?_, ?_⟩
        · show Blk w' x 73 #[upd s.raw g v x, .int .i64 (s.kept x : Int)]
          rw [upd_other _ _ e]
          exact (hk x fx.blk.lt e (own_blk_ne fg.row fx.blk (by decide))).trans fx.blk
        · show w'.ownsRow 0 5 1 (upd s.raw g v x) (upd s.bytes g (s.bytes g ++ b) x).length (bytesV (upd s.bytes g (s.bytes g ++ b) x))
          rw [upd_other _ _ e, upd_other _ _ e]
          refine own_keep fx.row fun k hk' hlt => hk k hlt (fun e2 => own_blk_ne fx.row fg.blk (by decide) (by rw [← e2]; exact hk')) ?_
          rcases h.apart x g hx hg e with h1 | h1
          · rw [h1] at hk'; cases hk'
          · intro e3; exact h1 (hk'.trans e3.symm)
        · intro k hk'
          have : (upd s.raw g v x).ownBlock = some k := hk'
          rw [upd_other _ _ e] at this
          exact .inl (fx.rowF k this)
        · show s.kept x ≤ (upd s.bytes g (s.bytes g ++ b) x).length
          rw [upd_other _ _ e]; exact fx.le
        · show (upd s.bytes g (s.bytes g ++ b) x).length ≤ _
          rw [upd_other _ _ e]; exact fx.len
    apart := fun x y hx hy hne => by
      show (upd s.raw g v x).ownBlock = none ∨ (upd s.raw g v x).ownBlock ≠ (upd s.raw g v y).ownBlock
      by_cases e : x = g
      · subst e
        rw [upd_same, upd_other _ _ (Ne.symm hne)]
        rcases hvF with e1 | e1
        · rw [e1]; exact h.apart x y hx hy hne
        · cases e2 : v.ownBlock with
          | none => exact .inl rfl
          | some k =>
            refine .inr fun e3 => ?_
            have h1 := e1 k e2
            have h2 := ((h.file y hy).row.lt k e3.symm).2
            omega
      · by_cases e' : y = g
        · subst e'
          rw [upd_other _ _ e, upd_same]
          rcases hvF with e1 | e1
          · rw [e1]; exact h.apart x y hx hy hne
          · cases e2 : (s.raw x).ownBlock with
            | none => exact .inl rfl
            | some k =>
              refine .inr fun e3 => ?_
              have h1 := e1 k e3.symm
              have h2 := ((h.file x hx).row.lt k e2).2
              omega
        · rw [upd_other _ _ e, upd_other _ _ e']; exact h.apart x y hx hy hne
    nameOk := h.nameOk
    safeOk := h.safeOk
    pendOk := h.pendOk
    capB := h.capB
    rep := h.rep }
end Go.Proofs.Ytfeglchngekedaa
