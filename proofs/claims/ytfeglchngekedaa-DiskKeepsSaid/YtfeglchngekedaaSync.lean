/- The walks of (*Disk).Sync and (*Disk).SyncDir. -/
import Derived.Test.YtfeglchngekedaaLay2
import Derived.Test.YtfeglchngekedaaAppendW
namespace Go.Proofs.Ytfeglchngekedaa
open Go.RowKit Go.Shelf Go.Maps

def synced (s : DS) (g : Nat) : DS := { s with kept := upd s.kept g (s.bytes g).length }

theorem DiskAt.synced {w w' : World} {F : Nat → Prop} {p : Nat} {s : DS} (h : DiskAt w F p s) (g : Nat) (hg : live s g) (hk : ∀ k, k < w.heap.size → k ≠ g → w'.heap[k]? = w.heap[k]?)
    (hf : Blk w' g 73 #[s.raw g, .int .i64 ((s.bytes g).length : Int)]) : DiskAt w' F p (synced s g) := by
  have fg := h.file g hg
  exact {
    blk := (hk p h.blk.lt (Blk.ne_ h.blk fg.blk (by decide))).trans h.blk
    own := h.own
    names := h.names.keep (hk _ h.names.lt (h.names.blk_ne fg.blk))
    safe := h.safe.keep (hk _ h.safe.lt (h.safe.blk_ne fg.blk))
    namesL := h.namesL
    safeL := h.safeL
    mnF := h.mnF
    msF := h.msF
    mne := h.mne
    pend := own_keep h.pend fun k hk' hlt => hk k hlt (fun e => own_blk_ne h.pend fg.blk (by decide) (by rw [← e]; exact hk'))
    pendF := h.pendF
    pendL := h.pendL
    flts := own_keep h.flts fun k hk' hlt => hk k hlt (fun e => own_blk_ne h.flts fg.blk (by decide) (by rw [← e]; exact hk'))
    fltsF := h.fltsF
    file := fun x hx => by
      have fx := h.file x hx
      refine ⟨?_, fx.own, own_keep fx.row fun k hk' hlt => hk k hlt (fun e => own_blk_ne fx.row fg.blk (by decide) (by rw [← e]; exact hk')), fx.rowF, ?_, fx.len⟩
      · by_cases e : x = g
        · subst e
          show Blk w' x 73 #[s.raw x, .int .i64 ((upd s.kept x (s.bytes x).length x : Nat) : Int)]
          rw [upd_same]; exact hf
        · show Blk w' x 73 #[s.raw x, .int .i64 ((upd s.kept g (s.bytes g).length x : Nat) : Int)]
          rw [upd_other _ _ e]; exact (hk x fx.blk.lt e).trans fx.blk
      · show upd s.kept g (s.bytes g).length x ≤ (s.bytes x).length
        by_cases e : x = g
        · subst e; rw [upd_same]; exact Nat.le_refl _
        · rw [upd_other _ _ e]; exact fx.le
    apart := h.apart
    nameOk := h.nameOk
    safeOk := h.safeOk
    pendOk := h.pendOk
    capB := h.capB
    rep := h.rep }

def syncC (s : DS) (nm : ByteArray) : Int := if (beginS s [nm]).2 = 0 then (if (dget s.names nm.data.toList).isSome then 0 else 3) else (beginS s [nm]).2
def SyncPost (w : World) (F : Nat → Prop) (p : Nat) (s : DS) (nm : ByteArray) (e : Ending) (w' : World) : Prop :=
  ∃ v s', e = .returned (.int .i64 (syncC s nm)) ∧ DiskAt w' (Gr F w) p s' ∧ Chg F w w' ∧
    ((syncC s nm ≠ 0 ∧ s' = begun s v) ∨ (syncC s nm = 0 ∧ ∃ g, dget s.names nm.data.toList = some g ∧ s' = synced (begun s v) g))

set_option maxRecDepth 100000 in
set_option maxHeartbeats 6400000 in
theorem sync_any (w : World) (F : Nat → Prop) (p : Nat) (s : DS) (nm : ByteArray) (h : DiskAt w F p s) (hnm : nm.size ≤ 9223372036854775807) (hnm2 : nm.size ≤ maxLen) (ho : s.ops ≤ 999999) (hf : s.flts.length ≤ 100000) :
    Calls Try.prog 11 #[.pointer (some ⟨p, 0, none⟩), .string nm] w (SyncPost w F p s nm) := by
  have hp := h.lt
  have H := Lib.hid h
  clear h
  go_enter Try.func11, Try.ntmps11
  go_wp2_with fail
  refine (begin1_any w F p s nm H.out hnm ho hf).mono ?_
  rintro e w2 ⟨v, rfl, hD2, hc2, hs2⟩
  have HD := Lib.hid hD2
  have HC := Lib.hid hc2
  clear hD2 hc2
  obtain ⟨kd, why, hk⟩ : ∃ kd why, beginS s [nm] = (kd, why) := ⟨_, _, rfl⟩
  rw [hk]
  have HK := Lib.hid hk
  clear hk
  by_cases hwy : why = 0
  · subst hwy
    have hlook : (Instr.lookup 64 (.map (some s.mn)) (.string nm) false).run Try.prog w2 = .ok (ptrV (dget s.names nm.data.toList)) w2 := HD.out.names.look nm hnm2
    have c2 : w2.cell? ⟨p, 2, none⟩ = some (.map (some s.mn)) := HD.out.blk.cell 2
    cases hd : dget s.names nm.data.toList with
    | none =>
      rw [hd] at hlook
      simp only [ptrV] at hlook
      have HDG := Lib.hid hd
      clear hd
      go_wp2
      refine bodyPost_ret (results_tmp rfl _ _ _) rfl ?_
      have e4 : syncC s nm = 3 := by unfold syncC; rw [HK.out, HDG.out]; rfl
      exact ⟨v, _, by rw [e4]; rfl, HD.out, HC.out, .inl ⟨by rw [e4]; decide, rfl⟩⟩
    | some g =>
      rw [hd] at hlook
      simp only [ptrV] at hlook
      have fg := HD.out.file g (.inl ⟨_, dget_mem hd, rfl⟩)
      obtain ⟨A0, d0, hraw⟩ := own_slice fg.row
      have q0 : w2.cell? ⟨g, 0, none⟩ = some (.slice A0 (s.bytes g).length d0) := (fg.blk.cell 0).trans (congrArg some hraw)
      have q1 : w2.cell? ⟨g, 1, none⟩ = some (.int .i64 (s.kept g : Int)) := fg.blk.cell 1
      have f1 := fg.blk.frozen 1
      have HFG := Lib.hid fg
      have HDG := Lib.hid hd
      clear hd fg hraw
      go_wp2
      refine bodyPost_ret (results_tmp rfl _ _ _) rfl ?_
      have e4 : syncC s nm = 0 := by unfold syncC; rw [HK.out, HDG.out]; rfl
      refine ⟨v, _, by rw [e4]; rfl, ?_, ?_, .inr ⟨e4, g, HDG.out, rfl⟩⟩
      · exact HD.out.synced g (.inl ⟨_, dget_mem HDG.out, rfl⟩) (fun k _ hne => Below.heap_setCell _ _ _ _ hne) (HFG.out.blk.set_ 1 _)
      · exact HC.out.setCell (p := ⟨g, 1, none⟩) HFG.out.own _
  · have hq : (why != 0) = true := by simp [hwy]
    have HWY := Lib.hid hwy
    clear hwy
    go_wp2
    refine bodyPost_ret (results_tmp rfl _ _ _) rfl ?_
    have e4 : syncC s nm = why := by unfold syncC; rw [HK.out, if_neg HWY.out]
    exact ⟨v, _, by rw [e4]; rfl, HD.out, HC.out, .inl ⟨by rw [e4]; exact HWY.out, rfl⟩⟩

/-! ### the directory -/
def syncedDir (s : DS) (m : Nat) : DS := { s with safe := s.names, ms := m, pend := [], vp := .slice none 0 0 }

theorem DiskAt.syncedDir {w w' : World} {F : Nat → Prop} {p : Nat} {s : DS} (h : DiskAt w F p s) (m : Nat) (hm : w.heap.size ≤ m) (hk : ∀ k, k < w.heap.size → k ≠ p → w'.heap[k]? = w.heap[k]?)
    (hb : Blk w' p 68 #[.int .i64 s.cap, .int .i64 (s.ops : Int), .map (some s.mn), .map (some m), .slice none 0 0, s.vf, .bool s.stopped, .int .i64 s.stop]) (hd : DirAt w' m s.names.length s.names) :
    DiskAt w' (Gr F w) p (syncedDir s m) := by
  have hlive : ∀ x, live (Ytfeglchngekedaa.syncedDir s m) x → live s x := by
    rintro x (hx | hx | ⟨c, hc, _⟩)
    · exact .inl hx
    · exact .inl hx
    · cases hc
  exact {
    blk := hb
    own := .inl h.own
    names := h.names.keep (hk _ h.names.lt (h.names.blk_ne h.blk))
    safe := hd
    namesL := h.namesL
    safeL := h.namesL
    mnF := .inl h.mnF
    msF := .inr hm
    mne := by have := h.names.lt; show s.mn ≠ m; omega
    pend := World.ownsRow_nil _ _ _ _
    pendF := fun k hk => by cases hk
    pendL := Nat.zero_le _
    flts := own_keep h.flts fun k hk' hlt => hk k hlt (fun e => own_blk_ne h.flts h.blk (by decide) (by rw [← e]; exact hk'))
    fltsF := fun k hk' => .inl (h.fltsF k hk')
    file := fun x hx => by
      have fx := h.file x (hlive x hx)
      exact ⟨(hk x fx.blk.lt (Blk.ne_ fx.blk h.blk (by decide))).trans fx.blk, .inl fx.own, own_keep fx.row fun k hk' hlt => hk k hlt (fun e => own_blk_ne fx.row h.blk (by decide) (by rw [← e]; exact hk')), fun k hk' => .inl (fx.rowF k hk'), fx.le, fx.len⟩
    apart := fun x y hx hy => h.apart x y (hlive x hx) (hlive y hy)
    nameOk := h.nameOk
    safeOk := h.nameOk
    pendOk := fun c hc => by cases hc
    capB := h.capB
    rep := RepOk.start _ }

def SyncDirPost (w : World) (F : Nat → Prop) (p : Nat) (s : DS) (e : Ending) (w' : World) : Prop :=
  ∃ v s', e = .returned (.int .i64 (beginS s []).2) ∧ DiskAt w' (Gr F w) p s' ∧ Chg F w w' ∧
    (((beginS s []).2 ≠ 0 ∧ s' = begun s v) ∨ ((beginS s []).2 = 0 ∧ ∃ m, s' = syncedDir (begun s v) m))

set_option maxRecDepth 100000 in
set_option maxHeartbeats 6400000 in
theorem syncdir_any (w : World) (F : Nat → Prop) (p : Nat) (s : DS) (h : DiskAt w F p s) (ho : s.ops ≤ 999999) (hf : s.flts.length ≤ 100000) :
    Calls Try.prog 12 #[.pointer (some ⟨p, 0, none⟩)] w (SyncDirPost w F p s) := by
  have hp := h.lt
  have H := Lib.hid h
  clear h
  go_enter Try.func12, Try.ntmps12
  go_wp2_with fail
  refine (begin_any w F p s [] none 0 0 H.out ⟨rfl, fun h => absurd h (by omega)⟩ (fun x hx => by cases hx) (by omega) (by omega) hf (fun ad e => by cases e)).mono ?_
  rintro e w2 ⟨v, rfl, hD2, hc2⟩
  have hs2 := hc2.size
  have HD := Lib.hid hD2
  have HC := Lib.hid hc2
  clear hD2 hc2
  obtain ⟨kd, why, hk⟩ : ∃ kd why, beginS s [] = (kd, why) := ⟨_, _, rfl⟩
  rw [hk]
  have HK := Lib.hid hk
  clear hk
  by_cases hwy : why = 0
  · subst hwy
    have c2 : w2.cell? ⟨p, 2, none⟩ = some (.map (some s.mn)) := HD.out.blk.cell 2
    go_wp2_with fail
    refine (AnyW.maps_Clone_owns Try.cloneM 9 ptrElem s.mn s.names.length (dirD s.names) w2 HD.out.names).mono ?_
    rintro e w3 ⟨rfl, hm1, hm2, hb3⟩
    have b3 := HD.out.blk.below hb3 HD.out.blk.lt
    have q3 : w3.cell? ⟨p, 3, none⟩ = some (.map (some s.ms)) := b3.cell 3
    have f3 := b3.frozen 3
    have q4 : (w3.setCell ⟨p, 3, none⟩ (.map (some w2.heap.size))).cell? ⟨p, 4, none⟩ = some s.vp := (b3.set_ 3 _).cell 4
    have f4 := (b3.set_ 3 (.map (some w2.heap.size))).frozen 4
    have HB3 := Lib.hid hb3
    have HBK := Lib.hid b3
    have HM := Lib.hid hm1
    clear hb3 b3 hm1 hm2
    go_wp2
    refine bodyPost_ret (results_tmp rfl _ _ _) rfl ?_
    have hp2 := HD.out.blk.lt
    refine ⟨v, _, by rw [HK.out]; rfl, ?_, ?_, .inr ⟨by rw [HK.out], w2.heap.size, rfl⟩⟩
    · refine (HD.out.syncedDir w2.heap.size (Nat.le_refl _) ?_ ?_ ?_).inF (fun k hk => Gr.mono hs2 k hk)
      · intro k hk hne
        rw [Below.heap_setCell _ _ _ _ hne, Below.heap_setCell _ _ _ _ hne]
        exact HB3.out.block k hk
      · exact (HBK.out.set_ 3 _).set_ 4 _
      · have hne : w2.heap.size ≠ p := by omega
        exact DirAt.keep (w := w3) HM.out (by rw [Below.heap_setCell _ _ _ _ hne, Below.heap_setCell _ _ _ _ hne])
    · exact ((HC.out.below HB3.out hs2).setCell (p := ⟨p, 3, none⟩) (.inl H.out.own) _).setCell (p := ⟨p, 4, none⟩) (.inl H.out.own) _
  · have hq : (why != 0) = true := by simp [hwy]
    have HWY := Lib.hid hwy
    clear hwy
    go_wp2
    refine bodyPost_ret (results_tmp rfl _ _ _) rfl ?_
    exact ⟨v, _, by rw [HK.out]; rfl, HD.out, HC.out, .inl ⟨by rw [HK.out]; exact HWY.out, rfl⟩⟩
end Go.Proofs.Ytfeglchngekedaa
