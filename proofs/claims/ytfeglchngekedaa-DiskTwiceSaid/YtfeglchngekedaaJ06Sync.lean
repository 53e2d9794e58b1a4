/- The walks of (*Disk).Sync and (*Disk).SyncDir. The walk of (*Disk).Read. The walks of (change).do and of (*cutter).next. The walk of (*cutter).next. -/
import Derived.Test.YtfeglchngekedaaLay2
import Derived.Test.YtfeglchngekedaaJ05Used
namespace Go.Proofs.Ytfeglchngekedaa
open Go.RowKit Go.Shelf Go.Maps

def synced (s : DS) (g : Nat) : DS := { s with kept := upd s.kept g (s.bytes g).length }

theorem DiskAt.synced {w w' : World} {F : Nat → Prop} {p : Nat} {s : DS} (h : DiskAt w F p s) (g : Nat) (hg : live s g) (hk : ∀ k, k < w.heap.size → k ≠ g → w'.heap[k]? = w.heap[k]?)
    (hf : Blk w' g 73 #[s.raw g, .int .i64 ((s.bytes g).length : Int)]) : DiskAt w' F p (synced s g) := by
  have fg := h.file g hg
  exact {
    blk := (hk p h.blk.lt (Blk.ne_ h.blk fg.blk (by decide))).trans h.blk
    own := h.own
    names := h.names.keep (hk _ h.names.lt (h.names.blk_ne fg.blk))
    safe := h.safe.keep (hk _ h.safe.lt (h.safe.blk_ne fg.blk))
    namesL := h.namesL
    safeL := h.safeL
    mnF := h.mnF
    msF := h.msF
    mne := h.mne
    pend := own_keep h.pend fun k hk' hlt => hk k hlt (fun e => own_blk_ne h.pend fg.blk (by decide) (by rw [← e]; exact hk'))
    pendF := h.pendF
    pendL := h.pendL
    flts := own_keep h.flts fun k hk' hlt => hk k hlt (fun e => own_blk_ne h.flts fg.blk (by decide) (by rw [← e]; exact hk'))
    fltsF := h.fltsF
    file := fun x hx => by
      have fx := h.file x hx
      refine ⟨?_, fx.own, own_keep fx.row fun k hk' hlt => hk k hlt (fun e => own_blk_ne fx.row fg.blk (by decide) (by rw [← e]; exact hk')), fx.rowF, ?_, fx.len⟩
      · by_cases e : x = g
        · subst e
          show Blk w' x 73 #[s.raw x, .int .i64 ((upd s.kept x (s.bytes x).length x : Nat) : Int)]
          rw [upd_same]; exact hf
        · show Blk w' x 73 #[s.raw x, .int .i64 ((upd s.kept g (s.bytes g).length x : Nat) : Int)]
          rw [upd_other _ _ e]; exact (hk x fx.blk.lt e).trans fx.blk
      · show upd s.kept g (s.bytes g).length x ≤ (s.bytes x).length
        by_cases e : x = g
        · subst e; rw [upd_same]; exact Nat.le_refl _
        · rw [upd_other _ _ e]; exact fx.le
    apart := h.apart
    nameOk := h.nameOk
    safeOk := h.safeOk
    pendOk := h.pendOk
    capB := h.capB
    rep := h.rep }

def syncC (s : DS) (nm : ByteArray) : Int := if (beginS s [nm]).2 = 0 then (if (dget s.names nm.data.toList).isSome then 0 else 3) else (beginS s [nm]).2
def SyncPost (w : World) (F : Nat → Prop) (p : Nat) (s : DS) (nm : ByteArray) (e : Ending) (w' : World) : Prop :=
  ∃ v s', e = .returned (.int .i64 (syncC s nm)) ∧ DiskAt w' (Gr F w) p s' ∧ Chg F w w' ∧
    ((syncC s nm ≠ 0 ∧ s' = begun s v) ∨ (syncC s nm = 0 ∧ ∃ g, dget s.names nm.data.toList = some g ∧ s' = synced (begun s v) g))

set_option maxRecDepth 100000 in
set_option maxHeartbeats 6400000 in
theorem sync_any (w : World) (F : Nat → Prop) (p : Nat) (s : DS) (nm : ByteArray) (h : DiskAt w F p s) (hnm : nm.size ≤ 9223372036854775807) (hnm2 : nm.size ≤ maxLen) (ho : s.ops ≤ 999999) (hf : s.flts.length ≤ 100000) :
    Calls Try.prog 11 #[.pointer (some ⟨p, 0, none⟩), .string nm] w (SyncPost w F p s nm) := by
  have hp := h.lt
  have H := Lib.hid h
  clear h
  go_enter Try.func11, Try.ntmps11
  go_wp2_with fail
  refine (begin1_any w F p s nm H.out hnm ho hf).mono ?_
  rintro e w2 ⟨v, rfl, hD2, hc2, hs2⟩
  have HD := Lib.hid hD2
  have HC := Lib.hid hc2
  clear hD2 hc2
  obtain ⟨kd, why, hk⟩ : ∃ kd why, beginS s [nm] = (kd, why) := ⟨_, _, rfl⟩
  rw [hk]
  have HK := Lib.hid hk
  clear hk
  by_cases hwy : why = 0
  · subst hwy
    have hlook : (Instr.lookup 64 (.map (some s.mn)) (.string nm) false).run Try.prog w2 = .ok (ptrV (dget s.names nm.data.toList)) w2 := HD.out.names.look nm hnm2
    have c2 : w2.cell? ⟨p, 2, none⟩ = some (.map (some s.mn)) := HD.out.blk.cell 2
    cases hd : dget s.names nm.data.toList with
    | none =>
      rw [hd] at hlook
      simp only [ptrV] at hlook
      have HDG := Lib.hid hd
      clear hd
      go_wp2
      refine bodyPost_ret (results_tmp rfl _ _ _) rfl ?_
      have e4 : syncC s nm = 3 := by unfold syncC; rw [HK.out, HDG.out]; rfl
      exact ⟨v, _, by rw [e4]; rfl, HD.out, HC.out, .inl ⟨by rw [e4]; decide, rfl⟩⟩
    | some g =>
      rw [hd] at hlook
      simp only [ptrV] at hlook
      have fg := HD.out.file g (.inl ⟨_, dget_mem hd, rfl⟩)
      obtain ⟨A0, d0, hraw⟩ := own_slice fg.row
      have q0 : w2.cell? ⟨g, 0, none⟩ = some (.slice A0 (s.bytes g).length d0) := (fg.blk.cell 0).trans (congrArg some hraw)
      have q1 : w2.cell? ⟨g, 1, none⟩ = some (.int .i64 (s.kept g : Int)) := fg.blk.cell 1
      have f1 := fg.blk.frozen 1
      have HFG := Lib.hid fg
      have HDG := Lib.hid hd
      clear hd fg hraw
      go_wp2
      refine bodyPost_ret (results_tmp rfl _ _ _) rfl ?_
      have e4 : syncC s nm = 0 := by unfold syncC; rw [HK.out, HDG.out]; rfl
      refine ⟨v, _, by rw [e4]; rfl, ?_, ?_, .inr ⟨e4, g, HDG.out, rfl⟩⟩
      · exact HD.out.synced g (.inl ⟨_, dget_mem HDG.out, rfl⟩) (fun k _ hne => Below.heap_setCell _ _ _ _ hne) (HFG.out.blk.set_ 1 _)
      · exact HC.out.setCell (p := ⟨g, 1, none⟩) HFG.out.own _
  · have hq : (why != 0) = true := by simp [hwy]
    have HWY := Lib.hid hwy
    clear hwy
    go_wp2
    refine bodyPost_ret (results_tmp rfl _ _ _) rfl ?_
    have e4 : syncC s nm = why := by unfold syncC; rw [HK.out, if_neg HWY.out]
    exact ⟨v, _, by rw [e4]; rfl, HD.out, HC.out, .inl ⟨by rw [e4]; exact HWY.out, rfl⟩⟩

/-! ### the directory -/
def syncedDir (s : DS) (m : Nat) : DS := { s with safe := s.names, ms := m, pend := [], vp := .slice none 0 0 }

theorem DiskAt.syncedDir {w w' : World} {F : Nat → Prop} {p : Nat} {s : DS} (h : DiskAt w F p s) (m : Nat) (hm : w.heap.size ≤ m) (hk : ∀ k, k < w.heap.size → k ≠ p → w'.heap[k]? = w.heap[k]?)
    (hb : Blk w' p 68 #[.int .i64 s.cap, .int .i64 (s.ops : Int), .map (some s.mn), .map (some m), .slice none 0 0, s.vf, .bool s.stopped, .int .i64 s.stop]) (hd : DirAt w' m s.names.length s.names) :
    DiskAt w' (Gr F w) p (syncedDir s m) := by
  have hlive : ∀ x, live (Ytfeglchngekedaa.syncedDir s m) x → live s x := by
    rintro x (hx | hx | ⟨c, hc, _⟩)
    · exact .inl hx
    · exact .inl hx
    · cases hc
  exact {
    blk := hb
    own := .inl h.own
    names := h.names.keep (hk _ h.names.lt (h.names.blk_ne h.blk))
    safe := hd
    namesL := h.namesL
    safeL := h.namesL
    mnF := .inl h.mnF
    msF := .inr hm
    mne := by have := h.names.lt; show s.mn ≠ m; omega
    pend := World.ownsRow_nil _ _ _ _
    pendF := fun k hk => by cases hk
    pendL := Nat.zero_le _
    flts := own_keep h.flts fun k hk' hlt => hk k hlt (fun e => own_blk_ne h.flts h.blk (by decide) (by rw [← e]; exact hk'))
    fltsF := fun k hk' => .inl (h.fltsF k hk')
    file := fun x hx => by
      have fx := h.file x (hlive x hx)
      exact ⟨(hk x fx.blk.lt (Blk.ne_ fx.blk h.blk (by decide))).trans fx.blk, .inl fx.own, own_keep fx.row fun k hk' hlt => hk k hlt (fun e => own_blk_ne fx.row h.blk (by decide) (by rw [← e]; exact hk')), fun k hk' => .inl (fx.rowF k hk'), fx.le, fx.len⟩
    apart := fun x y hx hy => h.apart x y (hlive x hx) (hlive y hy)
    nameOk := h.nameOk
    safeOk := h.nameOk
    pendOk := fun c hc => by cases hc
    capB := h.capB
    rep := RepOk.start _ }

def SyncDirPost (w : World) (F : Nat → Prop) (p : Nat) (s : DS) (e : Ending) (w' : World) : Prop :=
  ∃ v s', e = .returned (.int .i64 (beginS s []).2) ∧ DiskAt w' (Gr F w) p s' ∧ Chg F w w' ∧
    (((beginS s []).2 ≠ 0 ∧ s' = begun s v) ∨ ((beginS s []).2 = 0 ∧ ∃ m, s' = syncedDir (begun s v) m))

set_option maxRecDepth 100000 in
set_option maxHeartbeats 6400000 in
theorem syncdir_any (w : World) (F : Nat → Prop) (p : Nat) (s : DS) (h : DiskAt w F p s) (ho : s.ops ≤ 999999) (hf : s.flts.length ≤ 100000) :
    Calls Try.prog 12 #[.pointer (some ⟨p, 0, none⟩)] w (SyncDirPost w F p s) := by
  have hp := h.lt
  have H := Lib.hid h
  clear h
  go_enter Try.func12, Try.ntmps12
  go_wp2_with fail
  refine (begin_any w F p s [] none 0 0 H.out ⟨rfl, fun h => absurd h (by omega)⟩ (fun x hx => by cases hx) (by omega) (by omega) hf (fun ad e => by cases e)).mono ?_
  rintro e w2 ⟨v, rfl, hD2, hc2⟩
  have hs2 := hc2.size
  have HD := Lib.hid hD2
  have HC := Lib.hid hc2
  clear hD2 hc2
  obtain ⟨kd, why, hk⟩ : ∃ kd why, beginS s [] = (kd, why) := ⟨_, _, rfl⟩
  rw [hk]
  have HK := Lib.hid hk
  clear hk
  by_cases hwy : why = 0
  · subst hwy
    have c2 : w2.cell? ⟨p, 2, none⟩ = some (.map (some s.mn)) := HD.out.blk.cell 2
    go_wp2_with fail
    refine (AnyW.maps_Clone_owns Try.cloneM 9 ptrElem s.mn s.names.length (dirD s.names) w2 HD.out.names).mono ?_
    rintro e w3 ⟨rfl, hm1, hm2, hb3⟩
    have b3 := HD.out.blk.below hb3 HD.out.blk.lt
    have q3 : w3.cell? ⟨p, 3, none⟩ = some (.map (some s.ms)) := b3.cell 3
    have f3 := b3.frozen 3
    have q4 : (w3.setCell ⟨p, 3, none⟩ (.map (some w2.heap.size))).cell? ⟨p, 4, none⟩ = some s.vp := (b3.set_ 3 _).cell 4
    have f4 := (b3.set_ 3 (.map (some w2.heap.size))).frozen 4
    have HB3 := Lib.hid hb3
    have HBK := Lib.hid b3
    have HM := Lib.hid hm1
    clear hb3 b3 hm1 hm2
    go_wp2
    refine bodyPost_ret (results_tmp rfl _ _ _) rfl ?_
    have hp2 := HD.out.blk.lt
    refine ⟨v, _, by rw [HK.out]; rfl, ?_, ?_, .inr ⟨by rw [HK.out], w2.heap.size, rfl⟩⟩
    · refine (HD.out.syncedDir w2.heap.size (Nat.le_refl _) ?_ ?_ ?_).inF (fun k hk => Gr.mono hs2 k hk)
      · intro k hk hne
        rw [Below.heap_setCell _ _ _ _ hne, Below.heap_setCell _ _ _ _ hne]
        exact HB3.out.block k hk
      · exact (HBK.out.set_ 3 _).set_ 4 _
      · have hne : w2.heap.size ≠ p := by omega
        exact DirAt.keep (w := w3) HM.out (by rw [Below.heap_setCell _ _ _ _ hne, Below.heap_setCell _ _ _ _ hne])
    · exact ((HC.out.below HB3.out hs2).setCell (p := ⟨p, 3, none⟩) (.inl H.out.own) _).setCell (p := ⟨p, 4, none⟩) (.inl H.out.own) _
  · have hq : (why != 0) = true := by simp [hwy]
    have HWY := Lib.hid hwy
    clear hwy
    go_wp2
    refine bodyPost_ret (results_tmp rfl _ _ _) rfl ?_
    exact ⟨v, _, by rw [HK.out]; rfl, HD.out, HC.out, .inl ⟨by rw [HK.out]; exact HWY.out, rfl⟩⟩
end Go.Proofs.Ytfeglchngekedaa
namespace Go.Proofs.Ytfeglchngekedaa
open Go.RowKit Go.Shelf Go.Maps

/-- what is read: the bytes and the refusal -/
def readS (s : DS) (nm : ByteArray) : List UInt8 × Int :=
  if rightB nm then (match dget s.names nm.data.toList with | none => ([], 3) | some g => (s.bytes g, 0)) else ([], 2)
def ReadPost (w : World) (s : DS) (nm : ByteArray) (e : Ending) (w' : World) : Prop :=
  ∃ v, e = .returned (.tuple #[v, .int .i64 (readS s nm).2]) ∧ w'.ownsRow w.heap.size 5 1 v (readS s nm).1.length (bytesV (readS s nm).1) ∧ Below w.heap.size w w'

set_option maxRecDepth 100000 in
set_option maxHeartbeats 3200000 in
theorem read_any (w : World) (F : Nat → Prop) (p : Nat) (s : DS) (nm : ByteArray) (h : DiskAt w F p s) (hnm : nm.size ≤ 9223372036854775807) (hnm2 : nm.size ≤ maxLen) (ho : s.ops ≤ 1000000) :
    Calls Try.prog 14 #[.pointer (some ⟨p, 0, none⟩), .string nm] w (ReadPost w s nm) := by
  obtain ⟨i0, hi, hz0, hz1, hz2⟩ := info_parts info5
  have HI := Lib.hid hi
  have HZ0 := Lib.hid hz0
  have HZ1 := Lib.hid hz1
  have HZ2 := Lib.hid hz2
  have hp := h.lt
  have H := Lib.hid h
  clear h hi hz0 hz1 hz2
  go_enter Try.func14, Try.ntmps14
  go_wp2_with fail
  refine (right_any nm w hnm).mono ?_
  rintro e w1 ⟨rfl, q, hw1⟩
  have hD1 : DiskAt w1 F p s := by rw [hw1]; exact H.out.drewN q
  have hB1 : Below w.heap.size w w1 := by rw [hw1]; exact below_drewN (Below.refl _ _) q
  have hs1 : w1.heap.size = w.heap.size := by rw [hw1]; rfl
  have HD := Lib.hid hD1
  have HB := Lib.hid hB1
  clear hw1 hD1 hB1
  cases hrt : rightB nm with
  | false =>
    have HRT := Lib.hid hrt
    clear hrt
    go_wp2
    go_ret2
    have e : readS s nm = ([], 2) := by unfold readS; rw [HRT.out]; rfl
    unfold ReadPost
    rw [e]
    exact ⟨_, rfl, World.ownsRow_nil _ _ _ _, HB.out⟩
  | true =>
    have HRT := Lib.hid hrt
    clear hrt
    have hlook : (Instr.lookup 64 (.map (some s.mn)) (.string nm) false).run Try.prog w1 = .ok (ptrV (dget s.names nm.data.toList)) w1 := HD.out.names.look nm hnm2
    have c2 : w1.cell? ⟨p, 2, none⟩ = some (.map (some s.mn)) := HD.out.blk.cell 2
    cases hd : dget s.names nm.data.toList with
    | none =>
      rw [hd] at hlook
      simp only [ptrV] at hlook
      have HDG := Lib.hid hd
      clear hd
      go_wp2
      go_ret2
      have e : readS s nm = ([], 3) := by unfold readS; rw [HRT.out, HDG.out]; rfl
      unfold ReadPost
      rw [e]
      exact ⟨_, rfl, World.ownsRow_nil _ _ _ _, HB.out⟩
    | some g =>
      rw [hd] at hlook
      simp only [ptrV] at hlook
      have fg := HD.out.file g (.inl ⟨_, dget_mem hd, rfl⟩)
      obtain ⟨A0, d0, hraw⟩ := own_slice fg.row
      have q0 : w1.cell? ⟨g, 0, none⟩ = some (.slice A0 (s.bytes g).length d0) := (fg.blk.cell 0).trans (congrArg some hraw)
      have hr := fg.row
      rw [hraw] at hr
      have HR := Lib.hid (Reads.of_own hr)
      have hlen := fg.len
      have HDG := Lib.hid hd
      clear hd fg hraw hr
      go_wp2_with (at_builtin; go_loud (refine wpList_append_any _ rfl (.const (.slice none 0 0)) (.tmp 21) 22 rfl w.heap.size 5 i0 (.int .u8 0) 1 1 Try.underlying22 HI.out HZ0.out HZ1.out HZ2.out rfl (by omega) (.slice none 0 0) 0 [] rfl (World.ownsRow_nil _ _ _ _) w1.heap.size A0 (s.bytes g).length d0 (bytesV (s.bytes g)) rfl HR.out (bytesV_one _) (by simp [maxLen]; omega) (by omega) (by omega) ?_; intro v4 w4 hown4 hgrow4 _; have HW4 := Lib.hid hown4; have HG4 := Lib.hid hgrow4; clear hown4 hgrow4))
      go_ret2
      have e : readS s nm = (s.bytes g, 0) := by unfold readS; rw [HRT.out, HDG.out]; rfl
      unfold ReadPost
      rw [e]
      refine ⟨v4, rfl, ?_, HB.out.grown HG4.out (by omega) (fun k hk => by simp [Value.ownBlock] at hk)⟩
      have := HW4.out
      rwa [Nat.zero_add, List.nil_append] at this
end Go.Proofs.Ytfeglchngekedaa
namespace Go.Proofs.Ytfeglchngekedaa
open Go.RowKit Go.Shelf Go.Maps

/-- a name, as bytes of the language's own -/
def nmB (s : Nm) : ByteArray := ⟨s.toArray⟩
theorem nmB_list (s : Nm) : (nmB s).data.toList = s := by simp [nmB]
theorem nmB_size (s : Nm) : (nmB s).size = s.length := by show s.toArray.size = _; simp
theorem nmB_empty {s : Nm} (h : s ≠ []) : (nmB s).toList.isEmpty = false := by
  rw [ByteArray.toList_eq, nmB_list, List.isEmpty_eq_false_iff]; exact h

set_option maxRecDepth 100000 in
set_option maxHeartbeats 3200000 in
theorem do_some (w : World) (b : Nat) (l : Dl) (fr nm : Nm) (g : Nat) (hd : DirAt w b l.length l) (hn : nmOk nm) (hl : l.length ≤ 10000000) (hne : nm ≠ []) :
    Calls Try.prog 37 #[.agg #[.string (nmB fr), .string (nmB nm), .pointer (some ⟨g, 0, none⟩)], .map (some b)] w fun e w' => e = .returned (.tuple #[]) ∧ DirAt w' b (dput l nm g).length (dput l nm g) ∧ w.grownBy w' (some b) := by
  have e1 := nmB_empty hne
  have e2 : (!(nmB nm).toList.isEmpty) = true := by rw [e1]; rfl
  have hbl := hd.lt
  have hk : keyOf Try.prog 9 (.string (nmB nm)) = some (.string nm) := by have := key_nm (nmB nm) (by rw [nmB_size]; simp [maxLen]; unfold nmOk at hn; omega); rwa [nmB_list] at this
  have HK := Lib.hid hk
  have HD := Lib.hid hd
  clear hk hd
  go_enter Try.func37, Try.ntmps37
  go_wp2_with (at_mapUpdate; refine wpList_mapUpdate_own _ rfl _ _ _ 64 rfl 9 71 law9 Try.underlying64 ptrElem b l.length (dirD l) rfl (HD.out.alloc _) (by simp [maxLen]; omega) _ _ (.string nm) rfl rfl HK.out (.lit (.int .i64 (g : Int))) [] rfl ?_; intro w4 hown4 hgrow4; have HO := Lib.hid hown4; have HG := Lib.hid hgrow4; clear hown4 hgrow4)
  go_end0
  refine ⟨rfl, ?_, only_trans (only_alloc (only_refl w (some b)) _) HG.out⟩
  have := HO.out
  rw [dirD_put] at this
  exact DirAt.tight this

set_option maxRecDepth 100000 in
set_option maxHeartbeats 3200000 in
theorem do_idle (w : World) (b : Nat) (l : Dl) (fr : Nm) (g : Nat) (hd : DirAt w b l.length l) :
    Calls Try.prog 37 #[.agg #[.string (nmB fr), .string (nmB []), .pointer (some ⟨g, 0, none⟩)], .map (some b)] w fun e w' => e = .returned (.tuple #[]) ∧ DirAt w' b l.length l ∧ w.grownBy w' (some b) := by
  have hbl := hd.lt
  have HD := Lib.hid hd
  rw [show nmB [] = ({ data := #[] } : ByteArray) from rfl]
  clear hd
  go_enter Try.func37, Try.ntmps37
  go_wp2
  go_end0
  exact ⟨rfl, HD.out.keep (Below.heap_alloc _ _ _ hbl), only_alloc (only_refl w (some b)) _⟩

set_option maxRecDepth 100000 in
set_option maxHeartbeats 3200000 in
theorem do_remove (w : World) (b : Nat) (l : Dl) (fr : Nm) (hd : DirAt w b l.length l) (hn : nmOk fr) :
    Calls Try.prog 37 #[.agg #[.string (nmB fr), .string (nmB []), .pointer none], .map (some b)] w fun e w' => e = .returned (.tuple #[]) ∧ DirAt w' b (ddel l fr).length (ddel l fr) ∧ w.grownBy w' (some b) := by
  have hbl := hd.lt
  have hfz : (nmB fr).size ≤ maxLen := by rw [nmB_size]; simp [maxLen]; unfold nmOk at hn; omega
  have hk : keyOf Try.prog 9 (.string (nmB fr)) = some (.string fr) := by have := key_nm (nmB fr) hfz; rwa [nmB_list] at this
  have HK := Lib.hid hk
  have HD := Lib.hid hd
  have hd1 : DirAt (w.alloc (.cells #[.string (nmB fr), .string ({ data := #[] } : ByteArray), .pointer none] 75)) b l.length l := hd.keep (Below.heap_alloc _ _ _ hbl)
  have hlook := hd1.look (nmB fr) hfz
  have HD1 := Lib.hid hd1
  rw [show nmB [] = ({ data := #[] } : ByteArray) from rfl]
  clear hk hd hd1
  cases hg : dget l (nmB fr).data.toList with
  | none =>
    rw [hg] at hlook
    simp only [ptrV] at hlook
    clear hg
    go_enter Try.func37, Try.ntmps37
    go_wp2_with (at_delete; refine wpList_delete_own _ rfl _ _ 64 9 rfl 71 law9 Try.underlying64 ptrElem b l.length (dirD l) rfl HD1.out _ (.string fr) rfl HK.out ?_; intro w4 hown4 hturn4; have hg4 := hturn4.grown; have x1 : w4.cell? ⟨w.heap.size, 1, none⟩ = some (.string ({ data := #[] } : ByteArray)) := ((Blk.new w 75 #[.string (nmB fr), .string ({ data := #[] } : ByteArray), .pointer none]).grown hg4 (by simp; omega)).cell 1; have HO := Lib.hid hown4; have HG := Lib.hid hg4; clear hown4 hturn4 hg4)
    go_end0
    refine ⟨rfl, ?_, only_trans (only_alloc (only_refl w (some b)) _) HG.out⟩
    have := HO.out
    rw [dirD_del] at this
    exact DirAt.tight this
  | some g =>
    rw [hg] at hlook
    simp only [ptrV] at hlook
    clear hg
    go_enter Try.func37, Try.ntmps37
    go_wp2_with (at_delete; refine wpList_delete_own _ rfl _ _ 64 9 rfl 71 law9 Try.underlying64 ptrElem b l.length (dirD l) rfl HD1.out _ (.string fr) rfl HK.out ?_; intro w4 hown4 hturn4; have hg4 := hturn4.grown; have x1 : w4.cell? ⟨w.heap.size, 1, none⟩ = some (.string ({ data := #[] } : ByteArray)) := ((Blk.new w 75 #[.string (nmB fr), .string ({ data := #[] } : ByteArray), .pointer none]).grown hg4 (by simp; omega)).cell 1; have HO := Lib.hid hown4; have HG := Lib.hid hg4; clear hown4 hturn4 hg4)
    go_end0
    refine ⟨rfl, ?_, only_trans (only_alloc (only_refl w (some b)) _) HG.out⟩
    have := HO.out
    rw [dirD_del] at this
    exact DirAt.tight this

set_option maxRecDepth 100000 in
set_option maxHeartbeats 3200000 in
theorem do_rename (w : World) (b : Nat) (l : Dl) (fr nm : Nm) (g : Nat) (hd : DirAt w b l.length l) (hf : nmOk fr) (hn : nmOk nm) (hl : l.length ≤ 10000000) (hne : nm ≠ []) (hg : dget l fr = some g) :
    Calls Try.prog 37 #[.agg #[.string (nmB fr), .string (nmB nm), .pointer none], .map (some b)] w fun e w' => e = .returned (.tuple #[]) ∧ DirAt w' b (dput (ddel l fr) nm g).length (dput (ddel l fr) nm g) ∧ w.grownBy w' (some b) := by
  have e1 := nmB_empty hne
  have e2 : (!(nmB nm).toList.isEmpty) = true := by rw [e1]; rfl
  have hbl := hd.lt
  have hfz : (nmB fr).size ≤ maxLen := by rw [nmB_size]; simp [maxLen]; unfold nmOk at hf; omega
  have hk : keyOf Try.prog 9 (.string (nmB fr)) = some (.string fr) := by have := key_nm (nmB fr) hfz; rwa [nmB_list] at this
  have hk2 : keyOf Try.prog 9 (.string (nmB nm)) = some (.string nm) := by have := key_nm (nmB nm) (by rw [nmB_size]; simp [maxLen]; unfold nmOk at hn; omega); rwa [nmB_list] at this
  have HK := Lib.hid hk
  have HK2 := Lib.hid hk2
  have hd1 : DirAt (w.alloc (.cells #[.string (nmB fr), .string (nmB nm), .pointer none] 75)) b l.length l := hd.keep (Below.heap_alloc _ _ _ hbl)
  have hlook := hd1.look (nmB fr) hfz
  rw [nmB_list, hg] at hlook
  simp only [ptrV] at hlook
  have HD1 := Lib.hid hd1
  clear hk hk2 hd hd1 hg
  go_enter Try.func37, Try.ntmps37
  go_wp2_with (first
    | (at_delete; refine wpList_delete_own _ rfl _ _ 64 9 rfl 71 law9 Try.underlying64 ptrElem b l.length (dirD l) rfl HD1.out _ (.string fr) rfl HK.out ?_; intro w4 hown4 hturn4; have hg4 := hturn4.grown; have x1 : w4.cell? ⟨w.heap.size, 1, none⟩ = some (.string (nmB nm)) := ((Blk.new w 75 #[.string (nmB fr), .string (nmB nm), .pointer none]).grown hg4 (by simp; omega)).cell 1; have HO := Lib.hid hown4; have HG := Lib.hid hg4; clear hown4 hturn4 hg4)
    | (at_mapUpdate; refine wpList_mapUpdate_own _ rfl _ _ _ 64 rfl 9 71 law9 Try.underlying64 ptrElem b l.length ((dirD l).del (.string fr)) rfl HO.out (by simp [maxLen]; omega) _ _ (.string nm) rfl rfl HK2.out (.lit (.int .i64 (g : Int))) [] rfl ?_; intro w5 hown5 hgrow5; have HO5 := Lib.hid hown5; have HG5 := Lib.hid hgrow5; clear hown5 hgrow5))
  go_end0
  refine ⟨rfl, ?_, only_trans (only_trans (only_alloc (only_refl w (some b)) _) HG.out) HG5.out⟩
  have := HO5.out
  rw [dirD_del, dirD_put] at this
  exact DirAt.tight this

/-- a change is done to a directory -/
theorem do_any (w : World) (b : Nat) (l : Dl) (c : Ch) (hd : DirAt w b l.length l) (hf : nmOk c.from_) (hn : nmOk c.name) (hl : l.length ≤ 10000000) (hok : okC l c) :
    Calls Try.prog 37 #[.agg #[nmV c.from_, nmV c.name, ptrV c.file], .map (some b)] w fun e w' => e = .returned (.tuple #[]) ∧ DirAt w' b (doL l c).length (doL l c) ∧ w.grownBy w' (some b) := by
  obtain ⟨fr, nm, fl⟩ := c
  cases fl with
  | some g =>
    by_cases hne : nm = []
    · subst hne
      exact do_idle w b l fr g hd
    · have e : doL l ⟨fr, nm, some g⟩ = dput l nm g := by unfold doL; simp [hne]
      rw [e]
      exact do_some w b l fr nm g hd hn hl hne
  | none =>
    by_cases hne : nm = []
    · subst hne
      exact do_remove w b l fr hd hf
    · have h1 := hok rfl hne
      cases hg : dget l fr with
      | none => simp only at h1; rw [hg] at h1; cases h1
      | some g =>
        have e : doL l ⟨fr, nm, none⟩ = dput (ddel l fr) nm g := by unfold doL; simp [hne, hg]
        rw [e]
        exact do_rename w b l fr nm g hd hf hn hl hne hg
end Go.Proofs.Ytfeglchngekedaa
namespace Go.Proofs.Ytfeglchngekedaa
open Go.RowKit Go.Shelf Go.Maps

theorem ret_int {a b : Int} (h : a = b) : Ending.returned (.int .i64 a) = Ending.returned (.int .i64 b) := by rw [h]
/-- a cutter over the numbers cs, in block g; they lie below block B -/
def CutAt (w : World) (B g : Nat) (cs : List Int) : Prop :=
  ∃ A c, Blk w g 77 #[.slice A cs.length c] ∧ cs.length ≤ c ∧ Reads w B 1 A cs.length (cs.map (Value.int .i64)) ∧ B ≤ g
def nextK (cs : List Int) (most : Int) : Int := match cs with
  | [] => 0
  | c :: _ => c % (most + 1)
theorem nextK_bd (cs : List Int) (most : Int) (h : 0 ≤ most) : 0 ≤ nextK cs most ∧ nextK cs most ≤ most := by
  unfold nextK
  split
  · omega
  · rename_i c _
    have h1 := Int.emod_lt_of_pos c (show 0 < most + 1 by omega)
    have h2 := Int.emod_nonneg c (show most + 1 ≠ 0 by omega)
    omega
theorem rem_facts (c b : Int) (hb : 1 ≤ b) : -b < c.tmod b ∧ c.tmod b < b ∧ (c.tmod b < 0 → c % b = c.tmod b + b) ∧ (0 ≤ c.tmod b → c % b = c.tmod b) := by
  have h1 := Int.tmod_lt_of_pos c (show 0 < b by omega)
  have h2 := Int.lt_tmod_of_pos c (show 0 < b by omega)
  refine ⟨h2, h1, fun h => ?_, fun h => ?_⟩
  · have h5 := Int.tmod_add_mul_tdiv c b
    have e : (c.tmod b + b) + b * (c.tdiv b - 1) = c := by rw [Int.mul_sub]; omega
    have e2 : c % b = ((c.tmod b + b) + b * (c.tdiv b - 1)) % b := by rw [e]
    rw [e2, Int.add_mul_emod_self_left, Int.emod_eq_of_lt (by omega) (by omega)]
  · have h5 := Int.tmod_add_mul_tdiv c b
    have e : c = c.tmod b + b * c.tdiv b := by omega
    have e2 : c % b = (c.tmod b + b * c.tdiv b) % b := by rw [← e]
    rw [e2, Int.add_mul_emod_self_left, Int.emod_eq_of_lt h h1]
theorem CutAt.grown {w w' : World} {B g : Nat} {cs : List Int} (h : CutAt w B g cs) {row : Option Nat} (hg : w.grownBy w' row) (hr : ∀ k, row = some k → B ≤ k ∧ k ≠ g) : CutAt w' B g cs := by
  obtain ⟨A, c, hb, hc, hR, hB⟩ := h
  refine ⟨A, c, hb.grown hg (fun e => (hr g e.symm).2 rfl), hc, ?_, hB⟩
  exact hR.grown hg (Nat.le_trans hB (Nat.le_of_lt hb.lt)) (fun k hk => (hr k hk).1)
theorem CutAt.below {w w' : World} {B g : Nat} {cs : List Int} (h : CutAt w B g cs) (hb : Below w.heap.size w w') : CutAt w' B g cs := h.grown (only_of_below hb none) (fun _ e => by cases e)
theorem CutAt.drewN {w : World} {B g : Nat} {cs : List Int} (h : CutAt w B g cs) (n : Nat) : CutAt (w.drewN n) B g cs := h
theorem CutAt.lt {w : World} {B g : Nat} {cs : List Int} (h : CutAt w B g cs) : g < w.heap.size := by obtain ⟨_, _, hb, _⟩ := h; exact hb.lt

set_option maxRecDepth 100000 in
set_option maxHeartbeats 3200000 in
theorem next_any (w : World) (B g : Nat) (cs : List Int) (most : Int) (h : CutAt w B g cs) (hm : 0 ≤ most) (hm2 : most ≤ 1000000000000) :
    Calls Try.prog 36 #[.pointer (some ⟨g, 0, none⟩), .int .i64 most] w fun e w' => e = .returned (.int .i64 (nextK cs most)) ∧ CutAt w' B g cs.tail ∧ w.grownBy w' (some g) := by
  obtain ⟨A, c, hb, hc, hR, hB⟩ := h
  have c0 : w.cell? ⟨g, 0, none⟩ = some (.slice A cs.length c) := hb.cell 0
  have f0 := hb.frozen 0
  have HBK := Lib.hid hb
  have HR := Lib.hid hR
  cases cs with
  | nil =>
    simp only [List.length_nil] at c0
    clear hb hR
    go_enter Try.func36, Try.ntmps36
    go_wp2
    go_ret
    exact ⟨rfl, ⟨A, c, HBK.out, hc, HR.out, hB⟩, only_refl _ _⟩
  | cons x r =>
    obtain ⟨⟨ga, oa, sa⟩, rfl, hga, hcell⟩ := hR.2 (by simp)
    have d0 : w.cell? ⟨ga, oa, sa⟩ = some (.int .i64 x) := by
      have := hcell 0 (.int .i64 x) rfl
      simpa [Addr.add] using this
    have HF := Lib.hid (rem_facts x (most + 1) (by omega))
    have hne : most + 1 ≠ 0 := by omega
    obtain ⟨k, hk⟩ : ∃ k, k = nextK (x :: r) most := ⟨_, rfl⟩
    have HK := Lib.hid (show k = x % (most + 1) from hk)
    rw [← hk]
    obtain ⟨n, hn⟩ : ∃ n, n = (x :: r).length := ⟨_, rfl⟩
    have hn1 : n = r.length + 1 := by rw [hn]; simp
    rw [← hn] at c0 hc
    have HN := Lib.hid hn1
    have hn0 : 1 ≤ n := by omega
    clear hb hR hcell hk hn hn1
    by_cases hc1 : c = 1
    · subst hc1
      obtain rfl : n = 1 := by omega
      obtain rfl : r = [] := List.eq_nil_of_length_eq_zero (by have := HN.out; omega)
      go_enter Try.func36, Try.ntmps36
      go_wp2
      all_goals
        refine bodyPost_ret (results_tmp rfl _ _ _) rfl ?_
        refine ⟨?_, ?_, ?_⟩
        · have h2 := HK.out
          obtain ⟨r1, r2, r3, r4⟩ := HF.out
          refine ret_int ?_
          generalize x.tmod (most + 1) = m at *
          generalize x % (most + 1) = j at *
          try unfold wrap64
          first
            | (have r5 := r3 (by omega); omega)
            | (have r5 := r4 (by omega); omega)
        · exact ⟨_, 0, HBK.out.set_ 0 _, Nat.le_refl _, ⟨rfl, fun h => absurd h (by simp)⟩, hB⟩
        · exact only_setCell (only_refl w (some g)) (.inl rfl) _
    · have hl : (x :: r).length - 1 = r.length := by simp
      have hl2 : n - 1 = r.length := by have := HN.out; omega
      have hcut := HR.out.cut (k := 1) (cap := c) (by simp) (by have := HN.out; simp; omega)
      rw [if_neg hc1, hl] at hcut
      have HCUT := Lib.hid hcut
      have HL2 := Lib.hid hl2
      clear hl hl2 hcut
      go_enter Try.func36, Try.ntmps36
      go_wp2
      all_goals
        refine bodyPost_ret (results_tmp rfl _ _ _) rfl ?_
        refine ⟨?_, ?_, ?_⟩
        · have h2 := HK.out
          obtain ⟨r1, r2, r3, r4⟩ := HF.out
          refine ret_int ?_
          generalize x.tmod (most + 1) = m at *
          generalize x % (most + 1) = j at *
          try unfold wrap64
          first
            | (have r5 := r3 (by omega); omega)
            | (have r5 := r4 (by omega); omega)
        · refine ⟨_, c - 1, by have hb := HBK.out.set_ 0 (.slice (some ⟨ga, oa + 1, none⟩) (n - 1) (c - 1)); rw [← HL2.out]; exact hb, by have := HL2.out; omega, ?_, hB⟩
          have h3 := HCUT.out.setCell (p := ⟨g, 0, none⟩) hB (.slice (some ⟨ga, oa + 1, none⟩) (n - 1) (c - 1))
          simpa [Addr.add] using h3
        · exact only_setCell (only_refl w (some g)) (.inl rfl) _
end Go.Proofs.Ytfeglchngekedaa
