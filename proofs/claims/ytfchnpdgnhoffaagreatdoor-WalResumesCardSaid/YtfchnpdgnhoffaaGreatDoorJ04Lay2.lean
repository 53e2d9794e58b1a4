/- The contracts of the library on maps.Clone and slices.Sorted over maps.Keys at this program, in plain declarations (printed by the kit's lay-plain and lay-iter tools). The walks of (*Disk).Sync and (*Disk).SyncDir. The walk of (*Disk).Read. The walks of (change).do and of (*cutter).next. The walk of (*cutter).next. -/
import Derived.Shelf.SlMaps.Clone
import Derived.Ground.SlmcProg
import Derived.Shelf.SlIter.Nil
import Derived.Shelf.SortM.Plain
import Derived.Shelf.SortM.SortNone
import Derived.Ground.GgzProg
import Derived.Ground.SlgmProg
import Derived.Test.YtfchnpdgnhoffaaGreatDoorProg
import Derived.Test.YtfchnpdgnhoffaaGreatDoorJ03Create
namespace Go.Proofs
open Go.Shelf
def Tryz.cloneM_ren : Go.Shelf.Ren := ⟨fun | 5 => 32 | 7 => 59 | n => n, fun | 23 => 63 | 25 => 9 | 3 => 74 | 4 => 4 | 20 => 20 | n => n, fun | n => n⟩
theorem Tryz.cloneM : Go.Proofs.SlLaysW.n5 Tryz.prog Tryz.cloneM_ren := {
  mixed := by kernel_rfl
  f5 := ⟨Tryz.f32.name, by decide, Tryz.func32.trans (congrArg some (by kernel_rfl))⟩
  f7 := Tryz.func59.trans (congrArg some (by kernel_rfl))
  t4 := Tryz.underlying4
  a4 := Tryz.isAgg4
  z4 := Tryz.sizeOf4
  v4 := Tryz.zeroValue4
  t20 := Tryz.underlying20
  a20 := Tryz.isAgg20
  z20 := Tryz.sizeOf20
  v20 := Tryz.zeroValue20
  t23 := Tryz.underlying63
  a23 := Tryz.isAgg63
  z23 := Tryz.sizeOf63
  v23 := Tryz.zeroValue63 }
def Tryz.keys39_ren : Go.Shelf.Ren := ⟨fun | 7 => 36 | 10 => 62 | n => n, fun | 23 => 63 | 26 => 9 | 3 => 74 | 28 => 82 | 0 => 0 | 27 => 81 | 33 => 104 | 4 => 4 | n => n, fun | n => n⟩
theorem Tryz.keys39 : Go.Proofs.SlLaysZ.n7 Tryz.prog Tryz.keys39_ren := {
  mixed := by kernel_rfl
  f7 := ⟨Tryz.f36.name, by decide, Tryz.func36.trans (congrArg some (by kernel_rfl))⟩
  f10 := ⟨Tryz.f62.name, by decide, Tryz.func62.trans (congrArg some (by kernel_rfl))⟩
  t0 := Tryz.underlying0
  a0 := Tryz.isAgg0
  z0 := Tryz.sizeOf0
  v0 := Tryz.zeroValue0
  t4 := Tryz.underlying4
  a4 := Tryz.isAgg4
  z4 := Tryz.sizeOf4
  v4 := Tryz.zeroValue4
  t23 := Tryz.underlying63
  a23 := Tryz.isAgg63
  z23 := Tryz.sizeOf63
  v23 := Tryz.zeroValue63
  t26 := Tryz.underlying9
  a26 := Tryz.isAgg9
  z26 := Tryz.sizeOf9
  v26 := Tryz.zeroValue9
  t27 := Tryz.underlying81
  a27 := Tryz.isAgg81
  z27 := Tryz.sizeOf81
  v27 := Tryz.zeroValue81
  t28 := Tryz.underlying82
  a28 := Tryz.isAgg82
  z28 := Tryz.sizeOf82
  v28 := Tryz.zeroValue82
  t33 := Tryz.underlying104
  a33 := Tryz.isAgg104
  z33 := Tryz.sizeOf104
  v33 := Tryz.zeroValue104 }
def Tryz.sorted38_ren : Go.Shelf.Ren := ⟨fun | 6 => 35 | 8 => 60 | 9 => 61 | 11 => 78 | 13 => 80 | 12 => 79 | 23 => 104 | 24 => 105 | 14 => 95 | 15 => 96 | 16 => 97 | 17 => 98 | 18 => 99 | 19 => 100 | 20 => 101 | 21 => 102 | 22 => 103 | 25 => 125 | 26 => 126 | 27 => 127 | 28 => 128 | 29 => 129 | 30 => 130 | 31 => 150 | n => n, fun | 26 => 9 | 28 => 82 | 24 => 79 | 0 => 0 | 3 => 3 | 37 => 125 | 48 => 119 | 50 => 151 | 4 => 4 | 40 => 144 | 39 => 143 | 45 => 105 | 5 => 5 | 9 => 9 | 51 => 167 | 55 => 171 | 57 => 191 | 58 => 192 | 33 => 104 | n => n, fun | n => n⟩
theorem Tryz.sorted38 : Go.Proofs.SlLaysZ.n6 Tryz.prog Tryz.sorted38_ren := {
  mixed := by kernel_rfl
  f6 := ⟨Tryz.f35.name, by decide, Tryz.func35.trans (congrArg some (by kernel_rfl))⟩
  f8 := ⟨Tryz.f60.name, by decide, Tryz.func60.trans (congrArg some (by kernel_rfl))⟩
  f11 := ⟨Tryz.f78.name, by decide, Tryz.func78.trans (congrArg some (by kernel_rfl))⟩
  t0 := Tryz.underlying0
  a0 := Tryz.isAgg0
  z0 := Tryz.sizeOf0
  v0 := Tryz.zeroValue0
  t24 := Tryz.underlying79
  a24 := Tryz.isAgg79
  z24 := Tryz.sizeOf79
  v24 := Tryz.zeroValue79
  t26 := Tryz.underlying9
  a26 := Tryz.isAgg9
  z26 := Tryz.sizeOf9
  v26 := Tryz.zeroValue9
  t28 := Tryz.underlying82
  a28 := Tryz.isAgg82
  z28 := Tryz.sizeOf82
  v28 := Tryz.zeroValue82
  i26 := by kernel_rfl }
def Tryz.sort56_ren : Go.Shelf.Ren := ⟨fun | 6 => 61 | 8 => 80 | 9 => 79 | 19 => 104 | 20 => 105 | 21 => 95 | 22 => 96 | 23 => 97 | 24 => 98 | 25 => 99 | 26 => 100 | 27 => 101 | 28 => 102 | 29 => 103 | 36 => 125 | 31 => 126 | 32 => 127 | 37 => 128 | 38 => 129 | 39 => 130 | 41 => 150 | n => n, fun | 27 => 79 | 29 => 9 | 3 => 3 | 32 => 125 | 26 => 79 | 0 => 0 | 44 => 119 | 46 => 151 | 4 => 4 | 36 => 144 | 35 => 143 | 41 => 105 | 5 => 5 | 9 => 9 | 53 => 167 | 57 => 171 | 63 => 191 | 64 => 192 | n => n, fun | n => n⟩
theorem Tryz.sort56 : Go.Proofs.SlLaysM.n6 Tryz.prog Tryz.sort56_ren := {
  mixed := by kernel_rfl
  f6 := ⟨Tryz.f61.name, by decide, Tryz.func61.trans (congrArg some (by kernel_rfl))⟩
  f8 := Tryz.func80.trans (congrArg some (by kernel_rfl))
  f9 := ⟨Tryz.f79.name, by decide, Tryz.func79.trans (congrArg some (by kernel_rfl))⟩
  f19 := Tryz.func104.trans (congrArg some (by kernel_rfl))
  f20 := Tryz.func105.trans (congrArg some (by kernel_rfl))
  f21 := ⟨Tryz.f95.name, by decide, Tryz.func95.trans (congrArg some (by kernel_rfl))⟩
  f22 := ⟨Tryz.f96.name, by decide, Tryz.func96.trans (congrArg some (by kernel_rfl))⟩
  f23 := ⟨Tryz.f97.name, by decide, Tryz.func97.trans (congrArg some (by kernel_rfl))⟩
  f24 := ⟨Tryz.f98.name, by decide, Tryz.func98.trans (congrArg some (by kernel_rfl))⟩
  f25 := ⟨Tryz.f99.name, by decide, Tryz.func99.trans (congrArg some (by kernel_rfl))⟩
  f26 := ⟨Tryz.f100.name, by decide, Tryz.func100.trans (congrArg some (by kernel_rfl))⟩
  f27 := ⟨Tryz.f101.name, by decide, Tryz.func101.trans (congrArg some (by kernel_rfl))⟩
  f28 := ⟨Tryz.f102.name, by decide, Tryz.func102.trans (congrArg some (by kernel_rfl))⟩
  f29 := ⟨Tryz.f103.name, by decide, Tryz.func103.trans (congrArg some (by kernel_rfl))⟩
  f31 := Tryz.func126.trans (congrArg some (by kernel_rfl))
  f32 := Tryz.func127.trans (congrArg some (by kernel_rfl))
  f36 := ⟨Tryz.f125.name, by decide, Tryz.func125.trans (congrArg some (by kernel_rfl))⟩
  f37 := ⟨Tryz.f128.name, by decide, Tryz.func128.trans (congrArg some (by kernel_rfl))⟩
  f38 := ⟨Tryz.f129.name, by decide, Tryz.func129.trans (congrArg some (by kernel_rfl))⟩
  f39 := ⟨Tryz.f130.name, by decide, Tryz.func130.trans (congrArg some (by kernel_rfl))⟩
  f41 := ⟨Tryz.f150.name, by decide, Tryz.func150.trans (congrArg some (by kernel_rfl))⟩
  t0 := Tryz.underlying0
  a0 := Tryz.isAgg0
  z0 := Tryz.sizeOf0
  v0 := Tryz.zeroValue0
  t3 := Tryz.underlying3
  a3 := Tryz.isAgg3
  z3 := Tryz.sizeOf3
  v3 := Tryz.zeroValue3
  t4 := Tryz.underlying4
  a4 := Tryz.isAgg4
  z4 := Tryz.sizeOf4
  v4 := Tryz.zeroValue4
  t5 := Tryz.underlying5
  a5 := Tryz.isAgg5
  z5 := Tryz.sizeOf5
  v5 := Tryz.zeroValue5
  t9 := Tryz.underlying9
  a9 := Tryz.isAgg9
  z9 := Tryz.sizeOf9
  v9 := Tryz.zeroValue9
  t26 := Tryz.underlying79
  a26 := Tryz.isAgg79
  z26 := Tryz.sizeOf79
  v26 := Tryz.zeroValue79
  t27 := Tryz.underlying79
  a27 := Tryz.isAgg79
  z27 := Tryz.sizeOf79
  v27 := Tryz.zeroValue79
  t29 := Tryz.underlying9
  a29 := Tryz.isAgg9
  z29 := Tryz.sizeOf9
  v29 := Tryz.zeroValue9
  t32 := Tryz.underlying125
  a32 := Tryz.isAgg125
  z32 := Tryz.sizeOf125
  v32 := Tryz.zeroValue125
  t35 := Tryz.underlying143
  a35 := Tryz.isAgg143
  z35 := Tryz.sizeOf143
  v35 := Tryz.zeroValue143
  t36 := Tryz.underlying144
  a36 := Tryz.isAgg144
  z36 := Tryz.sizeOf144
  v36 := Tryz.zeroValue144
  t41 := Tryz.underlying105
  a41 := Tryz.isAgg105
  z41 := Tryz.sizeOf105
  v41 := Tryz.zeroValue105
  t44 := Tryz.underlying119
  a44 := Tryz.isAgg119
  z44 := Tryz.sizeOf119
  v44 := Tryz.zeroValue119
  t46 := Tryz.underlying151
  a46 := Tryz.isAgg151
  z46 := Tryz.sizeOf151
  v46 := Tryz.zeroValue151
  t53 := Tryz.underlying167
  a53 := Tryz.isAgg167
  z53 := Tryz.sizeOf167
  v53 := Tryz.zeroValue167
  t57 := Tryz.underlying171
  a57 := Tryz.isAgg171
  z57 := Tryz.sizeOf171
  v57 := Tryz.zeroValue171
  t63 := Tryz.underlying191
  a63 := Tryz.isAgg191
  z63 := Tryz.sizeOf191
  v63 := Tryz.zeroValue191
  t64 := Tryz.underlying192
  a64 := Tryz.isAgg192
  z64 := Tryz.sizeOf192
  v64 := Tryz.zeroValue192 }
section
open Go.RowKit Go.Maps Go.Sort
theorem Tryz.sorts38 (m : Nat) : AnyZ.SortsIn Tryz.prog Tryz.sorted38_ren Fence.wide m :=
  ⟨fun blk off cap ss W hH hblk hsz => callsIn_wide.2 (AnyM.slices_Sort_string Tryz.sort56 blk off cap ss W hH hblk hsz),
   fun p cap W => callsIn_wide.2 (AnyM.slices_Sort_string_none Tryz.sort56 p cap W)⟩

theorem Tryz.maps_Keys_36 (mb : Option Nat) (W : World) : CallsIn Fence.wide 5 Tryz.prog 36 #[.map mb] W fun e w' => e = .returned (.func (.func 62) #[] #[.pointer (some ⟨W.heap.size, 0, none⟩)]) ∧ w' = W.alloc (.cells #[.map mb] 63) :=
  AnyZ.keys_in Tryz.keys39 Fence.wide 5 trivial rfl mb W

set_option maxRecDepth 20000 in
set_option maxHeartbeats 1000000 in
theorem Tryz.slices_Sorted_keys_38_39 {H : Type} (b nn : Nat) (D0 : DataW H) (R : Value → Option (DataW H × List MemPlace)) (w : World) (hown : w.ownsMap Tryz.prog 9 R b nn D0) (hmax : Maps.size D0 ≤ maxLen) (hbytes : Maps.size D0 * 16 ≤ 140737488355328) :
    CallsIn Fence.wide 5 Tryz.prog 35 #[.func (.func 62) #[] #[.pointer (some ⟨w.heap.size, 0, none⟩)]] (w.alloc (.cells #[.map (some b)] 63)) fun e w' => ∃ (v : Value) (ss : List (List UInt8)), e = .returned v ∧ ss.Perm (strKeys D0) ∧
      w'.ownsRow (w.alloc (.cells #[.map (some b)] 63)).heap.size 9 1 v ss.length ((ss.mergeSort (fun x y => decide (x ≤ y))).map encStr) ∧ (v = .slice none 0 0 ↔ ss = []) ∧ Below (w.alloc (.cells #[.map (some b)] 63)).heap.size (w.alloc (.cells #[.map (some b)] 63)) w' := by
  have hbl := hown.lt
  have hseq : SeqGives Fence.wide 2 Tryz.prog 62 #[.pointer (some ⟨w.heap.size, 0, none⟩)] encStr (fun ss => ss.Perm (strKeys D0)) (Maps.size D0) (w.alloc (.cells #[.map (some b)] 63)) :=
    AnyZ.keys_gives (ρ := Tryz.keys39_ren) { Tryz.keys39 with } Fence.wide _ trivial rfl (by omega) w.heap.size b nn D0 _ (by simp) (by simp) (by
      obtain ⟨es, clock, hb, Ft, hs, hD⟩ := hown
      exact ⟨es, clock, (Below.heap_alloc _ _ b hbl).trans hb, Ft, hs, hD⟩)
  exact AnyZ.sorted_in Tryz.sorted38 Fence.wide 5 trivial trivial trivial trivial rfl (by omega) (Tryz.sorts38 _) (enters_of Tryz.func61 (by kernel_rfl) rfl) 62 #[.pointer (some ⟨w.heap.size, 0, none⟩)] trivial (enters_of Tryz.func62 (by kernel_rfl) rfl) _ _ hmax hbytes _ hseq

set_option maxRecDepth 20000 in
set_option maxHeartbeats 1000000 in
theorem Tryz.slices_Sorted_keys_nil_38_39 (w : World) :
    CallsIn Fence.wide 5 Tryz.prog 35 #[.func (.func 62) #[] #[.pointer (some ⟨w.heap.size, 0, none⟩)]] (w.alloc (.cells #[.map none] 63)) fun e w' => ∃ (v : Value) (ss : List (List UInt8)), e = .returned v ∧ ss = [] ∧
      w'.ownsRow (w.alloc (.cells #[.map none] 63)).heap.size 9 1 v ss.length ((ss.mergeSort (fun x y => decide (x ≤ y))).map encStr) ∧ (v = .slice none 0 0 ↔ ss = []) ∧ Below (w.alloc (.cells #[.map none] 63)).heap.size (w.alloc (.cells #[.map none] 63)) w' := by
  have hseq : SeqGives Fence.wide 2 Tryz.prog 62 #[.pointer (some ⟨w.heap.size, 0, none⟩)] encStr (fun ss : List (List UInt8) => ss = []) 0 (w.alloc (.cells #[.map none] 63)) :=
    AnyZ.keys_gives_nil (ρ := Tryz.keys39_ren) { Tryz.keys39 with } Fence.wide _ trivial rfl w.heap.size _ (by simp) (by simp)
  exact AnyZ.sorted_in Tryz.sorted38 Fence.wide 5 trivial trivial trivial trivial rfl (by omega) (Tryz.sorts38 _) (enters_of Tryz.func61 (by kernel_rfl) rfl) 62 #[.pointer (some ⟨w.heap.size, 0, none⟩)] trivial (enters_of Tryz.func62 (by kernel_rfl) rfl) _ 0 (Nat.zero_le _) (by omega) _ hseq
end
end Go.Proofs
namespace Go.Proofs.YtfchnpdgnhoffaaGreatDoor
open Go.RowKit Go.Shelf Go.Maps

def synced (s : DS) (g : Nat) : DS := { s with kept := upd s.kept g (s.bytes g).length }

theorem DiskAt.synced {w w' : World} {F : Nat → Prop} {p : Nat} {s : DS} (h : DiskAt w F p s) (g : Nat) (hg : live s g) (hk : ∀ k, k < w.heap.size → k ≠ g → w'.heap[k]? = w.heap[k]?)
    (hf : Blk w' g 85 #[s.raw g, .int .i64 ((s.bytes g).length : Int)]) : DiskAt w' F p (synced s g) := by
  have fg := h.file g hg
  exact {
    blk := (hk p h.blk.lt (Blk.ne_ h.blk fg.blk (by decide))).trans h.blk
    own := h.own
    names := h.names.keep (hk _ h.names.lt (h.names.blk_ne fg.blk))
    safe := h.safe.keep (hk _ h.safe.lt (h.safe.blk_ne fg.blk))
    namesL := h.namesL
    safeL := h.safeL
    mnF := h.mnF
    msF := h.msF
    mne := h.mne
    pend := own_keep h.pend fun k hk' hlt => hk k hlt (fun e => own_blk_ne h.pend fg.blk (by decide) (by rw [← e]; exact hk'))
    pendF := h.pendF
    pendL := h.pendL
    flts := own_keep h.flts fun k hk' hlt => hk k hlt (fun e => own_blk_ne h.flts fg.blk (by decide) (by rw [← e]; exact hk'))
    fltsF := h.fltsF
    file := fun x hx => by
      have fx := h.file x hx
      refine ⟨?_, fx.own, own_keep fx.row fun k hk' hlt => hk k hlt (fun e => own_blk_ne fx.row fg.blk (by decide) (by rw [← e]; exact hk')), fx.rowF, ?_, fx.len⟩
      · by_cases e : x = g
        · subst e
          show Blk w' x 85 #[s.raw x, .int .i64 ((upd s.kept x (s.bytes x).length x : Nat) : Int)]
          rw [upd_same]; exact hf
        · show Blk w' x 85 #[s.raw x, .int .i64 ((upd s.kept g (s.bytes g).length x : Nat) : Int)]
          rw [upd_other _ _ e]; exact (hk x fx.blk.lt e).trans fx.blk
      · show upd s.kept g (s.bytes g).length x ≤ (s.bytes x).length
        by_cases e : x = g
        · subst e; rw [upd_same]; exact Nat.le_refl _
        · rw [upd_other _ _ e]; exact fx.le
    apart := h.apart
    nameOk := h.nameOk
    safeOk := h.safeOk
    pendOk := h.pendOk
    capB := h.capB
    rep := h.rep }

def syncC (s : DS) (nm : ByteArray) : Int := if (beginS s [nm]).2 = 0 then (if (dget s.names nm.data.toList).isSome then 0 else 3) else (beginS s [nm]).2
def SyncPost (w : World) (F : Nat → Prop) (p : Nat) (s : DS) (nm : ByteArray) (e : Ending) (w' : World) : Prop :=
  ∃ v s', e = .returned (.int .i64 (syncC s nm)) ∧ DiskAt w' (Gr F w) p s' ∧ Chg F w w' ∧
    ((syncC s nm ≠ 0 ∧ s' = begun s v) ∨ (syncC s nm = 0 ∧ ∃ g, dget s.names nm.data.toList = some g ∧ s' = synced (begun s v) g))

set_option maxRecDepth 100000 in
set_option maxHeartbeats 6400000 in
theorem sync_any (w : World) (F : Nat → Prop) (p : Nat) (s : DS) (nm : ByteArray) (h : DiskAt w F p s) (hnm : nm.size ≤ 9223372036854775807) (hnm2 : nm.size ≤ maxLen) (ho : s.ops ≤ 999999) (hf : s.flts.length ≤ 100000) :
    Calls Tryz.prog 54 #[.pointer (some ⟨p, 0, none⟩), .string nm] w (SyncPost w F p s nm) := by
  have hp := h.lt
  have H := Lib.hid h
  clear h
  go_enter Tryz.func54, Tryz.ntmps54
  go_wp2_with fail
  refine (begin1_any w F p s nm H.out hnm ho hf).mono ?_
  rintro e w2 ⟨v, rfl, hD2, hc2, hs2⟩
  have HD := Lib.hid hD2
  have HC := Lib.hid hc2
  clear hD2 hc2
  obtain ⟨kd, why, hk⟩ : ∃ kd why, beginS s [nm] = (kd, why) := ⟨_, _, rfl⟩
  rw [hk]
  have HK := Lib.hid hk
  clear hk
  by_cases hwy : why = 0
  · subst hwy
    have hlook : (Instr.lookup 63 (.map (some s.mn)) (.string nm) false).run Tryz.prog w2 = .ok (ptrV (dget s.names nm.data.toList)) w2 := HD.out.names.look nm hnm2
    have c2 : w2.cell? ⟨p, 2, none⟩ = some (.map (some s.mn)) := HD.out.blk.cell 2
    cases hd : dget s.names nm.data.toList with
    | none =>
      rw [hd] at hlook
      simp only [ptrV] at hlook
      have HDG := Lib.hid hd
      clear hd
      go_wp2
      refine bodyPost_ret (results_tmp rfl _ _ _) rfl ?_
      have e4 : syncC s nm = 3 := by unfold syncC; rw [HK.out, HDG.out]; rfl
      exact ⟨v, _, by rw [e4]; rfl, HD.out, HC.out, .inl ⟨by rw [e4]; decide, rfl⟩⟩
    | some g =>
      rw [hd] at hlook
      simp only [ptrV] at hlook
      have fg := HD.out.file g (.inl ⟨_, dget_mem hd, rfl⟩)
      obtain ⟨A0, d0, hraw⟩ := own_slice fg.row
      have q0 : w2.cell? ⟨g, 0, none⟩ = some (.slice A0 (s.bytes g).length d0) := (fg.blk.cell 0).trans (congrArg some hraw)
      have q1 : w2.cell? ⟨g, 1, none⟩ = some (.int .i64 (s.kept g : Int)) := fg.blk.cell 1
      have f1 := fg.blk.frozen 1
      have HFG := Lib.hid fg
      have HDG := Lib.hid hd
      clear hd fg hraw
      go_wp2
      refine bodyPost_ret (results_tmp rfl _ _ _) rfl ?_
      have e4 : syncC s nm = 0 := by unfold syncC; rw [HK.out, HDG.out]; rfl
      refine ⟨v, _, by rw [e4]; rfl, ?_, ?_, .inr ⟨e4, g, HDG.out, rfl⟩⟩
      · exact HD.out.synced g (.inl ⟨_, dget_mem HDG.out, rfl⟩) (fun k _ hne => Below.heap_setCell _ _ _ _ hne) (HFG.out.blk.set_ 1 _)
      · exact HC.out.setCell (p := ⟨g, 1, none⟩) HFG.out.own _
  · have hq : (why != 0) = true := by simp [hwy]
    have HWY := Lib.hid hwy
    clear hwy
    go_wp2
    refine bodyPost_ret (results_tmp rfl _ _ _) rfl ?_
    have e4 : syncC s nm = why := by unfold syncC; rw [HK.out, if_neg HWY.out]
    exact ⟨v, _, by rw [e4]; rfl, HD.out, HC.out, .inl ⟨by rw [e4]; exact HWY.out, rfl⟩⟩

/-! ### the directory -/
def syncedDir (s : DS) (m : Nat) : DS := { s with safe := s.names, ms := m, pend := [], vp := .slice none 0 0 }

theorem DiskAt.syncedDir {w w' : World} {F : Nat → Prop} {p : Nat} {s : DS} (h : DiskAt w F p s) (m : Nat) (hm : w.heap.size ≤ m) (hk : ∀ k, k < w.heap.size → k ≠ p → w'.heap[k]? = w.heap[k]?)
    (hb : Blk w' p 67 #[.int .i64 s.cap, .int .i64 (s.ops : Int), .map (some s.mn), .map (some m), .slice none 0 0, s.vf, .bool s.stopped, .int .i64 s.stop]) (hd : DirAt w' m s.names.length s.names) :
    DiskAt w' (Gr F w) p (syncedDir s m) := by
  have hlive : ∀ x, live (YtfchnpdgnhoffaaGreatDoor.syncedDir s m) x → live s x := by
    rintro x (hx | hx | ⟨c, hc, _⟩)
    · exact .inl hx
    · exact .inl hx
    · cases hc
  exact {
    blk := hb
    own := .inl h.own
    names := h.names.keep (hk _ h.names.lt (h.names.blk_ne h.blk))
    safe := hd
    namesL := h.namesL
    safeL := h.namesL
    mnF := .inl h.mnF
    msF := .inr hm
    mne := by have := h.names.lt; show s.mn ≠ m; omega
    pend := World.ownsRow_nil _ _ _ _
    pendF := fun k hk => by cases hk
    pendL := Nat.zero_le _
    flts := own_keep h.flts fun k hk' hlt => hk k hlt (fun e => own_blk_ne h.flts h.blk (by decide) (by rw [← e]; exact hk'))
    fltsF := fun k hk' => .inl (h.fltsF k hk')
    file := fun x hx => by
      have fx := h.file x (hlive x hx)
      exact ⟨(hk x fx.blk.lt (Blk.ne_ fx.blk h.blk (by decide))).trans fx.blk, .inl fx.own, own_keep fx.row fun k hk' hlt => hk k hlt (fun e => own_blk_ne fx.row h.blk (by decide) (by rw [← e]; exact hk')), fun k hk' => .inl (fx.rowF k hk'), fx.le, fx.len⟩
    apart := fun x y hx hy => h.apart x y (hlive x hx) (hlive y hy)
    nameOk := h.nameOk
    safeOk := h.nameOk
    pendOk := fun c hc => by cases hc
    capB := h.capB
    rep := RepOk.start _ }

def SyncDirPost (w : World) (F : Nat → Prop) (p : Nat) (s : DS) (e : Ending) (w' : World) : Prop :=
  ∃ v s', e = .returned (.int .i64 (beginS s []).2) ∧ DiskAt w' (Gr F w) p s' ∧ Chg F w w' ∧
    (((beginS s []).2 ≠ 0 ∧ s' = begun s v) ∨ ((beginS s []).2 = 0 ∧ ∃ m, s' = syncedDir (begun s v) m))

set_option maxRecDepth 100000 in
set_option maxHeartbeats 6400000 in
theorem syncdir_any (w : World) (F : Nat → Prop) (p : Nat) (s : DS) (h : DiskAt w F p s) (ho : s.ops ≤ 999999) (hf : s.flts.length ≤ 100000) :
    Calls Tryz.prog 58 #[.pointer (some ⟨p, 0, none⟩)] w (SyncDirPost w F p s) := by
  have hp := h.lt
  have H := Lib.hid h
  clear h
  go_enter Tryz.func58, Tryz.ntmps58
  go_wp2_with fail
  refine (begin_any w F p s [] none 0 0 H.out ⟨rfl, fun h => absurd h (by omega)⟩ (fun x hx => by cases hx) (by omega) (by omega) hf (fun ad e => by cases e)).mono ?_
  rintro e w2 ⟨v, rfl, hD2, hc2⟩
  have hs2 := hc2.size
  have HD := Lib.hid hD2
  have HC := Lib.hid hc2
  clear hD2 hc2
  obtain ⟨kd, why, hk⟩ : ∃ kd why, beginS s [] = (kd, why) := ⟨_, _, rfl⟩
  rw [hk]
  have HK := Lib.hid hk
  clear hk
  by_cases hwy : why = 0
  · subst hwy
    have c2 : w2.cell? ⟨p, 2, none⟩ = some (.map (some s.mn)) := HD.out.blk.cell 2
    go_wp2_with fail
    refine (AnyW.maps_Clone_owns Tryz.cloneM 9 ptrElem s.mn s.names.length (dirD s.names) w2 HD.out.names).mono ?_
    rintro e w3 ⟨rfl, hm1, hm2, hb3⟩
    have b3 := HD.out.blk.below hb3 HD.out.blk.lt
    have q3 : w3.cell? ⟨p, 3, none⟩ = some (.map (some s.ms)) := b3.cell 3
    have f3 := b3.frozen 3
    have q4 : (w3.setCell ⟨p, 3, none⟩ (.map (some w2.heap.size))).cell? ⟨p, 4, none⟩ = some s.vp := (b3.set_ 3 _).cell 4
    have f4 := (b3.set_ 3 (.map (some w2.heap.size))).frozen 4
    have HB3 := Lib.hid hb3
    have HBK := Lib.hid b3
    have HM := Lib.hid hm1
    clear hb3 b3 hm1 hm2
    go_wp2
    refine bodyPost_ret (results_tmp rfl _ _ _) rfl ?_
    have hp2 := HD.out.blk.lt
    refine ⟨v, _, by rw [HK.out]; rfl, ?_, ?_, .inr ⟨by rw [HK.out], w2.heap.size, rfl⟩⟩
    · refine (HD.out.syncedDir w2.heap.size (Nat.le_refl _) ?_ ?_ ?_).inF (fun k hk => Gr.mono hs2 k hk)
      · intro k hk hne
        rw [Below.heap_setCell _ _ _ _ hne, Below.heap_setCell _ _ _ _ hne]
        exact HB3.out.block k hk
      · exact (HBK.out.set_ 3 _).set_ 4 _
      · have hne : w2.heap.size ≠ p := by omega
        exact DirAt.keep (w := w3) HM.out (by rw [Below.heap_setCell _ _ _ _ hne, Below.heap_setCell _ _ _ _ hne])
    · exact ((HC.out.below HB3.out hs2).setCell (p := ⟨p, 3, none⟩) (.inl H.out.own) _).setCell (p := ⟨p, 4, none⟩) (.inl H.out.own) _
  · have hq : (why != 0) = true := by simp [hwy]
    have HWY := Lib.hid hwy
    clear hwy
    go_wp2
    refine bodyPost_ret (results_tmp rfl _ _ _) rfl ?_
    exact ⟨v, _, by rw [HK.out]; rfl, HD.out, HC.out, .inl ⟨by rw [HK.out]; exact HWY.out, rfl⟩⟩
end Go.Proofs.YtfchnpdgnhoffaaGreatDoor
namespace Go.Proofs.YtfchnpdgnhoffaaGreatDoor
open Go.RowKit Go.Shelf Go.Maps

/-- what is read: the bytes and the refusal -/
def readS (s : DS) (nm : ByteArray) : List UInt8 × Int :=
  if rightB nm then (match dget s.names nm.data.toList with | none => ([], 3) | some g => (s.bytes g, 0)) else ([], 2)
def ReadPost (w : World) (s : DS) (nm : ByteArray) (e : Ending) (w' : World) : Prop :=
  ∃ v, e = .returned (.tuple #[v, .int .i64 (readS s nm).2]) ∧ w'.ownsRow w.heap.size 5 1 v (readS s nm).1.length (bytesV (readS s nm).1) ∧ Below w.heap.size w w'

set_option maxRecDepth 100000 in
set_option maxHeartbeats 3200000 in
theorem read_any (w : World) (F : Nat → Prop) (p : Nat) (s : DS) (nm : ByteArray) (h : DiskAt w F p s) (hnm : nm.size ≤ 9223372036854775807) (hnm2 : nm.size ≤ maxLen) (ho : s.ops ≤ 1000000) :
    Calls Tryz.prog 67 #[.pointer (some ⟨p, 0, none⟩), .string nm] w (ReadPost w s nm) := by
  obtain ⟨i0, hi, hz0, hz1, hz2⟩ := info_parts info5
  have HI := Lib.hid hi
  have HZ0 := Lib.hid hz0
  have HZ1 := Lib.hid hz1
  have HZ2 := Lib.hid hz2
  have hp := h.lt
  have H := Lib.hid h
  clear h hi hz0 hz1 hz2
  go_enter Tryz.func67, Tryz.ntmps67
  go_wp2_with fail
  refine (right_any nm w hnm).mono ?_
  rintro e w1 ⟨rfl, q, hw1⟩
  have hD1 : DiskAt w1 F p s := by rw [hw1]; exact H.out.drewN q
  have hB1 : Below w.heap.size w w1 := by rw [hw1]; exact below_drewN (Below.refl _ _) q
  have hs1 : w1.heap.size = w.heap.size := by rw [hw1]; rfl
  have HD := Lib.hid hD1
  have HB := Lib.hid hB1
  clear hw1 hD1 hB1
  cases hrt : rightB nm with
  | false =>
    have HRT := Lib.hid hrt
    clear hrt
    go_wp2
    go_ret2
    have e : readS s nm = ([], 2) := by unfold readS; rw [HRT.out]; rfl
    unfold ReadPost
    rw [e]
    exact ⟨_, rfl, World.ownsRow_nil _ _ _ _, HB.out⟩
  | true =>
    have HRT := Lib.hid hrt
    clear hrt
    have hlook : (Instr.lookup 63 (.map (some s.mn)) (.string nm) false).run Tryz.prog w1 = .ok (ptrV (dget s.names nm.data.toList)) w1 := HD.out.names.look nm hnm2
    have c2 : w1.cell? ⟨p, 2, none⟩ = some (.map (some s.mn)) := HD.out.blk.cell 2
    cases hd : dget s.names nm.data.toList with
    | none =>
      rw [hd] at hlook
      simp only [ptrV] at hlook
      have HDG := Lib.hid hd
      clear hd
      go_wp2
      go_ret2
      have e : readS s nm = ([], 3) := by unfold readS; rw [HRT.out, HDG.out]; rfl
      unfold ReadPost
      rw [e]
      exact ⟨_, rfl, World.ownsRow_nil _ _ _ _, HB.out⟩
    | some g =>
      rw [hd] at hlook
      simp only [ptrV] at hlook
      have fg := HD.out.file g (.inl ⟨_, dget_mem hd, rfl⟩)
      obtain ⟨A0, d0, hraw⟩ := own_slice fg.row
      have q0 : w1.cell? ⟨g, 0, none⟩ = some (.slice A0 (s.bytes g).length d0) := (fg.blk.cell 0).trans (congrArg some hraw)
      have hr := fg.row
      rw [hraw] at hr
      have HR := Lib.hid (Reads.of_own hr)
      have hlen := fg.len
      have HDG := Lib.hid hd
      clear hd fg hraw hr
      go_wp2_with (at_builtin; go_loud (refine wpList_append_any _ rfl (.const (.slice none 0 0)) (.tmp 21) 25 rfl w.heap.size 5 i0 (.int .u8 0) 1 1 Tryz.underlying25 HI.out HZ0.out HZ1.out HZ2.out rfl (by omega) (.slice none 0 0) 0 [] rfl (World.ownsRow_nil _ _ _ _) w1.heap.size A0 (s.bytes g).length d0 (bytesV (s.bytes g)) rfl HR.out (bytesV_one _) (by simp [maxLen]; omega) (by omega) (by omega) ?_; intro v4 w4 hown4 hgrow4 _; have HW4 := Lib.hid hown4; have HG4 := Lib.hid hgrow4; clear hown4 hgrow4))
      go_ret2
      have e : readS s nm = (s.bytes g, 0) := by unfold readS; rw [HRT.out, HDG.out]; rfl
      unfold ReadPost
      rw [e]
      refine ⟨v4, rfl, ?_, HB.out.grown HG4.out (by omega) (fun k hk => by simp [Value.ownBlock] at hk)⟩
      have := HW4.out
      rwa [Nat.zero_add, List.nil_append] at this
end Go.Proofs.YtfchnpdgnhoffaaGreatDoor
namespace Go.Proofs.YtfchnpdgnhoffaaGreatDoor
open Go.RowKit Go.Shelf Go.Maps

/-- a name, as bytes of the language's own -/
def nmB (s : Nm) : ByteArray := ⟨s.toArray⟩
theorem nmB_list (s : Nm) : (nmB s).data.toList = s := by simp [nmB]
theorem nmB_size (s : Nm) : (nmB s).size = s.length := by show s.toArray.size = _; simp
theorem nmB_empty {s : Nm} (h : s ≠ []) : (nmB s).toList.isEmpty = false := by
  rw [ByteArray.toList_eq, nmB_list, List.isEmpty_eq_false_iff]; exact h

set_option maxRecDepth 100000 in
set_option maxHeartbeats 3200000 in
theorem do_some (w : World) (b : Nat) (l : Dl) (fr nm : Nm) (g : Nat) (hd : DirAt w b l.length l) (hn : nmOk nm) (hl : l.length ≤ 10000000) (hne : nm ≠ []) :
    Calls Tryz.prog 34 #[.agg #[.string (nmB fr), .string (nmB nm), .pointer (some ⟨g, 0, none⟩)], .map (some b)] w fun e w' => e = .returned (.tuple #[]) ∧ DirAt w' b (dput l nm g).length (dput l nm g) ∧ w.grownBy w' (some b) := by
  have e1 := nmB_empty hne
  have e2 : (!(nmB nm).toList.isEmpty) = true := by rw [e1]; rfl
  have hbl := hd.lt
  have hk : keyOf Tryz.prog 9 (.string (nmB nm)) = some (.string nm) := by have := key_nm (nmB nm) (by rw [nmB_size]; simp [maxLen]; unfold nmOk at hn; omega); rwa [nmB_list] at this
  have HK := Lib.hid hk
  have HD := Lib.hid hd
  clear hk hd
  go_enter Tryz.func34, Tryz.ntmps34
  go_wp2_with (at_mapUpdate; refine wpList_mapUpdate_own _ rfl _ _ _ 63 rfl 9 74 law9 Tryz.underlying63 ptrElem b l.length (dirD l) rfl (HD.out.alloc _) (by simp [maxLen]; omega) _ _ (.string nm) rfl rfl HK.out (.lit (.int .i64 (g : Int))) [] rfl ?_; intro w4 hown4 hgrow4; have HO := Lib.hid hown4; have HG := Lib.hid hgrow4; clear hown4 hgrow4)
  go_end0
  refine ⟨rfl, ?_, only_trans (only_alloc (only_refl w (some b)) _) HG.out⟩
  have := HO.out
  rw [dirD_put] at this
  exact DirAt.tight this

set_option maxRecDepth 100000 in
set_option maxHeartbeats 3200000 in
theorem do_idle (w : World) (b : Nat) (l : Dl) (fr : Nm) (g : Nat) (hd : DirAt w b l.length l) :
    Calls Tryz.prog 34 #[.agg #[.string (nmB fr), .string (nmB []), .pointer (some ⟨g, 0, none⟩)], .map (some b)] w fun e w' => e = .returned (.tuple #[]) ∧ DirAt w' b l.length l ∧ w.grownBy w' (some b) := by
  have hbl := hd.lt
  have HD := Lib.hid hd
  rw [show nmB [] = ({ data := #[] } : ByteArray) from rfl]
  clear hd
  go_enter Tryz.func34, Tryz.ntmps34
  go_wp2
  go_end0
  exact ⟨rfl, HD.out.keep (Below.heap_alloc _ _ _ hbl), only_alloc (only_refl w (some b)) _⟩

set_option maxRecDepth 100000 in
set_option maxHeartbeats 3200000 in
theorem do_remove (w : World) (b : Nat) (l : Dl) (fr : Nm) (hd : DirAt w b l.length l) (hn : nmOk fr) :
    Calls Tryz.prog 34 #[.agg #[.string (nmB fr), .string (nmB []), .pointer none], .map (some b)] w fun e w' => e = .returned (.tuple #[]) ∧ DirAt w' b (ddel l fr).length (ddel l fr) ∧ w.grownBy w' (some b) := by
  have hbl := hd.lt
  have hfz : (nmB fr).size ≤ maxLen := by rw [nmB_size]; simp [maxLen]; unfold nmOk at hn; omega
  have hk : keyOf Tryz.prog 9 (.string (nmB fr)) = some (.string fr) := by have := key_nm (nmB fr) hfz; rwa [nmB_list] at this
  have HK := Lib.hid hk
  have HD := Lib.hid hd
  have hd1 : DirAt (w.alloc (.cells #[.string (nmB fr), .string ({ data := #[] } : ByteArray), .pointer none] 77)) b l.length l := hd.keep (Below.heap_alloc _ _ _ hbl)
  have hlook := hd1.look (nmB fr) hfz
  have HD1 := Lib.hid hd1
  rw [show nmB [] = ({ data := #[] } : ByteArray) from rfl]
  clear hk hd hd1
  cases hg : dget l (nmB fr).data.toList with
  | none =>
    rw [hg] at hlook
    simp only [ptrV] at hlook
    clear hg
    go_enter Tryz.func34, Tryz.ntmps34
    go_wp2_with (at_delete; refine wpList_delete_own _ rfl _ _ 63 9 rfl 74 law9 Tryz.underlying63 ptrElem b l.length (dirD l) rfl HD1.out _ (.string fr) rfl HK.out ?_; intro w4 hown4 hturn4; have hg4 := hturn4.grown; have x1 : w4.cell? ⟨w.heap.size, 1, none⟩ = some (.string ({ data := #[] } : ByteArray)) := ((Blk.new w 77 #[.string (nmB fr), .string ({ data := #[] } : ByteArray), .pointer none]).grown hg4 (by simp; omega)).cell 1; have HO := Lib.hid hown4; have HG := Lib.hid hg4; clear hown4 hturn4 hg4)
    go_end0
    refine ⟨rfl, ?_, only_trans (only_alloc (only_refl w (some b)) _) HG.out⟩
    have := HO.out
    rw [dirD_del] at this
    exact DirAt.tight this
  | some g =>
    rw [hg] at hlook
    simp only [ptrV] at hlook
    clear hg
    go_enter Tryz.func34, Tryz.ntmps34
    go_wp2_with (at_delete; refine wpList_delete_own _ rfl _ _ 63 9 rfl 74 law9 Tryz.underlying63 ptrElem b l.length (dirD l) rfl HD1.out _ (.string fr) rfl HK.out ?_; intro w4 hown4 hturn4; have hg4 := hturn4.grown; have x1 : w4.cell? ⟨w.heap.size, 1, none⟩ = some (.string ({ data := #[] } : ByteArray)) := ((Blk.new w 77 #[.string (nmB fr), .string ({ data := #[] } : ByteArray), .pointer none]).grown hg4 (by simp; omega)).cell 1; have HO := Lib.hid hown4; have HG := Lib.hid hg4; clear hown4 hturn4 hg4)
    go_end0
    refine ⟨rfl, ?_, only_trans (only_alloc (only_refl w (some b)) _) HG.out⟩
    have := HO.out
    rw [dirD_del] at this
    exact DirAt.tight this

set_option maxRecDepth 100000 in
set_option maxHeartbeats 3200000 in
theorem do_rename (w : World) (b : Nat) (l : Dl) (fr nm : Nm) (g : Nat) (hd : DirAt w b l.length l) (hf : nmOk fr) (hn : nmOk nm) (hl : l.length ≤ 10000000) (hne : nm ≠ []) (hg : dget l fr = some g) :
    Calls Tryz.prog 34 #[.agg #[.string (nmB fr), .string (nmB nm), .pointer none], .map (some b)] w fun e w' => e = .returned (.tuple #[]) ∧ DirAt w' b (dput (ddel l fr) nm g).length (dput (ddel l fr) nm g) ∧ w.grownBy w' (some b) := by
  have e1 := nmB_empty hne
  have e2 : (!(nmB nm).toList.isEmpty) = true := by rw [e1]; rfl
  have hbl := hd.lt
  have hfz : (nmB fr).size ≤ maxLen := by rw [nmB_size]; simp [maxLen]; unfold nmOk at hf; omega
  have hk : keyOf Tryz.prog 9 (.string (nmB fr)) = some (.string fr) := by have := key_nm (nmB fr) hfz; rwa [nmB_list] at this
  have hk2 : keyOf Tryz.prog 9 (.string (nmB nm)) = some (.string nm) := by have := key_nm (nmB nm) (by rw [nmB_size]; simp [maxLen]; unfold nmOk at hn; omega); rwa [nmB_list] at this
  have HK := Lib.hid hk
  have HK2 := Lib.hid hk2
  have hd1 : DirAt (w.alloc (.cells #[.string (nmB fr), .string (nmB nm), .pointer none] 77)) b l.length l := hd.keep (Below.heap_alloc _ _ _ hbl)
  have hlook := hd1.look (nmB fr) hfz
  rw [nmB_list, hg] at hlook
  simp only [ptrV] at hlook
  have HD1 := Lib.hid hd1
  clear hk hk2 hd hd1 hg
  go_enter Tryz.func34, Tryz.ntmps34
  go_wp2_with (first
    | (at_delete; refine wpList_delete_own _ rfl _ _ 63 9 rfl 74 law9 Tryz.underlying63 ptrElem b l.length (dirD l) rfl HD1.out _ (.string fr) rfl HK.out ?_; intro w4 hown4 hturn4; have hg4 := hturn4.grown; have x1 : w4.cell? ⟨w.heap.size, 1, none⟩ = some (.string (nmB nm)) := ((Blk.new w 77 #[.string (nmB fr), .string (nmB nm), .pointer none]).grown hg4 (by simp; omega)).cell 1; have HO := Lib.hid hown4; have HG := Lib.hid hg4; clear hown4 hturn4 hg4)
    | (at_mapUpdate; refine wpList_mapUpdate_own _ rfl _ _ _ 63 rfl 9 74 law9 Tryz.underlying63 ptrElem b l.length ((dirD l).del (.string fr)) rfl HO.out (by simp [maxLen]; omega) _ _ (.string nm) rfl rfl HK2.out (.lit (.int .i64 (g : Int))) [] rfl ?_; intro w5 hown5 hgrow5; have HO5 := Lib.hid hown5; have HG5 := Lib.hid hgrow5; clear hown5 hgrow5))
  go_end0
  refine ⟨rfl, ?_, only_trans (only_trans (only_alloc (only_refl w (some b)) _) HG.out) HG5.out⟩
  have := HO5.out
  rw [dirD_del, dirD_put] at this
  exact DirAt.tight this

/-- a change is done to a directory -/
theorem do_any (w : World) (b : Nat) (l : Dl) (c : Ch) (hd : DirAt w b l.length l) (hf : nmOk c.from_) (hn : nmOk c.name) (hl : l.length ≤ 10000000) (hok : okC l c) :
    Calls Tryz.prog 34 #[.agg #[nmV c.from_, nmV c.name, ptrV c.file], .map (some b)] w fun e w' => e = .returned (.tuple #[]) ∧ DirAt w' b (doL l c).length (doL l c) ∧ w.grownBy w' (some b) := by
  obtain ⟨fr, nm, fl⟩ := c
  cases fl with
  | some g =>
    by_cases hne : nm = []
    · subst hne
      exact do_idle w b l fr g hd
    · have e : doL l ⟨fr, nm, some g⟩ = dput l nm g := by unfold doL; simp [hne]
      rw [e]
      exact do_some w b l fr nm g hd hn hl hne
  | none =>
    by_cases hne : nm = []
    · subst hne
      exact do_remove w b l fr hd hf
    · have h1 := hok rfl hne
      cases hg : dget l fr with
      | none => simp only at h1; rw [hg] at h1; cases h1
      | some g =>
        have e : doL l ⟨fr, nm, none⟩ = dput (ddel l fr) nm g := by unfold doL; simp [hne, hg]
        rw [e]
        exact do_rename w b l fr nm g hd hf hn hl hne hg
end Go.Proofs.YtfchnpdgnhoffaaGreatDoor
namespace Go.Proofs.YtfchnpdgnhoffaaGreatDoor
open Go.RowKit Go.Shelf Go.Maps

theorem ret_int {a b : Int} (h : a = b) : Ending.returned (.int .i64 a) = Ending.returned (.int .i64 b) := by rw [h]
/-- a cutter over the numbers cs, in block g; they lie below block B -/
def CutAt (w : World) (B g : Nat) (cs : List Int) : Prop :=
  ∃ A c, Blk w g 72 #[.slice A cs.length c] ∧ cs.length ≤ c ∧ Reads w B 1 A cs.length (cs.map (Value.int .i64)) ∧ B ≤ g
def nextK (cs : List Int) (most : Int) : Int := match cs with
  | [] => 0
  | c :: _ => c % (most + 1)
theorem nextK_bd (cs : List Int) (most : Int) (h : 0 ≤ most) : 0 ≤ nextK cs most ∧ nextK cs most ≤ most := by
  unfold nextK
  split
  · omega
  · rename_i c _
    have h1 := Int.emod_lt_of_pos c (show 0 < most + 1 by omega)
    have h2 := Int.emod_nonneg c (show most + 1 ≠ 0 by omega)
    omega
theorem rem_facts (c b : Int) (hb : 1 ≤ b) : -b < c.tmod b ∧ c.tmod b < b ∧ (c.tmod b < 0 → c % b = c.tmod b + b) ∧ (0 ≤ c.tmod b → c % b = c.tmod b) := by
  have h1 := Int.tmod_lt_of_pos c (show 0 < b by omega)
  have h2 := Int.lt_tmod_of_pos c (show 0 < b by omega)
  refine ⟨h2, h1, fun h => ?_, fun h => ?_⟩
  · have h5 := Int.tmod_add_mul_tdiv c b
    have e : (c.tmod b + b) + b * (c.tdiv b - 1) = c := by rw [Int.mul_sub]; omega
    have e2 : c % b = ((c.tmod b + b) + b * (c.tdiv b - 1)) % b := by rw [e]
    rw [e2, Int.add_mul_emod_self_left, Int.emod_eq_of_lt (by omega) (by omega)]
  · have h5 := Int.tmod_add_mul_tdiv c b
    have e : c = c.tmod b + b * c.tdiv b := by omega
    have e2 : c % b = (c.tmod b + b * c.tdiv b) % b := by rw [← e]
    rw [e2, Int.add_mul_emod_self_left, Int.emod_eq_of_lt h h1]
theorem CutAt.grown {w w' : World} {B g : Nat} {cs : List Int} (h : CutAt w B g cs) {row : Option Nat} (hg : w.grownBy w' row) (hr : ∀ k, row = some k → B ≤ k ∧ k ≠ g) : CutAt w' B g cs := by
  obtain ⟨A, c, hb, hc, hR, hB⟩ := h
  refine ⟨A, c, hb.grown hg (fun e => (hr g e.symm).2 rfl), hc, ?_, hB⟩
  exact hR.grown hg (Nat.le_trans hB (Nat.le_of_lt hb.lt)) (fun k hk => (hr k hk).1)
theorem CutAt.below {w w' : World} {B g : Nat} {cs : List Int} (h : CutAt w B g cs) (hb : Below w.heap.size w w') : CutAt w' B g cs := h.grown (only_of_below hb none) (fun _ e => by cases e)
theorem CutAt.drewN {w : World} {B g : Nat} {cs : List Int} (h : CutAt w B g cs) (n : Nat) : CutAt (w.drewN n) B g cs := h
theorem CutAt.lt {w : World} {B g : Nat} {cs : List Int} (h : CutAt w B g cs) : g < w.heap.size := by obtain ⟨_, _, hb, _⟩ := h; exact hb.lt

set_option maxRecDepth 100000 in
set_option maxHeartbeats 3200000 in
theorem next_any (w : World) (B g : Nat) (cs : List Int) (most : Int) (h : CutAt w B g cs) (hm : 0 ≤ most) (hm2 : most ≤ 1000000000000) :
    Calls Tryz.prog 33 #[.pointer (some ⟨g, 0, none⟩), .int .i64 most] w fun e w' => e = .returned (.int .i64 (nextK cs most)) ∧ CutAt w' B g cs.tail ∧ w.grownBy w' (some g) := by
  obtain ⟨A, c, hb, hc, hR, hB⟩ := h
  have c0 : w.cell? ⟨g, 0, none⟩ = some (.slice A cs.length c) := hb.cell 0
  have f0 := hb.frozen 0
  have HBK := Lib.hid hb
  have HR := Lib.hid hR
  cases cs with
  | nil =>
    simp only [List.length_nil] at c0
    clear hb hR
    go_enter Tryz.func33, Tryz.ntmps33
    go_wp2
    go_ret
    exact ⟨rfl, ⟨A, c, HBK.out, hc, HR.out, hB⟩, only_refl _ _⟩
  | cons x r =>
    obtain ⟨⟨ga, oa, sa⟩, rfl, hga, hcell⟩ := hR.2 (by simp)
    have d0 : w.cell? ⟨ga, oa, sa⟩ = some (.int .i64 x) := by
      have := hcell 0 (.int .i64 x) rfl
      simpa [Addr.add] using this
    have HF := Lib.hid (rem_facts x (most + 1) (by omega))
    have hne : most + 1 ≠ 0 := by omega
    obtain ⟨k, hk⟩ : ∃ k, k = nextK (x :: r) most := ⟨_, rfl⟩
    have HK := Lib.hid (show k = x % (most + 1) from hk)
    rw [← hk]
    obtain ⟨n, hn⟩ : ∃ n, n = (x :: r).length := ⟨_, rfl⟩
    have hn1 : n = r.length + 1 := by rw [hn]; simp
    rw [← hn] at c0 hc
    have HN := Lib.hid hn1
    have hn0 : 1 ≤ n := by omega
    clear hb hR hcell hk hn hn1
    by_cases hc1 : c = 1
    · subst hc1
      obtain rfl : n = 1 := by omega
      obtain rfl : r = [] := List.eq_nil_of_length_eq_zero (by have := HN.out; omega)
      go_enter Tryz.func33, Tryz.ntmps33
      go_wp2
      all_goals
        refine bodyPost_ret (results_tmp rfl _ _ _) rfl ?_
        refine ⟨?_, ?_, ?_⟩
        · have h2 := HK.out
          obtain ⟨r1, r2, r3, r4⟩ := HF.out
          refine ret_int ?_
          generalize x.tmod (most + 1) = m at *
          generalize x % (most + 1) = j at *
          try unfold wrap64
          first
            | (have r5 := r3 (by omega); omega)
            | (have r5 := r4 (by omega); omega)
        · exact ⟨_, 0, HBK.out.set_ 0 _, Nat.le_refl _, ⟨rfl, fun h => absurd h (by simp)⟩, hB⟩
        · exact only_setCell (only_refl w (some g)) (.inl rfl) _
    · have hl : (x :: r).length - 1 = r.length := by simp
      have hl2 : n - 1 = r.length := by have := HN.out; omega
      have hcut := HR.out.cut (k := 1) (cap := c) (by simp) (by have := HN.out; simp; omega)
      rw [if_neg hc1, hl] at hcut
      have HCUT := Lib.hid hcut
      have HL2 := Lib.hid hl2
      clear hl hl2 hcut
      go_enter Tryz.func33, Tryz.ntmps33
      go_wp2
      all_goals
        refine bodyPost_ret (results_tmp rfl _ _ _) rfl ?_
        refine ⟨?_, ?_, ?_⟩
        · have h2 := HK.out
          obtain ⟨r1, r2, r3, r4⟩ := HF.out
          refine ret_int ?_
          generalize x.tmod (most + 1) = m at *
          generalize x % (most + 1) = j at *
          try unfold wrap64
          first
            | (have r5 := r3 (by omega); omega)
            | (have r5 := r4 (by omega); omega)
        · refine ⟨_, c - 1, by have hb := HBK.out.set_ 0 (.slice (some ⟨ga, oa + 1, none⟩) (n - 1) (c - 1)); rw [← HL2.out]; exact hb, by have := HL2.out; omega, ?_, hB⟩
          have h3 := HCUT.out.setCell (p := ⟨g, 0, none⟩) hB (.slice (some ⟨ga, oa + 1, none⟩) (n - 1) (c - 1))
          simpa [Addr.add] using h3
        · exact only_setCell (only_refl w (some g)) (.inl rfl) _
end Go.Proofs.YtfchnpdgnhoffaaGreatDoor
