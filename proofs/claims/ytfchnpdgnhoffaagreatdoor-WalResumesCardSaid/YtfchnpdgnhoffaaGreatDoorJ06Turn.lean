/- A change of the directory that moves or removes a name: the state behind it; Remove (function 52). Rename (function 50). Printed by gen_rename.py from Turn. later, Stop, SetCapacity, Ops (functions 40, 18, 61, 28). Fault (function 57). Durable (function 31). List (function 25). wakes: a disk that is alive; string(b) of a row of bytes. The keeper: Within (function 23). Lines of the compact seat, the number turned. string(b) of any row of bytes. -/
import Derived.Test.YtfchnpdgnhoffaaGreatDoorJ03Create
import Derived.Test.YtfchnpdgnhoffaaGreatDoorCrash
import Derived.StillTailTactics
import Derived.IntWalk
import Derived.Lib.OwnBridge
import Derived.Sort.OwnSorted
import Derived.Test.YtfchnpdgnhoffaaGreatDoorJ04Lay2
import Derived.Test.YtfchnpdgnhoffaaGreatDoorJ02Right
import Derived.Laws.BytesArg
import Derived.Lib.SmallJoins
namespace Go.Proofs.YtfchnpdgnhoffaaGreatDoor
open Go.RowKit Go.Shelf Go.Maps

def changed (s : DS) (c : Ch) (v : Value) : DS := { s with names := doL s.names c, pend := s.pend ++ [c], vp := v }
theorem live_changed {s : DS} {c : Ch} {v : Value} (hc : c.file = none) {g : Nat} (h : live (changed s c v) g) : live s g := by
  rcases h with ⟨y, hy, rfl⟩ | ⟨y, hy, rfl⟩ | ⟨c', hc', he⟩
  · rcases mem_doL hy with ⟨z, hz, e⟩ | e
    · exact .inl ⟨z, hz, e⟩
    · rw [hc] at e; cases e
  · exact .inr (.inl ⟨y, hy, rfl⟩)
  · rcases List.mem_append.1 hc' with hc' | hc'
    · exact .inr (.inr ⟨c', hc', he⟩)
    · rw [List.mem_singleton.1 hc', hc] at he; cases he
theorem DiskAt.changed {w w' : World} {F : Nat → Prop} {p : Nat} {s : DS} (h : DiskAt w F p s) (c : Ch) (v : Value) (hc : c.file = none) (hok : okC s.names c)
    (hk : ∀ k, k < w.heap.size → k ≠ p → k ≠ s.mn → s.vp.ownBlock ≠ some k → w'.heap[k]? = w.heap[k]?)
    (hb : Blk w' p 67 #[.int .i64 s.cap, .int .i64 (s.ops : Int), .map (some s.mn), .map (some s.ms), v, s.vf, .bool s.stopped, .int .i64 s.stop])
    (hd : DirAt w' s.mn (doL s.names c).length (doL s.names c))
    (hv : w'.ownsRow 0 77 3 v (s.pend.length + 1) (chsV (s.pend ++ [c]))) (hvF : v.ownBlock = s.vp.ownBlock ∨ (∀ k, v.ownBlock = some k → w.heap.size ≤ k))
    (hl1 : (doL s.names c).length ≤ s.ops) (hl2 : s.pend.length + 1 ≤ s.ops) (hn : nmOk c.from_ ∧ nmOk c.name) : DiskAt w' (Gr F w) p (changed s c v) where
  blk := hb
  own := .inl h.own
  names := hd
  safe := h.safe.keep (hk _ h.safe.lt (h.safe.blk_ne h.blk) (Ne.symm h.mne) (h.safe.own_ne h.pend))
  namesL := hl1
  safeL := h.safeL
  mnF := .inl h.mnF
  msF := .inl h.msF
  mne := h.mne
  pend := by
    have e : (s.pend ++ [c]).length = s.pend.length + 1 := by simp
    show w'.ownsRow 0 77 3 v (s.pend ++ [c]).length (chsV (s.pend ++ [c]))
    rw [e]; exact hv
  pendF := fun k hk' => by
    rcases hvF with e | e
    · exact .inl (h.pendF k (by rw [← e]; exact hk'))
    · exact .inr (e k hk')
  pendL := by show (s.pend ++ [c]).length ≤ s.ops; simp; omega
  flts := own_keep h.flts fun k hk' hlt => hk k hlt (fun e => own_blk_ne h.flts h.blk (by decide) (by rw [← e]; exact hk')) (fun e => h.names.own_ne h.flts (by rw [← e]; exact hk'))
    (own_ne2 h.flts h.pend (by decide) hk')
  fltsF := fun k hk' => .inl (h.fltsF k hk')
  file := fun x hx => by
    have hf' := h.file x (live_changed hc hx)
    refine ⟨?_, .inl hf'.own, ?_, fun k hk' => .inl (hf'.rowF k hk'), hf'.le, hf'.len⟩
    · exact (hk x hf'.blk.lt (Blk.ne_ hf'.blk h.blk (by decide)) (fun e => h.names.blk_ne hf'.blk e.symm) (own_blk_ne h.pend hf'.blk (by decide))).trans hf'.blk
    · exact own_keep hf'.row fun k hk' hlt => hk k hlt (fun e => own_blk_ne hf'.row h.blk (by decide) (by rw [← e]; exact hk')) (fun e => h.names.own_ne hf'.row (by rw [← e]; exact hk'))
        (own_ne2 hf'.row h.pend (by decide) hk')
  apart := fun x y hx hy hne => h.apart x y (live_changed hc hx) (live_changed hc hy) hne
  nameOk := nameOk_doL h.nameOk hn
  safeOk := h.safeOk
  pendOk := fun c' hc' => by
    rcases List.mem_append.1 hc' with hc' | hc'
    · exact h.pendOk c' hc'
    · rw [List.mem_singleton.1 hc']; exact hn
  capB := h.capB
  rep := h.rep.snoc c hok rfl

/-- the end of a walk that turned the directory and wrote the change down -/
theorem turn_end {w w0 w2 w3 w5 w6 : World} {F : Nat → Prop} {p : Nat} {s : DS} {v : Value} {c : Ch} {A4 A5 : Option Addr} {d4 d5 : Nat} {o : Obj} (h0 : DiskAt w0 F p s) (hD : DiskAt w2 (Gr F w) p (begun s v)) (hC : Chg F w w2) (hsz : w.heap.size ≤ w2.heap.size) (hc : c.file = none)
    (hok : okC s.names c) (hn : nmOk c.from_ ∧ nmOk c.name) (hB3 : Below w2.heap.size w2 w3) (hg5 : w3.grownBy w5 (some s.mn)) (hd5 : DirAt w5 s.mn (doL s.names c).length (doL s.names c)) (hvp : s.vp = .slice A4 s.pend.length d4)
    (hb6 : Blk w6 p 67 #[.int .i64 s.cap, .int .i64 ((begun s v).ops : Int), .map (some s.mn), .map (some s.ms), s.vp, v, .bool s.stopped, .int .i64 s.stop])
    (hw6 : w6.ownsRow 0 77 3 (.slice A5 (s.pend.length + 1) d5) (s.pend.length + 1) (chsV s.pend ++ chV c)) (hg6 : (w5.alloc o).grownBy w6 (Value.slice A4 s.pend.length d4).ownBlock)
    (hl6 : (Value.slice A5 (s.pend.length + 1) d5).ownBlock = (Value.slice A4 s.pend.length d4).ownBlock ∨ (Value.slice A5 (s.pend.length + 1) d5).ownBlock = some (w5.alloc o).heap.size) :
    DiskAt (w6.setCell ⟨p, 4, none⟩ (.slice A5 (s.pend.length + 1) d5)) (Gr F w) p (changed (begun s v) c (.slice A5 (s.pend.length + 1) d5)) ∧ Chg F w (w6.setCell ⟨p, 4, none⟩ (.slice A5 (s.pend.length + 1) d5)) := by
  have hs3 := hB3.size
  have hs5 := hg5.size
  have hs6 := hg6.size
  rw [World.size_alloc] at hs6
  have hpl : p < w2.heap.size := hD.blk.lt
  have hml : s.mn < w2.heap.size := hD.names.lt
  have hmp : s.mn ≠ p := hD.names.blk_ne hD.blk
  have hnv : (Value.slice A4 s.pend.length d4).ownBlock ≠ some s.mn := by
    have := hD.names.own_ne hD.pend
    rw [show (begun s v).vp = .slice A4 s.pend.length d4 from hvp] at this
    exact this
  constructor
  · refine (hD.changed (w' := w6.setCell ⟨p, 4, none⟩ (.slice A5 (s.pend.length + 1) d5)) c _ hc hok ?_ (hb6.set_ 4 _) ?_ ?_ ?_ ?_ ?_ hn).inF (fun k hk => Gr.mono hsz k hk)
    · intro k hk h1 h2 h3
      have h3' : (Value.slice A4 s.pend.length d4).ownBlock ≠ some k := by rw [← hvp]; exact h3
      have h2' : k ≠ s.mn := h2
      rw [Below.heap_setCell _ _ _ _ h1, hg6.block k (by rw [World.size_alloc]; omega) (Ne.symm h3'), Below.heap_alloc _ _ _ (by omega), hg5.block k (by omega) (by simpa using h2'), hB3.block k hk]
    · refine hd5.keep ?_
      rw [Below.heap_setCell _ _ _ _ hmp, hg6.block _ (by rw [World.size_alloc]; omega) (Ne.symm hnv), Below.heap_alloc _ _ _ (by omega)]
    · have e : chsV (s.pend ++ [c]) = chsV s.pend ++ chV c := chsV_snoc _ _
      show (w6.setCell _ _).ownsRow 0 77 3 _ (s.pend.length + 1) (chsV (s.pend ++ [c]))
      rw [e]
      exact ownsRow_setCell_other hw6 (own_blk_ne hw6 hb6 (by decide)) _
    · rcases hl6 with e | e
      · exact .inl (by show _ = s.vp.ownBlock; rw [hvp]; exact e)
      · refine .inr fun k hk => ?_
        rw [e] at hk
        injection hk with hk
        rw [World.size_alloc] at hk
        omega
    · have h1 := len_doL s.names c
      have h2 := h0.namesL
      show (doL s.names c).length ≤ s.ops + 1
      omega
    · have h2 := h0.pendL
      show s.pend.length + 1 ≤ s.ops + 1
      omega
  · have c3 := hC.below hB3 hsz
    have c4 := c3.grown hg5 (fun g hg => by cases hg; exact hD.mnF)
    have c5 := (c4.alloc o).grown hg6 (fun g hg => hD.pendF g (by rw [show (begun s v).vp = .slice A4 s.pend.length d4 from hvp]; exact hg))
    exact c5.setCell (p := ⟨p, 4, none⟩) hD.own _

def removeC (s : DS) (nm : ByteArray) : Int := if (beginS s [nm]).2 = 0 then (if (dget s.names nm.data.toList).isSome then 0 else 3) else (beginS s [nm]).2
def RemovePost (w : World) (F : Nat → Prop) (p : Nat) (s : DS) (nm : ByteArray) (e : Ending) (w' : World) : Prop :=
  ∃ v s', e = .returned (.int .i64 (removeC s nm)) ∧ DiskAt w' (Gr F w) p s' ∧ Chg F w w' ∧
    ((removeC s nm ≠ 0 ∧ s' = begun s v) ∨ (removeC s nm = 0 ∧ rightB nm = true ∧ (dget s.names nm.data.toList).isSome = true ∧ ∃ v2, s' = changed (begun s v) ⟨nm.data.toList, [], none⟩ v2))

set_option maxRecDepth 100000 in
set_option maxHeartbeats 6400000 in
theorem remove_any (w : World) (F : Nat → Prop) (p : Nat) (s : DS) (nm : ByteArray) (h : DiskAt w F p s) (hnm : nm.size ≤ 9223372036854775807) (hnm2 : nm.size ≤ maxLen)
    (ho : s.ops ≤ 999999) (hf : s.flts.length ≤ 100000) : Calls Tryz.prog 47 #[.pointer (some ⟨p, 0, none⟩), .string nm] w (RemovePost w F p s nm) := by
  obtain ⟨i0, hi, hz0, hz1, hz2⟩ := info_parts info77
  have HI := Lib.hid hi
  have HZ0 := Lib.hid hz0
  have HZ1 := Lib.hid hz1
  have HZ2 := Lib.hid hz2
  have hp := h.lt
  have H := Lib.hid h
  clear h hi hz0 hz1 hz2
  go_enter Tryz.func47, Tryz.ntmps47
  go_wp2_with fail
  refine (begin1_any w F p s nm H.out hnm ho hf).mono ?_
  rintro e w2 ⟨v, rfl, hD2, hc2, hs2⟩
  have HD := Lib.hid hD2
  have HC := Lib.hid hc2
  clear hD2 hc2
  obtain ⟨kd, why, hk⟩ : ∃ kd why, beginS s [nm] = (kd, why) := ⟨_, _, rfl⟩
  rw [hk]
  have HK := Lib.hid hk
  clear hk
  by_cases hwy : why = 0
  · subst hwy
    have hrt := beginS_right (s := s) (nm := nm) (by rw [HK.out])
    have HRT := Lib.hid hrt
    have c2 : w2.cell? ⟨p, 2, none⟩ = some (.map (some s.mn)) := HD.out.blk.cell 2
    have hlook : (Instr.lookup 63 (.map (some s.mn)) (.string nm) false).run Tryz.prog w2 = .ok (ptrV (dget s.names nm.data.toList)) w2 := HD.out.names.look nm hnm2
    clear hrt
    cases hd : dget s.names nm.data.toList with
    | none =>
      have HDG := Lib.hid hd
      rw [hd] at hlook
      simp only [ptrV] at hlook
      clear hd
      go_wp2
      go_ret
      have e4 : removeC s nm = 3 := by
        unfold removeC
        rw [HK.out, if_pos rfl, HDG.out]
        rfl
      exact ⟨v, _, by rw [e4]; rfl, HD.out, HC.out, .inl ⟨by rw [e4]; decide, rfl⟩⟩
    | some g =>
      have HDG := Lib.hid hd
      rw [hd] at hlook
      simp only [ptrV] at hlook
      clear hd
      go_upto_region 7 with fail
      obtain ⟨w3, hw3⟩ : ∃ w3, w2.alloc (.cells #[.string nm, .string ⟨#[]⟩, .pointer none] 77) = w3 := ⟨_, rfl⟩
      have hs3 : w3.heap.size = w2.heap.size + 1 := by rw [← hw3]; simp
      have hb3 : Below w2.heap.size w2 w3 := by rw [← hw3]; exact (Below.refl _ w2).alloc (Nat.le_refl _) _
      have bX : Blk w3 w2.heap.size 77 #[.string nm, .string ⟨#[]⟩, .pointer none] := by rw [← hw3]; exact Blk.new w2 77 _
      have hN3 : DirAt w3 s.mn s.names.length s.names := HD.out.names.keep (hb3.block _ HD.out.names.lt)
      have e2 : w3.cell? ⟨p, 2, none⟩ = some (.map (some s.mn)) := (hb3.cell HD.out.blk.lt).trans c2
      have x0 : w3.cell? ⟨w2.heap.size, 0, none⟩ = some (.string nm) := bX.cell 0
      have x1 : w3.cell? ⟨w2.heap.size, 1, none⟩ = some (.string ⟨#[]⟩) := bX.cell 1
      have x2 : w3.cell? ⟨w2.heap.size, 2, none⟩ = some (.pointer none) := bX.cell 2
      have hnv : nmV nm.data.toList = .string nm := by simp [nmV]
      have hnl := HD.out.namesL
      have hol : (begun s v).ops = s.ops + 1 := rfl
      have hno : nmOk nm.data.toList := by unfold nmOk; have := rightB_size HRT.out; rw [Array.length_toList]; exact this
      have HDO := Lib.hid (show Calls Tryz.prog 34 #[.agg #[.string nm, .string ⟨#[]⟩, .pointer none], .map (some s.mn)] w3.drew fun e w' => e = .returned (.tuple #[]) ∧ DirAt w' s.mn (doL s.names ⟨nm.data.toList, [], none⟩).length (doL s.names ⟨nm.data.toList, [], none⟩) ∧ w3.drew.grownBy w' (some s.mn) from by
        have := do_any w3.drew s.mn s.names ⟨nm.data.toList, [], none⟩ hN3 hno (Nat.zero_le _) (by have h1 : s.names.length ≤ (begun s v).ops := hnl; omega) (fun _ h => absurd rfl h)
        rw [hnv] at this
        exact this)
      have HNO := Lib.hid hno
      have HBX := Lib.hid bX
      have HB3 := Lib.hid hb3
      rw [hw3]
      clear hw3 hb3 bX hN3 hlook c2 hno hnv hol hnl
      go_still_tail 5, (by kernel_rfl)
      change wpList _ _ _ _ _ w3.drew
      go_wp2_with fail
      refine HDO.out.mono ?_
      rintro e w4 ⟨rfl, hd4, hg4⟩
      obtain ⟨A4, d4, hvp⟩ := own_slice HD.out.pend
      have hmn := HD.out.names.lt
      have hml : s.mn < w2.heap.size := hmn
      have hpl : p < w2.heap.size := HD.out.blk.lt
      have hmp : s.mn ≠ p := HD.out.names.blk_ne HD.out.blk
      have hg5 : w3.grownBy w4.drew (some s.mn) := ⟨hg4.os, hg4.tape, hg4.output, hg4.size, hg4.block⟩
      have hd5 : DirAt w4.drew s.mn (doL s.names ⟨nm.data.toList, [], none⟩).length (doL s.names ⟨nm.data.toList, [], none⟩) := hd4
      have bP3 : Blk w3 p 67 _ := HD.out.blk.below HB3.out hpl
      have bP5 : Blk w4.drew p 67 _ := bP3.grown hg5 (by simp; omega)
      have oP3 := own_keep (w' := w3) HD.out.pend (fun k _ hk => HB3.out.block k hk)
      have oP5 := own_keep (w' := w4.drew) oP3 (fun k hk hk2 => hg5.block k hk2 (fun e => HD.out.names.own_ne HD.out.pend (by rw [hk, e]; rfl)))
      have p4 : w4.cell? ⟨p, 4, none⟩ = some (.slice A4 s.pend.length d4) := (bP5.cell 4).trans (congrArg some hvp)
      have y0 : w4.cell? ⟨w2.heap.size, 0, none⟩ = some (.string nm) := (HBX.out.grown hg5 (by simp; omega)).cell 0
      have y1 : w4.cell? ⟨w2.heap.size, 1, none⟩ = some (.string ⟨#[]⟩) := (HBX.out.grown hg5 (by simp; omega)).cell 1
      have y2 : w4.cell? ⟨w2.heap.size, 2, none⟩ = some (.pointer none) := (HBX.out.grown hg5 (by simp; omega)).cell 2
      have hs5 := hg5.size
      have HG5 := Lib.hid hg5
      have HD5 := Lib.hid hd5
      have HBP5 := Lib.hid bP5
      have HOP5 := Lib.hid oP5
      have HVP := Lib.hid hvp
      clear hg4 hd4 hg5 hd5 bP3 bP5 oP3 oP5 hvp hmn x0 x1 x2 e2
      go_upto_region 8 with fail
      have hoP5 := HOP5.out
      rw [HVP.out] at hoP5
      have HOQ := Lib.hid hoP5
      have hpl2 : s.pend.length ≤ s.ops := H.out.pendL
      have hpl3 : p < w4.heap.size := by have : w3.heap.size ≤ w4.heap.size := hs5; omega
      have p4' : (w4.drew.alloc (.cells #[.string nm, .string ⟨#[]⟩, .pointer none] 77)).cell? ⟨p, 4, none⟩ = some (.slice A4 s.pend.length d4) := (World.cell?_alloc_lt w4.drew _ _ hpl3).trans p4
      clear hoP5
      go_region_law (first
        | (refine step_append_any (w4.drew.alloc (.cells #[.string nm, .string ⟨#[]⟩, .pointer none] 77)) (by rfl) (.tmp 37) (.tmp 39) 64 (by rfl) 0 77 i0 (.agg #[.string ⟨#[]⟩, .string ⟨#[]⟩, .pointer none]) 3 40 Tryz.underlying64 HI.out HZ0.out HZ1.out HZ2.out rfl (by omega) (.slice A4 s.pend.length d4) s.pend.length (chsV s.pend) (by rfl) (HOQ.out.alloc _) (w4.heap.size + 1) (some ⟨w4.heap.size, 0, none⟩) 1 1 [.string nm, .string ⟨#[]⟩, .pointer none] (by rfl) (reads_new3 w4.drew 77 _ _ _) (by intro u hu; simp at hu; rcases hu with rfl | rfl | rfl <;> rfl) (by simp [maxLen]; omega) (by omega) (Nat.zero_le _) ?_; intro v6 w6 hown6 hgrow6 hloc6; obtain ⟨A5, d5, hv5⟩ := own_slice hown6; subst hv5; have bP6 := (HBP5.out.alloc (.cells #[.string nm, .string ⟨#[]⟩, .pointer none] 77)).grown hgrow6 (Ne.symm (own_blk_ne HOQ.out HBP5.out (by decide))); have y4 : w6.cell? ⟨p, 4, none⟩ = some (.slice A4 s.pend.length d4) := (bP6.cell 4).trans (congrArg some HVP.out); have z4 := bP6.frozen 4; have HBP6 := Lib.hid bP6; have HW6 := Lib.hid hown6; have HG6 := Lib.hid hgrow6; have HL6 := Lib.hid hloc6; have hs6 := hgrow6.size; rw [World.size_alloc] at hs6; clear bP6 hown6 hgrow6 hloc6))
      all_goals
        go_wp2
        go_ret
        have hch : chV ⟨nm.data.toList, [], none⟩ = [.string nm, .string ⟨#[]⟩, .pointer none] := by simp [chV, nmV, ptrV]
        obtain ⟨hDD, hCC⟩ := turn_end H.out HD.out HC.out (Nat.le_of_lt hs2) rfl (fun _ h => absurd rfl h) ⟨HNO.out, Nat.zero_le _⟩ HB3.out HG5.out HD5.out HVP.out HBP6.out (by rw [hch]; exact HW6.out) HG6.out HL6.out
        have e4 : removeC s nm = 0 := by
          unfold removeC
          rw [HK.out, if_pos rfl, HDG.out]
          rfl
        exact ⟨v, _, by rw [e4]; rfl, hDD, hCC, .inr ⟨e4, HRT.out, by rw [HDG.out]; rfl, _, rfl⟩⟩
  · have hq : (why != 0) = true := by simp [hwy]
    have HWY := Lib.hid hwy
    clear hwy
    go_wp2
    go_ret
    have e4 : removeC s nm = why := by
      unfold removeC
      rw [HK.out, if_neg HWY.out]
    exact ⟨v, _, by rw [e4]; rfl, HD.out, HC.out, .inl ⟨by rw [e4]; exact HWY.out, rfl⟩⟩
end Go.Proofs.YtfchnpdgnhoffaaGreatDoor
namespace Go.Proofs.YtfchnpdgnhoffaaGreatDoor
open Go.RowKit Go.Shelf Go.Maps

def renameC (s : DS) (od nm : ByteArray) : Int := if (beginS s [od, nm]).2 = 0 then (if (dget s.names od.data.toList).isSome then 0 else 3) else (beginS s [od, nm]).2
def RenamePost (w : World) (F : Nat → Prop) (p : Nat) (s : DS) (od nm : ByteArray) (e : Ending) (w' : World) : Prop :=
  ∃ v s', e = .returned (.int .i64 (renameC s od nm)) ∧ DiskAt w' (Gr F w) p s' ∧ Chg F w w' ∧
    ((renameC s od nm ≠ 0 ∧ s' = begun s v) ∨ (renameC s od nm = 0 ∧ rightB od = true ∧ rightB nm = true ∧ (dget s.names od.data.toList).isSome = true ∧
      ((od = nm ∧ s' = begun s v) ∨ (od ≠ nm ∧ ∃ v2, s' = changed (begun s v) ⟨od.data.toList, nm.data.toList, none⟩ v2))))

theorem begin2_any (w : World) (F : Nat → Prop) (p : Nat) (s : DS) (od nm : ByteArray) (h : DiskAt w F p s) (hod : od.size ≤ 9223372036854775807) (hnm : nm.size ≤ 9223372036854775807) (ho : s.ops ≤ 999999) (hf : s.flts.length ≤ 100000) :
    Calls Tryz.prog 71 #[.pointer (some ⟨p, 0, none⟩), .slice (some ⟨w.heap.size, 0, none⟩) 2 2] (w.alloc (.cells #[.string od, .string nm] 9)) fun e w' =>
      ∃ v, e = .returned (.tuple #[.int .i64 (beginS s [od, nm]).1, .int .i64 (beginS s [od, nm]).2]) ∧ DiskAt w' (Gr F w) p (begun s v) ∧ Chg F w w' ∧ w.heap.size < w'.heap.size := by
  have hp := h.lt
  obtain ⟨w1, hw1⟩ : ∃ w1, w.alloc (.cells #[.string od, .string nm] 9) = w1 := ⟨_, rfl⟩
  have hs1 : w1.heap.size = w.heap.size + 1 := by rw [← hw1]; simp
  have hR1 : Reads w1 w1.heap.size 1 (some ⟨w.heap.size, 0, none⟩) 2 ([od, nm].map Value.string) := by
    have hb := Blk.new w 9 #[.string od, .string nm]
    rw [hw1] at hb
    refine ⟨rfl, fun _ => ⟨_, rfl, hb.lt, fun j u hu => ?_⟩⟩
    have e : (⟨w.heap.size, 0, none⟩ : Addr).add j = ⟨w.heap.size, j, none⟩ := by unfold Addr.add; split <;> simp_all
    rw [e, hb.cell j]
    match j with
    | 0 => exact hu
    | 1 => exact hu
    | j + 2 => cases hu
  have hc1 : Chg F w w1 := by rw [← hw1]; exact (Chg.refl F w).alloc _
  have hD1 : DiskAt w1 (Gr F w) p s := h.keep (fun k _ hk => by rw [← hw1]; exact Below.heap_alloc w _ k hk) (fun k hk => .inl hk)
  rw [hw1]
  refine (begin_any w1 (Gr F w) p s [od, nm] (some ⟨w.heap.size, 0, none⟩) 2 2 hD1 hR1 (fun x hx => by
    rcases List.mem_cons.1 hx with rfl | hx
    · exact hod
    · rw [List.mem_singleton.1 hx]; exact hnm) (by omega) (by omega) hf (fun ad e => by injection e with e; rw [← e]; show w.heap.size ≠ p; omega)).mono ?_
  rintro e w2 ⟨v, rfl, hD2, hc2⟩
  exact ⟨v, rfl, hD2.inF (fun k hk => Gr.mono (by omega) k hk), hc1.then hc2, by have := hc2.size; omega⟩
theorem beginS_right2 {s : DS} {od nm : ByteArray} (h : (beginS s [od, nm]).2 = 0) : rightB od = true ∧ rightB nm = true := by
  unfold beginS at h
  split at h
  · cases h
  · split at h
    · cases h
    · cases hr : rightB od with
      | true => cases hr2 : rightB nm with
        | true => exact ⟨rfl, rfl⟩
        | false => simp [hr2] at h
      | false => simp [hr] at h

set_option maxRecDepth 100000 in
set_option maxHeartbeats 6400000 in
theorem rename_any (w : World) (F : Nat → Prop) (p : Nat) (s : DS) (od nm : ByteArray) (h : DiskAt w F p s) (hod : od.size ≤ 9223372036854775807) (hod2 : od.size ≤ maxLen) (hnm : nm.size ≤ 9223372036854775807)
    (ho : s.ops ≤ 999999) (hf : s.flts.length ≤ 100000) : Calls Tryz.prog 56 #[.pointer (some ⟨p, 0, none⟩), .string od, .string nm] w (RenamePost w F p s od nm) := by
  obtain ⟨i0, hi, hz0, hz1, hz2⟩ := info_parts info77
  have HI := Lib.hid hi
  have HZ0 := Lib.hid hz0
  have HZ1 := Lib.hid hz1
  have HZ2 := Lib.hid hz2
  have hp := h.lt
  have H := Lib.hid h
  clear h hi hz0 hz1 hz2
  go_enter Tryz.func56, Tryz.ntmps56
  go_wp2_with fail
  refine (begin2_any w F p s od nm H.out hod hnm ho hf).mono ?_
  rintro e w2 ⟨v, rfl, hD2, hc2, hs2⟩
  have HD := Lib.hid hD2
  have HC := Lib.hid hc2
  clear hD2 hc2
  obtain ⟨kd, why, hk⟩ : ∃ kd why, beginS s [od, nm] = (kd, why) := ⟨_, _, rfl⟩
  rw [hk]
  have HK := Lib.hid hk
  clear hk
  by_cases hwy : why = 0
  · subst hwy
    obtain ⟨hro, hrt⟩ := beginS_right2 (s := s) (od := od) (nm := nm) (by rw [HK.out])
    have HRO := Lib.hid hro
    have HRT := Lib.hid hrt
    have c2 : w2.cell? ⟨p, 2, none⟩ = some (.map (some s.mn)) := HD.out.blk.cell 2
    have hlook : (Instr.lookup 63 (.map (some s.mn)) (.string od) false).run Tryz.prog w2 = .ok (ptrV (dget s.names od.data.toList)) w2 := HD.out.names.look od hod2
    clear hro hrt
    cases hd : dget s.names od.data.toList with
    | none =>
      have HDG := Lib.hid hd
      rw [hd] at hlook
      simp only [ptrV] at hlook
      clear hd
      go_wp2
      go_ret
      have e4 : renameC s od nm = 3 := by
        unfold renameC
        rw [HK.out, if_pos rfl, HDG.out]
        rfl
      exact ⟨v, _, by rw [e4]; rfl, HD.out, HC.out, .inl ⟨by rw [e4]; decide, rfl⟩⟩
    | some g =>
      have HDG := Lib.hid hd
      rw [hd] at hlook
      simp only [ptrV] at hlook
      clear hd
      by_cases hon : od = nm
      · subst hon
        have hq2 : (od.toList == od.toList) = true := beq_self_eq_true _
        go_wp2
        go_ret
        have e4 : renameC s od od = 0 := by
          unfold renameC
          rw [HK.out, if_pos rfl, HDG.out]
          rfl
        exact ⟨v, _, by rw [e4]; rfl, HD.out, HC.out, .inr ⟨e4, HRO.out, HRO.out, by rw [HDG.out]; rfl, .inl ⟨rfl, rfl⟩⟩⟩
      have hq2 : (od.toList == nm.toList) = false := by rw [ByteArray.toList_eq, ByteArray.toList_eq]; exact beq_false_of_ne (fun e => hon (Go.WideShapes.bytes_inj e))
      have HON := Lib.hid hon
      clear hon
      go_upto_region 9 with fail
      obtain ⟨w3, hw3⟩ : ∃ w3, w2.alloc (.cells #[.string od, .string nm, .pointer none] 77) = w3 := ⟨_, rfl⟩
      have hs3 : w3.heap.size = w2.heap.size + 1 := by rw [← hw3]; simp
      have hb3 : Below w2.heap.size w2 w3 := by rw [← hw3]; exact (Below.refl _ w2).alloc (Nat.le_refl _) _
      have bX : Blk w3 w2.heap.size 77 #[.string od, .string nm, .pointer none] := by rw [← hw3]; exact Blk.new w2 77 _
      have hN3 : DirAt w3 s.mn s.names.length s.names := HD.out.names.keep (hb3.block _ HD.out.names.lt)
      have e2 : w3.cell? ⟨p, 2, none⟩ = some (.map (some s.mn)) := (hb3.cell HD.out.blk.lt).trans c2
      have x0 : w3.cell? ⟨w2.heap.size, 0, none⟩ = some (.string od) := bX.cell 0
      have x1 : w3.cell? ⟨w2.heap.size, 1, none⟩ = some (.string nm) := bX.cell 1
      have x2 : w3.cell? ⟨w2.heap.size, 2, none⟩ = some (.pointer none) := bX.cell 2
      have hnv : nmV nm.data.toList = .string nm := by simp [nmV]
      have hov : nmV od.data.toList = .string od := by simp [nmV]
      have hoo : nmOk od.data.toList := by unfold nmOk; have := rightB_size HRO.out; rw [Array.length_toList]; exact this
      have hok : okC s.names ⟨od.data.toList, nm.data.toList, none⟩ := fun _ _ => by rw [HDG.out]; rfl
      have hnl := HD.out.namesL
      have hol : (begun s v).ops = s.ops + 1 := rfl
      have hno : nmOk nm.data.toList := by unfold nmOk; have := rightB_size HRT.out; rw [Array.length_toList]; exact this
      have HDO := Lib.hid (show Calls Tryz.prog 34 #[.agg #[.string od, .string nm, .pointer none], .map (some s.mn)] w3.drew fun e w' => e = .returned (.tuple #[]) ∧ DirAt w' s.mn (doL s.names ⟨od.data.toList, nm.data.toList, none⟩).length (doL s.names ⟨od.data.toList, nm.data.toList, none⟩) ∧ w3.drew.grownBy w' (some s.mn) from by
        have := do_any w3.drew s.mn s.names ⟨od.data.toList, nm.data.toList, none⟩ hN3 hoo hno (by have h1 : s.names.length ≤ (begun s v).ops := hnl; omega) hok
        rw [hnv, hov] at this
        exact this)
      have HNO := Lib.hid hno
      have HOO := Lib.hid hoo
      have HOK := Lib.hid hok
      have HBX := Lib.hid bX
      have HB3 := Lib.hid hb3
      rw [hw3]
      clear hw3 hb3 bX hN3 hlook c2 hno hnv hol hnl hov hoo hok
      go_still_tail 5, (by kernel_rfl)
      change wpList _ _ _ _ _ w3.drew
      go_wp2_with fail
      refine HDO.out.mono ?_
      rintro e w4 ⟨rfl, hd4, hg4⟩
      obtain ⟨A4, d4, hvp⟩ := own_slice HD.out.pend
      have hmn := HD.out.names.lt
      have hml : s.mn < w2.heap.size := hmn
      have hpl : p < w2.heap.size := HD.out.blk.lt
      have hmp : s.mn ≠ p := HD.out.names.blk_ne HD.out.blk
      have hg5 : w3.grownBy w4.drew (some s.mn) := ⟨hg4.os, hg4.tape, hg4.output, hg4.size, hg4.block⟩
      have hd5 : DirAt w4.drew s.mn (doL s.names ⟨od.data.toList, nm.data.toList, none⟩).length (doL s.names ⟨od.data.toList, nm.data.toList, none⟩) := hd4
      have bP3 : Blk w3 p 67 _ := HD.out.blk.below HB3.out hpl
      have bP5 : Blk w4.drew p 67 _ := bP3.grown hg5 (by simp; omega)
      have oP3 := own_keep (w' := w3) HD.out.pend (fun k _ hk => HB3.out.block k hk)
      have oP5 := own_keep (w' := w4.drew) oP3 (fun k hk hk2 => hg5.block k hk2 (fun e => HD.out.names.own_ne HD.out.pend (by rw [hk, e]; rfl)))
      have p4 : w4.cell? ⟨p, 4, none⟩ = some (.slice A4 s.pend.length d4) := (bP5.cell 4).trans (congrArg some hvp)
      have y0 : w4.cell? ⟨w2.heap.size, 0, none⟩ = some (.string od) := (HBX.out.grown hg5 (by simp; omega)).cell 0
      have y1 : w4.cell? ⟨w2.heap.size, 1, none⟩ = some (.string nm) := (HBX.out.grown hg5 (by simp; omega)).cell 1
      have y2 : w4.cell? ⟨w2.heap.size, 2, none⟩ = some (.pointer none) := (HBX.out.grown hg5 (by simp; omega)).cell 2
      have hs5 := hg5.size
      have HG5 := Lib.hid hg5
      have HD5 := Lib.hid hd5
      have HBP5 := Lib.hid bP5
      have HOP5 := Lib.hid oP5
      have HVP := Lib.hid hvp
      clear hg4 hd4 hg5 hd5 bP3 bP5 oP3 oP5 hvp hmn x0 x1 x2 e2
      go_upto_region 10 with fail
      have hoP5 := HOP5.out
      rw [HVP.out] at hoP5
      have HOQ := Lib.hid hoP5
      have hpl2 : s.pend.length ≤ s.ops := H.out.pendL
      have hpl3 : p < w4.heap.size := by have : w3.heap.size ≤ w4.heap.size := hs5; omega
      have p4' : (w4.drew.alloc (.cells #[.string od, .string nm, .pointer none] 77)).cell? ⟨p, 4, none⟩ = some (.slice A4 s.pend.length d4) := (World.cell?_alloc_lt w4.drew _ _ hpl3).trans p4
      clear hoP5
      go_region_law (first
        | (refine step_append_any (w4.drew.alloc (.cells #[.string od, .string nm, .pointer none] 77)) (by rfl) (.tmp 44) (.tmp 46) 64 (by rfl) 0 77 i0 (.agg #[.string ⟨#[]⟩, .string ⟨#[]⟩, .pointer none]) 3 40 Tryz.underlying64 HI.out HZ0.out HZ1.out HZ2.out rfl (by omega) (.slice A4 s.pend.length d4) s.pend.length (chsV s.pend) (by rfl) (HOQ.out.alloc _) (w4.heap.size + 1) (some ⟨w4.heap.size, 0, none⟩) 1 1 [.string od, .string nm, .pointer none] (by rfl) (reads_new3 w4.drew 77 _ _ _) (by intro u hu; simp at hu; rcases hu with rfl | rfl | rfl <;> rfl) (by simp [maxLen]; omega) (by omega) (Nat.zero_le _) ?_; intro v6 w6 hown6 hgrow6 hloc6; obtain ⟨A5, d5, hv5⟩ := own_slice hown6; subst hv5; have bP6 := (HBP5.out.alloc (.cells #[.string od, .string nm, .pointer none] 77)).grown hgrow6 (Ne.symm (own_blk_ne HOQ.out HBP5.out (by decide))); have y4 : w6.cell? ⟨p, 4, none⟩ = some (.slice A4 s.pend.length d4) := (bP6.cell 4).trans (congrArg some HVP.out); have z4 := bP6.frozen 4; have HBP6 := Lib.hid bP6; have HW6 := Lib.hid hown6; have HG6 := Lib.hid hgrow6; have HL6 := Lib.hid hloc6; have hs6 := hgrow6.size; rw [World.size_alloc] at hs6; clear bP6 hown6 hgrow6 hloc6))
      all_goals
        go_wp2
        go_ret
        have hch : chV ⟨od.data.toList, nm.data.toList, none⟩ = [.string od, .string nm, .pointer none] := by simp [chV, nmV, ptrV]
        obtain ⟨hDD, hCC⟩ := turn_end H.out HD.out HC.out (Nat.le_of_lt hs2) rfl HOK.out ⟨HOO.out, HNO.out⟩ HB3.out HG5.out HD5.out HVP.out HBP6.out (by rw [hch]; exact HW6.out) HG6.out HL6.out
        have e4 : renameC s od nm = 0 := by
          unfold renameC
          rw [HK.out, if_pos rfl, HDG.out]
          rfl
        exact ⟨v, _, by rw [e4]; rfl, hDD, hCC, .inr ⟨e4, HRO.out, HRT.out, by rw [HDG.out]; rfl, .inr ⟨HON.out, _, rfl⟩⟩⟩
  · have hq : (why != 0) = true := by simp [hwy]
    have HWY := Lib.hid hwy
    clear hwy
    go_wp2
    go_ret
    have e4 : renameC s od nm = why := by
      unfold renameC
      rw [HK.out, if_neg HWY.out]
    exact ⟨v, _, by rw [e4]; rfl, HD.out, HC.out, .inl ⟨by rw [e4]; exact HWY.out, rfl⟩⟩
end Go.Proofs.YtfchnpdgnhoffaaGreatDoor
namespace Go.Proofs.YtfchnpdgnhoffaaGreatDoor
open Go.RowKit Go.Shelf Go.Maps

def laterZ (ops : Nat) (n : Int) : Int := if (ops : Int) + max n 0 ≤ 9223372036854775807 then (ops : Int) + max n 0 else -1
/-- only the numbers of the disk's own block have turned -/
theorem DiskAt.reset {w w' : World} {F : Nat → Prop} {p : Nat} {s : DS} (h : DiskAt w F p s) (cap : Int) (st : Bool) (sp : Int) (hc : 0 ≤ cap ∧ cap < 9223372036854775808) (hg : ∀ k, k < w.heap.size → k ≠ p → w'.heap[k]? = w.heap[k]?)
    (hb : Blk w' p 67 #[.int .i64 cap, .int .i64 (s.ops : Int), .map (some s.mn), .map (some s.ms), s.vp, s.vf, .bool st, .int .i64 sp]) : DiskAt w' F p { s with cap := cap, stopped := st, stop := sp } := by
  have hmn : s.mn ≠ p := h.names.blk_ne h.blk
  have hms : s.ms ≠ p := h.safe.blk_ne h.blk
  exact {
    blk := hb
    own := h.own
    names := h.names.keep (hg _ h.names.lt hmn)
    safe := h.safe.keep (hg _ h.safe.lt hms)
    namesL := h.namesL
    safeL := h.safeL
    mnF := h.mnF
    msF := h.msF
    mne := h.mne
    pend := own_keep h.pend fun k hk hlt => hg k hlt fun e => own_blk_ne h.pend h.blk (by decide) (by rw [← e]; exact hk)
    pendF := h.pendF
    pendL := h.pendL
    flts := own_keep h.flts fun k hk hlt => hg k hlt fun e => own_blk_ne h.flts h.blk (by decide) (by rw [← e]; exact hk)
    fltsF := h.fltsF
    file := fun g hl => by
      have hf := h.file g hl
      have hgp : g ≠ p := Blk.ne_ hf.blk h.blk (by decide)
      exact ⟨(hg g hf.blk.lt hgp).trans hf.blk, hf.own, own_keep hf.row fun k hk hlt => hg k hlt fun e => own_blk_ne hf.row h.blk (by decide) (by rw [← e]; exact hk), hf.rowF, hf.le, hf.len⟩
    apart := h.apart
    nameOk := h.nameOk
    safeOk := h.safeOk
    pendOk := h.pendOk
    capB := hc
    rep := h.rep }

set_option maxRecDepth 100000 in
set_option maxHeartbeats 1600000 in
theorem later_any (w : World) (F : Nat → Prop) (p : Nat) (s : DS) (n : Int) (h : DiskAt w F p s) (ho : s.ops ≤ 1000000) (hn : -9223372036854775808 ≤ n ∧ n ≤ 9223372036854775807) :
    Calls Tryz.prog 64 #[.pointer (some ⟨p, 0, none⟩), .int .i64 n] w fun e w' => e = .returned (.int .i64 (laterZ s.ops n)) ∧ w' = w := by
  have c1 := h.cells.2.1
  clear h
  by_cases hm : (s.ops : Int) + max n 0 ≤ 9223372036854775807
  · have hw : IntKind.i64.wrap ((s.ops : Int) + max n 0) = (s.ops : Int) + max n 0 := IntWalk.i64_in _ (by omega)
    have hge : ((s.ops : Int) ≤ (s.ops : Int) + max n 0) := by omega
    have e : laterZ s.ops n = (s.ops : Int) + max n 0 := if_pos hm
    have HE := Lib.hid e
    clear e
    go_enter Tryz.func64, Tryz.ntmps64
    go_wp2
    go_ret
    exact ⟨by rw [HE.out]; rfl, rfl⟩
  · have hw : IntKind.i64.wrap ((s.ops : Int) + max n 0) = (s.ops : Int) + max n 0 - 18446744073709551616 := by rw [IntKind.wrap_i64]; omega
    have hge : ¬ ((s.ops : Int) ≤ (s.ops : Int) + max n 0 - 18446744073709551616) := by omega
    have e : laterZ s.ops n = -1 := if_neg hm
    have HE := Lib.hid e
    clear e
    go_enter Tryz.func64, Tryz.ntmps64
    go_wp2
    go_ret
    exact ⟨by rw [HE.out]; rfl, rfl⟩

set_option maxRecDepth 100000 in
set_option maxHeartbeats 1600000 in
theorem ops_any (w : World) (F : Nat → Prop) (p : Nat) (s : DS) (h : DiskAt w F p s) : Calls Tryz.prog 11 #[.pointer (some ⟨p, 0, none⟩)] w fun e w' => e = .returned (.int .i64 (s.ops : Int)) ∧ w' = w := by
  have c1 := h.cells.2.1
  clear h
  go_enter Tryz.func11, Tryz.ntmps11
  go_wp2
  go_ret
  exact ⟨rfl, rfl⟩
set_option maxRecDepth 100000 in
set_option maxHeartbeats 1600000 in
theorem stop_any (w : World) (F : Nat → Prop) (p : Nat) (s : DS) (n : Int) (h : DiskAt w F p s) (ho : s.ops ≤ 1000000) (hn : -9223372036854775808 ≤ n ∧ n ≤ 9223372036854775807) :
    Calls Tryz.prog 41 #[.pointer (some ⟨p, 0, none⟩), .int .i64 n] w fun e w' => e = .returned (.tuple #[]) ∧ DiskAt w' F p { s with stopped := decide (0 ≤ laterZ s.ops n), stop := laterZ s.ops n } ∧ Chg F w w' := by
  have H := Lib.hid h
  have q7 : w.cell? ⟨p, 7, none⟩ = some (.int .i64 s.stop) := h.blk.cell 7
  have f7 := h.blk.frozen 7
  have b1 := h.blk.set_ 7 (.int .i64 (laterZ s.ops n))
  have q7' : (w.setCell ⟨p, 7, none⟩ (.int .i64 (laterZ s.ops n))).cell? ⟨p, 7, none⟩ = some (.int .i64 (laterZ s.ops n)) := b1.cell 7
  have q6 : (w.setCell ⟨p, 7, none⟩ (.int .i64 (laterZ s.ops n))).cell? ⟨p, 6, none⟩ = some (.bool s.stopped) := b1.cell 6
  have f6 := b1.frozen 6
  have HB := Lib.hid (b1.set_ 6 (.bool (decide (0 ≤ laterZ s.ops n))))
  clear h b1
  go_enter Tryz.func41, Tryz.ntmps41
  go_wp2_with fail
  refine (later_any w F p s n H.out ho hn).mono ?_
  rintro e w1 ⟨rfl, rfl⟩
  go_wp2
  go_end0
  refine ⟨rfl, H.out.reset s.cap _ _ H.out.capB ?_ HB.out, ((Chg.refl F _).setCell (p := ⟨p, 7, none⟩) (.inl H.out.own) _).setCell (p := ⟨p, 6, none⟩) (.inl H.out.own) _⟩
  intro k _ hk
  rw [Below.heap_setCell _ _ _ _ hk, Below.heap_setCell _ _ _ _ hk]

end Go.Proofs.YtfchnpdgnhoffaaGreatDoor
namespace Go.Proofs.YtfchnpdgnhoffaaGreatDoor
open Go.RowKit Go.Shelf Go.Maps

def faulted (s : DS) (f : Int × Int) (v : Value) : DS := { s with flts := s.flts ++ [f], vf := v }
theorem DiskAt.faulted {w w' : World} {F : Nat → Prop} {p : Nat} {s : DS} (h : DiskAt w F p s) (f : Int × Int) (v : Value) (hg : ∀ k, k < w.heap.size → k ≠ p → s.vf.ownBlock ≠ some k → w'.heap[k]? = w.heap[k]?)
    (hb : Blk w' p 67 #[.int .i64 s.cap, .int .i64 (s.ops : Int), .map (some s.mn), .map (some s.ms), s.vp, v, .bool s.stopped, .int .i64 s.stop])
    (hv : w'.ownsRow 0 108 2 v (s.flts.length + 1) (fltsV (s.flts ++ [f]))) (hF : v.ownBlock = s.vf.ownBlock ∨ (∀ k, v.ownBlock = some k → w.heap.size ≤ k)) : DiskAt w' (Gr F w) p (faulted s f v) := by
  have hmn : s.mn ≠ p := h.names.blk_ne h.blk
  have hms : s.ms ≠ p := h.safe.blk_ne h.blk
  exact {
    blk := hb
    own := .inl h.own
    names := h.names.keep (hg _ h.names.lt hmn (h.names.own_ne h.flts))
    safe := h.safe.keep (hg _ h.safe.lt hms (h.safe.own_ne h.flts))
    namesL := h.namesL
    safeL := h.safeL
    mnF := .inl h.mnF
    msF := .inl h.msF
    mne := h.mne
    pend := own_keep h.pend fun k hk hlt => hg k hlt (fun e => own_blk_ne h.pend h.blk (by decide) (by rw [← e]; exact hk)) (own_ne2 h.pend h.flts (by decide) hk)
    pendF := fun k hk => .inl (h.pendF k hk)
    pendL := h.pendL
    flts := by
      have e : (s.flts ++ [f]).length = s.flts.length + 1 := by simp
      show w'.ownsRow 0 108 2 v (s.flts ++ [f]).length _
      rw [e]; exact hv
    fltsF := fun k hk => by
      rcases hF with e | e
      · exact .inl (h.fltsF k (by rw [← e]; exact hk))
      · exact .inr (e k hk)
    file := fun g hl => by
      have hf := h.file g hl
      have hgp : g ≠ p := Blk.ne_ hf.blk h.blk (by decide)
      exact ⟨(hg g hf.blk.lt hgp (own_blk_ne h.flts hf.blk (by decide))).trans hf.blk, .inl hf.own, own_keep hf.row fun k hk hlt => hg k hlt (fun e => own_blk_ne hf.row h.blk (by decide) (by rw [← e]; exact hk)) (own_ne2 hf.row h.flts (by decide) hk), fun k hk => .inl (hf.rowF k hk), hf.le, hf.len⟩
    apart := h.apart
    nameOk := h.nameOk
    safeOk := h.safeOk
    pendOk := h.pendOk
    capB := h.capB
    rep := h.rep }

set_option maxRecDepth 100000 in
set_option maxHeartbeats 6400000 in
theorem fault_any (w : World) (F : Nat → Prop) (p : Nat) (s : DS) (n k : Int) (h : DiskAt w F p s) (ho : s.ops ≤ 1000000) (hf : s.flts.length ≤ 100000) (hn : -9223372036854775808 ≤ n ∧ n ≤ 9223372036854775807) :
    Calls Tryz.prog 40 #[.pointer (some ⟨p, 0, none⟩), .int .i64 n, .int .i64 k] w fun e w' => e = .returned (.tuple #[]) ∧ ∃ v, DiskAt w' (Gr F w) p (faulted s (laterZ s.ops n, k) v) ∧ Chg F w w' := by
  obtain ⟨i0, hi, hz0, hz1, hz2⟩ := info_parts info108
  have HI := Lib.hid hi
  have HZ0 := Lib.hid hz0
  have HZ1 := Lib.hid hz1
  have HZ2 := Lib.hid hz2
  have hp := h.lt
  have H := Lib.hid h
  obtain ⟨A5, d5, hvf⟩ := own_slice h.flts
  have hoq := h.flts
  have hb := h.blk
  have p5 : w.cell? ⟨p, 5, none⟩ = some (.slice A5 s.flts.length d5) := (h.blk.cell 5).trans (congrArg some hvf)
  rw [hvf] at hoq
  have HOQ := Lib.hid hoq
  have HB := Lib.hid hb
  have HVF := Lib.hid hvf
  have HL := Lib.hid (later_any w.drew F p s n (h.drewN 1) ho hn)
  obtain ⟨a, ha⟩ : ∃ a, a = laterZ s.ops n := ⟨_, rfl⟩
  rw [← ha] at HL ⊢
  have p5' : (w.drew.alloc (.cells #[.int .i64 a, .int .i64 k] 108)).cell? ⟨p, 5, none⟩ = some (.slice A5 s.flts.length d5) := (World.cell?_alloc_lt w.drew _ _ hp).trans p5
  clear h hi hz0 hz1 hz2 hvf hoq hb ha
  go_enter Tryz.func40, Tryz.ntmps40
  go_upto_region 0 with fail
  go_region_law (first
    | (refine step_append_any (w.drew.alloc (.cells #[.int .i64 a, .int .i64 k] 108)) (by rfl) (.tmp 10) (.tmp 16) 65 (by rfl) 0 108 i0 (.agg #[.int .i64 0, .int .i64 0]) 2 16 Tryz.underlying65 HI.out HZ0.out HZ1.out HZ2.out rfl (by omega) (.slice A5 s.flts.length d5) s.flts.length (fltsV s.flts) (by rfl) (HOQ.out.alloc _) (w.heap.size + 1) (some ⟨w.heap.size, 0, none⟩) 1 1 [.int .i64 a, .int .i64 k] (by rfl) (reads_new2 w.drew 108 _ _) (by intro u hu; simp at hu; rcases hu with rfl | rfl <;> rfl) (by simp [maxLen]; omega) (by omega) (Nat.zero_le _) ?_; intro v6 w6 hown6 hgrow6 hloc6; obtain ⟨A7, d7, hv7⟩ := own_slice hown6; subst hv7; have bP6 := (HB.out.drew.alloc (.cells #[.int .i64 a, .int .i64 k] 108)).grown hgrow6 (Ne.symm (own_blk_ne HOQ.out HB.out (by decide))); have y5 : w6.cell? ⟨p, 5, none⟩ = some (.slice A5 s.flts.length d5) := (bP6.cell 5).trans (congrArg some HVF.out); have z5 := bP6.frozen 5; have HBP6 := Lib.hid bP6; have HW6 := Lib.hid hown6; have HG6 := Lib.hid hgrow6; have HL6 := Lib.hid hloc6; have hs6 := hgrow6.size; rw [World.size_alloc] at hs6; clear bP6 hown6 hgrow6 hloc6)
    | (go_simp; go_at_call 64; refine HL.out.mono ?_; rintro e w1 ⟨rfl, rfl⟩))
  all_goals
    go_wp2
    go_end0
    refine ⟨rfl, _, H.out.faulted (a, k) _ ?_ (HBP6.out.set_ 5 _) ?_ ?_, ?_⟩
    · intro x hx h1 h2
      have h2' : (Value.slice A5 s.flts.length d5).ownBlock ≠ some x := by rw [← HVF.out]; exact h2
      rw [Below.heap_setCell _ _ _ _ h1, HG6.out.block x (by rw [World.size_alloc]; exact Nat.lt_succ_of_lt hx) (Ne.symm h2')]
      exact Below.heap_alloc w.drew _ _ hx
    · rw [fltsV_snoc]
      exact ownsRow_setCell_other HW6.out (own_blk_ne HW6.out HBP6.out (by decide)) _
    · rcases HL6.out with e | e
      · exact .inl (by rw [HVF.out]; exact e)
      · refine .inr fun x hx => ?_
        rw [e] at hx
        injection hx with hx
        rw [World.size_alloc] at hx
        have : w.drew.heap.size = w.heap.size := rfl
        omega
    · exact ((((Chg.refl F w).drew).alloc _).grown HG6.out (fun g hg => .inl (H.out.fltsF g (by rw [HVF.out]; exact hg)))).setCell (p := ⟨p, 5, none⟩) (.inl H.out.own) _
end Go.Proofs.YtfchnpdgnhoffaaGreatDoor
namespace Go.Proofs.YtfchnpdgnhoffaaGreatDoor
open Go.RowKit Go.Shelf Go.Maps

set_option maxRecDepth 100000 in
set_option maxHeartbeats 3200000 in
theorem durable_any (w : World) (F : Nat → Prop) (p : Nat) (s : DS) (h : DiskAt w F p s) (ho : s.ops ≤ 1000000) :
    Calls Tryz.prog 65 #[.pointer (some ⟨p, 0, none⟩)] w fun e w' => ∃ (v : Value) (ss : List Nm), e = .returned v ∧ ss.Perm (s.safe.map (·.1)) ∧
      w'.ownsRow w.heap.size 9 1 v ss.length ((ss.mergeSort (fun x y => decide (x ≤ y))).map encStr) ∧ Below w.heap.size w w' := by
  have c3 := h.cells.2.2.2.1
  have hsl := h.safeL
  have hml := h.safe.lt
  have H := Lib.hid h
  clear h
  go_enter Tryz.func65, Tryz.ntmps65
  go_wp2_with fail
  refine ((callsIn_wide (n := 5)).1 (Tryz.maps_Keys_36 (some s.ms) w)).mono ?_
  rintro e w5 ⟨rfl, rfl⟩
  go_wp2_with fail
  have hmx : Maps.size (dirD s.safe) = s.safe.length := by simp [dirD, Maps.size]
  have HMX := Lib.hid hmx
  clear hmx
  refine ((callsIn_wide (n := 5)).1 (Tryz.slices_Sorted_keys_38_39 s.ms s.safe.length (dirD s.safe) ptrElem w H.out.safe (by rw [HMX.out]; simp [maxLen]; omega) (by rw [HMX.out]; omega))).mono ?_
  rintro e w6 ⟨v, ss, rfl, hS, hrow, -, hb6⟩
  have hb : Below w.heap.size w w6 := ((Below.refl _ w).alloc (Nat.le_refl _) _).trans (hb6.mono (by simp))
  have HROW := Lib.hid hrow
  have HB := Lib.hid hb
  have HS := Lib.hid hS
  clear hrow hb hS hb6
  go_wp2
  go_ret
  refine ⟨v, ss, rfl, strKeys_dir s.safe ▸ HS.out, own_low HROW.out (by simp), HB.out⟩
end Go.Proofs.YtfchnpdgnhoffaaGreatDoor
namespace Go.Proofs.YtfchnpdgnhoffaaGreatDoor
open Go.RowKit Go.Shelf Go.Maps

/-- slices.Sort of a row of the call's own -/
theorem sort_own (w : World) (B : Nat) (v : Value) (ss : List Nm) (h : w.ownsRow B 9 1 v ss.length (ss.map encStr)) (hl : ss.length ≤ 10000000) :
    Calls Tryz.prog 61 #[v] w fun e w' => e = .returned (.tuple #[]) ∧ w'.ownsRow B 9 1 v ss.length ((ss.mergeSort fun x y => decide (x ≤ y)).map encStr) ∧ w.grownBy w' v.ownBlock := by
  by_cases h0 : ss = []
  · subst h0
    obtain ⟨A, c, rfl⟩ := own_slice h
    refine (AnyM.slices_Sort_string_none Tryz.sort56 A c w).mono ?_
    rintro e w' ⟨rfl, rfl⟩
    exact ⟨rfl, by rw [List.mergeSort_nil]; exact h, only_refl _ _⟩
  · have hpos : 0 < ss.length := List.length_pos_iff.2 h0
    obtain ⟨g, cap, cur, hv, hbg, hcur, hncap, hcm, hcs, -⟩ := h.2.resolve_left (fun h => by omega)
    subst hv
    obtain ⟨g', cap', he, -, hgl, -, -, -, hH⟩ := Lib.holds_of_ownsRow h (by simp)
    obtain ⟨rfl, rfl⟩ : g = g' ∧ cap = cap' := by injection he with a b c; injection a with a; injection a with a; exact ⟨a, c⟩
    refine (AnyM.slices_Sort_string Tryz.sort56 g 0 cap ss w hH hgl (by omega)).mono ?_
    rintro e w' ⟨rfl, q, os, rfl⟩
    exact ⟨rfl, ownsRow_sorted (List.length_mergeSort ..) hbg hcur hncap hcm hcs, grownBy_sorted _⟩

/-- of the names those that begin so -/
def begN (pre : Nm) (l : List Nm) : List Nm := l.filter fun x => Go.Lib.hasPrefix x pre
def toCome (l : Dl) (left : Lit → Bool) : List Nm := (l.filter fun x => left (.string x.1)).map (·.1)
theorem toCome_none (l : Dl) (left : Lit → Bool) (h : ∀ k, left k = false) : toCome l left = [] := by
  unfold toCome
  rw [List.filter_eq_nil_iff.2 (fun x _ => by rw [h]; simp)]
  rfl
theorem toCome_strike : ∀ (l : Dl) (left : Lit → Bool) (s : Nm) (g : Nat), l.Pairwise (fun x y => x.1 ≠ y.1) → dget l s = some g → left (.string s) = true →
    (toCome l left).Perm (s :: toCome l (fun z => left z && !z.sameKey (.string s)))
  | [], _, _, _, _, h, _ => by cases h
  | x :: l, left, s, g, hp, h, hl => by
    rw [List.pairwise_cons] at hp
    by_cases e : x.1 = s
    · have hr : l.filter (fun x => left (.string x.1)) = l.filter (fun x => left (.string x.1) && !(Lit.string x.1).sameKey (.string s)) := by
        apply List.filter_congr
        intro y hy
        have : y.1 ≠ s := fun e2 => hp.1 y hy (e.trans e2.symm)
        simp [Lit.sameKey, this]
      unfold toCome
      rw [List.filter_cons_of_pos (by rw [e]; exact hl), List.filter_cons_of_neg (by simp [Lit.sameKey, e]), ← hr, List.map_cons, e]
    · have hd : dget l s = some g := by
        unfold dget at h ⊢
        rw [List.find?_cons_of_neg (by simp [e])] at h
        exact h
      have ih := toCome_strike l left s g hp.2 hd hl
      have hsk : (!(Lit.string x.1).sameKey (.string s)) = true := by simp [Lit.sameKey, e]
      unfold toCome at ih ⊢
      cases hx : left (.string x.1)
      · rw [List.filter_cons_of_neg (by simp [hx]), List.filter_cons_of_neg (by simp [hx])]
        exact ih
      · rw [List.filter_cons_of_pos (p := fun x : Nm × Nat => left (.string x.1)) hx, List.filter_cons_of_pos (by simp only [hx, hsk, Bool.and_true])]
        simp only [List.map_cons]
        exact (ih.cons _).trans (List.Perm.swap _ _ _)
theorem toCome_all (l : Dl) : toCome l (Maps.has (dirD l)) = l.map (·.1) := by
  unfold toCome
  rw [List.filter_eq_self.2]
  intro x hx
  rw [has_dirD]
  cases h : dget l x.1 with
  | some g => rfl
  | none => exact absurd rfl (dget_none.1 h x hx)
theorem begN_len (pre : Nm) (l : List Nm) : (begN pre l).length ≤ l.length := List.length_filter_le _ _

def ListR (w : World) (s : DS) (pre : Nm) (acc : Value) (wr : World) : Prop :=
  ∃ (left : Lit → Bool) (cnt : Nat) (ks : List Nm), wr.ranges Tryz.prog 9 ptrElem s.mn w.heap.size s.names.length (dirD s.names) left cnt ∧ (ks ++ begN pre (toCome s.names left)).Perm (begN pre (s.names.map (·.1))) ∧
    wr.ownsRow (w.heap.size + 1) 9 1 acc ks.length (ks.map encStr) ∧ Below w.heap.size w wr
theorem info9 : (Tryz.prog.info? 9).map (fun i => (i.zero, i.size, i.bytes)) = some (some (.string ⟨#[]⟩), 1, 16) := by kernel_rfl
theorem one_str (w : World) (x : ByteArray) : Reads (w.alloc (.cells #[.string x] 9)) (w.heap.size + 1) 1 (some ⟨w.heap.size, 0, none⟩) 1 [.string x] := by
  have hb := Blk.new w 9 #[.string x]
  refine ⟨rfl, fun _ => ⟨_, rfl, by show w.heap.size < _; omega, fun j u hu => ?_⟩⟩
  have e : (⟨w.heap.size, 0, none⟩ : Addr).add j = ⟨w.heap.size, j, none⟩ := by unfold Addr.add; split <;> simp_all
  rw [e, hb.cell j]
  match j with
  | 0 => exact hu
  | j + 1 => cases hu

set_option maxRecDepth 100000 in
set_option maxHeartbeats 6400000 in
theorem list_any (w : World) (F : Nat → Prop) (p : Nat) (s : DS) (pre : ByteArray) (h : DiskAt w F p s) (ho : s.ops ≤ 1000000) :
    Calls Tryz.prog 46 #[.pointer (some ⟨p, 0, none⟩), .string pre] w fun e w' => ∃ (v : Value) (ss : List Nm), e = .returned v ∧ ss.Perm (begN pre.data.toList (s.names.map (·.1))) ∧
      w'.ownsRow w.heap.size 9 1 v ss.length ((ss.mergeSort (fun x y => decide (x ≤ y))).map encStr) ∧ Below w.heap.size w w' := by
  obtain ⟨i0, hi, hz0, hz1, hz2⟩ := info_parts info9
  have HI := Lib.hid hi
  have HZ0 := Lib.hid hz0
  have HZ1 := Lib.hid hz1
  have HZ2 := Lib.hid hz2
  have hp := h.lt
  have hml := h.names.lt
  have hnl := h.namesL
  obtain ⟨-, -, c2, -, -, -, -, -⟩ := h.cells
  have H := Lib.hid h
  clear h hi hz0 hz1 hz2
  go_enter Tryz.func46, Tryz.ntmps46
  go_wp2_with (at_range; refine wpList_range_own _ rfl _ 63 rfl 9 74 law9 Tryz.underlying63 ptrElem s.mn s.names.length (dirD s.names) rfl H.out.names ?_; intro w0 hrg0 hg0 hs0)
  go_frame
  have HR0 := Lib.hid hrg0
  have HG0 := Lib.hid hg0
  clear hrg0 hg0
  go_loopw [5] (fun acc wr => ListR w s pre.data.toList acc wr) (fun _ wr => wr.rangeLeft s.mn w.heap.size)
  case atStart => exact ⟨_, _, [], HR0.out, by rw [toCome_all]; exact List.Perm.refl _, World.ownsRow_nil _ _ _ _, below_of_only HG0.out⟩
  case round =>
    obtain ⟨left, cnt, ks, hrg, hperm, hrow, hb⟩ := hrel
    have HRG := Lib.hid hrg
    have HPM := Lib.hid hperm
    have HB := Lib.hid hb
    have hlen : ks.length ≤ 1000000 := by
      have h1 := hperm.length_eq
      have h2 := begN_len pre.data.toList (s.names.map (·.1))
      rw [List.length_append] at h1
      rw [List.length_map] at h2
      omega
    obtain ⟨A5, d5, rfl⟩ := own_slice hrow
    have HROW := Lib.hid hrow
    clear hrg hperm hb hrow HR0 HG0
    go_wp2_with (at_next; refine wpList_next_ranges _ rfl _ rfl 9 law9 ptrElem Value.string Value.pointer inv_key inv_ptr s.mn w.heap.size s.names.length (dirD s.names) left cnt rfl HRG.out ?_ ?_)
    · intro _ hl0
      have HL0 := Lib.hid hl0
      clear hl0
      go_wp2_with fail
      refine (sort_own _ (w.heap.size + 1) _ ks HROW.out (by omega)).mono ?_
      rintro e w3 ⟨rfl, hrow3, hg3⟩
      have HR3 := Lib.hid hrow3
      have HB3 := Lib.hid (HB.out.grown hg3 HB.out.size (fun k hk => by have := (HROW.out.lt k hk).1; omega))
      clear hrow3 hg3
      go_wp2
      go_ret
      have hpm := HPM.out
      rw [toCome_none _ _ HL0.out] at hpm
      refine ⟨_, ks, rfl, (List.append_nil ks) ▸ hpm, own_low HR3.out (Nat.le_succ _), HB3.out⟩
    · intro x c kl y1 y2 w1 cnt1 hkey hlx hR hat hrg1 hlt hg1 hs1 hen
      obtain ⟨x', e1, rfl, -⟩ := WideMaps.string_of_keyOf Tryz.underlying9 hkey
      obtain rfl : x = x' := by injection e1
      obtain ⟨g, hdg⟩ : ∃ g, dget s.names x.data.toList = some g := by
        cases hd : dget s.names x.data.toList with
        | some g => exact ⟨g, rfl⟩
        | none =>
          have h1 := hat .nil
          have h2 := hat (.lit (.bool true))
          rw [dirD_at, hd] at h1 h2
          rw [← h2] at h1
          cases h1
      have hb1 : Below w.heap.size w w1 := HB.out.grown hg1 HB.out.size (fun k hk => by cases hk; exact Nat.le_refl _)
      have hst := toCome_strike s.names left x.data.toList g H.out.names.tidy hdg hlx
      have hrow1 := own_keep (w' := w1) HROW.out (fun k hk hk2 => hg1.block k hk2 (by have := (HROW.out.lt k hk).1; simp; omega))
      have HRG1 := Lib.hid hrg1
      have HB1 := Lib.hid hb1
      have HST := Lib.hid hst
      have HR1 := Lib.hid hrow1
      have hs1' := hb1.size
      have hrl := hrg1.lt
      clear hst hkey hR hat hrg1 hb1 hdg hlx hg1 hrow1 hs1
      go_wp2_with fail
      refine (Tryz.strings_HasPrefix x pre w1).mono ?_
      rintro e w2 ⟨rfl, rfl⟩
      obtain ⟨b, hb⟩ : ∃ b, b = Go.Lib.hasPrefix x.data.toList pre.data.toList := ⟨_, rfl⟩
      rw [← hb]
      have HBX := Lib.hid hb
      clear hb
      have hrne : s.mn ≠ w.heap.size := by omega
      cases b with
      | false =>
        go_wp2
        refine ⟨⟨_, cnt1, ks, HRG1.out, ?_, HR1.out, HB1.out⟩, ?_⟩
        · have e : begN pre.data.toList (x.data.toList :: toCome s.names (fun z => left z && !z.sameKey (.string x.data.toList))) = begN pre.data.toList (toCome s.names (fun z => left z && !z.sameKey (.string x.data.toList))) := by
            unfold begN
            rw [List.filter_cons_of_neg (by rw [← HBX.out]; simp)]
          have h1 : (begN pre.data.toList (toCome s.names left)).Perm (begN pre.data.toList (x.data.toList :: toCome s.names (fun z => left z && !z.sameKey (.string x.data.toList)))) := HST.out.filter _
          rw [e] at h1
          exact (List.Perm.append_left ks h1.symm).trans HPM.out
        · rw [HRG1.out.left_eq, HRG.out.left_eq]
          exact hlt
      | true =>
        go_wp2_with (at_builtin; (refine wpList_append_any _ rfl (.tmp 19) (.tmp 21) 79 rfl (w.heap.size + 1) 9 i0 (.string ⟨#[]⟩) 1 16 Tryz.underlying79 HI.out HZ0.out HZ1.out HZ2.out rfl (by omega) (.slice A5 ks.length d5) ks.length (ks.map encStr) rfl (HR1.out.alloc _) (w2.heap.size + 1) (some ⟨w2.heap.size, 0, none⟩) 1 1 [.string x] rfl (one_str w2 x) (by intro u hu; rw [List.mem_singleton.1 hu]; rfl) (by simp [maxLen]; omega) (by omega) (by simp; omega) ?_; intro v6 w6 hown6 hgrow6 _; have HW6 := Lib.hid hown6; have HG6 := Lib.hid hgrow6; obtain ⟨A7, d7, hv7⟩ := own_slice hown6; subst hv7; clear hown6 hgrow6))
        have hne1 : some s.mn ≠ (Value.slice A5 ks.length d5).ownBlock := fun e => by have := (HR1.out.lt _ e.symm).1; omega
        have hne2 : some w.heap.size ≠ (Value.slice A5 ks.length d5).ownBlock := fun e => by have := (HR1.out.lt _ e.symm).1; omega
        have hrg6 := (HRG1.out.alloc (.cells #[.string x] 9)).kept HG6.out hne1 hne2
        refine ⟨⟨_, cnt1, ks ++ [x.data.toList], hrg6, ?_, ?_, ?_⟩, ?_⟩
        · have e : begN pre.data.toList (x.data.toList :: toCome s.names (fun z => left z && !z.sameKey (.string x.data.toList))) = x.data.toList :: begN pre.data.toList (toCome s.names (fun z => left z && !z.sameKey (.string x.data.toList))) := by
            unfold begN
            rw [List.filter_cons_of_pos (by rw [← HBX.out])]
          have h1 : (begN pre.data.toList (toCome s.names left)).Perm (begN pre.data.toList (x.data.toList :: toCome s.names (fun z => left z && !z.sameKey (.string x.data.toList)))) := HST.out.filter _
          rw [e] at h1
          have h2 := (List.Perm.append_left ks h1.symm).trans HPM.out
          rw [List.append_assoc]
          exact h2
        · have e : (ks ++ [x.data.toList]).map encStr = ks.map encStr ++ [.string x] := by rw [List.map_append]; simp [encStr]
          rw [e, List.length_append]
          exact HW6.out
        · exact (HB1.out.alloc hs1' _).grown HG6.out (by simp; omega) (fun k hk => by have := (HR1.out.lt k hk).1; omega)
        · rw [hrg6.left_eq, HRG.out.left_eq]
          exact hlt
end Go.Proofs.YtfchnpdgnhoffaaGreatDoor
namespace Go.Proofs.YtfchnpdgnhoffaaGreatDoor
open Go.RowKit Go.Shelf Go.Maps

theorem strOfNums_bytes (l : List UInt8) : strOfNums (l.map fun b => (b.toNat : Int)) = ⟨l.toArray⟩ := by
  have h : (strOfNums (l.map fun b => (b.toNat : Int))).data.toList = l := by
    rw [strOfNums_data, List.map_map]
    conv => rhs; rw [← List.map_id l]
    apply List.map_congr_left
    intro b _
    simp
  have h2 : (strOfNums (l.map fun b => (b.toNat : Int))).data = l.toArray := by rw [← Array.toList_inj, h]
  calc strOfNums (l.map fun b => (b.toNat : Int)) = ⟨(strOfNums (l.map fun b => (b.toNat : Int))).data⟩ := rfl
    _ = ⟨l.toArray⟩ := by rw [h2]
theorem run_str_at (w : World) (g c : Nat) (l : List UInt8) (h : ∀ i, i < l.length → w.cell? ⟨g, i, none⟩ = some (.int .u8 ((l.map fun b => (b.toNat : Int)).getD i 0))) : (convert 25 9 (.slice (some ⟨g, 0, none⟩) l.length c)).run Tryz.prog w = .ok (.string ⟨l.toArray⟩) w := by
  have := run_convert_bytes_arg (P := Tryz.prog) w 25 5 Tryz.underlying25 Tryz.underlying5 g 0 l.length c (l.map fun b => (b.toNat : Int)) (by simp) (fun i hi => by rw [Nat.zero_add]; exact h i hi) 9 Tryz.underlying9
  rwa [strOfNums_bytes] at this
theorem run_str_of_row (w : World) (base : Nat) (v : Value) (l : List UInt8) (h : w.ownsRow base 5 1 v l.length (bytesV l)) : (convert 25 9 v).run Tryz.prog w = .ok (.string ⟨l.toArray⟩) w := by
  rcases h.2 with ⟨e, e2⟩ | ⟨g, cap, cur, e, _, _, _, _⟩
  · have hl : l = [] := by
      match l, e2 with
      | [], _ => rfl
      | _ :: _, e2 => cases e2
    subst hl
    rw [e]
    exact run_convert_bytes_nil (P := Tryz.prog) w 25 5 Tryz.underlying25 Tryz.underlying5 _ _ 9 Tryz.underlying9
  · subst e
    refine run_str_at w g cap l fun i hi => ?_
    rw [h.cellAt i (by omega)]
    simp [bytesV, List.getElem?_map, List.getElem?_eq_getElem hi, List.getD_eq_getElem?_getD]

theorem DiskAt.restrict {w : World} {F : Nat → Prop} {p : Nat} {s : DS} (h : DiskAt w F p s) : DiskAt w (fun k => F k ∧ k < w.heap.size) p s where
  blk := h.blk
  own := ⟨h.own, h.blk.lt⟩
  names := h.names
  safe := h.safe
  namesL := h.namesL
  safeL := h.safeL
  mnF := ⟨h.mnF, h.names.lt⟩
  msF := ⟨h.msF, h.safe.lt⟩
  mne := h.mne
  pend := h.pend
  pendF := fun k hk => ⟨h.pendF k hk, (h.pend.lt k hk).2⟩
  pendL := h.pendL
  flts := h.flts
  fltsF := fun k hk => ⟨h.fltsF k hk, (h.flts.lt k hk).2⟩
  file := fun g hg => by
    have f := h.file g hg
    exact ⟨f.blk, ⟨f.own, f.blk.lt⟩, f.row, fun k hk => ⟨f.rowF k hk, (f.row.lt k hk).2⟩, f.le, f.len⟩
  apart := h.apart
  nameOk := h.nameOk
  safeOk := h.safeOk
  pendOk := h.pendOk
  capB := h.capB
  rep := h.rep

end Go.Proofs.YtfchnpdgnhoffaaGreatDoor
namespace Go.Proofs.YtfchnpdgnhoffaaGreatDoor
open Go.RowKit Go.Shelf Go.Maps

set_option maxRecDepth 100000 in
set_option maxHeartbeats 1600000 in
theorem keepwithin_any (n m : Int) (w : World) (hm : 1 ≤ m) (hm2 : m ≤ 4611686018427387904) : Calls Tryz.prog 10 #[.int .i64 n, .int .i64 m] w fun e w' => e = .returned (.int .i64 (n % m)) ∧ w = w' := by
  have HR := Lib.hid (rem_facts n m hm)
  have hne : m ≠ 0 := by omega
  obtain ⟨f, hf⟩ : ∃ f, f = n % m := ⟨_, rfl⟩
  have HF := Lib.hid hf
  rw [← hf]
  clear hf
  go_enter Tryz.func10, Tryz.ntmps10
  go_wp2
  all_goals
    refine bodyPost_ret (results_tmp rfl _ _ _) rfl ?_
    refine ⟨ret_int ?_, rfl⟩
    have h2 := HF.out
    have h4 := HR.out
    obtain ⟨r1, r2, r3, r4⟩ := h4
    generalize n.tmod m = k at *
    generalize n % m = j at *
    try unfold wrap64
    first
      | (have r5 := r3 (by omega); omega)
      | (have r5 := r4 (by omega); omega)
end Go.Proofs.YtfchnpdgnhoffaaGreatDoor
namespace Go.Proofs.YtfchnpdgnhoffaaGreatDoor
open Go.RowKit Go.Shelf Go.Maps

set_option maxRecDepth 100000 in
theorem run_str_reads {w : World} {B n : Nat} {A : Option Addr} {l : List UInt8} (c : Nat) (h : Reads w B 1 A n (bytesV l)) : (convert 25 9 (.slice A n c)).run Tryz.prog w = .ok (.string ⟨l.toArray⟩) w := by
  have hl : l.length = n := by have := h.1; rw [bytesV_length] at this; omega
  cases A with
  | none =>
    have h0 : n = 0 := by
      rcases Nat.eq_zero_or_pos n with h0 | h0
      · exact h0
      · obtain ⟨ad, e, -⟩ := h.2 h0
        cases e
    have : l = [] := List.eq_nil_of_length_eq_zero (by omega)
    subst this
    exact run_convert_bytes_nil (P := Tryz.prog) w 25 5 Tryz.underlying25 Tryz.underlying5 _ _ 9 Tryz.underlying9
  | some a =>
    have hc : (loadCells a n).run Tryz.prog w = .ok ((l.map fun b => (b.toNat : Int)).map (Value.int .u8)).toArray w := by
      have := run_loadCells_list (P := Tryz.prog) (w := w) a (bytesV l) (fun j v hj => by
        rcases Nat.eq_zero_or_pos n with h0 | h0
        · have := (List.getElem?_eq_some_iff.1 hj).1
          rw [bytesV_length] at this
          omega
        · obtain ⟨ad, e, -, hcell⟩ := h.2 h0
          injection e with e
          subst e
          exact hcell j v hj)
      rw [bytesV_length, hl] at this
      rw [this, List.map_map]
      rfl
    rw [run_convert_bytes_string w 25 9 5 (some a) n c Tryz.underlying25 Tryz.underlying5 Tryz.underlying9, run_bytesToString w a n c _ hc, foldl_push_bytes]
    congr 2
    rw [← strOfNums_bytes]
    simp [strOfNums]
    conv => rhs; rw [← List.map_id l]
    apply List.map_congr_left
    intro b _
    simp
end Go.Proofs.YtfchnpdgnhoffaaGreatDoor
