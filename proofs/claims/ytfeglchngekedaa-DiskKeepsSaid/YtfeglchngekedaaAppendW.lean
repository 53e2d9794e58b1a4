/- The walk of (*Disk).Append: the steps through the code. -/
import Derived.Test.YtfeglchngekedaaAppend
namespace Go.Proofs.Ytfeglchngekedaa
open Go.RowKit Go.Shelf Go.Maps

theorem Reads.take {w : World} {B size n : Nat} {A : Option Addr} {xs : List Value} (h : Reads w B size A n xs) {k : Nat} (hk : k ≤ n) : Reads w B size A k (xs.take (k * size)) := by
  refine ⟨by rw [List.length_take, h.1]; exact Nat.min_eq_left (Nat.mul_le_mul_right _ hk), fun hn => ?_⟩
  obtain ⟨ad, e, hb, hc⟩ := h.2 (by omega)
  refine ⟨ad, e, hb, fun j u hu => hc j u ?_⟩
  rw [List.getElem?_take] at hu
  split at hu
  · exact hu
  · cases hu
/-- begin, at one name that has just been laid down -/
theorem begin1_any (w : World) (F : Nat → Prop) (p : Nat) (s : DS) (nm : ByteArray) (h : DiskAt w F p s) (hnm : nm.size ≤ 9223372036854775807) (ho : s.ops ≤ 999999) (hf : s.flts.length ≤ 100000) :
    Calls Try.prog 32 #[.pointer (some ⟨p, 0, none⟩), .slice (some ⟨w.heap.size, 0, none⟩) 1 1] (w.alloc (.cells #[.string nm] 9)) fun e w' =>
      ∃ v, e = .returned (.tuple #[.int .i64 (beginS s [nm]).1, .int .i64 (beginS s [nm]).2]) ∧ DiskAt w' (Gr F w) p (begun s v) ∧ Chg F w w' ∧ w.heap.size < w'.heap.size := by
  have hp := h.lt
  obtain ⟨w1, hw1⟩ : ∃ w1, w.alloc (.cells #[.string nm] 9) = w1 := ⟨_, rfl⟩
  have hs1 : w1.heap.size = w.heap.size + 1 := by rw [← hw1]; simp
  have hR1 : Reads w1 w1.heap.size 1 (some ⟨w.heap.size, 0, none⟩) 1 ([nm].map Value.string) := by
    have hb := Blk.new w 9 #[.string nm]
    rw [hw1] at hb
    refine ⟨rfl, fun _ => ⟨_, rfl, hb.lt, fun j u hu => ?_⟩⟩
    have e : (⟨w.heap.size, 0, none⟩ : Addr).add j = ⟨w.heap.size, j, none⟩ := by unfold Addr.add; split <;> simp_all
    rw [e, hb.cell j]
    match j with
    | 0 => exact hu
    | j + 1 => cases hu
  have hc1 : Chg F w w1 := by rw [← hw1]; exact (Chg.refl F w).alloc _
  have hD1 : DiskAt w1 (Gr F w) p s := h.keep (fun k _ hk => by rw [← hw1]; exact Below.heap_alloc w _ k hk) (fun k hk => .inl hk)
  rw [hw1]
  refine (begin_any w1 (Gr F w) p s [nm] (some ⟨w.heap.size, 0, none⟩) 1 1 hD1 hR1 (fun x hx => by rw [List.mem_singleton.1 hx]; exact hnm) (by omega) (by omega) hf (fun ad e => by injection e with e; rw [← e]; show w.heap.size ≠ p; omega)).mono ?_
  rintro e w2 ⟨v, rfl, hD2, hc2⟩
  exact ⟨v, rfl, hD2.inF (fun k hk => Gr.mono (by omega) k hk), hc1.then hc2, by have := hc2.size; omega⟩

/-- is an append torn -/
def tornS (s : DS) (nm : ByteArray) (n : Nat) : Bool := decide ((beginS s [nm]).2 = 6) && decide ((beginS s [nm]).1 = 2) && rightB nm && decide (fitsS s nm n = 0)
/-- what Append answers -/
def appendC (s : DS) (nm : ByteArray) (n : Nat) : Int := if (beginS s [nm]).2 = 0 then fitsS s nm n else (beginS s [nm]).2
/-- how many bytes it takes -/
def takes (s : DS) (nm : ByteArray) (n : Nat) : Option Nat :=
  if tornS s nm n then some (n / 2) else if (beginS s [nm]).2 = 0 ∧ fitsS s nm n = 0 then some n else none
def AppendPost (w : World) (F : Nat → Prop) (p : Nat) (s : DS) (nm : ByteArray) (b : List UInt8) (e : Ending) (w' : World) : Prop :=
  ∃ v s', e = .returned (.int .i64 (appendC s nm b.length)) ∧ DiskAt w' (Gr F w) p s' ∧ Chg F w w' ∧
    ((takes s nm b.length = none ∧ s' = begun s v) ∨ (∃ m g v2, takes s nm b.length = some m ∧ dget s.names nm.data.toList = some g ∧ s' = appended (begun s v) g v2 (b.take m)))

theorem fitsS_begun (s : DS) (v : Value) (nm : ByteArray) (n : Nat) : fitsS (begun s v) nm n = fitsS s nm n := rfl

/-- the tail: bytes are put at a file's end -/
def TailPost (w : World) (F : Nat → Prop) (p : Nat) (s1 : DS) (g : Nat) (b : List UInt8) (w' : World) : Prop :=
  ∃ v, DiskAt w' (Gr F w) p (appended s1 g v b) ∧ Chg F w w'

theorem tail_post {w w3 w4 w5 : World} {F : Nat → Prop} {p : Nat} {s1 : DS} {nm : ByteArray} {g : Nat} {b : List UInt8} {A0 : Option Addr} {d0 : Nat} {v : Value}
    (hD : DiskAt w3 (Gr F w) p s1) (hC : Chg F w w3) (hd : dget s1.names nm.data.toList = some g) (hraw : s1.raw g = .slice A0 (s1.bytes g).length d0)
    (hown : w4.ownsRow 0 5 1 v ((s1.bytes g).length + b.length) (bytesV (s1.bytes g) ++ bytesV b)) (hgrow : w3.grownBy w4 (Value.slice A0 (s1.bytes g).length d0).ownBlock)
    (hloc : v.ownBlock = (Value.slice A0 (s1.bytes g).length d0).ownBlock ∨ v.ownBlock = some w3.heap.size) (hw5 : w5 = w4.setCell ⟨g, 0, none⟩ v) (hl : (s1.bytes g).length + b.length ≤ 1000 * s1.ops) :
    TailPost w F p s1 g b w5 := by
  have hlive : live s1 g := .inl ⟨_, dget_mem hd, rfl⟩
  have fg := hD.file g hlive
  have hgr : (s1.raw g).ownBlock ≠ some g := own_blk_ne fg.row fg.blk (by decide)
  have b4 : Blk w4 g 73 #[s1.raw g, .int .i64 (s1.kept g : Int)] := fg.blk.grown hgrow (by rw [← hraw]; exact Ne.symm hgr)
  refine ⟨v, ?_, ?_⟩
  · refine (hD.appended g v b hlive ?_ ?_ ?_ ?_ ?_).inF (fun k hk => Gr.mono hC.size k hk)
    · intro k hk h1 h2
      rw [hw5, Below.heap_setCell _ _ _ _ h1, hgrow.block k hk (by rw [← hraw]; exact Ne.symm h2)]
    · rw [hw5]; exact b4.set_ 0 v
    · rw [hw5]
      have e1 : (s1.bytes g ++ b).length = (s1.bytes g).length + b.length := by simp
      have e2 : bytesV (s1.bytes g ++ b) = bytesV (s1.bytes g) ++ bytesV b := by simp [bytesV]
      rw [e1, e2]
      exact ownsRow_setCell_other hown (own_blk_ne hown b4 (by decide)) _
    · rcases hloc with e | e
      · exact .inl (by rw [hraw]; exact e)
      · refine .inr fun k hk => ?_
        rw [e] at hk
        injection hk with hk
        omega
    · simp; omega
  · rw [hw5]
    exact (hC.grown hgrow (fun k hk => fg.rowF k (by rw [hraw]; exact hk))).setCell (p := ⟨g, 0, none⟩) fg.own _

set_option maxRecDepth 100000 in
set_option maxHeartbeats 6400000 in
theorem append_any (w : World) (F : Nat → Prop) (p : Nat) (s : DS) (nm : ByteArray) (A : Option Addr) (c : Nat) (b : List UInt8) (h : DiskAt w F p s) (hR : Reads w w.heap.size 1 A b.length (bytesV b)) (hA : 0 < b.length → ∀ ad, A = some ad → ¬ F ad.block) (hbc : b.length ≤ c)
    (hnm : nm.size ≤ 9223372036854775807) (hnm2 : nm.size ≤ maxLen) (hbl : b.length ≤ 1000) (ho : s.ops ≤ 999999) (hf : s.flts.length ≤ 100000) :
    Calls Try.prog 10 #[.pointer (some ⟨p, 0, none⟩), .string nm, .slice A b.length c] w (AppendPost w F p s nm b) := by
  obtain ⟨i0, hi, hz0, hz1, hz2⟩ := info_parts info5
  have HI := Lib.hid hi
  have HZ0 := Lib.hid hz0
  have HZ1 := Lib.hid hz1
  have HZ2 := Lib.hid hz2
  have hp := h.lt
  have H := Lib.hid h
  have HR := Lib.hid hR
  have HA := Lib.hid hA
  clear h hR hA hi hz0 hz1 hz2
  go_enter Try.func10, Try.ntmps10
  go_wp2_with fail
  refine (begin1_any w F p s nm H.out hnm ho hf).mono ?_
  rintro e w2 ⟨v, rfl, hD2, hc2, hs2⟩
  have HD := Lib.hid hD2
  have HC := Lib.hid hc2
  clear hD2 hc2
  obtain ⟨kd, why, hk⟩ : ∃ kd why, beginS s [nm] = (kd, why) := ⟨_, _, rfl⟩
  rw [hk]
  have HK := Lib.hid hk
  clear hk
  have hR2 : Reads w2 w.heap.size 1 A b.length (bytesV b) := ⟨HR.out.1, fun h0 => by
    obtain ⟨ad, e, hlt, hcell⟩ := HR.out.2 h0
    refine ⟨ad, e, hlt, fun j u hu => (World.cell?_of_block (a := ad.add j) ?_).trans (hcell j u hu)⟩
    rw [block_of_add]
    exact HC.out.block _ hlt (HA.out h0 ad e)⟩
  have HR2 := Lib.hid hR2
  clear hR2
  by_cases hwy : why = 0
  · subst hwy
    have q6 : ((0 : Int) == 6) = false := rfl
    go_wp2_with fail
    refine (fits_any w2 (Gr F w) p (begun s v) nm A b.length c HD.out (show s.ops + 1 ≤ 1000000 by omega) hnm2 hbl).mono ?_
    rintro e w3 ⟨rfl, hb3⟩
    rw [fitsS_begun]
    have HD3 := Lib.hid (HD.out.keep (fun k _ hk => hb3.block k hk) (fun _ h => h))
    have HC3 := Lib.hid (HC.out.below hb3 (by omega))
    have HR3 := Lib.hid (HR2.out.below (hb3.mono (by omega)))
    have hs3 := hb3.size
    clear hb3
    by_cases hft : fitsS s nm b.length = 0
    · have HFT := Lib.hid hft
      rw [hft]
      clear hft
      have hdg : ∃ g, dget s.names nm.data.toList = some g := by
        have h9 := HFT.out
        unfold fitsS at h9
        cases hd : dget s.names nm.data.toList with
        | some g => exact ⟨g, rfl⟩
        | none => rw [hd] at h9; simp at h9
      obtain ⟨g, hdg⟩ := hdg
      have hlook : (Instr.lookup 64 (.map (some s.mn)) (.string nm) false).run Try.prog w3 = .ok (ptrV (dget s.names nm.data.toList)) w3 := HD3.out.names.look nm hnm2
      rw [hdg] at hlook
      simp only [ptrV] at hlook
      have c2 : w3.cell? ⟨p, 2, none⟩ = some (.map (some s.mn)) := HD3.out.blk.cell 2
      have fg := HD3.out.file g (.inl ⟨_, dget_mem hdg, rfl⟩)
      obtain ⟨A0, d0, hraw⟩ := own_slice fg.row
      have hrow := fg.row
      rw [hraw] at hrow
      have q0 : w3.cell? ⟨g, 0, none⟩ = some (.slice A0 (s.bytes g).length d0) := (fg.blk.cell 0).trans (congrArg some hraw)
      have hgl : (s.bytes g).length ≤ 1000 * s.ops := (H.out.file g (.inl ⟨_, dget_mem hdg, rfl⟩)).len
      have HROW := Lib.hid (show w3.ownsRow 0 5 1 (.slice A0 (s.bytes g).length d0) (s.bytes g).length (bytesV (s.bytes g)) from hrow)
      have HBG := Lib.hid fg.blk
      have HRAW := Lib.hid (show s.raw g = .slice A0 (s.bytes g).length d0 from hraw)
      have HDG := Lib.hid hdg
      obtain ⟨L, hL⟩ : ∃ L, L = (s.bytes g).length := ⟨_, rfl⟩
      rw [← hL] at q0 hgl HROW HRAW
      have HL := Lib.hid hL
      clear hdg fg hraw hrow hL
      go_wp2_with (at_builtin; go_loud (refine wpList_append_any _ rfl (.tmp 64) (.tmp 65) 22 rfl 0 5 i0 (.int .u8 0) 1 1 Try.underlying22 HI.out HZ0.out HZ1.out HZ2.out rfl (by omega) (.slice A0 L d0) L (bytesV (s.bytes g)) rfl HROW.out w.heap.size A (b.length) c (bytesV (b)) rfl HR3.out (bytesV_one _) (by simp [maxLen]; omega) (by omega) (Nat.zero_le _) ?_; intro v4 w4 hown4 hgrow4 hloc4; obtain ⟨A4, d4, hv4⟩ := own_slice hown4; subst hv4; have b4 := HBG.out.grown hgrow4 (Ne.symm (own_blk_ne HROW.out HBG.out (by decide))); have y4 : w4.cell? ⟨g, 0, none⟩ = some (s.raw g) := b4.cell 0; have z4 := b4.frozen 0; have HW4 := Lib.hid hown4; have HG4 := Lib.hid hgrow4; have HL4 := Lib.hid hloc4; clear hown4 hgrow4 hloc4 b4))
      refine bodyPost_ret (results_tmp rfl _ _ _) rfl ?_
      obtain ⟨v5, hD5, hC5⟩ : TailPost w F p (begun s v) g (b) (w4.setCell ⟨g, 0, none⟩ (.slice A4 (L + (b.length)) d4)) := by
        refine tail_post (w4 := w4) HD3.out HC3.out (show dget (begun s v).names nm.data.toList = some g from HDG.out) (A0 := A0) (d0 := d0) (show s.raw g = .slice A0 (s.bytes g).length d0 by rw [HRAW.out, HL.out]) ?_ ?_ ?_ rfl ?_
        · show w4.ownsRow 0 5 1 _ ((s.bytes g).length + (b).length) _
          rw [← HL.out]; exact HW4.out
        · show w3.grownBy w4 (Value.slice A0 (s.bytes g).length d0).ownBlock
          rw [← HL.out]; exact HG4.out
        · show _ = (Value.slice A0 (s.bytes g).length d0).ownBlock ∨ _
          rw [← HL.out]; exact HL4.out
        · show (s.bytes g).length + (b).length ≤ 1000 * (s.ops + 1)
          rw [← HL.out]; omega
      refine ⟨v, _, ?_, hD5, hC5, .inr ⟨b.length, g, v5, ?_, HDG.out, by rw [List.take_length]⟩⟩
      · show Ending.returned (.int .i64 0) = _
        unfold appendC
        rw [HK.out, if_pos rfl, HFT.out]
      · unfold takes tornS
        rw [HK.out]
        simp [HFT.out]
    · have HFT := Lib.hid hft
      obtain ⟨ft, hfte⟩ : ∃ ft, ft = fitsS s nm b.length := ⟨_, rfl⟩
      rw [← hfte]
      have qf : (ft != 0) = true := by rw [hfte]; simp [hft]
      have HFE := Lib.hid hfte
      clear hft hfte
      go_wp2
      refine bodyPost_ret (results_tmp rfl _ _ _) rfl ?_
      refine ⟨v, _, ?_, HD3.out, HC3.out, .inl ⟨?_, rfl⟩⟩
      · show Ending.returned (.int .i64 ft) = _
        unfold appendC
        rw [HK.out, if_pos rfl, HFE.out]
      · unfold takes tornS
        rw [HK.out]
        simp [HFT.out]
  · by_cases h6 : why = 6 ∧ kd = 2
    · obtain ⟨rfl, rfl⟩ := h6
      clear hwy
      go_wp2_with fail
      refine (right_any nm w2 hnm).mono ?_
      rintro e w3 ⟨rfl, q3, hw3⟩
      have HD3 := Lib.hid (show DiskAt w3 (Gr F w) p (begun s v) by rw [hw3]; exact HD.out.drewN q3)
      have HC3 := Lib.hid (show Chg F w w3 by rw [hw3]; exact HC.out.drewN q3)
      have HR3 := Lib.hid (show Reads w3 w.heap.size 1 A b.length (bytesV b) by rw [hw3]; exact HR2.out.drewN q3)
      have hs3 : w3.heap.size = w2.heap.size := by rw [hw3]; rfl
      clear hw3
      cases hrt : rightB nm with
      | false =>
        have HRT := Lib.hid hrt
        clear hrt
        go_wp2
        refine bodyPost_ret (results_tmp rfl _ _ _) rfl ?_
        refine ⟨v, _, ?_, HD3.out, HC3.out, .inl ⟨?_, rfl⟩⟩
        · show Ending.returned (.int .i64 6) = _
          unfold appendC
          rw [HK.out]; rfl
        · unfold takes tornS
          rw [HK.out]
          simp [HRT.out]
      | true =>
        have HRT := Lib.hid hrt
        clear hrt
        go_wp2_with fail
        refine (fits_any w3 (Gr F w) p (begun s v) nm A b.length c HD3.out (show s.ops + 1 ≤ 1000000 by omega) hnm2 hbl).mono ?_
        rintro e wz ⟨rfl, hb4⟩
        rw [fitsS_begun]
        have HD4 := Lib.hid (HD3.out.keep (fun k _ hk => hb4.block k hk) (fun _ h => h))
        have HC4 := Lib.hid (HC3.out.below hb4 (by omega))
        have HR4 := Lib.hid (HR3.out.below (hb4.mono (by omega)))
        have hs4 := hb4.size
        clear hb4
        by_cases hft : fitsS s nm b.length = 0
        · have HFT := Lib.hid hft
          rw [hft]
          clear hft
          have hdg : ∃ g, dget s.names nm.data.toList = some g := by
            have h9 := HFT.out
            unfold fitsS at h9
            cases hd : dget s.names nm.data.toList with
            | some g => exact ⟨g, rfl⟩
            | none => rw [hd] at h9; simp at h9
          obtain ⟨g, hdg⟩ := hdg
          have hlook : (Instr.lookup 64 (.map (some s.mn)) (.string nm) false).run Try.prog wz = .ok (ptrV (dget s.names nm.data.toList)) wz := HD4.out.names.look nm hnm2
          rw [hdg] at hlook
          simp only [ptrV] at hlook
          have c2 : wz.cell? ⟨p, 2, none⟩ = some (.map (some s.mn)) := HD4.out.blk.cell 2
          have fg := HD4.out.file g (.inl ⟨_, dget_mem hdg, rfl⟩)
          obtain ⟨A0, d0, hraw⟩ := own_slice fg.row
          have hrow := fg.row
          rw [hraw] at hrow
          have q0 : wz.cell? ⟨g, 0, none⟩ = some (.slice A0 (s.bytes g).length d0) := (fg.blk.cell 0).trans (congrArg some hraw)
          have hgl : (s.bytes g).length ≤ 1000 * s.ops := (H.out.file g (.inl ⟨_, dget_mem hdg, rfl⟩)).len
          have HROW := Lib.hid (show wz.ownsRow 0 5 1 (.slice A0 (s.bytes g).length d0) (s.bytes g).length (bytesV (s.bytes g)) from hrow)
          have HBG := Lib.hid fg.blk
          have HRAW := Lib.hid (show s.raw g = .slice A0 (s.bytes g).length d0 from hraw)
          have HDG := Lib.hid hdg
          have HQQ := Lib.hid (show ((b.take (b.length / 2))).length = (b.length / 2) from by rw [List.length_take]; omega)
          obtain ⟨L, hL⟩ : ∃ L, L = (s.bytes g).length := ⟨_, rfl⟩
          rw [← hL] at q0 hgl HROW HRAW
          have HL := Lib.hid hL
          clear hdg fg hraw hrow hL
          go_wp2_with (at_builtin; go_loud (refine wpList_append_any _ rfl (.tmp 64) (.tmp 65) 22 rfl 0 5 i0 (.int .u8 0) 1 1 Try.underlying22 HI.out HZ0.out HZ1.out HZ2.out rfl (by omega) (.slice A0 L d0) L (bytesV (s.bytes g)) rfl HROW.out w.heap.size A ((b.length / 2)) c (bytesV ((b.take (b.length / 2)))) rfl (by have h9 := HR4.out.take (k := b.length / 2) (by omega); rwa [show (bytesV b).take (b.length / 2 * 1) = bytesV (b.take (b.length / 2)) by simp [bytesV, List.map_take]] at h9) (bytesV_one _) (by simp [maxLen]; omega) (by omega) (Nat.zero_le _) ?_; intro v4 w4 hown4 hgrow4 hloc4; obtain ⟨A4, d4, hv4⟩ := own_slice hown4; subst hv4; have b4 := HBG.out.grown hgrow4 (Ne.symm (own_blk_ne HROW.out HBG.out (by decide))); have y4 : w4.cell? ⟨g, 0, none⟩ = some (s.raw g) := b4.cell 0; have z4 := b4.frozen 0; have HW4 := Lib.hid hown4; have HG4 := Lib.hid hgrow4; have HL4 := Lib.hid hloc4; clear hown4 hgrow4 hloc4 b4))
          refine bodyPost_ret (results_tmp rfl _ _ _) rfl ?_
          obtain ⟨v5, hD5, hC5⟩ : TailPost w F p (begun s v) g ((b.take (b.length / 2))) (w4.setCell ⟨g, 0, none⟩ (.slice A4 (L + ((b.length / 2))) d4)) := by
            refine tail_post (w4 := w4) HD4.out HC4.out (show dget (begun s v).names nm.data.toList = some g from HDG.out) (A0 := A0) (d0 := d0) (show s.raw g = .slice A0 (s.bytes g).length d0 by rw [HRAW.out, HL.out]) ?_ ?_ ?_ rfl ?_
            · show w4.ownsRow 0 5 1 _ ((s.bytes g).length + ((b.take (b.length / 2))).length) _
              rw [← HL.out, HQQ.out]; exact HW4.out
            · show wz.grownBy w4 (Value.slice A0 (s.bytes g).length d0).ownBlock
              rw [← HL.out]; exact HG4.out
            · show _ = (Value.slice A0 (s.bytes g).length d0).ownBlock ∨ _
              rw [← HL.out]; exact HL4.out
            · show (s.bytes g).length + ((b.take (b.length / 2))).length ≤ 1000 * (s.ops + 1)
              rw [← HL.out, HQQ.out]; omega
          refine ⟨v, _, ?_, hD5, hC5, .inr ⟨b.length / 2, g, v5, ?_, HDG.out, rfl⟩⟩
          · show Ending.returned (.int .i64 6) = _
            unfold appendC
            rw [HK.out]; rfl
          · unfold takes tornS
            rw [HK.out]
            simp [HFT.out, HRT.out]
        · have HFT := Lib.hid hft
          obtain ⟨ft, hfte⟩ : ∃ ft, ft = fitsS s nm b.length := ⟨_, rfl⟩
          rw [← hfte]
          have qf : (ft == 0) = false := by rw [hfte]; simp [hft]
          clear hft hfte
          go_wp2
          refine bodyPost_ret (results_tmp rfl _ _ _) rfl ?_
          refine ⟨v, _, ?_, HD4.out, HC4.out, .inl ⟨?_, rfl⟩⟩
          · show Ending.returned (.int .i64 6) = _
            unfold appendC
            rw [HK.out]; rfl
          · unfold takes tornS
            rw [HK.out]
            simp [HFT.out]
    · have hT : tornS s nm b.length = false := by
        unfold tornS
        rw [HK.out]
        simp
        intro h1 h2
        exact absurd ⟨h1, h2⟩ h6
      have hTk : takes s nm b.length = none := by
        unfold takes
        rw [hT, HK.out]
        simp [hwy]
      have hCo : appendC s nm b.length = why := by
        unfold appendC
        rw [HK.out, if_neg hwy]
      have HT := Lib.hid hTk
      have HCo := Lib.hid hCo
      have qn : (why != 0) = true := by simp [hwy]
      clear hT hTk hCo
      by_cases h7 : why = 6
      · have qk : (kd == 2) = false := by simp; exact fun e => h6 ⟨h7, e⟩
        subst h7
        clear h6 hwy
        go_wp2
        refine bodyPost_ret (results_tmp rfl _ _ _) rfl ?_
        exact ⟨v, _, by rw [HCo.out]; rfl, HD.out, HC.out, .inl ⟨HT.out, rfl⟩⟩
      · have q6 : (why == 6) = false := by simp [h7]
        clear h6 hwy h7
        go_wp2
        refine bodyPost_ret (results_tmp rfl _ _ _) rfl ?_
        exact ⟨v, _, by rw [HCo.out]; rfl, HD.out, HC.out, .inl ⟨HT.out, rfl⟩⟩
end Go.Proofs.Ytfeglchngekedaa
