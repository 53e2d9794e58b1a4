/- The walk of (*Disk).Create. -/
import Derived.Test.YtfeglchngekedaaBegin
namespace Go.Proofs.Ytfeglchngekedaa
open Go.RowKit Go.Shelf Go.Maps

theorem info75 : (Try.prog.info? 75).map (fun i => (i.zero, i.size, i.bytes)) = some (some (.agg #[.string ⟨#[]⟩, .string ⟨#[]⟩, .pointer none]), 3, 40) := by kernel_rfl

theorem own_ne2 {w : World} {b1 b2 : Nat} {e1 e2 : TypeId} {z1 z2 n1 n2 : Nat} {v1 v2 : Value} {x1 x2 : List Value} (h1 : w.ownsRow b1 e1 z1 v1 n1 x1) (h2 : w.ownsRow b2 e2 z2 v2 n2 x2) (hne : e1 ≠ e2) {k : Nat} (hk : v1.ownBlock = some k) : v2.ownBlock ≠ some k := by
  rcases h1.2 with ⟨rfl, _⟩ | ⟨g, cap, cur, rfl, _, hh, _⟩
  · cases hk
  · have e : g = k := by simpa [Value.ownBlock] using hk
    subst e
    exact own_blk_ne h2 hh (Ne.symm hne)

def upd {α : Type} (f : Nat → α) (g : Nat) (x : α) : Nat → α := fun k => if k = g then x else f k
theorem upd_same {α : Type} (f : Nat → α) (g : Nat) (x : α) : upd f g x g = x := by simp [upd]
theorem upd_other {α : Type} (f : Nat → α) {g k : Nat} (x : α) (h : k ≠ g) : upd f g x k = f k := by simp [upd, h]

def created (s : DS) (nm : Nm) (g : Nat) (v : Value) : DS :=
  { s with names := dput s.names nm g, pend := s.pend ++ [⟨[], nm, some g⟩], vp := v, raw := upd s.raw g (.slice none 0 0), bytes := upd s.bytes g [], kept := upd s.kept g 0 }

theorem live_lt {w : World} {F : Nat → Prop} {p : Nat} {s : DS} (h : DiskAt w F p s) {g : Nat} (hg : live s g) : g < w.heap.size := (h.file g hg).blk.lt

theorem DiskAt.created {w w' : World} {F : Nat → Prop} {p : Nat} {s : DS} (h : DiskAt w F p s) (nm : Nm) (g : Nat) (v : Value) (hg : w.heap.size ≤ g)
    (hk : ∀ k, k < w.heap.size → k ≠ p → k ≠ s.mn → s.vp.ownBlock ≠ some k → w'.heap[k]? = w.heap[k]?)
    (hb : Blk w' p 68 #[.int .i64 s.cap, .int .i64 (s.ops : Int), .map (some s.mn), .map (some s.ms), v, s.vf, .bool s.stopped, .int .i64 s.stop])
    (hd : DirAt w' s.mn (dput s.names nm g).length (dput s.names nm g)) (hf : Blk w' g 73 #[.slice none 0 0, .int .i64 0])
    (hv : w'.ownsRow 0 75 3 v (s.pend.length + 1) (chsV (s.pend ++ [⟨[], nm, some g⟩]))) (hvF : v.ownBlock = s.vp.ownBlock ∨ (∀ k, v.ownBlock = some k → w.heap.size ≤ k))
    (hl1 : (dput s.names nm g).length ≤ s.ops) (hl2 : s.pend.length + 1 ≤ s.ops) (hn : nmOk nm) (hn0 : nm ≠ []) : DiskAt w' (Gr F w) p (created s nm g v) := by
  have hms : s.ms ≠ p := h.safe.blk_ne h.blk
  have hlive : ∀ x, live (Ytfeglchngekedaa.created s nm g v) x → x = g ∨ (x ≠ g ∧ live s x) := by
    intro x hx
    by_cases e : x = g
    · exact .inl e
    · refine .inr ⟨e, ?_⟩
      rcases hx with ⟨y, hy, rfl⟩ | ⟨y, hy, rfl⟩ | ⟨c, hc, he⟩
      · rcases (mem_dput _ _ _ _).1 hy with rfl | ⟨hy, _⟩
        · exact absurd rfl e
        · exact .inl ⟨y, hy, rfl⟩
      · exact .inr (.inl ⟨y, hy, rfl⟩)
      · rcases List.mem_append.1 hc with hc | hc
        · exact .inr (.inr ⟨c, hc, he⟩)
        · rw [List.mem_singleton.1 hc] at he
          exact absurd (Option.some.inj he).symm e
  exact {
    blk := hb
    own := .inl h.own
    names := hd
    safe := h.safe.keep (hk _ h.safe.lt hms (Ne.symm h.mne) (h.safe.own_ne h.pend))
    namesL := hl1
    safeL := h.safeL
    mnF := .inl h.mnF
    msF := .inl h.msF
    mne := h.mne
    pend := by
      have e : (s.pend ++ [(⟨[], nm, some g⟩ : Ch)]).length = s.pend.length + 1 := by simp
      show w'.ownsRow 0 75 3 v (s.pend ++ [(⟨[], nm, some g⟩ : Ch)]).length (chsV (s.pend ++ [⟨[], nm, some g⟩]))
      rw [e]; exact hv
    pendF := fun k hk' => by
      rcases hvF with e | e
      · exact .inl (h.pendF k (by rw [← e]; exact hk'))
      · exact .inr (e k hk')
    pendL := by show (s.pend ++ [(⟨[], nm, some g⟩ : Ch)]).length ≤ s.ops; simp; omega
    flts := own_keep h.flts fun k hk' hlt => hk k hlt (fun e => own_blk_ne h.flts h.blk (by decide) (by rw [← e]; exact hk')) (fun e => h.names.own_ne h.flts (by rw [← e]; exact hk'))
      (own_ne2 h.flts h.pend (by decide) hk')
    fltsF := fun k hk' => .inl (h.fltsF k hk')
    file := fun x hx => by
      rcases hlive x hx with rfl | ⟨hne, hx⟩
      · refine ⟨?_, .inr hg, ?_, ?_, ?_, ?_⟩
        · show Blk w' x 73 #[upd s.raw x (.slice none 0 0) x, .int .i64 ((upd s.kept x 0 x : Nat) : Int)]
          rw [upd_same, upd_same]; exact hf
        · show w'.ownsRow 0 5 1 (upd s.raw x (.slice none 0 0) x) (upd s.bytes x [] x).length (bytesV (upd s.bytes x [] x))
          rw [upd_same, upd_same]; exact World.ownsRow_nil _ _ _ _
        · intro k hk'
          have : (upd s.raw x (.slice none 0 0) x).ownBlock = some k := hk'
          rw [upd_same] at this
          cases this
        · show upd s.kept x 0 x ≤ (upd s.bytes x [] x).length
          rw [upd_same, upd_same]; exact Nat.zero_le _
        · show (upd s.bytes x [] x).length ≤ _
          rw [upd_same]; exact Nat.zero_le _
      · have hf' := h.file x hx
        refine ⟨?_, .inl hf'.own, ?_, ?_, ?_, ?_⟩
        · show Blk w' x 73 #[upd s.raw g (.slice none 0 0) x, .int .i64 ((upd s.kept g 0 x : Nat) : Int)]
          rw [upd_other _ _ hne, upd_other _ _ hne]
          exact (hk x hf'.blk.lt (Blk.ne_ hf'.blk h.blk (by decide)) (fun e => h.names.blk_ne hf'.blk e.symm) (own_blk_ne h.pend hf'.blk (by decide))).trans hf'.blk
        · show w'.ownsRow 0 5 1 (upd s.raw g (.slice none 0 0) x) (upd s.bytes g [] x).length (bytesV (upd s.bytes g [] x))
          rw [upd_other _ _ hne, upd_other _ _ hne]
          exact own_keep hf'.row fun k hk' hlt => hk k hlt (fun e => own_blk_ne hf'.row h.blk (by decide) (by rw [← e]; exact hk')) (fun e => h.names.own_ne hf'.row (by rw [← e]; exact hk'))
            (own_ne2 hf'.row h.pend (by decide) hk')
        · intro k hk'
          have : (upd s.raw g (.slice none 0 0) x).ownBlock = some k := hk'
          rw [upd_other _ _ hne] at this
          exact .inl (hf'.rowF k this)
        · show upd s.kept g 0 x ≤ (upd s.bytes g [] x).length
          rw [upd_other _ _ hne, upd_other _ _ hne]; exact hf'.le
        · show (upd s.bytes g [] x).length ≤ _
          rw [upd_other _ _ hne]; exact hf'.len
    apart := fun x y hx hy hne => by
      show (upd s.raw g (.slice none 0 0) x).ownBlock = none ∨ (upd s.raw g (.slice none 0 0) x).ownBlock ≠ (upd s.raw g (.slice none 0 0) y).ownBlock
      rcases hlive x hx with rfl | ⟨hnx, hx⟩
      · rw [upd_same]; exact .inl rfl
      · rcases hlive y hy with rfl | ⟨hny, hy⟩
        · rw [upd_same, upd_other _ _ hnx]
          cases e : (s.raw x).ownBlock with
          | none => exact .inl rfl
          | some k => exact .inr (by simp [Value.ownBlock])
        · rw [upd_other _ _ hnx, upd_other _ _ hny]; exact h.apart x y hx hy hne
    nameOk := fun x hx => by
      rcases (mem_dput _ _ _ _).1 hx with rfl | ⟨hx, _⟩
      · exact hn
      · exact h.nameOk x hx
    safeOk := h.safeOk
    pendOk := fun c hc => by
      rcases List.mem_append.1 hc with hc | hc
      · exact h.pendOk c hc
      · rw [List.mem_singleton.1 hc]; exact ⟨Nat.zero_le _, hn⟩
    capB := h.capB
    rep := h.rep.snoc _ (fun e => by cases e) (by show (if nm = [] then s.names else dput s.names nm g) = dput s.names nm g; rw [if_neg hn0]) }

theorem reads_new3 (w : World) (t : TypeId) (a b c : Value) : Reads (w.alloc (.cells #[a, b, c] t)) (w.heap.size + 1) 3 (some ⟨w.heap.size, 0, none⟩) 1 [a, b, c] := by
  have hb := Blk.new w t #[a, b, c]
  refine ⟨rfl, fun _ => ⟨_, rfl, Nat.lt_succ_self _, fun j u hu => ?_⟩⟩
  have e : (⟨w.heap.size, 0, none⟩ : Addr).add j = ⟨w.heap.size, j, none⟩ := by unfold Addr.add; split <;> simp_all
  rw [e, hb.cell j]
  match j with
  | 0 => exact hu
  | 1 => exact hu
  | 2 => exact hu
  | j + 3 => cases hu
theorem chV_one (nm : ByteArray) (a : Option Addr) : ∀ u ∈ [Value.string ⟨#[]⟩, .string nm, .pointer a], u.oneCell' = true := by
  intro u hu
  simp only [List.mem_cons, List.not_mem_nil, or_false] at hu
  rcases hu with rfl | rfl | rfl <;> rfl
/-- what Create answers -/
def createC (s : DS) (nm : ByteArray) : Int := if (beginS s [nm]).2 = 0 then (if (dget s.names nm.data.toList).isSome then 4 else 0) else (beginS s [nm]).2
def CreatePost (w : World) (F : Nat → Prop) (p : Nat) (s : DS) (nm : ByteArray) (e : Ending) (w' : World) : Prop :=
  ∃ v s', e = .returned (.int .i64 (createC s nm)) ∧ DiskAt w' (Gr F w) p s' ∧ Chg F w w' ∧
    ((createC s nm ≠ 0 ∧ s' = begun s v) ∨ (createC s nm = 0 ∧ rightB nm = true ∧ dget s.names nm.data.toList = none ∧ ∃ g v2, w.heap.size ≤ g ∧ s' = created (begun s v) nm.data.toList g v2))
theorem beginS_right {s : DS} {nm : ByteArray} (h : (beginS s [nm]).2 = 0) : rightB nm = true := by
  unfold beginS at h
  split at h
  · cases h
  · split at h
    · cases h
    · cases hr : rightB nm with
      | true => rfl
      | false => simp [hr] at h
theorem rightB_size {nm : ByteArray} (h : rightB nm = true) : nm.size ≤ 64 := by
  unfold rightB at h
  simp at h
  exact h.2
theorem rightB_ne {nm : ByteArray} (h : rightB nm = true) : nm.data.toList ≠ [] := by
  unfold rightB at h
  simp at h
  intro e
  have e3 : nm.data.toList.length = 0 := by rw [e]; rfl
  rw [Array.length_toList] at e3
  have h2 : nm.data.size = nm.size := rfl
  omega

set_option maxRecDepth 100000 in
set_option maxHeartbeats 6400000 in
theorem create_any (w : World) (F : Nat → Prop) (p : Nat) (s : DS) (nm : ByteArray) (h : DiskAt w F p s) (hnm : nm.size ≤ 9223372036854775807) (hnm2 : nm.size ≤ maxLen)
    (ho : s.ops ≤ 999999) (hf : s.flts.length ≤ 100000) : Calls Try.prog 9 #[.pointer (some ⟨p, 0, none⟩), .string nm] w (CreatePost w F p s nm) := by
  obtain ⟨i0, hi, hz0, hz1, hz2⟩ := info_parts info75
  have HI := Lib.hid hi
  have HZ0 := Lib.hid hz0
  have HZ1 := Lib.hid hz1
  have HZ2 := Lib.hid hz2
  have hp := h.lt
  have H := Lib.hid h
  clear h hi hz0 hz1 hz2
  go_enter Try.func9, Try.ntmps9
  go_wp2_with fail
  obtain ⟨w1, hw1⟩ : ∃ w1, w.alloc (.cells #[.string nm] 9) = w1 := ⟨_, rfl⟩
  have hs1 : w1.heap.size = w.heap.size + 1 := by rw [← hw1]; simp
  have hR1 : Reads w1 w1.heap.size 1 (some ⟨w.heap.size, 0, none⟩) 1 ([nm].map Value.string) := by
    have hb := Blk.new w 9 #[.string nm]
    rw [hw1] at hb
    refine ⟨rfl, fun _ => ⟨_, rfl, hb.lt, fun j u hu => ?_⟩⟩
    have e : (⟨w.heap.size, 0, none⟩ : Addr).add j = ⟨w.heap.size, j, none⟩ := by unfold Addr.add; split <;> simp_all
    rw [e, hb.cell j]
    match j with
    | 0 => exact hu
    | j + 1 => cases hu
  have hc1 : Chg F w w1 := by rw [← hw1]; exact (Chg.refl F w).alloc _
  have hD1 : DiskAt w1 (Gr F w) p s := H.out.keep (fun k _ hk => by rw [← hw1]; exact Below.heap_alloc w _ k hk) (fun k hk => .inl hk)
  rw [hw1]
  refine (begin_any w1 (Gr F w) p s [nm] (some ⟨w.heap.size, 0, none⟩) 1 1 hD1 hR1 (fun x hx => by rw [List.mem_singleton.1 hx]; exact hnm) (by omega) (by omega) hf (fun ad e => by injection e with e; rw [← e]; show w.heap.size ≠ p; omega)).mono ?_
  rintro e w2 ⟨v, rfl, hD2, hc2⟩
  have hC2 : Chg F w w2 := hc1.then hc2
  have hD2' : DiskAt w2 (Gr F w) p (begun s v) := hD2.inF (fun k hk => Gr.mono (by omega) k hk)
  have hs2 := hc2.size
  have HD := Lib.hid hD2'
  have HC := Lib.hid hC2
  clear hw1 hR1 hc1 hD1 hD2 hc2 hC2 hD2'
  obtain ⟨kd, why, hk⟩ : ∃ kd why, beginS s [nm] = (kd, why) := ⟨_, _, rfl⟩
  rw [hk]
  have HK := Lib.hid hk
  clear hk
  by_cases hwy : why = 0
  · subst hwy
    have hrt := beginS_right (s := s) (nm := nm) (by rw [HK.out])
    have HRT := Lib.hid hrt
    obtain ⟨-, -, c2, -, c4, -, -, -⟩ := HD.out.cells
    have hlook := HD.out.names.look nm hnm2
    have f4 := HD.out.blk.frozen 4
    clear hrt
    cases hd : dget (begun s v).names nm.data.toList with
    | some g =>
      have HDG := Lib.hid hd
      rw [hd] at hlook
      simp only [ptrV] at hlook
      clear hd
      go_wp2
      go_ret
      have e4 : createC s nm = 4 := by
        unfold createC
        rw [HK.out, if_pos rfl, if_pos (by have := HDG.out; rw [show s.names = (begun s v).names from rfl, this]; rfl)]
      exact ⟨v, _, by rw [e4]; rfl, HD.out, HC.out, .inl ⟨by rw [e4]; decide, rfl⟩⟩
    | none =>
      have HDG := Lib.hid hd
      rw [hd] at hlook
      simp only [ptrV] at hlook
      clear hd
      obtain ⟨A4, d4, hvp⟩ := own_slice HD.out.pend
      have HVP := Lib.hid hvp
      rw [hvp] at c4
      have hbl := HD.out.blk.lt
      have hml := HD.out.names.lt
      have hmp := HD.out.names.blk_ne HD.out.blk
      have hpl := HD.out.pendL
      have hnl := HD.out.namesL
      have hol : (begun s v).ops = s.ops + 1 := rfl
      have hpl' := H.out.pendL
      have hnl' := H.out.namesL
      have hpe : (begun s v).pend = s.pend := rfl
      have hne : (begun s v).names = s.names := rfl
      clear hvp
      generalize hs1e : begun s v = s1 at *
      have HSE := Lib.hid hs1e
      have hpl2 : s1.pend.length ≤ s.ops := by rw [hpe]; exact hpl'
      have hnl2 : s1.names.length ≤ s.ops := by rw [hne]; exact hnl'
      have HOL := Lib.hid hol
      have HNE := Lib.hid hne
      clear hs1e hpe hne hol hpl hnl hpl' hnl'
      go_upto_region 7 with fail
      obtain ⟨w3, hw3⟩ : ∃ w3, w2.alloc (.cells #[.slice none 0 0, .int .i64 0] 73) = w3 := ⟨_, rfl⟩
      have hs3 : w3.heap.size = w2.heap.size + 1 := by rw [← hw3]; simp
      have hb3 : Below w2.heap.size w2 w3 := by rw [← hw3]; exact (Below.refl _ w2).alloc (Nat.le_refl _) _
      have bF : Blk w3 w2.heap.size 73 #[.slice none 0 0, .int .i64 0] := by rw [← hw3]; exact Blk.new w2 73 _
      have hN3 : DirAt w3 s1.mn s1.names.length s1.names := HD.out.names.keep (hb3.block _ hml)
      have bP : Blk w3 p 68 _ := HD.out.blk.below hb3 hbl
      have oP := own_keep (w' := w3) HD.out.pend (fun k _ hk => hb3.block k hk)
      rw [HVP.out] at oP
      rw [hw3]
      have e2 : w3.cell? ⟨p, 2, none⟩ = some (.map (some s1.mn)) := bP.cell 2
      have HN3 := Lib.hid hN3
      have HBP := Lib.hid bP
      have HOP := Lib.hid oP
      have HBF := Lib.hid bF
      have HB3 := Lib.hid hb3
      have hgm : w2.heap.size ≠ s1.mn := by omega
      have hgp : w2.heap.size ≠ p := by omega
      have hAm : ∀ k, (Value.slice A4 s1.pend.length d4).ownBlock = some k → k ≠ s1.mn := fun k hk e => by rw [e] at hk; exact hN3.own_ne oP hk
      have HAM := Lib.hid hAm
      clear hw3 hb3 bF hN3 bP oP c2 c4 f4 hlook hAm
      go_wp2_with (first
        | (at_mapUpdate; refine wpList_mapUpdate_own _ rfl _ _ _ 64 rfl 9 71 law9 Try.underlying64 ptrElem s1.mn s1.names.length (dirD s1.names) rfl HN3.out (by simp [maxLen]; omega) _ _ (.string nm.data.toList) rfl rfl (key_nm nm hnm2) (.lit (.int .i64 (w2.heap.size : Int))) [] rfl ?_; intro w4 hown4 hgrow4; have hs4 := hgrow4.size; have bP4 := HBP.out.grown hgrow4 (by simp; omega); have e4 : w4.cell? ⟨p, 4, none⟩ = some (.slice A4 s1.pend.length d4) := (bP4.cell 4).trans (by rw [← HVP.out]; rfl); have HOW4 := Lib.hid hown4; have HG4 := Lib.hid hgrow4; have HBP4 := Lib.hid bP4; have HOP4 := Lib.hid (own_keep (w' := w4) HOP.out (fun k hk hlt => hgrow4.block k hlt (by have := HAM.out k hk; simpa using this))); clear hown4 hgrow4 bP4)
        | (at_builtin; go_loud (refine wpList_append_any _ rfl (.tmp 37) (.tmp 41) 65 rfl 0 75 i0 (.agg #[.string ⟨#[]⟩, .string ⟨#[]⟩, .pointer none]) 3 40 Try.underlying65 HI.out HZ0.out HZ1.out HZ2.out rfl (by omega) (.slice A4 s1.pend.length d4) s1.pend.length (chsV s1.pend) rfl (HOP4.out.alloc _) (w4.heap.size + 1) (some ⟨w4.heap.size, 0, none⟩) 1 1 [.string ⟨#[]⟩, .string nm, .pointer (some ⟨w2.heap.size, 0, none⟩)] rfl (reads_new3 w4 75 _ _ _) (chV_one nm _) (by simp [maxLen]; omega) (by omega) (Nat.zero_le _) ?_; intro v5 w5 hown5 hgrow5 hloc5; obtain ⟨A5, d5, hv5⟩ := own_slice hown5; subst hv5; have bP5 := (HBP4.out.alloc (.cells #[.string ⟨#[]⟩, .string nm, .pointer (some ⟨w2.heap.size, 0, none⟩)] 75)).grown hgrow5 (Ne.symm (own_blk_ne HOP4.out HBP4.out (by decide))); have y4 : w5.cell? ⟨p, 4, none⟩ = some s1.vp := bP5.cell 4; have z4 := bP5.frozen 4; have HBP5 := Lib.hid bP5; clear bP5; have HW5 := Lib.hid hown5; have HG5 := Lib.hid hgrow5; have HL5 := Lib.hid hloc5; have hs5 := hgrow5.size; rw [World.size_alloc] at hs5; clear hown5 hgrow5 hloc5)))
      go_ret
      have e4 : createC s nm = 0 := by
        unfold createC
        rw [HK.out, if_pos rfl, if_neg (by rw [← HNE.out, HDG.out]; simp)]
      have hnmn : nmOk nm.data.toList := by unfold nmOk; have := rightB_size HRT.out; rw [Array.length_toList]; exact this
      obtain ⟨w6, hw6⟩ : ∃ w6, w5.setCell ⟨p, 4, none⟩ (.slice A5 (s1.pend.length + 1) d5) = w6 := ⟨_, rfl⟩
      rw [hw6]
      have hk6 : ∀ k, k < w2.heap.size → k ≠ p → k ≠ s1.mn → s1.vp.ownBlock ≠ some k → w6.heap[k]? = w2.heap[k]? := fun k hk h1 h2 h3 => by
        rw [← hw6, Below.heap_setCell _ _ _ _ h1, HG5.out.block k (by rw [World.size_alloc]; omega) (by rw [← HVP.out]; exact Ne.symm h3), Below.heap_alloc _ _ _ (by omega), HG4.out.block k (by omega) (by simpa using h2), HB3.out.block k hk]
      have hD : DiskAt w6 (Gr (Gr F w) w2) p (created s1 nm.data.toList w2.heap.size (.slice A5 (s1.pend.length + 1) d5)) := by
        refine HD.out.created nm.data.toList w2.heap.size _ (Nat.le_refl _) hk6 ?_ ?_ ?_ ?_ ?_ ?_ ?_ hnmn (rightB_ne HRT.out)
        · rw [← hw6]; exact HBP5.out.set_ 4 _
        · have hd : DirAt w4 s1.mn (s1.names.length + 1) (dput s1.names nm.data.toList w2.heap.size) := by
            have := HOW4.out
            rw [dirD_put] at this
            exact this
          refine hd.tight.keep ?_
          rw [← hw6, Below.heap_setCell _ _ _ _ hmp, HG5.out.block _ (by rw [World.size_alloc]; omega) (fun e => HAM.out _ e.symm rfl), Below.heap_alloc _ _ _ (by omega)]
        · rw [← hw6]
          refine Blk.far ?_ hgp _
          have b4 := (HBF.out.grown HG4.out (by simpa using hgm)).alloc (.cells #[.string ⟨#[]⟩, .string nm, .pointer (some ⟨w2.heap.size, 0, none⟩)] 75)
          exact b4.grown HG5.out (Ne.symm (own_blk_ne (HOP4.out.alloc _) b4 (by decide)))
        · have e5 : chsV (s1.pend ++ [⟨[], nm.data.toList, some w2.heap.size⟩]) = chsV s1.pend ++ [.string ⟨#[]⟩, .string nm, .pointer (some ⟨w2.heap.size, 0, none⟩)] := by
            rw [chsV_snoc]
            simp [chV, nmV, ptrV]
          rw [e5, ← hw6]
          exact ownsRow_setCell_other HW5.out (own_blk_ne HW5.out HBP5.out (by decide)) _
        · rcases HL5.out with e | e
          · exact .inl (by rw [HVP.out]; exact e)
          · refine .inr fun k hk => ?_
            rw [e] at hk
            injection hk with hk
            rw [World.size_alloc] at hk
            omega
        · have := len_dput s1.names nm.data.toList w2.heap.size
          have := HOL.out
          omega
        · have := HOL.out
          omega
      have hC : Chg F w w6 := by
        rw [← hw6]
        have c3 := HC.out.below HB3.out (by omega)
        have c4 := c3.grown HG4.out (fun g hg => by cases hg; exact HD.out.mnF)
        have c5 := (c4.alloc (.cells #[.string ⟨#[]⟩, .string nm, .pointer (some ⟨w2.heap.size, 0, none⟩)] 75)).grown HG5.out (fun g hg => HD.out.pendF g (by rw [HVP.out]; exact hg))
        exact c5.setCell (p := ⟨p, 4, none⟩) HD.out.own _
      refine ⟨v, _, by rw [e4]; rfl, hD.inF (fun k hk => Gr.mono (by omega) k hk), hC, .inr ⟨e4, HRT.out, by rw [← HNE.out]; exact HDG.out, w2.heap.size, _, by omega, by rw [HSE.out]⟩⟩
  · have hq : (why != 0) = true := by simp [hwy]
    have HWY := Lib.hid hwy
    clear hwy
    go_wp2
    go_ret
    have e4 : createC s nm = why := by
      unfold createC
      rw [HK.out, if_neg HWY.out]
    exact ⟨v, _, by rw [e4]; rfl, HD.out, HC.out, .inl ⟨by rw [e4]; exact HWY.out, rfl⟩⟩
end Go.Proofs.Ytfeglchngekedaa
