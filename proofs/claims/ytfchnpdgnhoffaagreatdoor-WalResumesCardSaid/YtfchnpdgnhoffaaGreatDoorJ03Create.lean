/- The walk of (*Disk).Create. The walk of (*Disk).Used. A region that draws its order and whose callees may make memory of their own: one walk in the order of the text, over the class of worlds that grew from one. The walk of (*Disk).fits. The walk of (*Disk).Append. The walk of (*Disk).Append: the steps through the code. -/
import Derived.Test.YtfchnpdgnhoffaaGreatDoorJ02Right
import Derived.Maps.RangeWalk
import Derived.BigQuiet
namespace Go.Proofs.YtfchnpdgnhoffaaGreatDoor
open Go.RowKit Go.Shelf Go.Maps

theorem info77 : (Tryz.prog.info? 77).map (fun i => (i.zero, i.size, i.bytes)) = some (some (.agg #[.string ⟨#[]⟩, .string ⟨#[]⟩, .pointer none]), 3, 40) := by kernel_rfl

theorem own_ne2 {w : World} {b1 b2 : Nat} {e1 e2 : TypeId} {z1 z2 n1 n2 : Nat} {v1 v2 : Value} {x1 x2 : List Value} (h1 : w.ownsRow b1 e1 z1 v1 n1 x1) (h2 : w.ownsRow b2 e2 z2 v2 n2 x2) (hne : e1 ≠ e2) {k : Nat} (hk : v1.ownBlock = some k) : v2.ownBlock ≠ some k := by
  rcases h1.2 with ⟨rfl, _⟩ | ⟨g, cap, cur, rfl, _, hh, _⟩
  · cases hk
  · have e : g = k := by simpa [Value.ownBlock] using hk
    subst e
    exact own_blk_ne h2 hh (Ne.symm hne)

def upd {α : Type} (f : Nat → α) (g : Nat) (x : α) : Nat → α := fun k => if k = g then x else f k
theorem upd_same {α : Type} (f : Nat → α) (g : Nat) (x : α) : upd f g x g = x := by simp [upd]
theorem upd_other {α : Type} (f : Nat → α) {g k : Nat} (x : α) (h : k ≠ g) : upd f g x k = f k := by simp [upd, h]

def created (s : DS) (nm : Nm) (g : Nat) (v : Value) : DS :=
  { s with names := dput s.names nm g, pend := s.pend ++ [⟨[], nm, some g⟩], vp := v, raw := upd s.raw g (.slice none 0 0), bytes := upd s.bytes g [], kept := upd s.kept g 0 }

theorem live_lt {w : World} {F : Nat → Prop} {p : Nat} {s : DS} (h : DiskAt w F p s) {g : Nat} (hg : live s g) : g < w.heap.size := (h.file g hg).blk.lt

theorem DiskAt.created {w w' : World} {F : Nat → Prop} {p : Nat} {s : DS} (h : DiskAt w F p s) (nm : Nm) (g : Nat) (v : Value) (hg : w.heap.size ≤ g)
    (hk : ∀ k, k < w.heap.size → k ≠ p → k ≠ s.mn → s.vp.ownBlock ≠ some k → w'.heap[k]? = w.heap[k]?)
    (hb : Blk w' p 67 #[.int .i64 s.cap, .int .i64 (s.ops : Int), .map (some s.mn), .map (some s.ms), v, s.vf, .bool s.stopped, .int .i64 s.stop])
    (hd : DirAt w' s.mn (dput s.names nm g).length (dput s.names nm g)) (hf : Blk w' g 85 #[.slice none 0 0, .int .i64 0])
    (hv : w'.ownsRow 0 77 3 v (s.pend.length + 1) (chsV (s.pend ++ [⟨[], nm, some g⟩]))) (hvF : v.ownBlock = s.vp.ownBlock ∨ (∀ k, v.ownBlock = some k → w.heap.size ≤ k))
    (hl1 : (dput s.names nm g).length ≤ s.ops) (hl2 : s.pend.length + 1 ≤ s.ops) (hn : nmOk nm) (hn0 : nm ≠ []) : DiskAt w' (Gr F w) p (created s nm g v) := by
  have hms : s.ms ≠ p := h.safe.blk_ne h.blk
  have hlive : ∀ x, live (YtfchnpdgnhoffaaGreatDoor.created s nm g v) x → x = g ∨ (x ≠ g ∧ live s x) := by
    intro x hx
    by_cases e : x = g
    · exact .inl e
    · refine .inr ⟨e, ?_⟩
      rcases hx with ⟨y, hy, rfl⟩ | ⟨y, hy, rfl⟩ | ⟨c, hc, he⟩
      · rcases (mem_dput _ _ _ _).1 hy with rfl | ⟨hy, _⟩
        · exact absurd rfl e
        · exact .inl ⟨y, hy, rfl⟩
      · exact .inr (.inl ⟨y, hy, rfl⟩)
      · rcases List.mem_append.1 hc with hc | hc
        · exact .inr (.inr ⟨c, hc, he⟩)
        · rw [List.mem_singleton.1 hc] at he
          exact absurd (Option.some.inj he).symm e
  exact {
    blk := hb
    own := .inl h.own
    names := hd
    safe := h.safe.keep (hk _ h.safe.lt hms (Ne.symm h.mne) (h.safe.own_ne h.pend))
    namesL := hl1
    safeL := h.safeL
    mnF := .inl h.mnF
    msF := .inl h.msF
    mne := h.mne
    pend := by
      have e : (s.pend ++ [(⟨[], nm, some g⟩ : Ch)]).length = s.pend.length + 1 := by simp
      show w'.ownsRow 0 77 3 v (s.pend ++ [(⟨[], nm, some g⟩ : Ch)]).length (chsV (s.pend ++ [⟨[], nm, some g⟩]))
      rw [e]; exact hv
    pendF := fun k hk' => by
      rcases hvF with e | e
      · exact .inl (h.pendF k (by rw [← e]; exact hk'))
      · exact .inr (e k hk')
    pendL := by show (s.pend ++ [(⟨[], nm, some g⟩ : Ch)]).length ≤ s.ops; simp; omega
    flts := own_keep h.flts fun k hk' hlt => hk k hlt (fun e => own_blk_ne h.flts h.blk (by decide) (by rw [← e]; exact hk')) (fun e => h.names.own_ne h.flts (by rw [← e]; exact hk'))
      (own_ne2 h.flts h.pend (by decide) hk')
    fltsF := fun k hk' => .inl (h.fltsF k hk')
    file := fun x hx => by
      rcases hlive x hx with rfl | ⟨hne, hx⟩
      · refine ⟨?_, .inr hg, ?_, ?_, ?_, ?_⟩
        · show Blk w' x 85 #[upd s.raw x (.slice none 0 0) x, .int .i64 ((upd s.kept x 0 x : Nat) : Int)]
          rw [upd_same, upd_same]; exact hf
        · show w'.ownsRow 0 5 1 (upd s.raw x (.slice none 0 0) x) (upd s.bytes x [] x).length (bytesV (upd s.bytes x [] x))
          rw [upd_same, upd_same]; exact World.ownsRow_nil _ _ _ _
        · intro k hk'
          have : (upd s.raw x (.slice none 0 0) x).ownBlock = some k := hk'
          rw [upd_same] at this
          cases this
        · show upd s.kept x 0 x ≤ (upd s.bytes x [] x).length
          rw [upd_same, upd_same]; exact Nat.zero_le _
        · show (upd s.bytes x [] x).length ≤ _
          rw [upd_same]; exact Nat.zero_le _
      · have hf' := h.file x hx
        refine ⟨?_, .inl hf'.own, ?_, ?_, ?_, ?_⟩
        · show Blk w' x 85 #[upd s.raw g (.slice none 0 0) x, .int .i64 ((upd s.kept g 0 x : Nat) : Int)]
          rw [upd_other _ _ hne, upd_other _ _ hne]
          exact (hk x hf'.blk.lt (Blk.ne_ hf'.blk h.blk (by decide)) (fun e => h.names.blk_ne hf'.blk e.symm) (own_blk_ne h.pend hf'.blk (by decide))).trans hf'.blk
        · show w'.ownsRow 0 5 1 (upd s.raw g (.slice none 0 0) x) (upd s.bytes g [] x).length (bytesV (upd s.bytes g [] x))
          rw [upd_other _ _ hne, upd_other _ _ hne]
          exact own_keep hf'.row fun k hk' hlt => hk k hlt (fun e => own_blk_ne hf'.row h.blk (by decide) (by rw [← e]; exact hk')) (fun e => h.names.own_ne hf'.row (by rw [← e]; exact hk'))
            (own_ne2 hf'.row h.pend (by decide) hk')
        · intro k hk'
          have : (upd s.raw g (.slice none 0 0) x).ownBlock = some k := hk'
          rw [upd_other _ _ hne] at this
          exact .inl (hf'.rowF k this)
        · show upd s.kept g 0 x ≤ (upd s.bytes g [] x).length
          rw [upd_other _ _ hne, upd_other _ _ hne]; exact hf'.le
        · show (upd s.bytes g [] x).length ≤ _
          rw [upd_other _ _ hne]; exact hf'.len
    apart := fun x y hx hy hne => by
      show (upd s.raw g (.slice none 0 0) x).ownBlock = none ∨ (upd s.raw g (.slice none 0 0) x).ownBlock ≠ (upd s.raw g (.slice none 0 0) y).ownBlock
      rcases hlive x hx with rfl | ⟨hnx, hx⟩
      · rw [upd_same]; exact .inl rfl
      · rcases hlive y hy with rfl | ⟨hny, hy⟩
        · rw [upd_same, upd_other _ _ hnx]
          cases e : (s.raw x).ownBlock with
          | none => exact .inl rfl
          | some k => exact .inr (by simp [Value.ownBlock])
        · rw [upd_other _ _ hnx, upd_other _ _ hny]; exact h.apart x y hx hy hne
    nameOk := fun x hx => by
      rcases (mem_dput _ _ _ _).1 hx with rfl | ⟨hx, _⟩
      · exact hn
      · exact h.nameOk x hx
    safeOk := h.safeOk
    pendOk := fun c hc => by
      rcases List.mem_append.1 hc with hc | hc
      · exact h.pendOk c hc
      · rw [List.mem_singleton.1 hc]; exact ⟨Nat.zero_le _, hn⟩
    capB := h.capB
    rep := h.rep.snoc _ (fun e => by cases e) (by show (if nm = [] then s.names else dput s.names nm g) = dput s.names nm g; rw [if_neg hn0]) }

theorem reads_new3 (w : World) (t : TypeId) (a b c : Value) : Reads (w.alloc (.cells #[a, b, c] t)) (w.heap.size + 1) 3 (some ⟨w.heap.size, 0, none⟩) 1 [a, b, c] := by
  have hb := Blk.new w t #[a, b, c]
  refine ⟨rfl, fun _ => ⟨_, rfl, Nat.lt_succ_self _, fun j u hu => ?_⟩⟩
  have e : (⟨w.heap.size, 0, none⟩ : Addr).add j = ⟨w.heap.size, j, none⟩ := by unfold Addr.add; split <;> simp_all
  rw [e, hb.cell j]
  match j with
  | 0 => exact hu
  | 1 => exact hu
  | 2 => exact hu
  | j + 3 => cases hu
theorem chV_one (nm : ByteArray) (a : Option Addr) : ∀ u ∈ [Value.string ⟨#[]⟩, .string nm, .pointer a], u.oneCell' = true := by
  intro u hu
  simp only [List.mem_cons, List.not_mem_nil, or_false] at hu
  rcases hu with rfl | rfl | rfl <;> rfl
/-- what Create answers -/
def createC (s : DS) (nm : ByteArray) : Int := if (beginS s [nm]).2 = 0 then (if (dget s.names nm.data.toList).isSome then 4 else 0) else (beginS s [nm]).2
def CreatePost (w : World) (F : Nat → Prop) (p : Nat) (s : DS) (nm : ByteArray) (e : Ending) (w' : World) : Prop :=
  ∃ v s', e = .returned (.int .i64 (createC s nm)) ∧ DiskAt w' (Gr F w) p s' ∧ Chg F w w' ∧
    ((createC s nm ≠ 0 ∧ s' = begun s v) ∨ (createC s nm = 0 ∧ rightB nm = true ∧ dget s.names nm.data.toList = none ∧ ∃ g v2, w.heap.size ≤ g ∧ s' = created (begun s v) nm.data.toList g v2))
theorem beginS_right {s : DS} {nm : ByteArray} (h : (beginS s [nm]).2 = 0) : rightB nm = true := by
  unfold beginS at h
  split at h
  · cases h
  · split at h
    · cases h
    · cases hr : rightB nm with
      | true => rfl
      | false => simp [hr] at h
theorem rightB_size {nm : ByteArray} (h : rightB nm = true) : nm.size ≤ 64 := by
  unfold rightB at h
  simp at h
  exact h.2
theorem rightB_ne {nm : ByteArray} (h : rightB nm = true) : nm.data.toList ≠ [] := by
  unfold rightB at h
  simp at h
  intro e
  have e3 : nm.data.toList.length = 0 := by rw [e]; rfl
  rw [Array.length_toList] at e3
  have h2 : nm.data.size = nm.size := rfl
  omega

set_option maxRecDepth 100000 in
set_option maxHeartbeats 6400000 in
theorem create_any (w : World) (F : Nat → Prop) (p : Nat) (s : DS) (nm : ByteArray) (h : DiskAt w F p s) (hnm : nm.size ≤ 9223372036854775807) (hnm2 : nm.size ≤ maxLen)
    (ho : s.ops ≤ 999999) (hf : s.flts.length ≤ 100000) : Calls Tryz.prog 49 #[.pointer (some ⟨p, 0, none⟩), .string nm] w (CreatePost w F p s nm) := by
  obtain ⟨i0, hi, hz0, hz1, hz2⟩ := info_parts info77
  have HI := Lib.hid hi
  have HZ0 := Lib.hid hz0
  have HZ1 := Lib.hid hz1
  have HZ2 := Lib.hid hz2
  have hp := h.lt
  have H := Lib.hid h
  clear h hi hz0 hz1 hz2
  go_enter Tryz.func49, Tryz.ntmps49
  go_wp2_with fail
  obtain ⟨w1, hw1⟩ : ∃ w1, w.alloc (.cells #[.string nm] 9) = w1 := ⟨_, rfl⟩
  have hs1 : w1.heap.size = w.heap.size + 1 := by rw [← hw1]; simp
  have hR1 : Reads w1 w1.heap.size 1 (some ⟨w.heap.size, 0, none⟩) 1 ([nm].map Value.string) := by
    have hb := Blk.new w 9 #[.string nm]
    rw [hw1] at hb
    refine ⟨rfl, fun _ => ⟨_, rfl, hb.lt, fun j u hu => ?_⟩⟩
    have e : (⟨w.heap.size, 0, none⟩ : Addr).add j = ⟨w.heap.size, j, none⟩ := by unfold Addr.add; split <;> simp_all
    rw [e, hb.cell j]
    match j with
    | 0 => exact hu
    | j + 1 => cases hu
  have hc1 : Chg F w w1 := by rw [← hw1]; exact (Chg.refl F w).alloc _
  have hD1 : DiskAt w1 (Gr F w) p s := H.out.keep (fun k _ hk => by rw [← hw1]; exact Below.heap_alloc w _ k hk) (fun k hk => .inl hk)
  rw [hw1]
  refine (begin_any w1 (Gr F w) p s [nm] (some ⟨w.heap.size, 0, none⟩) 1 1 hD1 hR1 (fun x hx => by rw [List.mem_singleton.1 hx]; exact hnm) (by omega) (by omega) hf (fun ad e => by injection e with e; rw [← e]; show w.heap.size ≠ p; omega)).mono ?_
  rintro e w2 ⟨v, rfl, hD2, hc2⟩
  have hC2 : Chg F w w2 := hc1.then hc2
  have hD2' : DiskAt w2 (Gr F w) p (begun s v) := hD2.inF (fun k hk => Gr.mono (by omega) k hk)
  have hs2 := hc2.size
  have HD := Lib.hid hD2'
  have HC := Lib.hid hC2
  clear hw1 hR1 hc1 hD1 hD2 hc2 hC2 hD2'
  obtain ⟨kd, why, hk⟩ : ∃ kd why, beginS s [nm] = (kd, why) := ⟨_, _, rfl⟩
  rw [hk]
  have HK := Lib.hid hk
  clear hk
  by_cases hwy : why = 0
  · subst hwy
    have hrt := beginS_right (s := s) (nm := nm) (by rw [HK.out])
    have HRT := Lib.hid hrt
    obtain ⟨-, -, c2, -, c4, -, -, -⟩ := HD.out.cells
    have hlook := HD.out.names.look nm hnm2
    have f4 := HD.out.blk.frozen 4
    clear hrt
    cases hd : dget (begun s v).names nm.data.toList with
    | some g =>
      have HDG := Lib.hid hd
      rw [hd] at hlook
      simp only [ptrV] at hlook
      clear hd
      go_wp2
      go_ret
      have e4 : createC s nm = 4 := by
        unfold createC
        rw [HK.out, if_pos rfl, if_pos (by have := HDG.out; rw [show s.names = (begun s v).names from rfl, this]; rfl)]
      exact ⟨v, _, by rw [e4]; rfl, HD.out, HC.out, .inl ⟨by rw [e4]; decide, rfl⟩⟩
    | none =>
      have HDG := Lib.hid hd
      rw [hd] at hlook
      simp only [ptrV] at hlook
      clear hd
      obtain ⟨A4, d4, hvp⟩ := own_slice HD.out.pend
      have HVP := Lib.hid hvp
      rw [hvp] at c4
      have hbl := HD.out.blk.lt
      have hml := HD.out.names.lt
      have hmp := HD.out.names.blk_ne HD.out.blk
      have hpl := HD.out.pendL
      have hnl := HD.out.namesL
      have hol : (begun s v).ops = s.ops + 1 := rfl
      have hpl' := H.out.pendL
      have hnl' := H.out.namesL
      have hpe : (begun s v).pend = s.pend := rfl
      have hne : (begun s v).names = s.names := rfl
      clear hvp
      generalize hs1e : begun s v = s1 at *
      have HSE := Lib.hid hs1e
      have hpl2 : s1.pend.length ≤ s.ops := by rw [hpe]; exact hpl'
      have hnl2 : s1.names.length ≤ s.ops := by rw [hne]; exact hnl'
      have HOL := Lib.hid hol
      have HNE := Lib.hid hne
      clear hs1e hpe hne hol hpl hnl hpl' hnl'
      go_upto_region 7 with fail
      obtain ⟨w3, hw3⟩ : ∃ w3, w2.alloc (.cells #[.slice none 0 0, .int .i64 0] 85) = w3 := ⟨_, rfl⟩
      have hs3 : w3.heap.size = w2.heap.size + 1 := by rw [← hw3]; simp
      have hb3 : Below w2.heap.size w2 w3 := by rw [← hw3]; exact (Below.refl _ w2).alloc (Nat.le_refl _) _
      have bF : Blk w3 w2.heap.size 85 #[.slice none 0 0, .int .i64 0] := by rw [← hw3]; exact Blk.new w2 85 _
      have hN3 : DirAt w3 s1.mn s1.names.length s1.names := HD.out.names.keep (hb3.block _ hml)
      have bP : Blk w3 p 67 _ := HD.out.blk.below hb3 hbl
      have oP := own_keep (w' := w3) HD.out.pend (fun k _ hk => hb3.block k hk)
      rw [HVP.out] at oP
      rw [hw3]
      have e2 : w3.cell? ⟨p, 2, none⟩ = some (.map (some s1.mn)) := bP.cell 2
      have HN3 := Lib.hid hN3
      have HBP := Lib.hid bP
      have HOP := Lib.hid oP
      have HBF := Lib.hid bF
      have HB3 := Lib.hid hb3
      have hgm : w2.heap.size ≠ s1.mn := by omega
      have hgp : w2.heap.size ≠ p := by omega
      have hAm : ∀ k, (Value.slice A4 s1.pend.length d4).ownBlock = some k → k ≠ s1.mn := fun k hk e => by rw [e] at hk; exact hN3.own_ne oP hk
      have HAM := Lib.hid hAm
      clear hw3 hb3 bF hN3 bP oP c2 c4 f4 hlook hAm
      go_wp2_with (first
        | (at_mapUpdate; refine wpList_mapUpdate_own _ rfl _ _ _ 63 rfl 9 74 law9 Tryz.underlying63 ptrElem s1.mn s1.names.length (dirD s1.names) rfl HN3.out (by simp [maxLen]; omega) _ _ (.string nm.data.toList) rfl rfl (key_nm nm hnm2) (.lit (.int .i64 (w2.heap.size : Int))) [] rfl ?_; intro w4 hown4 hgrow4; have hs4 := hgrow4.size; have bP4 := HBP.out.grown hgrow4 (by simp; omega); have e4 : w4.cell? ⟨p, 4, none⟩ = some (.slice A4 s1.pend.length d4) := (bP4.cell 4).trans (by rw [← HVP.out]; rfl); have HOW4 := Lib.hid hown4; have HG4 := Lib.hid hgrow4; have HBP4 := Lib.hid bP4; have HOP4 := Lib.hid (own_keep (w' := w4) HOP.out (fun k hk hlt => hgrow4.block k hlt (by have := HAM.out k hk; simpa using this))); clear hown4 hgrow4 bP4)
        | (at_builtin; go_loud (refine wpList_append_any _ rfl (.tmp 37) (.tmp 41) 64 rfl 0 77 i0 (.agg #[.string ⟨#[]⟩, .string ⟨#[]⟩, .pointer none]) 3 40 Tryz.underlying64 HI.out HZ0.out HZ1.out HZ2.out rfl (by omega) (.slice A4 s1.pend.length d4) s1.pend.length (chsV s1.pend) rfl (HOP4.out.alloc _) (w4.heap.size + 1) (some ⟨w4.heap.size, 0, none⟩) 1 1 [.string ⟨#[]⟩, .string nm, .pointer (some ⟨w2.heap.size, 0, none⟩)] rfl (reads_new3 w4 77 _ _ _) (chV_one nm _) (by simp [maxLen]; omega) (by omega) (Nat.zero_le _) ?_; intro v5 w5 hown5 hgrow5 hloc5; obtain ⟨A5, d5, hv5⟩ := own_slice hown5; subst hv5; have bP5 := (HBP4.out.alloc (.cells #[.string ⟨#[]⟩, .string nm, .pointer (some ⟨w2.heap.size, 0, none⟩)] 77)).grown hgrow5 (Ne.symm (own_blk_ne HOP4.out HBP4.out (by decide))); have y4 : w5.cell? ⟨p, 4, none⟩ = some s1.vp := bP5.cell 4; have z4 := bP5.frozen 4; have HBP5 := Lib.hid bP5; clear bP5; have HW5 := Lib.hid hown5; have HG5 := Lib.hid hgrow5; have HL5 := Lib.hid hloc5; have hs5 := hgrow5.size; rw [World.size_alloc] at hs5; clear hown5 hgrow5 hloc5)))
      go_ret
      have e4 : createC s nm = 0 := by
        unfold createC
        rw [HK.out, if_pos rfl, if_neg (by rw [← HNE.out, HDG.out]; simp)]
      have hnmn : nmOk nm.data.toList := by unfold nmOk; have := rightB_size HRT.out; rw [Array.length_toList]; exact this
      obtain ⟨w6, hw6⟩ : ∃ w6, w5.setCell ⟨p, 4, none⟩ (.slice A5 (s1.pend.length + 1) d5) = w6 := ⟨_, rfl⟩
      rw [hw6]
      have hk6 : ∀ k, k < w2.heap.size → k ≠ p → k ≠ s1.mn → s1.vp.ownBlock ≠ some k → w6.heap[k]? = w2.heap[k]? := fun k hk h1 h2 h3 => by
        rw [← hw6, Below.heap_setCell _ _ _ _ h1, HG5.out.block k (by rw [World.size_alloc]; omega) (by rw [← HVP.out]; exact Ne.symm h3), Below.heap_alloc _ _ _ (by omega), HG4.out.block k (by omega) (by simpa using h2), HB3.out.block k hk]
      have hD : DiskAt w6 (Gr (Gr F w) w2) p (created s1 nm.data.toList w2.heap.size (.slice A5 (s1.pend.length + 1) d5)) := by
        refine HD.out.created nm.data.toList w2.heap.size _ (Nat.le_refl _) hk6 ?_ ?_ ?_ ?_ ?_ ?_ ?_ hnmn (rightB_ne HRT.out)
        · rw [← hw6]; exact HBP5.out.set_ 4 _
        · have hd : DirAt w4 s1.mn (s1.names.length + 1) (dput s1.names nm.data.toList w2.heap.size) := by
            have := HOW4.out
            rw [dirD_put] at this
            exact this
          refine hd.tight.keep ?_
          rw [← hw6, Below.heap_setCell _ _ _ _ hmp, HG5.out.block _ (by rw [World.size_alloc]; omega) (fun e => HAM.out _ e.symm rfl), Below.heap_alloc _ _ _ (by omega)]
        · rw [← hw6]
          refine Blk.far ?_ hgp _
          have b4 := (HBF.out.grown HG4.out (by simpa using hgm)).alloc (.cells #[.string ⟨#[]⟩, .string nm, .pointer (some ⟨w2.heap.size, 0, none⟩)] 77)
          exact b4.grown HG5.out (Ne.symm (own_blk_ne (HOP4.out.alloc _) b4 (by decide)))
        · have e5 : chsV (s1.pend ++ [⟨[], nm.data.toList, some w2.heap.size⟩]) = chsV s1.pend ++ [.string ⟨#[]⟩, .string nm, .pointer (some ⟨w2.heap.size, 0, none⟩)] := by
            rw [chsV_snoc]
            simp [chV, nmV, ptrV]
          rw [e5, ← hw6]
          exact ownsRow_setCell_other HW5.out (own_blk_ne HW5.out HBP5.out (by decide)) _
        · rcases HL5.out with e | e
          · exact .inl (by rw [HVP.out]; exact e)
          · refine .inr fun k hk => ?_
            rw [e] at hk
            injection hk with hk
            rw [World.size_alloc] at hk
            omega
        · have := len_dput s1.names nm.data.toList w2.heap.size
          have := HOL.out
          omega
        · have := HOL.out
          omega
      have hC : Chg F w w6 := by
        rw [← hw6]
        have c3 := HC.out.below HB3.out (by omega)
        have c4 := c3.grown HG4.out (fun g hg => by cases hg; exact HD.out.mnF)
        have c5 := (c4.alloc (.cells #[.string ⟨#[]⟩, .string nm, .pointer (some ⟨w2.heap.size, 0, none⟩)] 77)).grown HG5.out (fun g hg => HD.out.pendF g (by rw [HVP.out]; exact hg))
        exact c5.setCell (p := ⟨p, 4, none⟩) HD.out.own _
      refine ⟨v, _, by rw [e4]; rfl, hD.inF (fun k hk => Gr.mono (by omega) k hk), hC, .inr ⟨e4, HRT.out, by rw [← HNE.out]; exact HDG.out, w2.heap.size, _, by omega, by rw [HSE.out]⟩⟩
  · have hq : (why != 0) = true := by simp [hwy]
    have HWY := Lib.hid hwy
    clear hwy
    go_wp2
    go_ret
    have e4 : createC s nm = why := by
      unfold createC
      rw [HK.out, if_neg HWY.out]
    exact ⟨v, _, by rw [e4]; rfl, HD.out, HC.out, .inl ⟨by rw [e4]; exact HWY.out, rfl⟩⟩
end Go.Proofs.YtfchnpdgnhoffaaGreatDoor
namespace Go.Proofs.YtfchnpdgnhoffaaGreatDoor
open Go.RowKit Go.Shelf Go.Maps

def usedS (s : DS) : Nat := (s.names.map fun x => (s.bytes x.2).length).sum
/-- what of it is still to come -/
def restS (f : Nat → Nat) (l : Dl) (left : Lit → Bool) : Nat := ((l.filter fun x => left (.string x.1)).map fun x => f x.2).sum
theorem restS_none (f : Nat → Nat) (l : Dl) (left : Lit → Bool) (h : ∀ k, left k = false) : restS f l left = 0 := by
  unfold restS
  rw [List.filter_eq_nil_iff.2 (fun x _ => by rw [h]; simp)]
  rfl
theorem restS_strike (f : Nat → Nat) : ∀ (l : Dl) (left : Lit → Bool) (s : Nm) (g : Nat), l.Pairwise (fun x y => x.1 ≠ y.1) → dget l s = some g → left (.string s) = true →
    restS f l left = f g + restS f l (fun z => left z && !z.sameKey (.string s))
  | [], _, _, _, _, h, _ => by cases h
  | x :: l, left, s, g, hp, h, hl => by
    rw [List.pairwise_cons] at hp
    by_cases e : x.1 = s
    · have hg : x.2 = g := by
        unfold dget at h
        rw [List.find?_cons_of_pos (by simp [e])] at h
        exact Option.some.inj h
      have hr : l.filter (fun x => left (.string x.1)) = l.filter (fun x => left (.string x.1) && !(Lit.string x.1).sameKey (.string s)) := by
        apply List.filter_congr
        intro y hy
        have : y.1 ≠ s := fun e2 => hp.1 y hy (e.trans e2.symm)
        simp [Lit.sameKey, this]
      unfold restS
      rw [List.filter_cons_of_pos (by rw [e]; exact hl), List.filter_cons_of_neg (by simp [Lit.sameKey, e]), ← hr]
      simp [hg]
    · have hd : dget l s = some g := by
        unfold dget at h ⊢
        rw [List.find?_cons_of_neg (by simp [e])] at h
        exact h
      have ih := restS_strike f l left s g hp.2 hd hl
      have hsk : (!(Lit.string x.1).sameKey (.string s)) = true := by simp [Lit.sameKey, e]
      unfold restS at ih ⊢
      cases hx : left (.string x.1)
      · rw [List.filter_cons_of_neg (by simp [hx]), List.filter_cons_of_neg (by simp [hx])]
        exact ih
      · rw [List.filter_cons_of_pos (p := fun x : Nm × Nat => left (.string x.1)) hx, List.filter_cons_of_pos (by simp only [hx, hsk, Bool.and_true])]
        simp only [List.map_cons, List.sum_cons]
        dsimp only at ih
        omega
theorem has_dirD (l : Dl) (s : Nm) : Maps.has (dirD l) (.string s) = (dget l s).isSome := by
  unfold dirD dget
  rw [Maps.has_eq]
  rw [List.any_map]
  have e : ((fun p : Lit × DataW Unit => p.1.sameKey (.string s)) ∘ encE) = fun x : Nm × Nat => x.1 == s := rfl
  rw [e, Option.isSome_map, List.isSome_find?]
theorem restS_all (f : Nat → Nat) (l : Dl) : restS f l (Maps.has (dirD l)) = (l.map fun x => f x.2).sum := by
  unfold restS
  rw [List.filter_eq_self.2]
  intro x hx
  rw [has_dirD]
  cases h : dget l x.1 with
  | some g => rfl
  | none => exact absurd rfl (dget_none.1 h x hx)

theorem inv_key (key : Value) (kl : Lit) (h : keyOf Tryz.prog 9 key = some kl) : ∃ x : ByteArray, key = .string x := by
  obtain ⟨s, e, _⟩ := WideMaps.string_of_keyOf Tryz.underlying9 h
  exact ⟨s, e⟩
theorem inv_ptr (v : Value) (y : DataW Unit × List MemPlace) (h : ptrElem v = some y) : ∃ c : Option Addr, v = .pointer c := by
  unfold ptrElem at h
  split at h
  · exact ⟨_, rfl⟩
  · exact ⟨_, rfl⟩
  · cases h

def UsedR (w : World) (s : DS) (acc : Value) (wr : World) : Prop :=
  ∃ (left : Lit → Bool) (cnt a : Nat), acc = .int .i64 (a : Int) ∧ wr.ranges Tryz.prog 9 ptrElem s.mn w.heap.size s.names.length (dirD s.names) left cnt ∧ a + restS (fun g => (s.bytes g).length) s.names left = usedS s ∧ Below w.heap.size w wr

theorem sum_le (l : List Nat) (B : Nat) (h : ∀ x ∈ l, x ≤ B) : l.sum ≤ l.length * B := by
  induction l with
  | nil => simp
  | cons a l ih =>
    have h1 := h a (by simp)
    have h2 := ih (fun x hx => h x (by simp [hx]))
    simp only [List.sum_cons, List.length_cons, Nat.succ_mul]
    omega
theorem used_le {w : World} {F : Nat → Prop} {p : Nat} {s : DS} (h : DiskAt w F p s) (ho : s.ops ≤ 1000000) : usedS s ≤ 100000000000000000 := by
  have h1 := sum_le (s.names.map fun x => (s.bytes x.2).length) (100000 * s.ops) (by
    intro n hn
    obtain ⟨x, hx, rfl⟩ := List.mem_map.1 hn
    exact (h.file x.2 (.inl ⟨x, hx, rfl⟩)).len)
  rw [List.length_map] at h1
  have h2 := h.namesL
  have h3 : s.names.length * (100000 * s.ops) ≤ 1000000 * (100000 * 1000000) := Nat.mul_le_mul (by omega) (by omega)
  unfold usedS
  omega

set_option maxRecDepth 100000 in
set_option maxHeartbeats 3200000 in
theorem used_any (w : World) (F : Nat → Prop) (p : Nat) (s : DS) (h : DiskAt w F p s) (ho : s.ops ≤ 1000000) :
    Calls Tryz.prog 88 #[.pointer (some ⟨p, 0, none⟩)] w fun e w' => e = .returned (.int .i64 (usedS s : Int)) ∧ Below w.heap.size w w' := by
  have hul := used_le h ho
  have hp := h.lt
  have hml := h.names.lt
  obtain ⟨-, -, c2, -, -, -, -, -⟩ := h.cells
  have H := Lib.hid h
  clear h
  go_enter Tryz.func88, Tryz.ntmps88
  go_wp2_with (at_range; refine wpList_range_own _ rfl _ 63 rfl 9 74 law9 Tryz.underlying63 ptrElem s.mn s.names.length (dirD s.names) rfl H.out.names ?_; intro w0 hrg0 hg0 hs0)
  go_frame
  have HR0 := Lib.hid hrg0
  have HG0 := Lib.hid hg0
  clear hrg0 hg0
  go_loopw [3] (fun acc wr => UsedR w s acc wr) (fun _ wr => wr.rangeLeft s.mn w.heap.size)
  case atStart => exact ⟨_, _, 0, rfl, HR0.out, by rw [restS_all]; simp [usedS], below_of_only HG0.out⟩
  case round =>
    obtain ⟨left, cnt, a, rfl, hrg, hsum, hb⟩ := hrel
    have HRG := Lib.hid hrg
    have HSUM := Lib.hid hsum
    have HB := Lib.hid hb
    have ha : a ≤ usedS s := by omega
    clear hrg hsum hb HR0 HG0
    go_wp2_with (at_next; refine wpList_next_ranges _ rfl _ rfl 9 law9 ptrElem Value.string Value.pointer inv_key inv_ptr s.mn w.heap.size s.names.length (dirD s.names) left cnt rfl HRG.out ?_ ?_)
    · intro _ hl0
      have HL0 := Lib.hid hl0
      clear hl0
      go_wp2
      go_ret
      refine ⟨?_, HB.out⟩
      have := HSUM.out
      rw [restS_none _ _ _ HL0.out] at this
      show Ending.returned (.int .i64 (a : Int)) = _
      rw [show a = usedS s by omega]
    · intro x c kl y1 y2 w1 cnt1 hkey hlx hR hat hrg1 hlt hg1 hs1 hen
      obtain ⟨x', e1, rfl, -⟩ := WideMaps.string_of_keyOf Tryz.underlying9 hkey
      obtain rfl : x = x' := by injection e1
      obtain ⟨g, hdg⟩ : ∃ g, dget s.names x.data.toList = some g := by
        cases hd : dget s.names x.data.toList with
        | some g => exact ⟨g, rfl⟩
        | none =>
          have h1 := hat .nil
          have h2 := hat (.lit (.bool true))
          rw [dirD_at, hd] at h1 h2
          rw [← h2] at h1
          cases h1
      have hc : c = some ⟨g, 0, none⟩ := by
        have h1 := hat .nil
        rw [dirD_at, hdg] at h1
        subst h1
        have := ptrElem_some hR
        injection this
      subst hc
      have hfile := H.out.file g (.inl ⟨_, dget_mem hdg, rfl⟩)
      have hgl := hfile.blk.lt
      have hb1 : Below w.heap.size w w1 := HB.out.grown hg1 HB.out.size (fun k hk => by cases hk; exact Nat.le_refl _)
      obtain ⟨A0, d0, hraw⟩ := own_slice hfile.row
      have q0 : w1.cell? ⟨g, 0, none⟩ = some (.slice A0 (s.bytes g).length d0) := by
        have := (hfile.blk.below hb1 hgl).cell 0
        rw [this]
        show some (s.raw g) = _
        rw [hraw]
      have hst := restS_strike (fun g => (s.bytes g).length) s.names left x.data.toList g H.out.names.tidy hdg hlx
      have hsm := HSUM.out
      have HRG1 := Lib.hid hrg1
      have HB1 := Lib.hid hb1
      have HST := Lib.hid (show a + (s.bytes g).length + restS (fun g => (s.bytes g).length) s.names (fun z => left z && !z.sameKey (.string x.data.toList)) = usedS s by omega)
      have hlen : a + (s.bytes g).length ≤ usedS s := by have := HST.out; omega
      clear hst hsm hkey hR hat hrg1 hb1 hfile hdg hlx hg1 hraw
      go_wp2
      refine ⟨⟨_, cnt1, a + (s.bytes g).length, by go_num, HRG1.out, HST.out, HB1.out⟩, ?_⟩
      rw [HRG1.out.left_eq, HRG.out.left_eq]
      exact hlt
end Go.Proofs.YtfchnpdgnhoffaaGreatDoor
namespace Go.Proofs.YtfchnpdgnhoffaaGreatDoor
open Go.RowKit Go.Shelf

/-- the worlds that have grown from w: below its heap's end nothing has turned -/
def Cls (w : World) : Type := { w' : World // Below w.heap.size w w' }
instance Cls.some (w : World) : Nonempty (Cls w) := ⟨⟨w, Below.refl _ w⟩⟩

theorem wp_region_cls {P : Program} {id : Nat} {Q : Exit → Act → World → Prop} {a : Act} {w : World} {l : List Oper} (hm : P.follows .mixedOrders = true) (hB : Region.lexB .any l.toArray = true)
    (h : wpQuiet P l.toArray (fun w' => ∃ s : Cls w, w' = s.val) (fun a' => ∀ w', (∃ s : Cls w, w' = s.val) → Q .normal a' w') l a) : (Code.region id l.toArray true).wp P Q a w :=
  wp_region_quiet (C := fun w' => ∃ s : Cls w, w' = s.val) hm hB ⟨⟨_, (Below.refl _ w).drew⟩, rfl⟩ (by simpa using h)

theorem Cls.call {P : Program} {f : FuncId} {args : Array Value} {w : World} {s : Cls w} {v : Value} (h : Calls P f args s.val fun e w' => e = .returned v ∧ Below s.val.heap.size s.val w') :
    Calls P f args s.val fun e w'' => e = .returned v ∧ ∃ s : Cls w, w'' = s.val :=
  h.mono fun _ w' ⟨he, hb⟩ => ⟨he, ⟨w', s.2.trans (hb.mono s.2.size)⟩, rfl⟩
end Go.Proofs.YtfchnpdgnhoffaaGreatDoor
namespace Go.Proofs.YtfchnpdgnhoffaaGreatDoor
open Go.RowKit Go.Shelf Go.Maps

def fitsS (s : DS) (nm : ByteArray) (n : Nat) : Int :=
  if (dget s.names nm.data.toList).isSome then (if 0 < n ∧ s.cap - (usedS s : Int) < (n : Int) then 5 else 0) else 3

set_option maxRecDepth 100000 in
set_option maxHeartbeats 3200000 in
theorem fits_any (w : World) (F : Nat → Prop) (p : Nat) (s : DS) (nm : ByteArray) (A : Option Addr) (n c : Nat) (h : DiskAt w F p s) (ho : s.ops ≤ 1000000) (hnm : nm.size ≤ maxLen) (hn : n ≤ 100000) :
    Calls Tryz.prog 73 #[.pointer (some ⟨p, 0, none⟩), .string nm, .slice A n c] w fun e w' => e = .returned (.int .i64 (fitsS s nm n)) ∧ Below w.heap.size w w' := by
  have hul := used_le h ho
  have hcap := h.capB
  have hp := h.lt
  have hlook := h.names.look nm hnm
  obtain ⟨c0, -, c2, -, -, -, -, -⟩ := h.cells
  have H := Lib.hid h
  clear h
  cases hd : dget s.names nm.data.toList with
  | none =>
    have HD := Lib.hid hd
    rw [hd] at hlook
    simp only [ptrV] at hlook
    clear hd
    go_enter Tryz.func73, Tryz.ntmps73
    go_wp2
    go_ret
    have e : fitsS s nm n = 3 := by unfold fitsS; rw [HD.out]; rfl
    exact ⟨by rw [e]; rfl, Below.refl _ _⟩
  | some g =>
    have HD := Lib.hid hd
    rw [hd] at hlook
    simp only [ptrV] at hlook
    clear hd
    rcases Nat.eq_zero_or_pos n with h0 | h0
    · subst h0
      have e : fitsS s nm 0 = 0 := by unfold fitsS; rw [HD.out]; simp
      have HE := Lib.hid e
      clear e
      go_enter Tryz.func73, Tryz.ntmps73
      go_wp2_with fail
      have hg : decide ((0 : Int) < ((0 : Nat) : Int)) = false := rfl
      go_quiet (fail)
      go_wp2
      go_ret
      exact ⟨by rw [HE.out]; rfl, below_drewN (Below.refl _ _) _⟩
    · have hg : decide ((0 : Int) < (n : Int)) = true := by simp; omega
      have hU : ∀ t : Cls w, Calls Tryz.prog 88 #[.pointer (some ⟨p, 0, none⟩)] t.val fun e w' => e = .returned (.int .i64 (usedS s : Int)) ∧ Below t.val.heap.size t.val w' := fun t =>
        used_any t.val F p s (H.out.keep (fun k _ hk => t.2.block k hk) (fun _ h => h)) ho
      have HU := Lib.hid hU
      have k0 : ∀ t : Cls w, t.val.cell? ⟨p, 0, none⟩ = some (.int .i64 s.cap) := fun t => (t.2.cell (p := ⟨p, 0, none⟩) hp).trans c0
      have hn0 : (0 : Int) < (n : Int) := by omega
      clear hU
      obtain ⟨U, hUe⟩ : ∃ U, U = usedS s := ⟨_, rfl⟩
      rw [← hUe] at HU hul
      have HUE := Lib.hid hUe
      clear hUe
      rcases Int.lt_or_le (s.cap - (U : Int)) (n : Int) with hlt | hlt
      · go_enter Tryz.func73, Tryz.ntmps73
        go_wp2_with fail
        refine wp_region_cls (by kernel_rfl) (by kernel_rfl) ?_
        repeat (go_big_quiet_step ((go_at_call 88; exact Cls.call (HU.out _))))
        refine wpQuiet_nil ?_
        rintro _ ⟨t, rfl⟩
        go_wp2
        go_ret
        have e : fitsS s nm n = 5 := by unfold fitsS; rw [HD.out, ← HUE.out, if_pos (show (some g).isSome = true from rfl), if_pos ⟨h0, hlt⟩]
        exact ⟨by rw [e]; rfl, t.2⟩
      · go_enter Tryz.func73, Tryz.ntmps73
        go_wp2_with fail
        refine wp_region_cls (by kernel_rfl) (by kernel_rfl) ?_
        repeat (go_big_quiet_step ((go_at_call 88; exact Cls.call (HU.out _))))
        refine wpQuiet_nil ?_
        rintro _ ⟨t, rfl⟩
        go_wp2
        go_ret
        have e : fitsS s nm n = 0 := by unfold fitsS; rw [HD.out, ← HUE.out, if_pos (show (some g).isSome = true from rfl), if_neg (fun h => by omega)]
        exact ⟨by rw [e]; rfl, t.2⟩
end Go.Proofs.YtfchnpdgnhoffaaGreatDoor
namespace Go.Proofs.YtfchnpdgnhoffaaGreatDoor
open Go.RowKit Go.Shelf Go.Maps

theorem info5 : (Tryz.prog.info? 5).map (fun i => (i.zero, i.size, i.bytes)) = some (some (.int .u8 0), 1, 1) := by kernel_rfl

def appended (s : DS) (g : Nat) (v : Value) (b : List UInt8) : DS := { s with raw := upd s.raw g v, bytes := upd s.bytes g (s.bytes g ++ b) }

theorem DiskAt.appended {w w' : World} {F : Nat → Prop} {p : Nat} {s : DS} (h : DiskAt w F p s) (g : Nat) (v : Value) (b : List UInt8) (hg : live s g)
    (hk : ∀ k, k < w.heap.size → k ≠ g → (s.raw g).ownBlock ≠ some k → w'.heap[k]? = w.heap[k]?)
    (hf : Blk w' g 85 #[v, .int .i64 (s.kept g : Int)]) (hv : w'.ownsRow 0 5 1 v (s.bytes g ++ b).length (bytesV (s.bytes g ++ b)))
    (hvF : v.ownBlock = (s.raw g).ownBlock ∨ (∀ k, v.ownBlock = some k → w.heap.size ≤ k)) (hl : (s.bytes g ++ b).length ≤ 100000 * s.ops) : DiskAt w' (Gr F w) p (appended s g v b) := by
  have fg := h.file g hg
  have hpg : p ≠ g := Blk.ne_ h.blk fg.blk (by decide)
  have hpr : (s.raw g).ownBlock ≠ some p := own_blk_ne fg.row h.blk (by decide)
  exact {
    blk := (hk p h.blk.lt hpg hpr).trans h.blk
    own := .inl h.own
    names := h.names.keep (hk _ h.names.lt (h.names.blk_ne fg.blk) (h.names.own_ne fg.row))
    safe := h.safe.keep (hk _ h.safe.lt (h.safe.blk_ne fg.blk) (h.safe.own_ne fg.row))
    namesL := h.namesL
    safeL := h.safeL
    mnF := .inl h.mnF
    msF := .inl h.msF
    mne := h.mne
    pend := own_keep h.pend fun k hk' hlt => hk k hlt (fun e => own_blk_ne h.pend fg.blk (by decide) (by rw [← e]; exact hk')) (own_ne2 h.pend fg.row (by decide) hk')
    pendF := fun k hk' => .inl (h.pendF k hk')
    pendL := h.pendL
    flts := own_keep h.flts fun k hk' hlt => hk k hlt (fun e => own_blk_ne h.flts fg.blk (by decide) (by rw [← e]; exact hk')) (own_ne2 h.flts fg.row (by decide) hk')
    fltsF := fun k hk' => .inl (h.fltsF k hk')
    file := fun x hx => by
      by_cases e : x = g
      · subst e
        refine ⟨?_, .inl fg.own, ?_, ?_, ?_, ?_⟩
        · show Blk w' x 85 #[upd s.raw x v x, .int .i64 (s.kept x : Int)]
          rw [upd_same]; exact hf
        · show w'.ownsRow 0 5 1 (upd s.raw x v x) (upd s.bytes x (s.bytes x ++ b) x).length (bytesV (upd s.bytes x (s.bytes x ++ b) x))
          rw [upd_same, upd_same]; exact hv
        · intro k hk'
          have hk2 : v.ownBlock = some k := by
            have : (upd s.raw x v x).ownBlock = some k := hk'
            rwa [upd_same] at this
          rcases hvF with e | e
          · exact .inl (fg.rowF k (by rw [← e]; exact hk2))
          · exact .inr (e k hk2)
        · show s.kept x ≤ (upd s.bytes x (s.bytes x ++ b) x).length
          rw [upd_same]
          have := fg.le
          simp
          omega
        · show (upd s.bytes x (s.bytes x ++ b) x).length ≤ _
          rw [upd_same]; exact hl
      · have fx := h.file x hx
        refine ⟨?_, .inl fx.own, ?_, ?_, ?_, ?_⟩
        · show Blk w' x 85 #[upd s.raw g v x, .int .i64 (s.kept x : Int)]
          rw [upd_other _ _ e]
          exact (hk x fx.blk.lt e (own_blk_ne fg.row fx.blk (by decide))).trans fx.blk
        · show w'.ownsRow 0 5 1 (upd s.raw g v x) (upd s.bytes g (s.bytes g ++ b) x).length (bytesV (upd s.bytes g (s.bytes g ++ b) x))
          rw [upd_other _ _ e, upd_other _ _ e]
          refine own_keep fx.row fun k hk' hlt => hk k hlt (fun e2 => own_blk_ne fx.row fg.blk (by decide) (by rw [← e2]; exact hk')) ?_
          rcases h.apart x g hx hg e with h1 | h1
          · rw [h1] at hk'; cases hk'
          · intro e3; exact h1 (hk'.trans e3.symm)
        · intro k hk'
          have : (upd s.raw g v x).ownBlock = some k := hk'
          rw [upd_other _ _ e] at this
          exact .inl (fx.rowF k this)
        · show s.kept x ≤ (upd s.bytes g (s.bytes g ++ b) x).length
          rw [upd_other _ _ e]; exact fx.le
        · show (upd s.bytes g (s.bytes g ++ b) x).length ≤ _
          rw [upd_other _ _ e]; exact fx.len
    apart := fun x y hx hy hne => by
      show (upd s.raw g v x).ownBlock = none ∨ (upd s.raw g v x).ownBlock ≠ (upd s.raw g v y).ownBlock
      by_cases e : x = g
      · subst e
        rw [upd_same, upd_other _ _ (Ne.symm hne)]
        rcases hvF with e1 | e1
        · rw [e1]; exact h.apart x y hx hy hne
        · cases e2 : v.ownBlock with
          | none => exact .inl rfl
          | some k =>
            refine .inr fun e3 => ?_
            have h1 := e1 k e2
            have h2 := ((h.file y hy).row.lt k e3.symm).2
            omega
      · by_cases e' : y = g
        · subst e'
          rw [upd_other _ _ e, upd_same]
          rcases hvF with e1 | e1
          · rw [e1]; exact h.apart x y hx hy hne
          · cases e2 : (s.raw x).ownBlock with
            | none => exact .inl rfl
            | some k =>
              refine .inr fun e3 => ?_
              have h1 := e1 k e3.symm
              have h2 := ((h.file x hx).row.lt k e2).2
              omega
        · rw [upd_other _ _ e, upd_other _ _ e']; exact h.apart x y hx hy hne
    nameOk := h.nameOk
    safeOk := h.safeOk
    pendOk := h.pendOk
    capB := h.capB
    rep := h.rep }
end Go.Proofs.YtfchnpdgnhoffaaGreatDoor
namespace Go.Proofs.YtfchnpdgnhoffaaGreatDoor
open Go.RowKit Go.Shelf Go.Maps

theorem Reads.take {w : World} {B size n : Nat} {A : Option Addr} {xs : List Value} (h : Reads w B size A n xs) {k : Nat} (hk : k ≤ n) : Reads w B size A k (xs.take (k * size)) := by
  refine ⟨by rw [List.length_take, h.1]; exact Nat.min_eq_left (Nat.mul_le_mul_right _ hk), fun hn => ?_⟩
  obtain ⟨ad, e, hb, hc⟩ := h.2 (by omega)
  refine ⟨ad, e, hb, fun j u hu => hc j u ?_⟩
  rw [List.getElem?_take] at hu
  split at hu
  · exact hu
  · cases hu
/-- begin, at one name that has just been laid down -/
theorem begin1_any (w : World) (F : Nat → Prop) (p : Nat) (s : DS) (nm : ByteArray) (h : DiskAt w F p s) (hnm : nm.size ≤ 9223372036854775807) (ho : s.ops ≤ 999999) (hf : s.flts.length ≤ 100000) :
    Calls Tryz.prog 71 #[.pointer (some ⟨p, 0, none⟩), .slice (some ⟨w.heap.size, 0, none⟩) 1 1] (w.alloc (.cells #[.string nm] 9)) fun e w' =>
      ∃ v, e = .returned (.tuple #[.int .i64 (beginS s [nm]).1, .int .i64 (beginS s [nm]).2]) ∧ DiskAt w' (Gr F w) p (begun s v) ∧ Chg F w w' ∧ w.heap.size < w'.heap.size := by
  have hp := h.lt
  obtain ⟨w1, hw1⟩ : ∃ w1, w.alloc (.cells #[.string nm] 9) = w1 := ⟨_, rfl⟩
  have hs1 : w1.heap.size = w.heap.size + 1 := by rw [← hw1]; simp
  have hR1 : Reads w1 w1.heap.size 1 (some ⟨w.heap.size, 0, none⟩) 1 ([nm].map Value.string) := by
    have hb := Blk.new w 9 #[.string nm]
    rw [hw1] at hb
    refine ⟨rfl, fun _ => ⟨_, rfl, hb.lt, fun j u hu => ?_⟩⟩
    have e : (⟨w.heap.size, 0, none⟩ : Addr).add j = ⟨w.heap.size, j, none⟩ := by unfold Addr.add; split <;> simp_all
    rw [e, hb.cell j]
    match j with
    | 0 => exact hu
    | j + 1 => cases hu
  have hc1 : Chg F w w1 := by rw [← hw1]; exact (Chg.refl F w).alloc _
  have hD1 : DiskAt w1 (Gr F w) p s := h.keep (fun k _ hk => by rw [← hw1]; exact Below.heap_alloc w _ k hk) (fun k hk => .inl hk)
  rw [hw1]
  refine (begin_any w1 (Gr F w) p s [nm] (some ⟨w.heap.size, 0, none⟩) 1 1 hD1 hR1 (fun x hx => by rw [List.mem_singleton.1 hx]; exact hnm) (by omega) (by omega) hf (fun ad e => by injection e with e; rw [← e]; show w.heap.size ≠ p; omega)).mono ?_
  rintro e w2 ⟨v, rfl, hD2, hc2⟩
  exact ⟨v, rfl, hD2.inF (fun k hk => Gr.mono (by omega) k hk), hc1.then hc2, by have := hc2.size; omega⟩

/-- is an append torn -/
def tornS (s : DS) (nm : ByteArray) (n : Nat) : Bool := decide ((beginS s [nm]).2 = 6) && decide ((beginS s [nm]).1 = 2) && rightB nm && decide (fitsS s nm n = 0)
/-- what Append answers -/
def appendC (s : DS) (nm : ByteArray) (n : Nat) : Int := if (beginS s [nm]).2 = 0 then fitsS s nm n else (beginS s [nm]).2
/-- how many bytes it takes -/
def takes (s : DS) (nm : ByteArray) (n : Nat) : Option Nat :=
  if tornS s nm n then some (n / 2) else if (beginS s [nm]).2 = 0 ∧ fitsS s nm n = 0 then some n else none
def AppendPost (w : World) (F : Nat → Prop) (p : Nat) (s : DS) (nm : ByteArray) (b : List UInt8) (e : Ending) (w' : World) : Prop :=
  ∃ v s', e = .returned (.int .i64 (appendC s nm b.length)) ∧ DiskAt w' (Gr F w) p s' ∧ Chg F w w' ∧
    ((takes s nm b.length = none ∧ s' = begun s v) ∨ (∃ m g v2, takes s nm b.length = some m ∧ dget s.names nm.data.toList = some g ∧ s' = appended (begun s v) g v2 (b.take m)))

theorem fitsS_begun (s : DS) (v : Value) (nm : ByteArray) (n : Nat) : fitsS (begun s v) nm n = fitsS s nm n := rfl

/-- the tail: bytes are put at a file's end -/
def TailPost (w : World) (F : Nat → Prop) (p : Nat) (s1 : DS) (g : Nat) (b : List UInt8) (w' : World) : Prop :=
  ∃ v, DiskAt w' (Gr F w) p (appended s1 g v b) ∧ Chg F w w'

theorem tail_post {w w3 w4 w5 : World} {F : Nat → Prop} {p : Nat} {s1 : DS} {nm : ByteArray} {g : Nat} {b : List UInt8} {A0 : Option Addr} {d0 : Nat} {v : Value}
    (hD : DiskAt w3 (Gr F w) p s1) (hC : Chg F w w3) (hd : dget s1.names nm.data.toList = some g) (hraw : s1.raw g = .slice A0 (s1.bytes g).length d0)
    (hown : w4.ownsRow 0 5 1 v ((s1.bytes g).length + b.length) (bytesV (s1.bytes g) ++ bytesV b)) (hgrow : w3.grownBy w4 (Value.slice A0 (s1.bytes g).length d0).ownBlock)
    (hloc : v.ownBlock = (Value.slice A0 (s1.bytes g).length d0).ownBlock ∨ v.ownBlock = some w3.heap.size) (hw5 : w5 = w4.setCell ⟨g, 0, none⟩ v) (hl : (s1.bytes g).length + b.length ≤ 100000 * s1.ops) :
    TailPost w F p s1 g b w5 := by
  have hlive : live s1 g := .inl ⟨_, dget_mem hd, rfl⟩
  have fg := hD.file g hlive
  have hgr : (s1.raw g).ownBlock ≠ some g := own_blk_ne fg.row fg.blk (by decide)
  have b4 : Blk w4 g 85 #[s1.raw g, .int .i64 (s1.kept g : Int)] := fg.blk.grown hgrow (by rw [← hraw]; exact Ne.symm hgr)
  refine ⟨v, ?_, ?_⟩
  · refine (hD.appended g v b hlive ?_ ?_ ?_ ?_ ?_).inF (fun k hk => Gr.mono hC.size k hk)
    · intro k hk h1 h2
      rw [hw5, Below.heap_setCell _ _ _ _ h1, hgrow.block k hk (by rw [← hraw]; exact Ne.symm h2)]
    · rw [hw5]; exact b4.set_ 0 v
    · rw [hw5]
      have e1 : (s1.bytes g ++ b).length = (s1.bytes g).length + b.length := by simp
      have e2 : bytesV (s1.bytes g ++ b) = bytesV (s1.bytes g) ++ bytesV b := by simp [bytesV]
      rw [e1, e2]
      exact ownsRow_setCell_other hown (own_blk_ne hown b4 (by decide)) _
    · rcases hloc with e | e
      · exact .inl (by rw [hraw]; exact e)
      · refine .inr fun k hk => ?_
        rw [e] at hk
        injection hk with hk
        omega
    · simp; omega
  · rw [hw5]
    exact (hC.grown hgrow (fun k hk => fg.rowF k (by rw [hraw]; exact hk))).setCell (p := ⟨g, 0, none⟩) fg.own _

set_option maxRecDepth 100000 in
set_option maxHeartbeats 6400000 in
theorem append_any (w : World) (F : Nat → Prop) (p : Nat) (s : DS) (nm : ByteArray) (A : Option Addr) (c : Nat) (b : List UInt8) (h : DiskAt w F p s) (hR : Reads w w.heap.size 1 A b.length (bytesV b)) (hA : 0 < b.length → ∀ ad, A = some ad → ¬ F ad.block) (hbc : b.length ≤ c)
    (hnm : nm.size ≤ 9223372036854775807) (hnm2 : nm.size ≤ maxLen) (hbl : b.length ≤ 100000) (ho : s.ops ≤ 999999) (hf : s.flts.length ≤ 100000) :
    Calls Tryz.prog 51 #[.pointer (some ⟨p, 0, none⟩), .string nm, .slice A b.length c] w (AppendPost w F p s nm b) := by
  obtain ⟨i0, hi, hz0, hz1, hz2⟩ := info_parts info5
  have HI := Lib.hid hi
  have HZ0 := Lib.hid hz0
  have HZ1 := Lib.hid hz1
  have HZ2 := Lib.hid hz2
  have hp := h.lt
  have H := Lib.hid h
  have HR := Lib.hid hR
  have HA := Lib.hid hA
  clear h hR hA hi hz0 hz1 hz2
  go_enter Tryz.func51, Tryz.ntmps51
  go_wp2_with fail
  refine (begin1_any w F p s nm H.out hnm ho hf).mono ?_
  rintro e w2 ⟨v, rfl, hD2, hc2, hs2⟩
  have HD := Lib.hid hD2
  have HC := Lib.hid hc2
  clear hD2 hc2
  obtain ⟨kd, why, hk⟩ : ∃ kd why, beginS s [nm] = (kd, why) := ⟨_, _, rfl⟩
  rw [hk]
  have HK := Lib.hid hk
  clear hk
  have hR2 : Reads w2 w.heap.size 1 A b.length (bytesV b) := ⟨HR.out.1, fun h0 => by
    obtain ⟨ad, e, hlt, hcell⟩ := HR.out.2 h0
    refine ⟨ad, e, hlt, fun j u hu => (World.cell?_of_block (a := ad.add j) ?_).trans (hcell j u hu)⟩
    rw [block_of_add]
    exact HC.out.block _ hlt (HA.out h0 ad e)⟩
  have HR2 := Lib.hid hR2
  clear hR2
  by_cases hwy : why = 0
  · subst hwy
    have q6 : ((0 : Int) == 6) = false := rfl
    go_wp2_with fail
    refine (fits_any w2 (Gr F w) p (begun s v) nm A b.length c HD.out (show s.ops + 1 ≤ 1000000 by omega) hnm2 hbl).mono ?_
    rintro e w3 ⟨rfl, hb3⟩
    rw [fitsS_begun]
    have HD3 := Lib.hid (HD.out.keep (fun k _ hk => hb3.block k hk) (fun _ h => h))
    have HC3 := Lib.hid (HC.out.below hb3 (by omega))
    have HR3 := Lib.hid (HR2.out.below (hb3.mono (by omega)))
    have hs3 := hb3.size
    clear hb3
    by_cases hft : fitsS s nm b.length = 0
    · have HFT := Lib.hid hft
      rw [hft]
      clear hft
      have hdg : ∃ g, dget s.names nm.data.toList = some g := by
        have h9 := HFT.out
        unfold fitsS at h9
        cases hd : dget s.names nm.data.toList with
        | some g => exact ⟨g, rfl⟩
        | none => rw [hd] at h9; simp at h9
      obtain ⟨g, hdg⟩ := hdg
      have hlook : (Instr.lookup 63 (.map (some s.mn)) (.string nm) false).run Tryz.prog w3 = .ok (ptrV (dget s.names nm.data.toList)) w3 := HD3.out.names.look nm hnm2
      rw [hdg] at hlook
      simp only [ptrV] at hlook
      have c2 : w3.cell? ⟨p, 2, none⟩ = some (.map (some s.mn)) := HD3.out.blk.cell 2
      have fg := HD3.out.file g (.inl ⟨_, dget_mem hdg, rfl⟩)
      obtain ⟨A0, d0, hraw⟩ := own_slice fg.row
      have hrow := fg.row
      rw [hraw] at hrow
      have q0 : w3.cell? ⟨g, 0, none⟩ = some (.slice A0 (s.bytes g).length d0) := (fg.blk.cell 0).trans (congrArg some hraw)
      have hgl : (s.bytes g).length ≤ 100000 * s.ops := (H.out.file g (.inl ⟨_, dget_mem hdg, rfl⟩)).len
      have HROW := Lib.hid (show w3.ownsRow 0 5 1 (.slice A0 (s.bytes g).length d0) (s.bytes g).length (bytesV (s.bytes g)) from hrow)
      have HBG := Lib.hid fg.blk
      have HRAW := Lib.hid (show s.raw g = .slice A0 (s.bytes g).length d0 from hraw)
      have HDG := Lib.hid hdg
      obtain ⟨L, hL⟩ : ∃ L, L = (s.bytes g).length := ⟨_, rfl⟩
      rw [← hL] at q0 hgl HROW HRAW
      have HL := Lib.hid hL
      clear hdg fg hraw hrow hL
      go_wp2_with (at_builtin; go_loud (refine wpList_append_any _ rfl (.tmp 64) (.tmp 65) 25 rfl 0 5 i0 (.int .u8 0) 1 1 Tryz.underlying25 HI.out HZ0.out HZ1.out HZ2.out rfl (by omega) (.slice A0 L d0) L (bytesV (s.bytes g)) rfl HROW.out w.heap.size A (b.length) c (bytesV (b)) rfl HR3.out (bytesV_one _) (by simp [maxLen]; omega) (by omega) (Nat.zero_le _) ?_; intro v4 w4 hown4 hgrow4 hloc4; obtain ⟨A4, d4, hv4⟩ := own_slice hown4; subst hv4; have b4 := HBG.out.grown hgrow4 (Ne.symm (own_blk_ne HROW.out HBG.out (by decide))); have y4 : w4.cell? ⟨g, 0, none⟩ = some (s.raw g) := b4.cell 0; have z4 := b4.frozen 0; have HW4 := Lib.hid hown4; have HG4 := Lib.hid hgrow4; have HL4 := Lib.hid hloc4; clear hown4 hgrow4 hloc4 b4))
      refine bodyPost_ret (results_tmp rfl _ _ _) rfl ?_
      obtain ⟨v5, hD5, hC5⟩ : TailPost w F p (begun s v) g (b) (w4.setCell ⟨g, 0, none⟩ (.slice A4 (L + (b.length)) d4)) := by
        refine tail_post (w4 := w4) HD3.out HC3.out (show dget (begun s v).names nm.data.toList = some g from HDG.out) (A0 := A0) (d0 := d0) (show s.raw g = .slice A0 (s.bytes g).length d0 by rw [HRAW.out, HL.out]) ?_ ?_ ?_ rfl ?_
        · show w4.ownsRow 0 5 1 _ ((s.bytes g).length + (b).length) _
          rw [← HL.out]; exact HW4.out
        · show w3.grownBy w4 (Value.slice A0 (s.bytes g).length d0).ownBlock
          rw [← HL.out]; exact HG4.out
        · show _ = (Value.slice A0 (s.bytes g).length d0).ownBlock ∨ _
          rw [← HL.out]; exact HL4.out
        · show (s.bytes g).length + (b).length ≤ 100000 * (s.ops + 1)
          rw [← HL.out]; omega
      refine ⟨v, _, ?_, hD5, hC5, .inr ⟨b.length, g, v5, ?_, HDG.out, by rw [List.take_length]⟩⟩
      · show Ending.returned (.int .i64 0) = _
        unfold appendC
        rw [HK.out, if_pos rfl, HFT.out]
      · unfold takes tornS
        rw [HK.out]
        simp [HFT.out]
    · have HFT := Lib.hid hft
      obtain ⟨ft, hfte⟩ : ∃ ft, ft = fitsS s nm b.length := ⟨_, rfl⟩
      rw [← hfte]
      have qf : (ft != 0) = true := by rw [hfte]; simp [hft]
      have HFE := Lib.hid hfte
      clear hft hfte
      go_wp2
      refine bodyPost_ret (results_tmp rfl _ _ _) rfl ?_
      refine ⟨v, _, ?_, HD3.out, HC3.out, .inl ⟨?_, rfl⟩⟩
      · show Ending.returned (.int .i64 ft) = _
        unfold appendC
        rw [HK.out, if_pos rfl, HFE.out]
      · unfold takes tornS
        rw [HK.out]
        simp [HFT.out]
  · by_cases h6 : why = 6 ∧ kd = 2
    · obtain ⟨rfl, rfl⟩ := h6
      clear hwy
      go_wp2_with fail
      refine (right_any nm w2 hnm).mono ?_
      rintro e w3 ⟨rfl, q3, hw3⟩
      have HD3 := Lib.hid (show DiskAt w3 (Gr F w) p (begun s v) by rw [hw3]; exact HD.out.drewN q3)
      have HC3 := Lib.hid (show Chg F w w3 by rw [hw3]; exact HC.out.drewN q3)
      have HR3 := Lib.hid (show Reads w3 w.heap.size 1 A b.length (bytesV b) by rw [hw3]; exact HR2.out.drewN q3)
      have hs3 : w3.heap.size = w2.heap.size := by rw [hw3]; rfl
      clear hw3
      cases hrt : rightB nm with
      | false =>
        have HRT := Lib.hid hrt
        clear hrt
        go_wp2
        refine bodyPost_ret (results_tmp rfl _ _ _) rfl ?_
        refine ⟨v, _, ?_, HD3.out, HC3.out, .inl ⟨?_, rfl⟩⟩
        · show Ending.returned (.int .i64 6) = _
          unfold appendC
          rw [HK.out]; rfl
        · unfold takes tornS
          rw [HK.out]
          simp [HRT.out]
      | true =>
        have HRT := Lib.hid hrt
        clear hrt
        go_wp2_with fail
        refine (fits_any w3 (Gr F w) p (begun s v) nm A b.length c HD3.out (show s.ops + 1 ≤ 1000000 by omega) hnm2 hbl).mono ?_
        rintro e wz ⟨rfl, hb4⟩
        rw [fitsS_begun]
        have HD4 := Lib.hid (HD3.out.keep (fun k _ hk => hb4.block k hk) (fun _ h => h))
        have HC4 := Lib.hid (HC3.out.below hb4 (by omega))
        have HR4 := Lib.hid (HR3.out.below (hb4.mono (by omega)))
        have hs4 := hb4.size
        clear hb4
        by_cases hft : fitsS s nm b.length = 0
        · have HFT := Lib.hid hft
          rw [hft]
          clear hft
          have hdg : ∃ g, dget s.names nm.data.toList = some g := by
            have h9 := HFT.out
            unfold fitsS at h9
            cases hd : dget s.names nm.data.toList with
            | some g => exact ⟨g, rfl⟩
            | none => rw [hd] at h9; simp at h9
          obtain ⟨g, hdg⟩ := hdg
          have hlook : (Instr.lookup 63 (.map (some s.mn)) (.string nm) false).run Tryz.prog wz = .ok (ptrV (dget s.names nm.data.toList)) wz := HD4.out.names.look nm hnm2
          rw [hdg] at hlook
          simp only [ptrV] at hlook
          have c2 : wz.cell? ⟨p, 2, none⟩ = some (.map (some s.mn)) := HD4.out.blk.cell 2
          have fg := HD4.out.file g (.inl ⟨_, dget_mem hdg, rfl⟩)
          obtain ⟨A0, d0, hraw⟩ := own_slice fg.row
          have hrow := fg.row
          rw [hraw] at hrow
          have q0 : wz.cell? ⟨g, 0, none⟩ = some (.slice A0 (s.bytes g).length d0) := (fg.blk.cell 0).trans (congrArg some hraw)
          have hgl : (s.bytes g).length ≤ 100000 * s.ops := (H.out.file g (.inl ⟨_, dget_mem hdg, rfl⟩)).len
          have HROW := Lib.hid (show wz.ownsRow 0 5 1 (.slice A0 (s.bytes g).length d0) (s.bytes g).length (bytesV (s.bytes g)) from hrow)
          have HBG := Lib.hid fg.blk
          have HRAW := Lib.hid (show s.raw g = .slice A0 (s.bytes g).length d0 from hraw)
          have HDG := Lib.hid hdg
          have HQQ := Lib.hid (show ((b.take (b.length / 2))).length = (b.length / 2) from by rw [List.length_take]; omega)
          obtain ⟨L, hL⟩ : ∃ L, L = (s.bytes g).length := ⟨_, rfl⟩
          rw [← hL] at q0 hgl HROW HRAW
          have HL := Lib.hid hL
          clear hdg fg hraw hrow hL
          go_wp2_with (at_builtin; go_loud (refine wpList_append_any _ rfl (.tmp 64) (.tmp 65) 25 rfl 0 5 i0 (.int .u8 0) 1 1 Tryz.underlying25 HI.out HZ0.out HZ1.out HZ2.out rfl (by omega) (.slice A0 L d0) L (bytesV (s.bytes g)) rfl HROW.out w.heap.size A ((b.length / 2)) c (bytesV ((b.take (b.length / 2)))) rfl (by have h9 := HR4.out.take (k := b.length / 2) (by omega); rwa [show (bytesV b).take (b.length / 2 * 1) = bytesV (b.take (b.length / 2)) by simp [bytesV, List.map_take]] at h9) (bytesV_one _) (by simp [maxLen]; omega) (by omega) (Nat.zero_le _) ?_; intro v4 w4 hown4 hgrow4 hloc4; obtain ⟨A4, d4, hv4⟩ := own_slice hown4; subst hv4; have b4 := HBG.out.grown hgrow4 (Ne.symm (own_blk_ne HROW.out HBG.out (by decide))); have y4 : w4.cell? ⟨g, 0, none⟩ = some (s.raw g) := b4.cell 0; have z4 := b4.frozen 0; have HW4 := Lib.hid hown4; have HG4 := Lib.hid hgrow4; have HL4 := Lib.hid hloc4; clear hown4 hgrow4 hloc4 b4))
          refine bodyPost_ret (results_tmp rfl _ _ _) rfl ?_
          obtain ⟨v5, hD5, hC5⟩ : TailPost w F p (begun s v) g ((b.take (b.length / 2))) (w4.setCell ⟨g, 0, none⟩ (.slice A4 (L + ((b.length / 2))) d4)) := by
            refine tail_post (w4 := w4) HD4.out HC4.out (show dget (begun s v).names nm.data.toList = some g from HDG.out) (A0 := A0) (d0 := d0) (show s.raw g = .slice A0 (s.bytes g).length d0 by rw [HRAW.out, HL.out]) ?_ ?_ ?_ rfl ?_
            · show w4.ownsRow 0 5 1 _ ((s.bytes g).length + ((b.take (b.length / 2))).length) _
              rw [← HL.out, HQQ.out]; exact HW4.out
            · show wz.grownBy w4 (Value.slice A0 (s.bytes g).length d0).ownBlock
              rw [← HL.out]; exact HG4.out
            · show _ = (Value.slice A0 (s.bytes g).length d0).ownBlock ∨ _
              rw [← HL.out]; exact HL4.out
            · show (s.bytes g).length + ((b.take (b.length / 2))).length ≤ 100000 * (s.ops + 1)
              rw [← HL.out, HQQ.out]; omega
          refine ⟨v, _, ?_, hD5, hC5, .inr ⟨b.length / 2, g, v5, ?_, HDG.out, rfl⟩⟩
          · show Ending.returned (.int .i64 6) = _
            unfold appendC
            rw [HK.out]; rfl
          · unfold takes tornS
            rw [HK.out]
            simp [HFT.out, HRT.out]
        · have HFT := Lib.hid hft
          obtain ⟨ft, hfte⟩ : ∃ ft, ft = fitsS s nm b.length := ⟨_, rfl⟩
          rw [← hfte]
          have qf : (ft == 0) = false := by rw [hfte]; simp [hft]
          clear hft hfte
          go_wp2
          refine bodyPost_ret (results_tmp rfl _ _ _) rfl ?_
          refine ⟨v, _, ?_, HD4.out, HC4.out, .inl ⟨?_, rfl⟩⟩
          · show Ending.returned (.int .i64 6) = _
            unfold appendC
            rw [HK.out]; rfl
          · unfold takes tornS
            rw [HK.out]
            simp [HFT.out]
    · have hT : tornS s nm b.length = false := by
        unfold tornS
        rw [HK.out]
        simp
        intro h1 h2
        exact absurd ⟨h1, h2⟩ h6
      have hTk : takes s nm b.length = none := by
        unfold takes
        rw [hT, HK.out]
        simp [hwy]
      have hCo : appendC s nm b.length = why := by
        unfold appendC
        rw [HK.out, if_neg hwy]
      have HT := Lib.hid hTk
      have HCo := Lib.hid hCo
      have qn : (why != 0) = true := by simp [hwy]
      clear hT hTk hCo
      by_cases h7 : why = 6
      · have qk : (kd == 2) = false := by simp; exact fun e => h6 ⟨h7, e⟩
        subst h7
        clear h6 hwy
        go_wp2
        refine bodyPost_ret (results_tmp rfl _ _ _) rfl ?_
        exact ⟨v, _, by rw [HCo.out]; rfl, HD.out, HC.out, .inl ⟨HT.out, rfl⟩⟩
      · have q6 : (why == 6) = false := by simp [h7]
        clear h6 hwy h7
        go_wp2
        refine bodyPost_ret (results_tmp rfl _ _ _) rfl ?_
        exact ⟨v, _, by rw [HCo.out]; rfl, HD.out, HC.out, .inl ⟨HT.out, rfl⟩⟩
end Go.Proofs.YtfchnpdgnhoffaaGreatDoor
