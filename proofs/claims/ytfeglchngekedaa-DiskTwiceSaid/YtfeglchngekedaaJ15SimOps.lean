/- Each operation keeps the two disks alike, and is answered alike. The document's disk: next of its cuts (function 75); what a crash leaves, plainly. -/
import Derived.Test.YtfeglchngekedaaJ14Rsorted
namespace Go.Proofs.Ytfeglchngekedaa
open Go.RowKit Go.Shelf Go.Maps

section
variable {φ : Nat → Nat} {s : DS} {x : PS}
theorem upd_live (h : Rel φ s x) (g : Nat) {f : Nat} (hf : rlive x f) : upd φ x.files.length g f = φ f := upd_other _ _ (Nat.ne_of_lt (h.flt hf))
theorem created_rel (h : Rel φ s x) (nm : Nm) (hne : nm ≠ []) (g : Nat) (v : Value) (hg : ∀ f, rlive x f → φ f ≠ g) : Rel (upd φ x.files.length g) (created s nm g v) (x.created nm) := by
  have hself : upd φ x.files.length g x.files.length = g := upd_same _ _ _
  have hlive : ∀ f, rlive (x.created nm) f → f = x.files.length ∨ rlive x f := by
    rintro f (⟨e, he, rfl⟩ | ⟨c, hc, hk, rfl⟩)
    · exact .inr (.inl ⟨e, he, rfl⟩)
    · rcases List.mem_append.1 hc with hc | hc
      · exact .inr (.inr ⟨c, hc, hk, rfl⟩)
      · rw [List.mem_singleton.1 hc]; exact .inl rfl
  exact {
    cap := h.cap
    ops := h.ops
    flts := h.flts
    stop := h.stop
    kept := fun t => by
      show dget s.safe t = (dget x.kept t).map _
      rw [h.kept t]
      cases hd : dget x.kept t with
      | none => rfl
      | some f =>
        have : rlive x f := .inl ⟨_, dget_mem hd, rfl⟩
        show some (φ f) = some (upd φ x.files.length g f)
        rw [upd_live h g this]
    rdir := h.rdir
    pend := by
      refine PendRel.snoc (PendRel.congr (fun d hd hk => (upd_live h g (.inr ⟨d, hd, hk, rfl⟩)).symm) h.pend) ?_
      have := StepRel.create (φ := upd φ x.files.length g) (m := x.pend.foldl rdo x.kept) nm x.files.length hne (fun y hy => by
        rw [← h.dir] at hy
        exact Nat.ne_of_lt (h.flt (h.liveDir hy)))
      rw [hself] at this
      exact this
    dir := by
      show ddel x.dir nm ++ [(nm, x.files.length)] = (x.pend ++ [_]).foldl rdo x.kept
      rw [List.foldl_append, ← h.dir]
      rfl
    file := fun f hf => by
      show (x.files ++ [([], 0)])[f]? = some (upd s.bytes g [] (upd φ x.files.length g f), upd s.kept g 0 (upd φ x.files.length g f))
      rcases hlive f hf with rfl | hf
      · rw [hself, upd_same, upd_same, List.getElem?_append_right (Nat.le_refl _), Nat.sub_self]; rfl
      · rw [upd_live h g hf, upd_other _ _ (hg f hf), upd_other _ _ (hg f hf), List.getElem?_append_left (h.flt hf)]
        exact h.file f hf
    inj := fun a b ha hb he => by
      rcases hlive a ha with rfl | ha <;> rcases hlive b hb with rfl | hb
      · rfl
      · rw [hself, upd_live h g hb] at he; exact absurd he.symm (hg b hb)
      · rw [hself, upd_live h g ha] at he; exact absurd he (hg a ha)
      · rw [upd_live h g ha, upd_live h g hb] at he; exact h.inj a b ha hb he
    rep := by
      show replay s.safe (s.pend ++ [⟨[], nm, some g⟩]) = dput s.names nm g
      rw [replay_snoc, h.rep]
      show (if nm = [] then _ else _) = _
      rw [if_neg hne] }
/-- a change that makes no file -/
theorem changed_rel (h : Rel φ s x) (c : Ch) (d : RC) (v : Value) (hd : d.kind ≠ 1) (hs : StepRel φ x.dir c d) : Rel φ (changed s c v) { x with dir := rdo x.dir d, pend := x.pend ++ [d] } := by
  have hlive : ∀ f, rlive { x with dir := rdo x.dir d, pend := x.pend ++ [d] } f → rlive x f := by
    rintro f (⟨e, he, rfl⟩ | ⟨c, hc, hk, rfl⟩)
    · exact .inl ⟨e, he, rfl⟩
    · rcases List.mem_append.1 hc with hc | hc
      · exact .inr ⟨c, hc, hk, rfl⟩
      · rw [List.mem_singleton.1 hc] at hk; exact absurd hk hd
  exact {
    cap := h.cap
    ops := h.ops
    flts := h.flts
    stop := h.stop
    kept := h.kept
    rdir := h.rdir
    pend := PendRel.snoc h.pend (by rw [← h.dir]; exact hs)
    dir := by
      show rdo x.dir d = (x.pend ++ [d]).foldl rdo x.kept
      rw [List.foldl_append, ← h.dir]
      rfl
    file := fun f hf => h.file f (hlive f hf)
    inj := fun a b ha hb he => h.inj a b (hlive a ha) (hlive b hb) he
    rep := by
      show replay s.safe (s.pend ++ [c]) = doL s.names c
      rw [replay_snoc, h.rep] }
theorem get_modify_same {α : Type} (l : List α) (f : Nat) (g : α → α) : (l.modify f g)[f]? = l[f]?.map g := by
  rw [List.getElem?_modify]; simp
theorem get_modify_other {α : Type} (l : List α) {f k : Nat} (g : α → α) (h : f ≠ k) : (l.modify f g)[k]? = l[k]? := by
  rw [List.getElem?_modify]; simp [h]
theorem synced_rel (h : Rel φ s x) (f : Nat) (hf : rlive x f) : Rel φ (synced s (φ f)) (x.synced f) where
  cap := h.cap
  ops := h.ops
  flts := h.flts
  stop := h.stop
  kept := h.kept
  rdir := h.rdir
  pend := h.pend
  dir := h.dir
  file := fun k hk => by
    have hk' : rlive x k := hk
    show (x.files.modify f _)[k]? = some (s.bytes (φ k), upd s.kept (φ f) (s.bytes (φ f)).length (φ k))
    by_cases e : k = f
    · subst e
      rw [get_modify_same, h.file k hf, upd_same]; rfl
    · rw [get_modify_other _ _ (Ne.symm e), h.file k hk', upd_other _ _ (fun he => e (h.inj k f hk' hf he))]
  inj := h.inj
  rep := h.rep
theorem added_rel (h : Rel φ s x) (f : Nat) (hf : rlive x f) (v : Value) (b : List UInt8) : Rel φ (appended s (φ f) v b) (x.add f b) where
  cap := h.cap
  ops := h.ops
  flts := h.flts
  stop := h.stop
  kept := h.kept
  rdir := h.rdir
  pend := h.pend
  dir := h.dir
  file := fun k hk => by
    have hk' : rlive x k := hk
    show (x.files.modify f _)[k]? = some (upd s.bytes (φ f) (s.bytes (φ f) ++ b) (φ k), s.kept (φ k))
    by_cases e : k = f
    · subst e
      rw [get_modify_same, h.file k hf, upd_same]; rfl
    · rw [get_modify_other _ _ (Ne.symm e), h.file k hk', upd_other _ _ (fun he => e (h.inj k f hk' hf he))]
  inj := h.inj
  rep := h.rep
theorem syncedDir_rel (h : Rel φ s x) (m : Nat) : Rel φ (syncedDir s m) { x with kept := x.dir, pend := [] } := by
  have hlive : ∀ f, rlive { x with kept := x.dir, pend := [] } f → rlive x f := by
    rintro f (⟨e, he, rfl⟩ | ⟨c, hc, hk, rfl⟩)
    · exact h.liveDir he
    · cases hc
  exact {
    cap := h.cap
    ops := h.ops
    flts := h.flts
    stop := h.stop
    kept := h.names
    rdir := h.rnow
    pend := trivial
    dir := rfl
    file := fun f hf => h.file f (hlive f hf)
    inj := fun a b ha hb he => h.inj a b (hlive a ha) (hlive b hb) he
    rep := rfl }
theorem faulted_rel (h : Rel φ s x) (n k : Int) (v : Value) : Rel φ (faulted s (laterZ s.ops n, k) v) (x.fault n k) where
  cap := h.cap
  ops := h.ops
  flts := by
    show s.flts ++ [(laterZ s.ops n, k)] = (x.flts ++ [(max n 0, k)]).map _
    show s.flts ++ [(laterZ s.ops n, k)] = (x.flts ++ [(max n 0, k)]).map fun f => (laterZ s.ops f.1, f.2)
    rw [List.map_append, ← h.flts]
    have : laterZ s.ops (max n 0) = laterZ s.ops n := by unfold laterZ; rw [show max (max n 0) 0 = max n 0 by omega]
    simp [this]
  stop := h.stop
  kept := h.kept
  rdir := h.rdir
  pend := h.pend
  dir := h.dir
  file := h.file
  inj := h.inj
  rep := h.rep
theorem later_max (ops : Nat) (n : Int) : laterZ ops (max n 0) = laterZ ops n := by unfold laterZ; rw [show max (max n 0) 0 = max n 0 by omega]
theorem stopped_rel (h : Rel φ s x) (ho : s.ops ≤ 1000000) (n : Int) : Rel φ { s with stopped := decide (0 ≤ laterZ s.ops n), stop := laterZ s.ops n } { x with stop := max n 0 } where
  cap := h.cap
  ops := h.ops
  flts := h.flts
  stop := by
    by_cases hn : 0 < n
    · refine .inr (.inr ⟨by show 0 < max n 0; omega, ?_, ?_⟩)
      · show decide (0 ≤ laterZ s.ops n) = decide (0 ≤ laterZ s.ops (max n 0)); rw [later_max]
      · show laterZ s.ops n = laterZ s.ops (max n 0); rw [later_max]
    · have e : laterZ s.ops n = s.ops := by rw [← later_max, show max n 0 = 0 by omega]; exact (later_zero s.ops 0 ho (Int.le_refl _)).2 rfl
      refine .inr (.inl ⟨by show max n 0 = 0; omega, ?_, ?_⟩)
      · show decide (0 ≤ laterZ s.ops n) = true; rw [e]; simp
      · show laterZ s.ops n ≤ _; rw [e]; exact Int.le_refl _
  kept := h.kept
  rdir := h.rdir
  pend := h.pend
  dir := h.dir
  file := h.file
  inj := h.inj
  rep := h.rep
theorem capped_rel (h : Rel φ s x) (c : Int) : Rel φ { s with cap := c } { x with cap := c } where
  cap := rfl
  ops := h.ops
  flts := h.flts
  stop := h.stop
  kept := h.kept
  rdir := h.rdir
  pend := h.pend
  dir := h.dir
  file := h.file
  inj := h.inj
  rep := h.rep

/-! ### how many bytes there are -/
theorem names_perm (h : DirRel φ s.names x.dir) (hr : RDir x.dir) (ht : s.names.Pairwise fun a b => a.1 ≠ b.1) : (x.dir.map fun e => (e.1, φ e.2)).Perm s.names := by
  have n1 : s.names.Nodup := ht.imp fun hne e => hne (by rw [e])
  have n2 : (x.dir.map fun e => (e.1, φ e.2)).Nodup := by
    unfold List.Nodup
    rw [List.pairwise_map]
    exact hr.names.imp fun hne e => hne (by injection e)
  refine (List.perm_ext_iff_of_nodup n2 n1).2 fun y => ?_
  obtain ⟨t, g⟩ := y
  constructor
  · intro hm
    obtain ⟨e, he, e2⟩ := List.mem_map.1 hm
    injection e2 with e3 e4
    have : dget s.names t = some g := by
      rw [h t, ← e3, dget_of_mem hr.names (show (e.1, e.2) ∈ x.dir from he), ← e4]; rfl
    exact dget_mem this
  · intro hm
    have h1 := dget_of_mem ht hm
    rw [h t] at h1
    obtain ⟨f, hf, e⟩ := Option.map_eq_some_iff.1 h1
    exact List.mem_map.2 ⟨(t, f), dget_mem hf, by rw [e]⟩
theorem used_same (h : Rel φ s x) (ht : s.names.Pairwise fun a b => a.1 ≠ b.1) : usedS s = x.used := by
  unfold usedS PS.used
  have h1 := ((names_perm h.names h.rnow ht).map fun y => (s.bytes y.2).length).sum_nat
  rw [← h1, List.map_map]
  congr 1
  apply List.map_congr_left
  intro e he
  have := h.file e.2 (h.liveDir he)
  show (s.bytes (φ e.2)).length = flen x.files e.2
  unfold flen
  rw [this]
theorem keys_perm (h : DirRel φ s.names x.dir) (hr : RDir x.dir) (ht : s.names.Pairwise fun a b => a.1 ≠ b.1) : (x.dir.map (·.1)).Perm (s.names.map (·.1)) := by
  have := (names_perm h hr ht).map (·.1)
  rwa [List.map_map] at this
end
end Go.Proofs.Ytfeglchngekedaa
namespace Go.Proofs.Ytfeglchngekedaa
open Go.RowKit Go.Shelf Go.Maps

/-- the cuts of the document's disk, in block g -/
def RCutAt (w : World) (G : Nat → Prop) (B g : Nat) (cs : List Int) : Prop :=
  ∃ A c, Blk w g 115 #[.slice A cs.length c] ∧ cs.length ≤ c ∧ Reads w B 1 A cs.length (cs.map (Value.int .i64)) ∧ B ≤ g ∧ (0 < cs.length → ∀ ad, A = some ad → ¬ G ad.block)
theorem RCutAt.grown {w w' : World} {G : Nat → Prop} {B g : Nat} {cs : List Int} (h : RCutAt w G B g cs) {row : Option Nat} (hg : w.grownBy w' row) (hr : ∀ k, row = some k → B ≤ k ∧ k ≠ g) : RCutAt w' G B g cs := by
  obtain ⟨A, c, hb, hc, hR, hB, hG⟩ := h
  refine ⟨A, c, hb.grown hg (fun e => (hr g e.symm).2 rfl), hc, ?_, hB, hG⟩
  exact hR.grown hg (Nat.le_trans hB (Nat.le_of_lt hb.lt)) (fun k hk => (hr k hk).1)
theorem RCutAt.below {w w' : World} {G : Nat → Prop} {B g : Nat} {cs : List Int} (h : RCutAt w G B g cs) (hb : Below w.heap.size w w') : RCutAt w' G B g cs := h.grown (only_of_below hb none) (fun _ e => by cases e)
theorem RCutAt.drewN {w : World} {G : Nat → Prop} {B g : Nat} {cs : List Int} (h : RCutAt w G B g cs) (n : Nat) : RCutAt (w.drewN n) G B g cs := h
theorem RCutAt.lt {w : World} {G : Nat → Prop} {B g : Nat} {cs : List Int} (h : RCutAt w G B g cs) : g < w.heap.size := by obtain ⟨_, _, hb, _⟩ := h; exact hb.lt

set_option maxRecDepth 100000 in
set_option maxHeartbeats 3200000 in
theorem rnext_any (w : World) (G : Nat → Prop) (B g : Nat) (cs : List Int) (most : Int) (h : RCutAt w G B g cs) (hm : 0 ≤ most) (hm2 : most ≤ 1000000000000) :
    Calls Try.prog 75 #[.pointer (some ⟨g, 0, none⟩), .int .i64 (most + 1)] w fun e w' => e = .returned (.int .i64 (nextK cs most)) ∧ RCutAt w' G B g cs.tail ∧ w.grownBy w' (some g) := by
  obtain ⟨A, c, hb, hc, hR, hB, hG⟩ := h
  have c0 : w.cell? ⟨g, 0, none⟩ = some (.slice A cs.length c) := hb.cell 0
  have f0 := hb.frozen 0
  have HBK := Lib.hid hb
  have HR := Lib.hid hR
  have HG := Lib.hid hG
  clear hG
  cases cs with
  | nil =>
    simp only [List.length_nil] at c0
    clear hb hR
    go_enter Try.func75, Try.ntmps75
    go_wp2
    go_ret
    exact ⟨rfl, ⟨A, c, HBK.out, hc, HR.out, hB, fun h0 => absurd h0 (Nat.lt_irrefl _)⟩, only_refl _ _⟩
  | cons x r =>
    obtain ⟨⟨ga, oa, sa⟩, rfl, hga, hcell⟩ := hR.2 (by simp)
    have d0 : w.cell? ⟨ga, oa, sa⟩ = some (.int .i64 x) := by
      have := hcell 0 (.int .i64 x) rfl
      simpa [Addr.add] using this
    have HF := Lib.hid (rem_facts x (most + 1) (by omega))
    have hne : most + 1 ≠ 0 := by omega
    obtain ⟨k, hk⟩ : ∃ k, k = nextK (x :: r) most := ⟨_, rfl⟩
    have HK := Lib.hid (show k = x % (most + 1) from hk)
    rw [← hk]
    obtain ⟨n, hn⟩ : ∃ n, n = (x :: r).length := ⟨_, rfl⟩
    have hn1 : n = r.length + 1 := by rw [hn]; simp
    rw [← hn] at c0 hc
    have HN := Lib.hid hn1
    have hn0 : 1 ≤ n := by omega
    clear hb hR hcell hk hn hn1
    by_cases hc1 : c = 1
    · subst hc1
      obtain rfl : n = 1 := by omega
      obtain rfl : r = [] := List.eq_nil_of_length_eq_zero (by have := HN.out; omega)
      go_enter Try.func75, Try.ntmps75
      go_wp2
      all_goals
        refine bodyPost_ret (results_tmp rfl _ _ _) rfl ?_
        refine ⟨?_, ?_, ?_⟩
        · have h2 := HK.out
          obtain ⟨r1, r2, r3, r4⟩ := HF.out
          refine ret_int ?_
          generalize x.tmod (most + 1) = m at *
          generalize x % (most + 1) = j at *
          try unfold wrap64
          first
            | (have r5 := r3 (by omega); omega)
            | (have r5 := r4 (by omega); omega)
        · exact ⟨_, 0, HBK.out.set_ 0 _, Nat.le_refl _, ⟨rfl, fun h => absurd h (by simp)⟩, hB, fun h0 => absurd h0 (Nat.lt_irrefl _)⟩
        · exact only_setCell (only_refl w (some g)) (.inl rfl) _
    · have hl : (x :: r).length - 1 = r.length := by simp
      have hl2 : n - 1 = r.length := by have := HN.out; omega
      have hcut := HR.out.cut (k := 1) (cap := c) (by simp) (by have := HN.out; simp; omega)
      rw [if_neg hc1, hl] at hcut
      have HCUT := Lib.hid hcut
      have HL2 := Lib.hid hl2
      clear hl hl2 hcut
      go_enter Try.func75, Try.ntmps75
      go_wp2
      all_goals
        refine bodyPost_ret (results_tmp rfl _ _ _) rfl ?_
        refine ⟨?_, ?_, ?_⟩
        · have h2 := HK.out
          obtain ⟨r1, r2, r3, r4⟩ := HF.out
          refine ret_int ?_
          generalize x.tmod (most + 1) = m at *
          generalize x % (most + 1) = j at *
          try unfold wrap64
          first
            | (have r5 := r3 (by omega); omega)
            | (have r5 := r4 (by omega); omega)
        · refine ⟨_, c - 1, by have hb := HBK.out.set_ 0 (.slice (some ⟨ga, oa + 1, none⟩) (n - 1) (c - 1)); rw [← HL2.out]; exact hb, by have := HL2.out; omega, ?_, hB, fun _ ad e => ?_⟩
          · have h3 := HCUT.out.setCell (p := ⟨g, 0, none⟩) hB (.slice (some ⟨ga, oa + 1, none⟩) (n - 1) (c - 1))
            simpa [Addr.add] using h3
          · injection e with e
            rw [← e]
            exact HG.out (by simp) ⟨ga, oa, sa⟩ rfl
        · exact only_setCell (only_refl w (some g)) (.inl rfl) _

/-! ### what a crash leaves -/
abbrev Fl := List (List UInt8 × Nat)
def cutN (files : Fl) (f : Nat) (cs : List Int) : Nat := match files[f]? with
  | some y => y.2 + (nextK cs ((y.1.length - y.2 : Nat) : Int)).toNat
  | none => 0
def cutF (files : Fl) (f : Nat) (cs : List Int) : Fl := files.modify f fun y => (y.1.take (cutN files f cs), cutN files f cs)
def cutStep (dir : Dl) (st : Fl × List Int) (nm : Nm) : Fl × List Int := (cutF st.1 ((dget dir nm).getD 0) st.2, st.2.tail)
def PS.crashDir (x : PS) (cs : List Int) : Dl := (x.pend.take (nextK cs (x.pend.length : Nat)).toNat).foldl rdo x.kept
def PS.crash (x : PS) (cs : List Int) : PS :=
  { x with files := (((x.crashDir cs).map (·.1)).mergeSort (fun a b => decide (a ≤ b)) |>.foldl (cutStep (x.crashDir cs)) (x.files, cs.tail)).1, dir := x.crashDir cs, kept := x.crashDir cs, pend := [], flts := [], stop := -1 }
theorem cutN_bd {files : Fl} {f : Nat} (cs : List Int) {y : List UInt8 × Nat} (h : files[f]? = some y) (hy : y.2 ≤ y.1.length) : y.2 ≤ cutN files f cs ∧ cutN files f cs ≤ y.1.length := by
  unfold cutN
  rw [h]
  have := nextK_bd cs ((y.1.length - y.2 : Nat) : Int) (by omega)
  show y.2 ≤ y.2 + _ ∧ y.2 + _ ≤ _
  omega
end Go.Proofs.Ytfeglchngekedaa
