/- What both disks tell is alike; an empty pair; any call of operation. Fault, Stop, SetCapacity, Crash: what each disk is left with, side by side. An argument that is a row of Ops, opened. The first theorem: the kit's extra-structs 1. does (function 27): Fault, Stop, SetCapacity and the six operations. Printed by gen_does.py. -/
import Derived.Test.YtfeglchngekedaaJ19Oper
import Derived.Test.YtfeglchngekedaaJ08Wakes
import Derived.Test.YtfeglchngekedaaJ10Rset
namespace Go.Proofs.Ytfeglchngekedaa
open Go.RowKit Go.Shelf Go.Maps

def PS.oper (x : PS) (k : Int) (nm t2 : ByteArray) (bs : List UInt8) : PS :=
  if k = 0 then (x.create nm).2 else if k = 1 then (x.append nm (bs.take 200)).2 else if k = 2 then (x.sync nm).2 else if k = 3 then (x.rename nm t2).2 else if k = 4 then (x.remove nm).2 else x.syncDir.2
theorem oper_any (w : World) (M : Nat → Prop) (pb p r n : Nat) (x : PS) (k a b : Int) (nm t2 : ByteArray) (A : Option Addr) (nb cb : Nat) (bs : List UInt8) (vc : Value) (hk : 0 ≤ k ∧ k < 6) (h : Both w M p r n x) (hpa : PairAt w M pb p r) (hn : n ≤ 10000) (hnm : nm.size ≤ maxLen) (ht2 : t2.size ≤ maxLen)
    (hR : Reads w w.heap.size 1 A nb (bytesV bs)) (hout : 0 < nb → ∀ ad, A = some ad → ¬ M ad.block) (hcb : nb ≤ cb) (hnb : nb ≤ maxLen) :
    Calls Try.prog 24 #[.pointer (some ⟨pb, 0, none⟩), .agg #[.int .i64 k, .int .i64 a, .int .i64 b, .string nm, .string t2, .slice A nb cb, vc]] w (OpPost w M p r n (x.oper k nm t2 bs)) := by
  have hcase : k = 0 ∨ k = 1 ∨ k = 2 ∨ k = 3 ∨ k = 4 ∨ k = 5 := by omega
  rcases hcase with rfl | rfl | rfl | rfl | rfl | rfl
  · exact op_create w M pb p r n x a b nm t2 _ vc h hpa hn hnm
  · exact op_append w M pb p r n x a b nm t2 A nb cb bs vc h hpa hn hnm hR hout hcb hnb
  · exact op_sync w M pb p r n x a b nm t2 _ vc h hpa hn hnm
  · exact op_rename w M pb p r n x a b nm t2 _ vc h hpa hn hnm ht2
  · exact op_remove w M pb p r n x a b nm t2 _ vc h hpa hn hnm
  · exact op_syncdir w M pb p r n x a b nm t2 _ vc h hpa hn

theorem empty_rel (cap : Int) (mn ms : Nat) : Rel (fun _ => 0) (emptyS cap mn ms) (emptyR cap).pl where
  cap := rfl
  ops := rfl
  flts := rfl
  stop := .inl ⟨rfl, rfl⟩
  kept := fun _ => rfl
  rdir := RDir.nil
  pend := trivial
  dir := rfl
  file := fun f hf => by
    rcases hf with ⟨e, he, _⟩ | ⟨c, hc, _⟩
    · cases he
    · cases hc
  inj := fun a b ha _ _ => by
    rcases ha with ⟨e, he, _⟩ | ⟨c, hc, _⟩
    · cases he
    · cases hc
  rep := rfl
theorem empty_pb (cap : Int) : PB 0 (emptyR cap).pl where
  count := Nat.le_refl _
  fltsL := Nat.le_refl _
  flts0 := fun f hf => by cases hf
  stopB := ⟨Int.le_refl _, by show (-1 : Int) ≤ 9223372036854775807; decide⟩
  filesL := Nat.le_refl _
  dirL := Nat.le_refl _
  keptL := Nat.le_refl _
  pendL := Nat.le_refl _
  dirF := fun e he => by cases he
  keptF := fun e he => by cases he
  pendF := fun c hc => by cases hc
  bytesL := fun f hf => by cases hf
  dirN := fun e he => by cases he
  keptN := fun e he => by cases he
  pendN := fun c hc => by cases hc
theorem empty_pc (cap : Int) : PC (emptyR cap).pl := ⟨Nat.le_refl _, Nat.le_refl _⟩

/-! ### what is told -/
theorem read_same {φ : Nat → Nat} {s : DS} {x : PS} (h : Rel φ s x) (nm : ByteArray) : readS s nm = x.read nm := by
  unfold readS PS.read
  rw [h.names]
  cases hr : rightB nm with
  | false => rfl
  | true =>
    cases hd : dget x.dir nm.data.toList with
    | none => rfl
    | some f =>
      have := h.file f (h.liveDir (dget_mem hd))
      simp only [Option.map_some, if_true]
      rw [this]
theorem list_same {φ : Nat → Nat} {s : DS} {x : PS} (h : Rel φ s x) (ht : s.names.Pairwise fun a b => a.1 ≠ b.1) (pre : Nm) {ss : List Nm} (hs : ss.Perm (begN pre (s.names.map (·.1)))) : ss.mergeSort (fun x y => decide (x ≤ y)) = x.list pre := by
  unfold PS.list
  exact sort_perm (hs.trans ((keys_perm h.names h.rnow ht).filter _).symm)
theorem durable_same {φ : Nat → Nat} {s : DS} {x : PS} (h : Rel φ s x) (ht : s.safe.Pairwise fun a b => a.1 ≠ b.1) {ss : List Nm} (hs : ss.Perm (s.safe.map (·.1))) : ss.mergeSort (fun x y => decide (x ≤ y)) = x.durable := by
  unfold PS.durable
  exact sort_perm (hs.trans (dir_keys h.kept h.rdir ht).symm)
section
variable (w : World) (M : Nat → Prop) (p r n : Nat) (x : PS)
theorem tell_read (nm : ByteArray) (h : Both w M p r n x) (hn : n ≤ 10000) (hnm : nm.size ≤ maxLen) : Calls Try.prog 14 #[.pointer (some ⟨p, 0, none⟩), .string nm] w (RReadPost w (x.read nm)) := by
  obtain ⟨F, G, s, t, φ, hp, hrel, hpb, hpc, rfl⟩ := h
  obtain ⟨ho, hf⟩ := hrel.opsB hpb hn
  refine (read_any w F p s nm hp.d (Nat.le_trans hnm (by simp [maxLen])) hnm (by omega)).mono ?_
  rintro e w' ⟨v, rfl, h1, h2⟩
  rw [read_same hrel nm] at h1 ⊢
  exact ⟨v, rfl, h1, h2⟩
theorem tell_rread (nm : ByteArray) (h : Both w M p r n x) (hn : n ≤ 10000) (hnm : nm.size ≤ maxLen) : Calls Try.prog 62 #[.pointer (some ⟨r, 0, none⟩), .string nm] w (RReadPost w (x.read nm)) := by
  obtain ⟨F, G, s, t, φ, hp, hrel, hpb, hpc, rfl⟩ := h
  refine rread_any w G r t nm hp.r (Nat.le_trans hpb.dirL (by omega)) (fun e he => ?_) (fun y hy => ?_) (Nat.le_trans hnm (by simp [maxLen]))
  · have := hpb.dirF e he
    simpa [RS.pl] using this
  · have h1 : y.bs.length ≤ 1000 * n := (hpb.bytesL y.pl (List.mem_map_of_mem hy)).1
    omega
theorem tell_list (pre : ByteArray) (h : Both w M p r n x) (hn : n ≤ 10000) : Calls Try.prog 25 #[.pointer (some ⟨p, 0, none⟩), .string pre] w (NamesPost w (x.list pre.data.toList)) := by
  obtain ⟨F, G, s, t, φ, hp, hrel, hpb, hpc, rfl⟩ := h
  obtain ⟨ho, hf⟩ := hrel.opsB hpb hn
  refine (list_any w F p s pre hp.d (by omega)).mono ?_
  rintro e w' ⟨v, ss, rfl, h1, h2, h3⟩
  rw [list_same hrel hp.d.names.tidy pre.data.toList h1] at h2
  refine ⟨v, rfl, ?_, h3⟩
  have e1 : ss.length = (t.pl.list pre.data.toList).length := by rw [← list_same hrel hp.d.names.tidy pre.data.toList h1, List.length_mergeSort]
  rwa [e1] at h2
theorem tell_rlist (pre : ByteArray) (h : Both w M p r n x) (hn : n ≤ 10000) (hpre : pre.size ≤ maxLen) : Calls Try.prog 63 #[.pointer (some ⟨r, 0, none⟩), .string pre] w (NamesPost w (x.list pre.data.toList)) := by
  obtain ⟨F, G, s, t, φ, hp, hrel, hpb, hpc, rfl⟩ := h
  exact rlist_any w G r t pre hp.r (Nat.le_trans hpb.dirL (by omega)) hpre (fun e he => Nat.le_trans (hpb.dirN e he) (by simp [maxLen]))
theorem tell_durable (h : Both w M p r n x) (hn : n ≤ 10000) : Calls Try.prog 31 #[.pointer (some ⟨p, 0, none⟩)] w (NamesPost w x.durable) := by
  obtain ⟨F, G, s, t, φ, hp, hrel, hpb, hpc, rfl⟩ := h
  obtain ⟨ho, hf⟩ := hrel.opsB hpb hn
  refine (durable_any w F p s hp.d (by omega)).mono ?_
  rintro e w' ⟨v, ss, rfl, h1, h2, h3⟩
  rw [durable_same hrel hp.d.safe.tidy h1] at h2
  refine ⟨v, rfl, ?_, h3⟩
  have e1 : ss.length = t.pl.durable.length := by rw [← durable_same hrel hp.d.safe.tidy h1, List.length_mergeSort]
  rwa [e1] at h2
theorem tell_rdurable (h : Both w M p r n x) (hn : n ≤ 10000) : Calls Try.prog 64 #[.pointer (some ⟨r, 0, none⟩)] w (NamesPost w x.durable) := by
  obtain ⟨F, G, s, t, φ, hp, hrel, hpb, hpc, rfl⟩ := h
  exact rdurable_any w G r t hp.r (Nat.le_trans hpb.keptL (by omega)) (fun e he => Nat.le_trans (hpb.keptN e he) (by simp [maxLen]))
theorem tell_used (h : Both w M p r n x) (hn : n ≤ 10000) : Calls Try.prog 26 #[.pointer (some ⟨p, 0, none⟩)] w fun e w' => e = .returned (.int .i64 (x.used : Int)) ∧ Below w.heap.size w w' := by
  obtain ⟨F, G, s, t, φ, hp, hrel, hpb, hpc, rfl⟩ := h
  obtain ⟨ho, hf⟩ := hrel.opsB hpb hn
  refine (used_any w F p s hp.d (by omega)).mono ?_
  rintro e w' ⟨rfl, h1⟩
  exact ⟨by rw [used_same hrel hp.d.names.tidy], h1⟩
theorem tell_rused (h : Both w M p r n x) (hn : n ≤ 10000) : Calls Try.prog 45 #[.pointer (some ⟨r, 0, none⟩)] w fun e w' => e = .returned (.int .i64 (x.used : Int)) ∧ ∃ q, w' = w.drewN q := by
  obtain ⟨F, G, s, t, φ, hp, hrel, hpb, hpc, rfl⟩ := h
  refine rused_any w G r t hp.r (Nat.le_trans hpb.dirL (by omega)) (fun e he => ?_) (fun y hy => ?_)
  · have := hpb.dirF e he
    simpa [RS.pl] using this
  · have h1 : y.bs.length ≤ 1000 * n := (hpb.bytesL y.pl (List.mem_map_of_mem hy)).1
    omega
theorem tell_ops (h : Both w M p r n x) : Calls Try.prog 28 #[.pointer (some ⟨p, 0, none⟩)] w fun e w' => e = .returned (.int .i64 (x.count : Int)) ∧ w' = w := by
  obtain ⟨F, G, s, t, φ, hp, hrel, hpb, hpc, rfl⟩ := h
  refine (ops_any w F p s hp.d).mono ?_
  rintro e w' ⟨rfl, h1⟩
  exact ⟨by rw [hrel.ops], h1⟩
end
theorem Both.below {w w' : World} {M : Nat → Prop} {p r n : Nat} {x : PS} (h : Both w M p r n x) (hb : Below w.heap.size w w') : Both w' M p r n x := by
  obtain ⟨F, G, s, t, φ, hp, h1, h2, h3, h9⟩ := h
  exact ⟨F, G, s, t, φ, (hp.below hb).1, h1, h2, h3, h9⟩
theorem Both.new {w : World} {M : Nat → Prop} {p r n : Nat} {x : PS} (h : Both w M p r n x) : ∀ k, w.heap.size ≤ k → M k := by
  obtain ⟨F, G, s, t, φ, hp, -⟩ := h
  exact hp.new

/-! ### Stop and SetCapacity of the document's disk -/
theorem rstop_ref (w : World) (F : Nat → Prop) (r : Nat) (t : RS) (k : Int) (h : RefAt w F r t) : Calls Try.prog 22 #[.pointer (some ⟨r, 0, none⟩), .int .i64 k] w (RDone w F r { t.pl with stop := max k 0 }) := by
  refine (rstop_any w r _ k t.stop h.blk rfl).mono ?_
  rintro e w' ⟨rfl, rfl⟩
  refine ⟨rfl, { t with stop := max k 0 }, h.turn { t with stop := max k 0 } false false false (by simp [World.setCell]) (fun x _ hne _ _ _ => Below.heap_setCell _ _ _ _ hne) (h.blk.set_ 6 _) (.inl ⟨rfl, rfl, rfl⟩) (.inl ⟨rfl, rfl⟩) (.inl ⟨rfl, rfl⟩) (.inl ⟨rfl, rfl, rfl⟩) (.inl ⟨rfl, rfl, rfl⟩) h.capB, rfl, ?_⟩
  exact (Chg.refl F w).setCell (p := ⟨r, 6, none⟩) (.inl h.own) _
theorem rcap_ref (w : World) (F : Nat → Prop) (r : Nat) (t : RS) (k : Int) (hk : k ≤ 9223372036854775807) (h : RefAt w F r t) : Calls Try.prog 41 #[.pointer (some ⟨r, 0, none⟩), .int .i64 k] w (RDone w F r { t.pl with cap := max k 0 }) := by
  refine (rsetcap_any w r _ k t.cap h.blk rfl).mono ?_
  rintro e w' ⟨rfl, rfl⟩
  refine ⟨rfl, { t with cap := max k 0 }, h.turn { t with cap := max k 0 } false false false (by simp [World.setCell]) (fun x _ hne _ _ _ => Below.heap_setCell _ _ _ _ hne) (h.blk.set_ 0 _) (.inl ⟨rfl, rfl, rfl⟩) (.inl ⟨rfl, rfl⟩) (.inl ⟨rfl, rfl⟩) (.inl ⟨rfl, rfl, rfl⟩) (.inl ⟨rfl, rfl, rfl⟩) (by show 0 ≤ max k 0 ∧ max k 0 < _; omega), rfl, ?_⟩
  exact (Chg.refl F w).setCell (p := ⟨r, 0, none⟩) (.inl h.own) _
end Go.Proofs.Ytfeglchngekedaa
namespace Go.Proofs.Ytfeglchngekedaa
open Go.RowKit Go.Shelf Go.Maps

def ProgDone (w : World) (M : Nat → Prop) (p r n : Nat) (x x' : PS) (e : Ending) (w' : World) : Prop := e = .returned (.tuple #[]) ∧ Half w' M p r n x 0 (fun _ => (0, x')) ∧ Chg M w w'
def RefDone (w : World) (M : Nat → Prop) (p r n : Nat) (x' : PS) (e : Ending) (w' : World) : Prop := e = .returned (.tuple #[]) ∧ Both w' M p r (n + 1) x' ∧ Chg M w w'
theorem done_end {w w' : World} {M F G : Nat → Prop} {p r n : Nat} {x' : PS} {s : DS} {t : RS} {e : Ending} (hp : Pair w M F G p r s t) (h3 : Alike s n x') (h : RDone w G r x' e w') : RefDone w M p r n x' e w' := by
  obtain ⟨rfl, t', hr, hpl, hc⟩ := h
  obtain ⟨h4, h5⟩ := hp.refd hr hc
  obtain ⟨⟨φ, h6⟩, h7, h8⟩ := h3
  exact ⟨rfl, ⟨_, _, s, t', φ, h4, h6, h7, h8, hpl⟩, h5⟩

section
variable {n : Nat} {x : PS}
theorem PB.fault (h : PB n x) (a b : Int) (ha : a ≤ 9223372036854775807) : PB (n + 1) (x.fault a b) :=
  { h.mono (Nat.le_succ n) with
    fltsL := by have := h.fltsL; show (x.flts ++ [(max a 0, b)]).length ≤ n + 1; simp; omega
    flts0 := fun f hf => by
      rcases List.mem_append.1 (show f ∈ x.flts ++ [(max a 0, b)] from hf) with hf | hf
      · exact h.flts0 f hf
      · rw [List.mem_singleton.1 hf]
        show 0 ≤ max a 0 ∧ max a 0 ≤ _
        omega }
theorem PB.stopAt (h : PB n x) (a : Int) (ha : a ≤ 9223372036854775807) : PB (n + 1) { x with stop := max a 0 } :=
  { h.mono (Nat.le_succ n) with
    stopB := by show -1 ≤ max a 0 ∧ max a 0 ≤ _; omega }
theorem PB.capAt (h : PB n x) (c : Int) : PB (n + 1) { x with cap := c } :=
  { h.mono (Nat.le_succ n) with }
end

section
variable (w : World) (M : Nat → Prop) (p r n : Nat) (x : PS)
theorem prog_fault (a b : Int) (ha : -9223372036854775808 ≤ a ∧ a ≤ 9223372036854775807) (h : Both w M p r n x) (hn : n ≤ 10000) : Calls Try.prog 57 #[.pointer (some ⟨p, 0, none⟩), .int .i64 a, .int .i64 b] w (ProgDone w M p r n x (x.fault a b)) := by
  obtain ⟨F, G, s, t, φ, hp, hrel, hpb, hpc, rfl⟩ := h
  obtain ⟨ho, hf⟩ := hrel.opsB hpb hn
  refine (fault_any w F p s a b hp.d (by omega) (by omega) ha).mono ?_
  rintro e w' ⟨rfl, v, hd, hc⟩
  obtain ⟨h4, h5⟩ := hp.prog hd hc
  exact ⟨rfl, ⟨_, _, _, t, h4, hpb, rfl, ⟨⟨φ, faulted_rel hrel a b v⟩, hpb.fault a b ha.2, ⟨hpc.kp, hpc.dc⟩⟩, rfl⟩, h5⟩
theorem ref_fault (a b : Int) (h : Half w M p r n x 0 (fun _ => (0, x.fault a b))) (hn : n ≤ 10000) : Calls Try.prog 58 #[.pointer (some ⟨r, 0, none⟩), .int .i64 a, .int .i64 b] w (RefDone w M p r n (x.fault a b)) := by
  obtain ⟨F, G, s, t, hp, h1, h2, h3, rfl⟩ := h
  exact (rfault_any w G r t a b hp.r (Nat.le_trans h1.fltsL (by omega))).mono fun e w' hr => done_end hp h3 hr
theorem prog_stop (a : Int) (ha : -9223372036854775808 ≤ a ∧ a ≤ 9223372036854775807) (h : Both w M p r n x) (hn : n ≤ 10000) : Calls Try.prog 18 #[.pointer (some ⟨p, 0, none⟩), .int .i64 a] w (ProgDone w M p r n x { x with stop := max a 0 }) := by
  obtain ⟨F, G, s, t, φ, hp, hrel, hpb, hpc, rfl⟩ := h
  obtain ⟨ho, hf⟩ := hrel.opsB hpb hn
  refine (stop_any w F p s a hp.d (by omega) ha).mono ?_
  rintro e w' ⟨rfl, hd, hc⟩
  obtain ⟨h4, h5⟩ := hp.prog (hd.inF fun k hk => .inl hk) hc
  exact ⟨rfl, ⟨_, _, _, t, h4, hpb, rfl, ⟨⟨φ, stopped_rel hrel (by omega) a⟩, hpb.stopAt a ha.2, ⟨hpc.kp, hpc.dc⟩⟩, rfl⟩, h5⟩
theorem ref_stop (a : Int) (h : Half w M p r n x 0 (fun _ => (0, { x with stop := max a 0 }))) : Calls Try.prog 22 #[.pointer (some ⟨r, 0, none⟩), .int .i64 a] w (RefDone w M p r n { x with stop := max a 0 }) := by
  obtain ⟨F, G, s, t, hp, h1, h2, h3, rfl⟩ := h
  exact (rstop_ref w G r t a hp.r).mono fun e w' hr => done_end hp h3 hr
theorem prog_cap (a : Int) (ha : -9223372036854775808 ≤ a ∧ a ≤ 9223372036854775807) (h : Both w M p r n x) : Calls Try.prog 61 #[.pointer (some ⟨p, 0, none⟩), .int .i64 a] w (ProgDone w M p r n x { x with cap := max a 0 }) := by
  obtain ⟨F, G, s, t, φ, hp, hrel, hpb, hpc, rfl⟩ := h
  refine (setcap_any w F p s a hp.d ha.2).mono ?_
  rintro e w' ⟨rfl, hd, hc⟩
  obtain ⟨h4, h5⟩ := hp.prog (hd.inF fun k hk => .inl hk) hc
  exact ⟨rfl, ⟨_, _, _, t, h4, hpb, rfl, ⟨⟨φ, capped_rel hrel (max a 0)⟩, hpb.capAt (max a 0), ⟨hpc.kp, hpc.dc⟩⟩, rfl⟩, h5⟩
theorem ref_cap (a : Int) (ha : a ≤ 9223372036854775807) (h : Half w M p r n x 0 (fun _ => (0, { x with cap := max a 0 }))) : Calls Try.prog 41 #[.pointer (some ⟨r, 0, none⟩), .int .i64 a] w (RefDone w M p r n { x with cap := max a 0 }) := by
  obtain ⟨F, G, s, t, hp, h1, h2, h3, rfl⟩ := h
  exact (rcap_ref w G r t a ha hp.r).mono fun e w' hr => done_end hp h3 hr

/-! ### Crash -/
theorem crash_ok {φ : Nat → Nat} {s : DS} {x : PS} (h : Rel φ s x) (cs : List Int) : RDir (x.crashDir cs) ∧ ∀ e ∈ x.crashDir cs, e.2 < x.files.length := by
  obtain ⟨-, hrd⟩ := h.pend.take (nextK cs (x.pend.length : Nat)).toNat h.kept h.rdir
  exact ⟨hrd, fun e he => h.flt (h.liveTake _ he)⟩
theorem safe_len {φ : Nat → Nat} {s : DS} {x : PS} (h : Rel φ s x) (hp : PC x) (ht : s.safe.Pairwise fun a b => a.1 ≠ b.1) : s.safe.length + s.pend.length ≤ s.ops := by
  have h1 := (dir_keys h.kept h.rdir ht).length_eq
  rw [List.length_map, List.length_map] at h1
  have h2 := h.pend.len
  have h3 := hp.kp
  have h4 := h.ops
  omega
def CrashDone (w : World) (M : Nat → Prop) (p r n : Nat) (x : PS) (cs : List Int) (e : Ending) (w' : World) : Prop :=
  ProgDone w M p r n x (x.crash cs) e w' ∧ RDir (x.crashDir cs) ∧ ∀ e ∈ x.crashDir cs, e.2 < x.files.length
theorem prog_crash (A : Option Addr) (m c : Nat) (cs : List Int) (hm : m = cs.length) (h : Both w M p r n x) (hn : n ≤ 10000) (hR : Reads w w.heap.size 1 A m (cs.map (Value.int .i64))) (hc : m ≤ c) :
    Calls Try.prog 13 #[.pointer (some ⟨p, 0, none⟩), .slice A m c] w (CrashDone w M p r n x cs) := by
  subst hm
  obtain ⟨F, G, s, t, φ, hp, hrel, hpb, hpc, rfl⟩ := h
  obtain ⟨ho, hf⟩ := hrel.opsB hpb hn
  refine (crash_any w F p s A c cs hp.d hR hc (by omega) (safe_len hrel hpc hp.d.safe.tidy)).mono ?_
  rintro e w' ⟨rfl, dir, ss, keys, lst, mn, ms, k1, k2, k3, k4, k5, k6, k7, k8, -, hd, hc⟩
  obtain ⟨h1, h2, h3⟩ := crash_sim hrel hpb hpc (fun g hg => (hp.d.file g hg).le) cs dir ss keys lst mn ms k1 k2 k3 k4 k5 k6 k7 k8
  obtain ⟨h4, h5⟩ := hp.prog hd hc
  exact ⟨⟨rfl, ⟨_, _, _, t, h4, hpb, rfl, h3, rfl⟩, h5⟩, h1, h2⟩
theorem ref_crash (A : Option Addr) (m c : Nat) (cs : List Int) (hm : m = cs.length) (h : Half w M p r n x 0 (fun _ => (0, x.crash cs))) (hn : n ≤ 10000) (hR : Reads w w.heap.size 1 A m (cs.map (Value.int .i64))) (hA : 0 < m → ∀ ad, A = some ad → ¬ M ad.block) (hc : m ≤ c)
    (hok : RDir (x.crashDir cs) ∧ ∀ e ∈ x.crashDir cs, e.2 < x.files.length) :
    Calls Try.prog 59 #[.pointer (some ⟨r, 0, none⟩), .slice A m c] w (RefDone w M p r n (x.crash cs)) := by
  subst hm
  obtain ⟨F, G, s, t, hp, h1, h2, h3, rfl⟩ := h
  refine (rcrash_any w G r t n A c cs hp.r h1 (by omega) hR (fun h0 ad e hF => hA h0 ad e (hp.gM _ hF).1) hc hok.1 (fun e he => ?_)).mono fun e w' hr => done_end hp h3 hr
  have := hok.2 e he
  simpa [RS.pl] using this
end
end Go.Proofs.Ytfeglchngekedaa
namespace Go.Proofs.Ytfeglchngekedaa
open Go.ChangeShapes Go.WideShapes Go.ChangeAt Go.RowKit Go.Deep

section
variable {H : Type} {enc : TypeId × Value → H} {P : Program} {w : World} {base : Nat} {spare : Nat → Bool} {held : Bool}
theorem open_slice_fields {t e : TypeId} {fs : Array Field} {fuel : Nat} {cs : List Value} {x : DataW H × List MemPlace} (ht : P.underlying t = some (.slice e)) (he : P.underlying e = some (.struct fs))
    (hone : oneCellFields P fs = true) (hC : P.cellsOf e = fs.size) (h : DataW.trod enc P w base spare held fuel t cs = some x) :
    (cs = [.slice none 0 0] ∧ x = (.nil, [])) ∨
    ∃ (a : Addr) (len cap m : Nat) (D : Nat → DataW H) (Pl : Nat → List MemPlace), cs = [.slice (some a) len cap] ∧ base ≤ a.block ∧ len ≤ cap ∧ cap ≤ maxLen ∧ m = (if spare a.block then cap else len) ∧
      x = (.slice ((List.range len).map D) ((List.range (m - len)).map fun j => D (len + j)), MemPlace.row a (m * fs.size) ++ (List.range m).flatMap Pl) ∧
      ∀ i, i < m → ∃ (ys : List (DataW H × List MemPlace)) (n : Nat), D i = .agg (ys.map (·.1)) ∧ Pl i = ys.flatMap (·.2) ∧ ys.length = fs.size ∧
        ∀ (j : Nat) (f : Field), fs[j]? = some f → ∃ (v : Value) (y : DataW H × List MemPlace), w.cell? (a.add (i * fs.size + j)) = some v ∧ ys[j]? = some y ∧ DataW.trod enc P w base spare held n f.type [v] = some y := by
  rcases open_slice ht h with h0 | ⟨a, len, cap, m, n, D, Pl, hcs, hb, hl, hm, hmm, hx, hi⟩
  · exact .inl h0
  · refine .inr ⟨a, len, cap, m, D, Pl, hcs, hb, hl, hm, hmm, by rw [hC] at hx; exact hx, fun i him => ?_⟩
    obtain ⟨cs', hc, ht'⟩ := hi i him
    rw [hC] at hc
    obtain ⟨ys, n', hn', hy, hlen, hyl, hf⟩ := DataW.trod_struct he ht'
    obtain ⟨_, hcl, hat⟩ := World.cells?_some hc
    simp only [Prod.mk.injEq] at hy
    refine ⟨ys, n', hy.1, hy.2, hyl, fun j f hj => ?_⟩
    obtain ⟨ho, hk⟩ := hone_of hone j f hj
    have hjl : j < fs.size := (Array.getElem?_eq_some_iff.1 hj).1
    have hcell := hat j hjl
    have hv : cs'[j]? = some (cs'[j]'(by omega)) := List.getElem?_eq_getElem (by omega)
    have h1 := hf j f hj
    rw [ho, hk] at h1
    have hone' : (cs'.drop j).take 1 = [cs'[j]'(by omega)] := by
      rw [List.drop_eq_getElem_cons (by omega)]
      rfl
    rw [hone'] at h1
    have hys : ys[j]? = some (ys[j]'(by omega)) := List.getElem?_eq_getElem (by omega)
    refine ⟨_, _, ?_, hys, h1.trans hys⟩
    rw [← Go.Deep.add_add, hcell, hv]
theorem one_int {t : TypeId} {k : IntKind} {fuel : Nat} {v : Value} {x : DataW H × List MemPlace} (ht : P.underlying t = some (.int k)) (h : DataW.trod enc P w base spare held fuel t [v] = some x) : ∃ n, v = .int k n ∧ (Lit.int k n).wf = true := by
  obtain ⟨n, hn, -, hw⟩ := DataW.trod_int ht h
  exact ⟨n, by injection hn, hw⟩
theorem one_string {t : TypeId} {fuel : Nat} {v : Value} {x : DataW H × List MemPlace} (ht : P.underlying t = some .string) (h : DataW.trod enc P w base spare held fuel t [v] = some x) : ∃ s : ByteArray, v = .string s ∧ s.size ≤ maxLen := by
  obtain ⟨n, hn, -, hw⟩ := DataW.trod_string ht h
  exact ⟨n, by injection hn, hw⟩
theorem one_ints {t e : TypeId} {k : IntKind} {fuel : Nat} {v : Value} {x : DataW H × List MemPlace} (ht : P.underlying t = some (.slice e)) (he : P.underlying e = some (.int k)) (hc1 : P.cellsOf e = 1) (h : DataW.trod enc P w base spare held fuel t [v] = some x) :
    ∃ (A : Option Addr) (n cap : Nat) (l : List Int), v = .slice A n cap ∧ n ≤ cap ∧ n ≤ maxLen ∧ Reads w w.heap.size 1 A n (l.map (Value.int k)) ∧ ∀ x ∈ l, (Lit.int k x).wf = true := by
  rcases open_ints ht he hc1 h with ⟨hcs, _⟩ | ⟨a', len', cap', zs, hcs, _, hl, hm, hz, _, hc, hwf⟩
  · injection hcs with hcs
    exact ⟨none, 0, 0, [], hcs, Nat.le_refl _, Nat.zero_le _, Reads.none_, (fun x hx => by cases hx)⟩
  · injection hcs with hcs
    have hlz : len' ≤ zs.length := by rw [hz]; split <;> omega
    refine ⟨some a', len', cap', zs.take len', hcs, hl, Nat.le_trans hl hm, ⟨by simp; omega, fun h0 => ⟨a', rfl, ?_, fun j u hu => ?_⟩⟩, fun x hx => hwf x (List.mem_of_mem_take hx)⟩
    · have := World.block_lt_of_cell? w _ (hc 0 (by omega))
      rwa [block_of_add] at this
    · rw [List.getElem?_map] at hu
      obtain ⟨x, hx, rfl⟩ := Option.map_eq_some_iff.1 hu
      have hj : j < len' := by have := (List.getElem?_eq_some_iff.1 hx).1; simp at this; omega
      rw [hc j (by omega), List.getD]
      rw [List.getElem?_take_of_lt hj] at hx
      rw [hx]
      rfl
end

/-- an Op, as it reads -/
structure OpD where
  k : Int
  a : Int
  b : Int
  nm : ByteArray
  t2 : ByteArray
  A : Option Addr
  nb : Nat
  cb : Nat
  bs : List UInt8
  A2 : Option Addr
  nc : Nat
  cc : Nat
  cs : List Int
structure OpAt (W : World) (d : Addr) (i : Nat) (o : OpD) : Prop where
  c0 : W.cell? (d.add (i * 7)) = some (.int .i64 o.k)
  c1 : W.cell? (d.add (i * 7 + 1)) = some (.int .i64 o.a)
  c2 : W.cell? (d.add (i * 7 + 2)) = some (.int .i64 o.b)
  c3 : W.cell? (d.add (i * 7 + 3)) = some (.string o.nm)
  c4 : W.cell? (d.add (i * 7 + 4)) = some (.string o.t2)
  c5 : W.cell? (d.add (i * 7 + 5)) = some (.slice o.A o.nb o.cb)
  c6 : W.cell? (d.add (i * 7 + 6)) = some (.slice o.A2 o.nc o.cc)
  k63 : -9223372036854775808 ≤ o.k ∧ o.k ≤ 9223372036854775807
  a63 : -9223372036854775808 ≤ o.a ∧ o.a ≤ 9223372036854775807
  b63 : -9223372036854775808 ≤ o.b ∧ o.b ≤ 9223372036854775807
  nmL : o.nm.size ≤ maxLen
  t2L : o.t2.size ≤ maxLen
  bR : Reads W W.heap.size 1 o.A o.nb (bytesV o.bs)
  bC : o.nb ≤ o.cb
  bL : o.nb ≤ maxLen
  cR : Reads W W.heap.size 1 o.A2 o.nc (o.cs.map (Value.int .i64))
  cC : o.nc ≤ o.cc
  cL : o.nc ≤ maxLen
def OpsAt (W : World) (A : Option Addr) (n : Nat) : Prop := ∀ i, i < n → ∃ d, A = some d ∧ d.block < W.heap.size ∧ ∃ o, OpAt W d i o
theorem wf63 {n : Int} (h : (Lit.int .i64 n).wf = true) : -9223372036854775808 ≤ n ∧ n ≤ 9223372036854775807 := by
  simp [Lit.wf] at h
  have h2 : IntKind.i64.min = -9223372036854775808 := rfl
  rw [h2] at h
  exact h
set_option maxRecDepth 100000 in
theorem open_ops {H : Type} {enc : TypeId × Value → H} {W : World} {base b0 : Nat} {sp : Nat → Bool} {held : Bool} {r : Reach} {v : Value} {d : DataW H} {ps : List MemPlace}
    (hv : Value.okWide Try.prog W r b0 39 v) (h : DataW.Trod enc Try.prog W base sp held 39 v d ps) : ∃ (A : Option Addr) (n cap : Nat), v = .slice A n cap ∧ n ≤ cap ∧ n ≤ maxLen ∧ OpsAt W A n := by
  obtain ⟨a, len, cap, rfl⟩ := okWide_slice Try.underlying39 hv
  obtain ⟨fuel, hf⟩ := h
  rcases open_slice_fields Try.underlying39 Try.underlying47 (by kernel_rfl) (by kernel_rfl) hf with ⟨hcs, -⟩ | ⟨a', len', cap', m, D, Pl, hcs, -, hl, hm, hmm, -, hi⟩
  · simp only [Value.cells, List.cons.injEq, and_true] at hcs
    cases hcs
    exact ⟨none, 0, 0, rfl, Nat.le_refl _, Nat.zero_le _, fun i hi => absurd hi (Nat.not_lt_zero _)⟩
  · simp only [Value.cells, List.cons.injEq, and_true] at hcs
    cases hcs
    have hml : len ≤ m := by rw [hmm]; split <;> omega
    refine ⟨some a', len, cap, rfl, hl, Nat.le_trans hl hm, fun i hil => ?_⟩
    obtain ⟨ys, n, -, -, -, hfld⟩ := hi i (by omega)
    obtain ⟨v0, y0, q0, -, t0⟩ := hfld 0 _ rfl
    obtain ⟨v1, y1, q1, -, t1⟩ := hfld 1 _ rfl
    obtain ⟨v2, y2, q2, -, t2⟩ := hfld 2 _ rfl
    obtain ⟨v3, y3, q3, -, t3⟩ := hfld 3 _ rfl
    obtain ⟨v4, y4, q4, -, t4⟩ := hfld 4 _ rfl
    obtain ⟨v5, y5, q5, -, t5⟩ := hfld 5 _ rfl
    obtain ⟨v6, y6, q6, -, t6⟩ := hfld 6 _ rfl
    obtain ⟨n0, rfl, w0⟩ := one_int Try.underlying3 t0
    obtain ⟨n1, rfl, w1⟩ := one_int Try.underlying3 t1
    obtain ⟨n2, rfl, w2⟩ := one_int Try.underlying3 t2
    obtain ⟨s3, rfl, l3⟩ := one_string Try.underlying9 t3
    obtain ⟨s4, rfl, l4⟩ := one_string Try.underlying9 t4
    obtain ⟨A5, n5, c5, x5, rfl, hc5, hm5, hR5, hw5⟩ := one_ints Try.underlying22 Try.underlying5 cells5 t5
    obtain ⟨A6, n6, c6, x6, rfl, hc6, hm6, hR6, hw6⟩ := one_ints Try.underlying23 Try.underlying3 cells3 t6
    obtain ⟨b5, e5, -⟩ := u8_list x5 hw5
    rw [e5] at hR5
    refine ⟨a', rfl, ?_, ⟨n0, n1, n2, s3, s4, A5, n5, c5, b5, A6, n6, c6, x6⟩, ⟨q0, q1, q2, q3, q4, q5, q6, wf63 w0, wf63 w1, wf63 w2, l3, l4, hR5, hc5, hm5, hR6, hc6, hm6⟩⟩
    have := World.block_lt_of_cell? W _ q0
    rwa [block_of_add] at this
end Go.Proofs.Ytfeglchngekedaa
namespace Go.Proofs.Ytfeglchngekedaa
open Go.RowKit Go.Shelf Go.Maps

/-- an Op whose rows lie outside of M -/
structure OpOk (w : World) (M : Nat → Prop) (o : OpD) : Prop where
  k63 : -9223372036854775808 ≤ o.k ∧ o.k ≤ 9223372036854775807
  a63 : -9223372036854775808 ≤ o.a ∧ o.a ≤ 9223372036854775807
  b63 : -9223372036854775808 ≤ o.b ∧ o.b ≤ 9223372036854775807
  nmL : o.nm.size ≤ maxLen
  t2L : o.t2.size ≤ maxLen
  bR : Reads w w.heap.size 1 o.A o.nb (bytesV o.bs)
  bA : 0 < o.nb → ∀ ad, o.A = some ad → ¬ M ad.block
  bC : o.nb ≤ o.cb
  bL : o.nb ≤ maxLen
  cR : Reads w w.heap.size 1 o.A2 o.nc (o.cs.map (Value.int .i64))
  cA : 0 < o.nc → ∀ ad, o.A2 = some ad → ¬ M ad.block
  cC : o.nc ≤ o.cc
  cL : o.nc ≤ maxLen
  c47 : o.nc * 8 ≤ 140737488355328
theorem OpOk.chg {w w' : World} {M : Nat → Prop} {o : OpD} (h : OpOk w M o) (hc : Chg M w w') : OpOk w' M o :=
  { h with bR := h.bR.chg hc h.bA, cR := h.cR.chg hc h.cA }

set_option maxRecDepth 100000 in
set_option maxHeartbeats 12800000 in
theorem does_fault (w : World) (M : Nat → Prop) (pb p r n : Nat) (x : PS) (o : OpD) (hk : o.k % 11 = 6) (h : Both w M p r n x) (hpa : PairAt w M pb p r) (hn : n ≤ 10000) (ho : OpOk w M o) :
    Calls Try.prog 27 #[.pointer (some ⟨pb, 0, none⟩), .agg #[.int .i64 o.k, .int .i64 o.a, .int .i64 o.b, .string o.nm, .string o.t2, .slice o.A o.nb o.cb, .slice o.A2 o.nc o.cc]] w (OpPost w M p r n (x.fault o.a o.b)) := by
  have hka := ho.k63
  have haa := ho.a63
  have hbb := ho.b63
  clear ho
  obtain ⟨k, a, b, nm, t2, A, nb, cb, bs, A2, nc, cc, cs⟩ := o
  dsimp only at *
  obtain ⟨w1, hw1⟩ : ∃ w1, w.alloc (.cells #[.int .i64 6, .int .i64 a, .int .i64 b, .string nm, .string t2, .slice A nb cb, .slice A2 nc cc] 47) = w1 := ⟨_, rfl⟩
  have hob : Blk w1 w.heap.size 47 #[.int .i64 6, .int .i64 a, .int .i64 b, .string nm, .string t2, .slice A nb cb, .slice A2 nc cc] := by rw [← hw1]; exact Blk.new w 47 _
  have hc1 : Chg M w w1 := by rw [← hw1]; exact (Chg.refl M w).alloc _
  have hb1 : Both w1 (fun k => M k ∧ k ≠ w.heap.size) p r n x := by rw [← hw1]; exact h.box _
  have hp1 := hpa.chg hc1
  have hpl := hp1.blk.lt
  have hpw := hpa.blk.lt
  have hs1 : w.heap.size < w1.heap.size := hob.lt
  have a0 : w1.cell? ⟨pb, 0, none⟩ = some (.pointer (some ⟨p, 0, none⟩)) := hp1.blk.cell 0
  have ad : w1.cell? ⟨w.heap.size, 0, none⟩ = some (.int .i64 6) := hob.cell 0
  have a3 : w1.cell? ⟨w.heap.size, 1, none⟩ = some (.int .i64 a) := hob.cell 1
  have a4 : w1.cell? ⟨w.heap.size, 2, none⟩ = some (.int .i64 b) := hob.cell 2
  have HB := Lib.hid hb1
  have HC1 := Lib.hid hc1
  have HOB := Lib.hid hob
  have HP1 := Lib.hid hp1
  have HPO := Lib.hid hpa.out
  have HV := Lib.hid hk
  clear h hpa hob hc1 hb1 hp1 hk
  go_enter Try.func27, Try.ntmps27
  go_wp2_with fail
  refine (keepwithin_any k 11 _ (by omega) (by omega)).mono ?_
  rintro e wz ⟨rfl, rfl⟩
  rw [HV.out]
  go_upto_region 5 with fail
  clear hw1 ad
  go_region_held3 (fun w' => w'.cell? ⟨pb, 0, none⟩ = some (.pointer (some ⟨p, 0, none⟩)) ∧ w'.cell? ⟨w.heap.size, 1, none⟩ = some (.int .i64 a) ∧ w'.cell? ⟨w.heap.size, 2, none⟩ = some (.int .i64 b))
    (first | exact ⟨a0, a3, a4⟩ | exact ⟨b0, b3, b4⟩)
    ((go_at_call 57; refine (prog_fault w1.drew _ p r n x a b haa (HB.out.drewN 1) hn).mono ?_; rintro e w2 ⟨rfl, hH, hC2⟩; have hC2 := Chg.of_drew hC2; have hob2 : Blk w2 w.heap.size 47 _ := (hC2.block _ hs1 (fun hm => hm.2 rfl)).trans HOB.out; have hpb2 : Blk w2 pb 45 _ := (hC2.block _ hpl (fun hm => HPO.out hm.1)).trans HP1.out.blk; have b0 : w2.cell? ⟨pb, 0, none⟩ = some (.pointer (some ⟨p, 0, none⟩)) := hpb2.cell 0; have b1 : w2.cell? ⟨pb, 1, none⟩ = some (.pointer (some ⟨r, 0, none⟩)) := hpb2.cell 1; have b3 : w2.cell? ⟨w.heap.size, 1, none⟩ = some (.int .i64 a) := hob2.cell 1; have b4 : w2.cell? ⟨w.heap.size, 2, none⟩ = some (.int .i64 b) := hob2.cell 2; have HOB2 := Lib.hid hob2; have HPB2 := Lib.hid hpb2; have HH := Lib.hid hH; have HC2 := Lib.hid hC2; clear hH hC2 hob2 hpb2))
  all_goals
    clear a0 a3 a4
    go_upto_region 6 with fail
    go_region_held3 (fun w' => w'.cell? ⟨pb, 1, none⟩ = some (.pointer (some ⟨r, 0, none⟩)) ∧ w'.cell? ⟨w.heap.size, 1, none⟩ = some (.int .i64 a) ∧ w'.cell? ⟨w.heap.size, 2, none⟩ = some (.int .i64 b))
      (first | exact ⟨b1, b3, b4⟩ | exact ⟨d1, d3, d4⟩)
      ((go_at_call 58; refine (ref_fault w2.drew _ p r n x a b (HH.out.drewN 1) hn).mono ?_; rintro e w3 ⟨rfl, hB3, hC3⟩; have hC3 := Chg.of_drew hC3; have hob3 : Blk w3 w.heap.size 47 _ := (hC3.block _ HOB2.out.lt (fun hm => hm.2 rfl)).trans HOB2.out; have hpb3 : Blk w3 pb 45 _ := (hC3.block _ HPB2.out.lt (fun hm => HPO.out hm.1)).trans HPB2.out; have d1 : w3.cell? ⟨pb, 1, none⟩ = some (.pointer (some ⟨r, 0, none⟩)) := hpb3.cell 1; have d3 : w3.cell? ⟨w.heap.size, 1, none⟩ = some (.int .i64 a) := hob3.cell 1; have d4 : w3.cell? ⟨w.heap.size, 2, none⟩ = some (.int .i64 b) := hob3.cell 2; have HB3 := Lib.hid hB3; have HC3 := Lib.hid hC3; clear hB3 hC3 hob3 hpb3))
    all_goals
      clear b0 b1 b3 b4 d1 d3 d4
      go_wp2
      first | go_ret | refine bodyPost_ret (results_tmp rfl _ _ _) rfl ?_
      exact ⟨rfl, HB3.out.more (fun k hk => hk.1), (HC1.out.trans (HC2.out.more (fun k hk => hk.1)) (fun x hx => .inl hx)).trans (HC3.out.more (fun k hk => hk.1)) (fun x hx => .inl hx)⟩

set_option maxRecDepth 100000 in
set_option maxHeartbeats 12800000 in
theorem does_stop (w : World) (M : Nat → Prop) (pb p r n : Nat) (x : PS) (o : OpD) (hk : o.k % 11 = 7) (h : Both w M p r n x) (hpa : PairAt w M pb p r) (hn : n ≤ 10000) (ho : OpOk w M o) :
    Calls Try.prog 27 #[.pointer (some ⟨pb, 0, none⟩), .agg #[.int .i64 o.k, .int .i64 o.a, .int .i64 o.b, .string o.nm, .string o.t2, .slice o.A o.nb o.cb, .slice o.A2 o.nc o.cc]] w (OpPost w M p r n { x with stop := max o.a 0 }) := by
  have hka := ho.k63
  have haa := ho.a63
  have hbb := ho.b63
  clear ho
  obtain ⟨k, a, b, nm, t2, A, nb, cb, bs, A2, nc, cc, cs⟩ := o
  dsimp only at *
  obtain ⟨w1, hw1⟩ : ∃ w1, w.alloc (.cells #[.int .i64 7, .int .i64 a, .int .i64 b, .string nm, .string t2, .slice A nb cb, .slice A2 nc cc] 47) = w1 := ⟨_, rfl⟩
  have hob : Blk w1 w.heap.size 47 #[.int .i64 7, .int .i64 a, .int .i64 b, .string nm, .string t2, .slice A nb cb, .slice A2 nc cc] := by rw [← hw1]; exact Blk.new w 47 _
  have hc1 : Chg M w w1 := by rw [← hw1]; exact (Chg.refl M w).alloc _
  have hb1 : Both w1 (fun k => M k ∧ k ≠ w.heap.size) p r n x := by rw [← hw1]; exact h.box _
  have hp1 := hpa.chg hc1
  have hpl := hp1.blk.lt
  have hpw := hpa.blk.lt
  have hs1 : w.heap.size < w1.heap.size := hob.lt
  have a0 : w1.cell? ⟨pb, 0, none⟩ = some (.pointer (some ⟨p, 0, none⟩)) := hp1.blk.cell 0
  have ad : w1.cell? ⟨w.heap.size, 0, none⟩ = some (.int .i64 7) := hob.cell 0
  have a3 : w1.cell? ⟨w.heap.size, 1, none⟩ = some (.int .i64 a) := hob.cell 1
  have a4 : w1.cell? ⟨w.heap.size, 2, none⟩ = some (.int .i64 b) := hob.cell 2
  have HB := Lib.hid hb1
  have HC1 := Lib.hid hc1
  have HOB := Lib.hid hob
  have HP1 := Lib.hid hp1
  have HPO := Lib.hid hpa.out
  have HV := Lib.hid hk
  clear h hpa hob hc1 hb1 hp1 hk
  go_enter Try.func27, Try.ntmps27
  go_wp2_with fail
  refine (keepwithin_any k 11 _ (by omega) (by omega)).mono ?_
  rintro e wz ⟨rfl, rfl⟩
  rw [HV.out]
  go_upto_region 8 with fail
  clear hw1 ad
  go_region_held3 (fun w' => w'.cell? ⟨pb, 0, none⟩ = some (.pointer (some ⟨p, 0, none⟩)) ∧ w'.cell? ⟨w.heap.size, 1, none⟩ = some (.int .i64 a) ∧ w'.cell? ⟨w.heap.size, 2, none⟩ = some (.int .i64 b))
    (first | exact ⟨a0, a3, a4⟩ | exact ⟨b0, b3, b4⟩)
    ((go_at_call 18; refine (prog_stop w1.drew _ p r n x a haa (HB.out.drewN 1) hn).mono ?_; rintro e w2 ⟨rfl, hH, hC2⟩; have hC2 := Chg.of_drew hC2; have hob2 : Blk w2 w.heap.size 47 _ := (hC2.block _ hs1 (fun hm => hm.2 rfl)).trans HOB.out; have hpb2 : Blk w2 pb 45 _ := (hC2.block _ hpl (fun hm => HPO.out hm.1)).trans HP1.out.blk; have b0 : w2.cell? ⟨pb, 0, none⟩ = some (.pointer (some ⟨p, 0, none⟩)) := hpb2.cell 0; have b1 : w2.cell? ⟨pb, 1, none⟩ = some (.pointer (some ⟨r, 0, none⟩)) := hpb2.cell 1; have b3 : w2.cell? ⟨w.heap.size, 1, none⟩ = some (.int .i64 a) := hob2.cell 1; have b4 : w2.cell? ⟨w.heap.size, 2, none⟩ = some (.int .i64 b) := hob2.cell 2; have HOB2 := Lib.hid hob2; have HPB2 := Lib.hid hpb2; have HH := Lib.hid hH; have HC2 := Lib.hid hC2; clear hH hC2 hob2 hpb2))
  all_goals
    clear a0 a3 a4
    go_upto_region 9 with fail
    go_region_held3 (fun w' => w'.cell? ⟨pb, 1, none⟩ = some (.pointer (some ⟨r, 0, none⟩)) ∧ w'.cell? ⟨w.heap.size, 1, none⟩ = some (.int .i64 a) ∧ w'.cell? ⟨w.heap.size, 2, none⟩ = some (.int .i64 b))
      (first | exact ⟨b1, b3, b4⟩ | exact ⟨d1, d3, d4⟩)
      ((go_at_call 22; refine (ref_stop w2.drew _ p r n x a (HH.out.drewN 1)).mono ?_; rintro e w3 ⟨rfl, hB3, hC3⟩; have hC3 := Chg.of_drew hC3; have hob3 : Blk w3 w.heap.size 47 _ := (hC3.block _ HOB2.out.lt (fun hm => hm.2 rfl)).trans HOB2.out; have hpb3 : Blk w3 pb 45 _ := (hC3.block _ HPB2.out.lt (fun hm => HPO.out hm.1)).trans HPB2.out; have d1 : w3.cell? ⟨pb, 1, none⟩ = some (.pointer (some ⟨r, 0, none⟩)) := hpb3.cell 1; have d3 : w3.cell? ⟨w.heap.size, 1, none⟩ = some (.int .i64 a) := hob3.cell 1; have d4 : w3.cell? ⟨w.heap.size, 2, none⟩ = some (.int .i64 b) := hob3.cell 2; have HB3 := Lib.hid hB3; have HC3 := Lib.hid hC3; clear hB3 hC3 hob3 hpb3))
    all_goals
      clear b0 b1 b3 b4 d1 d3 d4
      go_wp2
      first | go_ret | refine bodyPost_ret (results_tmp rfl _ _ _) rfl ?_
      exact ⟨rfl, HB3.out.more (fun k hk => hk.1), (HC1.out.trans (HC2.out.more (fun k hk => hk.1)) (fun x hx => .inl hx)).trans (HC3.out.more (fun k hk => hk.1)) (fun x hx => .inl hx)⟩

set_option maxRecDepth 100000 in
set_option maxHeartbeats 12800000 in
theorem does_cap (w : World) (M : Nat → Prop) (pb p r n : Nat) (x : PS) (o : OpD) (hk : o.k % 11 = 9) (h : Both w M p r n x) (hpa : PairAt w M pb p r) (_ : n ≤ 10000) (ho : OpOk w M o) :
    Calls Try.prog 27 #[.pointer (some ⟨pb, 0, none⟩), .agg #[.int .i64 o.k, .int .i64 o.a, .int .i64 o.b, .string o.nm, .string o.t2, .slice o.A o.nb o.cb, .slice o.A2 o.nc o.cc]] w (OpPost w M p r n { x with cap := max o.a 0 }) := by
  have hka := ho.k63
  have haa := ho.a63
  have hbb := ho.b63
  clear ho
  obtain ⟨k, a, b, nm, t2, A, nb, cb, bs, A2, nc, cc, cs⟩ := o
  dsimp only at *
  obtain ⟨w1, hw1⟩ : ∃ w1, w.alloc (.cells #[.int .i64 9, .int .i64 a, .int .i64 b, .string nm, .string t2, .slice A nb cb, .slice A2 nc cc] 47) = w1 := ⟨_, rfl⟩
  have hob : Blk w1 w.heap.size 47 #[.int .i64 9, .int .i64 a, .int .i64 b, .string nm, .string t2, .slice A nb cb, .slice A2 nc cc] := by rw [← hw1]; exact Blk.new w 47 _
  have hc1 : Chg M w w1 := by rw [← hw1]; exact (Chg.refl M w).alloc _
  have hb1 : Both w1 (fun k => M k ∧ k ≠ w.heap.size) p r n x := by rw [← hw1]; exact h.box _
  have hp1 := hpa.chg hc1
  have hpl := hp1.blk.lt
  have hpw := hpa.blk.lt
  have hs1 : w.heap.size < w1.heap.size := hob.lt
  have a0 : w1.cell? ⟨pb, 0, none⟩ = some (.pointer (some ⟨p, 0, none⟩)) := hp1.blk.cell 0
  have ad : w1.cell? ⟨w.heap.size, 0, none⟩ = some (.int .i64 9) := hob.cell 0
  have a3 : w1.cell? ⟨w.heap.size, 1, none⟩ = some (.int .i64 a) := hob.cell 1
  have a4 : w1.cell? ⟨w.heap.size, 2, none⟩ = some (.int .i64 b) := hob.cell 2
  have HB := Lib.hid hb1
  have HC1 := Lib.hid hc1
  have HOB := Lib.hid hob
  have HP1 := Lib.hid hp1
  have HPO := Lib.hid hpa.out
  have HV := Lib.hid hk
  clear h hpa hob hc1 hb1 hp1 hk
  go_enter Try.func27, Try.ntmps27
  go_wp2_with fail
  refine (keepwithin_any k 11 _ (by omega) (by omega)).mono ?_
  rintro e wz ⟨rfl, rfl⟩
  rw [HV.out]
  go_upto_region 16 with fail
  clear hw1 ad
  go_region_held3 (fun w' => w'.cell? ⟨pb, 0, none⟩ = some (.pointer (some ⟨p, 0, none⟩)) ∧ w'.cell? ⟨w.heap.size, 1, none⟩ = some (.int .i64 a) ∧ w'.cell? ⟨w.heap.size, 2, none⟩ = some (.int .i64 b))
    (first | exact ⟨a0, a3, a4⟩ | exact ⟨b0, b3, b4⟩)
    ((go_at_call 61; refine (prog_cap w1.drew _ p r n x a haa (HB.out.drewN 1)).mono ?_; rintro e w2 ⟨rfl, hH, hC2⟩; have hC2 := Chg.of_drew hC2; have hob2 : Blk w2 w.heap.size 47 _ := (hC2.block _ hs1 (fun hm => hm.2 rfl)).trans HOB.out; have hpb2 : Blk w2 pb 45 _ := (hC2.block _ hpl (fun hm => HPO.out hm.1)).trans HP1.out.blk; have b0 : w2.cell? ⟨pb, 0, none⟩ = some (.pointer (some ⟨p, 0, none⟩)) := hpb2.cell 0; have b1 : w2.cell? ⟨pb, 1, none⟩ = some (.pointer (some ⟨r, 0, none⟩)) := hpb2.cell 1; have b3 : w2.cell? ⟨w.heap.size, 1, none⟩ = some (.int .i64 a) := hob2.cell 1; have b4 : w2.cell? ⟨w.heap.size, 2, none⟩ = some (.int .i64 b) := hob2.cell 2; have HOB2 := Lib.hid hob2; have HPB2 := Lib.hid hpb2; have HH := Lib.hid hH; have HC2 := Lib.hid hC2; clear hH hC2 hob2 hpb2))
  all_goals
    clear a0 a3 a4
    go_upto_region 17 with fail
    go_region_held3 (fun w' => w'.cell? ⟨pb, 1, none⟩ = some (.pointer (some ⟨r, 0, none⟩)) ∧ w'.cell? ⟨w.heap.size, 1, none⟩ = some (.int .i64 a) ∧ w'.cell? ⟨w.heap.size, 2, none⟩ = some (.int .i64 b))
      (first | exact ⟨b1, b3, b4⟩ | exact ⟨d1, d3, d4⟩)
      ((go_at_call 41; refine (ref_cap w2.drew _ p r n x a haa.2 (HH.out.drewN 1)).mono ?_; rintro e w3 ⟨rfl, hB3, hC3⟩; have hC3 := Chg.of_drew hC3; have hob3 : Blk w3 w.heap.size 47 _ := (hC3.block _ HOB2.out.lt (fun hm => hm.2 rfl)).trans HOB2.out; have hpb3 : Blk w3 pb 45 _ := (hC3.block _ HPB2.out.lt (fun hm => HPO.out hm.1)).trans HPB2.out; have d1 : w3.cell? ⟨pb, 1, none⟩ = some (.pointer (some ⟨r, 0, none⟩)) := hpb3.cell 1; have d3 : w3.cell? ⟨w.heap.size, 1, none⟩ = some (.int .i64 a) := hob3.cell 1; have d4 : w3.cell? ⟨w.heap.size, 2, none⟩ = some (.int .i64 b) := hob3.cell 2; have HB3 := Lib.hid hB3; have HC3 := Lib.hid hC3; clear hB3 hC3 hob3 hpb3))
    all_goals
      clear b0 b1 b3 b4 d1 d3 d4
      go_wp2
      first | go_ret | refine bodyPost_ret (results_tmp rfl _ _ _) rfl ?_
      exact ⟨rfl, HB3.out.more (fun k hk => hk.1), (HC1.out.trans (HC2.out.more (fun k hk => hk.1)) (fun x hx => .inl hx)).trans (HC3.out.more (fun k hk => hk.1)) (fun x hx => .inl hx)⟩

set_option maxRecDepth 100000 in
set_option maxHeartbeats 12800000 in
theorem does_oper (w : World) (M : Nat → Prop) (pb p r n : Nat) (x : PS) (o : OpD) (hk : o.k % 11 < 6) (h : Both w M p r n x) (hpa : PairAt w M pb p r) (hn : n ≤ 10000) (ho : OpOk w M o) :
    Calls Try.prog 27 #[.pointer (some ⟨pb, 0, none⟩), .agg #[.int .i64 o.k, .int .i64 o.a, .int .i64 o.b, .string o.nm, .string o.t2, .slice o.A o.nb o.cb, .slice o.A2 o.nc o.cc]] w (OpPost w M p r n (x.oper (o.k % 11) o.nm o.t2 o.bs)) := by
  have hka := ho.k63
  have HO := Lib.hid ho
  clear ho
  obtain ⟨k, a, b, nm, t2, A, nb, cb, bs, A2, nc, cc, cs⟩ := o
  dsimp only at *
  obtain ⟨v, hv⟩ : ∃ v, v = k % 11 := ⟨_, rfl⟩
  rw [← hv] at hk ⊢
  have hv0 : 0 ≤ v := by omega
  have t6 : (v == 6) = false := by simp; omega
  have t7 : (v == 7) = false := by simp; omega
  have t8 : (v == 8) = false := by simp; omega
  have t9 : (v == 9) = false := by simp; omega
  have t10 : (v == 10) = false := by simp; omega
  have HB := Lib.hid h
  have HPA := Lib.hid hpa
  have HV := Lib.hid hv
  clear h hpa hv
  go_enter Try.func27, Try.ntmps27
  go_wp2_with fail
  refine (keepwithin_any k 11 _ (by omega) (by omega)).mono ?_
  rintro e wz ⟨rfl, rfl⟩
  rw [← HV.out]
  go_wp2_with fail
  refine (oper_any _ M pb p r n x v a b nm t2 A nb cb bs _ ⟨hv0, hk⟩ ((HB.out.box _).more (fun k hk => hk.1)) (HPA.out.chg ((Chg.refl M w).alloc _)) hn HO.out.nmL HO.out.t2L ((HO.out.bR.alloc (Nat.le_refl _) _).more (by simp)) HO.out.bA HO.out.bC HO.out.bL).mono ?_
  rintro e wy ⟨rfl, hBy, hCy⟩
  have HBY := Lib.hid hBy
  have HCY := Lib.hid hCy
  clear hBy hCy t6 t7 t8 t9 t10
  go_wp2
  first | go_ret | refine bodyPost_ret (results_tmp rfl _ _ _) rfl ?_
  exact ⟨rfl, HBY.out, ((Chg.refl M w).alloc _).trans HCY.out (fun x hx => .inl hx)⟩
end Go.Proofs.Ytfeglchngekedaa
