/- operation (function 24): Create, Sync, Rename, Remove, SyncDir are answered alike. Printed by gen_op.py. operation (function 24): Append is answered alike; what is lent stays as it was. -/
import Derived.Test.YtfeglchngekedaaJ18Spoils
namespace Go.Proofs.Ytfeglchngekedaa
open Go.RowKit Go.Shelf Go.Maps

theorem Both.more {w : World} {M M' : Nat → Prop} {p r n : Nat} {x : PS} (h : Both w M p r n x) (hm : ∀ k, M k → M' k) : Both w M' p r n x := by
  obtain ⟨F, G, s, t, φ, hp, h1, h2, h3, h9⟩ := h
  exact ⟨F, G, s, t, φ, ⟨hp.d, hp.r, fun k hk => ⟨hm k (hp.fM k hk).1, (hp.fM k hk).2⟩, fun k hk => ⟨hm k (hp.gM k hk).1, (hp.gM k hk).2⟩, hp.dis, fun k hk => hm k (hp.new k hk)⟩, h1, h2, h3, h9⟩
theorem Both.box {w : World} {M : Nat → Prop} {p r n : Nat} {x : PS} (h : Both w M p r n x) (o : Obj) : Both (w.alloc o) (fun k => M k ∧ k ≠ w.heap.size) p r n x := by
  obtain ⟨F, G, s, t, φ, hp, h1, h2, h3, h9⟩ := h
  have hb : Below w.heap.size w (w.alloc o) := (Below.refl _ w).alloc (Nat.le_refl _) _
  have hp1 := (hp.below hb).1
  refine ⟨F, G, s, t, φ, ⟨hp1.d, hp1.r, fun k hk => ⟨⟨(hp.fM k hk).1, ?_⟩, (hp1.fM k hk).2⟩, fun k hk => ⟨⟨(hp.gM k hk).1, ?_⟩, (hp1.gM k hk).2⟩, hp.dis, fun k hk => ?_⟩, h1, h2, h3, h9⟩
  · have := (hp.fM k hk).2; omega
  · have := (hp.gM k hk).2; omega
  · rw [World.size_alloc] at hk
    exact ⟨hp.new k (by omega), by omega⟩
theorem Both.drewN {w : World} {M : Nat → Prop} {p r n : Nat} {x : PS} (h : Both w M p r n x) (q : Nat) : Both (w.drewN q) M p r n x := by
  obtain ⟨F, G, s, t, φ, hp, h1, h2, h3, h9⟩ := h
  exact ⟨F, G, s, t, φ, hp.drewN q, h1, h2, h3, h9⟩
/-- the program's disk has been called, the document's not yet -/
def Half (w : World) (M : Nat → Prop) (p r n : Nat) (x : PS) (c : Int) (f : PS → Int × PS) : Prop :=
  ∃ F G s t, Pair w M F G p r s t ∧ PB n t.pl ∧ c = (f t.pl).1 ∧ Alike s n (f t.pl).2 ∧ t.pl = x
theorem Half.drewN {w : World} {M : Nat → Prop} {p r n : Nat} {x : PS} {c : Int} {f : PS → Int × PS} (h : Half w M p r n x c f) (q : Nat) : Half (w.drewN q) M p r n x c f := by
  obtain ⟨F, G, s, t, hp, h1, h2, h3, h4⟩ := h
  exact ⟨F, G, s, t, hp.drewN q, h1, h2, h3, h4⟩
/-- a call of the program's disk -/
def ProgPost (w : World) (M : Nat → Prop) (p r n : Nat) (x : PS) (f : PS → Int × PS) (e : Ending) (w' : World) : Prop := ∃ c, e = .returned (.int .i64 c) ∧ Half w' M p r n x c f ∧ Chg M w w'
def RefPost (w : World) (M : Nat → Prop) (p r n : Nat) (x : PS) (c : Int) (e : Ending) (w' : World) : Prop := e = .returned (.int .i64 c) ∧ Both w' M p r (n + 1) x ∧ Chg M w w'
theorem ref_end {w w' : World} {M F G : Nat → Prop} {p r n : Nat} {c : Int} {f : PS → Int × PS} {s : DS} {t : RS} {e : Ending} (hp : Pair w M F G p r s t) (h2 : c = (f t.pl).1) (h3 : Alike s n (f t.pl).2) (h : RPost w G r (f t.pl) e w') : RefPost w M p r n (f t.pl).2 c e w' := by
  obtain ⟨t', rfl, hr, hpl, hc⟩ := h
  obtain ⟨h4, h5⟩ := hp.refd hr hc
  obtain ⟨⟨φ, h6⟩, h7, h8⟩ := h3
  exact ⟨by rw [h2], ⟨_, _, s, t', φ, h4, h6, h7, h8, hpl⟩, h5⟩

def OpPost (w : World) (M : Nat → Prop) (p r n : Nat) (x : PS) (e : Ending) (w' : World) : Prop := e = .returned (.bool true) ∧ Both w' M p r (n + 1) x ∧ Chg M w w'
/-- an Op's value -/
def opV (k a b : Int) (nm t2 : ByteArray) (vb vc : Value) : Value := .agg #[.int .i64 k, .int .i64 a, .int .i64 b, .string nm, .string t2, vb, vc]
def opCells (k a b : Int) (nm t2 : ByteArray) (vb vc : Value) : Array Value := #[.int .i64 k, .int .i64 a, .int .i64 b, .string nm, .string t2, vb, vc]
structure PairAt (w : World) (M : Nat → Prop) (pb p r : Nat) : Prop where
  blk : Blk w pb 45 #[.pointer (some ⟨p, 0, none⟩), .pointer (some ⟨r, 0, none⟩)]
  out : ¬ M pb
theorem PairAt.chg {w w' : World} {M : Nat → Prop} {pb p r : Nat} (h : PairAt w M pb p r) (hc : Chg M w w') : PairAt w' M pb p r := ⟨(hc.block pb h.blk.lt h.out).trans h.blk, h.out⟩

theorem prog_create (w : World) (M : Nat → Prop) (p r n : Nat) (x : PS) (nm : ByteArray) (h : Both w M p r n x) (hn : n ≤ 10000) (hnm : nm.size ≤ maxLen) : Calls Try.prog 9 #[.pointer (some ⟨p, 0, none⟩), .string nm] w (ProgPost w M p r n x (fun x : PS => x.create nm)) := by
  obtain ⟨F, G, s, t, φ, hp, hrel, hpb, hpc, rfl⟩ := h
  obtain ⟨ho, hf⟩ := hrel.opsB hpb hn
  refine (create_any w F p s nm hp.d (Nat.le_trans hnm (by simp [maxLen])) hnm (by omega) (by omega)).mono ?_
  rintro e w' ⟨v, s', rfl, hd, hc, hs⟩
  obtain ⟨hcode, hal⟩ := create_sim (W := w.heap.size) hrel hpb hpc (by omega) nm v s' (fun g hg => live_lt hp.d hg) hs
  obtain ⟨h4, h5⟩ := hp.prog hd hc
  exact ⟨_, rfl, ⟨_, _, s', t, h4, hpb, hcode, hal, rfl⟩, h5⟩
theorem ref_create (w : World) (M : Nat → Prop) (p r n : Nat) (x : PS) (c : Int) (nm : ByteArray) (h : Half w M p r n x c (fun x : PS => x.create nm)) (hn : n ≤ 10000) (hnm : nm.size ≤ maxLen) : Calls Try.prog 20 #[.pointer (some ⟨r, 0, none⟩), .string nm] w (RefPost w M p r n ((fun x : PS => x.create nm) x).2 c) := by
  obtain ⟨F, G, s, t, hp, h1, h2, h3, rfl⟩ := h
  exact (rcreate_any w G r t n nm hp.r h1 (by omega) (Nat.le_trans hnm (by simp [maxLen]))).mono fun e w' hr => ref_end (f := (fun x : PS => x.create nm)) hp h2 h3 hr

theorem prog_sync (w : World) (M : Nat → Prop) (p r n : Nat) (x : PS) (nm : ByteArray) (h : Both w M p r n x) (hn : n ≤ 10000) (hnm : nm.size ≤ maxLen) : Calls Try.prog 11 #[.pointer (some ⟨p, 0, none⟩), .string nm] w (ProgPost w M p r n x (fun x : PS => x.sync nm)) := by
  obtain ⟨F, G, s, t, φ, hp, hrel, hpb, hpc, rfl⟩ := h
  obtain ⟨ho, hf⟩ := hrel.opsB hpb hn
  refine (sync_any w F p s nm hp.d (Nat.le_trans hnm (by simp [maxLen])) hnm (by omega) (by omega)).mono ?_
  rintro e w' ⟨v, s', rfl, hd, hc, hs⟩
  obtain ⟨hcode, hal⟩ := sync_sim hrel hpb hpc (by omega) nm v s' hs
  obtain ⟨h4, h5⟩ := hp.prog hd hc
  exact ⟨_, rfl, ⟨_, _, s', t, h4, hpb, hcode, hal, rfl⟩, h5⟩
theorem ref_sync (w : World) (M : Nat → Prop) (p r n : Nat) (x : PS) (c : Int) (nm : ByteArray) (h : Half w M p r n x c (fun x : PS => x.sync nm)) (hn : n ≤ 10000) (hnm : nm.size ≤ maxLen) : Calls Try.prog 49 #[.pointer (some ⟨r, 0, none⟩), .string nm] w (RefPost w M p r n ((fun x : PS => x.sync nm) x).2 c) := by
  obtain ⟨F, G, s, t, hp, h1, h2, h3, rfl⟩ := h
  exact (rsync_any w G r t n nm hp.r h1 (by omega) (Nat.le_trans hnm (by simp [maxLen]))).mono fun e w' hr => ref_end (f := (fun x : PS => x.sync nm)) hp h2 h3 hr

theorem prog_remove (w : World) (M : Nat → Prop) (p r n : Nat) (x : PS) (nm : ByteArray) (h : Both w M p r n x) (hn : n ≤ 10000) (hnm : nm.size ≤ maxLen) : Calls Try.prog 52 #[.pointer (some ⟨p, 0, none⟩), .string nm] w (ProgPost w M p r n x (fun x : PS => x.remove nm)) := by
  obtain ⟨F, G, s, t, φ, hp, hrel, hpb, hpc, rfl⟩ := h
  obtain ⟨ho, hf⟩ := hrel.opsB hpb hn
  refine (remove_any w F p s nm hp.d (Nat.le_trans hnm (by simp [maxLen])) hnm (by omega) (by omega)).mono ?_
  rintro e w' ⟨v, s', rfl, hd, hc, hs⟩
  obtain ⟨hcode, hal⟩ := remove_sim hrel hpb hpc (by omega) nm v s' hs
  obtain ⟨h4, h5⟩ := hp.prog hd hc
  exact ⟨_, rfl, ⟨_, _, s', t, h4, hpb, hcode, hal, rfl⟩, h5⟩
theorem ref_remove (w : World) (M : Nat → Prop) (p r n : Nat) (x : PS) (c : Int) (nm : ByteArray) (h : Half w M p r n x c (fun x : PS => x.remove nm)) (hn : n ≤ 10000) (hnm : nm.size ≤ maxLen) : Calls Try.prog 53 #[.pointer (some ⟨r, 0, none⟩), .string nm] w (RefPost w M p r n ((fun x : PS => x.remove nm) x).2 c) := by
  obtain ⟨F, G, s, t, hp, h1, h2, h3, rfl⟩ := h
  exact (rremove_any w G r t n nm hp.r h1 (by omega) (Nat.le_trans hnm (by simp [maxLen]))).mono fun e w' hr => ref_end (f := (fun x : PS => x.remove nm)) hp h2 h3 hr

theorem prog_rename (w : World) (M : Nat → Prop) (p r n : Nat) (x : PS) (od nm : ByteArray) (h : Both w M p r n x) (hn : n ≤ 10000) (hod : od.size ≤ maxLen) (hnm : nm.size ≤ maxLen) : Calls Try.prog 50 #[.pointer (some ⟨p, 0, none⟩), .string od, .string nm] w (ProgPost w M p r n x (fun x : PS => x.rename od nm)) := by
  obtain ⟨F, G, s, t, φ, hp, hrel, hpb, hpc, rfl⟩ := h
  obtain ⟨ho, hf⟩ := hrel.opsB hpb hn
  refine (rename_any w F p s od nm hp.d (Nat.le_trans hod (by simp [maxLen])) hod (Nat.le_trans hnm (by simp [maxLen])) (by omega) (by omega)).mono ?_
  rintro e w' ⟨v, s', rfl, hd, hc, hs⟩
  obtain ⟨hcode, hal⟩ := rename_sim hrel hpb hpc (by omega) od nm v s' hs
  obtain ⟨h4, h5⟩ := hp.prog hd hc
  exact ⟨_, rfl, ⟨_, _, s', t, h4, hpb, hcode, hal, rfl⟩, h5⟩
theorem ref_rename (w : World) (M : Nat → Prop) (p r n : Nat) (x : PS) (c : Int) (od nm : ByteArray) (h : Half w M p r n x c (fun x : PS => x.rename od nm)) (hn : n ≤ 10000) (hod : od.size ≤ maxLen) (hnm : nm.size ≤ maxLen) : Calls Try.prog 51 #[.pointer (some ⟨r, 0, none⟩), .string od, .string nm] w (RefPost w M p r n ((fun x : PS => x.rename od nm) x).2 c) := by
  obtain ⟨F, G, s, t, hp, h1, h2, h3, rfl⟩ := h
  exact (rrename_any w G r t n od nm hp.r h1 (by omega) (Nat.le_trans hod (by simp [maxLen])) (Nat.le_trans hnm (by simp [maxLen]))).mono fun e w' hr => ref_end (f := (fun x : PS => x.rename od nm)) hp h2 h3 hr

theorem prog_syncdir (w : World) (M : Nat → Prop) (p r n : Nat) (x : PS) (h : Both w M p r n x) (hn : n ≤ 10000)  : Calls Try.prog 12 #[.pointer (some ⟨p, 0, none⟩)] w (ProgPost w M p r n x (fun x : PS => x.syncDir)) := by
  obtain ⟨F, G, s, t, φ, hp, hrel, hpb, hpc, rfl⟩ := h
  obtain ⟨ho, hf⟩ := hrel.opsB hpb hn
  refine (syncdir_any w F p s hp.d (by omega) (by omega)).mono ?_
  rintro e w' ⟨v, s', rfl, hd, hc, hs⟩
  obtain ⟨hcode, hal⟩ := syncdir_sim hrel hpb hpc (by omega) v s' hs
  obtain ⟨h4, h5⟩ := hp.prog hd hc
  exact ⟨_, rfl, ⟨_, _, s', t, h4, hpb, hcode, hal, rfl⟩, h5⟩
theorem ref_syncdir (w : World) (M : Nat → Prop) (p r n : Nat) (x : PS) (c : Int) (h : Half w M p r n x c (fun x : PS => x.syncDir)) (hn : n ≤ 10000)  : Calls Try.prog 54 #[.pointer (some ⟨r, 0, none⟩)] w (RefPost w M p r n ((fun x : PS => x.syncDir) x).2 c) := by
  obtain ⟨F, G, s, t, hp, h1, h2, h3, rfl⟩ := h
  exact (rsyncdir_any w G r t n hp.r h1 (by omega)).mono fun e w' hr => ref_end (f := (fun x : PS => x.syncDir)) hp h2 h3 hr

set_option maxRecDepth 100000 in
set_option maxHeartbeats 12800000 in
theorem op_create (w : World) (M : Nat → Prop) (pb p r n : Nat) (x : PS) (a b : Int) (nm t2 : ByteArray) (vb vc : Value) (h : Both w M p r n x) (hpa : PairAt w M pb p r) (hn : n ≤ 10000) (hnm : nm.size ≤ maxLen) :
    Calls Try.prog 24 #[.pointer (some ⟨pb, 0, none⟩), .agg #[.int .i64 0, .int .i64 a, .int .i64 b, .string nm, .string t2, vb, vc]] w (OpPost w M p r n (x.create nm).2) := by
  obtain ⟨w1, hw1⟩ : ∃ w1, w.alloc (.cells #[.int .i64 0, .int .i64 a, .int .i64 b, .string nm, .string t2, vb, vc] 47) = w1 := ⟨_, rfl⟩
  have hob : Blk w1 w.heap.size 47 #[.int .i64 0, .int .i64 a, .int .i64 b, .string nm, .string t2, vb, vc] := by rw [← hw1]; exact Blk.new w 47 _
  have hc1 : Chg M w w1 := by rw [← hw1]; exact (Chg.refl M w).alloc _
  have hb1 : Both w1 (fun k => M k ∧ k ≠ w.heap.size) p r n x := by rw [← hw1]; exact h.box _
  have hp1 := hpa.chg hc1
  have hpl := hp1.blk.lt
  have hpw := hpa.blk.lt
  have hs1 : w.heap.size < w1.heap.size := hob.lt
  have a0 : w1.cell? ⟨pb, 0, none⟩ = some (.pointer (some ⟨p, 0, none⟩)) := hp1.blk.cell 0
  have a1 : w1.cell? ⟨pb, 1, none⟩ = some (.pointer (some ⟨r, 0, none⟩)) := hp1.blk.cell 1
  have ad : w1.cell? ⟨w.heap.size, 0, none⟩ = some (.int .i64 0) := hob.cell 0
  have a3 : w1.cell? ⟨w.heap.size, 3, none⟩ = some (.string nm) := hob.cell 3
  have HB := Lib.hid hb1
  have HC1 := Lib.hid hc1
  have HOB := Lib.hid hob
  have HP1 := Lib.hid hp1
  have HPO := Lib.hid hpa.out
  clear h hpa hob hc1 hb1 hp1
  go_enter Try.func24, Try.ntmps24
  go_upto_region 3 with fail
  clear hw1
  go_region_held3 (fun w' => w'.cell? ⟨pb, 0, none⟩ = some (.pointer (some ⟨p, 0, none⟩)) ∧ w'.cell? ⟨pb, 1, none⟩ = some (.pointer (some ⟨r, 0, none⟩)) ∧ w'.cell? ⟨w.heap.size, 3, none⟩ = some (.string nm))
    (first | exact ⟨a0, a1, a3⟩ | exact ⟨b0, b1, b3⟩ | exact ⟨d0, d1, d3⟩)
    ((first
      | (go_at_call 9; refine (prog_create w1.drew _ p r n x nm (HB.out.drewN 1) hn hnm).mono ?_; rintro e w2 ⟨c, rfl, hH, hC2⟩; have hk2 : ∀ k, k < w1.heap.size → ¬ (M k ∧ k ≠ w.heap.size) → w2.heap[k]? = w1.heap[k]? := (fun k hk hm => hC2.block k hk hm); have hob2 : Blk w2 w.heap.size 47 _ := (hk2 _ hs1 (fun hm => hm.2 rfl)).trans HOB.out; have hpb2 : Blk w2 pb 45 _ := (hk2 _ hpl (fun hm => HPO.out hm.1)).trans HP1.out.blk; have b0 : w2.cell? ⟨pb, 0, none⟩ = some (.pointer (some ⟨p, 0, none⟩)) := hpb2.cell 0; have b1 : w2.cell? ⟨pb, 1, none⟩ = some (.pointer (some ⟨r, 0, none⟩)) := hpb2.cell 1; have b3 : w2.cell? ⟨w.heap.size, 3, none⟩ = some (.string nm) := hob2.cell 3; have HOB2 := Lib.hid hob2; have HPB2 := Lib.hid hpb2; have HH := Lib.hid hH; have HC2 := Lib.hid hC2; clear hH hC2 hob2 hpb2 hk2)
      | (go_at_call 20; refine (ref_create w2 _ p r n x c nm HH.out hn hnm).mono ?_; rintro e w3 ⟨rfl, hB3, hC3⟩; have hob3 : Blk w3 w.heap.size 47 _ := (hC3.block _ HOB2.out.lt (fun hm => hm.2 rfl)).trans HOB2.out; have hpb3 : Blk w3 pb 45 _ := (hC3.block _ HPB2.out.lt (fun hm => HPO.out hm.1)).trans HPB2.out; have d0 : w3.cell? ⟨pb, 0, none⟩ = some (.pointer (some ⟨p, 0, none⟩)) := hpb3.cell 0; have d1 : w3.cell? ⟨pb, 1, none⟩ = some (.pointer (some ⟨r, 0, none⟩)) := hpb3.cell 1; have d3 : w3.cell? ⟨w.heap.size, 3, none⟩ = some (.string nm) := hob3.cell 3; have HB3 := Lib.hid hB3; have HC3 := Lib.hid hC3; clear hB3 hC3 hob3 hpb3)))
  all_goals
    have hq : (c == c) = true := beq_self_eq_true c
    go_wp2
    refine bodyPost_ret (results_tmp rfl _ _ _) rfl ?_
    exact ⟨rfl, HB3.out.more (fun k hk => hk.1), (HC1.out.drew.trans (HC2.out.more (fun k hk => hk.1)) (fun x hx => .inl hx)).trans (HC3.out.more (fun k hk => hk.1)) (fun x hx => .inl hx)⟩

set_option maxRecDepth 100000 in
set_option maxHeartbeats 12800000 in
theorem op_sync (w : World) (M : Nat → Prop) (pb p r n : Nat) (x : PS) (a b : Int) (nm t2 : ByteArray) (vb vc : Value) (h : Both w M p r n x) (hpa : PairAt w M pb p r) (hn : n ≤ 10000) (hnm : nm.size ≤ maxLen) :
    Calls Try.prog 24 #[.pointer (some ⟨pb, 0, none⟩), .agg #[.int .i64 2, .int .i64 a, .int .i64 b, .string nm, .string t2, vb, vc]] w (OpPost w M p r n (x.sync nm).2) := by
  obtain ⟨w1, hw1⟩ : ∃ w1, w.alloc (.cells #[.int .i64 2, .int .i64 a, .int .i64 b, .string nm, .string t2, vb, vc] 47) = w1 := ⟨_, rfl⟩
  have hob : Blk w1 w.heap.size 47 #[.int .i64 2, .int .i64 a, .int .i64 b, .string nm, .string t2, vb, vc] := by rw [← hw1]; exact Blk.new w 47 _
  have hc1 : Chg M w w1 := by rw [← hw1]; exact (Chg.refl M w).alloc _
  have hb1 : Both w1 (fun k => M k ∧ k ≠ w.heap.size) p r n x := by rw [← hw1]; exact h.box _
  have hp1 := hpa.chg hc1
  have hpl := hp1.blk.lt
  have hpw := hpa.blk.lt
  have hs1 : w.heap.size < w1.heap.size := hob.lt
  have a0 : w1.cell? ⟨pb, 0, none⟩ = some (.pointer (some ⟨p, 0, none⟩)) := hp1.blk.cell 0
  have a1 : w1.cell? ⟨pb, 1, none⟩ = some (.pointer (some ⟨r, 0, none⟩)) := hp1.blk.cell 1
  have ad : w1.cell? ⟨w.heap.size, 0, none⟩ = some (.int .i64 2) := hob.cell 0
  have a3 : w1.cell? ⟨w.heap.size, 3, none⟩ = some (.string nm) := hob.cell 3
  have HB := Lib.hid hb1
  have HC1 := Lib.hid hc1
  have HOB := Lib.hid hob
  have HP1 := Lib.hid hp1
  have HPO := Lib.hid hpa.out
  clear h hpa hob hc1 hb1 hp1
  go_enter Try.func24, Try.ntmps24
  go_upto_region 13 with fail
  clear hw1
  go_region_held3 (fun w' => w'.cell? ⟨pb, 0, none⟩ = some (.pointer (some ⟨p, 0, none⟩)) ∧ w'.cell? ⟨pb, 1, none⟩ = some (.pointer (some ⟨r, 0, none⟩)) ∧ w'.cell? ⟨w.heap.size, 3, none⟩ = some (.string nm))
    (first | exact ⟨a0, a1, a3⟩ | exact ⟨b0, b1, b3⟩ | exact ⟨d0, d1, d3⟩)
    ((first
      | (go_at_call 11; refine (prog_sync w1.drew _ p r n x nm (HB.out.drewN 1) hn hnm).mono ?_; rintro e w2 ⟨c, rfl, hH, hC2⟩; have hk2 : ∀ k, k < w1.heap.size → ¬ (M k ∧ k ≠ w.heap.size) → w2.heap[k]? = w1.heap[k]? := (fun k hk hm => hC2.block k hk hm); have hob2 : Blk w2 w.heap.size 47 _ := (hk2 _ hs1 (fun hm => hm.2 rfl)).trans HOB.out; have hpb2 : Blk w2 pb 45 _ := (hk2 _ hpl (fun hm => HPO.out hm.1)).trans HP1.out.blk; have b0 : w2.cell? ⟨pb, 0, none⟩ = some (.pointer (some ⟨p, 0, none⟩)) := hpb2.cell 0; have b1 : w2.cell? ⟨pb, 1, none⟩ = some (.pointer (some ⟨r, 0, none⟩)) := hpb2.cell 1; have b3 : w2.cell? ⟨w.heap.size, 3, none⟩ = some (.string nm) := hob2.cell 3; have HOB2 := Lib.hid hob2; have HPB2 := Lib.hid hpb2; have HH := Lib.hid hH; have HC2 := Lib.hid hC2; clear hH hC2 hob2 hpb2 hk2)
      | (go_at_call 49; refine (ref_sync w2 _ p r n x c nm HH.out hn hnm).mono ?_; rintro e w3 ⟨rfl, hB3, hC3⟩; have hob3 : Blk w3 w.heap.size 47 _ := (hC3.block _ HOB2.out.lt (fun hm => hm.2 rfl)).trans HOB2.out; have hpb3 : Blk w3 pb 45 _ := (hC3.block _ HPB2.out.lt (fun hm => HPO.out hm.1)).trans HPB2.out; have d0 : w3.cell? ⟨pb, 0, none⟩ = some (.pointer (some ⟨p, 0, none⟩)) := hpb3.cell 0; have d1 : w3.cell? ⟨pb, 1, none⟩ = some (.pointer (some ⟨r, 0, none⟩)) := hpb3.cell 1; have d3 : w3.cell? ⟨w.heap.size, 3, none⟩ = some (.string nm) := hob3.cell 3; have HB3 := Lib.hid hB3; have HC3 := Lib.hid hC3; clear hB3 hC3 hob3 hpb3)))
  all_goals
    have hq : (c == c) = true := beq_self_eq_true c
    go_wp2
    refine bodyPost_ret (results_tmp rfl _ _ _) rfl ?_
    exact ⟨rfl, HB3.out.more (fun k hk => hk.1), (HC1.out.drew.trans (HC2.out.more (fun k hk => hk.1)) (fun x hx => .inl hx)).trans (HC3.out.more (fun k hk => hk.1)) (fun x hx => .inl hx)⟩

set_option maxRecDepth 100000 in
set_option maxHeartbeats 12800000 in
theorem op_remove (w : World) (M : Nat → Prop) (pb p r n : Nat) (x : PS) (a b : Int) (nm t2 : ByteArray) (vb vc : Value) (h : Both w M p r n x) (hpa : PairAt w M pb p r) (hn : n ≤ 10000) (hnm : nm.size ≤ maxLen) :
    Calls Try.prog 24 #[.pointer (some ⟨pb, 0, none⟩), .agg #[.int .i64 4, .int .i64 a, .int .i64 b, .string nm, .string t2, vb, vc]] w (OpPost w M p r n (x.remove nm).2) := by
  obtain ⟨w1, hw1⟩ : ∃ w1, w.alloc (.cells #[.int .i64 4, .int .i64 a, .int .i64 b, .string nm, .string t2, vb, vc] 47) = w1 := ⟨_, rfl⟩
  have hob : Blk w1 w.heap.size 47 #[.int .i64 4, .int .i64 a, .int .i64 b, .string nm, .string t2, vb, vc] := by rw [← hw1]; exact Blk.new w 47 _
  have hc1 : Chg M w w1 := by rw [← hw1]; exact (Chg.refl M w).alloc _
  have hb1 : Both w1 (fun k => M k ∧ k ≠ w.heap.size) p r n x := by rw [← hw1]; exact h.box _
  have hp1 := hpa.chg hc1
  have hpl := hp1.blk.lt
  have hpw := hpa.blk.lt
  have hs1 : w.heap.size < w1.heap.size := hob.lt
  have a0 : w1.cell? ⟨pb, 0, none⟩ = some (.pointer (some ⟨p, 0, none⟩)) := hp1.blk.cell 0
  have a1 : w1.cell? ⟨pb, 1, none⟩ = some (.pointer (some ⟨r, 0, none⟩)) := hp1.blk.cell 1
  have ad : w1.cell? ⟨w.heap.size, 0, none⟩ = some (.int .i64 4) := hob.cell 0
  have a3 : w1.cell? ⟨w.heap.size, 3, none⟩ = some (.string nm) := hob.cell 3
  have HB := Lib.hid hb1
  have HC1 := Lib.hid hc1
  have HOB := Lib.hid hob
  have HP1 := Lib.hid hp1
  have HPO := Lib.hid hpa.out
  clear h hpa hob hc1 hb1 hp1
  go_enter Try.func24, Try.ntmps24
  go_upto_region 17 with fail
  clear hw1
  go_region_held3 (fun w' => w'.cell? ⟨pb, 0, none⟩ = some (.pointer (some ⟨p, 0, none⟩)) ∧ w'.cell? ⟨pb, 1, none⟩ = some (.pointer (some ⟨r, 0, none⟩)) ∧ w'.cell? ⟨w.heap.size, 3, none⟩ = some (.string nm))
    (first | exact ⟨a0, a1, a3⟩ | exact ⟨b0, b1, b3⟩ | exact ⟨d0, d1, d3⟩)
    ((first
      | (go_at_call 52; refine (prog_remove w1.drew _ p r n x nm (HB.out.drewN 1) hn hnm).mono ?_; rintro e w2 ⟨c, rfl, hH, hC2⟩; have hk2 : ∀ k, k < w1.heap.size → ¬ (M k ∧ k ≠ w.heap.size) → w2.heap[k]? = w1.heap[k]? := (fun k hk hm => hC2.block k hk hm); have hob2 : Blk w2 w.heap.size 47 _ := (hk2 _ hs1 (fun hm => hm.2 rfl)).trans HOB.out; have hpb2 : Blk w2 pb 45 _ := (hk2 _ hpl (fun hm => HPO.out hm.1)).trans HP1.out.blk; have b0 : w2.cell? ⟨pb, 0, none⟩ = some (.pointer (some ⟨p, 0, none⟩)) := hpb2.cell 0; have b1 : w2.cell? ⟨pb, 1, none⟩ = some (.pointer (some ⟨r, 0, none⟩)) := hpb2.cell 1; have b3 : w2.cell? ⟨w.heap.size, 3, none⟩ = some (.string nm) := hob2.cell 3; have HOB2 := Lib.hid hob2; have HPB2 := Lib.hid hpb2; have HH := Lib.hid hH; have HC2 := Lib.hid hC2; clear hH hC2 hob2 hpb2 hk2)
      | (go_at_call 53; refine (ref_remove w2 _ p r n x c nm HH.out hn hnm).mono ?_; rintro e w3 ⟨rfl, hB3, hC3⟩; have hob3 : Blk w3 w.heap.size 47 _ := (hC3.block _ HOB2.out.lt (fun hm => hm.2 rfl)).trans HOB2.out; have hpb3 : Blk w3 pb 45 _ := (hC3.block _ HPB2.out.lt (fun hm => HPO.out hm.1)).trans HPB2.out; have d0 : w3.cell? ⟨pb, 0, none⟩ = some (.pointer (some ⟨p, 0, none⟩)) := hpb3.cell 0; have d1 : w3.cell? ⟨pb, 1, none⟩ = some (.pointer (some ⟨r, 0, none⟩)) := hpb3.cell 1; have d3 : w3.cell? ⟨w.heap.size, 3, none⟩ = some (.string nm) := hob3.cell 3; have HB3 := Lib.hid hB3; have HC3 := Lib.hid hC3; clear hB3 hC3 hob3 hpb3)))
  all_goals
    have hq : (c == c) = true := beq_self_eq_true c
    go_wp2
    refine bodyPost_ret (results_tmp rfl _ _ _) rfl ?_
    exact ⟨rfl, HB3.out.more (fun k hk => hk.1), (HC1.out.drew.trans (HC2.out.more (fun k hk => hk.1)) (fun x hx => .inl hx)).trans (HC3.out.more (fun k hk => hk.1)) (fun x hx => .inl hx)⟩

set_option maxRecDepth 100000 in
set_option maxHeartbeats 12800000 in
theorem op_rename (w : World) (M : Nat → Prop) (pb p r n : Nat) (x : PS) (a b : Int) (nm t2 : ByteArray) (vb vc : Value) (h : Both w M p r n x) (hpa : PairAt w M pb p r) (hn : n ≤ 10000) (hnm : nm.size ≤ maxLen) (ht2 : t2.size ≤ maxLen) :
    Calls Try.prog 24 #[.pointer (some ⟨pb, 0, none⟩), .agg #[.int .i64 3, .int .i64 a, .int .i64 b, .string nm, .string t2, vb, vc]] w (OpPost w M p r n (x.rename nm t2).2) := by
  obtain ⟨w1, hw1⟩ : ∃ w1, w.alloc (.cells #[.int .i64 3, .int .i64 a, .int .i64 b, .string nm, .string t2, vb, vc] 47) = w1 := ⟨_, rfl⟩
  have hob : Blk w1 w.heap.size 47 #[.int .i64 3, .int .i64 a, .int .i64 b, .string nm, .string t2, vb, vc] := by rw [← hw1]; exact Blk.new w 47 _
  have hc1 : Chg M w w1 := by rw [← hw1]; exact (Chg.refl M w).alloc _
  have hb1 : Both w1 (fun k => M k ∧ k ≠ w.heap.size) p r n x := by rw [← hw1]; exact h.box _
  have hp1 := hpa.chg hc1
  have hpl := hp1.blk.lt
  have hpw := hpa.blk.lt
  have hs1 : w.heap.size < w1.heap.size := hob.lt
  have a0 : w1.cell? ⟨pb, 0, none⟩ = some (.pointer (some ⟨p, 0, none⟩)) := hp1.blk.cell 0
  have a1 : w1.cell? ⟨pb, 1, none⟩ = some (.pointer (some ⟨r, 0, none⟩)) := hp1.blk.cell 1
  have ad : w1.cell? ⟨w.heap.size, 0, none⟩ = some (.int .i64 3) := hob.cell 0
  have a3 : w1.cell? ⟨w.heap.size, 3, none⟩ = some (.string nm) := hob.cell 3
  have a4 : w1.cell? ⟨w.heap.size, 4, none⟩ = some (.string t2) := hob.cell 4
  have HB := Lib.hid hb1
  have HC1 := Lib.hid hc1
  have HOB := Lib.hid hob
  have HP1 := Lib.hid hp1
  have HPO := Lib.hid hpa.out
  clear h hpa hob hc1 hb1 hp1
  go_enter Try.func24, Try.ntmps24
  go_upto_region 15 with fail
  clear hw1
  go_region_held3 (fun w' => w'.cell? ⟨pb, 0, none⟩ = some (.pointer (some ⟨p, 0, none⟩)) ∧ w'.cell? ⟨pb, 1, none⟩ = some (.pointer (some ⟨r, 0, none⟩)) ∧ w'.cell? ⟨w.heap.size, 3, none⟩ = some (.string nm) ∧ w'.cell? ⟨w.heap.size, 4, none⟩ = some (.string t2))
    (first | exact ⟨a0, a1, a3, a4⟩ | exact ⟨b0, b1, b3, b4⟩ | exact ⟨d0, d1, d3, d4⟩)
    ((first
      | (go_at_call 50; refine (prog_rename w1.drew _ p r n x nm t2 (HB.out.drewN 1) hn hnm ht2).mono ?_; rintro e w2 ⟨c, rfl, hH, hC2⟩; have hk2 : ∀ k, k < w1.heap.size → ¬ (M k ∧ k ≠ w.heap.size) → w2.heap[k]? = w1.heap[k]? := (fun k hk hm => hC2.block k hk hm); have hob2 : Blk w2 w.heap.size 47 _ := (hk2 _ hs1 (fun hm => hm.2 rfl)).trans HOB.out; have hpb2 : Blk w2 pb 45 _ := (hk2 _ hpl (fun hm => HPO.out hm.1)).trans HP1.out.blk; have b0 : w2.cell? ⟨pb, 0, none⟩ = some (.pointer (some ⟨p, 0, none⟩)) := hpb2.cell 0; have b1 : w2.cell? ⟨pb, 1, none⟩ = some (.pointer (some ⟨r, 0, none⟩)) := hpb2.cell 1; have b3 : w2.cell? ⟨w.heap.size, 3, none⟩ = some (.string nm) := hob2.cell 3; have b4 : w2.cell? ⟨w.heap.size, 4, none⟩ = some (.string t2) := hob2.cell 4; have HOB2 := Lib.hid hob2; have HPB2 := Lib.hid hpb2; have HH := Lib.hid hH; have HC2 := Lib.hid hC2; clear hH hC2 hob2 hpb2 hk2)
      | (go_at_call 51; refine (ref_rename w2 _ p r n x c nm t2 HH.out hn hnm ht2).mono ?_; rintro e w3 ⟨rfl, hB3, hC3⟩; have hob3 : Blk w3 w.heap.size 47 _ := (hC3.block _ HOB2.out.lt (fun hm => hm.2 rfl)).trans HOB2.out; have hpb3 : Blk w3 pb 45 _ := (hC3.block _ HPB2.out.lt (fun hm => HPO.out hm.1)).trans HPB2.out; have d0 : w3.cell? ⟨pb, 0, none⟩ = some (.pointer (some ⟨p, 0, none⟩)) := hpb3.cell 0; have d1 : w3.cell? ⟨pb, 1, none⟩ = some (.pointer (some ⟨r, 0, none⟩)) := hpb3.cell 1; have d3 : w3.cell? ⟨w.heap.size, 3, none⟩ = some (.string nm) := hob3.cell 3; have d4 : w3.cell? ⟨w.heap.size, 4, none⟩ = some (.string t2) := hob3.cell 4; have HB3 := Lib.hid hB3; have HC3 := Lib.hid hC3; clear hB3 hC3 hob3 hpb3)))
  all_goals
    have hq : (c == c) = true := beq_self_eq_true c
    go_wp2
    refine bodyPost_ret (results_tmp rfl _ _ _) rfl ?_
    exact ⟨rfl, HB3.out.more (fun k hk => hk.1), (HC1.out.drew.trans (HC2.out.more (fun k hk => hk.1)) (fun x hx => .inl hx)).trans (HC3.out.more (fun k hk => hk.1)) (fun x hx => .inl hx)⟩

set_option maxRecDepth 100000 in
set_option maxHeartbeats 12800000 in
theorem op_syncdir (w : World) (M : Nat → Prop) (pb p r n : Nat) (x : PS) (a b : Int) (nm t2 : ByteArray) (vb vc : Value) (h : Both w M p r n x) (hpa : PairAt w M pb p r) (hn : n ≤ 10000) :
    Calls Try.prog 24 #[.pointer (some ⟨pb, 0, none⟩), .agg #[.int .i64 5, .int .i64 a, .int .i64 b, .string nm, .string t2, vb, vc]] w (OpPost w M p r n (x.syncDir).2) := by
  obtain ⟨w1, hw1⟩ : ∃ w1, w.alloc (.cells #[.int .i64 5, .int .i64 a, .int .i64 b, .string nm, .string t2, vb, vc] 47) = w1 := ⟨_, rfl⟩
  have hob : Blk w1 w.heap.size 47 #[.int .i64 5, .int .i64 a, .int .i64 b, .string nm, .string t2, vb, vc] := by rw [← hw1]; exact Blk.new w 47 _
  have hc1 : Chg M w w1 := by rw [← hw1]; exact (Chg.refl M w).alloc _
  have hb1 : Both w1 (fun k => M k ∧ k ≠ w.heap.size) p r n x := by rw [← hw1]; exact h.box _
  have hp1 := hpa.chg hc1
  have hpl := hp1.blk.lt
  have hpw := hpa.blk.lt
  have hs1 : w.heap.size < w1.heap.size := hob.lt
  have a0 : w1.cell? ⟨pb, 0, none⟩ = some (.pointer (some ⟨p, 0, none⟩)) := hp1.blk.cell 0
  have a1 : w1.cell? ⟨pb, 1, none⟩ = some (.pointer (some ⟨r, 0, none⟩)) := hp1.blk.cell 1
  have ad : w1.cell? ⟨w.heap.size, 0, none⟩ = some (.int .i64 5) := hob.cell 0
  have a3 : w1.cell? ⟨w.heap.size, 3, none⟩ = some (.string nm) := hob.cell 3
  have HB := Lib.hid hb1
  have HC1 := Lib.hid hc1
  have HOB := Lib.hid hob
  have HP1 := Lib.hid hp1
  have HPO := Lib.hid hpa.out
  clear h hpa hob hc1 hb1 hp1
  go_enter Try.func24, Try.ntmps24
  go_upto_region 18 with fail
  clear hw1
  go_region_held3 (fun w' => w'.cell? ⟨pb, 0, none⟩ = some (.pointer (some ⟨p, 0, none⟩)) ∧ w'.cell? ⟨pb, 1, none⟩ = some (.pointer (some ⟨r, 0, none⟩)))
    (first | exact ⟨a0, a1⟩ | exact ⟨b0, b1⟩ | exact ⟨d0, d1⟩)
    ((first
      | (go_at_call 12; refine (prog_syncdir w1.drew _ p r n x  (HB.out.drewN 1) hn ).mono ?_; rintro e w2 ⟨c, rfl, hH, hC2⟩; have hk2 : ∀ k, k < w1.heap.size → ¬ (M k ∧ k ≠ w.heap.size) → w2.heap[k]? = w1.heap[k]? := (fun k hk hm => hC2.block k hk hm); have hob2 : Blk w2 w.heap.size 47 _ := (hk2 _ hs1 (fun hm => hm.2 rfl)).trans HOB.out; have hpb2 : Blk w2 pb 45 _ := (hk2 _ hpl (fun hm => HPO.out hm.1)).trans HP1.out.blk; have b0 : w2.cell? ⟨pb, 0, none⟩ = some (.pointer (some ⟨p, 0, none⟩)) := hpb2.cell 0; have b1 : w2.cell? ⟨pb, 1, none⟩ = some (.pointer (some ⟨r, 0, none⟩)) := hpb2.cell 1; have b3 : w2.cell? ⟨w.heap.size, 3, none⟩ = some (.string nm) := hob2.cell 3; have HOB2 := Lib.hid hob2; have HPB2 := Lib.hid hpb2; have HH := Lib.hid hH; have HC2 := Lib.hid hC2; clear hH hC2 hob2 hpb2 hk2)
      | (go_at_call 54; refine (ref_syncdir w2 _ p r n x c  HH.out hn ).mono ?_; rintro e w3 ⟨rfl, hB3, hC3⟩; have hob3 : Blk w3 w.heap.size 47 _ := (hC3.block _ HOB2.out.lt (fun hm => hm.2 rfl)).trans HOB2.out; have hpb3 : Blk w3 pb 45 _ := (hC3.block _ HPB2.out.lt (fun hm => HPO.out hm.1)).trans HPB2.out; have d0 : w3.cell? ⟨pb, 0, none⟩ = some (.pointer (some ⟨p, 0, none⟩)) := hpb3.cell 0; have d1 : w3.cell? ⟨pb, 1, none⟩ = some (.pointer (some ⟨r, 0, none⟩)) := hpb3.cell 1; have d3 : w3.cell? ⟨w.heap.size, 3, none⟩ = some (.string nm) := hob3.cell 3; have HB3 := Lib.hid hB3; have HC3 := Lib.hid hC3; clear hB3 hC3 hob3 hpb3)))
  all_goals
    have hq : (c == c) = true := beq_self_eq_true c
    go_wp2
    refine bodyPost_ret (results_tmp rfl _ _ _) rfl ?_
    exact ⟨rfl, HB3.out.more (fun k hk => hk.1), (HC1.out.drew.trans (HC2.out.more (fun k hk => hk.1)) (fun x hx => .inl hx)).trans (HC3.out.more (fun k hk => hk.1)) (fun x hx => .inl hx)⟩
end Go.Proofs.Ytfeglchngekedaa
namespace Go.Proofs.Ytfeglchngekedaa
open Go.RowKit Go.Shelf Go.Maps

/-- blocks that were made between lie in neither disk -/
theorem Both.fence {w w' : World} {M : Nat → Prop} {p r n : Nat} {x : PS} (h : Both w M p r n x) (hb : Below w.heap.size w w') : Both w' (fun k => M k ∧ ¬ (w.heap.size ≤ k ∧ k < w'.heap.size)) p r n x := by
  obtain ⟨F, G, s, t, φ, hp, h1, h2, h3, h9⟩ := h
  have hp1 := (hp.below hb).1
  have hs := hb.size
  refine ⟨F, G, s, t, φ, ⟨hp1.d, hp1.r, fun k hk => ⟨⟨(hp.fM k hk).1, ?_⟩, (hp1.fM k hk).2⟩, fun k hk => ⟨⟨(hp.gM k hk).1, ?_⟩, (hp1.gM k hk).2⟩, hp.dis, fun k hk => ⟨hp.new k (by omega), by omega⟩⟩, h1, h2, h3, h9⟩
  · have := (hp.fM k hk).2; omega
  · have := (hp.gM k hk).2; omega
/-- a block of neither disk is written -/
theorem Both.spare {w w' : World} {M M' : Nat → Prop} {p r n g : Nat} {x : PS} (h : Both w M p r n x) (hg : w.grownBy w' (some g)) (hM : ¬ M g) (hm : ∀ k, M k → M' k) (hg' : M' g) : Both w' M' p r n x ∧ Chg M' w w' := by
  obtain ⟨F, G, s, t, φ, hp, h1, h2, h3, h9⟩ := h.more hm
  obtain ⟨F0, G0, s0, t0, φ0, hp0, h10, h20, h30, h90⟩ := h
  have hc : Chg (fun k => k = g) w w' := ⟨hg.os, hg.tape, hg.output, hg.size, fun k hk hn => hg.block k hk (by simpa using hn)⟩
  have h0 : Pair w M' F0 G0 p r s0 t0 := ⟨hp0.d, hp0.r, fun k hk => ⟨hm k (hp0.fM k hk).1, (hp0.fM k hk).2⟩, fun k hk => ⟨hm k (hp0.gM k hk).1, (hp0.gM k hk).2⟩, hp0.dis, fun k hk => hm k (hp0.new k hk)⟩
  obtain ⟨h4, h5⟩ := h0.far hc (fun k hk => by subst hk; exact ⟨hg', fun hf => hM (hp0.fM k hf).1, fun hf => hM (hp0.gM k hf).1⟩)
  exact ⟨⟨F0, G0, s0, t0, φ0, h4, h10, h20, h30, h90⟩, h5⟩

theorem prog_append (w : World) (M : Nat → Prop) (p r n : Nat) (x : PS) (nm : ByteArray) (A : Option Addr) (m c : Nat) (b : List UInt8) (hm : m = b.length) (h : Both w M p r n x) (hn : n ≤ 10000) (hnm : nm.size ≤ maxLen) (hR : Reads w w.heap.size 1 A m (bytesV b)) (hA : 0 < m → ∀ ad, A = some ad → ¬ M ad.block) (hmc : m ≤ c) (hbl : m ≤ 1000) :
    Calls Try.prog 10 #[.pointer (some ⟨p, 0, none⟩), .string nm, .slice A m c] w (ProgPost w M p r n x (fun x => x.append nm b)) := by
  subst hm
  obtain ⟨F, G, s, t, φ, hp, hrel, hpb, hpc, rfl⟩ := h
  obtain ⟨ho, hf⟩ := hrel.opsB hpb hn
  refine (append_any w F p s nm A c b hp.d hR (fun h0 ad e hF => hA h0 ad e (hp.fM _ hF).1) hmc (Nat.le_trans hnm (by simp [maxLen])) hnm hbl (by omega) (by omega)).mono ?_
  rintro e w' ⟨v, s', rfl, hd, hc, hs⟩
  obtain ⟨hcode, hal⟩ := append_sim hrel hpb hpc (by omega) hp.d.names.tidy nm b hbl v s' hs
  obtain ⟨h4, h5⟩ := hp.prog hd hc
  exact ⟨_, rfl, ⟨_, _, s', t, h4, hpb, hcode, hal, rfl⟩, h5⟩
theorem ref_append (w : World) (M : Nat → Prop) (p r n : Nat) (x : PS) (c : Int) (nm : ByteArray) (A : Option Addr) (m k : Nat) (b : List UInt8) (hm : m = b.length) (h : Half w M p r n x c (fun x => x.append nm b)) (hn : n ≤ 10000) (hnm : nm.size ≤ maxLen) (hR : Reads w w.heap.size 1 A m (bytesV b)) (hA : 0 < m → ∀ ad, A = some ad → ¬ M ad.block) (hmk : m ≤ k) (hbl : m ≤ 1000) :
    Calls Try.prog 21 #[.pointer (some ⟨r, 0, none⟩), .string nm, .slice A m k] w (RefPost w M p r n (x.append nm b).2 c) := by
  subst hm
  obtain ⟨F, G, s, t, hp, h1, h2, h3, rfl⟩ := h
  exact (rappend_any w G r t n nm A k b hp.r h1 (by omega) (Nat.le_trans hnm (by simp [maxLen])) hR (fun h0 ad e hF => hA h0 ad e (hp.gM _ hF).1) hmk hbl).mono fun e w' hr => ref_end (f := fun x => x.append nm b) hp h2 h3 hr
theorem intact_n (w : World) (A : Option Addr) (cap g c lim B m : Nat) (bs : List UInt8) (hm : m = bs.length) (h : Reads w lim 1 A m (bytesV bs)) (hL : w.ownsRow B 5 1 (.slice (some ⟨g, 0, none⟩) (m + 4) c) (m + 4) (bytesV (bs ++ markV))) (hl : m ≤ 100000) :
    Calls Try.prog 48 #[.slice (some ⟨g, 0, none⟩) m c, .slice A m cap] w fun e w' => e = .returned (.bool true) ∧ w.grownBy w' (some g) := by
  subst hm
  exact intact_any w A cap g c lim B bs h hL hl
theorem Reads.chg {w w' : World} {M : Nat → Prop} {n : Nat} {A : Option Addr} {xs : List Value} (h : Reads w w.heap.size 1 A n xs) (hc : Chg M w w') (hA : 0 < n → ∀ ad, A = some ad → ¬ M ad.block) : Reads w' w'.heap.size 1 A n xs := ⟨h.1, fun h0 => by
  obtain ⟨ad, e, hlt, hcell⟩ := h.2 h0
  refine ⟨ad, e, by have := hc.size; omega, fun j u hu => (World.cell?_of_block (a := ad.add j) ?_).trans (hcell j u hu)⟩
  rw [block_of_add]
  exact hc.block _ hlt (hA h0 ad e)⟩

theorem Chg.of_drew {F : Nat → Prop} {w w' : World} (h : Chg F w.drew w') : Chg F w w' := ⟨h.os, h.tape, h.output, h.size, h.block⟩

set_option maxRecDepth 100000 in
set_option maxHeartbeats 12800000 in
theorem op_append (w : World) (M : Nat → Prop) (pb p r n : Nat) (x : PS) (a b : Int) (nm t2 : ByteArray) (A : Option Addr) (nb cb : Nat) (bs : List UInt8) (vc : Value) (h : Both w M p r n x) (hpa : PairAt w M pb p r) (hn : n ≤ 10000) (hnm : nm.size ≤ maxLen)
    (hR : Reads w w.heap.size 1 A nb (bytesV bs)) (hout : 0 < nb → ∀ ad, A = some ad → ¬ M ad.block) (hcb : nb ≤ cb) (hnb : nb ≤ maxLen) :
    Calls Try.prog 24 #[.pointer (some ⟨pb, 0, none⟩), .agg #[.int .i64 1, .int .i64 a, .int .i64 b, .string nm, .string t2, .slice A nb cb, vc]] w (OpPost w M p r n (x.append nm (bs.take 200)).2) := by
  obtain ⟨w1, hw1⟩ : ∃ w1, w.alloc (.cells #[.int .i64 1, .int .i64 a, .int .i64 b, .string nm, .string t2, .slice A nb cb, vc] 47) = w1 := ⟨_, rfl⟩
  have hob : Blk w1 w.heap.size 47 #[.int .i64 1, .int .i64 a, .int .i64 b, .string nm, .string t2, .slice A nb cb, vc] := by rw [← hw1]; exact Blk.new w 47 _
  have hc1 : Chg M w w1 := by rw [← hw1]; exact (Chg.refl M w).alloc _
  have hb1 : Both w1 (fun k => M k ∧ k ≠ w.heap.size) p r n x := by rw [← hw1]; exact h.box _
  have hp1 := hpa.chg hc1
  have hpl := hp1.blk.lt
  have hpw := hpa.blk.lt
  have hs1 : w.heap.size < w1.heap.size := hob.lt
  have a0 : w1.cell? ⟨pb, 0, none⟩ = some (.pointer (some ⟨p, 0, none⟩)) := hp1.blk.cell 0
  have a1 : w1.cell? ⟨pb, 1, none⟩ = some (.pointer (some ⟨r, 0, none⟩)) := hp1.blk.cell 1
  have ad : w1.cell? ⟨w.heap.size, 0, none⟩ = some (.int .i64 1) := hob.cell 0
  have a3 : w1.cell? ⟨w.heap.size, 3, none⟩ = some (.string nm) := hob.cell 3
  have a5 : w1.cell? ⟨w.heap.size, 5, none⟩ = some (.slice A nb cb) := hob.cell 5
  have hR1 := hR.chg hc1 hout
  have hlen : bs.length = nb := by have := hR.1; rw [bytesV_length] at this; omega
  have HB := Lib.hid hb1
  have HC1 := Lib.hid hc1
  have HOB := Lib.hid hob
  have HP1 := Lib.hid hp1
  have HPO := Lib.hid hpa.out
  have HOUT := Lib.hid hout
  have HNEW := Lib.hid (show ∀ k, w.heap.size ≤ k → M k by obtain ⟨F, G, s, t, φ, hp, -⟩ := h; exact hp.new)
  unfold maxLen at hnb
  clear h hpa hob hc1 hb1 hp1 hR hout
  by_cases hbig : 200 < nb
  case' pos =>
    have hR2 := hR1.take (k := 200) (by omega)
    rw [show (bytesV bs).take (200 * 1) = bytesV (bs.take 200) by simp [bytesV, List.map_take]] at hR2
    have hm2 : 200 = (bs.take 200).length := by rw [List.length_take]; omega
    have hcc : (200 : Int) ≤ (cb : Int) := by omega
    obtain ⟨bb, hbb⟩ : ∃ bb, bb = bs.take 200 := ⟨_, rfl⟩
  case' neg =>
    have hR2 := hR1
    have hm2 : nb = bs.length := hlen.symm
    obtain ⟨bb, hbb⟩ : ∃ bb, bb = bs := ⟨_, rfl⟩
    rw [show bs.take 200 = bs from List.take_of_length_le (by omega)]
  all_goals
    rw [← hbb] at hR2 hm2
    have HR2 := Lib.hid hR2
    have HM2 := Lib.hid hm2
    have HBB := Lib.hid hbb
    clear hR1 hR2 hm2 hlen hbb
    go_enter Try.func24, Try.ntmps24
    go_upto_region 8 with fail
    clear hw1
    go_wp2_with fail
    refine (lend_any w1 A _ cb bb HR2.out (by omega)).mono ?_
    rintro e w2 ⟨g, cap, rfl, hown, hb2⟩
    obtain ⟨M2, hM2⟩ : ∃ M2 : Nat → Prop, M2 = fun k => (M k ∧ k ≠ w.heap.size) ∧ ¬ (w1.heap.size ≤ k ∧ k < w2.heap.size) := ⟨_, rfl⟩
    have hgl := hown.lt g rfl
    have hsub : ∀ k, M2 k → M k := fun k hk => by rw [hM2] at hk; exact hk.1.1
    have hno1 : ¬ M2 w.heap.size := fun hk => by rw [hM2] at hk; exact hk.1.2 rfl
    have hno2 : ¬ M2 pb := fun hk => HPO.out (hsub pb hk)
    have hno3 : ¬ M2 g := fun hk => by rw [hM2] at hk; exact hk.2 ⟨hgl.1, hgl.2⟩
    have hB2 : Both w2 M2 p r n x := by rw [hM2]; exact HB.out.fence hb2
    have hrl := (Reads.of_own hown).take (k := bb.length) (by rw [← HM2.out]; omega)
    rw [show (bytesV (bb ++ markV)).take (bb.length * 1) = bytesV bb by simp [bytesV], ← HM2.out] at hrl
    have hcap := own_capv hown
    have hs2 := hb2.size
    have hob2 := HOB.out.below hb2 hs1
    have hpb2 := HP1.out.blk.below hb2 hpl
    have c0 : w2.cell? ⟨pb, 0, none⟩ = some (.pointer (some ⟨p, 0, none⟩)) := hpb2.cell 0
    have c3 : w2.cell? ⟨w.heap.size, 3, none⟩ = some (.string nm) := hob2.cell 3
    have hrb2 := (HR2.out.below hb2).more hs2
    have HOB2 := Lib.hid hob2
    have HPB2 := Lib.hid hpb2
    have HB2 := Lib.hid hB2
    have HRL := Lib.hid hrl
    have HRB2 := Lib.hid hrb2
    have HOWN := Lib.hid hown
    have HSUB := Lib.hid hsub
    have HNO1 := Lib.hid hno1
    have HNO2 := Lib.hid hno2
    have HNO3 := Lib.hid hno3
    have HC2 := Lib.hid (((Chg.refl M w).trans HC1.out (fun x hx => .inl hx)).below hb2 (by omega))
    have HO2 := Lib.hid (show ∀ h0 : 0 < nb, ∀ ad, A = some ad → ¬ M2 ad.block from fun h0 ad e hk => HOUT.out h0 ad e (hsub _ hk))
    have hg2 : g < w2.heap.size := hgl.2
    clear hM2 hgl hsub hno1 hno2 hno3 hB2 hrl hob2 hpb2 hrb2 hown hb2
    go_upto_region 9 with fail
    go_region_held3 (fun w' => w'.cell? ⟨pb, 0, none⟩ = some (.pointer (some ⟨p, 0, none⟩)) ∧ w'.cell? ⟨w.heap.size, 3, none⟩ = some (.string nm))
      (first | exact ⟨c0, c3⟩ | exact ⟨d0, d3⟩)
      ((go_at_call 10; refine (prog_append w2.drew M2 p r n x nm (some ⟨g, 0, none⟩) _ cap bb HM2.out (HB2.out.drewN 1) hn hnm HRL.out (fun _ ad e => by injection e with e; rw [← e]; exact HNO3.out) (by omega) (by omega)).mono ?_; rintro e w3 ⟨k, rfl, hH, hC3⟩; have hob3 : Blk w3 w.heap.size 47 _ := (hC3.block _ HOB2.out.lt HNO1.out).trans HOB2.out; have hpb3 : Blk w3 pb 45 _ := (hC3.block _ HPB2.out.lt HNO2.out).trans HPB2.out; have d0 : w3.cell? ⟨pb, 0, none⟩ = some (.pointer (some ⟨p, 0, none⟩)) := hpb3.cell 0; have d1 : w3.cell? ⟨pb, 1, none⟩ = some (.pointer (some ⟨r, 0, none⟩)) := hpb3.cell 1; have d3 : w3.cell? ⟨w.heap.size, 3, none⟩ = some (.string nm) := hob3.cell 3; have HOB3 := Lib.hid hob3; have HPB3 := Lib.hid hpb3; have HH := Lib.hid hH; have HC3 := Lib.hid (Chg.of_drew hC3); clear hH hC3 hob3 hpb3))
    all_goals
      have hrb3 := HRB2.out.chg HC3.out (fun h0 ad e => HO2.out (by omega) ad e)
      have HRB3 := Lib.hid hrb3
      have HOWN3 := Lib.hid (own_keep (w' := w3) HOWN.out (fun x hx _ => HC3.out.block x (by cases hx; exact hg2) (by cases hx; exact HNO3.out)))
      have hs3 := HC3.out.size
      have hg3 : g < w3.heap.size := Nat.lt_of_lt_of_le hg2 hs3
      clear hrb3
      go_upto_region 10 with fail
      go_region_held3 (fun w' => w'.cell? ⟨pb, 1, none⟩ = some (.pointer (some ⟨r, 0, none⟩)) ∧ w'.cell? ⟨w.heap.size, 3, none⟩ = some (.string nm))
        (first | exact ⟨d1, d3⟩ | exact ⟨f1, f3⟩)
        ((go_at_call 21; refine (ref_append w3.drew M2 p r n x k nm A _ cb bb HM2.out (HH.out.drewN 1) hn hnm HRB3.out (fun h0 ad e => HO2.out (by omega) ad e) (by omega) (by omega)).mono ?_; rintro e w4 ⟨rfl, hB4, hC4⟩; have hob4 : Blk w4 w.heap.size 47 _ := (hC4.block _ HOB3.out.lt HNO1.out).trans HOB3.out; have hpb4 : Blk w4 pb 45 _ := (hC4.block _ HPB3.out.lt HNO2.out).trans HPB3.out; have f1 : w4.cell? ⟨pb, 1, none⟩ = some (.pointer (some ⟨r, 0, none⟩)) := hpb4.cell 1; have f3 : w4.cell? ⟨w.heap.size, 3, none⟩ = some (.string nm) := hob4.cell 3; have HB4 := Lib.hid hB4; have HC4 := Lib.hid (Chg.of_drew hC4); clear hB4 hC4 hob4 hpb4))
      all_goals
        have HRB4 := Lib.hid (HRB3.out.chg HC4.out (fun h0 ad e => HO2.out (by omega) ad e))
        have HOWN4 := Lib.hid (own_keep (w' := w4) HOWN3.out (fun x hx _ => HC4.out.block x (by cases hx; exact hg3) (by cases hx; exact HNO3.out)))
        have hs4 := HC4.out.size
        have hq : (k == k) = true := beq_self_eq_true k
        go_wp2_with fail
        refine (intact_n w4 A cb g cap _ _ _ bb HM2.out HRB4.out HOWN4.out (by omega)).mono ?_
        rintro e w5 ⟨rfl, hg5⟩
        have HG5 := Lib.hid hg5
        clear hg5
        go_wp2
        refine bodyPost_ret (results_tmp rfl _ _ _) rfl ?_
        obtain ⟨h6, h7⟩ := HB4.out.spare HG5.out HNO3.out HSUB.out (HNEW.out g (by have := (HOWN.out.lt g rfl).1; omega))
        rw [HBB.out] at h6
        exact ⟨rfl, h6, ((HC2.out.trans (HC3.out.more HSUB.out) (fun x hx => .inl hx)).trans (HC4.out.more HSUB.out) (fun x hx => .inl hx)).trans h7 (fun x hx => .inl hx)⟩
end Go.Proofs.Ytfeglchngekedaa
