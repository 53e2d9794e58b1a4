/- The statements' world on its way: what each call leaves, in short. -/
import Derived.Test.YtfchnpdgnhoffaaGreatDoorJ18WAll
namespace Go.Proofs.YtfchnpdgnhoffaaGreatDoor
open Go.RowKit Go.Shelf Go.Maps

/-- behind k things at most; T is known of the plain world -/
def Cur (w : World) (wp k : Nat) (T : LS → Prop) (wr : World) : Prop := ∃ (s : LS) (F : Nat → Prop), WAt wr F wp (107 * k) s ∧ s.Ok k ∧ T s ∧ Below w.heap.size w wr ∧ ∀ y, F y → w.heap.size ≤ y
section
variable {w wr w' : World} {wp k : Nat} {T T' : LS → Prop}
theorem Cur.below (h : Cur w wp k T wr) (hb : Below wr.heap.size wr w') : Cur w wp k T w' := by
  obtain ⟨s, F, h1, h2, h3, h4, h5⟩ := h
  exact ⟨s, F, h1.below hb, h2, h3, h4.trans (hb.mono h4.size), h5⟩
theorem Cur.world (h : Cur w wp k T wr) : Below w.heap.size w wr := by obtain ⟨s, F, h1, h2, h3, h4, h5⟩ := h; exact h4
theorem Cur.mono (h : Cur w wp k T wr) {m : Nat} (hm : k ≤ m) : Cur w wp m T wr := by
  obtain ⟨s, F, h1, h2, h3, h4, h5⟩ := h
  exact ⟨s, F, h1.mono (by omega), h2.mono hm, h3, h4, h5⟩
theorem Cur.turn (h : Cur w wp k T wr) (hT : ∀ s, T s → T' s) : Cur w wp k T' wr := by
  obtain ⟨s, F, h1, h2, h3, h4, h5⟩ := h
  exact ⟨s, F, h1, h2, hT s h3, h4, h5⟩
theorem Cur.post {s : LS} {F : Nat → Prop} {m : Nat} {n : Nat} (hp : WPost wr F wp n s w') (hb : Below w.heap.size w wr) (hF : ∀ y, F y → w.heap.size ≤ y) (ho : s.Ok m) (hn : n ≤ 107 * m) (hT : T s) : Cur w wp m T w' := by
  obtain ⟨F2, h1, h2, h3⟩ := hp
  have hs := hb.size
  exact ⟨s, F2, h2.mono hn, ho, hT, hb.trans (h3.toBelow hF hs), fun y hy => (h1 y hy).elim (hF y) fun h => by omega⟩
/-- an append, as a thing that happens -/
def opA (b : Rec) : OpL := ⟨0, 0, 0, b, [], []⟩
def opC (l : List Rec) : OpL := ⟨2, 0, 0, [], l, []⟩
theorem i64_0 : I64 0 := ⟨by decide, by decide⟩
theorem i64_2 : I64 2 := ⟨by decide, by decide⟩
theorem reads_none0 (w : World) : Reads w w.heap.size 1 none 0 (intsV []) := ⟨rfl, fun h => absurd h (by decide)⟩
theorem opA_val {H : Nat → Prop} {vr : Value} {b : Rec} (h : ByR wr H vr b) (hb : b.length ≤ maxLen) : OpVal wr H (opA b) vr (.slice none 0 0) (.slice none 0 0) :=
  ⟨h, (RecsAt.nil wr H).read, ⟨none, 0, rfl, Nat.le_refl _, reads_none0 wr⟩, hb, Nat.zero_le _, (fun b hb => by cases hb), i64_0, i64_0⟩
theorem by_nil (w : World) (H : Nat → Prop) : ByR w H (.slice none 0 0) [] := ⟨none, 0, rfl, Nat.le_refl _, ⟨rfl, fun h => absurd h (by decide)⟩, fun ad e => by cases e⟩
theorem opC_val {H : Nat → Prop} {vl : Value} {l : List Rec} (h : RecsR wr H vl l) (hl : l.length ≤ maxLen) (hb : ∀ b ∈ l, b.length ≤ maxLen) : OpVal wr H (opC l) (.slice none 0 0) vl (.slice none 0 0) :=
  ⟨by_nil wr H, h, ⟨none, 0, rfl, Nat.le_refl _, reads_none0 wr⟩, Nat.zero_le _, hl, hb, i64_2, i64_0⟩
theorem cur_app (h : Cur w wp k T wr) (hk : k ≤ 89) (vr : Value) (b : Rec) (hr : ByR w (fun y => y < w.heap.size) vr b) (hb : b.length ≤ maxLen) (hT : ∀ s s', T s → CallT s s' (s.c ++ [clipL b]) → T' s') :
    Calls Tryz.prog 19 #[.pointer (some ⟨wp, 0, none⟩), .agg #[.int .i64 0, .int .i64 0, .int .i64 0, vr, .slice none 0 0, .slice none 0 0]] wr fun e w' => e = .returned (.bool true) ∧ Cur w wp (k + 1) T' w' := by
  obtain ⟨s, F, h1, h2, h3, h4, h5⟩ := h
  refine (does_app wr F _ wp k s (opA b) vr _ _ h1 hk h2 (opA_val (hr.below h4) hb) (fun y hy hf => by have := h5 y hf; have hy : y < w.heap.size := hy; omega) (.inl rfl)).mono ?_
  rintro e w' ⟨rfl, s', hp, ho, ht⟩
  exact ⟨rfl, Cur.post hp h4 h5 ho (Nat.le_refl _) (hT s s' h3 ht)⟩
theorem cur_check (h : Cur w wp k T wr) (hk : k ≤ 89) (vl : Value) (l : List Rec) (hr : RecsR w (fun y => y < w.heap.size) vl l) (hl : l.length ≤ maxLen) (hb : ∀ b ∈ l, b.length ≤ maxLen) (hT : ∀ s s', T s → CallT s s' (clips l) → T' s') :
    Calls Tryz.prog 19 #[.pointer (some ⟨wp, 0, none⟩), .agg #[.int .i64 2, .int .i64 0, .int .i64 0, .slice none 0 0, vl, .slice none 0 0]] wr fun e w' => e = .returned (.bool true) ∧ Cur w wp (k + 1) T' w' := by
  obtain ⟨s, F, h1, h2, h3, h4, h5⟩ := h
  refine (does_check wr F _ wp k s (opC l) _ vl _ h1 hk h2 (opC_val (hr.below h4) hl hb) rfl).mono ?_
  rintro e w' ⟨rfl, s', hp, ho, ht⟩
  exact ⟨rfl, Cur.post hp h4 h5 ho (Nat.le_refl _) (hT s s' h3 ht)⟩
theorem cur_same (h : Cur w wp k T wr) (hk : k ≤ 90) : Calls Tryz.prog 15 #[.pointer (some ⟨wp, 0, none⟩)] wr fun e w' => e = .returned (.bool true) ∧ Cur w wp k T w' := by
  have h0 := h
  obtain ⟨s, F, ⟨G, lp, p, Fl, vc, vm, vs, h1⟩, h2, h3, h4, h5⟩ := h
  refine (same_any wr F G wp _ s lp p Fl vc vm vs h1 (h2.cS.sm (by omega))).mono ?_
  rintro e w' ⟨rfl, hb⟩
  exact ⟨rfl, h0.below hb⟩
theorem cur_reopened (h : Cur w wp k T wr) (hk : k ≤ 89) (hT : ∀ s, T s → s.may = [] ∧ T' { s with fl := false }) :
    Calls Tryz.prog 17 #[.pointer (some ⟨wp, 0, none⟩), .bool false] wr fun e w' => e = .returned (.bool true) ∧ Cur w wp k T' w' := by
  obtain ⟨s, F, ⟨G, lp, p, Fl, vc, vm, vs, h1⟩, h2, h3, h4, h5⟩ := h
  refine (opened_any wr F G wp _ k s s { s with fl := false } lp p Fl vc vm vs h1 (by omega) h2.unfail (by omega) ⟨rfl, (hT s h3).1, rfl⟩ false (h2.cS.mono (by omega)) (fun l hl => (h2.mS l hl).mono (by omega)) (by have := h2.mL; omega) (.inl rfl)).mono ?_
  rintro e w' ⟨rfl, hp⟩
  exact ⟨rfl, Cur.post hp h4 h5 h2.unfail (Nat.le_refl _) (hT s h3).2⟩
/-- behind a crash, ahead of the opening -/
def Lost (w : World) (wp k : Nat) (T : LS → Prop) (wr : World) : Prop :=
  ∃ (a s t : LS) (F G : Nat → Prop) (lp p : Nat) (Fl : Nat → Prop) (vc vm vs : Value), WSt wr F G wp (107 * k + 1) a s lp p Fl vc vm vs ∧ s.Ok k ∧ t.Ok (k + 1) ∧ Opens a t ∧ (t.c = s.c ∨ t.c ∈ s.may) ∧ T { t with struck := s.struck, stop := s.stop } ∧ Below w.heap.size w wr ∧ ∀ y, F y → w.heap.size ≤ y
/-- what a crash leaves of the plain world, the statements' own fields as they were -/
structure Crash2 (s t : LS) : Prop where
  c : t.c = s.c ∨ t.c ∈ s.may
  may : t.may = []
  struck : t.struck = s.struck
  stop : t.stop = s.stop
  count : t.x.count = s.x.count
  flts : t.x.flts = []
  xstop : t.x.stop = -1
  fl : t.fl = false
theorem Cur.disk (h : Cur w wp k T wr) (hk : k ≤ 89) : ∃ p, wr.cell? ⟨wp, 0, none⟩ = some (.pointer (some ⟨p, 0, none⟩)) ∧
    ∀ (W : World) (A : Option Addr) (m c : Nat) (cs : List Int) (T' : LS → Prop), (∃ z, W = wr.drewN z) → m = cs.length → Reads wr wr.heap.size 1 A m (intsV cs) → m ≤ c → (∀ s t, T s → Crash2 s t → T' t) →
      Calls Tryz.prog 16 #[.pointer (some ⟨p, 0, none⟩), .slice A m c] W fun e w' => e = .returned (.tuple #[]) ∧ Lost w wp k T' w' := by
  obtain ⟨s, F, ⟨G, lp, p, Fl, vc, vm, vs, h1⟩, h2, h3, h4, h5⟩ := h
  refine ⟨p, h1.blk.cell 0, ?_⟩
  rintro W A m c cs T' ⟨z, rfl⟩ hm hR hmc hT
  obtain ⟨Fd, hdk, hfd, hgo⟩ := (h1.drewN z).disked (n' := 107 * k + 1) (b := { s with x := s.x.crash cs })
  refine (dk_crash (wr.drewN z) Fd p (107 * k) s.x A m c cs hm hdk (by omega) (hR.drewN z) hmc).mono ?_
  rintro e w2 ⟨rfl, hd2, hc2⟩
  have hnd : ND (s.x.crash cs).dir := hd2.rdir.1.names
  obtain ⟨t, tx, tok, tst, tsp, tmay, tfl, tc, tfree⟩ := LS.crash h2 (by omega) cs hnd
  have h2w := hgo w2 hd2 hc2 rfl rfl rfl
  have hs2 := hc2.size
  have hs4 := h4.size
  have hcF : Chg F (wr.drewN z) w2 := hc2.weak fun y hy => h1.sub y (hfd y hy)
  refine ⟨rfl, _, s, t, _, _, lp, p, _, vc, vm, vs, h2w, h2, tok, ⟨tx, tmay, tfl⟩, tc, hT s _ h3 ⟨tc, tmay, rfl, rfl, by show t.x.count = s.x.count; rw [tx]; rfl, tfree.1, tfree.2.1, tfl⟩, (below_drewN h4 z).trans (hcF.toBelow h5 hs4), fun y hy => hy.elim (h5 y) fun h => ?_⟩
  have : wr.heap.size ≤ y := h.1
  omega
theorem lost_opened (h : Lost w wp k T wr) (hk : k ≤ 88) : Calls Tryz.prog 17 #[.pointer (some ⟨wp, 0, none⟩), .bool true] wr fun e w' => e = .returned (.bool true) ∧
    ∃ (t : LS) (F : Nat → Prop), WAt w' F wp (107 * (k + 1)) t ∧ T t ∧ Sz (k + 1) t.c ∧ Below w.heap.size w w' ∧ ∀ y, F y → w.heap.size ≤ y := by
  obtain ⟨a, s, t, F, G, lp, p, Fl, vc, vm, vs, h1, h2, h3, h4, h5, h6, h7, h8⟩ := h
  refine (opened_any wr F G wp (107 * k + 1) (k + 1) a s t lp p Fl vc vm vs h1 (by omega) h3 (by omega) h4 true (h2.cS.mono (by omega)) (fun l hl => (h2.mS l hl).mono (by omega)) (by have := h2.mL; omega) (h5.imp id fun h => ⟨rfl, h⟩)).mono ?_
  rintro e w' ⟨rfl, F2, g1, g2, g3⟩
  have hs := h7.size
  exact ⟨rfl, _, F2, g2.mono (by omega), h6, h3.cS, h7.trans (g3.toBelow h8 hs), fun y hy => (g1 y hy).elim (h8 y) fun h => by omega⟩
theorem Lost.world (h : Lost w wp k T wr) : Below w.heap.size w wr := by obtain ⟨a, s, t, F, G, lp, p, Fl, vc, vm, vs, h1, h2, h3, h4, h5, h6, h7, h8⟩ := h; exact h7
/-- the statements' world, of which no more is asked than its content -/
def Told2 (w : World) (wp k : Nat) (T : LS → Prop) (wr : World) : Prop := ∃ (t : LS) (F : Nat → Prop), WAt wr F wp (107 * (k + 1)) t ∧ T t ∧ Sz (k + 1) t.c ∧ Below w.heap.size w wr ∧ ∀ y, F y → w.heap.size ≤ y
theorem told_same (h : Told2 w wp k T wr) (hk : k ≤ 89) : Calls Tryz.prog 15 #[.pointer (some ⟨wp, 0, none⟩)] wr fun e w' => e = .returned (.bool true) ∧ Below w.heap.size w w' := by
  obtain ⟨s, F, ⟨G, lp, p, Fl, vc, vm, vs, h1⟩, h3, h2, h4, h5⟩ := h
  refine (same_any wr F G wp _ s lp p Fl vc vm vs h1 (h2.sm (by omega))).mono ?_
  rintro e w' ⟨rfl, hb⟩
  exact ⟨rfl, h4.trans (hb.mono h4.size)⟩
end
end Go.Proofs.YtfchnpdgnhoffaaGreatDoor
