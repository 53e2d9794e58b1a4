/- What WalResumes asks of the statements' world: things that happen, a crash with the world's own fields laid anew, the faults that wait, appends that none hinders. -/
import Derived.Test.YtfchnpdgnhoffaaGreatDoorWTorn
namespace Go.Proofs.YtfchnpdgnhoffaaGreatDoor
open Go.RowKit Go.Shelf Go.Maps

section
variable {w wr wx w' : World} {wp k : Nat} {T T' : LS → Prop}
theorem cur_does (h : Cur w wp k T wr) (hk : k ≤ 89) (o : OpL) (vr vrs vcu : Value) (ho : OpVal wr (fun y => y < w.heap.size) o vr vrs vcu) :
    Calls Tryz.prog 19 #[.pointer (some ⟨wp, 0, none⟩), .agg #[.int .i64 o.do_, .int .i64 o.n, .int .i64 o.k, vr, vrs, vcu]] wr fun e w' => e = .returned (.bool true) ∧ Cur w wp (k + 1) (fun _ => True) w' := by
  obtain ⟨s, F, h1, h2, h3, h4, h5⟩ := h
  refine (does_any wr F _ wp k s o vr vrs vcu h1 hk h2 ho (fun y hy hf => by have := h5 y hf; have hy : y < w.heap.size := hy; omega)).mono ?_
  rintro e w' ⟨rfl, s', hp, ho, ht⟩
  exact ⟨rfl, Cur.post hp h4 h5 ho (Nat.le_refl _) ht⟩
/-- an append of a row that is new -/
theorem cur_fresh (h : Cur w wp k T wr) (hk : k ≤ 89) (hb : Below wr.heap.size wr wx) (vr : Value) (b : Rec) (hr : ByR wx (fun y => wr.heap.size ≤ y) vr b) (hl : b.length ≤ maxLen) (hT : ∀ s s', T s → CallT s s' (s.c ++ [clipL b]) → T' s') :
    Calls Tryz.prog 19 #[.pointer (some ⟨wp, 0, none⟩), .agg #[.int .i64 0, .int .i64 0, .int .i64 0, vr, .slice none 0 0, .slice none 0 0]] wx fun e w' => e = .returned (.bool true) ∧ Cur w wp (k + 1) T' w' := by
  obtain ⟨s, F, h1, h2, h3, h4, h5⟩ := h
  have hlt : ∀ y, F y → y < wr.heap.size := by obtain ⟨G, lp, p, Fl, vc, vm, vs, g⟩ := h1; exact g.lt
  refine (does_app wx F _ wp k s (opA b) vr _ _ (h1.below hb) hk h2 (opA_val hr hl) (fun y hy hf => by have := hlt y hf; have hy : wr.heap.size ≤ y := hy; omega) (.inl rfl)).mono ?_
  rintro e w' ⟨rfl, s', hp, ho, ht⟩
  exact ⟨rfl, Cur.post hp (h4.trans (hb.mono h4.size)) h5 ho (Nat.le_refl _) (hT s s' h3 ht)⟩
theorem Cur.stop (h : Cur w wp k T wr) : ∃ st : Int, wr.cell? ⟨wp, 5, none⟩ = some (.int .i64 st) ∧ -1 ≤ st ∧ Cur w wp k (fun s => T s ∧ s.stop = st) wr := by
  obtain ⟨s, F, ⟨G, lp, p, Fl, vc, vm, vs, h1⟩, h2, h3, h4, h5⟩ := h
  exact ⟨s.stop, h1.blk.cell 5, h2.tB.1, s, F, ⟨G, lp, p, Fl, vc, vm, vs, h1⟩, h2, ⟨h3, rfl⟩, h4, h5⟩
/-- the world's own fields laid anew behind a crash -/
theorem lost_reset (h : Lost w wp k T wr) (hT : ∀ t, T t → t.x.flts = [] ∧ t.x.stop = -1) (hk : k ≤ 88) :
    Calls Tryz.prog 17 #[.pointer (some ⟨wp, 0, none⟩), .bool true] wr fun e w' => e = .returned (.bool true) ∧
      ∃ (v4 : Value) (st : Int), w'.cell? ⟨wp, 4, none⟩ = some v4 ∧ (∃ A m d, v4 = .slice A m d) ∧ w'.frozen? ⟨wp, 4, none⟩ = false ∧ (w'.setCell ⟨wp, 4, none⟩ (.slice none 0 0)).cell? ⟨wp, 5, none⟩ = some (.int .i64 st) ∧
        (w'.setCell ⟨wp, 4, none⟩ (.slice none 0 0)).frozen? ⟨wp, 5, none⟩ = false ∧ Cur w wp (k + 1) (fun s => s.stop = -1 ∧ s.struck = []) ((w'.setCell ⟨wp, 4, none⟩ (.slice none 0 0)).setCell ⟨wp, 5, none⟩ (.int .i64 (-1))) := by
  obtain ⟨a, s, t, F, G, lp, p, Fl, vc, vm, vs, h1, h2, h3, h4, h5, h6, h7, h8⟩ := h
  obtain ⟨hx1, hx2⟩ := hT _ h6
  refine (opened_any wr F G wp (107 * k + 1) (k + 1) a s t lp p Fl vc vm vs h1 (by omega) h3 (by omega) h4 true (h2.cS.mono (by omega)) (fun l hl => (h2.mS l hl).mono (by omega)) (by have := h2.mL; omega) (h5.imp id fun h => ⟨rfl, h⟩)).mono ?_
  rintro e w' ⟨rfl, F2, g1, ⟨G2, lp2, p2, Fl2, vc2, vm2, vs2, g2⟩, g3⟩
  have hs := h7.size
  obtain ⟨A2, d2, hv2⟩ := own_slice g2.struck
  have hok : ({ t with struck := [], stop := -1 } : LS).Ok (k + 1) := ⟨h3.inv, ⟨(fun f hf => by have hf : f ∈ t.x.flts := hf; rw [show t.x.flts = [] from hx1] at hf; cases hf), .inl ⟨hx2, rfl⟩⟩, h3.nd, h3.last, h3.cS, h3.mS, h3.mL, Nat.zero_le _, (fun t ht => by cases ht), ⟨Int.le_refl _, by show (-1 : Int) ≤ (t.x.count : Int) + 11; omega⟩⟩
  have g4 : WSt w' F2 G2 wp (107 * k + 1) ({ t with struck := [], stop := -1 } : LS) ({ t with struck := s.struck, stop := s.stop } : LS) lp2 p2 Fl2 vc2 vm2 vs2 :=
    { log := g2.log, blk := g2.blk, cont := g2.cont, may := g2.may, struck := g2.struck, own := g2.own, far := g2.far, sub := g2.sub, mayF := g2.mayF, strF := g2.strF, disj := g2.disj, lt := g2.lt, syn := g2.syn, no0 := g2.no0 }
  have hch : Chg (fun k => k = wp ∨ vs2.ownBlock = some k) w' ((w'.setCell ⟨wp, 4, none⟩ (.slice none 0 0)).setCell ⟨wp, 5, none⟩ (.int .i64 (-1))) :=
    ((Chg.refl (fun k => k = wp ∨ vs2.ownBlock = some k) w').setCell (p := ⟨wp, 4, none⟩) (.inl (.inl rfl)) _).setCell (p := ⟨wp, 5, none⟩) (.inl (.inl rfl)) _
  have g5 := g4.restruck (vs' := .slice none 0 0) ((g2.blk.set_ 4 _).set_ 5 _) rfl rfl (World.ownsRow_nil _ _ _ _) (.inl rfl) hch
  have hF2 : ∀ y, F2 y → w.heap.size ≤ y := fun y hy => (g1 y hy).elim (h8 y) fun h => by omega
  have hb' : Below w.heap.size w w' := h7.trans (g3.toBelow h8 hs)
  have hbf := (hb'.setCell (p := ⟨wp, 4, none⟩) (hF2 wp g2.own) (.slice none 0 0)).setCell (p := ⟨wp, 5, none⟩) (hF2 wp g2.own) (.int .i64 (-1))
  have hsz : ((w'.setCell ⟨wp, 4, none⟩ (.slice none 0 0)).setCell ⟨wp, 5, none⟩ (.int .i64 (-1))).heap.size = w'.heap.size := by simp [World.setCell]
  refine ⟨rfl, vs2, s.stop, g2.blk.cell 4, ⟨A2, _, d2, hv2⟩, g2.blk.frozen 4, (g2.blk.set_ 4 _).cell 5, (g2.blk.set_ 4 _).frozen 5, _, _, ⟨_, _, _, _, _, _, _, g5.mono (by omega)⟩, hok, ⟨rfl, rfl⟩, hbf, fun y hy => hy.elim (hF2 y) fun hy => by rw [hsz] at hy; omega⟩
end
/-! ### the faults that wait -/
/-- j rounds behind c0: none that waits lies farther than c0 + 11 -/
def Waits (c0 j : Nat) (s : LS) : Prop := s.stop = -1 ∧ c0 + j ≤ s.x.count ∧ ∀ t ∈ s.struck, t ≤ (c0 : Int) + 11
theorem waits_call {c0 j : Nat} {s s' : LS} {l : List Rec} (h : Waits c0 j s) (hc : CallT s s' l) : Waits c0 (j + 1) s' := ⟨hc.stop.trans h.1, by have := hc.count; have := h.2.1; omega, fun t ht => h.2.2 t (hc.struck ▸ ht)⟩
theorem waits_few {c0 j : Nat} {s : LS} (h : Waits c0 j s) (hl : (s.x.count : Int) ≤ maxI s.struck) : j ≤ 11 := by
  have h1 := maxI_lt (l := s.struck) (b := (c0 : Int) + 11) (by omega) h.2.2
  have := h.2.1
  omega
theorem Cur.waited {w wr : World} {wp k : Nat} (h : Cur w wp k (fun s => s.stop = -1) wr) : ∃ c0, Cur w wp k (Waits c0 0) wr := by
  obtain ⟨s, F, h1, h2, h3, h4, h5⟩ := h
  exact ⟨s.x.count, s, F, h1, h2, ⟨h3, Nat.le_refl _, fun t ht => (h2.sB t ht).2⟩, h4, h5⟩
theorem by_one (w : World) (z : Int) (hz : 0 ≤ z ∧ z < 256) : ByR (w.alloc (.cells #[.int .u8 z] 5)) (fun y => w.heap.size ≤ y) (.slice (some ⟨w.heap.size, 0, none⟩) 1 1) [UInt8.ofNat z.toNat] := by
  refine ⟨_, 1, rfl, Nat.le_refl _, ?_, fun ad e _ => by injection e with e; rw [← e]; exact Nat.le_refl _⟩
  have e : bytesV [UInt8.ofNat z.toNat] = [.int .u8 z] := by
    unfold bytesV
    simp only [List.map_cons, List.map_nil, UInt8.toNat_ofNat']
    congr 2
    omega
  rw [e, World.size_alloc]
  exact reads_new1 w 5 _
theorem reads_123 (w : World) : Reads (w.alloc (.cells #[.int .i64 1, .int .i64 2, .int .i64 3] 3)) (w.heap.size + 1) 1 (some ⟨w.heap.size, 0, none⟩) 3 (intsV [1, 2, 3]) := by
  have hb := Blk.new w 3 #[.int .i64 1, .int .i64 2, .int .i64 3]
  refine ⟨rfl, fun _ => ⟨_, rfl, Nat.lt_succ_self _, fun j u hu => ?_⟩⟩
  have e : (⟨w.heap.size, 0, none⟩ : Addr).add j = ⟨w.heap.size, j, none⟩ := by unfold Addr.add; split <;> simp_all
  rw [e, hb.cell j]
  match j with
  | 0 => exact hu
  | 1 => exact hu
  | 2 => exact hu
  | j + 3 => cases hu
/-- none waits -/
def Past (s : LS) : Prop := s.stop = -1 ∧ ∀ t ∈ s.struck, t < (s.x.count : Int)
theorem past_of {c0 j : Nat} {s : LS} (h : Waits c0 j s) (hl : ¬ (s.x.count : Int) ≤ maxI s.struck) : Past s := ⟨h.1, fun t ht => by have := maxI_ge ht; omega⟩
/-! ### appends that none hinders -/
/-- the log, as a plain world of its own; the statements' world's fields as they are -/
def Fed (w : World) (wp k m : Nat) (wr : World) : Prop :=
  ∃ (a s : LS) (F G : Nat → Prop) (lp p : Nat) (Fl : Nat → Prop) (vc vm vs : Value), WSt wr F G wp (107 * k) a s lp p Fl vc vm vs ∧ a.Ok k ∧ Past a ∧ a.c.length = m ∧ Below w.heap.size w wr ∧ ∀ y, F y → w.heap.size ≤ y
section
variable {w wr wx w' : World} {wp k m : Nat}
theorem Fed.world (h : Fed w wp k m wr) : Below w.heap.size w wr := by
  obtain ⟨a, s, F, G, lp, p, Fl, vc, vm, vs, h1, h2, h3, h4, h5, h6⟩ := h
  exact h5
theorem Fed.drewN (h : Fed w wp k m wr) (q : Nat) : Fed w wp k m (wr.drewN q) := by
  obtain ⟨a, s, F, G, lp, p, Fl, vc, vm, vs, h1, h2, h3, h4, h5, h6⟩ := h
  exact ⟨a, s, F, G, lp, p, Fl, vc, vm, vs, h1.drewN q, h2, h3, h4, below_drewN h5 q, h6⟩
theorem Fed.mono (h : Fed w wp k m wr) {j : Nat} (hj : k ≤ j) : Fed w wp j m wr := by
  obtain ⟨a, s, F, G, lp, p, Fl, vc, vm, vs, h1, h2, h3, h4, h5, h6⟩ := h
  exact ⟨a, s, F, G, lp, p, Fl, vc, vm, vs, h1.mono (by omega), h2.mono hj, h3, h4, h5, h6⟩
theorem fed_count (h : Fed w wp k m wr) : ∃ lp : Nat, wr.cell? ⟨wp, 1, none⟩ = some (.pointer (some ⟨lp, 0, none⟩)) ∧ ∀ z, Calls Tryz.prog 23 #[.pointer (some ⟨lp, 0, none⟩)] (wr.drewN z) fun e w' => e = .returned (.int .i64 (m : Int)) ∧ w' = wr.drewN z := by
  obtain ⟨a, s, F, G, lp, p, Fl, vc, vm, vs, h1, h2, h3, h4, h5, h6⟩ := h
  exact ⟨lp, h1.blk.cell 1, fun z => by rw [← h4]; exact count_any (h1.drewN z).log⟩
theorem fed_append (h : Fed w wp k m wr) (hk : k ≤ 89) (vr : Value) (b : Rec) (hr : ByR w (fun y => y < w.heap.size) vr b) (hb : b.length ≤ 200) :
    ∃ lp : Nat, wr.cell? ⟨wp, 1, none⟩ = some (.pointer (some ⟨lp, 0, none⟩)) ∧
      ∀ z, Calls Tryz.prog 14 #[.pointer (some ⟨lp, 0, none⟩), vr] (wr.drewN z) fun e w' => e = .returned (.int .i64 0) ∧ w'.cell? ⟨wp, 1, none⟩ = some (.pointer (some ⟨lp, 0, none⟩)) ∧ Fed w wp (k + 1) (m + 1) w' := by
  obtain ⟨s, s0, F, G, lp, p, Fl, vc, vm, vs, hst, hs, hp, hm, h4, h5⟩ := h
  refine ⟨lp, hst.blk.cell 1, fun z => ?_⟩
  have hx := hst.drewN z
  have hcnt : s.x.count ≤ 107 * k := (hx.log.dk.pb).count
  have hel := entL_len ⟨false, [b]⟩ (s.last + 1) 200 (fun y hy => by rw [List.mem_singleton.1 hy]; exact hb)
  simp only [List.length_singleton] at hel
  obtain ⟨s', haf, hok, hct, hbad⟩ := LS.call hs (by omega) ⟨false, [b]⟩ (.inr rfl) ⟨by simp, fun y hy => by rw [List.mem_singleton.1 hy]; omega⟩ (by omega) (by omega)
  obtain ⟨a1, a2, a3, a4⟩ := after_log haf
  rw [next_one] at a2 hct
  have hlast := hs.last
  have hq0 : (commitP s.x (entL ⟨false, [b]⟩ (s.last + 1)) (s.last + 1)).1 = 0 := by
    by_cases h0 : (commitP s.x (entL ⟨false, [b]⟩ (s.last + 1)) (s.last + 1)).1 = 0
    · exact h0
    · exfalso
      rcases (hbad h0).2 with ⟨t, ht, h1, h2⟩ | ⟨h1, -⟩
      · have := hp.2 t ht; omega
      · have := hp.1; omega
  have hc' : s'.c = s.c ++ [b] := by rw [a2, if_pos hq0]
  refine (log_append b vr (fun y => y < w.heap.size) (wr.drewN z) Fl lp p _ s.x s.c s.last s.fl hx.log (fun y hy => hx.lt y (hx.sub y hy)) (by omega) (by omega) (hs.cS.sm (by omega)) ((hr.below h4).drewN z) (fun y hy hf => by have := h5 y (hst.sub y hf); have hy : y < w.heap.size := hy; omega) (by omega) (by omega)).mono ?_
  rintro e w' ⟨rfl, hlog, hch⟩
  rw [← a1, ← a2, ← a3, ← a4] at hlog
  have h3 := hx.logged (b := s') hch hlog
  rw [hq0]
  have hc2 := hch.weak (G := F) fun y hy => hst.sub y hy
  have hbz := below_drewN h4 z
  have hs4 := h4.size
  refine ⟨rfl, h3.blk.cell 1, s', s0, _, _, lp, p, _, vc, vm, vs, h3.mono (by omega), hok, ⟨hct.stop.trans hp.1, fun t ht => ?_⟩, by rw [hc', List.length_append, hm]; rfl, hbz.trans (hc2.toBelow h5 hs4), fun y hy => hy.elim (h5 y) fun hy => by have h2 : wr.heap.size ≤ y := hy.1; omega⟩
  have h6 := hp.2 t (hct.struck ▸ ht)
  have := hct.count
  omega
end
theorem Cur.fed {w wr : World} {wp k : Nat} (h : Cur w wp k Past wr) : ∃ m, m ≤ k + 8 ∧ Fed w wp k m wr := by
  obtain ⟨s, F, ⟨G, lp, p, Fl, vc, vm, vs, h1⟩, h2, h3, h4, h5⟩ := h
  exact ⟨_, h2.cS.1, s, s, F, G, lp, p, Fl, vc, vm, vs, h1, h2, h3, rfl, h4, h5⟩
/-- what the test of the waiting faults reads -/
theorem Cur.waits {w wr : World} {wp k c0 j : Nat} (h : Cur w wp k (Waits c0 j) wr) (hk : k ≤ 89) : ∃ (p : Nat) (c : Nat) (l : Int) (A : Option Addr) (m d : Nat), wr.cell? ⟨wp, 0, none⟩ = some (.pointer (some ⟨p, 0, none⟩)) ∧ wr.cell? ⟨wp, 4, none⟩ = some (.slice A m d) ∧
    (∀ z, Calls Tryz.prog 11 #[.pointer (some ⟨p, 0, none⟩)] (wr.drewN z) fun e w' => e = .returned (.int .i64 (c : Int)) ∧ w' = wr.drewN z) ∧ (∀ z, Calls Tryz.prog 22 #[.slice A m d] (wr.drewN z) fun e w' => e = .returned (.int .i64 l) ∧ w' = wr.drewN z) ∧
    ((c : Int) ≤ l → j ≤ 11) ∧ (¬ (c : Int) ≤ l → Cur w wp k Past wr) := by
  have h0 := h
  obtain ⟨s, F, ⟨G, lp, p, Fl, vc, vm, vs, h1⟩, h2, h3, h4, h5⟩ := h
  obtain ⟨A, d, hv⟩ := own_slice h1.struck
  subst hv
  refine ⟨p, s.x.count, maxI s.struck, A, _, d, h1.blk.cell 0, h1.blk.cell 4, fun z => dk_ops (wr.drewN z) Fl p _ s.x (h1.drewN z).log.dk, fun z => last_any (wr.drewN z) A d _ s.struck (Reads.of_own (h1.drewN z).struck) (by have := h2.sL; have := h1.blk.lt; omega), waits_few h3, fun hl => ⟨s, F, ⟨G, lp, p, Fl, vc, vm, _, h1⟩, h2, past_of h3 hl, h4, h5⟩⟩
end Go.Proofs.YtfchnpdgnhoffaaGreatDoor
