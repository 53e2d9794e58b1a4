/- Drop (25): the walk. -/
import Derived.Test.YtbeeejpjnniejaaGreatDoorHDrop
namespace Go.Proofs.YtbeeejpjnniejaaGreatDoor
open Go.RowKit Go.Shelf Go.Maps
attribute [-go_sem] Builtin.append_
attribute [local go_sem] Oper.semAt_some
def DropR (w : World) (F : Nat → Prop) (p : Nat) (s : HS) (t : Int) (v : Value) (wr : World) : Prop := ∃ (z : Int) (left : Lit → Bool) (cnt : Nat) (s1 : HS), v = .int .i64 z ∧ wr.ranges Tryz.prog 9 ptrElem s.m w.heap.size s.dir.length (dirD s.dir) left cnt ∧ DropI w F p s t w.heap.size left s1 wr
def strS (x : ByteArray) : Value := .string x
theorem invK9 (key : Value) (kl : Lit) (h : keyOf Tryz.prog 9 key = some kl) : ∃ x, key = strS x := by
  cases key <;> simp [keyOf, Tryz.underlying9, mapKey] at h
  exact ⟨_, rfl⟩
theorem invP (v : Value) (y : DataW Unit × List MemPlace) (h : ptrElem v = some y) : ∃ c, v = ptrV c := by
  unfold ptrElem at h
  split at h
  · exact ⟨none, rfl⟩
  · exact ⟨some _, rfl⟩
  · cases h
theorem keyS_inv {x : ByteArray} {kl : Lit} (h : keyOf Tryz.prog 9 (strS x) = some kl) : kl = .string x.data.toList := by
  unfold strS at h
  simp [keyOf, Tryz.underlying9, mapKey] at h
  exact h.2.symm
theorem ent_of {l : Dl} {k : Nm} {c : Option Nat} {y : DataW Unit × List MemPlace} (hv : ptrElem (ptrV c) = some y) (hat : ∀ zd, (dirD l).atKey (.string k) zd = y.1) : ∃ g, c = some g ∧ (k, g) ∈ l := by
  cases hd : dget l k with
  | none =>
    have h1 := hat (.lit (.int .i64 0))
    have h2 := hat (.lit (.int .i64 1))
    rw [dirD_at, hd] at h1 h2
    have h3 := h1.trans h2.symm
    simp at h3
  | some g =>
    have h1 := hat (.lit (.int .i64 0))
    rw [dirD_at, hd] at h1
    dsimp only at h1
    cases c with
    | none =>
      simp only [ptrV, ptrElem, Option.some.injEq] at hv
      rw [← hv] at h1
      injection h1 with h1; injection h1 with _ h1
      omega
    | some g' =>
      simp only [ptrV, ptrElem, Option.some.injEq] at hv
      rw [← hv] at h1
      injection h1 with h1; injection h1 with _ h1
      exact ⟨g', rfl, by have : g = g' := by omega
                         rw [← this]; exact dget_mem hd⟩
set_option maxRecDepth 100000 in
set_option maxHeartbeats 6400000 in
theorem drop_any (w : World) (F : Nat → Prop) (p n : Nat) (H : Hd) (t : Int) (hh : HdAt w F p n H) (hn : n ≤ 100000) (hF : ∀ k, F k → k < w.heap.size) :
    Calls Tryz.prog 25 #[.pointer (some ⟨p, 0, none⟩), .int .i64 t] w fun e w' => (∃ z, e = .returned (.int .i64 z)) ∧ HdAt w' (Grs F w w') p n (H.drop t) ∧ Chg F w w' := by
  obtain ⟨s, hs, htl, hok, hn1, hn2⟩ := hh
  obtain ⟨j0, hj, hy0, hy1, hy2⟩ := info_parts info148
  have HJ := Lib.hid hj
  have HY0 := Lib.hid hy0
  have HY1 := Lib.hid hy1
  have HY2 := Lib.hid hy2
  have c2 : w.cell? ⟨p, 2, none⟩ = some (.map (some s.m)) := hs.blk.cell 2
  have HS := Lib.hid hs
  have HTL := Lib.hid htl
  have HOK := Lib.hid hok
  have HN1 := Lib.hid hn1
  have HN2 := Lib.hid hn2
  have HF := Lib.hid hF
  clear hj hy0 hy1 hy2 hs htl hok hn1 hn2 hF
  go_enter Tryz.func25, Tryz.ntmps25
  go_wp2_with (at_range; refine wpList_range_own _ rfl _ 124 rfl 9 136 law9 Tryz.underlying124 ptrElem s.m s.dir.length (dirD s.dir) rfl HS.out.dir ?_; intro w0 hrg0 hg0 hs0)
  go_frame
  go_loopw [5] (fun v wr => DropR w F p s t v wr) (fun _ wr => wr.rangeLeft s.m w.heap.size)
  case atStart => exact ⟨0, _, _, s, rfl, hrg0, DropI.start HS.out HF.out hg0⟩
  case round =>
    obtain ⟨z, left, cnt, s1, rfl, hrg, hI⟩ := hrel
    have HRG := Lib.hid hrg
    have HI := Lib.hid hI
    clear hrg hI c2
    go_wp2_with (at_next; refine wpList_next_ranges _ rfl _ rfl 9 law9 ptrElem strS ptrV invK9 invP s.m w.heap.size s.dir.length (dirD s.dir) left cnt rfl HRG.out ?_ ?_)
    · intro _ hl0
      go_wp2
      go_ret
      exact ⟨⟨_, rfl⟩, HI.out.done hl0 HTL.out HOK.out HN1.out HN2.out, HI.out.chg⟩
    · intro x c kl y ps w1 cnt1 hkey hlk hv hat hrg1 hlt hg1 hs1 hen
      have hkl := keyS_inv hkey
      obtain ⟨nm, hnm⟩ : ∃ nm, nm = x.data.toList := ⟨_, rfl⟩
      rw [← hnm] at hkl
      subst hkl
      obtain ⟨g, rfl, hmem⟩ := ent_of (y := (y, ps)) hv hat
      have hI1 := HI.out.iter hg1 (Nat.le_refl _)
      have hsg := hI1.hd.ser (nm, g) (by rw [hI1.dirE]; exact hmem)
      dsimp only at hsg
      obtain ⟨row, hrow⟩ : ∃ r, r = s.row g := ⟨_, rfl⟩
      have hr1 : s1.row g = row := by rw [hI1.rows _ hmem, if_pos hlk, hrow]
      obtain ⟨rn, hrn⟩ : ∃ r, r = row.length := ⟨_, rfl⟩
      have how := hsg.row
      have hbg := hsg.blk
      rw [hr1, ← hrn] at how
      obtain ⟨Ar, cr, hvr⟩ := own_slice how
      rw [hvr] at how hbg
      have hmr : ∃ l, (l, row) ∈ H.ss := ⟨s.lab g, HTL.out.perm.mem_iff.1 (List.mem_map.2 ⟨_, hmem, by rw [hrow]⟩)⟩
      obtain ⟨lb, hlb⟩ := hmr
      have hser := HOK.out.ser _ hlb
      have hrlen : rn ≤ n := by rw [hrn]; exact HN2.out _ hlb
      have hrpos : 0 < rn := by rw [hrn]; exact List.length_pos_iff.2 hser.pos
      have hris : Rises row := hser.rises
      have c1 : w1.cell? ⟨g, 1, none⟩ = some (.slice Ar rn cr) := hbg.cell 1
      have z1 := hbg.frozen 1
      have HRG1 := Lib.hid hrg1
      have HI1 := Lib.hid hI1
      have HLT := Lib.hid hlt
      have HLK := Lib.hid hlk
      have HMEM := Lib.hid hmem
      have HROW := Lib.hid hrow
      have HR1 := Lib.hid hr1
      have HRN := Lib.hid hrn
      have HOW := Lib.hid how
      have HBG := Lib.hid hbg
      have HRIS := Lib.hid hris
      have HVR := Lib.hid hvr
      have hpv : ptrV (some g) = .pointer (some ⟨g, 0, none⟩) := rfl
      rw [hpv] at hen ⊢
      unfold strS at hen ⊢
      clear hrg1 hI1 hlt hlk hmem hrow hr1 hrn how hbg hris hvr hsg hser hlb hkey hnm hv hat hg1 hs1 hpv
      go_upto_region 5 with fail
      obtain ⟨r1, hr1⟩ : ∃ r1, r1 + 1 = rn := ⟨rn - 1, by omega⟩
      have sk : IntKind.i64.wrap ((rn : Int) - 1) = (r1 : Int) := (IntWalk.i64_in _ (by omega)).trans (by omega)
      have hgl : g < w1.heap.size := HBG.out.lt
      have HFR := Lib.hid (fun W (hW : Below w1.heap.size w1 W) => from_any W g 0 (s1.vl g) (.slice Ar rn cr) row t (HBG.out.below hW hgl) (by rw [← HRN.out]; exact own_blk HOW.out fun j hj => hW.block j (HOW.out.lt j hj).2) (by rw [← HRN.out]; omega) HRIS.out)
      refine (wpIn_wide (n := 9)).1 (wpIn_region_C (fun W => Below w1.heap.size w1 W) (by kernel_rfl) ?_)
      refine wpAnyC_take (i := 0) (.pointer (some ⟨g, 0, none⟩)) (fun _ => trivial) rfl (by kernel_rfl) (by kernel_rfl) (by kernel_rfl) (by kernel_rfl) (fun _ _ _ h => h) (Below.refl _ w1).drew (by rfl) (fun W hC => by go_simp) ?_
      refine wpAnyC_take (i := 1) (.int .i64 t) (fun _ => trivial) rfl (by kernel_rfl) (by kernel_rfl) (by kernel_rfl) (by kernel_rfl) (fun _ _ _ h => h) (Below.refl _ w1).drew (by rfl) (fun W hC => by go_simp) ?_
      refine wpAnyC_take (i := 3) (.pointer (some ⟨g, 0, none⟩)) (fun _ => trivial) rfl (by kernel_rfl) (by kernel_rfl) (by kernel_rfl) (by kernel_rfl) (fun _ _ _ h => h) (Below.refl _ w1).drew (by rfl) (fun W hC => by go_simp) ?_
      refine wpAnyC_take (i := 4) (.pointer (some ⟨g, 0, none⟩)) (fun _ => trivial) rfl (by kernel_rfl) (by kernel_rfl) (by kernel_rfl) (by kernel_rfl) (fun _ _ _ h => h) (Below.refl _ w1).drew (by rfl) (fun W hC => by go_simp) ?_
      refine wpAnyC_take (i := 5) (.pointer (some ⟨g, 1, none⟩)) (fun _ => trivial) rfl (by kernel_rfl) (by kernel_rfl) (by kernel_rfl) (by kernel_rfl) (fun _ _ _ h => h) (Below.refl _ w1).drew (by rfl) (fun W hC => by go_simp) ?_
      refine wpAnyC_take (i := 6) (.slice Ar rn cr) (fun _ => trivial) rfl (by kernel_rfl) (by kernel_rfl) (by kernel_rfl) (by kernel_rfl) (fun _ _ _ h => h) (Below.refl _ w1).drew (by rfl) (fun W hC => by have cc := (hC.cell (p := ⟨g, 1, none⟩) hgl).trans c1; go_simp) ?_
      refine wpAnyC_take (i := 7) (.int .i64 (rn : Int)) (fun _ => trivial) rfl (by kernel_rfl) (by kernel_rfl) (by kernel_rfl) (by kernel_rfl) (fun _ _ _ h => h) (Below.refl _ w1).drew (by rfl) (fun W hC => by go_simp) ?_
      refine wpAnyC_take (i := 8) (.int .i64 (r1 : Int)) (fun _ => trivial) rfl (by kernel_rfl) (by kernel_rfl) (by kernel_rfl) (by kernel_rfl) (fun _ _ _ h => h) (Below.refl _ w1).drew (by rfl) (fun W hC => by go_simp) ?_
      refine wpAnyC_ready (rs := [2]) (by kernel_rfl) (by simp) ?_
      refine AllReadyC.cons rfl (fun K hK => ?_) AllReadyC.nil
      go_simp
      refine ⟨trivial, (callsIn_wide.2 (HFR.out _ (Below.refl _ w1).drew)).mono ?_⟩
      rintro e w2 ⟨i, rfl, hfa, hu⟩
      dsimp only
      have hb2 : Below w1.heap.size w1 w2 := (Below.refl _ w1).drew.trans hu.below
      refine hK _ _ ⟨hb2, ?_⟩
      clear hK K hu HFR
      refine wpAnyC_ready (rs := [9]) (by kernel_rfl) (by simp) ?_
      refine AllReadyC.cons rfl (fun K hK => ?_) AllReadyC.nil
      go_simp
      obtain ⟨d, hd⟩ : ∃ d, d = dropI t row := ⟨_, rfl⟩
      have hdm : min (i : Int) (r1 : Int) = (d : Int) := by
        have h1 := hfa.eq
        have h2 := HRN.out
        rw [hd]
        unfold dropI
        rw [← h1, ← h2]
        omega
      have hdr : d ≤ r1 := by have h2 := HRN.out; rw [hd]; unfold dropI; omega
      have HD := Lib.hid hd
      rw [hdm]
      clear hdm hd hfa
      refine hK _ _ ⟨hb2, ?_⟩
      clear hK K
      refine wpAnyC_ready (rs := [10]) (by kernel_rfl) (by simp) ?_
      refine AllReadyC.cons rfl (fun K hK => ?_) AllReadyC.nil
      go_simp
      refine hK _ _ ⟨hb2, ?_⟩
      clear hK K
      refine wpAnyC_done (by kernel_rfl) ?_ _
      have c3 : w2.cell? ⟨g, 1, none⟩ = some (.slice Ar rn cr) := (hb2.cell hgl).trans c1
      have z3 := (HBG.out.below hb2 hgl).frozen 1
      have HB2 := Lib.hid hb2
      have hrc : rn ≤ cr := by
        rcases HOW.out.2 with ⟨e, h0⟩ | ⟨_, cap, _, hv, _, _, h1, _⟩
        · omega
        · injection hv with _ _ h3
          omega
      have hrd : Reads w2 w1.heap.size 3 (Option.map (fun x => x.add (d * 3)) Ar) (rn - d) (rowV (dropRow t row)) := by
        have h1 := ((Reads.of_own HOW.out).below HB2.out).cut (k := d) (cap := cr) (by omega) hrc
        rw [if_neg (by omega), rowV_drop, HD.out] at h1
        rw [HD.out]
        exact h1
      have HRD := Lib.hid hrd
      have HSZ2 := Lib.hid hb2.size
      clear hrd
      have e1 : (0 : Int) ≤ (d : Int) := by omega
      have e2 : (d : Int) ≤ (rn : Int) := by omega
      have e3 : (d : Int) ≤ (cr : Int) := by omega
      have e4 : (rn : Int) ≤ (cr : Int) := by omega
      clear c1 z1 hb2
      go_wp2_with (at_builtin; go_loud (refine wpList_append_any _ rfl (.const (.slice none 0 0)) (.tmp 34) 138 rfl 0 148 j0 (.agg #[.int .i64 0, .float .f64 0, .bool false]) 3 24 Tryz.underlying138 HJ.out HY0.out HY1.out HY2.out rfl (by omega) (.slice none 0 0) 0 [] rfl (World.ownsRow_nil _ _ _ _) w1.heap.size _ (rn - d) (cr - d) _ rfl HRD.out (rowV_one _) (by simp [maxLen]; omega) (by omega) (Nat.zero_le _) ?_; intro v5 w5 hown5 hgrow5 hor5; rw [Nat.zero_add, List.nil_append] at hown5; obtain ⟨A5, c5, hv5⟩ := own_slice hown5; subst hv5; have bg5 : Blk w5 g 140 #[s1.vl g, .slice Ar rn cr] := (HBG.out.below HB2.out hgl).grown hgrow5 (by simp [Value.ownBlock]); have y5 := bg5.cell 1; have f5 := bg5.frozen 1; have HO5 := Lib.hid hown5; have HG5 := Lib.hid hgrow5; have HR5 := Lib.hid hor5; clear hown5 hgrow5 hor5 bg5))
      have hsz2 := HSZ2.out
      have hsz5 : w2.heap.size ≤ w5.heap.size := HG5.out.size
      have hrl : w.heap.size < w1.heap.size := HRG1.out.lt
      have hrow : dropRow t row = dropRow t (s.row g) := by rw [HROW.out]
      have hlen : rn - d = (dropRow t (s.row g)).length := by rw [← hrow]; unfold dropRow; rw [List.length_drop, ← HRN.out, ← HD.out]
      have hst := HI1.out.step HMEM.out HLK.out HS.out HF.out HB2.out (v5 := .slice A5 (rn - d) c5) (w5 := w5) (by rw [← hlen, ← hrow]; exact HO5.out) HG5.out HR5.out hrl
      have hrg5 : w5.ranges Tryz.prog 9 ptrElem s.m w.heap.size s.dir.length (dirD s.dir) (fun z => left z && !z.sameKey (.string nm)) cnt1 :=
        (HRG1.out.kept (w' := w2) (row := none) ⟨HB2.out.os, HB2.out.tape, HB2.out.output, HB2.out.size, fun i hi _ => HB2.out.block i hi⟩ (by simp) (by simp)).kept HG5.out (by simp [Value.ownBlock]) (by simp [Value.ownBlock])
      have hg0 : g < w.heap.size := (HS.out.ser _ HMEM.out).blk.lt
      have hgm : s.m ≠ g := by have h1 := HI1.out.hd.dir.blk_ne HBG.out; rw [HI1.out.mE] at h1; exact h1
      have hrg6 : (w5.setCell ⟨g, 1, none⟩ (.slice A5 (rn - d) c5)).ranges Tryz.prog 9 ptrElem s.m w.heap.size s.dir.length (dirD s.dir) (fun z => left z && !z.sameKey (.string nm)) cnt1 :=
        hrg5.kept (only_setCell (only_refl w5 (some g)) (.inl rfl) _) (by intro e; injection e with e; exact hgm e) (by intro e; injection e with e; omega)
      refine ⟨⟨_, _, _, _, rfl, hrg6, hst⟩, ?_⟩
      rw [hrg6.left_eq, HRG.out.left_eq]
      exact HLT.out
end Go.Proofs.YtbeeejpjnniejaaGreatDoor
