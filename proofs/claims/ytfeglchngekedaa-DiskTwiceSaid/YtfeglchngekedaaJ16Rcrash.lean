/- The document's disk: Crash (function 59). -/
import Derived.Test.YtfeglchngekedaaJ15SimOps
namespace Go.Proofs.Ytfeglchngekedaa
open Go.RowKit Go.Shelf Go.Maps

theorem rdo_len (m : Dl) (c : RC) : (rdo m c).length ≤ m.length + 1 := by
  unfold rdo rset
  have h1 := len_ddel m c.nm
  have h2 := len_ddel m c.old
  have h3 := len_ddel (ddel m c.old) c.nm
  split
  · simp; omega
  · split
    · simp; omega
    · omega
theorem fold_len : ∀ (l : List RC) (m : Dl), (l.foldl rdo m).length ≤ m.length + l.length
  | [], _ => Nat.le_refl _
  | c :: l, m => by
    have h1 := fold_len l (rdo m c)
    have h2 := rdo_len m c
    simp only [List.foldl_cons, List.length_cons]
    omega
theorem fold_names : ∀ (l : List RC) (m : Dl), (∀ e ∈ m, e.1.length ≤ 64) → (∀ c ∈ l, c.old.length ≤ 64 ∧ c.nm.length ≤ 64) → ∀ e ∈ l.foldl rdo m, e.1.length ≤ 64
  | [], _, h, _ => h
  | c :: l, m, h, hc => by
    refine fold_names l (rdo m c) (fun e he => ?_) (fun d hd => hc d (List.mem_cons_of_mem _ hd))
    have hn := (hc c List.mem_cons_self).2
    unfold rdo rset at he
    split at he
    · rcases List.mem_append.1 he with he | he
      · exact h e ((mem_ddel _ _ _).1 he).1
      · rw [List.mem_singleton.1 he]; exact hn
    · split at he
      · rcases List.mem_append.1 he with he | he
        · exact h e ((mem_ddel _ _ _).1 ((mem_ddel _ _ _).1 he).1).1
        · rw [List.mem_singleton.1 he]; exact hn
      · exact h e ((mem_ddel _ _ _).1 he).1
theorem fold_take (l : List RC) (m : Dl) (k : Nat) (h : k < l.length) : (l.take (k + 1)).foldl rdo m = rdo ((l.take k).foldl rdo m) l[k] := by
  rw [List.take_succ_eq_append_getElem h, List.foldl_append]
  rfl

/-- the directory as it is laid, change by change -/
def RcrR (w w0 : World) (F : Nat → Prop) (cs : List Int) (kept : Dl) (pend : List RC) (K : Nat) (d i : Value) (wr : World) : Prop :=
  ∃ (k : Nat) (u : Value), k ≤ K ∧ u = d ∧ i = .int .i64 k ∧ wr.ownsRow 0 94 2 u ((pend.take k).foldl rdo kept).length (entsV ((pend.take k).foldl rdo kept)) ∧ RCutAt wr F w.heap.size w.heap.size cs ∧ Below w0.heap.size w0 wr

theorem rfsV_set2 : ∀ (l : List RF) (k : Nat), k < l.length → ∀ (x : RF), rfsV (l.set k x) = ((rfsV l).set (k * 2) x.v).set (k * 2 + 1) (.int .i64 (x.kept : Int))
  | [], k, h, _ => absurd h (Nat.not_lt_zero _)
  | a :: l, 0, h, x => rfl
  | a :: l, k + 1, h, x => by
    have := rfsV_set2 l k (by simpa using h) x
    have e : rfsV (a :: l) = rfV a ++ rfsV l := rfl
    have e2 : rfsV ((a :: l).set (k + 1) x) = rfV a ++ rfsV (l.set k x) := rfl
    rw [e2, e, this, List.set_append_right _ _ (by simp [rfV]; omega), List.set_append_right _ _ (by simp [rfV]; omega)]
    congr 2
    · congr 1
      simp [rfV]; omega
    · simp [rfV]; omega
/-- a file is cut -/
theorem RefAt.fileCut {w : World} {F : Nat → Prop} {r : Nat} {s : RS} (h : RefAt w F r s) (f : Nat) (hf : f < s.files.length) {g L c lx cx k : Nat} {Ax : Option Addr} (hL : L = s.files.length) (hv : s.vf = .slice (some ⟨g, 0, none⟩) L c) (hx : s.files[f].v = .slice Ax lx cx) (hlx : lx = s.files[f].bs.length) (hk : k ≤ lx) :
    RefAt ((w.setCell ⟨g, f * 2, none⟩ (.slice Ax k k)).setCell ⟨g, f * 2 + 1, none⟩ (.int .i64 (k : Int))) (Gr F w) r { s with files := s.files.set f ⟨.slice Ax k k, s.files[f].bs.take k, k⟩ } := by
  subst hL
  subst hlx
  have hrow := h.files.row
  rw [hv] at hrow
  have hgr : r ≠ g := fun e => own_blk_ne hrow h.blk (by decide) (by rw [e]; rfl)
  have hg5 : ∀ x, IsT w x 5 → x ≠ g := fun x hx => hx.ne (.of_own hrow (k := g) rfl) (by decide)
  have hlen : (s.files[f].bs.take k).length = k := by rw [List.length_take]; omega
  obtain ⟨⟨A', c', e', hc', hR', hA'⟩, -⟩ := h.bytes _ (List.getElem_mem hf)
  rw [hx] at e'
  injection e' with e1 _ e2
  subst e1
  subst e2
  refine h.turn _ true false false (by simp [World.setCell]) ?_ ((h.blk.far hgr _).far hgr _) (.inr ⟨⟨?_, fun k hk => .inl (h.files.rowF k hk)⟩, fun x hx' => ?_⟩) (.inl ⟨rfl, rfl⟩) (.inl ⟨rfl, rfl⟩) (.inl ⟨rfl, rfl, rfl⟩) (.inl ⟨rfl, rfl, rfl⟩) h.capB
  · intro k hk _ h1 _ _
    have hkg : k ≠ g := fun e => h1 rfl (by rw [hv, e]; rfl)
    rw [Below.heap_setCell _ _ _ _ hkg, Below.heap_setCell _ _ _ _ hkg]
  · show World.ownsRow _ 0 88 2 s.vf (s.files.set f _).length (rfsV (s.files.set f _))
    rw [rfsV_set2 s.files f hf, List.length_set, hv]
    exact own_set (own_set hrow (f * 2) _) (f * 2 + 1) _
  · have hx' : x ∈ s.files.set f ⟨.slice Ax k k, s.files[f].bs.take k, k⟩ := hx'
    rcases List.mem_or_eq_of_mem_set hx' with hx' | rfl
    · exact .inl ⟨x, hx', rfl, rfl, (h.bytes x hx').le⟩
    · refine .inr (FileOk.keep (w := w) (F := F) ⟨⟨Ax, k, by rw [hlen], by rw [hlen]; exact Nat.le_refl _, ?_, fun ad e h0 => hA' ad e (by rw [hlen] at h0; omega)⟩, by rw [hlen]; exact Nat.le_refl _⟩ (fun x _ hx => ?_) (by simp [World.setCell]) (fun _ h => .inl h))
      · rw [hlen]
        have := hR'.take (k := k) hk
        rwa [show (bytesV s.files[f].bs).take (k * 1) = bytesV (s.files[f].bs.take k) by simp [bytesV, List.map_take]] at this
      · rw [Below.heap_setCell _ _ _ _ (hg5 x hx), Below.heap_setCell _ _ _ _ (hg5 x hx)]
theorem map_set_cut (l : List RF) (f : Nat) (hf : f < l.length) (v : Value) (k : Nat) : (l.set f ⟨v, l[f].bs.take k, k⟩).map RF.pl = (l.map RF.pl).modify f fun y => (y.1.take k, k) := by
  apply List.ext_getElem?
  intro j
  rw [List.getElem?_modify, List.getElem?_map, List.getElem?_set, List.getElem?_map]
  by_cases e : f = j
  · subst e
    rw [if_pos rfl, if_pos hf, List.getElem?_eq_getElem hf]
    simp [RF.pl]
  · rw [if_neg e]
    simp [e]

/-- kept while only cuts and rows of numbers turn -/
theorem RefAt.keepT {w w' : World} {F : Nat → Prop} {r : Nat} {s : RS} (h : RefAt w F r s) (hb : ∀ k t, IsT w k t → t ≠ 115 → t ≠ 3 → w'.heap[k]? = w.heap[k]?) (hsz : w.heap.size ≤ w'.heap.size) : RefAt w' F r s where
  blk := (hb r 58 (.of_blk h.blk) (by decide) (by decide)).trans h.blk
  own := h.own
  files := h.files.keep (fun k _ _ ht => hb k _ ht (by decide) (by decide)) fun _ h => h
  dir := h.dir.keep (fun k _ _ ht => hb k _ ht (by decide) (by decide)) fun _ h => h
  kept := h.kept.keep (fun k _ _ ht => hb k _ ht (by decide) (by decide)) fun _ h => h
  pend := h.pend.keep (fun k _ _ ht => hb k _ ht (by decide) (by decide)) fun _ h => h
  flts := h.flts.keep (fun k _ _ ht => hb k _ ht (by decide) (by decide)) fun _ h => h
  bytes := fun x hx => (h.bytes x hx).keep (fun k _ ht => hb k _ ht (by decide) (by decide)) hsz fun _ h => h
  capB := h.capB
theorem own_keepT {w w' : World} {base : Nat} {e : TypeId} {size n : Nat} {v : Value} {xs : List Value} (h : w.ownsRow base e size v n xs) (he : e ≠ 115) (he3 : e ≠ 3) (hb : ∀ k t, IsT w k t → t ≠ 115 → t ≠ 3 → w'.heap[k]? = w.heap[k]?) : w'.ownsRow base e size v n xs :=
  own_keep h fun k hk _ => hb k e (.of_own h hk) he he3

theorem reads_new1 (w : World) (t : TypeId) (a : Value) : Reads (w.alloc (.cells #[a] t)) (w.heap.size + 1) 1 (some ⟨w.heap.size, 0, none⟩) 1 [a] := by
  have hb := Blk.new w t #[a]
  refine ⟨rfl, fun _ => ⟨_, rfl, Nat.lt_succ_self _, fun j u hu => ?_⟩⟩
  have e : (⟨w.heap.size, 0, none⟩ : Addr).add j = ⟨w.heap.size, j, none⟩ := by unfold Addr.add; split <;> simp_all
  rw [e, hb.cell j]
  match j with
  | 0 => exact hu
  | j + 1 => cases hu
theorem info3 : (Try.prog.info? 3).map (fun i => (i.zero, i.size, i.bytes)) = some (some (.int .i64 0), 1, 8) := by kernel_rfl
def doneV (D : Dl) (l : List Nm) : List Value := l.map fun nm => .int .i64 (((dget D nm).getD 0 : Nat) : Int)
/-- file by file -/
structure RcqS (w : World) (F : Nat → Prop) (r : Nat) (s : RS) (D : Dl) (keys : List Nm) (vD v9 : Value) (cs : List Int) (i : Nat) (u : Value) (fs : List RF) (csj : List Int) (wr : World) : Prop where
  eq_ : (keys.take i).foldl (cutStep D) (s.pl.files, cs) = (fs.map RF.pl, csj)
  len : fs.length = s.files.length
  ref : RefAt wr (Gr F w) r { s with files := fs }
  cut : RCutAt wr F w.heap.size w.heap.size csj
  done : wr.ownsRow 0 3 1 u i (doneV D (keys.take i))
  doneF : ∀ k, u.ownBlock = some k → w.heap.size < k
  dir : wr.ownsRow 0 94 2 vD D.length (entsV D)
  names : wr.ownsRow 0 9 1 v9 keys.length (keys.map encStr)
  chg : Chg F w wr
  bl : ∀ x ∈ fs, x.bs.length ≤ 1000000000
def RcqR (w : World) (F : Nat → Prop) (r : Nat) (s : RS) (D : Dl) (keys : List Nm) (vD v9 : Value) (cs : List Int) (d i : Value) (wr : World) : Prop :=
  ∃ (k : Nat) (u : Value) (fs : List RF) (csj : List Int), k ≤ keys.length ∧ u = d ∧ i = .int .i64 k ∧ RcqS w F r s D keys vD v9 cs k u fs csj wr
def NoR (n : Nat) (b i : Value) : Prop := ∃ j : Nat, j ≤ n ∧ b = .bool false ∧ i = .int .i64 j

set_option maxRecDepth 100000 in
set_option maxHeartbeats 102400000 in
theorem rcrash_any (w : World) (F : Nat → Prop) (r : Nat) (s : RS) (n : Nat) (A : Option Addr) (c : Nat) (cs : List Int) (h : RefAt w F r s) (hb : PB n s.pl) (hn : n ≤ 100000) (hR : Reads w w.heap.size 1 A cs.length (cs.map (Value.int .i64))) (hA : 0 < cs.length → ∀ ad, A = some ad → ¬ F ad.block) (hc : cs.length ≤ c) (hrd : RDir (s.pl.crashDir cs)) (hlf : ∀ e ∈ s.pl.crashDir cs, e.2 < s.files.length) :
    Calls Try.prog 59 #[.pointer (some ⟨r, 0, none⟩), .slice A cs.length c] w (RDone w F r (s.pl.crash cs)) := by
  obtain ⟨i3, hi3, hz30, hz31, hz32⟩ := info_parts info3
  have HI3 := Lib.hid hi3
  have HZ30 := Lib.hid hz30
  have HZ31 := Lib.hid hz31
  have HZ32 := Lib.hid hz32
  obtain ⟨i9, hi9, hz90, hz91, hz92⟩ := info_parts info94
  have HI9 := Lib.hid hi9
  have HZ90 := Lib.hid hz90
  have HZ91 := Lib.hid hz91
  have HZ92 := Lib.hid hz92
  clear hi3 hz30 hz31 hz32 hi9 hz90 hz91 hz92
  have H := Lib.hid h
  have HPB := Lib.hid hb
  have hpl : s.pend.length ≤ 100000 := Nat.le_trans hb.pendL hn
  have hkl : s.kept.length ≤ 100000 := Nat.le_trans hb.keptL hn
  obtain ⟨A3, d3, hvk⟩ := own_slice h.kept.row
  obtain ⟨A4, d4, hvp⟩ := own_slice h.pend.row
  have c3 : w.cell? ⟨r, 3, none⟩ = some (.slice A3 s.kept.length d3) := (h.blk.cell 3).trans (congrArg some hvk)
  have c4 : w.cell? ⟨r, 4, none⟩ = some (.slice A4 s.pend.length d4) := (h.blk.cell 4).trans (congrArg some hvp)
  have hrl := h.blk.lt
  have HVK := Lib.hid hvk
  have HVP := Lib.hid hvp
  have HRD := Lib.hid hrd
  have HLF := Lib.hid hlf
  obtain ⟨w1, hw1⟩ : ∃ w1, w.alloc (.cells #[.slice A cs.length c] 115) = w1 := ⟨_, rfl⟩
  have hs1 : w.heap.size + 1 ≤ w1.heap.size := by rw [← hw1]; simp
  have hcu : RCutAt w1 F w.heap.size w.heap.size cs := by
    refine ⟨A, c, by rw [← hw1]; exact Blk.new w 115 _, hc, by rw [← hw1]; exact hR.alloc (Nat.le_refl _) _, Nat.le_refl _, hA⟩
  have hb1 : Below w.heap.size w w1 := by rw [← hw1]; exact (Below.refl _ w).alloc (Nat.le_refl _) _
  have HCU := Lib.hid hcu
  have HB1 := Lib.hid hb1
  have hc4' : w1.cell? ⟨r, 4, none⟩ = some (.slice A4 s.pend.length d4) := (hb1.cell (p := ⟨r, 4, none⟩) hrl).trans c4
  clear h hb hR hA hvk hvp hrd hlf hcu hb1
  go_enter Try.func59, Try.ntmps59
  go_upto_region 1 with fail
  go_wp2_with fail
  refine (rnext_any w1 F w.heap.size w.heap.size cs (s.pend.length : Nat) HCU.out (by omega) (by omega)).mono ?_
  rintro e w2 ⟨rfl, hcu2, hg2⟩
  have hb2 : Below w.heap.size w w2 := HB1.out.grown hg2 (by omega) (fun k hk => by cases hk; exact Nat.le_refl _)
  have hs2 := hg2.size
  obtain ⟨K, hK⟩ : ∃ K : Nat, nextK cs (s.pend.length : Nat) = (K : Int) := ⟨_, (Int.toNat_of_nonneg (nextK_bd cs (s.pend.length : Nat) (by omega)).1).symm⟩
  have hKl : K ≤ s.pend.length := by have := (nextK_bd cs (s.pend.length : Nat) (by omega)).2; omega
  rw [hK]
  have hcd : s.pl.crashDir cs = (s.pend.take K).foldl rdo s.kept := by
    unfold PS.crashDir
    show (s.pend.take (nextK cs (s.pend.length : Nat)).toNat).foldl rdo s.kept = _
    rw [hK]; rfl
  have HCD := Lib.hid hcd
  have HB2 := Lib.hid hb2
  have HCU2 := Lib.hid hcu2
  have hD2 := H.out.keep (F := F) (G := F) (w' := w2) (fun k _ hk => hb2.block k hk) hb2.size (fun _ h => h)
  have e3 : w2.cell? ⟨r, 3, none⟩ = some (.slice A3 s.kept.length d3) := (hD2.blk.cell 3).trans (congrArg some HVK.out)
  have HD2 := Lib.hid hD2
  have hrow2 : w2.ownsRow 0 94 2 (.slice A3 s.kept.length d3) s.kept.length (entsV s.kept) := by rw [← HVK.out]; exact hD2.kept.row
  have HROW2 := Lib.hid hrow2
  clear hcu2 hg2 hb2 hK hcd hD2 hrow2 c3 c4 hc4' hw1
  go_wp2_with fail
  go_loopw [6, 7] (fun d i wr => RcrR w w2 F cs.tail s.kept s.pend K d i wr) (fun _ i _ => K - (intOf i).toNat)
  case atStart => exact ⟨0, _, Nat.zero_le _, rfl, rfl, HROW2.out, HCU2.out, Below.refl _ _⟩
  case round =>
    obtain ⟨k, u, hk, hu, rfl, hrow, hcu, hb⟩ := hrel
    subst hu
    obtain ⟨A6, d6, rfl⟩ := own_slice hrow
    have hbs := hb.size
    have hml := fold_len (s.pend.take k) s.kept
    rw [List.length_take] at hml
    have hDr := HD2.out.keep (F := F) (G := F) (w' := wr) (fun k _ hk => hb.block k hk) hb.size (fun _ h => h)
    have e4 : wr.cell? ⟨r, 4, none⟩ = some (.slice A4 s.pend.length d4) := (hDr.blk.cell 4).trans (congrArg some HVP.out)
    by_cases hlt : k < K
    · have hkp : k < s.pend.length := by omega
      have hft := fold_take s.pend s.kept k hkp
      obtain ⟨m, hm⟩ : ∃ m, m = (s.pend.take k).foldl rdo s.kept := ⟨_, rfl⟩
      rw [← hm] at hft hrow hml ⊢
      have hop := hDr.pend.row
      rw [HVP.out] at hop
      obtain ⟨g4, c4', hA4⟩ := own_succ hop (by omega)
      injection hA4 with hA4 _ hc4'
      subst hc4'
      subst hA4
      have hpa := rcsV_at s.pend k hkp
      obtain ⟨x0, x1, x2, x3⟩ := hpa
      rw [← hop.cellAt (k * 4) (by omega)] at x0
      rw [← hop.cellAt (k * 4 + 1) (by omega)] at x1
      rw [← hop.cellAt (k * 4 + 2) (by omega)] at x2
      rw [← hop.cellAt (k * 4 + 3) (by omega)] at x3
      have hpn : s.pend[k].old.length ≤ 64 ∧ s.pend[k].nm.length ≤ 64 := HPB.out.pendN _ (List.getElem_mem hkp)
      obtain ⟨d, hd⟩ : ∃ d, d = s.pend[k] := ⟨_, rfl⟩
      rw [← hd] at x0 x1 x2 x3 hpn hft
      obtain ⟨kd, od, nm, f⟩ := d
      obtain ⟨odb, hodb⟩ : ∃ odb : ByteArray, odb = ⟨od.toArray⟩ := ⟨_, rfl⟩
      obtain ⟨nmb, hnmb⟩ : ∃ nmb : ByteArray, nmb = ⟨nm.toArray⟩ := ⟨_, rfl⟩
      have y0 : wr.cell? ⟨g4, k * 4, none⟩ = some (.int .i64 kd) := x0
      have y1 : wr.cell? ⟨g4, k * 4 + 1, none⟩ = some (.string odb) := by rw [hodb]; exact x1
      have y2 : wr.cell? ⟨g4, k * 4 + 2, none⟩ = some (.string nmb) := by rw [hnmb]; exact x2
      have y3 : wr.cell? ⟨g4, k * 4 + 3, none⟩ = some (.int .i64 (f : Int)) := x3
      have HOD := Lib.hid (show odb.data.toList = od by rw [hodb])
      have HNM := Lib.hid (show nmb.data.toList = nm by rw [hnmb])
      have HFT := Lib.hid hft
      have hi1 : (k : Int) < (s.pend.length : Int) := by omega
      have hal : Below wr.heap.size wr (wr.alloc (.cells #[.int .i64 kd, .string odb, .string nmb, .int .i64 (f : Int)] 91)) := (Below.refl _ wr).alloc (Nat.le_refl _) _
      have HAL := Lib.hid hal
      have HROW := Lib.hid (own_keep (w' := wr.alloc (.cells #[.int .i64 kd, .string odb, .string nmb, .int .i64 (f : Int)] 91)) hrow (fun k _ hk => hal.block k hk))
      have HCU := Lib.hid (hcu.below hal)
      have HB := Lib.hid (hb.trans (hal.mono hbs))
      clear x0 x1 x2 x3 hd hodb hnmb hft hm hal hrow hcu hb hop hDr
      by_cases hk1 : kd = 1
      · subst hk1
        go_wp2_with fail
        refine (set_any _ A6 d6 m nmb f HROW.out (by omega)).mono ?_
        rintro e w5 ⟨v5, rfl, hrow5, hb5⟩
        have HR5 := Lib.hid (own_low hrow5 (Nat.zero_le _))
        have HC5 := Lib.hid (HCU.out.below hb5)
        have HB5 := Lib.hid (HB.out.trans (hb5.mono (by simp; omega)))
        clear hrow5 hb5
        go_wp2
        refine ⟨⟨k + 1, v5, by omega, rfl, by go_num, ?_, HC5.out, HB5.out⟩, by simp [intOf]; omega⟩
        rw [HFT.out]
        show w5.ownsRow 0 94 2 v5 (ddel m nm ++ [(nm, f)]).length (entsV (ddel m nm ++ [(nm, f)]))
        rw [← HNM.out]
        exact HR5.out
      · have hq1 : (kd == 1) = false := beq_false_of_ne hk1
        have HK1 := Lib.hid hk1
        clear hk1
        by_cases hk2 : kd = 2
        · subst hk2
          go_upto_region 12 with fail
          have bT := Blk.new wr 91 #[.int .i64 2, .string odb, .string nmb, .int .i64 (f : Int)]
          have HT := Lib.hid bT
          have hl5 := len_ddel m od
          clear bT
          go_region_law (first
            | (go_simp; go_at_call 71; refine (unset_any _ A6 d6 m odb (by exact HROW.out) (by omega)).mono ?_; rintro e w5 ⟨v5, rfl, hrow5, hb5⟩; obtain ⟨A5, d5, hv5⟩ := own_slice hrow5; subst hv5; have hb5' : Below (wr.alloc (.cells #[.int .i64 2, .string odb, .string nmb, .int .i64 (f : Int)] 91)).heap.size (wr.alloc (.cells #[.int .i64 2, .string odb, .string nmb, .int .i64 (f : Int)] 91)) w5 := ⟨hb5.os, hb5.tape, hb5.output, hb5.size, hb5.block⟩; have bT5 := HT.out.below hb5' HT.out.lt; have y12 : w5.cell? ⟨wr.heap.size, 2, none⟩ = some (.string nmb) := bT5.cell 2; have y13 : w5.cell? ⟨wr.heap.size, 3, none⟩ = some (.int .i64 (f : Int)) := bT5.cell 3; have hs5 := hb5'.size; rw [World.size_alloc] at hs5; have HR5 := Lib.hid (own_low hrow5 (Nat.zero_le _)); have HC5 := Lib.hid (HCU.out.below hb5'); have HB5 := Lib.hid (HB.out.trans (hb5'.mono (by simp; omega))); clear hrow5 hb5 hb5' bT5)
            | (go_simp; go_at_call 44; refine (set_any w5 A5 d5 (ddel m odb.data.toList) nmb f HR5.out (by rw [HOD.out]; omega)).mono ?_; rintro e w7 ⟨v7, rfl, hrow7, hb7⟩; have HR7 := Lib.hid (own_low hrow7 (Nat.zero_le _)); have HC7 := Lib.hid (HC5.out.below hb7); have HB7 := Lib.hid (HB5.out.trans (hb7.mono (by omega))); clear hrow7 hb7))
          all_goals
            go_wp2
            refine ⟨⟨k + 1, v7, by omega, rfl, by go_num, ?_, HC7.out, HB7.out⟩, by simp [intOf]; omega⟩
            rw [HFT.out]
            show w7.ownsRow 0 94 2 v7 (ddel (ddel m od) nm ++ [(nm, f)]).length (entsV (ddel (ddel m od) nm ++ [(nm, f)]))
            rw [← HNM.out, ← HOD.out]
            exact HR7.out
        · have hq2 : (kd == 2) = false := beq_false_of_ne hk2
          have HK2 := Lib.hid hk2
          clear hk2
          go_wp2_with fail
          refine (unset_any _ A6 d6 m nmb HROW.out (by omega)).mono ?_
          rintro e w5 ⟨v5, rfl, hrow5, hb5⟩
          have HR5 := Lib.hid (own_low hrow5 (Nat.zero_le _))
          have HC5 := Lib.hid (HCU.out.below hb5)
          have HB5 := Lib.hid (HB.out.trans (hb5.mono (by simp; omega)))
          clear hrow5 hb5
          go_wp2
          refine ⟨⟨k + 1, v5, by omega, rfl, by go_num, ?_, HC5.out, HB5.out⟩, by simp [intOf]; omega⟩
          have e : rdo m ⟨kd, od, nm, f⟩ = ddel m nm := by unfold rdo; rw [if_neg HK1.out, if_neg HK2.out]
          rw [HFT.out, e, ← HNM.out]
          exact HR5.out
    · obtain rfl : k = K := by omega
      obtain ⟨D, hD⟩ : ∃ D, D = (s.pend.take k).foldl rdo s.kept := ⟨_, rfl⟩
      have hcd := HCD.out
      have hDn : ∀ e ∈ D, e.1.length ≤ 64 := by
        rw [hD]
        exact fold_names _ _ HPB.out.keptN (fun c hc => HPB.out.pendN c (List.mem_of_mem_take hc))
      rw [← hD] at hrow hml hcd ⊢
      have hrd := HRD.out
      have hlf := HLF.out
      rw [hcd] at hrd hlf
      have HRD := Lib.hid hrd
      have HLF := Lib.hid hlf
      have HCD := Lib.hid hcd
      have HROW := Lib.hid hrow
      have HCU := Lib.hid hcu
      have hbw := HB2.out.trans (hb.mono (by have := HB2.out.size; omega))
      have HBW := Lib.hid hbw
      have HDR := Lib.hid hDr
      have hDl : D.length ≤ 200000 := by omega
      clear hrow hcu hb hbw hDr hcd hrd hlf hD
      go_wp2_with fail
      refine (sorted_any wr A6 d6 D ⟨#[]⟩ HROW.out (by omega) (Nat.zero_le _) (fun x hx => Nat.le_trans (hDn x hx) (by simp [maxLen]))).mono ?_
      rintro e w5 ⟨v9, rfl, hrow9, hb5⟩
      rw [sortN_eq, show begN (⟨#[]⟩ : ByteArray).data.toList (D.map (·.1)) = D.map (·.1) from begN_nil _] at hrow9
      obtain ⟨keys, hkeys⟩ : ∃ keys, keys = (D.map (·.1)).mergeSort (fun x y => decide (x ≤ y)) := ⟨_, rfl⟩
      rw [← hkeys] at hrow9
      have hkp : keys.Perm (D.map (·.1)) := by rw [hkeys]; exact List.mergeSort_perm ..
      have hkll : keys.length ≤ 200000 := by have := hkp.length_eq; rw [List.length_map] at this; omega
      have hnd : keys.Pairwise (· ≠ ·) := by
        have h1 : (D.map (·.1)).Pairwise (· ≠ ·) := by rw [List.pairwise_map]; exact HRD.out.names
        exact (hkp.symm.pairwise_iff (fun {a b} (h : a ≠ b) => h.symm)).1 h1
      have hget : ∀ nm ∈ keys, ∃ f, dget D nm = some f := by
        intro nm hnm
        cases hd : dget D nm with
        | some f => exact ⟨f, rfl⟩
        | none =>
          obtain ⟨x, hx, e⟩ := List.mem_map.1 (hkp.mem_iff.1 hnm)
          exact absurd e (dget_none.1 hd x hx)
      obtain ⟨A9, d9, rfl⟩ := own_slice hrow9
      have hs5 := hb5.size
      have hbw5 := HBW.out.trans (hb5.mono HBW.out.size)
      have hstart : RcqS w F r s D keys (.slice A6 D.length d6) (.slice A9 keys.length d9) cs.tail 0 (.slice none 0 0) s.files cs.tail w5 := {
        eq_ := rfl
        len := rfl
        ref := (HDR.out.below hb5 (Nat.le_refl _)).inF (fun _ h => .inl h)
        cut := HCU.out.below hb5
        done := World.ownsRow_nil _ _ _ _
        doneF := fun k hk => by cases hk
        dir := own_keep HROW.out (fun k _ hk => hb5.block k hk)
        names := own_low hrow9 (Nat.zero_le _)
        chg := (Chg.refl F w).below hbw5 (Nat.le_refl _)
        bl := fun x hx => by
          have h1 := (HPB.out.bytesL x.pl (List.mem_map_of_mem hx)).1
          have h2 : x.bs.length ≤ 1000 * n := h1
          omega }
      have HSTART := Lib.hid hstart
      have HND := Lib.hid hnd
      have HGET := Lib.hid hget
      have HKEYS := Lib.hid hkeys
      clear hrow9 hb5 hkp hnd hget hkeys hbw5 hstart hDn HROW HCU HBW HDR HROW2 HCU2
      go_wp2_with fail
      go_loopw [10, 11] (fun d i wr => RcqR w F r s D keys (.slice A6 D.length d6) (.slice A9 keys.length d9) cs.tail d i wr) (fun _ i _ => keys.length - (intOf i).toNat)
      case atStart => exact ⟨0, _, _, _, Nat.zero_le _, rfl, rfl, HSTART.out⟩
      case round =>
        obtain ⟨i, u, fs, csj, hi, hu, rfl, hS⟩ := hrel
        subst hu
        obtain ⟨A10, d10, rfl⟩ := own_slice hS.done
        have hsz := hS.chg.size
        have hcl := hS.cut.lt
        obtain ⟨A1, d1, hvf⟩ := own_slice hS.ref.files.row
        have e1 : wr.cell? ⟨r, 1, none⟩ = some (.slice A1 fs.length d1) := (hS.ref.blk.cell 1).trans (congrArg some hvf)
        have hfl := hS.len
        have HS := Lib.hid hS
        by_cases hlt : i < keys.length
        · obtain ⟨g9, c9, hA9⟩ := own_succ hS.names (by omega)
          injection hA9 with hA9 _ hc9
          subst hc9
          subst hA9
          have x9 : wr.cell? ⟨g9, i, none⟩ = some (encStr keys[i]) := by rw [hS.names.cellAt i (by omega), List.getElem?_map, List.getElem?_eq_getElem hlt]; rfl
          obtain ⟨f, hdg⟩ := HGET.out _ (List.getElem_mem hlt)
          have htk : (keys.take (i + 1)).foldl (cutStep D) (s.pl.files, cs.tail) = cutStep D (fs.map RF.pl, csj) keys[i] := by
            rw [List.take_succ_eq_append_getElem hlt, List.foldl_append, hS.eq_]; rfl
          have htk2 : doneV D (keys.take (i + 1)) = doneV D (keys.take i) ++ [.int .i64 (f : Int)] := by
            rw [List.take_succ_eq_append_getElem hlt]
            unfold doneV
            rw [List.map_append, List.map_cons, hdg]; rfl
          have hnew : ∀ (j : Nat) (hj : j < i), (dget D (keys[j]'(by omega))).getD 0 ≠ f := by
            intro j hj e
            obtain ⟨f', hf'⟩ := HGET.out _ (List.getElem_mem (show j < keys.length by omega))
            rw [hf'] at e
            have e : f' = f := e
            subst e
            have := HRD.out.inj hf' hdg
            exact List.pairwise_iff_getElem.1 HND.out j i (by omega) hlt hj this
          obtain ⟨nm, hnm⟩ : ∃ nm, nm = keys[i] := ⟨_, rfl⟩
          rw [← hnm] at x9 hdg htk
          obtain ⟨nmb, hnmb⟩ : ∃ nmb : ByteArray, nmb = ⟨nm.toArray⟩ := ⟨_, rfl⟩
          have x9' : wr.cell? ⟨g9, i, none⟩ = some (.string nmb) := by rw [x9, hnmb]
          have hnl : nmb.data.toList = nm := by rw [hnmb]
          have hff : f < s.files.length := HLF.out (nm, f) (dget_mem hdg)
          have hff2 : f < fs.length := by omega
          obtain ⟨k, hk, haz, hnk, hdk⟩ : ∃ (k : Nat) (h : k < D.length), atZ D nm = (k : Int) ∧ D[k].1 = nm ∧ D[k].2 = f := by
            rcases atZ_cases D nm with ⟨h1, _⟩ | ⟨k, hk, h1, h2, h3⟩
            · rw [hdg] at h1; cases h1
            · rw [hdg] at h3; injection h3 with h3; exact ⟨k, hk, h1, h2, h3.symm⟩
          have hdr := hS.dir
          obtain ⟨g6, c6, hA6⟩ := own_succ hdr (by omega)
          injection hA6 with hA6 _ hc6
          subst hc6
          subst hA6
          have x6 : wr.cell? ⟨g6, k * 2 + 1, none⟩ = some (.int .i64 (f : Int)) := by rw [hdr.cellAt (k * 2 + 1) (by omega), (entsV_at D k hk).2, hdk]
          obtain ⟨g1, hA1, xv, xk, zv, zk⟩ := cell_file hS.ref hvf f hff2
          subst hA1
          obtain ⟨⟨Ax, cx, hxv, hxc, -, -⟩, hxk⟩ := hS.ref.bytes _ (List.getElem_mem hff2)
          replace hxv : fs[f].v = .slice Ax fs[f].bs.length cx := hxv
          replace hxk : fs[f].kept ≤ fs[f].bs.length := hxk
          replace xv : wr.cell? ⟨g1, f * 2, none⟩ = some fs[f].v := xv
          replace xk : wr.cell? ⟨g1, f * 2 + 1, none⟩ = some (.int .i64 (fs[f].kept : Int)) := xk
          rw [hxv] at xv
          have hcn : cutN (fs.map RF.pl) f csj = fs[f].kept + (nextK csj ((fs[f].bs.length - fs[f].kept : Nat) : Int)).toNat := by
            unfold cutN
            rw [List.getElem?_map, List.getElem?_eq_getElem hff2]
            rfl
          obtain ⟨lx, hlx⟩ : ∃ lx, lx = fs[f].bs.length := ⟨_, rfl⟩
          obtain ⟨q, hq⟩ : ∃ q, q = fs[f].kept := ⟨_, rfl⟩
          rw [← hlx] at xv hxc hxk hxv hcn
          rw [← hq] at xk hxk hcn
          have hbl : lx ≤ 1000000000 := by rw [hlx]; exact hS.bl _ (List.getElem_mem hff2)
          have hsub : ((lx - q : Nat) : Int) = (lx : Int) - (q : Int) := by omega
          rw [hsub] at hcn
          obtain ⟨nk, hnk2⟩ : ∃ nk : Nat, nextK csj ((lx : Int) - (q : Int)) = (nk : Int) := ⟨_, (Int.toNat_of_nonneg (nextK_bd csj _ (by omega)).1).symm⟩
          have hnkl : (nk : Int) ≤ (lx : Int) - (q : Int) := by have := (nextK_bd csj ((lx : Int) - (q : Int)) (by omega)).2; omega
          rw [hnk2] at hcn
          replace hcn : cutN (fs.map RF.pl) f csj = q + nk := hcn
          have HN75 := Lib.hid (fun (W : World) (hW : RCutAt W F w.heap.size w.heap.size csj) => by have := rnext_any W F w.heap.size w.heap.size csj ((lx : Int) - (q : Int)) hW (by omega) (by omega); rwa [hnk2] at this)
          have HNK2 := Lib.hid hnk2
          have HCN := Lib.hid hcn
          have HXV := Lib.hid hxv
          have HLX := Lib.hid hlx
          have HQ := Lib.hid hq
          have HVF := Lib.hid (show s.vf = .slice (some ⟨g1, 0, none⟩) fs.length d1 from hvf)
          have HTK := Lib.hid htk
          have HTK2 := Lib.hid htk2
          have HNEW := Lib.hid hnew
          have HNL := Lib.hid hnl
          have HAZ := Lib.hid haz
          have HDG := Lib.hid hdg
          have HFL := Lib.hid hfl
          obtain ⟨M, hM⟩ : ∃ M, M = fs.length := ⟨_, rfl⟩
          rw [← hM] at e1 HVF hff2
          have HM := Lib.hid hM
          have hi1 : (i : Int) < (keys.length : Int) := by omega
          have hi2 : (k : Int) < (D.length : Int) := by omega
          have hi3 : (f : Int) < (M : Int) := by omega
          have hrr := Reads.of_own hdr
          have HRR := Lib.hid hrr
          clear hS hvf x9 hnm hnmb hnl hdg hdk hnk haz htk htk2 hnew hdr hxv hcn hlx hq hsub hnk2 hfl hM hrr
          go_wp2_with fail
          refine (at_any wr _ (some ⟨g6, 0, none⟩) d6 D nmb HRR.out (by omega)).mono ?_
          rintro e w6 ⟨rfl, rfl⟩
          rw [HNL.out, HAZ.out]
          have hq1 : IntKind.i64.wrap ((lx : Int) - (q : Int)) = (lx : Int) - (q : Int) := IntWalk.i64_in _ (by omega)
          have hq2 : IntKind.i64.wrap ((lx : Int) - (q : Int) + 1) = (lx : Int) - (q : Int) + 1 := IntWalk.i64_in _ (by omega)
          have hq3 : IntKind.i64.wrap ((q : Int) + (nk : Int)) = (q : Int) + (nk : Int) := IntWalk.i64_in _ (by omega)
          have hqn : q + nk ≤ lx := by omega
          have hg1l : g1 < wr.heap.size := (HS.out.ref.files.row.lt g1 (by show Value.ownBlock s.vf = _; rw [HVF.out]; rfl)).2
          have hrl2 : r < wr.heap.size := HS.out.ref.blk.lt
          have hg1w : g1 ≠ w.heap.size := by
            rintro rfl
            have := (H.out.files.row.lt w.heap.size (by rw [HVF.out]; rfl)).2
            omega
          have hrw : r ≠ w.heap.size := by omega
          have hal : Below wr.heap.size wr (wr.alloc (.cells #[.slice Ax lx cx, .int .i64 (q : Int)] 88)) := (Below.refl _ wr).alloc (Nat.le_refl _) _
          have hT := Blk.new wr 88 #[.slice Ax lx cx, .int .i64 (q : Int)]
          have hwxs : wr.heap.size < (wr.alloc (.cells #[.slice Ax lx cx, .int .i64 (q : Int)] 88)).heap.size := by simp
          go_upto_region 20 with fail
          obtain ⟨wx, hwx⟩ : ∃ wx, wr.alloc (.cells #[.slice Ax lx cx, .int .i64 (q : Int)] 88) = wx := ⟨_, rfl⟩
          rw [hwx] at hal hT hwxs ⊢
          have HT := Lib.hid hT
          have HAL := Lib.hid hal
          have HCUT := Lib.hid (HS.out.cut.below hal)
          have t0 : wx.cell? ⟨wr.heap.size, 0, none⟩ = some (.slice Ax lx cx) := hT.cell 0
          have t1 : wx.cell? ⟨wr.heap.size, 1, none⟩ = some (.int .i64 (q : Int)) := hT.cell 1
          clear hwx hal hT
          go_cut [14] from 94 to 105 (fun s14 wy => s14 = .int .i64 ((q + nk : Nat) : Int) ∧ RCutAt wy F w.heap.size w.heap.size csj.tail ∧ wx.grownBy wy (some w.heap.size))
          case first =>
            go_region_held3 (fun w' => w'.cell? ⟨wr.heap.size, 0, none⟩ = some (.slice Ax lx cx) ∧ w'.cell? ⟨wr.heap.size, 1, none⟩ = some (.int .i64 (q : Int)))
              (first | exact ⟨t0, t1⟩ | exact ⟨t0', t1'⟩)
              ((go_at_call 75; refine (HN75.out wx.drew HCUT.out).mono ?_; rintro e w3 ⟨rfl, hcu3, hg3⟩; have t0' : w3.cell? ⟨wr.heap.size, 0, none⟩ = some (.slice Ax lx cx) := World.grownBy.cell (w := wx.drew) hg3 t0 (by simp; omega); have t1' : w3.cell? ⟨wr.heap.size, 1, none⟩ = some (.int .i64 (q : Int)) := World.grownBy.cell (w := wx.drew) hg3 t1 (by simp; omega); have HC3 := Lib.hid hcu3; have HG3 := Lib.hid hg3; clear hcu3 hg3))
            all_goals
              go_wp2
              go_meet
              exact ⟨by rw [show (q : Int) + (nk : Int) = ((q + nk : Nat) : Int) by omega], HC3.out, ⟨HG3.out.os, HG3.out.tape, HG3.out.output, HG3.out.size, HG3.out.block⟩⟩
          obtain ⟨rfl, hcy, hgy⟩ := hcut
          obtain ⟨N, hN⟩ : ∃ N, N = q + nk := ⟨_, rfl⟩
          rw [← hN]
          have hNle : N ≤ lx := by omega
          have HNN := Lib.hid hN
          have hsy := hgy.size
          have hcT : IsT wr w.heap.size 115 := by obtain ⟨_, _, hb, _⟩ := HS.out.cut; exact .of_blk hb
          have hT3 : ∀ k t, IsT wr k t → t ≠ 115 → wc.heap[k]? = wr.heap[k]? := fun k t ht hne =>
            (hgy.block k (by have := ht.lt; omega) (by have := ht.ne hcT hne; simpa using this)).trans (HAL.out.block k ht.lt)
          have hRc := HS.out.ref.keepT (fun k t ht h1 _ => hT3 k t ht h1) (by omega)
          have hDc := own_keepT HS.out.dir (by decide) (by decide) (fun k t ht h1 _ => hT3 k t ht h1)
          have hKc := own_keepT HS.out.names (by decide) (by decide) (fun k t ht h1 _ => hT3 k t ht h1)
          have hOc : wc.ownsRow 0 3 1 (.slice A10 i d10) i (doneV D (keys.take i)) := own_keep HS.out.done (fun k hk _ => hT3 k 3 (.of_own HS.out.done hk) (by decide))
          have hCc : Chg F w wc := (HS.out.chg.below (HAL.out.mono hsz) (Nat.le_refl _)).grown hgy (fun g hg => by cases hg; exact .inr (Nat.le_refl _))
          have gT : IsT wr g1 88 := .of_own HS.out.ref.files.row (by show Value.ownBlock s.vf = _; rw [HVF.out]; rfl)
          have v1 : wc.cell? ⟨r, 1, none⟩ = some (.slice (some ⟨g1, 0, none⟩) M d1) := (World.cell?_of_block (a := ⟨r, 1, none⟩) (hT3 r 58 (.of_blk HS.out.ref.blk) (by decide))).trans e1
          have v2 : wc.cell? ⟨g1, f * 2, none⟩ = some (.slice Ax lx cx) := (World.cell?_of_block (a := ⟨g1, f * 2, none⟩) (hT3 g1 88 gT (by decide))).trans xv
          have v3 : wc.cell? ⟨g1, f * 2 + 1, none⟩ = some (.int .i64 (q : Int)) := (World.cell?_of_block (a := ⟨g1, f * 2 + 1, none⟩) (hT3 g1 88 gT (by decide))).trans xk
          have hRcr := hRc.files.row
          replace hRcr : wc.ownsRow 0 88 2 s.vf fs.length (rfsV fs) := hRcr
          rw [HVF.out, ← HM.out] at hRcr
          have z2 := hRcr.frozenAt (f * 2)
          have z3 := hRcr.frozenAt (f * 2 + 1)
          have t0c : wc.cell? ⟨wr.heap.size, 0, none⟩ = some (.slice Ax lx cx) := World.grownBy.cell hgy t0 (by simp; omega)
          have t1c : wc.cell? ⟨wr.heap.size, 1, none⟩ = some (.int .i64 (q : Int)) := World.grownBy.cell hgy t1 (by simp; omega)
          have HRC := Lib.hid hRc
          have HDC := Lib.hid hDc
          have HKC := Lib.hid hKc
          have HOC := Lib.hid hOc
          have HCC := Lib.hid hCc
          have HCY := Lib.hid hcy
          have hNc : (N : Int) ≤ (cx : Int) := by omega
          have hrc := hRc.blk.lt
          have hg1c : g1 < wc.heap.size := by omega
          clear hN hgy hcT hT3 hRc hDc hKc hOc hCc hRcr hcy t0 t1 e1 xv xk zv zk x6 x9' HT HAL HCUT HRR HN75
          go_wp2_with fail
          go_loop [15, 16] (fun b j => NoR i b j) (fun _ j => i - (intOf j).toNat)
          case atStart => exact ⟨0, Nat.zero_le _, rfl, rfl⟩
          case round =>
            obtain ⟨j, hj, rfl, rfl⟩ := hrel
            by_cases hlt3 : j < i
            · obtain ⟨g10, c10, hA10⟩ := own_succ HOC.out (by omega)
              injection hA10 with hA10 _ hc10
              subst hc10
              subst hA10
              have hj3 := HNEW.out j hlt3
              obtain ⟨fj, hfj⟩ : ∃ fj, fj = (dget D (keys[j]'(by omega))).getD 0 := ⟨_, rfl⟩
              have y10 : wc.cell? ⟨g10, j, none⟩ = some (.int .i64 (fj : Int)) := by
                rw [HOC.out.cellAt j (by omega), hfj]
                unfold doneV
                rw [List.getElem?_map, List.getElem?_take_of_lt hlt3, List.getElem?_eq_getElem (show j < keys.length by omega)]
                rfl
              rw [← hfj] at hj3
              have hqj : ((fj : Int) == (f : Int)) = false := beq_false_of_ne (by omega)
              clear hfj hj3
              go_wp2
              exact ⟨⟨j + 1, by omega, rfl, by go_num⟩, by simp [intOf]; omega⟩
            · obtain rfl : j = i := by omega
              go_upto_region 27 with fail
              go_region
              go_upto_region 28 with fail
              have hff3 : f < fs.length := by rw [← HM.out]; exact hff2
              obtain ⟨wd, hwd⟩ : ∃ wd, ((wc.setCell ⟨g1, f * 2, none⟩ (.slice Ax N N)).setCell ⟨g1, f * 2 + 1, none⟩ (.int .i64 (N : Int))).drew = wd := ⟨_, rfl⟩
              have hR0 : RefAt wd (Gr F w) r { s with files := fs.set f ⟨.slice Ax N N, fs[f].bs.take N, N⟩ } := by
                rw [← hwd]
                exact ((HRC.out.fileCut f hff3 HM.out HVF.out HXV.out HLX.out hNle).drewN 1).inF (fun k hk => Gr.mono (by omega) k hk)
              have hk0 : ∀ k, k ≠ g1 → wd.heap[k]? = wc.heap[k]? := by
                intro k hk
                rw [← hwd]
                show ((wc.setCell ⟨g1, f * 2, none⟩ (.slice Ax N N)).setCell ⟨g1, f * 2 + 1, none⟩ (.int .i64 (N : Int))).heap[k]? = _
                rw [Below.heap_setCell _ _ _ _ hk, Below.heap_setCell _ _ _ _ hk]
              have hz0 : wd.heap.size = wc.heap.size := by rw [← hwd]; simp [World.setCell, World.drew]
              have gTc : IsT wc g1 88 := .of_own HRC.out.files.row (by show Value.ownBlock s.vf = _; rw [HVF.out]; rfl)
              have hO0 : wd.ownsRow 0 3 1 (.slice A10 j d10) j (doneV D (keys.take j)) := own_keep HOC.out (fun k hk _ => hk0 k ((IsT.of_own HOC.out hk).ne gTc (by decide)))
              have hD0 : wd.ownsRow 0 94 2 (.slice (some ⟨g6, 0, none⟩) D.length d6) D.length (entsV D) := own_keep HDC.out (fun k hk _ => hk0 k ((IsT.of_own HDC.out hk).ne gTc (by decide)))
              have hK0 : wd.ownsRow 0 9 1 (.slice (some ⟨g9, 0, none⟩) keys.length d9) keys.length (keys.map encStr) := own_keep HKC.out (fun k hk _ => hk0 k ((IsT.of_own HKC.out hk).ne gTc (by decide)))
              have hY0 : RCutAt wd F w.heap.size w.heap.size csj.tail := by
                obtain ⟨Az, cz, hbz, hcz, hRz, hBz, hGz⟩ := HCY.out
                refine ⟨Az, cz, (hk0 _ ((IsT.of_blk hbz).ne gTc (by decide))).trans hbz, hcz, ⟨hRz.1, fun h0 => ?_⟩, hBz, hGz⟩
                obtain ⟨ad, e, hlt, hcell⟩ := hRz.2 h0
                refine ⟨ad, e, hlt, fun a b hab => (World.cell?_of_block (a := ad.add a) ?_).trans (hcell a b hab)⟩
                rw [block_of_add]
                exact hk0 _ (fun e2 => hGz h0 ad e (by rw [e2]; exact H.out.files.rowF g1 (by rw [HVF.out]; rfl)))
              have hC0 : Chg F w wd := by
                rw [← hwd]
                exact ((HCC.out.setCell (p := ⟨g1, f * 2, none⟩) (HRC.out.files.rowF g1 (by show Value.ownBlock s.vf = _; rw [HVF.out]; rfl)) _).setCell (p := ⟨g1, f * 2 + 1, none⟩) (HRC.out.files.rowF g1 (by show Value.ownBlock s.vf = _; rw [HVF.out]; rfl)) _).drew
              rw [hwd]
              have HR0 := Lib.hid hR0
              have HO0 := Lib.hid hO0
              have HD0 := Lib.hid hD0
              have HK0 := Lib.hid hK0
              have HY0 := Lib.hid hY0
              have HC0 := Lib.hid hC0
              have hs0 : wc.heap.size ≤ wd.heap.size := by omega
              clear hwd hR0 hk0 hz0 gTc hO0 hD0 hK0 hY0 hC0 v1 v2 v3 z2 z3
              go_wp2_with (at_builtin; go_loud (refine wpList_append_any _ rfl (.tmp 136) (.tmp 138) 23 rfl 0 3 i3 (.int .i64 0) 1 8 Try.underlying23 HI3.out HZ30.out HZ31.out HZ32.out rfl (by omega) (.slice A10 j d10) j (doneV D (keys.take j)) rfl (HO0.out.alloc _) (wd.heap.size + 1) (some ⟨wd.heap.size, 0, none⟩) 1 1 [.int .i64 (f : Int)] rfl (reads_new1 wd 3 _) (by intro u hu; rw [List.mem_singleton.1 hu]; rfl) (by simp [maxLen]; omega) (by omega) (Nat.zero_le _) ?_; intro v8 w8 hown8 hgrow8 hloc8; have HW8 := Lib.hid hown8; have HG8 := Lib.hid hgrow8; have HL8 := Lib.hid hloc8; clear hown8 hgrow8 hloc8))
              have hs8 := HG8.out.size
              rw [World.size_alloc] at hs8
              have hkT : ∀ k t, IsT wd k t → t ≠ 3 → w8.heap[k]? = wd.heap[k]? := fun k t ht hne =>
                (HG8.out.block k (by rw [World.size_alloc]; have := ht.lt; omega) (fun e => ht.ne (IsT.of_own HO0.out e.symm) hne rfl)).trans (Below.heap_alloc _ _ _ ht.lt)
              refine ⟨⟨j + 1, v8, fs.set f ⟨.slice Ax N N, fs[f].bs.take N, N⟩, csj.tail, by omega, rfl, by go_num, ?_⟩, by simp [intOf]; omega⟩
              exact {
                eq_ := by
                  rw [HTK.out]
                  unfold cutStep
                  rw [HDG.out]
                  show (cutF (fs.map RF.pl) f csj, csj.tail) = _
                  unfold cutF
                  rw [HCN.out, ← HNN.out, map_set_cut fs f hff3]
                len := by rw [List.length_set]; exact HFL.out
                ref := HR0.out.keepT (fun k t ht _ h3 => hkT k t ht h3) (by omega)
                cut := by
                  obtain ⟨Az, cz, hbz, hcz, hRz, hBz, hGz⟩ := HY0.out
                  refine ⟨Az, cz, (hkT _ 115 (.of_blk hbz) (by decide)).trans hbz, hcz, ⟨hRz.1, fun h0 => ?_⟩, hBz, hGz⟩
                  obtain ⟨ad, e, hlt, hcell⟩ := hRz.2 h0
                  refine ⟨ad, e, hlt, fun a b hab => (World.cell?_of_block (a := ad.add a) ?_).trans (hcell a b hab)⟩
                  rw [block_of_add]
                  refine (HG8.out.block _ (by rw [World.size_alloc]; omega) (fun e2 => ?_)).trans (Below.heap_alloc _ _ _ (by omega))
                  have := HS.out.doneF ad.block e2.symm
                  omega
                done := by rw [HTK2.out]; exact HW8.out
                doneF := fun k hk => by
                  rcases HL8.out with e | e
                  · exact HS.out.doneF k (by rw [← e]; exact hk)
                  · rw [e] at hk; injection hk with hk; rw [World.size_alloc] at hk; omega
                dir := own_keepT HD0.out (by decide) (by decide) (fun k t ht _ h3 => hkT k t ht h3)
                names := own_keepT HK0.out (by decide) (by decide) (fun k t ht _ h3 => hkT k t ht h3)
                chg := (HC0.out.alloc _).grown HG8.out (fun g hg => .inr (by have := HS.out.doneF g hg; omega))
                bl := fun x hx => by
                  rcases List.mem_or_eq_of_mem_set hx with hx | rfl
                  · exact HS.out.bl x hx
                  · exact Nat.le_trans (List.length_take_le _ _) (by omega) }
        · obtain rfl : i = keys.length := by omega
          have heq := hS.eq_
          rw [List.take_length] at heq
          have HEQ := Lib.hid heq
          have hdr := hS.dir
          have hrr := Reads.of_own hdr
          have hrl2 := hS.ref.blk.lt
          have hb1 : Below wr.heap.size wr (wr.alloc (.cells #[] 94)) := (Below.refl _ wr).alloc (Nat.le_refl _) _
          have HRA := Lib.hid (hrr.below hb1)
          have HB1 := Lib.hid hb1
          have HOW := Lib.hid (World.ownsRow_lit (base := wr.heap.size) (e := 94) (size := 2) wr #[] 0 (Nat.le_refl _) (Nat.zero_le _) rfl)
          have HDR := Lib.hid hdr
          clear heq hdr hrr hb1 hS hvf e1 hfl
          go_upto_region 30 with (at_builtin; go_loud (refine wpList_append_any _ rfl (.tmp 141) (.tmp 142) 54 rfl wr.heap.size 94 i9 (.agg #[.string ⟨#[]⟩, .int .i64 0]) 2 24 Try.underlying54 HI9.out HZ90.out HZ91.out HZ92.out rfl (by omega) (.slice (some ⟨wr.heap.size, 0, none⟩) 0 0) 0 [] rfl HOW.out wr.heap.size A6 D.length d6 (entsV D) rfl HRA.out (entsV_one _) (by simp [maxLen]; omega) (by omega) (by simp) ?_; intro v4 w4 hown4 hgrow4 _; rw [Nat.zero_add, List.nil_append] at hown4; obtain ⟨A4', d4', hv4⟩ := own_slice hown4; subst hv4; have hb4 := HB1.out.grown hgrow4 (by simp) (fun k hk => by cases hk; exact Nat.le_refl _); have b4 := HS.out.ref.blk.below hb4 hrl2; have y2 : w4.cell? ⟨r, 2, none⟩ = some s.vd := b4.cell 2; have z2 := b4.frozen 2; have HW4 := Lib.hid hown4; have HB4 := Lib.hid hb4; clear hown4 hgrow4 hb4 b4))
          obtain ⟨wa, hwa⟩ : ∃ wa, w4.setCell ⟨r, 2, none⟩ (.slice A4' D.length d4') = wa := ⟨_, rfl⟩
          have hRa := HS.out.ref.dirSet HB4.out D _ HW4.out
          have hs4 := HB4.out.size
          have hDa : wa.ownsRow 0 94 2 (.slice A6 D.length d6) D.length (entsV D) := by
            rw [← hwa]
            exact ownsRow_setCell_other (own_keep HDR.out (fun k _ hk => HB4.out.block k hk)) (own_blk_ne (own_keep HDR.out (fun k _ hk => HB4.out.block k hk)) (HS.out.ref.blk.below HB4.out hrl2) (by decide)) _
          have hCa : Chg F w wa := by rw [← hwa]; exact (HS.out.chg.below HB4.out hsz).setCell (p := ⟨r, 2, none⟩) (.inl H.out.own) _
          rw [hwa] at hRa ⊢
          have hsa : w4.heap.size ≤ wa.heap.size := by rw [← hwa]; simp [World.setCell]
          have hra := hRa.blk.lt
          have hb5 : Below wa.heap.size wa (wa.alloc (.cells #[] 94)) := (Below.refl _ wa).alloc (Nat.le_refl _) _
          have HRB := Lib.hid ((Reads.of_own hDa).below hb5)
          have HB5 := Lib.hid hb5
          have HOW2 := Lib.hid (World.ownsRow_lit (base := wa.heap.size) (e := 94) (size := 2) wa #[] 0 (Nat.le_refl _) (Nat.zero_le _) rfl)
          have HRa := Lib.hid hRa
          have HCa := Lib.hid hCa
          clear hwa hRa hDa hCa hb5 y2 z2
          go_upto_region 32 with (at_builtin; go_loud (refine wpList_append_any _ rfl (.tmp 147) (.tmp 148) 54 rfl wa.heap.size 94 i9 (.agg #[.string ⟨#[]⟩, .int .i64 0]) 2 24 Try.underlying54 HI9.out HZ90.out HZ91.out HZ92.out rfl (by omega) (.slice (some ⟨wa.heap.size, 0, none⟩) 0 0) 0 [] rfl HOW2.out wa.heap.size A6 D.length d6 (entsV D) rfl HRB.out (entsV_one _) (by simp [maxLen]; omega) (by omega) (by simp) ?_; intro v6 w6 hown6 hgrow6 _; rw [Nat.zero_add, List.nil_append] at hown6; obtain ⟨A7, d7, hv6⟩ := own_slice hown6; subst hv6; have hb6 := HB5.out.grown hgrow6 (by simp) (fun k hk => by cases hk; exact Nat.le_refl _); have b6 := HRa.out.blk.below hb6 hra; have y3 : w6.cell? ⟨r, 3, none⟩ = some s.vk := b6.cell 3; have z3 := b6.frozen 3; have y4 : (w6.setCell ⟨r, 3, none⟩ (.slice A7 D.length d7)).cell? ⟨r, 4, none⟩ = some s.vp := (b6.set_ 3 _).cell 4; have z4 := (b6.set_ 3 (.slice A7 D.length d7)).frozen 4; have HW6 := Lib.hid hown6; have HB6 := Lib.hid hb6; clear hown6 hgrow6 hb6 b6))
          obtain ⟨wb, hwb⟩ : ∃ wb, (w6.setCell ⟨r, 3, none⟩ (.slice A7 D.length d7)).setCell ⟨r, 4, none⟩ (.slice none 0 0) = wb := ⟨_, rfl⟩
          have hRb := HRa.out.keptSet HB6.out D _ HW6.out
          have hs6 := HB6.out.size
          have hCb : Chg F w wb := by rw [← hwb]; exact ((HCa.out.below HB6.out (by omega)).setCell (p := ⟨r, 3, none⟩) (.inl H.out.own) _).setCell (p := ⟨r, 4, none⟩) (.inl H.out.own) _
          rw [hwb] at hRb ⊢
          have hsb : w6.heap.size ≤ wb.heap.size := by rw [← hwb]; simp [World.setCell]
          have y5 : wb.cell? ⟨r, 5, none⟩ = some s.vq := hRb.blk.cell 5
          have z5 := hRb.blk.frozen 5
          have y6 : (wb.setCell ⟨r, 5, none⟩ (.slice none 0 0)).cell? ⟨r, 6, none⟩ = some (.int .i64 s.stop) := (hRb.blk.set_ 5 _).cell 6
          have z6 := (hRb.blk.set_ 5 (.slice none 0 0)).frozen 6
          have HRb := Lib.hid hRb
          have HCb := Lib.hid hCb
          clear hwb hRb hCb y3 z3 y4 z4
          go_wp2
          go_end0
          refine ⟨rfl, { s with files := fs, dir := D, kept := D, pend := [], flts := [], stop := -1, vd := .slice A4' D.length d4', vk := .slice A7 D.length d7, vp := .slice none 0 0, vq := .slice none 0 0 }, ?_, ?_, ?_⟩
          · refine (HRb.out.turn { s with files := fs, dir := D, kept := D, pend := [], flts := [], stop := -1, vd := .slice A4' D.length d4', vk := .slice A7 D.length d7, vp := .slice none 0 0, vq := .slice none 0 0 } false false false (by simp [World.setCell]) ?_ ((HRb.out.blk.set_ 5 (.slice none 0 0)).set_ 6 (.int .i64 (-1))) (.inl ⟨rfl, rfl, rfl⟩) (.inl ⟨rfl, rfl⟩) (.inl ⟨rfl, rfl⟩) (.inl ⟨rfl, rfl, rfl⟩) (.inr (RRow.nil _ _ _ _)) H.out.capB).inF (fun k hk => ?_)
            · intro k hk hne _ _ _
              rw [Below.heap_setCell _ _ _ _ hne, Below.heap_setCell _ _ _ _ hne]
            · rcases hk with (((hk | hk) | hk) | hk) | hk
              · exact .inl hk
              · exact .inr hk
              all_goals exact .inr (by omega)
          · show RS.pl _ = s.pl.crash cs
            unfold PS.crash
            rw [HCD.out, ← HKEYS.out, HEQ.out]
            rfl
          · exact (HCb.out.setCell (p := ⟨r, 5, none⟩) (.inl H.out.own) _).setCell (p := ⟨r, 6, none⟩) (.inl H.out.own) _
end Go.Proofs.Ytfeglchngekedaa
