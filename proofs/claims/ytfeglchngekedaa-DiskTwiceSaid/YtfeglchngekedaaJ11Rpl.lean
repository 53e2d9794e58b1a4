/- The document's disk, told plainly: what each of its functions answers and leaves. The document's disk: begin (function 42). The document's disk: what each store leaves of it. -/
import Derived.Test.YtfeglchngekedaaJ10Rset
namespace Go.Proofs.Ytfeglchngekedaa
open Go.RowKit Go.Shelf Go.Maps

/-- the document's disk without its memory -/
structure PS where
  cap : Int
  files : List (List UInt8 × Nat)
  dir : Dl
  kept : Dl
  pend : List RC
  flts : List (Int × Int)
  stop : Int
  count : Nat
def RF.pl (x : RF) : List UInt8 × Nat := (x.bs, x.kept)
def RS.pl (s : RS) : PS := { cap := s.cap, files := s.files.map RF.pl, dir := s.dir, kept := s.kept, pend := s.pend, flts := s.flts, stop := s.stop, count := s.count }

def rstruck : List (Int × Int) → Int
  | [] => 0
  | f :: l => if 0 < f.1 then rstruck l else if f.2 = 2 then 2 else 1
def rleft : List (Int × Int) → List (Int × Int)
  | [] => []
  | f :: l => if 0 < f.1 then (f.1 - 1, f.2) :: rleft l else rleft l
def PS.begun (x : PS) : PS := { x with count := x.count + 1, flts := rleft x.flts, stop := if 0 < x.stop then x.stop - 1 else x.stop }
/-- the refusal and the kind of what struck -/
def PS.beginC (x : PS) : Int × Int := if x.stop = 0 then (7, 0) else if rstruck x.flts = 0 then (0, 0) else (6, rstruck x.flts)

theorem rleft_append (a b : List (Int × Int)) : rleft (a ++ b) = rleft a ++ rleft b := by
  induction a with
  | nil => rfl
  | cons f a ih =>
    simp only [List.cons_append, rleft, ih]
    split <;> rfl
theorem rstruck_append (a b : List (Int × Int)) : rstruck (a ++ b) = if rstruck a = 0 then rstruck b else rstruck a := by
  induction a with
  | nil => rfl
  | cons f a ih =>
    simp only [List.cons_append, rstruck, ih]
    split
    · rfl
    · split <;> rfl
theorem rleft_take (l : List (Int × Int)) (k : Nat) (h : k < l.length) : rleft (l.take (k + 1)) = rleft (l.take k) ++ (if 0 < l[k].1 then [(l[k].1 - 1, l[k].2)] else []) := by
  rw [List.take_succ_eq_append_getElem h, rleft_append]
  rfl
theorem rstruck_take (l : List (Int × Int)) (k : Nat) (h : k < l.length) : rstruck (l.take (k + 1)) = if rstruck (l.take k) = 0 then (if 0 < l[k].1 then 0 else if l[k].2 = 2 then 2 else 1) else rstruck (l.take k) := by
  rw [List.take_succ_eq_append_getElem h, rstruck_append]
  rfl
theorem rleft_len : ∀ l : List (Int × Int), (rleft l).length ≤ l.length
  | [] => Nat.le_refl _
  | f :: l => by
    have := rleft_len l
    show (if 0 < f.1 then _ else _ : List (Int × Int)).length ≤ _
    split <;> simp <;> omega
theorem rstruck_range : ∀ l : List (Int × Int), rstruck l = 0 ∨ rstruck l = 1 ∨ rstruck l = 2
  | [] => .inl rfl
  | f :: l => by
    show (if 0 < f.1 then rstruck l else if f.2 = 2 then 2 else 1) = 0 ∨ (if 0 < f.1 then rstruck l else if f.2 = 2 then 2 else 1) = 1 ∨ (if 0 < f.1 then rstruck l else if f.2 = 2 then 2 else 1) = 2
    split
    · exact rstruck_range l
    · split
      · exact .inr (.inr rfl)
      · exact .inr (.inl rfl)

/-! ### the operations, plainly -/
def PS.created (x : PS) (nm : Nm) : PS := { x with files := x.files ++ [([], 0)], dir := ddel x.dir nm ++ [(nm, x.files.length)], pend := x.pend ++ [⟨1, [], nm, x.files.length⟩] }
def PS.create (x : PS) (nm : ByteArray) : Int × PS :=
  if x.beginC.1 = 0 then
    if rightB nm = true then
      match dget x.dir nm.data.toList with
      | some _ => (4, x.begun)
      | none => (0, x.begun.created nm.data.toList)
    else (2, x.begun)
  else (x.beginC.1, x.begun)
def flen (l : List (List UInt8 × Nat)) (f : Nat) : Nat := match l[f]? with
  | some y => y.1.length
  | none => 0
def PS.used (x : PS) : Nat := (x.dir.map fun e => flen x.files e.2).sum
def PS.add (x : PS) (f : Nat) (b : List UInt8) : PS := { x with files := x.files.modify f fun y => (y.1 ++ b, y.2) }
def PS.addTo (x : PS) (nm : Nm) (b : List UInt8) : PS := match dget x.dir nm with
  | some f => x.add f b
  | none => x
def PS.fits (x : PS) (nm : ByteArray) (n : Nat) : Int :=
  if rightB nm = true then
    match dget x.dir nm.data.toList with
    | some _ => if n = 0 ∨ (n : Int) ≤ x.cap - (x.used : Int) then 0 else 5
    | none => 3
  else 2
def PS.append (x : PS) (nm : ByteArray) (b : List UInt8) : Int × PS :=
  if x.beginC.1 = 0 then (x.fits nm b.length, if x.fits nm b.length = 0 then x.begun.addTo nm.data.toList b else x.begun)
  else (x.beginC.1, if x.beginC.2 = 2 ∧ x.fits nm b.length = 0 then x.begun.addTo nm.data.toList (b.take (b.length / 2)) else x.begun)
def PS.synced (x : PS) (f : Nat) : PS := { x with files := x.files.modify f fun y => (y.1, y.1.length) }
def PS.sync (x : PS) (nm : ByteArray) : Int × PS :=
  if x.beginC.1 = 0 then
    if rightB nm = true then
      match dget x.dir nm.data.toList with
      | some f => (0, x.begun.synced f)
      | none => (3, x.begun)
    else (2, x.begun)
  else (x.beginC.1, x.begun)
def PS.renamed (x : PS) (old nm : Nm) (f : Nat) : PS := { x with dir := ddel (ddel x.dir old) nm ++ [(nm, f)], pend := x.pend ++ [⟨2, old, nm, f⟩] }
def PS.rename (x : PS) (old nm : ByteArray) : Int × PS :=
  if x.beginC.1 = 0 then
    if rightB old = true ∧ rightB nm = true then
      match dget x.dir old.data.toList with
      | some f => if old.data.toList = nm.data.toList then (0, x.begun) else (0, x.begun.renamed old.data.toList nm.data.toList f)
      | none => (3, x.begun)
    else (2, x.begun)
  else (x.beginC.1, x.begun)
def PS.removed (x : PS) (nm : Nm) : PS := { x with dir := ddel x.dir nm, pend := x.pend ++ [⟨3, [], nm, 0⟩] }
def PS.remove (x : PS) (nm : ByteArray) : Int × PS :=
  if x.beginC.1 = 0 then
    if rightB nm = true then
      match dget x.dir nm.data.toList with
      | some _ => (0, x.begun.removed nm.data.toList)
      | none => (3, x.begun)
    else (2, x.begun)
  else (x.beginC.1, x.begun)
def PS.syncDir (x : PS) : Int × PS := if x.beginC.1 = 0 then (0, { x.begun with kept := x.dir, pend := [] }) else (x.beginC.1, x.begun)
def PS.read (x : PS) (nm : ByteArray) : List UInt8 × Int :=
  if rightB nm = true then
    match dget x.dir nm.data.toList with
    | some f => ((match x.files[f]? with
      | some y => y.1
      | none => []), 0)
    | none => ([], 3)
  else ([], 2)
def PS.fault (x : PS) (n k : Int) : PS := { x with flts := x.flts ++ [(max n 0, k)] }

/-- bounds of the document's disk, and what its numbers mean -/
structure PB (n : Nat) (x : PS) : Prop where
  count : x.count ≤ n
  fltsL : x.flts.length ≤ n
  flts0 : ∀ f ∈ x.flts, 0 ≤ f.1 ∧ f.1 ≤ 9223372036854775807
  stopB : -1 ≤ x.stop ∧ x.stop ≤ 9223372036854775807
  filesL : x.files.length ≤ n
  dirL : x.dir.length ≤ n
  keptL : x.kept.length ≤ n
  pendL : x.pend.length ≤ n
  dirF : ∀ e ∈ x.dir, e.2 < x.files.length
  keptF : ∀ e ∈ x.kept, e.2 < x.files.length
  pendF : ∀ c ∈ x.pend, c.kind = 3 ∨ c.file < x.files.length
  bytesL : ∀ f ∈ x.files, f.1.length ≤ 1000 * n ∧ f.2 ≤ f.1.length
  dirN : ∀ e ∈ x.dir, e.1.length ≤ 64
  keptN : ∀ e ∈ x.kept, e.1.length ≤ 64
  pendN : ∀ c ∈ x.pend, c.old.length ≤ 64 ∧ c.nm.length ≤ 64

theorem atZ_cases (l : Dl) (s : Nm) : (dget l s = none ∧ atZ l s = -1) ∨ ∃ (k : Nat) (h : k < l.length), atZ l s = (k : Int) ∧ l[k].1 = s ∧ dget l s = some l[k].2 := by
  unfold atZ dget
  cases hf : l.findIdx? (fun x => x.1 == s) with
  | none =>
    refine .inl ⟨?_, rfl⟩
    rw [List.findIdx?_eq_none_iff] at hf
    rw [List.find?_eq_none.2 (fun x hx => by simpa using hf x hx)]
    rfl
  | some k =>
    obtain ⟨hk, he, hno⟩ := List.findIdx?_eq_some_iff_getElem.1 hf
    refine .inr ⟨k, hk, rfl, by simpa using he, ?_⟩
    have : l.find? (fun x => x.1 == s) = some l[k] := by
      rw [List.find?_eq_some_iff_getElem]
      exact ⟨he, k, hk, rfl, fun j hj => by simpa using hno j hj⟩
    rw [this]
    rfl

theorem rfsV_length (l : List RF) : (rfsV l).length = l.length * 2 := by
  induction l with
  | nil => rfl
  | cons a l ih =>
    show (rfV a ++ rfsV l).length = _
    rw [List.length_append, ih]
    simp [rfV]; omega
theorem rfsV_snoc (l : List RF) (x : RF) : rfsV (l ++ [x]) = rfsV l ++ rfV x := by simp [rfsV]
theorem rcsV_snoc (l : List RC) (x : RC) : rcsV (l ++ [x]) = rcsV l ++ rcV x := by simp [rcsV]
theorem rfsV_at : ∀ (l : List RF) (k : Nat) (h : k < l.length), (rfsV l)[k * 2]? = some l[k].v ∧ (rfsV l)[k * 2 + 1]? = some (.int .i64 (l[k].kept : Int))
  | [], k, h => absurd h (Nat.not_lt_zero _)
  | a :: l, 0, h => ⟨rfl, rfl⟩
  | a :: l, k + 1, h => by
    have := rfsV_at l k (by simpa using h)
    have e : rfsV (a :: l) = rfV a ++ rfsV l := rfl
    have e3 : (rfV a).length = 2 := rfl
    rw [e, List.getElem?_append_right (by rw [e3]; omega), List.getElem?_append_right (by rw [e3]; omega), e3]
    refine ⟨?_, ?_⟩
    · rw [show (k + 1) * 2 - 2 = k * 2 by omega]; exact this.1
    · rw [show (k + 1) * 2 + 1 - 2 = k * 2 + 1 by omega]; exact this.2
theorem rcsV_at : ∀ (l : List RC) (k : Nat) (h : k < l.length), (rcsV l)[k * 4]? = some (.int .i64 l[k].kind) ∧ (rcsV l)[k * 4 + 1]? = some (nmV l[k].old) ∧ (rcsV l)[k * 4 + 2]? = some (nmV l[k].nm) ∧ (rcsV l)[k * 4 + 3]? = some (.int .i64 (l[k].file : Int))
  | [], k, h => absurd h (Nat.not_lt_zero _)
  | a :: l, 0, h => ⟨rfl, rfl, rfl, rfl⟩
  | a :: l, k + 1, h => by
    have := rcsV_at l k (by simpa using h)
    have e : rcsV (a :: l) = rcV a ++ rcsV l := rfl
    have e3 : (rcV a).length = 4 := rfl
    rw [e, List.getElem?_append_right (by rw [e3]; omega), List.getElem?_append_right (by rw [e3]; omega), List.getElem?_append_right (by rw [e3]; omega), List.getElem?_append_right (by rw [e3]; omega), e3]
    refine ⟨?_, ?_, ?_, ?_⟩
    · rw [show (k + 1) * 4 - 4 = k * 4 by omega]; exact this.1
    · rw [show (k + 1) * 4 + 1 - 4 = k * 4 + 1 by omega]; exact this.2.1
    · rw [show (k + 1) * 4 + 2 - 4 = k * 4 + 2 by omega]; exact this.2.2.1
    · rw [show (k + 1) * 4 + 3 - 4 = k * 4 + 3 by omega]; exact this.2.2.2
end Go.Proofs.Ytfeglchngekedaa
namespace Go.Proofs.Ytfeglchngekedaa
open Go.RowKit Go.Shelf Go.Maps

theorem info108 : (Try.prog.info? 108).map (fun i => (i.zero, i.size, i.bytes)) = some (some (.agg #[.int .i64 0, .int .i64 0]), 2, 16) := by kernel_rfl

/-- what begin of the document's disk leaves -/
def RBeginPost (w : World) (F : Nat → Prop) (r : Nat) (s : RS) (e : Ending) (w' : World) : Prop :=
  ∃ s', e = .returned (.tuple #[.int .i64 s.pl.beginC.1, .int .i64 s.pl.beginC.2]) ∧ RefAt w' (Gr F w) r s' ∧ s'.pl = s.pl.begun ∧ Chg F w w'

def RBegR (w1 : World) (l : List (Int × Int)) (st v i : Value) (wr : World) : Prop :=
  ∃ (k : Nat) (u : Value), k ≤ l.length ∧ u = v ∧ st = .int .i64 (rstruck (l.take k)) ∧ i = .int .i64 k ∧ wr.ownsRow w1.heap.size 108 2 u (rleft (l.take k)).length (fltsV (rleft (l.take k))) ∧ Below w1.heap.size w1 wr

set_option maxRecDepth 100000 in
set_option maxHeartbeats 6400000 in
theorem rbegin_any (w : World) (F : Nat → Prop) (r : Nat) (s : RS) (h : RefAt w F r s) (ho : s.count ≤ 1000000) (hf : s.flts.length ≤ 100000) (hfr : ∀ x ∈ s.flts, 0 ≤ x.1 ∧ x.1 ≤ 9223372036854775807) (hst : -1 ≤ s.stop ∧ s.stop ≤ 9223372036854775807) :
    Calls Try.prog 42 #[.pointer (some ⟨r, 0, none⟩)] w (RBeginPost w F r s) := by
  obtain ⟨i0, hi, hz0, hz1, hz2⟩ := info_parts info108
  have HI := Lib.hid hi
  have HZ0 := Lib.hid hz0
  have HZ1 := Lib.hid hz1
  have HZ2 := Lib.hid hz2
  obtain ⟨-, -, -, -, -, -, -, c7⟩ := h.cells
  have f7 := h.blk.frozen 7
  obtain ⟨A5, d5, hvq⟩ := own_slice h.flts.row
  have HVQ := Lib.hid hvq
  have HA5 := Lib.hid (show 0 < s.flts.length → ∃ g, A5 = some ⟨g, 0, none⟩ from fun h0 => by
    obtain ⟨g, c, e⟩ := own_succ h.flts.row h0
    rw [hvq] at e
    injection e with e
    exact ⟨g, e⟩)
  have hr := h.blk.lt
  have H := Lib.hid h
  have HFR := Lib.hid hfr
  clear h hi hz0 hz1 hz2 hvq hfr
  go_enter Try.func42, Try.ntmps42
  go_wp2_with fail
  obtain ⟨w1, hw1⟩ : ∃ w1, w.setCell ⟨r, 7, none⟩ (.int .i64 ((s.count : Int) + 1)) = w1 := ⟨_, rfl⟩
  have hs1 : w1.heap.size = w.heap.size := by rw [← hw1]; simp [World.setCell]
  have hk1 : ∀ k, k ≠ r → w1.heap[k]? = w.heap[k]? := fun k hk => by rw [← hw1]; exact Below.heap_setCell w ⟨r, 7, none⟩ _ k hk
  have hb1 : Blk w1 r 58 #[.int .i64 s.cap, s.vf, s.vd, s.vk, s.vp, s.vq, .int .i64 s.stop, .int .i64 ((s.count : Int) + 1)] := by
    rw [← hw1]; exact H.out.blk.set_ 7 _
  have hc1 : Chg F w w1 := by rw [← hw1]; exact (Chg.refl F w).setCell (.inl H.out.own) _
  rw [hw1]
  have hRF1 : Reads w1 w1.heap.size 2 A5 s.flts.length (fltsV s.flts) := by
    have := own_keep (w' := w1) H.out.flts.row (fun k hk _ => hk1 k (fun e => own_blk_ne H.out.flts.row H.out.blk (by decide) (by rw [hk, e])))
    rw [HVQ.out] at this
    exact Reads.of_own this
  have HRF1 := Lib.hid hRF1
  have HK1 := Lib.hid hk1
  have HB1 := Lib.hid hb1
  have HC1 := Lib.hid hc1
  have hp1 : r < w1.heap.size := by omega
  clear hw1 hk1 hb1 hc1 hRF1 c7 f7
  generalize hl : s.flts = fl at *
  go_loopw [4, 5, 6] (fun st v i wr => RBegR w1 fl st v i wr) (fun _ _ i _ => fl.length - (intOf i).toNat)
  case atStart => exact ⟨0, _, Nat.zero_le _, rfl, rfl, rfl, World.ownsRow_nil _ _ _ _, Below.refl _ _⟩
  case round =>
    obtain ⟨k, u, hk, hu, rfl, rfl, ho, hb⟩ := hrel
    subst hu
    have hBR := HB1.out.below hb hp1
    have c5 : wr.cell? ⟨r, 5, none⟩ = some (.slice A5 fl.length d5) := (hBR.cell 5).trans (congrArg some HVQ.out)
    have HO := Lib.hid ho
    have HB := Lib.hid hb
    have HBR := Lib.hid hBR
    have hsz := hb.size
    clear ho hb hBR
    by_cases hlt : k < fl.length
    · have hfa := fltsV_at fl k hlt
      have hLS := rleft_take fl k hlt
      have hSS := rstruck_take fl k hlt
      have hll := rleft_len (fl.take k)
      have hge : 0 ≤ fl[k].1 ∧ fl[k].1 ≤ 9223372036854775807 := HFR.out _ (List.getElem_mem _)
      rw [List.length_take] at hll
      obtain ⟨ad, hA, hg5, hcell⟩ := HRF1.out.2 (by omega)
      obtain ⟨g5, hA'⟩ := HA5.out (by omega)
      subst hA'
      obtain rfl : ⟨g5, 0, none⟩ = ad := by injection hA
      clear hA
      have hadd : ∀ j, (⟨g5, 0, none⟩ : Addr).add j = ⟨g5, j, none⟩ := fun j => by unfold Addr.add; split <;> simp_all
      obtain ⟨x, y, hxy⟩ : ∃ x y, fl[k] = (x, y) := ⟨_, _, rfl⟩
      rw [hxy] at hfa hLS hSS hge
      have e0 : w1.cell? ⟨g5, k * 2, none⟩ = some (.int .i64 x) := by rw [← hadd]; exact hcell _ _ hfa.1
      have e1 : w1.cell? ⟨g5, k * 2 + 1, none⟩ = some (.int .i64 y) := by rw [← hadd]; exact hcell _ _ hfa.2
      have d0 : wr.cell? ⟨g5, k * 2, none⟩ = some (.int .i64 x) := (HB.out.cell (p := ⟨g5, k * 2, none⟩) hg5).trans e0
      have d1 : wr.cell? ⟨g5, k * 2 + 1, none⟩ = some (.int .i64 y) := (HB.out.cell (p := ⟨g5, k * 2 + 1, none⟩) hg5).trans e1
      clear e0 e1
      have HLS := Lib.hid hLS
      have HSS := Lib.hid hSS
      clear hfa hLS hSS hcell hxy hadd
      have hkl : (rleft (fl.take k)).length ≤ 100000 := by omega
      clear hll
      have hge' : 0 ≤ x := hge.1
      have hge2 : x ≤ 9223372036854775807 := hge.2
      clear hge
      by_cases hx : 0 < x
      · have HX := Lib.hid hx
        go_wp2_with (at_builtin; go_loud (refine wpList_append_any _ rfl (.tmp 34) (.tmp 41) 56 rfl w1.heap.size 108 i0 (.agg #[.int .i64 0, .int .i64 0]) 2 16 Try.underlying56 HI.out HZ0.out HZ1.out HZ2.out rfl (by omega) u _ _ rfl ((HO.out.alloc _).alloc _) (wr.heap.size + 2) (some ⟨wr.heap.size + 1, 0, none⟩) 1 1 [.int .i64 (x - 1), .int .i64 y] rfl (by have := reads_new2 (wr.alloc (.cells #[.int .i64 x, .int .i64 y] 108)) 108 (.int .i64 (x - 1)) (.int .i64 y); rwa [World.size_alloc] at this) (fltV_one (x - 1, y)) (by simp [maxLen]; omega) (by omega) (by simp; omega) ?_; intro v2 w2 hown2 hgrow2 _; have HW2 := Lib.hid hown2; have HG2 := Lib.hid hgrow2; clear hown2 hgrow2))
        refine ⟨⟨k + 1, v2, by omega, rfl, ?_, by go_num, ?_, ((HB.out.alloc (by omega) _).alloc (by simp; omega) _).grown HG2.out (by simp; omega) (fun g hg => (HO.out.lt g hg).1)⟩, by simp [intOf]; omega⟩
        · rw [HSS.out, if_pos HX.out]
          rcases rstruck_range (fl.take k) with e | e | e <;> rw [e] <;> rfl
        · rw [HLS.out, if_pos HX.out, List.length_append, fltsV_snoc]
          exact HW2.out
      · have HX := Lib.hid hx
        obtain rfl : x = 0 := by omega
        rcases rstruck_range (fl.take k) with e | e | e
        · by_cases hy : y = 2
          all_goals
            have HY := Lib.hid hy
            have HE := Lib.hid e
            rw [e]
            clear e
            go_wp2
            refine ⟨⟨k + 1, u, by omega, rfl, ?_, by go_num, ?_, HB.out.alloc (by omega) _⟩, by simp [intOf]; omega⟩
            · rw [HSS.out, if_pos HE.out, if_neg HX.out]
              first | rw [if_pos HY.out] | rw [if_neg HY.out]
            · rw [HLS.out, if_neg HX.out, List.append_nil]; exact HO.out.alloc _
        all_goals
          have HE := Lib.hid e
          rw [e]
          clear e
          go_wp2
          refine ⟨⟨k + 1, u, by omega, rfl, ?_, by go_num, ?_, HB.out.alloc (by omega) _⟩, by simp [intOf]; omega⟩
          · rw [HSS.out, if_neg (by rw [HE.out]; decide), HE.out]
          · rw [HLS.out, if_neg HX.out, List.append_nil]; exact HO.out.alloc _
    · obtain rfl : k = fl.length := by omega
      have HO' := Lib.hid (show wr.ownsRow w1.heap.size 108 2 u (rleft fl).length (fltsV (rleft fl)) by have := HO.out; rwa [List.take_length] at this)
      have f5 := HBR.out.frozen 5
      have c6 : (wr.setCell ⟨r, 5, none⟩ u).cell? ⟨r, 6, none⟩ = some (.int .i64 s.stop) := (HBR.out.set_ 5 u).cell 6
      have f6 := (HBR.out.set_ 5 u).frozen 6
      rw [List.take_length]
      obtain ⟨A7, d7, hu⟩ := own_slice HO'.out
      subst hu
      clear HO hlt
      have hfin : ∀ (sp : Int) (k : Int × Int) w4, w4 = (if 0 < s.stop then (wr.setCell ⟨r, 5, none⟩ (.slice A7 (rleft fl).length d7)).setCell ⟨r, 6, none⟩ (.int .i64 sp) else wr.setCell ⟨r, 5, none⟩ (.slice A7 (rleft fl).length d7)) → (0 < s.stop → sp = s.stop - 1) → s.pl.beginC = k → RBeginPost w F r s (.returned (.tuple #[.int .i64 k.1, .int .i64 k.2])) w4 := by
        rintro sp k w4 rfl hsp rfl
        refine ⟨{ s with count := s.count + 1, flts := rleft fl, stop := (if 0 < s.stop then s.stop - 1 else s.stop), vq := .slice A7 (rleft fl).length d7 }, rfl, ?_, ?_, ?_⟩
        · refine H.out.turn _ false false false ?_ ?_ ?_ (.inl ⟨rfl, rfl, rfl⟩) (.inl ⟨rfl, rfl⟩) (.inl ⟨rfl, rfl⟩) (.inl ⟨rfl, rfl, rfl⟩) (.inr ?_) H.out.capB
          · split <;> simp [World.setCell] <;> omega
          · intro k hk hne _ _ _
            have e1 := (HB.out.block k (by omega)).trans (HK1.out k hne)
            split
            · rw [Below.heap_setCell _ _ _ _ hne, Below.heap_setCell _ _ _ _ hne, e1]
            · rw [Below.heap_setCell _ _ _ _ hne, e1]
          · split
            · rename_i hp
              have := (HBR.out.set_ 5 (.slice A7 (rleft fl).length d7)).set_ 6 (.int .i64 sp)
              rw [hsp hp] at this ⊢
              exact this
            · exact HBR.out.set_ 5 (.slice A7 (rleft fl).length d7)
          · have h1 := ownsRow_setCell_below HO'.out (a := ⟨r, 5, none⟩) hp1 (.slice A7 (rleft fl).length d7)
            refine ⟨?_, fun k hk => .inr ?_⟩
            · split
              · exact own_low (ownsRow_setCell_below h1 (a := ⟨r, 6, none⟩) hp1 _) (Nat.zero_le _)
              · exact own_low h1 (Nat.zero_le _)
            · have := (h1.lt k hk).1
              omega
        · unfold RS.pl PS.begun; rw [hl]
        · have h1 := (HC1.out.below HB.out (by omega)).setCell (p := ⟨r, 5, none⟩) (.inl H.out.own) (.slice A7 (rleft fl).length d7)
          split
          · exact h1.setCell (p := ⟨r, 6, none⟩) (.inl H.out.own) _
          · exact h1
      have HFIN := Lib.hid hfin
      have hbc : s.pl.beginC = if s.stop = 0 then (7, 0) else if rstruck fl = 0 then (0, 0) else (6, rstruck fl) := by unfold PS.beginC RS.pl; rw [hl]
      have HBC := Lib.hid hbc
      clear hfin hbc
      rcases Int.lt_trichotomy s.stop 0 with h0 | h0 | h0
      · obtain h1 : s.stop = -1 := by omega
        have HH := Lib.hid h1
        rw [h1] at c6
        rcases rstruck_range fl with e | e | e
        all_goals
          have HE := Lib.hid e
          rw [e]
          clear e h0 h1
          go_wp2
          go_ret2
          first
            | exact HFIN.out 0 (0, 0) _ (by rw [HH.out]; rfl) (by rw [HH.out]; omega) (by rw [HBC.out, HE.out, HH.out]; rfl)
            | exact HFIN.out 0 (6, 1) _ (by rw [HH.out]; rfl) (by rw [HH.out]; omega) (by rw [HBC.out, HE.out, HH.out]; rfl)
            | exact HFIN.out 0 (6, 2) _ (by rw [HH.out]; rfl) (by rw [HH.out]; omega) (by rw [HBC.out, HE.out, HH.out]; rfl)
      · have HH := Lib.hid h0
        rw [h0] at c6
        clear h0
        go_wp2
        go_ret2
        exact HFIN.out 0 (7, 0) _ (by rw [HH.out]; rfl) (by rw [HH.out]; omega) (by rw [HBC.out, HH.out]; rfl)
      · have HH := Lib.hid h0
        have hne : (s.stop == 0) = false := by simp; omega
        rcases rstruck_range fl with e | e | e
        all_goals
          have HE := Lib.hid e
          rw [e]
          clear e
          go_wp2
          go_ret2
          first
            | exact HFIN.out (s.stop - 1) (0, 0) _ (by rw [if_pos HH.out]) (fun _ => rfl) (by rw [HBC.out, HE.out, if_neg (by have := HH.out; omega)]; rfl)
            | exact HFIN.out (s.stop - 1) (6, 1) _ (by rw [if_pos HH.out]) (fun _ => rfl) (by rw [HBC.out, HE.out, if_neg (by have := HH.out; omega)]; rfl)
            | exact HFIN.out (s.stop - 1) (6, 2) _ (by rw [if_pos HH.out]) (fun _ => rfl) (by rw [HBC.out, HE.out, if_neg (by have := HH.out; omega)]; rfl)
end Go.Proofs.Ytfeglchngekedaa
namespace Go.Proofs.Ytfeglchngekedaa
open Go.RowKit Go.Shelf Go.Maps

theorem info88 : (Try.prog.info? 88).map (fun i => (i.zero, i.size, i.bytes)) = some (some (.agg #[.slice none 0 0, .int .i64 0]), 2, 32) := by kernel_rfl
theorem info91 : (Try.prog.info? 91).map (fun i => (i.zero, i.size, i.bytes)) = some (some (.agg #[.int .i64 0, .string ⟨#[]⟩, .string ⟨#[]⟩, .int .i64 0]), 4, 48) := by kernel_rfl

/-- a cell of an own row is written -/
theorem own_set {w : World} {base : Nat} {e : TypeId} {size : Nat} {n c g : Nat} {xs : List Value} (h : w.ownsRow base e size (.slice (some ⟨g, 0, none⟩) n c) n xs) (i : Nat) (u : Value) :
    (w.setCell ⟨g, i, none⟩ u).ownsRow base e size (.slice (some ⟨g, 0, none⟩) n c) n (xs.set i u) := by
  obtain ⟨h1, h2⟩ := h
  refine ⟨by rw [List.length_set]; exact h1, ?_⟩
  rcases h2 with ⟨h2, _⟩ | ⟨g', cap, cur, he, hb, hh, hn, hm, hs, ht⟩
  · cases h2
  · injection he with he _ hc
    injection he with he
    injection he with he
    subst he
    subst hc
    refine .inr ⟨g, c, cur.setIfInBounds i u, rfl, hb, ?_, hn, hm, by simpa using hs, ?_⟩
    · simp [World.setCell, Array.getElem?_modify, hh]
    · rw [Array.toList_setIfInBounds, List.take_set, ht]

/-- what is left of a call of the document's disk that answers a refusal -/
def RPost (w : World) (F : Nat → Prop) (r : Nat) (x : Int × PS) (e : Ending) (w' : World) : Prop :=
  ∃ s', e = .returned (.int .i64 x.1) ∧ RefAt w' (Gr F w) r s' ∧ s'.pl = x.2 ∧ Chg F w w'

section
variable {w w1 w2 : World} {F : Nat → Prop} {r : Nat} {s : RS}
theorem RefAt.below {B : Nat} (h : RefAt w F r s) (hb : Below B w w1) (hB : w.heap.size ≤ B) : RefAt w1 F r s := h.keep (fun k _ hk => hb.block k (by omega)) hb.size fun _ h => h
/-- the directory is laid anew -/
theorem RefAt.dirSet (h : RefAt w F r s) (hb : Below w.heap.size w w1) (d : Dl) (v : Value) (hv : w1.ownsRow w.heap.size 94 2 v d.length (entsV d)) : RefAt (w1.setCell ⟨r, 2, none⟩ v) (Gr F w) r { s with dir := d, vd := v } := by
  have hr := h.blk.lt
  have hs := hb.size
  refine h.turn _ false false false (by simpa [World.setCell] using hs) ?_ ((h.blk.below hb hr).set_ 2 v) (.inl ⟨rfl, rfl, rfl⟩) (.inr ⟨own_low (ownsRow_setCell_below hv (a := ⟨r, 2, none⟩) hr v) (Nat.zero_le _), fun k hk => .inr (hv.lt k hk).1⟩) (.inl ⟨rfl, rfl⟩) (.inl ⟨rfl, rfl, rfl⟩) (.inl ⟨rfl, rfl, rfl⟩) h.capB
  intro k hk hne _ _ _
  rw [Below.heap_setCell _ _ _ _ hne, hb.block k hk]
/-- a change is put behind the others -/
theorem RefAt.pendAdd (h : RefAt w F r s) (c : RC) (v : Value) (o : Obj) (hg : (w.alloc o).grownBy w1 s.vp.ownBlock) (hv : w1.ownsRow 0 91 4 v (s.pend.length + 1) (rcsV s.pend ++ rcV c))
    (hl : v.ownBlock = s.vp.ownBlock ∨ v.ownBlock = some (w.alloc o).heap.size) : RefAt (w1.setCell ⟨r, 4, none⟩ v) (Gr F w) r { s with pend := s.pend ++ [c], vp := v } := by
  have hr := h.blk.lt
  have hs := hg.size
  rw [World.size_alloc] at hs
  have hb : Blk w1 r 58 _ := (h.blk.alloc o).grown hg (Ne.symm (own_blk_ne h.pend.row h.blk (by decide)))
  refine h.turn _ false true false (by simp [World.setCell]; omega) ?_ (hb.set_ 4 v) (.inl ⟨rfl, rfl, rfl⟩) (.inl ⟨rfl, rfl⟩) (.inl ⟨rfl, rfl⟩) (.inr ⟨?_, fun k hk => ?_⟩) (.inl ⟨rfl, rfl, rfl⟩) h.capB
  · intro k hk hne _ h1 _
    rw [Below.heap_setCell _ _ _ _ hne, hg.block k (by rw [World.size_alloc]; omega) (Ne.symm (h1 rfl)), Below.heap_alloc _ _ _ hk]
  · have e : (s.pend ++ [c]).length = s.pend.length + 1 := by simp
    show (w1.setCell ⟨r, 4, none⟩ v).ownsRow 0 91 4 v (s.pend ++ [c]).length (rcsV (s.pend ++ [c]))
    rw [e, rcsV_snoc]
    exact ownsRow_setCell_other hv (own_blk_ne hv hb (by decide)) _
  · rcases hl with e | e
    · exact .inl (h.pend.rowF k (by rw [← e]; exact hk))
    · have hk' : v.ownBlock = some k := hk
      rw [e] at hk'
      injection hk' with hk'
      rw [World.size_alloc] at hk'
      exact .inr (by omega)
/-- an empty file is put behind the others -/
theorem RefAt.fileAdd (h : RefAt w F r s) (v : Value) (o : Obj) (hg : (w.alloc o).grownBy w1 s.vf.ownBlock) (hv : w1.ownsRow 0 88 2 v (s.files.length + 1) (rfsV s.files ++ [.slice none 0 0, .int .i64 0]))
    (hl : v.ownBlock = s.vf.ownBlock ∨ v.ownBlock = some (w.alloc o).heap.size) : RefAt (w1.setCell ⟨r, 1, none⟩ v) (Gr F w) r { s with files := s.files ++ [⟨.slice none 0 0, [], 0⟩], vf := v } := by
  have hr := h.blk.lt
  have hs := hg.size
  rw [World.size_alloc] at hs
  have hb : Blk w1 r 58 _ := (h.blk.alloc o).grown hg (Ne.symm (own_blk_ne h.files.row h.blk (by decide)))
  refine h.turn _ true false false (by simp [World.setCell]; omega) ?_ (hb.set_ 1 v) (.inr ⟨⟨?_, fun k hk => ?_⟩, fun x hx => ?_⟩) (.inl ⟨rfl, rfl⟩) (.inl ⟨rfl, rfl⟩) (.inl ⟨rfl, rfl, rfl⟩) (.inl ⟨rfl, rfl, rfl⟩) h.capB
  · intro k hk hne h1 _ _
    rw [Below.heap_setCell _ _ _ _ hne, hg.block k (by rw [World.size_alloc]; omega) (Ne.symm (h1 rfl)), Below.heap_alloc _ _ _ hk]
  · have e : (s.files ++ [(⟨.slice none 0 0, [], 0⟩ : RF)]).length = s.files.length + 1 := by simp
    show (w1.setCell ⟨r, 1, none⟩ v).ownsRow 0 88 2 v (s.files ++ [(⟨.slice none 0 0, [], 0⟩ : RF)]).length (rfsV (s.files ++ [⟨.slice none 0 0, [], 0⟩]))
    rw [e, rfsV_snoc]
    exact ownsRow_setCell_other hv (own_blk_ne hv hb (by decide)) _
  · rcases hl with e | e
    · exact .inl (h.files.rowF k (by rw [← e]; exact hk))
    · have hk' : v.ownBlock = some k := hk
      rw [e] at hk'
      injection hk' with hk'
      rw [World.size_alloc] at hk'
      exact .inr (by omega)
  · rcases List.mem_append.1 hx with hx | hx
    · exact .inl ⟨x, hx, rfl, rfl, (h.bytes x hx).le⟩
    · rw [List.mem_singleton.1 hx]
      exact .inr ⟨⟨none, 0, rfl, Nat.le_refl _, ⟨rfl, fun h0 => absurd h0 (Nat.lt_irrefl _)⟩, fun ad e _ => by cases e⟩, Nat.le_refl _⟩
end

theorem rcV_one (k : Int) (a b : ByteArray) (f : Int) : ∀ u ∈ [Value.int .i64 k, .string a, .string b, .int .i64 f], u.oneCell' = true := by
  intro u hu
  simp only [List.mem_cons, List.not_mem_nil, or_false] at hu
  rcases hu with rfl | rfl | rfl | rfl <;> rfl
theorem reads_new4 (w : World) (t : TypeId) (a b c d : Value) : Reads (w.alloc (.cells #[a, b, c, d] t)) (w.heap.size + 1) 4 (some ⟨w.heap.size, 0, none⟩) 1 [a, b, c, d] := by
  have hb := Blk.new w t #[a, b, c, d]
  refine ⟨rfl, fun _ => ⟨_, rfl, Nat.lt_succ_self _, fun j u hu => ?_⟩⟩
  have e : (⟨w.heap.size, 0, none⟩ : Addr).add j = ⟨w.heap.size, j, none⟩ := by unfold Addr.add; split <;> simp_all
  rw [e, hb.cell j]
  match j with
  | 0 => exact hu
  | 1 => exact hu
  | 2 => exact hu
  | 3 => exact hu
  | j + 4 => cases hu

theorem reads_ents {w : World} {F : Nat → Prop} {r : Nat} {s : RS} (h : RefAt w F r s) {A : Option Addr} {c : Nat} (hv : s.vd = .slice A s.dir.length c) : Reads w w.heap.size 2 A s.dir.length (entsV s.dir) := by
  have := h.dir.row
  rw [hv] at this
  exact Reads.of_own this

set_option maxRecDepth 100000 in
set_option maxHeartbeats 6400000 in
theorem rcreate_any (w : World) (F : Nat → Prop) (r : Nat) (s : RS) (n : Nat) (nm : ByteArray) (h : RefAt w F r s) (hb : PB n s.pl) (hn : n ≤ 100000) (hnm : nm.size ≤ 9223372036854775807) :
    Calls Try.prog 20 #[.pointer (some ⟨r, 0, none⟩), .string nm] w (RPost w F r (s.pl.create nm)) := by
  obtain ⟨i8, hi8, hz80, hz81, hz82⟩ := info_parts info88
  have HI8 := Lib.hid hi8
  have HZ80 := Lib.hid hz80
  have HZ81 := Lib.hid hz81
  have HZ82 := Lib.hid hz82
  obtain ⟨i9, hi9, hz90, hz91, hz92⟩ := info_parts info91
  have HI9 := Lib.hid hi9
  have HZ90 := Lib.hid hz90
  have HZ91 := Lib.hid hz91
  have HZ92 := Lib.hid hz92
  have H := Lib.hid h
  have HPB := Lib.hid hb
  clear h hb hi8 hz80 hz81 hz82 hi9 hz90 hz91 hz92
  go_enter Try.func20, Try.ntmps20
  go_wp2_with fail
  refine (rbegin_any w F r s H.out (by have := HPB.out.count; have e : s.pl.count = s.count := rfl; omega) (by have := HPB.out.fltsL; have e : s.pl.flts = s.flts := rfl; rw [e] at this; omega) (fun x hx => HPB.out.flts0 x hx) HPB.out.stopB).mono ?_
  rintro e w2 ⟨s2, rfl, hD2, hpl, hc2⟩
  have hd2 : s2.dir = s.dir := congrArg PS.dir hpl
  have hl2 : s2.dir.length ≤ 100000 := by rw [hd2]; exact Nat.le_trans HPB.out.dirL hn
  have hf2 : s2.files.length ≤ 100000 := by
    have e := congrArg (fun x => x.files.length) hpl
    have e2 := HPB.out.filesL
    simp only [RS.pl, PS.begun, List.length_map] at e e2
    omega
  have hp2 : s2.pend.length ≤ 100000 := by
    have e := congrArg (fun x => x.pend.length) hpl
    have e2 := HPB.out.pendL
    simp only [RS.pl, PS.begun] at e e2
    omega
  have hs2 := hc2.size
  have HD := Lib.hid hD2
  have HC := Lib.hid hc2
  have HPL := Lib.hid hpl
  have HDD := Lib.hid hd2
  clear hD2 hc2 hpl hd2
  obtain ⟨why, kd, hk⟩ : ∃ why kd, s.pl.beginC = (why, kd) := ⟨_, _, rfl⟩
  rw [hk]
  have HK := Lib.hid hk
  clear hk
  by_cases hwy : why = 0
  · subst hwy
    go_wp2_with fail
    refine (rright_any nm w2 hnm).mono ?_
    rintro e w3 ⟨rfl, rfl⟩
    cases hrt : rightB nm with
    | false =>
      have HRT := Lib.hid hrt
      clear hrt
      go_wp2
      refine bodyPost_ret (results_tmp rfl _ _ _) rfl ?_
      have ex : s.pl.create nm = (2, s.pl.begun) := by unfold PS.create; rw [HK.out, HRT.out]; rfl
      rw [ex]
      exact ⟨s2, rfl, HD.out, HPL.out, HC.out⟩
    | true =>
      have HRT := Lib.hid hrt
      clear hrt
      obtain ⟨A2, d2, hvd⟩ := own_slice HD.out.dir.row
      have c2 : w2.cell? ⟨r, 2, none⟩ = some (.slice A2 s2.dir.length d2) := (HD.out.blk.cell 2).trans (congrArg some hvd)
      have HVD := Lib.hid hvd
      clear hvd
      go_wp2_with fail
      refine (at_any w2 _ A2 d2 s2.dir nm (reads_ents HD.out HVD.out) (by omega)).mono ?_
      rintro e w3 ⟨rfl, rfl⟩
      rcases atZ_cases s2.dir nm.data.toList with ⟨hdg, haz⟩ | ⟨k, hk, haz, hnk, hdg⟩
      · rw [haz]
        have HDG := Lib.hid hdg
        clear hdg haz
        obtain ⟨A1, d1, hvf⟩ := own_slice HD.out.files.row
        obtain ⟨A4, d4, hvp⟩ := own_slice HD.out.pend.row
        have hof := HD.out.files.row
        rw [hvf] at hof
        have HOF := Lib.hid hof
        have HVF := Lib.hid hvf
        have HVP := Lib.hid hvp
        have c1 : w2.cell? ⟨r, 1, none⟩ = some (.slice A1 s2.files.length d1) := (HD.out.blk.cell 1).trans (congrArg some hvf)
        have HB2 := Lib.hid HD.out.blk
        have hrl := HD.out.blk.lt
        clear hvf hvp hof
        go_wp2_with (at_builtin; go_loud (refine wpList_append_any _ rfl (.tmp 33) (.tmp 35) 53 rfl 0 88 i8 (.agg #[.slice none 0 0, .int .i64 0]) 2 32 Try.underlying53 HI8.out HZ80.out HZ81.out HZ82.out rfl (by omega) (.slice A1 s2.files.length d1) s2.files.length (rfsV s2.files) rfl (HOF.out.alloc _) (w2.heap.size + 1) (some ⟨w2.heap.size, 0, none⟩) 1 1 [.slice none 0 0, .int .i64 0] rfl (reads_new2 w2 88 _ _) (by intro u hu; simp at hu; rcases hu with rfl | rfl <;> rfl) (by simp [maxLen]; omega) (by omega) (Nat.zero_le _) ?_; intro v4 w4 hown4 hgrow4 hloc4; obtain ⟨A5, d5, hv5⟩ := own_slice hown4; subst hv5; have b4 := (HB2.out.alloc (.cells #[.slice none 0 0, .int .i64 0] 88)).grown hgrow4 (Ne.symm (own_blk_ne HOF.out HB2.out (by decide))); have y1 : w4.cell? ⟨r, 1, none⟩ = some s2.vf := b4.cell 1; have z1 := b4.frozen 1; have y2 : w4.cell? ⟨r, 2, none⟩ = some (.slice A2 s2.dir.length d2) := (b4.cell 2).trans (congrArg some HVD.out); have HW4 := Lib.hid hown4; have HG4 := Lib.hid hgrow4; have HL4 := Lib.hid hloc4; have HB4 := Lib.hid b4; clear hown4 hgrow4 hloc4 b4))
        have hs4 := HG4.out.size
        rw [World.size_alloc] at hs4
        obtain ⟨w5, hw5⟩ : ∃ w5, w4.setCell ⟨r, 1, none⟩ (.slice A5 (s2.files.length + 1) d5) = w5 := ⟨_, rfl⟩
        have hD5 : RefAt w5 (Gr (Gr F w) w2) r { s2 with files := s2.files ++ [⟨.slice none 0 0, [], 0⟩], vf := .slice A5 (s2.files.length + 1) d5 } := by
          rw [← hw5]
          exact HD.out.fileAdd (.slice A5 (s2.files.length + 1) d5) (.cells #[.slice none 0 0, .int .i64 0] 88) (by rw [HVF.out]; exact HG4.out) HW4.out (by rw [HVF.out]; exact HL4.out)
        have hC5 : Chg F w w5 := by
          rw [← hw5]
          exact ((HC.out.alloc _).grown HG4.out (fun g hg => HD.out.files.rowF g (by rw [HVF.out]; exact hg))).setCell (p := ⟨r, 1, none⟩) HD.out.own _
        have hs5 : w4.heap.size ≤ w5.heap.size := by rw [← hw5]; simp [World.setCell]
        rw [hw5]
        have HD5 := Lib.hid hD5
        have HC5 := Lib.hid hC5
        have hod := hD5.dir.row
        have HOD := Lib.hid (show w5.ownsRow 0 94 2 (.slice A2 s2.dir.length d2) s2.dir.length (entsV s2.dir) by rw [← HVD.out]; exact hod)
        clear hw5 hD5 hC5 hod
        refine (set_any w5 A2 d2 s2.dir nm s2.files.length HOD.out (by omega)).mono ?_
        rintro e w6 ⟨v6, rfl, hrow6, hb6⟩
        obtain ⟨N, hN⟩ : ∃ N, (ddel s2.dir nm.data.toList ++ [(nm.data.toList, s2.files.length)]).length = N := ⟨_, rfl⟩
        obtain ⟨A6, d6, hv6⟩ := own_slice hrow6
        rw [hN] at hv6
        subst hv6
        have HN := Lib.hid hN
        clear hN
        have b6 := HD5.out.blk.below hb6 HD5.out.blk.lt
        have y2 : w6.cell? ⟨r, 2, none⟩ = some s2.vd := b6.cell 2
        have z2 := b6.frozen 2
        have y4 : w6.cell? ⟨r, 4, none⟩ = some (.slice A4 s2.pend.length d4) := (b6.cell 4).trans (congrArg some HVP.out)
        have hs6 := hb6.size
        have HROW6 := Lib.hid hrow6
        have HB6 := Lib.hid hb6
        clear b6 hrow6 hb6
        go_upto_region 11 with fail
        obtain ⟨w7, hw7⟩ : ∃ w7, w6.setCell ⟨r, 2, none⟩ (.slice A6 N d6) = w7 := ⟨_, rfl⟩
        have hD7 := HD5.out.dirSet HB6.out _ _ HROW6.out
        have hC7 := (HC5.out.below HB6.out (by omega)).setCell (p := ⟨r, 2, none⟩) (.inl H.out.own) (.slice A6 N d6)
        rw [hw7] at hD7 hC7
        have hs7 : w6.heap.size ≤ w7.heap.size := by rw [← hw7]; simp [World.setCell]
        have e4 : w7.cell? ⟨r, 4, none⟩ = some (.slice A4 s2.pend.length d4) := (hD7.blk.cell 4).trans (congrArg some HVP.out)
        rw [hw7]
        have HD7 := Lib.hid hD7
        have HC7 := Lib.hid hC7
        have HOP := Lib.hid (show w7.ownsRow 0 91 4 (.slice A4 s2.pend.length d4) s2.pend.length (rcsV s2.pend) by rw [← HVP.out]; exact hD7.pend.row)
        have HB7 := Lib.hid hD7.blk
        clear hw7 hD7 hC7 y2 z2 y4
        go_wp2_with (at_builtin; go_loud (refine wpList_append_any _ rfl (.tmp 59) (.tmp 63) 55 rfl 0 91 i9 (.agg #[.int .i64 0, .string ⟨#[]⟩, .string ⟨#[]⟩, .int .i64 0]) 4 48 Try.underlying55 HI9.out HZ90.out HZ91.out HZ92.out rfl (by omega) (.slice A4 s2.pend.length d4) s2.pend.length (rcsV s2.pend) rfl (HOP.out.alloc _) (w7.heap.size + 1) (some ⟨w7.heap.size, 0, none⟩) 1 1 [.int .i64 1, .string ⟨#[]⟩, .string nm, .int .i64 (s2.files.length : Int)] rfl (reads_new4 w7 91 _ _ _ _) (rcV_one 1 _ nm _) (by simp [maxLen]; omega) (by omega) (Nat.zero_le _) ?_; intro v8 w8 hown8 hgrow8 hloc8; obtain ⟨A8, d8, hv8⟩ := own_slice hown8; subst hv8; have b8 := (HB7.out.alloc (.cells #[.int .i64 1, .string ⟨#[]⟩, .string nm, .int .i64 (s2.files.length : Int)] 91)).grown hgrow8 (Ne.symm (own_blk_ne HOP.out HB7.out (by decide))); have y8 : w8.cell? ⟨r, 4, none⟩ = some s2.vp := b8.cell 4; have z8 := b8.frozen 4; have HW8 := Lib.hid hown8; have HG8 := Lib.hid hgrow8; have HL8 := Lib.hid hloc8; clear hown8 hgrow8 hloc8 b8))
        refine bodyPost_ret (results_tmp rfl _ _ _) rfl ?_
        have hs8 := HG8.out.size
        rw [World.size_alloc] at hs8
        have ex : s.pl.create nm = (0, s.pl.begun.created nm.data.toList) := by
          unfold PS.create
          rw [HK.out, HRT.out, if_pos rfl, if_pos rfl, show s.pl.dir = s2.dir from HDD.out.symm, HDG.out]
        have hD9 := HD7.out.pendAdd ⟨1, [], nm.data.toList, s2.files.length⟩ (.slice A8 (s2.pend.length + 1) d8) (.cells #[.int .i64 1, .string ⟨#[]⟩, .string nm, .int .i64 (s2.files.length : Int)] 91) (by show World.grownBy _ _ s2.vp.ownBlock; rw [HVP.out]; exact HG8.out) HW8.out (by show _ = s2.vp.ownBlock ∨ _; rw [HVP.out]; exact HL8.out)
        rw [ex]
        refine ⟨_, rfl, hD9.inF (fun k hk => ?_), ?_, ?_⟩
        · rcases hk with ((hk | hk) | hk) | hk
          · exact hk
          all_goals exact .inr (by omega)
        · rw [← HPL.out]
          simp [RS.pl, PS.created, RF.pl]
        · exact ((HC7.out.alloc _).grown HG8.out (fun g hg => HD.out.pend.rowF g (by rw [HVP.out]; exact hg))).setCell (p := ⟨r, 4, none⟩) HD.out.own _
      · rw [haz]
        have HDG := Lib.hid hdg
        clear hdg haz hnk
        go_wp2
        refine bodyPost_ret (results_tmp rfl _ _ _) rfl ?_
        have ex : s.pl.create nm = (4, s.pl.begun) := by
          unfold PS.create
          rw [HK.out, HRT.out, if_pos rfl, if_pos rfl, show s.pl.dir = s2.dir from HDD.out.symm, HDG.out]
        rw [ex]
        exact ⟨s2, rfl, HD.out, HPL.out, HC.out⟩
  · have hq : (why != 0) = true := by simp [hwy]
    have HWY := Lib.hid hwy
    clear hwy
    go_wp2
    refine bodyPost_ret (results_tmp rfl _ _ _) rfl ?_
    have ex : s.pl.create nm = (why, s.pl.begun) := by unfold PS.create; rw [HK.out, if_neg HWY.out]
    rw [ex]
    exact ⟨s2, rfl, HD.out, HPL.out, HC.out⟩
end Go.Proofs.Ytfeglchngekedaa
