/- The document's comparison of any two rows of labels (20). The plain law of the merge: series of one set of labels, side by side, become one; the document's merge says the same. The document's merge: its row in memory, and what one series does with it, plainly. -/
import Derived.Test.YtnglejopbpnknaaJ03InsSer
import Derived.Test.YtnglejopbpnknaaJ05InsSmp
import Derived.Test.YtnglejopbpnknaaJ08RPut
namespace Go.Proofs.Ytnglejopbpnknaa
open Go.RowKit
def RcR (w : World) (a b : List Lbl) (i : Value) (wr : World) : Prop :=
  ∃ k q : Nat, i = .int .i64 (k : Int) ∧ k ≤ a.length ∧ k ≤ b.length ∧ cmpL a b = cmpL (a.drop k) (b.drop k) ∧ wr = w.drewN q
theorem cmpS_lt {x y : ByteArray} (h : Op.bytesLess x.toList y.toList = true) : cmpS x y = -1 := by unfold cmpS cmpB; rw [h]; rfl
theorem cmpS_eq {x y : ByteArray} (h : (x.toList == y.toList) = true) : cmpS x y = 0 := by unfold cmpS cmpB; rw [eq_of_beq h, bytesLess_self]; rfl
theorem cmpS_gt {x y : ByteArray} (h1 : Op.bytesLess x.toList y.toList = false) (h2 : (x.toList == y.toList) = false) : cmpS x y = 1 := by
  have h3 : Op.bytesLess y.toList x.toList = true := by
    cases h4 : Op.bytesLess y.toList x.toList with
    | true => rfl
    | false => exact absurd (bl_tri _ _ h1 h4) (by simpa using h2)
  unfold cmpS cmpB
  rw [h1, h3]; rfl
theorem less_of_eq {x y : ByteArray} (h : (x.toList == y.toList) = true) : Op.bytesLess x.toList y.toList = false := by rw [eq_of_beq h, bytesLess_self]
set_option maxRecDepth 100000 in
set_option maxHeartbeats 6400000 in
theorem rcompare_any (w : World) (B : Nat) (v1 v2 : Value) (a b : List Lbl) (h1 : LabsAt w B v1 a) (h2 : LabsAt w B v2 b) (ha : a.length ≤ 100000) (hb : b.length ≤ 100000) :
    Calls Try.prog 20 #[v1, v2] w fun e w' => e = .returned (.int .i64 (cmpL a b)) ∧ ∃ q, w' = w.drewN q := by
  obtain ⟨A1, c1, rfl, hr1⟩ := h1
  obtain ⟨A2, c2, rfl, hr2⟩ := h2
  obtain ⟨n1, hn1⟩ : ∃ n, n = a.length := ⟨_, rfl⟩
  obtain ⟨n2, hn2⟩ : ∃ n, n = b.length := ⟨_, rfl⟩
  rw [← hn1] at hr1 ha ⊢
  rw [← hn2] at hr2 hb ⊢
  have HR1 := Lib.hid hr1
  have HR2 := Lib.hid hr2
  have HN1 := Lib.hid hn1
  have HN2 := Lib.hid hn2
  have HI := Lib.hid (show RcR w a b (.int .i64 0) w from ⟨0, 0, rfl, Nat.zero_le _, Nat.zero_le _, rfl, rfl⟩)
  clear hr1 hr2 hn1 hn2
  go_enter Try.func20, Try.ntmps20
  go_wp2_with fail
  go_loopw [5] (fun i wr => RcR w a b i wr) (fun i _ => n1 - (intOf i).toNat)
  case atStart => exact HI.out
  case round =>
    obtain ⟨k, q0, rfl, hka, hkb, hc, hw⟩ := hrel
    have HC := Lib.hid hc
    have HW := Lib.hid hw
    have hn1 := HN1.out
    have hn2 := HN2.out
    by_cases hlt : k < n1 ∧ k < n2
    · obtain ⟨hlt1, hlt2⟩ := hlt
      have i1 : (k : Int) < (n1 : Int) := by omega
      have i2 : (k : Int) < (n2 : Int) := by omega
      have i3 : (0 : Int) ≤ (k : Int) := by omega
      obtain ⟨p, hp⟩ : ∃ p, a[k]? = some p := ⟨_, List.getElem?_eq_getElem (by omega)⟩
      obtain ⟨q, hq⟩ : ∃ p, b[k]? = some p := ⟨_, List.getElem?_eq_getElem (by omega)⟩
      have hda : a.drop k = p :: a.drop (k + 1) := by
        obtain ⟨h8, h9⟩ := List.getElem?_eq_some_iff.1 hp
        rw [List.drop_eq_getElem_cons h8, h9]
      have hdb : b.drop k = q :: b.drop (k + 1) := by
        obtain ⟨h8, h9⟩ := List.getElem?_eq_some_iff.1 hq
        rw [List.drop_eq_getElem_cons h8, h9]
      obtain ⟨d1, rfl, -, x1, x2⟩ := HR1.out.two hp
      obtain ⟨d2, rfl, -, y1, y2⟩ := HR2.out.two hq
      obtain ⟨p1, p2⟩ := p
      obtain ⟨q1, q2⟩ := q
      dsimp only at x1 x2 y1 y2
      replace x1 : wr.cell? (d1.add (k * 2)) = some (.string p1) := by rw [hw]; exact x1
      replace x2 : wr.cell? ⟨(d1.add (k * 2)).block, (d1.add (k * 2)).off + 1, none⟩ = some (.string p2) := by rw [hw]; exact x2
      replace y1 : wr.cell? (d2.add (k * 2)) = some (.string q1) := by rw [hw]; exact y1
      replace y2 : wr.cell? ⟨(d2.add (k * 2)).block, (d2.add (k * 2)).off + 1, none⟩ = some (.string q2) := by rw [hw]; exact y2
      have HDA := Lib.hid hda
      have HDB := Lib.hid hdb
      have hrow : cmpL a b = lex (cmpLab (p1, p2) (q1, q2)) (cmpL (a.drop (k + 1)) (b.drop (k + 1))) := by rw [hc, hda, hdb]; rfl
      have HROW := Lib.hid hrow
      have s1 : IntKind.i64.wrap ((k : Int) + 1) = ((k + 1 : Nat) : Int) := (IntWalk.i64_in _ (by omega)).trans (by omega)
      clear hp hq hda hdb hc hw hn1 hn2 hrow
      go_upto_region 4 with fail
      go_quiet (fail)
      obtain ⟨wA, hwA⟩ : ∃ wA, wA = wr.drewN nq := ⟨_, rfl⟩
      rw [← hwA]
      replace x1 : wA.cell? (d1.add (k * 2)) = some (.string p1) := by rw [hwA]; exact x1
      replace x2 : wA.cell? ⟨(d1.add (k * 2)).block, (d1.add (k * 2)).off + 1, none⟩ = some (.string p2) := by rw [hwA]; exact x2
      replace y1 : wA.cell? (d2.add (k * 2)) = some (.string q1) := by rw [hwA]; exact y1
      replace y2 : wA.cell? ⟨(d2.add (k * 2)).block, (d2.add (k * 2)).off + 1, none⟩ = some (.string q2) := by rw [hwA]; exact y2
      have HwA := Lib.hid (show ∃ q, wA = w.drewN q from ⟨q0 + nq, by rw [hwA, HW.out, World.drewN_drewN]⟩)
      clear hwA
      cases h1 : Op.bytesLess p1.toList q1.toList with
      | true =>
        have HH := Lib.hid (cmpS_lt h1)
        clear h1 x1 x2 y1 y2
        go_wp2_with fail
        refine bodyPost_ret (results_tmp rfl _ _ _) rfl ?_
        refine ⟨?_, HwA.out⟩
        rw [HROW.out, show cmpLab (p1, p2) (q1, q2) = lex (cmpS p1 q1) (cmpS p2 q2) from rfl, HH.out]
        rfl
      | false =>
        have HH0 := Lib.hid h1
        go_upto_region 6 with fail
        go_quiet (fail)
        obtain ⟨wB, hwB⟩ : ∃ wB, wB = wA.drewN nq := ⟨_, rfl⟩
        rw [← hwB]
        replace x1 : wB.cell? (d1.add (k * 2)) = some (.string p1) := by rw [hwB]; exact x1
        replace x2 : wB.cell? ⟨(d1.add (k * 2)).block, (d1.add (k * 2)).off + 1, none⟩ = some (.string p2) := by rw [hwB]; exact x2
        replace y1 : wB.cell? (d2.add (k * 2)) = some (.string q1) := by rw [hwB]; exact y1
        replace y2 : wB.cell? ⟨(d2.add (k * 2)).block, (d2.add (k * 2)).off + 1, none⟩ = some (.string q2) := by rw [hwB]; exact y2
        have HwB := Lib.hid (show ∃ q, wB = w.drewN q by obtain ⟨q, e⟩ := HwA.out; exact ⟨q + nq, by rw [hwB, e, World.drewN_drewN]⟩)
        clear hwB
        cases h2 : p1.toList == q1.toList with
        | false =>
          have HH := Lib.hid (cmpS_gt HH0.out h2)
          simp only [HH0.out, Bool.or_self, Bool.not_false]
          clear h2 x1 x2 y1 y2
          go_wp2_with fail
          refine bodyPost_ret (results_tmp rfl _ _ _) rfl ?_
          refine ⟨?_, HwB.out⟩
          rw [HROW.out, show cmpLab (p1, p2) (q1, q2) = lex (cmpS p1 q1) (cmpS p2 q2) from rfl, HH.out]
          rfl
        | true =>
          have HH := Lib.hid (cmpS_eq h2)
          simp only [HH0.out, Bool.false_or, Bool.not_true]
          clear h2
          go_upto_region 8 with fail
          go_quiet (fail)
          obtain ⟨wC, hwC⟩ : ∃ wC, wC = wB.drewN nq := ⟨_, rfl⟩
          rw [← hwC]
          replace x2 : wC.cell? ⟨(d1.add (k * 2)).block, (d1.add (k * 2)).off + 1, none⟩ = some (.string p2) := by rw [hwC]; exact x2
          replace y2 : wC.cell? ⟨(d2.add (k * 2)).block, (d2.add (k * 2)).off + 1, none⟩ = some (.string q2) := by rw [hwC]; exact y2
          have HwC := Lib.hid (show ∃ q, wC = w.drewN q by obtain ⟨q, e⟩ := HwB.out; exact ⟨q + nq, by rw [hwC, e, World.drewN_drewN]⟩)
          clear hwC
          clear x1 y1
          cases h3 : Op.bytesLess p2.toList q2.toList with
          | true =>
            have HH2 := Lib.hid (cmpS_lt h3)
            clear h3 x2 y2
            go_wp2_with fail
            refine bodyPost_ret (results_tmp rfl _ _ _) rfl ?_
            refine ⟨?_, HwC.out⟩
            rw [HROW.out, show cmpLab (p1, p2) (q1, q2) = lex (cmpS p1 q1) (cmpS p2 q2) from rfl, HH.out, HH2.out]
            rfl
          | false =>
            have HH1 := Lib.hid h3
            go_upto_region 10 with fail
            go_quiet (fail)
            obtain ⟨wD, hwD⟩ : ∃ wD, wD = wC.drewN nq := ⟨_, rfl⟩
            rw [← hwD]
            have HwD := Lib.hid (show ∃ q, wD = w.drewN q by obtain ⟨q, e⟩ := HwC.out; exact ⟨q + nq, by rw [hwD, e, World.drewN_drewN]⟩)
            clear hwD
            clear x2 y2
            cases h4 : p2.toList == q2.toList with
            | false =>
              have HH2 := Lib.hid (cmpS_gt HH1.out h4)
              simp only [HH1.out, Bool.or_self, Bool.not_false]
              clear h4
              go_wp2_with fail
              refine bodyPost_ret (results_tmp rfl _ _ _) rfl ?_
              refine ⟨?_, HwD.out⟩
              rw [HROW.out, show cmpLab (p1, p2) (q1, q2) = lex (cmpS p1 q1) (cmpS p2 q2) from rfl, HH.out, HH2.out]
              rfl
            | true =>
              have HH2 := Lib.hid (cmpS_eq h4)
              simp only [HH1.out, Bool.false_or, Bool.not_true]
              clear h4
              go_wp2_with fail
              obtain ⟨q9, e9⟩ := HwD.out
              refine ⟨⟨k + 1, q9, rfl, by have := HN1.out; omega, by have := HN2.out; omega, ?_, e9⟩, by simp [intOf]; omega⟩
              rw [HROW.out, show cmpLab (p1, p2) (q1, q2) = lex (cmpS p1 q1) (cmpS p2 q2) from rfl, HH.out, HH2.out]
              rfl
    · have hdd : (k = n1 ∨ k = n2) := by omega
      by_cases e1 : k < n1
      case' pos =>
        have i1 : (k : Int) < (n1 : Int) := by omega
        have i2 : ¬ (k : Int) < (n2 : Int) := by omega
        have i6 : decide ((k : Int) < (n1 : Int)) = true := decide_eq_true i1
        have i5 : ¬ (n1 : Int) < (n2 : Int) := by omega
        have i4 : (n2 : Int) < (n1 : Int) := by omega
        have HV := Lib.hid (show cmpL a b = 1 by
          rw [hc, List.drop_of_length_le (l := b) (by omega)]
          cases e : a.drop k with
          | nil => have := congrArg List.length e; rw [List.length_drop] at this; simp at this; omega
          | cons q r => rfl)
        clear hc hn1 hn2 hw hdd hlt
        go_wp2_with fail
        refine bodyPost_ret (results_tmp rfl _ _ _) rfl ?_
        exact ⟨by rw [HV.out]; rfl, _, HW.out⟩
      case' neg =>
        have i1 : ¬ (k : Int) < (n1 : Int) := by omega
        have i6 : decide ((k : Int) < (n1 : Int)) = false := decide_eq_false i1
        by_cases e2 : k < n2
        · have i5 : (n1 : Int) < (n2 : Int) := by omega
          have HV := Lib.hid (show cmpL a b = -1 by
            rw [hc, List.drop_of_length_le (l := a) (by omega)]
            cases e : b.drop k with
            | nil => have := congrArg List.length e; rw [List.length_drop] at this; simp at this; omega
            | cons q r => rfl)
          clear hc hn1 hn2 hw hdd hlt
          go_wp2_with fail
          refine bodyPost_ret (results_tmp rfl _ _ _) rfl ?_
          exact ⟨by rw [HV.out]; rfl, _, HW.out⟩
        · have i5 : ¬ (n1 : Int) < (n2 : Int) := by omega
          have i4 : ¬ (n2 : Int) < (n1 : Int) := by omega
          have HV := Lib.hid (show cmpL a b = 0 by
            rw [hc, List.drop_of_length_le (l := a) (by omega), List.drop_of_length_le (l := b) (by omega)]
            rfl)
          clear hc hn1 hn2 hw hdd hlt
          go_wp2_with fail
          refine bodyPost_ret (results_tmp rfl _ _ _) rfl ?_
          exact ⟨by rw [HV.out]; rfl, _, HW.out⟩
end Go.Proofs.Ytnglejopbpnknaa
namespace Go.Proofs.Ytnglejopbpnknaa
abbrev ltS : Ser → Ser → Bool := fun a b => decide (cmpL a.1 b.1 < 0)
theorem ltS_rank : Rank ltS := cmpL_three.rank (fun s : Ser => s.1)
abbrev LAsc (l : List Ser) : Prop := SAsc cmpL Prod.fst l
def val (l : List Ser) (k : List Lbl) : Option (List Smp) := (fd cmpL Prod.fst l k).map Prod.snd
theorem fd_val (l : List Ser) (k : List Lbl) : fd cmpL Prod.fst l k = (val l k).map fun x => (k, x) := by
  unfold val
  cases e : fd cmpL Prod.fst l k with
  | none => rfl
  | some a =>
    have := (cmpL_three.zero _ _).1 (fd_mem e).2
    show some a = some (k, a.2)
    rw [← this]
theorem val_cons (a : Ser) (l : List Ser) (k : List Lbl) : val (a :: l) k = if cmpL a.1 k = 0 then some a.2 else val l k := by
  unfold val
  rw [fd_cons]
  split <;> rfl
theorem val_above {l : List Ser} {k : List Lbl} (h : ∀ a ∈ l, cmpL k a.1 < 0) : val l k = none := by
  unfold val
  rw [fd_above cmpL_three h]; rfl
/-- the document's: one series into the row -/
def addS : List Ser → Ser → List Ser
  | [], s => [(s.1, putAll [] s.2)]
  | y :: l, s => if cmpL y.1 s.1 < 0 then y :: addS l s else if cmpL y.1 s.1 = 0 then (y.1, putAll y.2 s.2) :: l else (s.1, putAll [] s.2) :: y :: l
def mergeP (all : List Ser) : List Ser := all.foldl addS []
def F (o : Option (List Smp)) (s : Ser) : Option (List Smp) := some (putAll (o.getD []) s.2)
theorem addS_key {l : List Ser} {s y : Ser} (h : y ∈ addS l s) : (∃ x ∈ l, x.1 = y.1) ∨ y.1 = s.1 := by
  induction l with
  | nil => simp [addS] at h; exact .inr (by rw [h])
  | cons z l ih =>
    unfold addS at h
    split at h
    · rcases List.mem_cons.1 h with rfl | h
      · exact .inl ⟨_, List.mem_cons_self, rfl⟩
      · rcases ih h with ⟨x, hx, e⟩ | h
        · exact .inl ⟨x, List.mem_cons_of_mem _ hx, e⟩
        · exact .inr h
    · split at h
      · rcases List.mem_cons.1 h with rfl | h
        · exact .inl ⟨z, List.mem_cons_self, rfl⟩
        · exact .inl ⟨y, List.mem_cons_of_mem _ h, rfl⟩
      · rcases List.mem_cons.1 h with rfl | h
        · exact .inr rfl
        · exact .inl ⟨y, h, rfl⟩
theorem addS_asc {l : List Ser} {s : Ser} (h : LAsc l) : LAsc (addS l s) := by
  induction l with
  | nil => exact List.pairwise_singleton _ _
  | cons y l ih =>
    obtain ⟨h1, h2⟩ := List.pairwise_cons.1 h
    unfold addS
    split
    · rename_i e
      refine List.pairwise_cons.2 ⟨fun z hz => ?_, ih h2⟩
      rcases addS_key hz with ⟨x, hx, e2⟩ | e2
      · rw [← e2]; exact h1 x hx
      · rw [e2]; exact e
    · split
      · exact List.pairwise_cons.2 ⟨h1, h2⟩
      · rename_i e1 e2
        have e3 : cmpL s.1 y.1 < 0 := by have := cmpL_three.anti y.1 s.1; omega
        refine List.pairwise_cons.2 ⟨fun z hz => ?_, h⟩
        rcases List.mem_cons.1 hz with rfl | hz
        · exact e3
        · exact cmpL_three.trans _ _ _ e3 (h1 z hz)
theorem addS_val {l : List Ser} {s : Ser} (h : LAsc l) (k : List Lbl) : val (addS l s) k = if cmpL s.1 k = 0 then F (val l k) s else val l k := by
  induction l with
  | nil => show val [_] k = _; rw [val_cons]; rfl
  | cons y l ih =>
    obtain ⟨h1, h2⟩ := List.pairwise_cons.1 h
    have ih := ih h2
    unfold addS
    split
    · rename_i e
      rw [val_cons, ih, val_cons]
      by_cases hy : cmpL y.1 k = 0
      · have := (cmpL_three.zero _ _).1 hy
        subst this
        have e3 := cmpL_three.anti y.1 s.1
        rw [if_pos hy, if_pos hy, if_neg (by omega)]
      · rw [if_neg hy, if_neg hy]
    · split
      · rename_i e1 e2
        have e3 := (cmpL_three.zero _ _).1 e2
        rw [val_cons, val_cons, ← e3]
        by_cases hy : cmpL y.1 k = 0
        · rw [if_pos hy, if_pos hy, if_pos hy]; rfl
        · rw [if_neg hy, if_neg hy, if_neg hy]
      · rename_i e1 e2
        have e3 : cmpL s.1 y.1 < 0 := by have := cmpL_three.anti y.1 s.1; omega
        rw [val_cons]
        by_cases hs : cmpL s.1 k = 0
        · have := (cmpL_three.zero _ _).1 hs
          rw [if_pos hs, if_pos hs, val_above fun a ha => ?_]
          · rfl
          · rw [← this]
            rcases List.mem_cons.1 ha with rfl | ha
            · exact e3
            · exact cmpL_three.trans _ _ _ e3 (h1 a ha)
        · rw [if_neg hs, if_neg hs]
def has (k : List Lbl) (s : Ser) : Bool := decide (cmpL s.1 k = 0)
theorem merge_spec (all : List Ser) : ∀ l : List Ser, LAsc l → LAsc (all.foldl addS l) ∧ ∀ k, val (all.foldl addS l) k = (all.filter (has k)).foldl F (val l k) := by
  induction all with
  | nil => intro l h; exact ⟨h, fun k => rfl⟩
  | cons s all ih =>
    intro l h
    obtain ⟨k1, k2⟩ := ih (addS l s) (addS_asc h)
    refine ⟨k1, fun k => ?_⟩
    show val (all.foldl addS (addS l s)) k = _
    rw [k2 k, addS_val h k]
    by_cases e : cmpL s.1 k = 0
    · rw [if_pos e, List.filter_cons_of_pos (by unfold has; simpa using e), List.foldl_cons]
    · rw [if_neg e, List.filter_cons_of_neg (by unfold has; simpa using e)]
def same (s t : Ser) : Bool := decide (cmpL t.1 s.1 = 0)
theorem take_imp {p : Ser → Bool} : ∀ {l : List Ser} {t : Ser}, t ∈ l.takeWhile p → p t = true
  | [], t, h => by simp at h
  | a :: l, t, h => by
    rw [List.takeWhile_cons] at h
    split at h
    · rename_i e
      rcases List.mem_cons.1 h with rfl | h
      · exact e
      · exact take_imp h
    · simp at h
/-- the program's: those side by side with one set of labels -/
def grpF : Nat → List Ser → List Ser
  | 0, _ => []
  | _ + 1, [] => []
  | n + 1, s :: l => (s.1, putAll [] ((s :: l.takeWhile (same s)).flatMap Prod.snd)) :: grpF n (l.dropWhile (same s))
def grp (l : List Ser) : List Ser := grpF l.length l
theorem drop_len (s : Ser) (l : List Ser) : (l.dropWhile (same s)).length ≤ l.length := by
  have := List.takeWhile_append_dropWhile (p := same s) (l := l)
  have := congrArg List.length this
  rw [List.length_append] at this
  omega
theorem grpF_more : ∀ (n m : Nat) (l : List Ser), l.length ≤ n → l.length ≤ m → grpF n l = grpF m l
  | 0, 0, _, _, _ => rfl
  | 0, m + 1, [], _, _ => rfl
  | 0, m + 1, _ :: _, h, _ => by simp at h
  | n + 1, 0, [], _, _ => rfl
  | n + 1, 0, _ :: _, _, h => by simp at h
  | n + 1, m + 1, [], _, _ => rfl
  | n + 1, m + 1, s :: l, h1, h2 => by
    have := drop_len s l
    simp only [List.length_cons] at h1 h2
    simp only [grpF]
    rw [grpF_more n m _ (by omega) (by omega)]
theorem grp_cons (s : Ser) (l : List Ser) : grp (s :: l) = (s.1, putAll [] ((s :: l.takeWhile (same s)).flatMap Prod.snd)) :: grp (l.dropWhile (same s)) := by
  unfold grp
  show _ :: grpF l.length (l.dropWhile (same s)) = _
  rw [grpF_more _ _ _ (drop_len s l) (Nat.le_refl _)]
theorem fold_F (ss : List Ser) : ∀ x : List Smp, ss.foldl F (some x) = some (putAll x (ss.flatMap Prod.snd)) := by
  induction ss with
  | nil => intro x; rfl
  | cons s ss ih =>
    intro x
    rw [List.foldl_cons]
    show ss.foldl F (some (putAll x s.2)) = _
    rw [ih, List.flatMap_cons]
    unfold putAll
    rw [List.foldl_append]
theorem grpF_key : ∀ (n : Nat) (l : List Ser) (y : Ser), y ∈ grpF n l → ∃ x ∈ l, x.1 = y.1
  | 0, _, y, h => by simp [grpF] at h
  | n + 1, [], y, h => by simp [grpF] at h
  | n + 1, s :: l, y, h => by
    rcases List.mem_cons.1 h with rfl | h
    · exact ⟨s, List.mem_cons_self, rfl⟩
    · obtain ⟨x, hx, e⟩ := grpF_key n _ y h
      exact ⟨x, List.mem_cons_of_mem _ ((List.dropWhile_sublist _).subset hx), e⟩
theorem grpF_spec : ∀ (n : Nat) (l : List Ser), l.length ≤ n → Asc ltS l → LAsc (grpF n l) ∧ ∀ k, val (grpF n l) k = (l.filter (has k)).foldl F none
  | 0, [], _, _ => ⟨List.Pairwise.nil, fun k => rfl⟩
  | 0, _ :: _, h, _ => by simp at h
  | n + 1, [], _, _ => ⟨List.Pairwise.nil, fun k => rfl⟩
  | n + 1, s :: l, hl, h => by
    obtain ⟨h1, h2⟩ := List.pairwise_cons.1 h
    obtain ⟨T, hT⟩ : ∃ T, T = l.takeWhile (same s) := ⟨_, rfl⟩
    obtain ⟨D, hD⟩ : ∃ D, D = l.dropWhile (same s) := ⟨_, rfl⟩
    have hTD : T ++ D = l := by rw [hT, hD]; exact List.takeWhile_append_dropWhile
    have hTs : ∀ t ∈ T, cmpL t.1 s.1 = 0 := fun t ht => by
      rw [hT] at ht
      have := take_imp ht
      unfold same at this
      simpa using this
    have hDA : Asc ltS D := by rw [hD]; exact h2.sublist (List.dropWhile_sublist _)
    have hDl : D.length ≤ n := by have := drop_len s l; rw [hD]; simp only [List.length_cons] at hl; omega
    have hDs : ∀ t ∈ D, cmpL s.1 t.1 < 0 := by
      cases hDc : D with
      | nil => intro t ht; simp at ht
      | cons d D' =>
        have hd : ¬ cmpL d.1 s.1 = 0 := by
          have := List.head?_dropWhile_not (p := same s) (l := l)
          rw [← hD, hDc] at this
          simpa [same] using this
        have hdl : d ∈ l := by rw [← hTD, hDc]; simp
        have h3 := of_decide_eq_false (h1 d hdl)
        have h4 := cmpL_three.anti d.1 s.1
        have h5 : cmpL s.1 d.1 < 0 := by omega
        intro t ht
        rw [hDc] at hDA
        rcases List.mem_cons.1 ht with rfl | ht
        · exact h5
        · have h6 := of_decide_eq_false ((List.pairwise_cons.1 hDA).1 t ht)
          have h7 := cmpL_three.anti t.1 d.1
          by_cases h8 : cmpL d.1 t.1 = 0
          · rw [← (cmpL_three.zero _ _).1 h8]; exact h5
          · exact cmpL_three.trans _ _ _ h5 (by omega)
    obtain ⟨k1, k2⟩ := grpF_spec n D hDl hDA
    have e0 : grpF (n + 1) (s :: l) = (s.1, putAll [] ((s :: T).flatMap Prod.snd)) :: grpF n D := by rw [hT, hD]; rfl
    rw [e0]
    refine ⟨List.pairwise_cons.2 ⟨fun y hy => ?_, k1⟩, fun k => ?_⟩
    · obtain ⟨x, hx, e⟩ := grpF_key n D y hy
      show cmpL s.1 y.1 < 0
      rw [← e]; exact hDs x hx
    · rw [val_cons, k2 k, ← hTD]
      by_cases hk : cmpL s.1 k = 0
      · have := (cmpL_three.zero _ _).1 hk
        subst this
        have f1 : T.filter (has s.1) = T := List.filter_eq_self.2 fun t ht => by unfold has; simpa using hTs t ht
        have f2 : D.filter (has s.1) = [] := List.filter_eq_nil_iff.2 fun t ht => by
          have := hDs t ht
          have := cmpL_three.anti t.1 s.1
          unfold has
          simp; omega
        rw [if_pos hk, List.filter_cons_of_pos (by unfold has; simpa using hk), List.filter_append, f1, f2, List.append_nil, List.foldl_cons]
        show some _ = T.foldl F (some (putAll [] s.2))
        rw [fold_F, List.flatMap_cons]
        unfold putAll
        rw [List.foldl_append]
      · have f1 : T.filter (has k) = [] := List.filter_eq_nil_iff.2 fun t ht => by
          have := (cmpL_three.zero _ _).1 (hTs t ht)
          unfold has
          rw [this]
          simpa using hk
        rw [if_neg hk, List.filter_cons_of_neg (by unfold has; simpa using hk), List.filter_append, f1, List.nil_append]
/-- both are one -/
theorem merge_eq {all L : List Ser} (h1 : Asc ltS L) (h2 : Alike ltS all L) : grp L = mergeP all := by
  obtain ⟨a1, a2⟩ := grpF_spec L.length L (Nat.le_refl _) h1
  obtain ⟨b1, b2⟩ := merge_spec all [] List.Pairwise.nil
  refine sasc_eq cmpL_three _ _ a1 b1 fun k => ?_
  have hf : all.filter (has k) = L.filter (has k) := by
    have := h2 (k, [])
    have e : eqv ltS ((k, []) : Ser) = has k := by
      funext s
      have h3 := cmpL_three.anti k s.1
      by_cases e0 : cmpL s.1 k = 0
      · have h1 : ltS ((k, []) : Ser) s = false := decide_eq_false (by show ¬ cmpL k s.1 < 0; omega)
        have h2 : ltS s ((k, []) : Ser) = false := decide_eq_false (by show ¬ cmpL s.1 k < 0; omega)
        rw [eqv, h1, h2, has, decide_eq_true e0]; rfl
      · rw [has, decide_eq_false e0]
        by_cases e1 : cmpL s.1 k < 0
        · have h2 : ltS s ((k, []) : Ser) = true := decide_eq_true e1
          rw [eqv, h2]; simp
        · have h2 : ltS ((k, []) : Ser) s = true := decide_eq_true (by show cmpL k s.1 < 0; omega)
          rw [eqv, h2]; simp
    rw [e] at this
    exact this
  show fd cmpL Prod.fst (grp L) k = fd cmpL Prod.fst (mergeP all) k
  rw [fd_val, fd_val]
  have c1 : val (grp L) k = (L.filter (has k)).foldl F none := a2 k
  have c2 : val (mergeP all) k = (all.filter (has k)).foldl F none := b2 k
  rw [c1, c2, hf]
end Go.Proofs.Ytnglejopbpnknaa
namespace Go.Proofs.Ytnglejopbpnknaa
open Go.RowKit
/-- the row of merged series: rows of its own, labels as they were given -/
def OutAt (w : World) (B : Nat) (v : Value) (out : List Ser) : Prop :=
  ∃ vs : List VV, vs.length = out.length ∧ w.ownsRow B 34 2 v out.length (flatV vs) ∧ ∀ (i : Nat) (p : VV) (s : Ser), vs[i]? = some p → out[i]? = some s → LabsAt w B p.1 s.1 ∧ w.ownsRow B 51 2 p.2 s.2.length (flatS s.2)
theorem OutAt.nil (w : World) (B : Nat) : OutAt w B (.slice none 0 0) [] := ⟨[], rfl, World.ownsRow_nil _ _ _ _, fun i p s h => by simp at h⟩
theorem OutAt.below {w w' : World} {B : Nat} {v : Value} {out : List Ser} (h : OutAt w B v out) (hb : Below w.heap.size w w') (hB : B ≤ w.heap.size) : OutAt w' B v out := by
  obtain ⟨vs, h1, h2, h3⟩ := h
  refine ⟨vs, h1, h2.kept (only_of_below hb none) (by cases v.ownBlock <;> simp), fun i p s a b => ?_⟩
  obtain ⟨k1, k2⟩ := h3 i p s a b
  exact ⟨k1.below hb hB, k2.kept (only_of_below hb none) (by cases p.2.ownBlock <;> simp)⟩
theorem OutAt.drewN {w : World} {B : Nat} {v : Value} {out : List Ser} (h : OutAt w B v out) (q : Nat) : OutAt (w.drewN q) B v out := h
theorem flat2_set {α : Type} (f g : α → Value) : ∀ (l : List α) (k : Nat) (a b : α), l[k]? = some a → f b = f a → (flat2 f g l).set (k * 2 + 1) (g b) = flat2 f g (l.set k b)
  | [], k, a, b, h, _ => by simp at h
  | c :: l, 0, a, b, h, e => by
    simp at h; subst h
    show (f c :: g c :: _).set 1 (g b) = f b :: g b :: _
    rw [e]; rfl
  | c :: l, k + 1, a, b, h, e => by
    have := flat2_set f g l k a b (by simpa using h) e
    unfold flat2 at this ⊢
    rw [List.set_cons_succ, List.flatMap_cons, List.flatMap_cons, ← this, show (k + 1) * 2 + 1 = k * 2 + 1 + 1 + 1 by omega]
    rfl
theorem LabsAt.setCell {w : World} {B : Nat} {v : Value} {ls : List Lbl} (h : LabsAt w B v ls) {p : Addr} (hB : B ≤ p.block) (u : Value) : LabsAt (w.setCell p u) B v ls := by
  obtain ⟨A, c, rfl, h2⟩ := h
  exact ⟨A, c, rfl, h2.setCell hB u⟩
/-- one element's samples laid anew -/
theorem OutAt.put {w : World} {B g n c k : Nat} {out : List Ser} {vs : List VV} {s : Ser} {p : VV} {l' : List Smp} {u : Value} (hn : n = out.length) (h1 : vs.length = out.length) (h2 : w.ownsRow B 34 2 (.slice (some ⟨g, 0, none⟩) n c) n (flatV vs))
    (h3 : ∀ (i : Nat) (p : VV) (s : Ser), vs[i]? = some p → out[i]? = some s → LabsAt w B p.1 s.1 ∧ w.ownsRow B 51 2 p.2 s.2.length (flatS s.2)) (hp : vs[k]? = some p) (hs : out[k]? = some s) (hu : w.ownsRow B 51 2 u l'.length (flatS l')) :
    OutAt (w.setCell ⟨g, k * 2 + 1, none⟩ u) B (.slice (some ⟨g, 0, none⟩) n c) (out.set k (s.1, l')) := by
  have hg : B ≤ g := (h2.lt g rfl).1
  have far : ∀ {v : Value} {m : Nat} {xs : List Value}, w.ownsRow B 51 2 v m xs → (w.setCell ⟨g, k * 2 + 1, none⟩ u).ownsRow B 51 2 v m xs := fun h => ownsRow_setCell_other h (fun e => by
    have := own_own_ne h h2 (by decide)
    rw [e] at this
    simp [Value.ownBlock] at this) _
  refine ⟨vs.set k (p.1, u), by simp [h1], ?_, fun i q t hq ht => ?_⟩
  · rw [List.length_set, ← hn]
    have := h2.stored (k * 2 + 1) u
    rw [show flatV vs = flat2 Prod.fst Prod.snd vs from rfl, flat2_set Prod.fst Prod.snd vs k p (p.1, u) hp rfl] at this
    exact this.1
  · rw [List.getElem?_set] at hq ht
    by_cases e : k = i
    · subst e
      have hk1 := (List.getElem?_eq_some_iff.1 hp).1
      have hk2 := (List.getElem?_eq_some_iff.1 hs).1
      rw [if_pos rfl, if_pos hk1] at hq
      rw [if_pos rfl, if_pos hk2] at ht
      injection hq with hq
      injection ht with ht
      subst hq ht
      exact ⟨(h3 k p s hp hs).1.setCell hg _, far hu⟩
    · rw [if_neg e] at hq ht
      obtain ⟨k1, k2⟩ := h3 i q t hq ht
      exact ⟨k1.setCell hg _, far k2⟩
theorem OutAt.one {w : World} {B : Nat} {vs : List VV} {out : List Ser} (h1 : vs.length = out.length)
    (h3 : ∀ (i : Nat) (p : VV) (s : Ser), vs[i]? = some p → out[i]? = some s → LabsAt w B p.1 s.1 ∧ w.ownsRow B 51 2 p.2 s.2.length (flatS s.2)) : ∀ u ∈ flatV vs, u.oneCell' = true := fun u hu => by
  simp only [flat2, List.mem_flatMap] at hu
  obtain ⟨p, hp, hu⟩ := hu
  obtain ⟨i, hi⟩ := List.mem_iff_getElem?.1 hp
  have hlt := (List.getElem?_eq_some_iff.1 hi).1
  obtain ⟨⟨A, c, e1, -⟩, k2⟩ := h3 i p out[i] hi (List.getElem?_eq_getElem (by omega))
  obtain ⟨A2, c2, e2⟩ := own_slice k2
  simp only [List.mem_cons, List.not_mem_nil, or_false] at hu
  rcases hu with rfl | rfl
  · rw [e1]; rfl
  · rw [e2]; rfl
theorem flatV_ins (l : List VV) (k : Nat) (x : VV) : flatV (l.take k ++ x :: l.drop k) = [] ++ (flatV l).take (k * 2) ++ [x.1, x.2] ++ (flatV l).drop (k * 2) := by
  show flat2 _ _ _ = [] ++ (flat2 _ _ l).take (k * 2) ++ [x.1, x.2] ++ (flat2 _ _ l).drop (k * 2)
  rw [flat2_append, flat2_take, flat2_drop]
  simp [flat2]
theorem ins_get {α : Type} {l : List α} {k i : Nat} {x y : α} (hk : k ≤ l.length) (h : (l.take k ++ x :: l.drop k)[i]? = some y) : (i < k ∧ l[i]? = some y) ∨ (i = k ∧ y = x) ∨ (k < i ∧ l[i - 1]? = some y) := by
  have hl : (l.take k).length = k := by rw [List.length_take]; omega
  rcases Nat.lt_trichotomy i k with e | e | e
  · rw [List.getElem?_append_left (by omega), List.getElem?_take_of_lt e] at h
    exact .inl ⟨e, h⟩
  · subst e
    rw [List.getElem?_append_right (by omega), hl, Nat.sub_self] at h
    simp at h
    exact .inr (.inl ⟨rfl, h.symm⟩)
  · rw [List.getElem?_append_right (by omega), hl, show i - k = (i - k - 1) + 1 by omega, List.getElem?_cons_succ, List.getElem?_drop, show k + (i - k - 1) = i - 1 by omega] at h
    exact .inr (.inr ⟨e, h⟩)
/-- one more element, without samples -/
theorem OutAt.ins {w : World} {B k : Nat} {out : List Ser} {vs : List VV} {v vl : Value} {ls : List Lbl} (hk : k ≤ out.length) (h1 : vs.length = out.length) (h2 : w.ownsRow B 34 2 v (out.length + 1) ([] ++ (flatV vs).take (k * 2) ++ [vl, .slice none 0 0] ++ (flatV vs).drop (k * 2)))
    (h3 : ∀ (i : Nat) (p : VV) (s : Ser), vs[i]? = some p → out[i]? = some s → LabsAt w B p.1 s.1 ∧ w.ownsRow B 51 2 p.2 s.2.length (flatS s.2)) (hv : LabsAt w B vl ls) : OutAt w B v (out.take k ++ (ls, []) :: out.drop k) := by
  refine ⟨vs.take k ++ (vl, .slice none 0 0) :: vs.drop k, by simp [h1], ?_, fun i q t hq ht => ?_⟩
  · rw [flatV_ins, show (out.take k ++ (ls, []) :: out.drop k).length = out.length + 1 by simp; omega]
    exact h2
  · rcases ins_get (by omega) hq with ⟨e, hq⟩ | ⟨e, rfl⟩ | ⟨e, hq⟩ <;> rcases ins_get hk ht with ⟨e', ht⟩ | ⟨e', rfl⟩ | ⟨e', ht⟩
    · exact h3 i q t hq ht
    · omega
    · omega
    · omega
    · exact ⟨hv, World.ownsRow_nil _ _ _ _⟩
    · omega
    · omega
    · omega
    · exact h3 (i - 1) q t hq ht
/-! ### plainly -/
def TAll (out : List Ser) (M : Nat) : Prop := ∀ y ∈ out, TAsc y.2 ∧ y.2.length ≤ M
theorem putP_len (l : List Smp) (x : Smp) : (putP l x).length ≤ l.length + 1 := by
  induction l with
  | nil => simp [putP]
  | cons y l ih =>
    unfold putP
    split
    · simp
    · split
      · simp
      · simp; omega
theorem putAll_len (xs : List Smp) : ∀ l : List Smp, (putAll l xs).length ≤ l.length + xs.length := by
  induction xs with
  | nil => intro l; exact Nat.le_refl _
  | cons x xs ih =>
    intro l
    have h1 := ih (putP l x)
    have h2 := putP_len l x
    show (putAll (putP l x) xs).length ≤ _
    simp only [List.length_cons]
    omega
theorem putAll_take {xs : List Smp} {m : Nat} {x : Smp} (l : List Smp) (h : xs[m]? = some x) : putAll l (xs.take (m + 1)) = putP (putAll l (xs.take m)) x := by
  rw [take_one xs h]
  unfold putAll
  rw [List.foldl_append]
  rfl
/-- the place of a series -/
def Place (out : List Ser) (s : Ser) (k : Nat) : Prop := k ≤ out.length ∧ ∀ i y, i < k → out[i]? = some y → cmpL y.1 s.1 < 0
theorem addS_there : ∀ (out : List Ser) (s : Ser) (k : Nat) (y : Ser), Place out s k → out[k]? = some y → cmpL y.1 s.1 = 0 → addS out s = out.set k (y.1, putAll y.2 s.2)
  | [], s, k, y, _, h, _ => by simp at h
  | z :: out, s, 0, y, hp, h, e => by
    simp at h; subst h
    unfold addS
    rw [if_neg (by omega), if_pos e]; rfl
  | z :: out, s, k + 1, y, hp, h, e => by
    have h0 := hp.2 0 z (by omega) rfl
    unfold addS
    rw [if_pos h0, addS_there out s k y ⟨by have := hp.1; simp at this; omega, fun i t hi ht => hp.2 (i + 1) t (by omega) (by simpa using ht)⟩ (by simpa using h) e]
    rfl
theorem addS_new : ∀ (out : List Ser) (s : Ser) (k : Nat), Place out s k → (∀ y, out[k]? = some y → 0 < cmpL y.1 s.1) → addS out s = (out.take k ++ (s.1, []) :: out.drop k).set k (s.1, putAll [] s.2)
  | [], s, k, hp, h => by
    have : k = 0 := by have := hp.1; simpa using this
    subst this
    rfl
  | z :: out, s, 0, hp, h => by
    have := h z rfl
    unfold addS
    rw [if_neg (by omega), if_neg (by omega)]; rfl
  | z :: out, s, k + 1, hp, h => by
    have h0 := hp.2 0 z (by omega) rfl
    unfold addS
    rw [if_pos h0, addS_new out s k ⟨by have := hp.1; simp at this; omega, fun i t hi ht => hp.2 (i + 1) t (by omega) (by simpa using ht)⟩ (fun y hy => h y (by simpa using hy))]
    rfl
theorem addS_tall {out : List Ser} {s : Ser} {M : Nat} (h : TAll out M) : TAll (addS out s) (M + s.2.length) := by
  have hnew : TAsc (putAll [] s.2) ∧ (putAll [] s.2).length ≤ M + s.2.length := ⟨(putAll_spec s.2 [] List.Pairwise.nil).1, by have := putAll_len s.2 []; simp at this; omega⟩
  induction out with
  | nil =>
    intro y hy
    simp [addS] at hy
    subst hy; exact hnew
  | cons z out ih =>
    have hz := h z List.mem_cons_self
    have ih := ih fun y hy => h y (List.mem_cons_of_mem _ hy)
    have hold : ∀ y ∈ z :: out, TAsc y.2 ∧ y.2.length ≤ M + s.2.length := fun y hy => by
      obtain ⟨a, b⟩ := h y hy
      exact ⟨a, by omega⟩
    intro y hy
    unfold addS at hy
    split at hy
    · rcases List.mem_cons.1 hy with rfl | hy
      · exact hold _ List.mem_cons_self
      · exact ih y hy
    · split at hy
      · rcases List.mem_cons.1 hy with rfl | hy
        · refine ⟨(putAll_spec s.2 z.2 hz.1).1, ?_⟩
          have := putAll_len s.2 z.2
          show (putAll z.2 s.2).length ≤ _
          omega
        · exact hold y (List.mem_cons_of_mem _ hy)
      · rcases List.mem_cons.1 hy with rfl | hy
        · exact hnew
        · exact hold y hy
theorem addS_len (out : List Ser) (s : Ser) : (addS out s).length ≤ out.length + 1 := by
  induction out with
  | nil => simp [addS]
  | cons z out ih =>
    unfold addS
    split
    · simp; omega
    · split <;> simp
theorem mergeP_snoc (pre : List Ser) (s : Ser) : mergeP (pre ++ [s]) = addS (mergeP pre) s := by
  unfold mergeP
  rw [List.foldl_append]
  rfl
theorem fold_facts (pre : List Ser) : ∀ (l : List Ser) (M : Nat), TAll l M → TAll (pre.foldl addS l) (M + (pre.flatMap Prod.snd).length) ∧ (pre.foldl addS l).length ≤ l.length + pre.length := by
  induction pre with
  | nil => intro l M h; exact ⟨by simpa using h, Nat.le_refl _⟩
  | cons s pre ih =>
    intro l M h
    obtain ⟨k1, k2⟩ := ih (addS l s) (M + s.2.length) (addS_tall h)
    have := addS_len l s
    refine ⟨?_, ?_⟩
    · rw [List.flatMap_cons, List.length_append, ← Nat.add_assoc]
      exact k1
    · rw [List.foldl_cons, List.length_cons]
      omega
theorem mergeP_facts (pre : List Ser) : TAll (mergeP pre) (pre.flatMap Prod.snd).length ∧ (mergeP pre).length ≤ pre.length := by
  obtain ⟨k1, k2⟩ := fold_facts pre [] 0 (fun y hy => by simp at hy)
  rw [Nat.zero_add] at k1
  exact ⟨k1, by rw [List.length_nil, Nat.zero_add] at k2; exact k2⟩
theorem fold_key (pre : List Ser) : ∀ (l : List Ser) (y : Ser), y ∈ pre.foldl addS l → (∃ x ∈ l, x.1 = y.1) ∨ ∃ x ∈ pre, x.1 = y.1 := by
  induction pre with
  | nil => intro l y h; exact .inl ⟨y, h, rfl⟩
  | cons s pre ih =>
    intro l y h
    rcases ih (addS l s) y h with ⟨x, hx, e⟩ | ⟨x, hx, e⟩
    · rcases addS_key hx with ⟨z, hz, e2⟩ | e2
      · exact .inl ⟨z, hz, e2.trans e⟩
      · exact .inr ⟨s, List.mem_cons_self, e2.symm.trans e⟩
    · exact .inr ⟨x, List.mem_cons_of_mem _ hx, e⟩
theorem mergeP_key {pre : List Ser} {y : Ser} (h : y ∈ mergeP pre) : ∃ x ∈ pre, x.1 = y.1 := by
  rcases fold_key pre [] y h with ⟨x, hx, -⟩ | h
  · simp at hx
  · exact h
theorem mergeP_asc (pre : List Ser) : LAsc (mergeP pre) := (merge_spec pre [] List.Pairwise.nil).1
end Go.Proofs.Ytnglejopbpnknaa
