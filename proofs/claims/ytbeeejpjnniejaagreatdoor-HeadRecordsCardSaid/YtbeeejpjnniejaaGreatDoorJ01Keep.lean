/- The keeper's comparisons, where both rows are alike (9, 10, 32), and its Within (11). The reader of expressions: more, is, takes. The document's tests of labels' texts: they answer, and touch nothing. The program's test of a label's name: letters, underscores, digits behind the first, colons. Printed by gen_named.py. -/
import Derived.Test.YtbeeejpjnniejaaGreatDoorJ00Lib
import Derived.Laws.Entries
namespace Go.Proofs.YtbeeejpjnniejaaGreatDoor
open Go.RowKit
def KpR (w : World) (n : Nat) (i : Value) (wr : World) : Prop := ∃ k q : Nat, i = .int .i64 (k : Int) ∧ k ≤ n ∧ wr = w.drewN q
set_option maxRecDepth 100000 in
set_option maxHeartbeats 3200000 in
theorem klabels_any (w : World) (B1 B2 : Nat) (v1 v2 : Value) (a : List Lbl) (h1 : LabsAt w B1 v1 a) (h2 : LabsAt w B2 v2 a) (ha : a.length ≤ 100000) :
    Calls Tryz.prog 20 #[v1, v2] w fun e w' => e = .returned (.bool true) ∧ ∃ q, w' = w.drewN q := by
  obtain ⟨A1, c1, rfl, hr1⟩ := h1
  obtain ⟨A2, c2, rfl, hr2⟩ := h2
  obtain ⟨n, hn⟩ : ∃ n, n = a.length := ⟨_, rfl⟩
  rw [← hn] at hr1 hr2 ha ⊢
  have HR1 := Lib.hid hr1
  have HR2 := Lib.hid hr2
  have HN := Lib.hid hn
  have HI := Lib.hid (show KpR w n (.int .i64 0) w from ⟨0, 0, rfl, Nat.zero_le _, rfl⟩)
  clear hr1 hr2 hn
  go_enter Tryz.func20, Tryz.ntmps20
  go_wp2_with fail
  go_loopw [5] (fun i wr => KpR w n i wr) (fun i _ => n - (intOf i).toNat)
  case atStart => exact HI.out
  case round =>
    obtain ⟨k, q0, rfl, hk, hw⟩ := hrel
    have HW := Lib.hid hw
    by_cases hlt : k < n
    · have i1 : (k : Int) < (n : Int) := by omega
      have i3 : (0 : Int) ≤ (k : Int) := by omega
      obtain ⟨p, hp⟩ : ∃ p, a[k]? = some p := ⟨_, List.getElem?_eq_getElem (by have := HN.out; omega)⟩
      obtain ⟨d1, rfl, -, x1, x2⟩ := HR1.out.two hp
      obtain ⟨d2, rfl, -, y1, y2⟩ := HR2.out.two hp
      obtain ⟨p1, p2⟩ := p
      dsimp only at x1 x2 y1 y2
      replace x1 : wr.cell? (d1.add (k * 2)) = some (.string p1) := by rw [hw]; exact x1
      replace x2 : wr.cell? ⟨(d1.add (k * 2)).block, (d1.add (k * 2)).off + 1, none⟩ = some (.string p2) := by rw [hw]; exact x2
      replace y1 : wr.cell? (d2.add (k * 2)) = some (.string p1) := by rw [hw]; exact y1
      replace y2 : wr.cell? ⟨(d2.add (k * 2)).block, (d2.add (k * 2)).off + 1, none⟩ = some (.string p2) := by rw [hw]; exact y2
      have s1 : IntKind.i64.wrap ((k : Int) + 1) = ((k + 1 : Nat) : Int) := (IntWalk.i64_in _ (by omega)).trans (by omega)
      clear hp hw
      go_upto_region 6 with fail
      go_quiet (fail)
      go_wp2
      exact ⟨⟨k + 1, q0 + nq, rfl, by omega, by rw [HW.out, World.drewN_drewN]⟩, by simp [intOf]; omega⟩
    · have i1 : ¬ (k : Int) < (n : Int) := by omega
      clear hw
      go_wp2
      refine bodyPost_ret (results_tmp rfl _ _ _) rfl ?_
      exact ⟨rfl, _, HW.out⟩
theorem tobits_call (x : Nat) (w : World) : (callFunc 114 #[.float .f64 x]).run Tryz.prog w = .ok (.value (.int .u64 (x : Int))) w :=
  run_callFunc_extern (e := Extern.MathFloatBits.float64bits) Tryz.func114 (by kernel_rfl) (by kernel_rfl) (by kernel_rfl) (by kernel_rfl) #[.float .f64 x] w
attribute [local go_sem] tobits_call in
theorem bits_any (x : Nat) (w : World) : Calls Tryz.prog 134 #[.float .f64 x, .float .f64 x] w fun e w' => e = .returned (.bool true) ∧ w' = w := by
  go_enter Tryz.func134, Tryz.ntmps134
  go_wp2
  go_ret
  exact ⟨rfl, rfl⟩
set_option maxRecDepth 100000 in
set_option maxHeartbeats 3200000 in
theorem ksamples_any (w : World) (B1 B2 : Nat) (v1 v2 : Value) (a : List Smp) (h1 : SmpsRd w B1 v1 a) (h2 : SmpsRd w B2 v2 a) (ha : a.length ≤ 100000) :
    Calls Tryz.prog 119 #[v1, v2] w fun e w' => e = .returned (.bool true) ∧ ∃ q, w' = w.drewN q := by
  obtain ⟨A1, c1, rfl, hr1⟩ := h1
  obtain ⟨A2, c2, rfl, hr2⟩ := h2
  obtain ⟨n, hn⟩ : ∃ n, n = a.length := ⟨_, rfl⟩
  rw [← hn] at hr1 hr2 ha ⊢
  have HR1 := Lib.hid hr1
  have HR2 := Lib.hid hr2
  have HN := Lib.hid hn
  have HI := Lib.hid (show KpR w n (.int .i64 0) w from ⟨0, 0, rfl, Nat.zero_le _, rfl⟩)
  clear hr1 hr2 hn
  go_enter Tryz.func119, Tryz.ntmps119
  go_wp2_with fail
  go_loopw [5] (fun i wr => KpR w n i wr) (fun i _ => n - (intOf i).toNat)
  case atStart => exact HI.out
  case round =>
    obtain ⟨k, q0, rfl, hk, hw⟩ := hrel
    have HW := Lib.hid hw
    by_cases hlt : k < n
    · have i1 : (k : Int) < (n : Int) := by omega
      have i3 : (0 : Int) ≤ (k : Int) := by omega
      obtain ⟨p, hp⟩ : ∃ p, a[k]? = some p := ⟨_, List.getElem?_eq_getElem (by have := HN.out; omega)⟩
      obtain ⟨d1, rfl, -, x1, x2⟩ := HR1.out.two hp
      obtain ⟨d2, rfl, -, y1, y2⟩ := HR2.out.two hp
      obtain ⟨p1, p2⟩ := p
      dsimp only at x1 x2 y1 y2
      replace x1 : wr.cell? (d1.add (k * 2)) = some (.int .i64 p1) := by rw [hw]; exact x1
      replace x2 : wr.cell? ⟨(d1.add (k * 2)).block, (d1.add (k * 2)).off + 1, none⟩ = some (.float .f64 p2) := by rw [hw]; exact x2
      replace y1 : wr.cell? (d2.add (k * 2)) = some (.int .i64 p1) := by rw [hw]; exact y1
      replace y2 : wr.cell? ⟨(d2.add (k * 2)).block, (d2.add (k * 2)).off + 1, none⟩ = some (.float .f64 p2) := by rw [hw]; exact y2
      have s1 : IntKind.i64.wrap ((k : Int) + 1) = ((k + 1 : Nat) : Int) := (IntWalk.i64_in _ (by omega)).trans (by omega)
      have e1 : (p1 != p1) = false := by simp
      clear hp hw
      go_upto_region 6 with fail
      go_quiet ((go_at_call 134; exact Calls.quiet_of_same (bits_any _ _)))
      go_wp2
      exact ⟨⟨k + 1, q0 + nq, rfl, by omega, by rw [HW.out, World.drewN_drewN]⟩, by simp [intOf]; omega⟩
    · have i1 : ¬ (k : Int) < (n : Int) := by omega
      clear hw
      go_wp2
      refine bodyPost_ret (results_tmp rfl _ _ _) rfl ?_
      exact ⟨rfl, _, HW.out⟩
theorem within11_any (n m : Int) (w : World) (h : 1 ≤ m) (hm : m ≤ 9223372036854775807) (_hn : -9223372036854775808 ≤ n) (_hn' : n ≤ 9223372036854775807) :
    Calls Tryz.prog 24 #[.int .i64 n, .int .i64 m] w fun e w' => e = .returned (.int .i64 (n % m)) ∧ w' = w := by
  have h0 := Int.emod_nonneg n (show m ≠ 0 by omega)
  have h1 := Int.emod_lt_of_pos n (show 0 < m by omega)
  have h2 : n.tmod m = n % m ∨ n.tmod m = n % m - m := by
    rw [Int.tmod_eq_emod]
    split
    · left; omega
    · right; omega
  obtain ⟨r, hr⟩ : ∃ r, r = n.tmod m := ⟨_, rfl⟩
  obtain ⟨q, hq⟩ : ∃ q, q = n % m := ⟨_, rfl⟩
  rw [← hq] at h0 h1
  rw [← hr, ← hq] at h2
  have HR := Lib.hid hr
  have HQ := Lib.hid hq
  clear hr hq
  rcases h2 with e | e
  · have hr0 : 0 ≤ n.tmod m := by rw [← HR.out, e]; exact h0
    have HE := Lib.hid e
    clear e
    go_enter Tryz.func24, Tryz.ntmps24
    go_wp2
    go_ret
    refine ⟨congrArg (fun b => Ending.returned (Value.int IntKind.i64 b)) ?_, rfl⟩
    rw [← HQ.out, ← HE.out, HR.out]
  · have hr0 : n.tmod m < 0 := by rw [← HR.out, e]; omega
    have hr1 : n.tmod m + m ≤ 9223372036854775807 := by rw [← HR.out, e]; omega
    have hr2 : 0 ≤ n.tmod m + m := by rw [← HR.out, e]; omega
    have HE := Lib.hid e
    clear e
    go_enter Tryz.func24, Tryz.ntmps24
    go_wp2
    go_ret
    refine ⟨congrArg (fun b => Ending.returned (Value.int IntKind.i64 b)) ?_, rfl⟩
    rw [← HQ.out]
    have e1 : n.tmod m + m = q := by rw [← HR.out, HE.out]; omega
    rw [← e1]
end Go.Proofs.YtbeeejpjnniejaaGreatDoor
namespace Go.Proofs.YtbeeejpjnniejaaGreatDoor
open Go.RowKit
/-- a reader in memory -/
abbrev RdAt (w : World) (p : Nat) (s : ByteArray) (k : Nat) (g : Nat) : Prop := Blk w p 330 #[.string s, .int .i64 (k : Int), .int .i64 (g : Int)]
def isB (s : ByteArray) (k : Nat) (b : Int) : Bool := if h : k < s.size then ((s[k]'h).toNat : Int) == b else false
set_option maxRecDepth 100000 in
set_option maxHeartbeats 1600000 in
theorem more_any (w : World) (p : Nat) (s : ByteArray) (k g : Nat) (h : RdAt w p s k g) :
    Calls Tryz.prog 217 #[.pointer (some ⟨p, 0, none⟩)] w fun e w' => e = .returned (.bool (decide (k < s.size))) ∧ ∃ q, w' = w.drewN q := by
  have c0 : w.cell? ⟨p, 0, none⟩ = some (.string s) := h.cell 0
  have c1 : w.cell? ⟨p, 1, none⟩ = some (.int .i64 (k : Int)) := h.cell 1
  clear h
  go_enter Tryz.func217, Tryz.ntmps217
  go_wp2_with fail
  go_quiet (fail)
  go_wp2
  go_ret
  exact ⟨rfl, _, rfl⟩
set_option maxRecDepth 100000 in
set_option maxHeartbeats 1600000 in
theorem is_any (w : World) (p : Nat) (s : ByteArray) (k g : Nat) (b : Int) (h : RdAt w p s k g) :
    Calls Tryz.prog 272 #[.pointer (some ⟨p, 0, none⟩), .int .u8 b] w fun e w' => e = .returned (.bool (isB s k b)) ∧ ∃ q, w' = w.drewN q := by
  have c0 : w.cell? ⟨p, 0, none⟩ = some (.string s) := h.cell 0
  have c1 : w.cell? ⟨p, 1, none⟩ = some (.int .i64 (k : Int)) := h.cell 1
  have HM := Lib.hid (fun q => more_any (w.drewN q) p s k g h)
  by_cases hk : k < s.size
  · have hd : decide (k < s.size) = true := by simpa using hk
    rw [hd] at HM
    have i1 : (0 : Int) ≤ (k : Int) := by omega
    have i2 : (k : Int) < (s.size : Int) := by omega
    have hx : isB s k b = (((s[k]'hk).toNat : Int) == b) := by
      unfold isB
      rw [dif_pos hk]
    rw [hx]
    clear hx h
    go_enter Tryz.func272, Tryz.ntmps272
    go_wp2_with fail
    go_quiet ((go_at_call 217; exact Calls.quiet_of (HM.out _)))
    go_wp2
    go_ret
    exact ⟨rfl, _, rfl⟩
  · have hd : decide (k < s.size) = false := by simpa using hk
    rw [hd] at HM
    have hx : isB s k b = false := by
      unfold isB
      rw [dif_neg hk]
    rw [hx]
    clear hx h
    go_enter Tryz.func272, Tryz.ntmps272
    go_wp2_with fail
    go_quiet ((go_at_call 217; exact Calls.quiet_of (HM.out _)))
    go_wp2
    go_ret
    exact ⟨rfl, _, rfl⟩
theorem isB_lt {s : ByteArray} {k : Nat} {b : Int} (h : isB s k b = true) : k < s.size := by
  unfold isB at h
  split at h
  · assumption
  · cases h
set_option maxRecDepth 100000 in
set_option maxHeartbeats 1600000 in
theorem takes_any (w : World) (p : Nat) (s : ByteArray) (k g : Nat) (b : Int) (h : RdAt w p s k g) (hs : s.size ≤ 1000000) :
    Calls Tryz.prog 248 #[.pointer (some ⟨p, 0, none⟩), .int .u8 b] w fun e w' => e = .returned (.bool (isB s k b)) ∧ RdAt w' p s (if isB s k b then k + 1 else k) g ∧ ∃ q, w' = if isB s k b then (w.drewN q).setCell ⟨p, 1, none⟩ (.int .i64 ((k + 1 : Nat) : Int)) else w.drewN q := by
  have HC := Lib.hid (is_any w p s k g b h)
  have HB := Lib.hid h
  obtain ⟨t, ht⟩ : ∃ t, t = isB s k b := ⟨_, rfl⟩
  rw [← ht] at HC ⊢
  go_enter Tryz.func248, Tryz.ntmps248
  go_wp2_with fail
  refine HC.out.mono ?_
  rintro e w1 ⟨rfl, q, rfl⟩
  have hb1 : Blk (w.drewN q) p 330 #[.string s, .int .i64 (k : Int), .int .i64 (g : Int)] := h
  have c1 : (w.drewN q).cell? ⟨p, 1, none⟩ = some (.int .i64 (k : Int)) := hb1.cell 1
  have f1 := hb1.frozen 1
  cases t with
  | true =>
    have hlt := isB_lt ht.symm
    have s1 : IntKind.i64.wrap ((k : Int) + 1) = ((k + 1 : Nat) : Int) := (IntWalk.i64_in _ (by omega)).trans (by omega)
    have H1 := Lib.hid hb1
    clear h hb1 HB HC ht hlt
    go_wp2
    go_ret
    exact ⟨rfl, H1.out.set_ 1 _, q, rfl⟩
  | false =>
    have H1 := Lib.hid hb1
    clear h hb1 HB HC ht
    go_wp2
    go_ret
    exact ⟨rfl, H1.out, q, rfl⟩
end Go.Proofs.YtbeeejpjnniejaaGreatDoor
namespace Go.Proofs.YtbeeejpjnniejaaGreatDoor
open Go.RowKit
def okW (x z : Int) (col : Bool) : Bool := ((decide (97 ≤ x) && decide (x ≤ 122)) || (decide (65 ≤ x) && decide (x ≤ 90)) || (x == 95) || (decide (48 ≤ x) && decide (x ≤ 57) && decide (0 < z))) || ((x == 58) && col)
def wordF (s : ByteArray) (col : Bool) : Nat → Nat → Bool
  | 0, _ => true
  | f + 1, k => if h : k < s.size then okW (s[k].toNat : Int) (k : Int) col && wordF s col f (k + 1) else true
def wordB (s : ByteArray) (col : Bool) : Bool := wordF s col (s.size + 1) 0 && decide (1 ≤ s.size) && decide (s.size ≤ 1024)
def WordR (s : ByteArray) (col : Bool) (i : Value) : Prop := ∃ k f : Nat, k ≤ s.size ∧ i = .int .i64 k ∧ s.size < k + f ∧ wordF s col (s.size + 1) 0 = wordF s col f k
def BoolIs (v : Value) (b : Bool) : Prop := v = .bool b
set_option maxRecDepth 100000 in
set_option maxHeartbeats 3200000 in
theorem word_any (s : ByteArray) (col : Bool) (w : World) (hs : s.size ≤ 9223372036854775807) : Calls Tryz.prog 231 #[.string s, .bool col] w fun e w' => e = .returned (.bool (wordB s col)) ∧ w = w' := by
  go_enter Tryz.func231, Tryz.ntmps231
  go_wp2_with fail
  go_loop [5] (fun i => WordR s col i) (fun i => s.size - (intOf i).toNat)
  case atStart => exact ⟨0, s.size + 1, Nat.zero_le _, rfl, by omega, rfl⟩
  case round =>
    obtain ⟨k, f, hk, rfl, hf, hw⟩ := hrel
    by_cases hlt : k < s.size
    · obtain ⟨f, rfl⟩ : ∃ f', f = f' + 1 := ⟨f - 1, by omega⟩
      have HWF := Lib.hid (show wordF s col (s.size + 1) 0 = (okW (s[k].toNat : Int) (k : Int) col && wordF s col f (k + 1)) by rw [hw, wordF, dif_pos hlt])
      clear hw
      have hx : s[k].toNat < 256 := s[k].toNat_lt
      obtain ⟨x, hxe⟩ : ∃ x, x = s[k].toNat := ⟨_, rfl⟩
      have HX := Lib.hid hxe
      rw [← hxe] at hx
      clear hxe
      have sk : IntKind.i64.wrap ((k : Int) + 1) = ((k + 1 : Nat) : Int) := (IntWalk.i64_in _ (by omega)).trans (by omega)
      go_upto_region 5 with fail
      rw [← HX.out]
      obtain ⟨z, hz⟩ : ∃ z : Int, z = (k : Int) := ⟨_, rfl⟩
      rw [← hz] at sk ⊢
      have HZ := Lib.hid hz
      clear hz
      go_cut [7] from 17 to 53 (fun c wx => wx = w ∧ BoolIs c (okW (x : Int) z col))
      case first =>
        by_cases hc : 0 ≤ x ∧ x ≤ 47
        · obtain ⟨h1, h2⟩ := hc
          have f0 : ¬ (97 : Int) ≤ (x : Int) := by omega
          have f1 : (x : Int) ≤ 122 := by omega
          have f2 : ¬ (65 : Int) ≤ (x : Int) := by omega
          have f3 : (x : Int) ≤ 90 := by omega
          have f4 : ¬ (48 : Int) ≤ (x : Int) := by omega
          have f5 : (x : Int) ≤ 57 := by omega
          have f6 : ((x : Int) == 95) = false := beq_eq_false_iff_ne.2 (by omega)
          have f7 : ((x : Int) == 58) = false := beq_eq_false_iff_ne.2 (by omega)
          clear h1 h2 hx
          go_wp2
          all_goals
            go_meet
            exact ⟨rfl, by unfold BoolIs okW; simp [*] <;> (try intro hh) <;> omega⟩
        by_cases hc : 48 ≤ x ∧ x ≤ 57
        · obtain ⟨h1, h2⟩ := hc
          have f0 : ¬ (97 : Int) ≤ (x : Int) := by omega
          have f1 : (x : Int) ≤ 122 := by omega
          have f2 : ¬ (65 : Int) ≤ (x : Int) := by omega
          have f3 : (x : Int) ≤ 90 := by omega
          have f4 : (48 : Int) ≤ (x : Int) := by omega
          have f5 : (x : Int) ≤ 57 := by omega
          have f6 : ((x : Int) == 95) = false := beq_eq_false_iff_ne.2 (by omega)
          have f7 : ((x : Int) == 58) = false := beq_eq_false_iff_ne.2 (by omega)
          clear h1 h2 hx
          go_wp2
          all_goals
            go_meet
            exact ⟨rfl, by unfold BoolIs okW; simp [*] <;> (try intro hh) <;> omega⟩
        by_cases hc : 58 ≤ x ∧ x ≤ 58
        · obtain ⟨h1, h2⟩ := hc
          have f0 : ¬ (97 : Int) ≤ (x : Int) := by omega
          have f1 : (x : Int) ≤ 122 := by omega
          have f2 : ¬ (65 : Int) ≤ (x : Int) := by omega
          have f3 : (x : Int) ≤ 90 := by omega
          have f4 : (48 : Int) ≤ (x : Int) := by omega
          have f5 : ¬ (x : Int) ≤ 57 := by omega
          have f6 : ((x : Int) == 95) = false := beq_eq_false_iff_ne.2 (by omega)
          have f7 : ((x : Int) == 58) = true := beq_iff_eq.2 (by omega)
          clear h1 h2 hx
          go_wp2
          all_goals
            go_meet
            exact ⟨rfl, by unfold BoolIs okW; simp [*] <;> (try intro hh) <;> omega⟩
        by_cases hc : 59 ≤ x ∧ x ≤ 64
        · obtain ⟨h1, h2⟩ := hc
          have f0 : ¬ (97 : Int) ≤ (x : Int) := by omega
          have f1 : (x : Int) ≤ 122 := by omega
          have f2 : ¬ (65 : Int) ≤ (x : Int) := by omega
          have f3 : (x : Int) ≤ 90 := by omega
          have f4 : (48 : Int) ≤ (x : Int) := by omega
          have f5 : ¬ (x : Int) ≤ 57 := by omega
          have f6 : ((x : Int) == 95) = false := beq_eq_false_iff_ne.2 (by omega)
          have f7 : ((x : Int) == 58) = false := beq_eq_false_iff_ne.2 (by omega)
          clear h1 h2 hx
          go_wp2
          all_goals
            go_meet
            exact ⟨rfl, by unfold BoolIs okW; simp [*] <;> (try intro hh) <;> omega⟩
        by_cases hc : 65 ≤ x ∧ x ≤ 90
        · obtain ⟨h1, h2⟩ := hc
          have f0 : ¬ (97 : Int) ≤ (x : Int) := by omega
          have f1 : (x : Int) ≤ 122 := by omega
          have f2 : (65 : Int) ≤ (x : Int) := by omega
          have f3 : (x : Int) ≤ 90 := by omega
          have f4 : (48 : Int) ≤ (x : Int) := by omega
          have f5 : ¬ (x : Int) ≤ 57 := by omega
          have f6 : ((x : Int) == 95) = false := beq_eq_false_iff_ne.2 (by omega)
          have f7 : ((x : Int) == 58) = false := beq_eq_false_iff_ne.2 (by omega)
          clear h1 h2 hx
          go_wp2
          all_goals
            go_meet
            exact ⟨rfl, by unfold BoolIs okW; simp [*] <;> (try intro hh) <;> omega⟩
        by_cases hc : 91 ≤ x ∧ x ≤ 94
        · obtain ⟨h1, h2⟩ := hc
          have f0 : ¬ (97 : Int) ≤ (x : Int) := by omega
          have f1 : (x : Int) ≤ 122 := by omega
          have f2 : (65 : Int) ≤ (x : Int) := by omega
          have f3 : ¬ (x : Int) ≤ 90 := by omega
          have f4 : (48 : Int) ≤ (x : Int) := by omega
          have f5 : ¬ (x : Int) ≤ 57 := by omega
          have f6 : ((x : Int) == 95) = false := beq_eq_false_iff_ne.2 (by omega)
          have f7 : ((x : Int) == 58) = false := beq_eq_false_iff_ne.2 (by omega)
          clear h1 h2 hx
          go_wp2
          all_goals
            go_meet
            exact ⟨rfl, by unfold BoolIs okW; simp [*] <;> (try intro hh) <;> omega⟩
        by_cases hc : 95 ≤ x ∧ x ≤ 95
        · obtain ⟨h1, h2⟩ := hc
          have f0 : ¬ (97 : Int) ≤ (x : Int) := by omega
          have f1 : (x : Int) ≤ 122 := by omega
          have f2 : (65 : Int) ≤ (x : Int) := by omega
          have f3 : ¬ (x : Int) ≤ 90 := by omega
          have f4 : (48 : Int) ≤ (x : Int) := by omega
          have f5 : ¬ (x : Int) ≤ 57 := by omega
          have f6 : ((x : Int) == 95) = true := beq_iff_eq.2 (by omega)
          have f7 : ((x : Int) == 58) = false := beq_eq_false_iff_ne.2 (by omega)
          clear h1 h2 hx
          go_wp2
          all_goals
            go_meet
            exact ⟨rfl, by unfold BoolIs okW; simp [*] <;> (try intro hh) <;> omega⟩
        by_cases hc : 96 ≤ x ∧ x ≤ 96
        · obtain ⟨h1, h2⟩ := hc
          have f0 : ¬ (97 : Int) ≤ (x : Int) := by omega
          have f1 : (x : Int) ≤ 122 := by omega
          have f2 : (65 : Int) ≤ (x : Int) := by omega
          have f3 : ¬ (x : Int) ≤ 90 := by omega
          have f4 : (48 : Int) ≤ (x : Int) := by omega
          have f5 : ¬ (x : Int) ≤ 57 := by omega
          have f6 : ((x : Int) == 95) = false := beq_eq_false_iff_ne.2 (by omega)
          have f7 : ((x : Int) == 58) = false := beq_eq_false_iff_ne.2 (by omega)
          clear h1 h2 hx
          go_wp2
          all_goals
            go_meet
            exact ⟨rfl, by unfold BoolIs okW; simp [*] <;> (try intro hh) <;> omega⟩
        by_cases hc : 97 ≤ x ∧ x ≤ 122
        · obtain ⟨h1, h2⟩ := hc
          have f0 : (97 : Int) ≤ (x : Int) := by omega
          have f1 : (x : Int) ≤ 122 := by omega
          have f2 : (65 : Int) ≤ (x : Int) := by omega
          have f3 : ¬ (x : Int) ≤ 90 := by omega
          have f4 : (48 : Int) ≤ (x : Int) := by omega
          have f5 : ¬ (x : Int) ≤ 57 := by omega
          have f6 : ((x : Int) == 95) = false := beq_eq_false_iff_ne.2 (by omega)
          have f7 : ((x : Int) == 58) = false := beq_eq_false_iff_ne.2 (by omega)
          clear h1 h2 hx
          go_wp2
          all_goals
            go_meet
            exact ⟨rfl, by unfold BoolIs okW; simp [*] <;> (try intro hh) <;> omega⟩
        by_cases hc : 123 ≤ x ∧ x ≤ 255
        · obtain ⟨h1, h2⟩ := hc
          have f0 : (97 : Int) ≤ (x : Int) := by omega
          have f1 : ¬ (x : Int) ≤ 122 := by omega
          have f2 : (65 : Int) ≤ (x : Int) := by omega
          have f3 : ¬ (x : Int) ≤ 90 := by omega
          have f4 : (48 : Int) ≤ (x : Int) := by omega
          have f5 : ¬ (x : Int) ≤ 57 := by omega
          have f6 : ((x : Int) == 95) = false := beq_eq_false_iff_ne.2 (by omega)
          have f7 : ((x : Int) == 58) = false := beq_eq_false_iff_ne.2 (by omega)
          clear h1 h2 hx
          go_wp2
          all_goals
            go_meet
            exact ⟨rfl, by unfold BoolIs okW; simp [*] <;> (try intro hh) <;> omega⟩
        exfalso
        omega
      case rest =>
        obtain ⟨rfl, hb⟩ := hcut
        unfold BoolIs at hb
        subst hb
        have HWG := HWF.out
        rw [← HX.out] at HWG
        rw [HZ.out] at sk ⊢
        generalize okW (x : Int) (k : Int) col = b at HWG ⊢
        have HWG := Lib.hid HWG
        cases b with
        | true =>
          go_wp2
          exact ⟨⟨k + 1, f, by omega, rfl, by omega, by rw [HWG.out, Bool.true_and]⟩, by simp [intOf]; omega⟩
        | false =>
          go_wp2
          refine bodyPost_ret (results_tmp rfl _ _ _) rfl ?_
          exact ⟨by unfold wordB; rw [HWG.out]; rfl, rfl⟩
    · have hks : k = s.size := by omega
      have HWE := Lib.hid (show wordF s col (s.size + 1) 0 = true by
        rw [hw]
        cases f with
        | zero => rfl
        | succ f => rw [wordF, dif_neg hlt])
      clear hw
      subst hks
      by_cases h1 : 1 ≤ s.size
      · have g1 : (1 : Int) ≤ (s.size : Int) := by omega
        by_cases h2 : s.size ≤ 1024
        · have g2 : (s.size : Int) ≤ 1024 := by omega
          have HV := Lib.hid (show wordB s col = true by unfold wordB; rw [HWE.out, decide_eq_true h1, decide_eq_true h2]; rfl)
          clear h1 h2
          go_wp2
          refine bodyPost_ret (results_tmp rfl _ _ _) rfl ?_
          exact ⟨by rw [HV.out]; rfl, rfl⟩
        · have g2 : ¬ (s.size : Int) ≤ 1024 := by omega
          have HV := Lib.hid (show wordB s col = false by unfold wordB; rw [HWE.out, decide_eq_true h1, decide_eq_false h2]; rfl)
          clear h1 h2
          go_wp2
          refine bodyPost_ret (results_tmp rfl _ _ _) rfl ?_
          exact ⟨by rw [HV.out]; rfl, rfl⟩
      · have g1 : ¬ (1 : Int) ≤ (s.size : Int) := by omega
        have HV := Lib.hid (show wordB s col = false by unfold wordB; rw [HWE.out, decide_eq_false h1]; rfl)
        clear h1
        go_wp2
        refine bodyPost_ret (results_tmp rfl _ _ _) rfl ?_
        exact ⟨by rw [HV.out]; rfl, rfl⟩
end Go.Proofs.YtbeeejpjnniejaaGreatDoor
namespace Go.Proofs.YtbeeejpjnniejaaGreatDoor
open Go.RowKit
set_option maxRecDepth 100000 in
set_option maxHeartbeats 3200000 in
theorem named_any (s : ByteArray) (col : Bool) (w : World) (hs : s.size ≤ 9223372036854775807) : Calls Tryz.prog 245 #[.string s, .bool col] w fun e w' => e = .returned (.bool (wordB s col)) ∧ w = w' := by
  go_enter Tryz.func245, Tryz.ntmps245
  go_wp2_with fail
  go_loop [9] (fun i => WordR s col i) (fun i => s.size - (intOf i).toNat)
  case atStart => exact ⟨0, s.size + 1, Nat.zero_le _, rfl, by omega, rfl⟩
  case round =>
    obtain ⟨k, f, hk, rfl, hf, hw⟩ := hrel
    by_cases hlt : k < s.size
    · obtain ⟨f, rfl⟩ : ∃ f', f = f' + 1 := ⟨f - 1, by omega⟩
      have HWF := Lib.hid (show wordF s col (s.size + 1) 0 = (okW (s[k].toNat : Int) (k : Int) col && wordF s col f (k + 1)) by rw [hw, wordF, dif_pos hlt])
      clear hw
      have hx : s[k].toNat < 256 := s[k].toNat_lt
      obtain ⟨x, hxe⟩ : ∃ x, x = s[k].toNat := ⟨_, rfl⟩
      have HX := Lib.hid hxe
      rw [← hxe] at hx HWF
      clear hxe
      have sk : IntKind.i64.wrap ((k : Int) + 1) = ((k + 1 : Nat) : Int) := (IntWalk.i64_in _ (by omega)).trans (by omega)
      go_upto_region 6 with fail
      rw [← HX.out]
      by_cases hc : 0 ≤ x ∧ x ≤ 47
      · obtain ⟨h1, h2⟩ := hc
        have f0 : ¬ (97 : Int) ≤ (x : Int) := by omega
        have f1 : (x : Int) ≤ 122 := by omega
        have f2 : ¬ (65 : Int) ≤ (x : Int) := by omega
        have f3 : (x : Int) ≤ 90 := by omega
        have f4 : ¬ (48 : Int) ≤ (x : Int) := by omega
        have f5 : (x : Int) ≤ 57 := by omega
        have f6 : ((x : Int) == 95) = false := beq_eq_false_iff_ne.2 (by omega)
        have f7 : ((x : Int) == 58) = false := beq_eq_false_iff_ne.2 (by omega)
        have HO := Lib.hid (show okW (x : Int) (k : Int) col = false by unfold okW; simp [*] <;> (try intro hh) <;> (try omega))
        clear h1 h2 hx
        go_wp2
        refine bodyPost_ret (results_tmp rfl _ _ _) rfl ?_
        exact ⟨by unfold wordB; rw [HWF.out, HO.out]; rfl, rfl⟩
      by_cases hc : 48 ≤ x ∧ x ≤ 57
      · obtain ⟨h1, h2⟩ := hc
        by_cases hk0 : 0 < k
        · have g0 : (0 : Int) < (k : Int) := by omega
          have f0 : ¬ (97 : Int) ≤ (x : Int) := by omega
          have f1 : (x : Int) ≤ 122 := by omega
          have f2 : ¬ (65 : Int) ≤ (x : Int) := by omega
          have f3 : (x : Int) ≤ 90 := by omega
          have f4 : (48 : Int) ≤ (x : Int) := by omega
          have f5 : (x : Int) ≤ 57 := by omega
          have f6 : ((x : Int) == 95) = false := beq_eq_false_iff_ne.2 (by omega)
          have f7 : ((x : Int) == 58) = false := beq_eq_false_iff_ne.2 (by omega)
          have HO := Lib.hid (show okW (x : Int) (k : Int) col = true by unfold okW; simp [*] <;> (try intro hh) <;> (try omega))
          clear h1 h2 hx
          go_wp2
          exact ⟨⟨k + 1, f, by omega, rfl, by omega, by rw [HWF.out, HO.out, Bool.true_and]⟩, by simp [intOf]; omega⟩
        · have g0 : ¬ (0 : Int) < (k : Int) := by omega
          have f0 : ¬ (97 : Int) ≤ (x : Int) := by omega
          have f1 : (x : Int) ≤ 122 := by omega
          have f2 : ¬ (65 : Int) ≤ (x : Int) := by omega
          have f3 : (x : Int) ≤ 90 := by omega
          have f4 : (48 : Int) ≤ (x : Int) := by omega
          have f5 : (x : Int) ≤ 57 := by omega
          have f6 : ((x : Int) == 95) = false := beq_eq_false_iff_ne.2 (by omega)
          have f7 : ((x : Int) == 58) = false := beq_eq_false_iff_ne.2 (by omega)
          have HO := Lib.hid (show okW (x : Int) (k : Int) col = false by unfold okW; simp [*] <;> (try intro hh) <;> (try omega))
          clear h1 h2 hx
          go_wp2
          refine bodyPost_ret (results_tmp rfl _ _ _) rfl ?_
          exact ⟨by unfold wordB; rw [HWF.out, HO.out]; rfl, rfl⟩
      by_cases hc : 58 ≤ x ∧ x ≤ 58
      · obtain ⟨h1, h2⟩ := hc
        cases col with
        | true =>
          have f0 : ¬ (97 : Int) ≤ (x : Int) := by omega
          have f1 : (x : Int) ≤ 122 := by omega
          have f2 : ¬ (65 : Int) ≤ (x : Int) := by omega
          have f3 : (x : Int) ≤ 90 := by omega
          have f4 : (48 : Int) ≤ (x : Int) := by omega
          have f5 : ¬ (x : Int) ≤ 57 := by omega
          have f6 : ((x : Int) == 95) = false := beq_eq_false_iff_ne.2 (by omega)
          have f7 : ((x : Int) == 58) = true := beq_iff_eq.2 (by omega)
          have HO := Lib.hid (show okW (x : Int) (k : Int) true = true by unfold okW; simp [*] <;> (try intro hh) <;> (try omega))
          clear h1 h2 hx
          go_wp2
          exact ⟨⟨k + 1, f, by omega, rfl, by omega, by rw [HWF.out, HO.out, Bool.true_and]⟩, by simp [intOf]; omega⟩
        | false =>
          have f0 : ¬ (97 : Int) ≤ (x : Int) := by omega
          have f1 : (x : Int) ≤ 122 := by omega
          have f2 : ¬ (65 : Int) ≤ (x : Int) := by omega
          have f3 : (x : Int) ≤ 90 := by omega
          have f4 : (48 : Int) ≤ (x : Int) := by omega
          have f5 : ¬ (x : Int) ≤ 57 := by omega
          have f6 : ((x : Int) == 95) = false := beq_eq_false_iff_ne.2 (by omega)
          have f7 : ((x : Int) == 58) = true := beq_iff_eq.2 (by omega)
          have HO := Lib.hid (show okW (x : Int) (k : Int) false = false by unfold okW; simp [*] <;> (try intro hh) <;> (try omega))
          clear h1 h2 hx
          go_wp2
          refine bodyPost_ret (results_tmp rfl _ _ _) rfl ?_
          exact ⟨by unfold wordB; rw [HWF.out, HO.out]; rfl, rfl⟩
      by_cases hc : 59 ≤ x ∧ x ≤ 64
      · obtain ⟨h1, h2⟩ := hc
        have f0 : ¬ (97 : Int) ≤ (x : Int) := by omega
        have f1 : (x : Int) ≤ 122 := by omega
        have f2 : ¬ (65 : Int) ≤ (x : Int) := by omega
        have f3 : (x : Int) ≤ 90 := by omega
        have f4 : (48 : Int) ≤ (x : Int) := by omega
        have f5 : ¬ (x : Int) ≤ 57 := by omega
        have f6 : ((x : Int) == 95) = false := beq_eq_false_iff_ne.2 (by omega)
        have f7 : ((x : Int) == 58) = false := beq_eq_false_iff_ne.2 (by omega)
        have HO := Lib.hid (show okW (x : Int) (k : Int) col = false by unfold okW; simp [*] <;> (try intro hh) <;> (try omega))
        clear h1 h2 hx
        go_wp2
        refine bodyPost_ret (results_tmp rfl _ _ _) rfl ?_
        exact ⟨by unfold wordB; rw [HWF.out, HO.out]; rfl, rfl⟩
      by_cases hc : 65 ≤ x ∧ x ≤ 90
      · obtain ⟨h1, h2⟩ := hc
        have f0 : ¬ (97 : Int) ≤ (x : Int) := by omega
        have f1 : (x : Int) ≤ 122 := by omega
        have f2 : (65 : Int) ≤ (x : Int) := by omega
        have f3 : (x : Int) ≤ 90 := by omega
        have f4 : (48 : Int) ≤ (x : Int) := by omega
        have f5 : ¬ (x : Int) ≤ 57 := by omega
        have f6 : ((x : Int) == 95) = false := beq_eq_false_iff_ne.2 (by omega)
        have f7 : ((x : Int) == 58) = false := beq_eq_false_iff_ne.2 (by omega)
        have HO := Lib.hid (show okW (x : Int) (k : Int) col = true by unfold okW; simp [*] <;> (try intro hh) <;> (try omega))
        clear h1 h2 hx
        go_wp2
        exact ⟨⟨k + 1, f, by omega, rfl, by omega, by rw [HWF.out, HO.out, Bool.true_and]⟩, by simp [intOf]; omega⟩
      by_cases hc : 91 ≤ x ∧ x ≤ 94
      · obtain ⟨h1, h2⟩ := hc
        have f0 : ¬ (97 : Int) ≤ (x : Int) := by omega
        have f1 : (x : Int) ≤ 122 := by omega
        have f2 : (65 : Int) ≤ (x : Int) := by omega
        have f3 : ¬ (x : Int) ≤ 90 := by omega
        have f4 : (48 : Int) ≤ (x : Int) := by omega
        have f5 : ¬ (x : Int) ≤ 57 := by omega
        have f6 : ((x : Int) == 95) = false := beq_eq_false_iff_ne.2 (by omega)
        have f7 : ((x : Int) == 58) = false := beq_eq_false_iff_ne.2 (by omega)
        have HO := Lib.hid (show okW (x : Int) (k : Int) col = false by unfold okW; simp [*] <;> (try intro hh) <;> (try omega))
        clear h1 h2 hx
        go_wp2
        refine bodyPost_ret (results_tmp rfl _ _ _) rfl ?_
        exact ⟨by unfold wordB; rw [HWF.out, HO.out]; rfl, rfl⟩
      by_cases hc : 95 ≤ x ∧ x ≤ 95
      · obtain ⟨h1, h2⟩ := hc
        have f0 : ¬ (97 : Int) ≤ (x : Int) := by omega
        have f1 : (x : Int) ≤ 122 := by omega
        have f2 : (65 : Int) ≤ (x : Int) := by omega
        have f3 : ¬ (x : Int) ≤ 90 := by omega
        have f4 : (48 : Int) ≤ (x : Int) := by omega
        have f5 : ¬ (x : Int) ≤ 57 := by omega
        have f6 : ((x : Int) == 95) = true := beq_iff_eq.2 (by omega)
        have f7 : ((x : Int) == 58) = false := beq_eq_false_iff_ne.2 (by omega)
        have HO := Lib.hid (show okW (x : Int) (k : Int) col = true by unfold okW; simp [*] <;> (try intro hh) <;> (try omega))
        clear h1 h2 hx
        go_wp2
        exact ⟨⟨k + 1, f, by omega, rfl, by omega, by rw [HWF.out, HO.out, Bool.true_and]⟩, by simp [intOf]; omega⟩
      by_cases hc : 96 ≤ x ∧ x ≤ 96
      · obtain ⟨h1, h2⟩ := hc
        have f0 : ¬ (97 : Int) ≤ (x : Int) := by omega
        have f1 : (x : Int) ≤ 122 := by omega
        have f2 : (65 : Int) ≤ (x : Int) := by omega
        have f3 : ¬ (x : Int) ≤ 90 := by omega
        have f4 : (48 : Int) ≤ (x : Int) := by omega
        have f5 : ¬ (x : Int) ≤ 57 := by omega
        have f6 : ((x : Int) == 95) = false := beq_eq_false_iff_ne.2 (by omega)
        have f7 : ((x : Int) == 58) = false := beq_eq_false_iff_ne.2 (by omega)
        have HO := Lib.hid (show okW (x : Int) (k : Int) col = false by unfold okW; simp [*] <;> (try intro hh) <;> (try omega))
        clear h1 h2 hx
        go_wp2
        refine bodyPost_ret (results_tmp rfl _ _ _) rfl ?_
        exact ⟨by unfold wordB; rw [HWF.out, HO.out]; rfl, rfl⟩
      by_cases hc : 97 ≤ x ∧ x ≤ 122
      · obtain ⟨h1, h2⟩ := hc
        have f0 : (97 : Int) ≤ (x : Int) := by omega
        have f1 : (x : Int) ≤ 122 := by omega
        have f2 : (65 : Int) ≤ (x : Int) := by omega
        have f3 : ¬ (x : Int) ≤ 90 := by omega
        have f4 : (48 : Int) ≤ (x : Int) := by omega
        have f5 : ¬ (x : Int) ≤ 57 := by omega
        have f6 : ((x : Int) == 95) = false := beq_eq_false_iff_ne.2 (by omega)
        have f7 : ((x : Int) == 58) = false := beq_eq_false_iff_ne.2 (by omega)
        have HO := Lib.hid (show okW (x : Int) (k : Int) col = true by unfold okW; simp [*] <;> (try intro hh) <;> (try omega))
        clear h1 h2 hx
        go_wp2
        exact ⟨⟨k + 1, f, by omega, rfl, by omega, by rw [HWF.out, HO.out, Bool.true_and]⟩, by simp [intOf]; omega⟩
      by_cases hc : 123 ≤ x ∧ x ≤ 255
      · obtain ⟨h1, h2⟩ := hc
        have f0 : (97 : Int) ≤ (x : Int) := by omega
        have f1 : ¬ (x : Int) ≤ 122 := by omega
        have f2 : (65 : Int) ≤ (x : Int) := by omega
        have f3 : ¬ (x : Int) ≤ 90 := by omega
        have f4 : (48 : Int) ≤ (x : Int) := by omega
        have f5 : ¬ (x : Int) ≤ 57 := by omega
        have f6 : ((x : Int) == 95) = false := beq_eq_false_iff_ne.2 (by omega)
        have f7 : ((x : Int) == 58) = false := beq_eq_false_iff_ne.2 (by omega)
        have HO := Lib.hid (show okW (x : Int) (k : Int) col = false by unfold okW; simp [*] <;> (try intro hh) <;> (try omega))
        clear h1 h2 hx
        go_wp2
        refine bodyPost_ret (results_tmp rfl _ _ _) rfl ?_
        exact ⟨by unfold wordB; rw [HWF.out, HO.out]; rfl, rfl⟩
      exfalso
      omega
    · have hks : k = s.size := by omega
      have HWE := Lib.hid (show wordF s col (s.size + 1) 0 = true by
        rw [hw]
        cases f with
        | zero => rfl
        | succ f => rw [wordF, dif_neg hlt])
      clear hw
      subst hks
      by_cases h1 : 1 ≤ s.size
      · have hne0 : ¬ s.toList = [] := fun e => by
          rw [Lib.toList_data] at e
          have h3 : s.data.toList.length = s.size := by simp
          rw [e] at h3
          simp at h3
          omega
        have hne : (s.toList == []) = false := by simpa using hne0
        have hne2 : s.toList.isEmpty = false := by simpa using hne0
        by_cases h2 : s.size ≤ 1024
        · have g2 : (s.size : Int) ≤ 1024 := by omega
          have HV := Lib.hid (show wordB s col = true by unfold wordB; rw [HWE.out, decide_eq_true h1, decide_eq_true h2]; rfl)
          clear h1 h2
          go_wp2
          refine bodyPost_ret (results_tmp rfl _ _ _) rfl ?_
          exact ⟨by rw [HV.out]; rfl, rfl⟩
        · have g2 : ¬ (s.size : Int) ≤ 1024 := by omega
          have HV := Lib.hid (show wordB s col = false by unfold wordB; rw [HWE.out, decide_eq_true h1, decide_eq_false h2]; rfl)
          clear h1 h2
          go_wp2
          refine bodyPost_ret (results_tmp rfl _ _ _) rfl ?_
          exact ⟨by rw [HV.out]; rfl, rfl⟩
      · have hem : s.toList = [] := by
          rw [Lib.toList_data]
          have h3 : s.size = s.data.toList.length := by simp
          exact List.eq_nil_of_length_eq_zero (by omega)
        have HV := Lib.hid (show wordB s col = false by unfold wordB; rw [HWE.out, decide_eq_false h1]; rfl)
        clear h1
        have hem2 : (s.toList == []) = true := by rw [hem]; rfl
        go_wp2
        refine bodyPost_ret (results_tmp rfl _ _ _) rfl ?_
        exact ⟨by rw [HV.out]; rfl, rfl⟩
theorem rightname_any (s : ByteArray) (w : World) (hs : s.size ≤ 9223372036854775807) : Calls Tryz.prog 211 #[.string s] w fun e w' => e = .returned (.bool (wordB s false)) ∧ w = w' := by
  go_enter Tryz.func211, Tryz.ntmps211
  go_wp2_with fail
  refine (named_any s false w hs).mono ?_
  rintro e w' ⟨rfl, rfl⟩
  go_wp2
  go_ret
  exact ⟨rfl, rfl⟩
theorem rightmetric_any (s : ByteArray) (w : World) (hs : s.size ≤ 9223372036854775807) : Calls Tryz.prog 213 #[.string s] w fun e w' => e = .returned (.bool (wordB s true)) ∧ w = w' := by
  go_enter Tryz.func213, Tryz.ntmps213
  go_wp2_with fail
  refine (named_any s true w hs).mono ?_
  rintro e w' ⟨rfl, rfl⟩
  go_wp2
  go_ret
  exact ⟨rfl, rfl⟩
end Go.Proofs.YtbeeejpjnniejaaGreatDoor
