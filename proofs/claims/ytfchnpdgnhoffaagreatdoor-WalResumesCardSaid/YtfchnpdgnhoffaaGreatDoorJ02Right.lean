/- The walks of the names' tests: the program's right, the document's Right. The walks of the program's right and of the document's Right. A directory in memory: a map from names to pointers, told by a plain list; look-up, store, delete. The disk in memory: its state, told plainly; what keeps it; how a world may turn. The walk of disk.New. The walk of (*Disk).begin. -/
import Derived.Test.YtfchnpdgnhoffaaGreatDoorProg
import Derived.Test.YtfchnpdgnhoffaaGreatDoorJ00Lib
import Derived.Test.YtfchnpdgnhoffaaGreatDoorShelf
import Derived.WalkKit
import Derived.Handy
import Derived.WalkSpells
import Derived.WalkLawsBesides
import Derived.Deep.QuietTactic
import Derived.BigQuiet
import Derived.KernelRfl
import Derived.Laws.Cover2
import Derived.Deep.DeepCutAuto
import Derived.Deep.CutBlock
import Derived.BigRegion
import Derived.Deep.RegionHeld3
import Derived.Maps.OwnSet
import Derived.Maps.OwnOps
namespace Go.Proofs.YtfchnpdgnhoffaaGreatDoor
open Go.RowKit Go.Shelf

def markS : ByteArray := { data := #[46, 47, 45, 95] }
theorem encode_two (r : Int) (h0 : 128 ≤ r) (h1 : r ≤ 255) : ∃ c0 c1 : UInt8, Utf8.encode r = { data := #[c0, c1] } ∧ 128 ≤ c1.toNat := by
  have hv : Utf8.valid r = true := by unfold Utf8.valid; simp; omega
  unfold Utf8.encode
  simp only [hv, if_true]
  rw [if_neg (by omega), if_pos (by omega)]
  refine ⟨_, _, rfl, ?_⟩
  have : (UInt8.ofNat (0x80 + r.toNat % 64)).toNat = 0x80 + r.toNat % 64 := by
    rw [UInt8.toNat_ofNat']
    omega
  omega

theorem sib_c (c1 : UInt8) (hc : 128 ≤ c1.toNat) (x : Int) (hx : x = (c1.toNat : Int)) (w : World) : Calls Tryz.prog 140 #[.string (markS.extract 2 markS.size), .int .u8 x] w fun e w' => e = .returned (.int .i64 (-1)) ∧ w' = w := by
  have n1 : ((45 : UInt8) == c1) = false := by
    rw [beq_eq_false_iff_ne]; rintro rfl; exact absurd hc (by decide)
  have n2 : ((95 : UInt8) == c1) = false := by
    rw [beq_eq_false_iff_ne]; rintro rfl; exact absurd hc (by decide)
  refine (Tryz.strings_IndexByte _ _ w).mono ?_
  rintro e w' ⟨rfl, rfl⟩
  refine ⟨?_, rfl⟩
  have e1 : (markS.extract 2 markS.size).data.toList = [45, 95] := by decide
  have e2 : x.toNat.toUInt8 = c1 := by rw [hx]; simp
  rw [e1, e2]
  simp [Lib.indexByte, n1, n2]

set_option maxRecDepth 100000 in
set_option maxHeartbeats 1600000 in
theorem irune_high (r : Int) (w : World) (h0 : 128 ≤ r) (h1 : r ≤ 255) : Calls Tryz.prog 119 #[.string markS, .int .i32 r] w fun e w' => e = .returned (.int .i64 (-1)) ∧ ∃ n, w' = w.drewN n := by
  have hv : Lib.validRune r = true := by unfold Lib.validRune; simp; omega
  have q1 : (r == 65533) = false := by simp; omega
  obtain ⟨c0, c1, hE, hc⟩ := encode_two r h0 h1
  have HE := Lib.hid hE
  have k1 : Lib.indexByte [45, 95] c1 = -1 := by
    have n1 : ((45 : UInt8) == c1) = false := by
      rw [beq_eq_false_iff_ne]; rintro rfl; exact absurd hc (by decide)
    have n2 : ((95 : UInt8) == c1) = false := by
      rw [beq_eq_false_iff_ne]; rintro rfl; exact absurd hc (by decide)
    simp [Lib.indexByte, n1, n2]
  have K1 := Lib.hid k1
  clear k1 hE
  go_enter Tryz.func119, Tryz.ntmps119
  go_wp2_with fail
  refine (Tryz.utf8_ValidRune r _).mono ?_
  rintro e w1 ⟨rfl, rfl⟩
  rw [hv]
  go_wp2
  go_step3
  go_wp2
  rw [HE.out, show wrap64 ((({ data := #[c0, c1] } : ByteArray).size : Int) - 1) = 1 by rw [show ({ data := #[c0, c1] } : ByteArray).size = 2 from rfl]; unfold wrap64; omega]
  refine wp_loop_rounds 1 ?_
  rw [rounds_succ]
  go_wp2_with fail
  go_step3
  go_wp2_with fail
  have z1 : (({ data := #[c0, c1] } : ByteArray).size : Int) = 2 := rfl
  have z2 : (markS.size : Int) = 4 := rfl
  have z3 : ((markS[1].toNat : Int) != ((({ data := #[c0, c1] } : ByteArray)[1]).toNat : Int)) = true := by
    have e1 : markS[1].toNat = 47 := rfl
    have e2 : ((({ data := #[c0, c1] } : ByteArray)[1]).toNat : Int) = (c1.toNat : Int) := rfl
    rw [e1, e2]
    simp
    omega
  go_quiet (fail)
  go_wp2_with fail
  obtain ⟨w2, hw2⟩ : ∃ w2, w2 = w1.drewN nq := ⟨_, rfl⟩
  have HW2 := Lib.hid hw2
  rw [← hw2]
  clear hw2
  go_quiet ((go_at_call 140; exact Calls.quiet_of_same (sib_c c1 hc _ rfl _)))
  go_wp2
  rw [Exit.noGoto_ret]
  go_wp2
  rw [Exit.noGoto_ret]
  go_ret
  obtain ⟨n3, hn3⟩ : ∃ n3, w2.drewN nq = w1.drewN n3 := by
    rw [HW2.out]
    exact ⟨_, World.drewN_drewN w1 _ _⟩
  exact ⟨rfl, n3, hn3⟩
theorem crune_high (r : Int) (w : World) (h0 : 128 ≤ r) (h1 : r ≤ 255) : Calls Tryz.prog 87 #[.string markS, .int .i32 r] w fun e w' => e = .returned (.bool false) ∧ ∃ n, w' = w.drewN n := by
  go_enter Tryz.func87, Tryz.ntmps87
  go_wp2_with fail
  refine (irune_high r w h0 h1).mono ?_
  rintro e w' ⟨rfl, n, rfl⟩
  go_wp2
  go_ret
  exact ⟨rfl, n, rfl⟩

/-- is it one of the four marks -/
def markB (b : Nat) : Bool := b == 46 || b == 47 || b == 45 || b == 95
theorem crune_any (b : Nat) (w : World) (hb : b < 256) : Calls Tryz.prog 87 #[.string markS, .int .i32 b] w fun e w' => e = .returned (.bool (markB b)) ∧ ∃ n, w' = w.drewN n := by
  rcases Nat.lt_or_ge b 128 with h | h
  · refine (Tryz.strings_ContainsRune_ascii markS b w (by omega) (by omega)).mono ?_
    rintro e w' ⟨rfl, rfl⟩
    refine ⟨?_, 0, rfl⟩
    have : ∀ b : Fin 128, decide (0 ≤ Lib.indexByte markS.data.toList ((b.val : Int)).toNat.toUInt8) = markB b.val := by decide
    rw [show ((b : Int)) = (((⟨b, h⟩ : Fin 128).val : Nat) : Int) from rfl, this ⟨b, h⟩]
  · refine (crune_high b w (by omega) (by omega)).mono ?_
    rintro e w' ⟨rfl, n, rfl⟩
    refine ⟨?_, n, rfl⟩
    have : markB b = false := by unfold markB; simp; omega
    rw [this]
end Go.Proofs.YtfchnpdgnhoffaaGreatDoor
namespace Go.Proofs.YtfchnpdgnhoffaaGreatDoor
open Go.RowKit Go.Shelf

def okB (b : Nat) : Bool := (decide (97 ≤ b) && decide (b ≤ 122)) || (decide (48 ≤ b) && decide (b ≤ 57)) || markB b
/-- is it a file's name -/
def rightB (s : ByteArray) : Bool := s.data.toList.all (fun b => okB b.toNat) && decide (1 ≤ s.size) && decide (s.size ≤ 64)

theorem take_snoc (s : ByteArray) (k : Nat) (h : k < s.size) : s.data.toList.take (k + 1) = s.data.toList.take k ++ [s[k]] := by
  rw [List.take_succ_eq_append_getElem (by simpa using h)]; rfl
theorem rightB_bad (s : ByteArray) (k : Nat) (h : k < s.size) (hb : okB s[k].toNat = false) : rightB s = false := by
  have : s.data.toList.all (fun b => okB b.toNat) = false := by
    rw [List.all_eq_false]
    refine ⟨s[k], ?_, by rw [hb]; simp⟩
    have : s[k] = s.data.toList[k]'(by simpa using h) := rfl
    rw [this]
    exact List.getElem_mem _
  simp [rightB, this]
theorem rightB_end (s : ByteArray) (h : (s.data.toList.take s.size).all (fun b => okB b.toNat) = true) : rightB s = (decide (1 ≤ s.size) && decide (s.size ≤ 64)) := by
  rw [List.take_of_length_le (by simp)] at h
  simp [rightB, h]
theorem all_snoc (s : ByteArray) (k : Nat) (h : k < s.size) (ha : (s.data.toList.take k).all (fun b => okB b.toNat) = true) (hb : okB s[k].toNat = true) : (s.data.toList.take (k + 1)).all (fun b => okB b.toNat) = true := by
  rw [take_snoc s k h, List.all_append, ha]
  simp [hb]

def RightR (w : World) (s : ByteArray) (i : Value) (wr : World) : Prop :=
  ∃ k q : Nat, k ≤ s.size ∧ i = .int .i64 k ∧ wr = w.drewN q ∧ (s.data.toList.take k).all (fun b => okB b.toNat) = true

set_option maxRecDepth 100000 in
set_option maxHeartbeats 3200000 in
theorem right_any (s : ByteArray) (w : World) (hs : s.size ≤ 9223372036854775807) : Calls Tryz.prog 72 #[.string s] w fun e w' => e = .returned (.bool (rightB s)) ∧ ∃ n, w' = w.drewN n := by
  go_enter Tryz.func72, Tryz.ntmps72
  go_wp2_with fail
  go_loopw [7] (fun i wr => RightR w s i wr) (fun i _ => s.size - (intOf i).toNat)
  case atStart => exact ⟨0, 0, Nat.zero_le _, rfl, rfl, rfl⟩
  case round =>
    obtain ⟨k, q, hk, rfl, hwr, hall⟩ := hrel
    have HWR := Lib.hid hwr
    have HA := Lib.hid hall
    clear hwr hall
    by_cases hlt : k < s.size
    · have hx : s[k].toNat < 256 := s[k].toNat_lt
      have HB := Lib.hid (rightB_bad s k hlt)
      have HS := Lib.hid (all_snoc s k hlt HA.out)
      obtain ⟨x, hxe⟩ : ∃ x, x = s[k].toNat := ⟨_, rfl⟩
      have HX := Lib.hid hxe
      rw [← hxe] at hx
      clear hxe
      go_upto_region 5 with fail
      rw [← HX.out]
      go_cut [32] from 13 to 32 (fun s32 wx => s32 = .bool (!okB x) ∧ ∃ q, wx = wr.drewN q)
      case first =>
        have hcase : (97 ≤ x ∧ x ≤ 122) ∨ (48 ≤ x ∧ x ≤ 57) ∨ x < 48 ∨ (58 ≤ x ∧ x < 97) ∨ 123 ≤ x := by omega
        rcases hcase with hc | hc | hc | hc | hc
        · obtain ⟨h1, h2⟩ := hc
          have hok : okB x = true := by unfold okB; simp [h1, h2]
          have g1 : (97 : Int) ≤ (x : Int) := by omega
          have g2 : (x : Int) ≤ 122 := by omega
          have HOK := Lib.hid hok
          clear hok h1 h2
          go_wp2
          go_meet
          exact ⟨by rw [HOK.out]; rfl, 0, rfl⟩
        · obtain ⟨h1, h2⟩ := hc
          have hok : okB x = true := by unfold okB; simp [h1, h2]
          have g1 : (48 : Int) ≤ (x : Int) := by omega
          have g2 : (x : Int) ≤ 57 := by omega
          have HOK := Lib.hid hok
          clear hok h1 h2
          go_wp2
          go_meet
          exact ⟨by rw [HOK.out]; rfl, 0, rfl⟩
        · have hok : okB x = markB x := by unfold okB; simp; omega
          have g1 : (x : Int) < 48 := by omega
          have HOK := Lib.hid hok
          clear hok hc
          go_wp2_with (go_at_call 87; refine (crune_any x wr hx).mono ?_; rintro e w' ⟨rfl, n, rfl⟩)
          go_meet
          exact ⟨by rw [HOK.out], n, rfl⟩
        · obtain ⟨h1, h2⟩ := hc
          have hok : okB x = markB x := by unfold okB; simp; omega
          have g1 : (58 : Int) ≤ (x : Int) := by omega
          have g2 : (x : Int) < 97 := by omega
          have HOK := Lib.hid hok
          clear hok h1 h2
          go_wp2_with (go_at_call 87; refine (crune_any x wr hx).mono ?_; rintro e w' ⟨rfl, n, rfl⟩)
          go_meet
          exact ⟨by rw [HOK.out]; simp [show (57 : Int) < (x : Int) by omega], n, rfl⟩
        · have hok : okB x = markB x := by unfold okB; simp; omega
          have g1 : (123 : Int) ≤ (x : Int) := by omega
          have HOK := Lib.hid hok
          clear hok hc
          go_wp2_with (go_at_call 87; refine (crune_any x wr hx).mono ?_; rintro e w' ⟨rfl, n, rfl⟩)
          go_meet
          exact ⟨by rw [HOK.out]; simp [show (57 : Int) < (x : Int) by omega, show (122 : Int) < (x : Int) by omega], n, rfl⟩
      obtain ⟨rfl, q2, hwc⟩ := hcut
      have HWC := Lib.hid hwc
      clear hwc
      cases hok : okB x with
      | true =>
        have HOK := Lib.hid hok
        clear hok
        go_wp2
        refine ⟨⟨k + 1, q + q2, by omega, by go_num, by rw [HWC.out, HWR.out]; exact World.drewN_drewN w _ _, HS.out (by rw [← HX.out]; exact HOK.out)⟩, by simp [intOf]; omega⟩
      | false =>
        have HOK := Lib.hid hok
        clear hok
        go_wp2
        refine bodyPost_ret (results_tmp rfl _ _ _) rfl ?_
        rw [HB.out (by rw [← HX.out]; exact HOK.out)]
        exact ⟨rfl, q + q2, by rw [HWC.out, HWR.out]; exact World.drewN_drewN w _ _⟩
    · obtain rfl : k = s.size := by omega
      have HE := Lib.hid (rightB_end s HA.out)
      clear HA hlt
      rcases Nat.eq_zero_or_pos s.size with h0 | h0
      · have hs0 : s = { data := #[] } := by
          obtain ⟨d⟩ := s
          have : d.size = 0 := h0
          rw [Array.eq_empty_of_size_eq_zero this]
        subst hs0
        go_wp2
        refine bodyPost_ret (results_tmp rfl _ _ _) rfl ?_
        rw [HE.out]
        exact ⟨rfl, q, HWR.out⟩
      · have e1 : s.toList.isEmpty = false := by
          rw [ByteArray.toList_eq, List.isEmpty_eq_false_iff]
          intro e
          have e3 : s.data.toList.length = 0 := by rw [e]; rfl
          rw [Array.length_toList] at e3
          have h2 : s.data.size = s.size := rfl
          omega
        have e2 : (!s.toList.isEmpty) = true := by rw [e1]; rfl
        have h3 : decide ((s.size : Int) ≤ 64) = decide (s.size ≤ 64) := by
          rcases Nat.lt_or_ge 64 s.size with h | h
          · rw [decide_eq_false (by omega), decide_eq_false (by omega)]
          · rw [decide_eq_true (by omega), decide_eq_true (by omega)]
        have H3 := Lib.hid h3
        clear h3
        go_wp2
        refine bodyPost_ret (results_tmp rfl _ _ _) rfl ?_
        rw [HE.out]
        refine ⟨?_, q, HWR.out⟩
        show Ending.returned (.bool (decide ((s.size : Int) ≤ 64))) = _
        rw [H3.out, decide_eq_true (show 1 ≤ s.size from h0)]
        rfl
end Go.Proofs.YtfchnpdgnhoffaaGreatDoor
namespace Go.Proofs.YtfchnpdgnhoffaaGreatDoor
open Go.RowKit Go.Shelf Go.Maps

abbrev Nm := List UInt8
/-- a name's value -/
def nmV (s : Nm) : Value := .string ⟨s.toArray⟩
def ptrV : Option Nat → Value
  | none => .pointer none
  | some g => .pointer (some ⟨g, 0, none⟩)
def ptrElem : Value → Option (DataW Unit × List MemPlace)
  | .pointer none => some (.lit (.int .i64 (-1)), [])
  | .pointer (some ⟨g, 0, none⟩) => some (.lit (.int .i64 (g : Int)), [])
  | _ => none
theorem ptrElem_some {v : Value} {g : Nat} {ps : List MemPlace} (h : ptrElem v = some (.lit (.int .i64 (g : Int)), ps)) : v = .pointer (some ⟨g, 0, none⟩) := by
  unfold ptrElem at h
  split at h
  · injection h with h; injection h with h _; injection h with h; injection h with _ h; omega
  · injection h with h; injection h with h _; injection h with h; injection h with _ h
    have : _ = g := Int.ofNat.inj h
    rw [this]
  · cases h
theorem ptrElem_none {v : Value} {ps : List MemPlace} (h : ptrElem v = some (.lit (.int .i64 (-1)), ps)) : v = .pointer none := by
  unfold ptrElem at h
  split at h
  · rfl
  · injection h with h; injection h with h _; injection h with h; injection h with _ h; omega
  · cases h

abbrev Dl := List (Nm × Nat)
def encE (x : Nm × Nat) : Lit × DataW Unit := (.string x.1, .lit (.int .i64 (x.2 : Int)))
def dirD (l : Dl) : DataW Unit := .map (l.map encE)
def dget (l : Dl) (s : Nm) : Option Nat := (l.find? (fun x => x.1 == s)).map (·.2)
def ddel (l : Dl) (s : Nm) : Dl := l.filter fun x => !(x.1 == s)
def dins (x : Nm × Nat) : Dl → Dl
  | [] => [x]
  | y :: r => if (Lit.string x.1).before (.string y.1) then x :: y :: r else y :: dins x r
def dput (l : Dl) (s : Nm) (g : Nat) : Dl := dins (s, g) (ddel l s)

theorem dirD_ins (x : Nm × Nat) : ∀ l : Dl, DataW.insert (encE x) (l.map encE) = (dins x l).map encE
  | [] => rfl
  | y :: r => by
    simp only [List.map_cons, DataW.insert, dins]
    have e : (encE x).1.before (encE y).1 = (Lit.string x.1).before (.string y.1) := rfl
    rw [e]
    split
    · rfl
    · rw [dirD_ins x r]; rfl
theorem dirD_filter (l : Dl) (s : Nm) : (l.map encE).filter (fun p => !p.1.sameKey (.string s)) = (ddel l s).map encE := by
  unfold ddel
  rw [List.filter_map]
  rfl
theorem dirD_put (l : Dl) (s : Nm) (g : Nat) : (dirD l).put (.string s) (.lit (.int .i64 (g : Int))) = dirD (dput l s g) := by
  show DataW.map (DataW.insert (encE (s, g)) ((l.map encE).filter (fun p => !p.1.sameKey (.string s)))) = _
  rw [dirD_filter, dirD_ins]
  rfl
theorem dirD_del (l : Dl) (s : Nm) : (dirD l).del (.string s) = dirD (ddel l s) := by
  show DataW.map ((l.map encE).filter (fun p => !p.1.sameKey (.string s))) = _
  rw [dirD_filter]
  rfl
theorem dirD_at (l : Dl) (s : Nm) (z : DataW Unit) : (dirD l).atKey (.string s) z = match dget l s with | none => z | some g => .lit (.int .i64 (g : Int)) := by
  unfold dirD DataW.atKey dget
  simp only [List.find?_map]
  have e : ((fun p : Lit × DataW Unit => p.1.sameKey (.string s)) ∘ encE) = fun x : Nm × Nat => x.1 == s := rfl
  rw [e]
  cases l.find? (fun x => x.1 == s) <;> rfl
theorem mem_dins (x y : Nm × Nat) : ∀ l : Dl, y ∈ dins x l ↔ y = x ∨ y ∈ l
  | [] => by simp [dins]
  | z :: r => by
    unfold dins
    split
    · simp
    · simp only [List.mem_cons, mem_dins x y r]
      constructor
      · rintro (h | h | h)
        · exact .inr (.inl h)
        · exact .inl h
        · exact .inr (.inr h)
      · rintro (h | h | h)
        · exact .inr (.inl h)
        · exact .inl h
        · exact .inr (.inr h)
theorem len_dins (x : Nm × Nat) : ∀ l : Dl, (dins x l).length = l.length + 1
  | [] => rfl
  | z :: r => by
    unfold dins
    split
    · rfl
    · simp [len_dins x r]
theorem mem_ddel (l : Dl) (s : Nm) (y : Nm × Nat) : y ∈ ddel l s ↔ y ∈ l ∧ y.1 ≠ s := by
  unfold ddel; simp
theorem mem_dput (l : Dl) (s : Nm) (g : Nat) (y : Nm × Nat) : y ∈ dput l s g ↔ y = (s, g) ∨ (y ∈ l ∧ y.1 ≠ s) := by
  unfold dput; rw [mem_dins, mem_ddel]
theorem len_ddel (l : Dl) (s : Nm) : (ddel l s).length ≤ l.length := List.length_filter_le _ _
theorem len_dput (l : Dl) (s : Nm) (g : Nat) : (dput l s g).length ≤ l.length + 1 := by
  unfold dput; rw [len_dins]; have := len_ddel l s; omega
theorem dget_mem {l : Dl} {s : Nm} {g : Nat} (h : dget l s = some g) : (s, g) ∈ l := by
  unfold dget at h
  obtain ⟨x, hx, rfl⟩ := Option.map_eq_some_iff.1 h
  have h1 := List.find?_some hx
  have h2 := List.mem_of_find?_eq_some hx
  obtain ⟨a, b⟩ := x
  have : a = s := by simpa using h1
  rw [this] at h2
  exact h2
theorem dget_none {l : Dl} {s : Nm} : dget l s = none ↔ ∀ y ∈ l, y.1 ≠ s := by
  unfold dget
  simp
theorem find_dins_hit {f : Nm × Nat → Bool} {x : Nm × Nat} (hx : f x = true) : ∀ l : Dl, (∀ p ∈ l, f p = false) → (dins x l).find? f = some x
  | [], _ => by simp [dins, hx]
  | y :: r, h => by
    unfold dins
    split
    · simp [hx]
    · simp [h y (by simp), find_dins_hit hx r (fun p hp => h p (by simp [hp]))]
theorem find_dins_miss {f : Nm × Nat → Bool} {x : Nm × Nat} (hx : f x = false) : ∀ l : Dl, (dins x l).find? f = l.find? f
  | [] => by simp [dins, hx]
  | y :: r => by
    unfold dins
    split
    · simp [hx]
    · cases hy : f y <;> simp [hy, find_dins_miss hx r]
theorem dget_put (l : Dl) (s t : Nm) (g : Nat) : dget (dput l s g) t = if t = s then some g else dget l t := by
  unfold dget dput
  by_cases h : t = s
  · subst h
    rw [if_pos rfl, find_dins_hit (by simp) _ (fun p hp => by have := (mem_ddel l t p).1 hp; simpa using this.2)]
    rfl
  · rw [if_neg h, find_dins_miss (by simp; exact fun e => h e.symm)]
    unfold ddel
    rw [List.find?_filter]
    congr 2
    funext x
    by_cases hx : x.1 = t
    · simp [hx, h]
    · simp [hx]
theorem dget_del (l : Dl) (s t : Nm) : dget (ddel l s) t = if t = s then none else dget l t := by
  by_cases h : t = s
  · subst h
    rw [if_pos rfl, dget_none]
    intro y hy
    exact ((mem_ddel l t y).1 hy).2
  · rw [if_neg h]
    unfold dget ddel
    rw [List.find?_filter]
    congr 2
    funext x
    by_cases hx : x.1 = t
    · simp [hx, h]
    · simp [hx]

/-- a directory in memory -/
def DirAt (w : World) (b n : Nat) (l : Dl) : Prop := w.ownsMap Tryz.prog 9 ptrElem b n (dirD l)

theorem law9 : Keyed Tryz.prog 9 := string_keyed Tryz.underlying9
theorem zero74 (w : World) : (zeroValue 74).run Tryz.prog w = .ok (.pointer none) w := by kernel_rfl
theorem key_nm (s : ByteArray) (h : s.size ≤ maxLen) : keyOf Tryz.prog 9 (.string s) = some (.string s.data.toList) := WideMaps.keyOf_string_mk Tryz.underlying9 h

section
variable {w w' : World} {b n : Nat} {l : Dl}
theorem DirAt.lt (h : DirAt w b n l) : b < w.heap.size := World.ownsMap.lt h
theorem DirAt.len (h : DirAt w b n l) : l.length ≤ n := by
  have := World.ownsMap.size_le h
  simpa [dirD, Maps.size] using this
theorem DirAt.tight (h : DirAt w b n l) : DirAt w b l.length l := by
  obtain ⟨es, clock, hb, F, hs, hD⟩ := h
  refine ⟨es, clock, hb, F, ?_, hD⟩
  have e1 : Maps.size (dirD l) = es.size := by rw [hD]; simp [Maps.size, length_sorted]
  have e2 : Maps.size (dirD l) = l.length := by simp [dirD, Maps.size]
  omega
theorem DirAt.tidy (h : DirAt w b n l) : l.Pairwise (fun x y => x.1 ≠ y.1) := by
  obtain ⟨es, e, hp⟩ := World.ownsMap.tidy h law9
  have : l.map encE = es := by injection e
  rw [← this, List.pairwise_map] at hp
  exact hp.imp fun hne he => hne (by show Lit.string _ = Lit.string _; rw [he])
theorem DirAt.keep (h : DirAt w b n l) (hb : w'.heap[b]? = w.heap[b]?) : DirAt w' b n l := by
  obtain ⟨es, clock, h1, h2⟩ := h
  exact ⟨es, clock, hb.trans h1, h2⟩
theorem DirAt.mono (h : DirAt w b n l) {n' : Nat} (hn : n ≤ n') : DirAt w b n' l := World.ownsMap.mono h hn
theorem DirAt.blk_ne (h : DirAt w b n l) {g : Nat} {t : TypeId} {cs : Array Value} (hg : Blk w g t cs) : b ≠ g := by
  rintro rfl
  obtain ⟨es, clock, h1, _⟩ := h
  unfold Blk at hg
  rw [h1] at hg
  cases hg
theorem DirAt.own_ne (h : DirAt w b n l) {e : TypeId} {base size k : Nat} {v : Value} {xs : List Value} (hv : w.ownsRow base e size v k xs) : v.ownBlock ≠ some b := by
  rcases hv.2 with ⟨rfl, _⟩ | ⟨g, cap, cur, rfl, _, hg, _⟩
  · simp [Value.ownBlock]
  · intro he
    have e : g = b := by simpa [Value.ownBlock] using he
    subst e
    obtain ⟨es, clock, h1, _⟩ := h
    rw [h1] at hg
    cases hg
theorem dir_made (w : World) : DirAt (w.alloc (.map #[] 0)) w.heap.size 0 [] := World.ownsMap_made w Tryz.prog 9 ptrElem
theorem DirAt.look (h : DirAt w b n l) (s : ByteArray) (hs : s.size ≤ maxLen) : (Instr.lookup 63 (.map (some b)) (.string s) false).run Tryz.prog w = .ok (ptrV (dget l s.data.toList)) w := by
  obtain ⟨v, ps, hrun, hv⟩ := World.ownsMap.lookup h law9 Tryz.underlying63 (zero74 w) (zd := .lit (.int .i64 (-1))) (zp := []) rfl (key_nm s hs)
  rw [dirD_at] at hv
  rw [hrun]
  cases hd : dget l s.data.toList with
  | none => rw [hd] at hv; rw [ptrElem_none hv]; rfl
  | some g => rw [hd] at hv; rw [ptrElem_some hv]; rfl
end
end Go.Proofs.YtfchnpdgnhoffaaGreatDoor
namespace Go.Proofs.YtfchnpdgnhoffaaGreatDoor
open Go.RowKit Go.Shelf Go.Maps

/-! ### how a world may turn: in the blocks of F, and by new ones -/
structure Chg (F : Nat → Prop) (w w' : World) : Prop where
  os : w'.os = w.os
  tape : w'.tape = w.tape
  output : w'.output = w.output
  size : w.heap.size ≤ w'.heap.size
  block : ∀ k, k < w.heap.size → ¬ F k → w'.heap[k]? = w.heap[k]?
/-- F and what is new -/
def Gr (F : Nat → Prop) (w : World) (k : Nat) : Prop := F k ∨ w.heap.size ≤ k

theorem Chg.refl (F : Nat → Prop) (w : World) : Chg F w w := ⟨rfl, rfl, rfl, Nat.le_refl _, fun _ _ _ => rfl⟩
theorem Chg.trans {F G : Nat → Prop} {a b c : World} (h : Chg F a b) (k : Chg G b c) (hG : ∀ x, G x → F x ∨ a.heap.size ≤ x) : Chg F a c :=
  ⟨k.os.trans h.os, k.tape.trans h.tape, k.output.trans h.output, Nat.le_trans h.size k.size, fun i hi hn => (k.block i (Nat.lt_of_lt_of_le hi h.size) (fun hg => by
    rcases hG i hg with h1 | h1
    · exact hn h1
    · omega)).trans (h.block i hi hn)⟩
theorem Chg.then {F : Nat → Prop} {a b c : World} (h : Chg F a b) (k : Chg (Gr F a) b c) : Chg F a c := h.trans k fun _ h => h
theorem Chg.drewN {F : Nat → Prop} {a b : World} (h : Chg F a b) (n : Nat) : Chg F a (b.drewN n) := ⟨h.os, h.tape, h.output, h.size, h.block⟩
theorem Chg.drew {F : Nat → Prop} {a b : World} (h : Chg F a b) : Chg F a b.drew := ⟨h.os, h.tape, h.output, h.size, h.block⟩
theorem Chg.below {F : Nat → Prop} {a b c : World} (h : Chg F a b) {B : Nat} (k : Below B b c) (hB : a.heap.size ≤ B) : Chg F a c :=
  ⟨k.os.trans h.os, k.tape.trans h.tape, k.output.trans h.output, Nat.le_trans h.size k.size, fun i hi hn => (k.block i (by omega)).trans (h.block i hi hn)⟩
theorem Chg.grown {F : Nat → Prop} {a b c : World} {row : Option Nat} (h : Chg F a b) (k : b.grownBy c row) (hr : ∀ g, row = some g → F g ∨ a.heap.size ≤ g) : Chg F a c :=
  ⟨k.os.trans h.os, k.tape.trans h.tape, k.output.trans h.output, Nat.le_trans h.size k.size, fun i hi hn => (k.block i (Nat.lt_of_lt_of_le hi h.size) (fun e => by
    rcases hr i e.symm with h1 | h1
    · exact hn h1
    · omega)).trans (h.block i hi hn)⟩
theorem Chg.alloc {F : Nat → Prop} {a b : World} (h : Chg F a b) (o : Obj) : Chg F a (b.alloc o) := h.grown (World.grownBy_alloc b o none) (fun _ h => by cases h)
theorem Chg.setCell {F : Nat → Prop} {a b : World} (h : Chg F a b) {p : Addr} (hp : F p.block ∨ a.heap.size ≤ p.block) (u : Value) : Chg F a (b.setCell p u) :=
  h.grown (only_setCell (only_refl b (some p.block)) (.inl rfl) u) (fun g hg => by cases hg; exact hp)
theorem Chg.toBelow {F : Nat → Prop} {a b : World} (h : Chg F a b) {B : Nat} (hF : ∀ k, F k → B ≤ k) (hB : B ≤ a.heap.size) : Below B a b :=
  ⟨h.os, h.tape, h.output, h.size, fun k hk => h.block k (by omega) (fun hf => by have := hF k hf; omega)⟩
theorem Gr.mono {F : Nat → Prop} {a b : World} (h : a.heap.size ≤ b.heap.size) (k : Nat) : Gr (Gr F a) b k → Gr F a k
  | .inl h => h
  | .inr h' => .inr (by omega)

/-! ### the state -/
def bytesV (l : List UInt8) : List Value := l.map fun b => .int .u8 (b.toNat : Int)
theorem bytesV_length (l : List UInt8) : (bytesV l).length = l.length := by simp [bytesV]
theorem bytesV_one (l : List UInt8) : ∀ u ∈ bytesV l, u.oneCell' = true := by
  intro u hu
  obtain ⟨b, -, rfl⟩ := List.mem_map.1 hu
  rfl

/-- a change that pends -/
structure Ch where
  from_ : Nm
  name : Nm
  file : Option Nat
def chV (c : Ch) : List Value := [nmV c.from_, nmV c.name, ptrV c.file]
def chsV (l : List Ch) : List Value := l.flatMap chV
def fltV (f : Int × Int) : List Value := [.int .i64 f.1, .int .i64 f.2]
def fltsV (l : List (Int × Int)) : List Value := l.flatMap fltV
theorem chsV_length (l : List Ch) : (chsV l).length = l.length * 3 := by
  induction l with
  | nil => rfl
  | cons a l ih =>
    show (chV a ++ chsV l).length = _
    rw [List.length_append, ih]
    simp [chV]; omega
theorem fltsV_length (l : List (Int × Int)) : (fltsV l).length = l.length * 2 := by
  induction l with
  | nil => rfl
  | cons a l ih =>
    show (fltV a ++ fltsV l).length = _
    rw [List.length_append, ih]
    simp [fltV]; omega
theorem chsV_snoc (l : List Ch) (c : Ch) : chsV (l ++ [c]) = chsV l ++ chV c := by simp [chsV]
theorem fltsV_snoc (l : List (Int × Int)) (f : Int × Int) : fltsV (l ++ [f]) = fltsV l ++ fltV f := by simp [fltsV]

/-- a change, done to a directory -/
def doL (l : Dl) (c : Ch) : Dl := match c.file with
  | some g => if c.name = [] then l else dput l c.name g
  | none => if c.name = [] then ddel l c.from_ else match dget l c.from_ with
    | some g => dput (ddel l c.from_) c.name g
    | none => ddel l c.from_
/-- a change that finds what it moves -/
def okC (l : Dl) (c : Ch) : Prop := c.file = none → c.name ≠ [] → (dget l c.from_).isSome = true
def Replays : Dl → List Ch → Prop
  | _, [] => True
  | l, c :: r => okC l c ∧ Replays (doL l c) r
def replay (l : Dl) (cs : List Ch) : Dl := cs.foldl doL l
theorem replays_snoc : ∀ (l : Dl) (cs : List Ch) (c : Ch), Replays l cs → okC (replay l cs) c → Replays l (cs ++ [c])
  | _, [], _, _, h => ⟨h, trivial⟩
  | l, x :: cs, c, ⟨h1, h2⟩, h => ⟨h1, replays_snoc (doL l x) cs c h2 h⟩
theorem replay_snoc (l : Dl) (cs : List Ch) (c : Ch) : replay l (cs ++ [c]) = doL (replay l cs) c := by simp [replay]
structure RepOk (safe : Dl) (pend : List Ch) (names : Dl) : Prop where
  ok : Replays safe pend
  eq_ : replay safe pend = names
theorem RepOk.snoc {safe names : Dl} {pend : List Ch} (h : RepOk safe pend names) (c : Ch) (hc : okC names c) {names' : Dl} (hn : doL names c = names') : RepOk safe (pend ++ [c]) names' :=
  ⟨replays_snoc safe pend c h.ok (by rw [h.eq_]; exact hc), by rw [replay_snoc, h.eq_, hn]⟩
theorem RepOk.start (l : Dl) : RepOk l [] l := ⟨trivial, rfl⟩

structure DS where
  cap : Int
  ops : Nat
  names : Dl
  safe : Dl
  pend : List Ch
  flts : List (Int × Int)
  stopped : Bool
  stop : Int
  /-- of each file: the slice's value, the bytes, how many are durable -/
  raw : Nat → Value
  bytes : Nat → List UInt8
  kept : Nat → Nat
  /-- where it lies -/
  mn : Nat
  ms : Nat
  vp : Value
  vf : Value

def live (s : DS) (g : Nat) : Prop := (∃ x ∈ s.names, x.2 = g) ∨ (∃ x ∈ s.safe, x.2 = g) ∨ (∃ c ∈ s.pend, c.file = some g)

structure FileAt (w : World) (F : Nat → Prop) (s : DS) (g : Nat) : Prop where
  blk : Blk w g 85 #[s.raw g, .int .i64 (s.kept g : Int)]
  own : F g
  row : w.ownsRow 0 5 1 (s.raw g) (s.bytes g).length (bytesV (s.bytes g))
  rowF : ∀ k, (s.raw g).ownBlock = some k → F k
  le : s.kept g ≤ (s.bytes g).length
  len : (s.bytes g).length ≤ 100000 * s.ops

def nmOk (s : Nm) : Prop := s.length ≤ 64

structure DiskAt (w : World) (F : Nat → Prop) (p : Nat) (s : DS) : Prop where
  blk : Blk w p 67 #[.int .i64 s.cap, .int .i64 (s.ops : Int), .map (some s.mn), .map (some s.ms), s.vp, s.vf, .bool s.stopped, .int .i64 s.stop]
  own : F p
  names : DirAt w s.mn s.names.length s.names
  safe : DirAt w s.ms s.safe.length s.safe
  namesL : s.names.length ≤ s.ops
  safeL : s.safe.length ≤ s.ops
  mnF : F s.mn
  msF : F s.ms
  mne : s.mn ≠ s.ms
  pend : w.ownsRow 0 77 3 s.vp s.pend.length (chsV s.pend)
  pendF : ∀ k, s.vp.ownBlock = some k → F k
  pendL : s.pend.length ≤ s.ops
  flts : w.ownsRow 0 108 2 s.vf s.flts.length (fltsV s.flts)
  fltsF : ∀ k, s.vf.ownBlock = some k → F k
  file : ∀ g, live s g → FileAt w F s g
  apart : ∀ g h, live s g → live s h → g ≠ h → (s.raw g).ownBlock = none ∨ (s.raw g).ownBlock ≠ (s.raw h).ownBlock
  nameOk : ∀ x ∈ s.names, nmOk x.1
  safeOk : ∀ x ∈ s.safe, nmOk x.1
  pendOk : ∀ c ∈ s.pend, nmOk c.from_ ∧ nmOk c.name
  capB : 0 ≤ s.cap ∧ s.cap < 9223372036854775808
  rep : RepOk s.safe s.pend s.names

section
variable {w w' : World} {F G : Nat → Prop} {p : Nat} {s : DS}
theorem own_keep {e : TypeId} {base size k : Nat} {v : Value} {xs : List Value} (h : w.ownsRow base e size v k xs) (hb : ∀ k, v.ownBlock = some k → k < w.heap.size → w'.heap[k]? = w.heap[k]?) : w'.ownsRow base e size v k xs := by
  refine ⟨h.1, ?_⟩
  have hlt := h.lt
  rcases h.2 with hn | ⟨g, cap, cur, rfl, hg, hh, rest⟩
  · exact .inl hn
  · exact .inr ⟨g, cap, cur, rfl, hg, (hb g rfl (hlt g rfl).2).trans hh, rest⟩
theorem FileAt.keep {g : Nat} (h : FileAt w F s g) (hb : ∀ k, F k → k < w.heap.size → w'.heap[k]? = w.heap[k]?) (hF : ∀ k, F k → G k) : FileAt w' G s g :=
  ⟨(hb g h.own h.blk.lt).trans h.blk, hF _ h.own, own_keep h.row (fun k hk => hb k (h.rowF k hk)), fun k hk => hF _ (h.rowF k hk), h.le, h.len⟩
theorem DiskAt.keep (h : DiskAt w F p s) (hb : ∀ k, F k → k < w.heap.size → w'.heap[k]? = w.heap[k]?) (hF : ∀ k, F k → G k) : DiskAt w' G p s where
  blk := (hb p h.own h.blk.lt).trans h.blk
  own := hF _ h.own
  names := h.names.keep (hb _ h.mnF h.names.lt)
  safe := h.safe.keep (hb _ h.msF h.safe.lt)
  namesL := h.namesL
  safeL := h.safeL
  mnF := hF _ h.mnF
  msF := hF _ h.msF
  mne := h.mne
  pend := own_keep h.pend fun k hk => hb k (h.pendF k hk)
  pendF := fun k hk => hF _ (h.pendF k hk)
  pendL := h.pendL
  flts := own_keep h.flts fun k hk => hb k (h.fltsF k hk)
  fltsF := fun k hk => hF _ (h.fltsF k hk)
  file := fun g hg => (h.file g hg).keep hb hF
  apart := h.apart
  nameOk := h.nameOk
  safeOk := h.safeOk
  pendOk := h.pendOk
  capB := h.capB
  rep := h.rep
theorem DiskAt.lt (h : DiskAt w F p s) : p < w.heap.size := h.blk.lt
theorem DiskAt.inF (h : DiskAt w F p s) (hF : ∀ k, F k → G k) : DiskAt w G p s := h.keep (fun _ _ _ => rfl) hF
theorem DiskAt.drewN (h : DiskAt w F p s) (n : Nat) : DiskAt (w.drewN n) F p s := h.keep (fun _ _ _ => rfl) fun _ h => h
/-- the cells of the disk's own block -/
theorem DiskAt.cells (h : DiskAt w F p s) : w.cell? ⟨p, 0, none⟩ = some (.int .i64 s.cap) ∧ w.cell? ⟨p, 1, none⟩ = some (.int .i64 (s.ops : Int)) ∧ w.cell? ⟨p, 2, none⟩ = some (.map (some s.mn)) ∧ w.cell? ⟨p, 3, none⟩ = some (.map (some s.ms)) ∧
    w.cell? ⟨p, 4, none⟩ = some s.vp ∧ w.cell? ⟨p, 5, none⟩ = some s.vf ∧ w.cell? ⟨p, 6, none⟩ = some (.bool s.stopped) ∧ w.cell? ⟨p, 7, none⟩ = some (.int .i64 s.stop) :=
  ⟨h.blk.cell 0, h.blk.cell 1, h.blk.cell 2, h.blk.cell 3, h.blk.cell 4, h.blk.cell 5, h.blk.cell 6, h.blk.cell 7⟩
end
end Go.Proofs.YtfchnpdgnhoffaaGreatDoor
namespace Go.Proofs.YtfchnpdgnhoffaaGreatDoor
open Go.RowKit Go.Shelf Go.Maps

def emptyS (cap : Int) (mn ms : Nat) : DS := { cap := cap, ops := 0, names := [], safe := [], pend := [], flts := [], stopped := false, stop := 0, raw := fun _ => .slice none 0 0, bytes := fun _ => [], kept := fun _ => 0, mn := mn, ms := ms, vp := .slice none 0 0, vf := .slice none 0 0 }

theorem empty_at (w : World) (F : Nat → Prop) (p mn ms : Nat) (cap : Int) (hc : 0 ≤ cap ∧ cap < 9223372036854775808) (hF : ∀ k, k = p ∨ k = mn ∨ k = ms → F k) (hne : mn ≠ ms)
    (h1 : Blk w p 67 #[.int .i64 cap, .int .i64 0, .map (some mn), .map (some ms), .slice none 0 0, .slice none 0 0, .bool false, .int .i64 0]) (h2 : DirAt w mn 0 []) (h3 : DirAt w ms 0 []) : DiskAt w F p (emptyS cap mn ms) where
  blk := h1
  own := hF _ (.inl rfl)
  names := h2
  safe := h3
  namesL := Nat.le_refl _
  safeL := Nat.le_refl _
  mnF := hF _ (.inr (.inl rfl))
  msF := hF _ (.inr (.inr rfl))
  mne := hne
  pend := World.ownsRow_nil _ _ _ _
  pendF := fun k hk => by cases hk
  pendL := Nat.le_refl _
  flts := World.ownsRow_nil _ _ _ _
  fltsF := fun k hk => by cases hk
  file := fun g hg => by
    rcases hg with ⟨x, hx, _⟩ | ⟨x, hx, _⟩ | ⟨x, hx, _⟩ <;> cases hx
  apart := fun g h hg => by
    rcases hg with ⟨x, hx, _⟩ | ⟨x, hx, _⟩ | ⟨x, hx, _⟩ <;> cases hx
  nameOk := fun x hx => by cases hx
  safeOk := fun x hx => by cases hx
  pendOk := fun x hx => by cases hx
  capB := hc
  rep := RepOk.start _

set_option maxRecDepth 100000 in
set_option maxHeartbeats 1600000 in
theorem new_any (cap : Int) (w : World) (hc : cap < 9223372036854775808) : Calls Tryz.prog 27 #[.int .i64 cap] w fun e w' => ∃ p mn ms, e = .returned (.pointer (some ⟨p, 0, none⟩)) ∧ DiskAt w' (fun k => w.heap.size ≤ k) p (emptyS (max cap 0) mn ms) ∧ Below w.heap.size w w' := by
  have hmm := @run_makeMap Tryz.prog
  go_enter Tryz.func27, Tryz.ntmps27
  go_wp2
  go_ret
  obtain ⟨w1, hw1⟩ : ∃ w1, w.alloc (.map #[] 0) = w1 := ⟨_, rfl⟩
  have s1 : w1.heap.size = w.heap.size + 1 := by rw [← hw1]; simp
  have d1 : DirAt w1 w.heap.size 0 [] := by rw [← hw1]; exact dir_made w
  have b1 : Below w.heap.size w w1 := by rw [← hw1]; exact (Below.refl _ w).alloc (Nat.le_refl _) _
  rw [hw1]
  obtain ⟨w2, hw2⟩ : ∃ w2, w1.alloc (.map #[] 0) = w2 := ⟨_, rfl⟩
  have s2 : w2.heap.size = w.heap.size + 2 := by rw [← hw2]; simp; omega
  have d2 : DirAt w2 (w.heap.size + 1) 0 [] := by rw [← hw2, ← s1]; exact dir_made w1
  have b2 : Below w1.heap.size w1 w2 := by rw [← hw2]; exact (Below.refl _ w1).alloc (Nat.le_refl _) _
  rw [hw2]
  have d1' := d1.keep (b2.block _ d1.lt)
  refine ⟨w2.heap.size, w.heap.size, w.heap.size + 1, ?_, empty_at _ _ _ _ _ _ (by omega) ?_ (by omega) (Blk.new w2 67 _) (d1'.keep (Below.heap_alloc _ _ _ d1'.lt)) (d2.keep (Below.heap_alloc _ _ _ d2.lt)), ?_⟩
  · rw [s2]; rfl
  · rintro k (rfl | rfl | rfl) <;> omega
  · exact (b1.trans (b2.mono (by omega))).alloc (by omega) _
end Go.Proofs.YtfchnpdgnhoffaaGreatDoor
namespace Go.Proofs.YtfchnpdgnhoffaaGreatDoor
open Go.RowKit Go.Shelf Go.Maps

theorem own_slice {w : World} {base : Nat} {e : TypeId} {size : Nat} {v : Value} {n : Nat} {xs : List Value} (h : w.ownsRow base e size v n xs) : ∃ A c, v = .slice A n c := by
  rcases h.2 with ⟨rfl, h0⟩ | ⟨g, cap, cur, rfl, _⟩
  · exact ⟨none, 0, by rw [h0]⟩
  · exact ⟨_, _, rfl⟩
theorem own_low {w : World} {b b' : Nat} {e : TypeId} {z n : Nat} {v : Value} {xs : List Value} (h : w.ownsRow b e z v n xs) (hb : b' ≤ b) : w.ownsRow b' e z v n xs :=
  ⟨h.1, h.2.imp id fun ⟨g, c, cur, a, b, r⟩ => ⟨g, c, cur, a, by omega, r⟩⟩
theorem info108 : (Tryz.prog.info? 108).map (fun i => (i.zero, i.size, i.bytes)) = some (some (.agg #[.int .i64 0, .int .i64 0]), 2, 16) := by kernel_rfl

def leftF (l : List (Int × Int)) (t : Int) : List (Int × Int) := l.filter fun f => !(f.1 == t)
def struckF (l : List (Int × Int)) (t : Int) : Option Int := (l.find? fun f => f.1 == t).map (·.2)
theorem leftF_len (l : List (Int × Int)) (t : Int) : (leftF l t).length ≤ l.length := List.length_filter_le _ _
theorem leftF_snoc (l : List (Int × Int)) (k : Nat) (h : k < l.length) (t : Int) : leftF (l.take (k + 1)) t = leftF (l.take k) t ++ (if l[k].1 = t then [] else [l[k]]) := by
  unfold leftF
  rw [List.take_succ_eq_append_getElem h, List.filter_append]
  congr 1
  by_cases e : l[k].1 = t <;> simp [e]
theorem struckF_snoc (l : List (Int × Int)) (k : Nat) (h : k < l.length) (t : Int) : struckF (l.take (k + 1)) t = (struckF (l.take k) t).or (if l[k].1 = t then some l[k].2 else none) := by
  unfold struckF
  rw [List.take_succ_eq_append_getElem h, List.find?_append]
  cases (l.take k).find? (fun f => f.1 == t) with
  | some x => rfl
  | none =>
    by_cases e : l[k].1 = t <;> simp [e]

theorem fltsV_at : ∀ (l : List (Int × Int)) (k : Nat) (h : k < l.length), (fltsV l)[k * 2]? = some (.int .i64 l[k].1) ∧ (fltsV l)[k * 2 + 1]? = some (.int .i64 l[k].2)
  | [], k, h => absurd h (Nat.not_lt_zero _)
  | a :: l, 0, h => ⟨rfl, rfl⟩
  | a :: l, k + 1, h => by
    have := fltsV_at l k (by simpa using h)
    have e : fltsV (a :: l) = [.int .i64 a.1, .int .i64 a.2] ++ fltsV l := rfl
    rw [e, List.getElem?_append_right (by simp; omega), List.getElem?_append_right (by simp; omega)]
    refine ⟨?_, ?_⟩
    · rw [show (k + 1) * 2 - [Value.int .i64 a.1, .int .i64 a.2].length = k * 2 by simp; omega]; exact this.1
    · rw [show (k + 1) * 2 + 1 - [Value.int .i64 a.1, .int .i64 a.2].length = k * 2 + 1 by simp; omega]; exact this.2
theorem fltV_one (x : Int × Int) : ∀ u ∈ fltV x, u.oneCell' = true := by
  intro u hu
  simp only [fltV, List.mem_cons, List.not_mem_nil, or_false] at hu
  rcases hu with rfl | rfl <;> rfl

theorem reads_new2 (w : World) (t : TypeId) (a b : Value) : Reads (w.alloc (.cells #[a, b] t)) (w.heap.size + 1) 2 (some ⟨w.heap.size, 0, none⟩) 1 [a, b] := by
  have hb := Blk.new w t #[a, b]
  refine ⟨rfl, fun _ => ⟨_, rfl, Nat.lt_succ_self _, fun j u hu => ?_⟩⟩
  have e : (⟨w.heap.size, 0, none⟩ : Addr).add j = ⟨w.heap.size, j, none⟩ := by unfold Addr.add; split <;> simp_all
  rw [e, hb.cell j]
  match j with
  | 0 => exact hu
  | 1 => exact hu
  | j + 2 => cases hu

def beginS (s : DS) (ns : List ByteArray) : Int × Int :=
  if s.stopped = true ∧ s.stop ≤ (s.ops : Int) then (0, 7)
  else match struckF s.flts s.ops with
    | some k => (k, 6)
    | none => if ns.all rightB then (0, 0) else (0, 2)
def begun (s : DS) (v : Value) : DS := { s with ops := s.ops + 1, flts := leftF s.flts s.ops, vf := v }

theorem DiskAt.begun {w w' : World} {F : Nat → Prop} {p : Nat} {s : DS} (h : DiskAt w F p s) (v : Value) (hg : ∀ k, k < w.heap.size → k ≠ p → w'.heap[k]? = w.heap[k]?)
    (hb : Blk w' p 67 #[.int .i64 s.cap, .int .i64 ((s.ops : Int) + 1), .map (some s.mn), .map (some s.ms), s.vp, v, .bool s.stopped, .int .i64 s.stop])
    (hv : w'.ownsRow 0 108 2 v (leftF s.flts s.ops).length (fltsV (leftF s.flts s.ops))) (hF : ∀ k, v.ownBlock = some k → Gr F w k) : DiskAt w' (Gr F w) p (begun s v) := by
  have hmn : s.mn ≠ p := h.names.blk_ne h.blk
  have hms : s.ms ≠ p := h.safe.blk_ne h.blk
  have hvp : ∀ k, s.vp.ownBlock = some k → k ≠ p := fun k hk e => own_blk_ne h.pend h.blk (by decide) (by rw [hk, e])
  exact {
    blk := hb
    own := .inl h.own
    names := h.names.keep (hg _ h.names.lt hmn)
    safe := h.safe.keep (hg _ h.safe.lt hms)
    namesL := Nat.le_succ_of_le h.namesL
    safeL := Nat.le_succ_of_le h.safeL
    mnF := .inl h.mnF
    msF := .inl h.msF
    mne := h.mne
    pend := own_keep h.pend fun k hk hlt => hg k hlt (hvp k hk)
    pendF := fun k hk => .inl (h.pendF k hk)
    pendL := Nat.le_succ_of_le h.pendL
    flts := hv
    fltsF := hF
    file := fun g hl => by
      have hf := h.file g hl
      have hgp : g ≠ p := Blk.ne_ hf.blk h.blk (by decide)
      refine ⟨(hg g hf.blk.lt hgp).trans hf.blk, .inl hf.own, own_keep hf.row fun k hk hlt => hg k hlt fun e => own_blk_ne hf.row h.blk (by decide) (by rw [← e]; exact hk), fun k hk => .inl (hf.rowF k hk), hf.le, ?_⟩
      have := hf.len
      show (s.bytes g).length ≤ 100000 * (s.ops + 1)
      omega
    apart := h.apart
    nameOk := h.nameOk
    safeOk := h.safeOk
    pendOk := h.pendOk
    capB := h.capB
    rep := h.rep }

/-- what begin leaves -/
def BeginPost (w : World) (F : Nat → Prop) (p : Nat) (s : DS) (ns : List ByteArray) (e : Ending) (w' : World) : Prop :=
  ∃ v, e = .returned (.tuple #[.int .i64 (beginS s ns).1, .int .i64 (beginS s ns).2]) ∧ DiskAt w' (Gr F w) p (begun s v) ∧ Chg F w w'

def BegR (w1 : World) (l : List (Int × Int)) (t : Int) (v b kd i : Value) (wr : World) : Prop :=
  ∃ (k : Nat) (u : Value), k ≤ l.length ∧ u = v ∧ b = .bool (struckF (l.take k) t).isSome ∧ kd = .int .i64 ((struckF (l.take k) t).getD 0) ∧ i = .int .i64 k ∧
    wr.ownsRow w1.heap.size 108 2 u (leftF (l.take k) t).length (fltsV (leftF (l.take k) t)) ∧ Below w1.heap.size w1 wr

def NameR (w : World) (ns : List ByteArray) (i : Value) (wr : World) : Prop := ∃ k q : Nat, k ≤ ns.length ∧ i = .int .i64 k ∧ wr = w.drewN q ∧ (ns.take k).all rightB = true

set_option maxRecDepth 100000 in
set_option maxHeartbeats 6400000 in
theorem begin_any (w : World) (F : Nat → Prop) (p : Nat) (s : DS) (ns : List ByteArray) (A : Option Addr) (n c : Nat) (h : DiskAt w F p s) (hR : Reads w w.heap.size 1 A n (ns.map Value.string)) (hns : ∀ x ∈ ns, x.size ≤ 9223372036854775807) (hn : n ≤ 2)
    (ho : s.ops ≤ 1000000) (hf : s.flts.length ≤ 100000) (hAp : ∀ ad, A = some ad → ad.block ≠ p) : Calls Tryz.prog 71 #[.pointer (some ⟨p, 0, none⟩), .slice A n c] w (BeginPost w F p s ns) := by
  obtain ⟨i0, hi, hz0, hz1, hz2⟩ := info_parts info108
  have HI := Lib.hid hi
  have HZ0 := Lib.hid hz0
  have HZ1 := Lib.hid hz1
  have HZ2 := Lib.hid hz2
  obtain ⟨-, c1, -, -, -, c5, -, -⟩ := h.cells
  have f1 := h.blk.frozen 1
  obtain ⟨A5, d5, hvf⟩ := own_slice h.flts
  rw [hvf] at c5
  have HVF := Lib.hid hvf
  have HA5 := Lib.hid (show 0 < s.flts.length → ∃ g, A5 = some ⟨g, 0, none⟩ from fun h0 => by
    obtain ⟨g, c, e⟩ := own_succ h.flts h0
    rw [hvf] at e
    injection e with e
    exact ⟨g, e⟩)
  have hRF := Reads.of_own (hvf ▸ h.flts)
  have HRF := Lib.hid hRF
  have hp := h.lt
  have H := Lib.hid h
  have HR := Lib.hid hR
  have HN := Lib.hid hns
  have HAP := Lib.hid hAp
  clear hAp h hR hns hi hz0 hz1 hz2 hvf hRF
  go_enter Tryz.func71, Tryz.ntmps71
  go_wp2_with fail
  obtain ⟨w1, hw1⟩ : ∃ w1, w.setCell ⟨p, 1, none⟩ (.int .i64 ((s.ops : Int) + 1)) = w1 := ⟨_, rfl⟩
  have hs1 : w1.heap.size = w.heap.size := by rw [← hw1]; simp [World.setCell]
  have hk1 : ∀ k, k ≠ p → w1.heap[k]? = w.heap[k]? := fun k hk => by rw [← hw1]; exact Below.heap_setCell w ⟨p, 1, none⟩ _ k hk
  have hb1 : Blk w1 p 67 #[.int .i64 s.cap, .int .i64 ((s.ops : Int) + 1), .map (some s.mn), .map (some s.ms), s.vp, s.vf, .bool s.stopped, .int .i64 s.stop] := by
    rw [← hw1]; exact H.out.blk.set_ 1 _
  have hc1 : Chg F w w1 := by rw [← hw1]; exact (Chg.refl F w).setCell (.inl H.out.own) _
  rw [hw1]
  have hRF1 : Reads w1 w1.heap.size 2 A5 s.flts.length (fltsV s.flts) := by
    have := own_keep (w' := w1) H.out.flts (fun k hk _ => hk1 k (fun e => own_blk_ne H.out.flts H.out.blk (by decide) (by rw [hk, e])))
    rw [HVF.out] at this
    exact Reads.of_own this
  have HRF1 := Lib.hid hRF1
  have HK1 := Lib.hid hk1
  have HB1 := Lib.hid hb1
  have HC1 := Lib.hid hc1
  have hp1 : p < w1.heap.size := by omega
  clear hw1 hk1 hb1 hc1 hRF1 c1 c5 f1
  generalize hl : s.flts = fl at *
  generalize ht : (s.ops : Int) = t at *
  go_loopw [7, 8, 4, 29] (fun v b kd i wr => BegR w1 fl t v b kd i wr) (fun _ _ _ i _ => fl.length - (intOf i).toNat)
  case atStart => exact ⟨0, _, Nat.zero_le _, rfl, rfl, rfl, rfl, World.ownsRow_nil _ _ _ _, Below.refl _ _⟩
  case round =>
    obtain ⟨k, u, hk, hu, rfl, rfl, rfl, ho, hb⟩ := hrel
    subst hu
    have HO := Lib.hid ho
    have HB := Lib.hid hb
    have hsz := hb.size
    clear ho hb
    by_cases hlt : k < fl.length
    · have hfa := fltsV_at fl k hlt
      have hLS := leftF_snoc fl k hlt t
      have hSS := struckF_snoc fl k hlt t
      have hll := leftF_len (fl.take k) t
      rw [List.length_take] at hll
      obtain ⟨ad, hA, hg5, hcell⟩ := HRF1.out.2 (by omega)
      obtain ⟨g5, hA'⟩ := HA5.out (by omega)
      subst hA'
      obtain rfl : ⟨g5, 0, none⟩ = ad := by injection hA
      clear hA
      have hadd : ∀ j, (⟨g5, 0, none⟩ : Addr).add j = ⟨g5, j, none⟩ := fun j => by unfold Addr.add; split <;> simp_all
      obtain ⟨x, y, hxy⟩ : ∃ x y, fl[k] = (x, y) := ⟨_, _, rfl⟩
      rw [hxy] at hfa hLS hSS
      have e0 : w1.cell? ⟨g5, k * 2, none⟩ = some (.int .i64 x) := by rw [← hadd]; exact hcell _ _ hfa.1
      have e1 : w1.cell? ⟨g5, k * 2 + 1, none⟩ = some (.int .i64 y) := by rw [← hadd]; exact hcell _ _ hfa.2
      have d0 : wr.cell? ⟨g5, k * 2, none⟩ = some (.int .i64 x) := (HB.out.cell (p := ⟨g5, k * 2, none⟩) hg5).trans e0
      have d1 : wr.cell? ⟨g5, k * 2 + 1, none⟩ = some (.int .i64 y) := (HB.out.cell (p := ⟨g5, k * 2 + 1, none⟩) hg5).trans e1
      clear e0 e1
      have HLS := Lib.hid hLS
      have HSS := Lib.hid hSS
      clear hfa hLS hSS hcell hxy hadd
      have hkl : (leftF (fl.take k) t).length ≤ 100000 := by omega
      clear hll
      by_cases hx : x = t
      · have q : (x != t) = false := by simp [hx]
        have HX := Lib.hid hx
        cases hs : struckF (List.take k fl) t with
        | none =>
          have HS := Lib.hid hs
          clear hx hs
          go_wp2_with fail
          go_quiet (fail)
          go_wp2
          refine ⟨⟨k + 1, u, by omega, rfl, ?_, ?_, by go_num, ?_, below_drewN (HB.out.alloc (by omega) _) _⟩, by simp [intOf]; omega⟩
          · rw [HSS.out, HS.out, if_pos HX.out]; rfl
          · rw [HSS.out, HS.out, if_pos HX.out]; rfl
          · rw [HLS.out, if_pos HX.out, List.append_nil]; exact HO.out.alloc _
        | some v0 =>
          have HS := Lib.hid hs
          clear hx hs
          go_wp2_with fail
          refine ⟨⟨k + 1, u, by omega, rfl, ?_, ?_, by go_num, ?_, HB.out.alloc (by omega) _⟩, by simp [intOf]; omega⟩
          · rw [HSS.out, HS.out]; rfl
          · rw [HSS.out, HS.out]; rfl
          · rw [HLS.out, if_pos HX.out, List.append_nil]; exact HO.out.alloc _
      · have q : (x != t) = true := by simp [hx]
        have HX := Lib.hid hx
        clear hx
        go_wp2_with (at_builtin; go_loud (refine wpList_append_any _ rfl (.tmp 38) (.tmp 40) 65 rfl w1.heap.size 108 i0 (.agg #[.int .i64 0, .int .i64 0]) 2 16 Tryz.underlying65 HI.out HZ0.out HZ1.out HZ2.out rfl (by omega) u _ _ rfl ((HO.out.alloc _).alloc _) (wr.heap.size + 2) (some ⟨wr.heap.size + 1, 0, none⟩) 1 1 [.int .i64 x, .int .i64 y] rfl (by have := reads_new2 (wr.alloc (.cells #[.int .i64 x, .int .i64 y] 108)) 108 (.int .i64 x) (.int .i64 y); rwa [World.size_alloc] at this) (fltV_one (x, y)) (by simp [maxLen]; omega) (by omega) (by simp; omega) ?_; intro v2 w2 hown2 hgrow2 _; have HW2 := Lib.hid hown2; have HG2 := Lib.hid hgrow2; clear hown2 hgrow2))
        have hg := HG2.out.size
        refine ⟨⟨k + 1, v2, by omega, rfl, ?_, ?_, by go_num, ?_, ((HB.out.alloc (by omega) _).alloc (by simp; omega) _).grown HG2.out (by simp; omega) (fun g hg => (HO.out.lt g hg).1)⟩, by simp [intOf]; omega⟩
        · rw [HSS.out, if_neg HX.out, Option.or_none]
        · rw [HSS.out, if_neg HX.out, Option.or_none]
        · rw [HLS.out, if_neg HX.out, List.length_append, fltsV_snoc]
          exact HW2.out
    · obtain rfl : k = fl.length := by omega
      have HO' := Lib.hid (show wr.ownsRow w1.heap.size 108 2 u (leftF fl t).length (fltsV (leftF fl t)) by have := HO.out; rwa [List.take_length] at this)
      have hBR := HB1.out.below HB.out hp1
      have c6 : wr.cell? ⟨p, 6, none⟩ = some (.bool s.stopped) := hBR.cell 6
      have c7 : wr.cell? ⟨p, 7, none⟩ = some (.int .i64 s.stop) := hBR.cell 7
      have c5 : wr.cell? ⟨p, 5, none⟩ = some s.vf := hBR.cell 5
      have f5 := hBR.frozen 5
      have HBR := Lib.hid hBR
      rw [List.take_length]
      obtain ⟨A7, d7, hu⟩ := own_slice HO'.out
      subst hu
      clear hBR HO hlt
      go_upto_region 14 with fail
      obtain ⟨w3, hw3⟩ : ∃ w3, wr.setCell ⟨p, 5, none⟩ (.slice A7 (leftF fl t).length d7) = w3 := ⟨_, rfl⟩
      rw [hw3]
      have hb3 : Blk w3 p 67 #[.int .i64 s.cap, .int .i64 (t + 1), .map (some s.mn), .map (some s.ms), s.vp, .slice A7 (leftF fl t).length d7, .bool s.stopped, .int .i64 s.stop] := by
        rw [← hw3]; exact HBR.out.set_ 5 _
      have hs3 : w3.heap.size = wr.heap.size := by rw [← hw3]; simp [World.setCell]
      have ho3 : w3.ownsRow w1.heap.size 108 2 (.slice A7 (leftF fl t).length d7) (leftF fl t).length (fltsV (leftF fl t)) := by
        rw [← hw3]; exact ownsRow_setCell_below HO'.out hp1 _
      have hk3 : ∀ k, k < w.heap.size → k ≠ p → w3.heap[k]? = w.heap[k]? := fun k hk hne => by
        rw [← hw3, Below.heap_setCell _ _ _ _ hne, HB.out.block k (by omega), HK1.out k hne]
      have hc3 : Chg F w w3 := by rw [← hw3]; exact (HC1.out.below HB.out (by omega)).setCell (.inl H.out.own) _
      have hD : DiskAt w3 (Gr F w) p (begun s (.slice A7 (leftF fl t).length d7)) := by
        refine H.out.begun _ hk3 (by rw [ht]; exact hb3) ?_ ?_
        · rw [hl, ht]; exact own_low ho3 (Nat.zero_le _)
        · intro k hk
          have := (ho3.lt k hk).1
          exact .inr (by omega)
      have c6' : w3.cell? ⟨p, 6, none⟩ = some (.bool s.stopped) := hb3.cell 6
      have c7' : w3.cell? ⟨p, 7, none⟩ = some (.int .i64 s.stop) := hb3.cell 7
      have HD := Lib.hid hD
      have HC3 := Lib.hid hc3
      have HR3 := Lib.hid (show Reads w3 w3.heap.size 1 A n (ns.map Value.string) from ⟨HR.out.1, fun h0 => by
        obtain ⟨ad, e, hlt, hc⟩ := HR.out.2 h0
        refine ⟨ad, e, by omega, fun j v hv => (World.cell?_of_block (a := ad.add j) ?_).trans (hc j v hv)⟩
        rw [block_of_add]
        exact hk3 _ hlt (HAP.out ad e)⟩)
      clear hw3 hb3 ho3 hk3 hc3 hD c6 c7 c5 f5 HBR HO'
      have hnl : ns.length = n := by have := HR3.out.1; simpa using this
      have hfin : ∀ q k w4, w4 = w3.drewN q → beginS s ns = k → BeginPost w F p s ns (.returned (.tuple #[.int .i64 k.1, .int .i64 k.2])) w4 := by
        rintro q k w4 rfl rfl
        exact ⟨_, rfl, HD.out.drewN q, HC3.out.drewN q⟩
      have HFIN := Lib.hid hfin
      clear hfin
      by_cases hst : s.stopped = true ∧ s.stop ≤ t
      · obtain ⟨h1, h2⟩ := hst
        have HB0 := Lib.hid (show beginS s ns = (0, 7) by unfold beginS; rw [if_pos ⟨h1, by rw [ht]; exact h2⟩])
        rw [h1] at c6'
        clear h1
        go_wp2
        go_ret2
        exact HFIN.out 0 (0, 7) _ rfl HB0.out
      · have hB1 : beginS s ns = match struckF fl t with | some k => (k, 6) | none => if ns.all rightB then (0, 0) else (0, 2) := by unfold beginS; rw [if_neg (by rw [ht]; exact hst), hl, ht]
        have HB1' := Lib.hid hB1
        clear hB1
        have hcase : s.stopped = false ∨ (s.stopped = true ∧ t < s.stop) := by
          cases hs : s.stopped
          · exact .inl rfl
          · refine .inr ⟨rfl, ?_⟩
            rcases Int.lt_or_le t s.stop with h | h
            · exact h
            · exact absurd ⟨hs, h⟩ hst
        clear hst
        cases hs : struckF fl t with
        | some v0 =>
          rw [hs] at HB1'
          rcases hcase with hc | ⟨hc, hlt⟩
          all_goals
            rw [hc] at c6'
            clear hc hs
            go_wp2
            go_ret2
            exact HFIN.out 0 (v0, 6) _ rfl HB1'.out
        | none =>
          rw [hs] at HB1'
          rcases hcase with hc | ⟨hc, hlt⟩
          all_goals
            rw [hc] at c6'
            clear hc hs
            go_wp2_with fail
            go_loopw [68] (fun i wx => NameR w3 ns i wx) (fun i _ => n - (intOf i).toNat)
            case atStart => exact ⟨0, 0, Nat.zero_le _, rfl, rfl, rfl⟩
            case round =>
              obtain ⟨k, q, hk, rfl, hwx, hall⟩ := hrel
              obtain ⟨wx, hwxe⟩ : ∃ wx, wx = wr := ⟨_, rfl⟩
              subst hwxe
              have HWX := Lib.hid hwx
              have HA := Lib.hid hall
              clear hall
              by_cases hlt : k < n
              · obtain ⟨ad, rfl, -, hcell⟩ := HR3.out.2 (by omega)
                have hkl : k < ns.length := by omega
                have HSZ := Lib.hid (HN.out ns[k] (List.getElem_mem _))
                have HSN := Lib.hid (show (ns.take (k + 1)) = ns.take k ++ [ns[k]] from List.take_succ_eq_append_getElem hkl)
                have HMEM := Lib.hid (show ns[k] ∈ ns from List.getElem_mem _)
                have d0 : wx.cell? (ad.add k) = some (.string ns[k]) := by
                  rw [hwx]
                  exact hcell k _ (by rw [List.getElem?_map, List.getElem?_eq_getElem hkl]; rfl)
                generalize ns[k] = nm at *
                clear hcell hwx
                go_wp2_with fail
                refine (right_any nm wx HSZ.out).mono ?_
                rintro e w5 ⟨rfl, q5, hw5⟩
                have HW5 := Lib.hid hw5
                clear hw5 d0
                cases hr : rightB nm with
                | true =>
                  have HRT := Lib.hid hr
                  clear hr
                  go_wp2
                  refine ⟨⟨k + 1, q + q5, by omega, by go_num, by rw [HW5.out, HWX.out]; exact World.drewN_drewN w3 _ _, by rw [HSN.out, List.all_append, HA.out, List.all_cons, HRT.out]; rfl⟩, by simp [intOf]; omega⟩
                | false =>
                  have HRT := Lib.hid hr
                  clear hr
                  go_wp2
                  go_ret2
                  refine HFIN.out (q + q5) (0, 2) _ (by rw [HW5.out, HWX.out]; exact World.drewN_drewN w3 _ _) ?_
                  have : ns.all rightB = false := List.all_eq_false.2 ⟨nm, HMEM.out, by rw [HRT.out]; simp⟩
                  rw [HB1'.out, this]
                  rfl
              · obtain rfl : k = n := by omega
                clear hwx
                go_wp2
                go_ret2
                refine HFIN.out q (0, 0) _ HWX.out ?_
                have : ns.all rightB = true := by have := HA.out; rwa [← hnl, List.take_length] at this
                rw [HB1'.out, this]
                rfl
end Go.Proofs.YtfchnpdgnhoffaaGreatDoor
