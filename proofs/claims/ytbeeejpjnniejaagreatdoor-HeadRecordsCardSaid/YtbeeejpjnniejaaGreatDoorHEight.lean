/- eight (113), uneight (163). -/
import Derived.Test.YtbeeejpjnniejaaGreatDoorBCrc
import Derived.Test.YtbeeejpjnniejaaGreatDoorJ04LRight
import Derived.Test.YtbeeejpjnniejaaGreatDoorJ00Lib
import Derived.IntWalk
import Derived.Laws.BitsAllLaws
namespace Go.Proofs.YtbeeejpjnniejaaGreatDoor
open Go.RowKit Go.Shelf
attribute [-go_sem] Builtin.append_
theorem own_lower2 {w : World} {B B2 : Nat} {e : TypeId} {z n : Nat} {v : Value} {xs : List Value} (h : w.ownsRow B e z v n xs) (hB : B2 ≤ B) : w.ownsRow B2 e z v n xs := by
  refine ⟨h.1, ?_⟩
  rcases h.2 with h | ⟨g, cap, cur, h1, h2, h3⟩
  · exact .inl h
  · exact .inr ⟨g, cap, cur, h1, Nat.le_trans hB h2, h3⟩
theorem own_ne3 {w : World} {b b2 : Nat} {e e2 : TypeId} {z z2 n n2 : Nat} {v v2 : Value} {xs xs2 : List Value} (h : w.ownsRow b e z v n xs) (h2 : w.ownsRow b2 e2 z2 v2 n2 xs2) (hne : e ≠ e2) : v.ownBlock = none ∨ v.ownBlock ≠ v2.ownBlock := by
  rcases h.2 with ⟨rfl, _⟩ | ⟨g, cap, cur, rfl, _, hh, _⟩
  · exact .inl rfl
  · refine .inr fun e => ?_
    rcases h2.2 with ⟨rfl, _⟩ | ⟨g', cap', cur', rfl, _, hh', _⟩
    · cases e
    · injection e with e
      have e : g = g' := e
      subst e
      rw [hh] at hh'
      injection hh' with hh'
      injection hh' with _ ht
      exact hne ht
theorem u64_shl_or (a b : Nat) (ha : a < 72057594037927936) (hb : b < 256) : bits .or .u64 ((a : Int) * 256) (b : Int) = ((a * 256 + b : Nat) : Int) := by
  have e2 : (a : Int) * 256 = ((a * 256 : Nat) : Int) := by omega
  rw [e2, u64_or_nat _ _ (by omega) (by omega)]
  congr 1
  have h := Nat.two_pow_add_eq_or_of_lt (i := 8) (b := b) (by omega) a
  rw [Nat.mul_comm, show (256 : Nat) = 2 ^ 8 from rfl, ← h]
def EyeNR (w : World) (l : List UInt8) (x i : Value) (wr : World) : Prop := ∃ j : Nat, j ≤ 8 ∧ x = .int .u64 ((uneightL (l.take j) : Nat) : Int) ∧ i = .int .i64 (j : Int) ∧ wr = w
theorem uneight_step (l : List UInt8) (j : Nat) (x : UInt8) (h : l[j]? = some x) : uneightL (l.take (j + 1)) = uneightL (l.take j) * 256 + x.toNat := by
  unfold uneightL
  rw [List.take_add_one, h, List.foldl_append]
  rfl
theorem uneight_small : ∀ (l : List UInt8), uneightL l < 256 ^ l.length := by
  intro l
  unfold uneightL
  suffices h : ∀ (l : List UInt8) (a : Nat), l.foldl (fun n b => n * 256 + b.toNat) a < (a + 1) * 256 ^ l.length by
    have := h l 0
    rwa [Nat.zero_add, Nat.one_mul] at this
  intro l
  induction l with
  | nil => intro a; simp
  | cons b l ih =>
    intro a
    have h1 := ih (a * 256 + b.toNat)
    have hb := b.toNat_lt
    rw [List.foldl_cons, List.length_cons, Nat.pow_succ]
    refine Nat.lt_of_lt_of_le h1 ?_
    rw [Nat.mul_comm (256 ^ l.length) 256, ← Nat.mul_assoc]
    exact Nat.mul_le_mul_right _ (by omega)
set_option maxRecDepth 100000 in
set_option maxHeartbeats 3200000 in
theorem uneight_any (w : World) (B : Nat) (A : Option Addr) (m c : Nat) (b : List UInt8) (h : Reads w B 1 A m (bytesV b)) (hm : m = b.length) (h8 : 8 ≤ m) (hc : m ≤ c) :
    Calls Tryz.prog 163 #[.slice A m c] w fun e w' => e = .returned (.int .u64 ((uneightL (b.take 8) : Nat) : Int)) ∧ w = w' := by
  have HR := Lib.hid h
  have HM := Lib.hid hm
  have i1 : (8 : Int) ≤ (c : Int) := by omega
  have i2 : 8 ≤ c := by omega
  clear h hm
  go_enter Tryz.func163, Tryz.ntmps163
  go_wp2_with fail
  go_loopw [3, 9] (fun x i wr => EyeNR w b x i wr) (fun _ i _ => 8 - (intOf i).toNat)
  case atStart => exact ⟨0, by omega, rfl, rfl, rfl⟩
  case round =>
    obtain ⟨j, hj, rfl, rfl, rfl⟩ := hrel
    by_cases hlt : j < 8
    · obtain ⟨ad, u, rfl, -, hu, hcell⟩ := HR.out.at_ (k := j) (by omega)
      obtain ⟨x, hx, rfl⟩ : ∃ x, b[j]? = some x ∧ u = .int .u8 (x.toNat : Int) := by
        unfold bytesV at hu
        rw [List.getElem?_map] at hu
        obtain ⟨x, h1, h2⟩ := Option.map_eq_some_iff.1 hu
        exact ⟨x, h1, h2.symm⟩
      obtain ⟨y, hy⟩ : ∃ y, y = uneightL (b.take j) := ⟨_, rfl⟩
      have hst := uneight_step b j x hx
      have hyl : y < 72057594037927936 := by
        rw [hy]
        refine Nat.lt_of_lt_of_le (uneight_small _) ?_
        rw [List.length_take]
        exact Nat.pow_le_pow_right (n := 256) (by omega) (show min j b.length ≤ 7 by omega)
      have hx8 := x.toNat_lt
      rw [← hy] at hst ⊢
      obtain ⟨xn, hxn⟩ : ∃ n, n = x.toNat := ⟨_, rfl⟩
      rw [← hxn] at hcell hst hx8
      have hor := u64_shl_or y xn hyl hx8
      obtain ⟨z, hz⟩ : ∃ z, z = y * 256 + xn := ⟨_, rfl⟩
      rw [← hz] at hor hst
      have e1 : IntKind.u64.wrap ((y : Int) * 256) = (y : Int) * 256 := IntWalk.u64_in _ (by omega)
      have HST := Lib.hid hst
      have j1 : (j : Int) < 8 := by omega
      clear hu hx hy hst hxn hz
      go_wp2
      exact ⟨⟨j + 1, by omega, by rw [HST.out], by go_num, rfl⟩, by simp only [intOf]; omega⟩
    · obtain rfl : j = 8 := by omega
      go_wp2
      go_ret
      exact ⟨rfl, rfl⟩
theorem eight_at (n j : Nat) (hj : j < 8) : bytesV ((eightL n).take j) ++ [Value.int .u8 ((n : Int) / 2 ^ (56 - 8 * j) % 256)] = bytesV ((eightL n).take (j + 1)) := by
  have e1 : (eightL n)[j]? = some (UInt8.ofNat (n / 2 ^ (56 - 8 * j))) := by
    match j, hj with
    | 0, _ => rfl
    | 1, _ => rfl
    | 2, _ => rfl
    | 3, _ => rfl
    | 4, _ => rfl
    | 5, _ => rfl
    | 6, _ => rfl
    | 7, _ => show some (UInt8.ofNat n) = some (UInt8.ofNat (n / 1)); rw [Nat.div_one]
  have e2 : bytesV ((eightL n).take (j + 1)) = bytesV ((eightL n).take j) ++ [Value.int .u8 (((UInt8.ofNat (n / 2 ^ (56 - 8 * j))).toNat : Nat) : Int)] := by
    unfold bytesV
    rw [List.take_add_one, e1, List.map_append]
    rfl
  rw [e2, ofNat_toNat]
  congr 3
def EightR (w : World) (n : Nat) (v i : Value) (wr : World) : Prop := ∃ j : Nat, j ≤ 8 ∧ i = .int .i64 (56 - 8 * (j : Int)) ∧ wr.ownsRow w.heap.size 5 1 v j (bytesV ((eightL n).take j)) ∧ Below w.heap.size w wr
set_option maxRecDepth 100000 in
set_option maxHeartbeats 3200000 in
theorem eight_any (w : World) (n : Nat) : Calls Tryz.prog 113 #[.int .u64 (n : Int)] w fun e w' => ∃ v, e = .returned v ∧ w'.ownsRow w.heap.size 5 1 v 8 (bytesV (eightL n)) ∧ Below w.heap.size w w' := by
  obtain ⟨j0, hj, hy0, hy1, hy2⟩ := info_parts info5
  have HJ := Lib.hid hj
  have HY0 := Lib.hid hy0
  have HY1 := Lib.hid hy1
  have HY2 := Lib.hid hy2
  have HST := Lib.hid (show EightR w n (.slice none 0 0) (.int .i64 56) w from ⟨0, by omega, rfl, World.ownsRow_nil _ _ _ _, Below.refl _ w⟩)
  clear hj hy0 hy1 hy2
  go_enter Tryz.func113, Tryz.ntmps113
  go_wp2_with fail
  go_loopw [3, 4] (fun v i wr => EightR w n v i wr) (fun _ i _ => (intOf i + 8).toNat)
  case atStart => exact HST.out
  case round =>
    obtain ⟨j, hj8, rfl, ho, hb⟩ := hrel
    obtain ⟨A, c, rfl⟩ := own_slice ho
    have HO := Lib.hid ho
    have HB := Lib.hid hb
    clear ho hb
    by_cases hlt : j < 8
    · have i1 : (0 : Int) ≤ 56 - 8 * (j : Int) := by omega
      have hat := eight_at n j hlt
      have q4 : Blk (wr.alloc (.cells #[.int .u8 ((n : Int) / 2 ^ (56 - 8 * j) % 256)] 5)) wr.heap.size 5 #[.int .u8 ((n : Int) / 2 ^ (56 - 8 * j) % 256)] := Blk.new wr 5 _
      have hr4 : Reads (wr.alloc (.cells #[.int .u8 ((n : Int) / 2 ^ (56 - 8 * j) % 256)] 5)) (wr.heap.size + 1) 1 (some ⟨wr.heap.size, 0, none⟩) 1 [.int .u8 ((n : Int) / 2 ^ (56 - 8 * j) % 256)] := by
        refine ⟨rfl, fun _ => ⟨_, rfl, Nat.lt_succ_self _, fun i u hi => ?_⟩⟩
        have e : (⟨wr.heap.size, 0, none⟩ : Addr).add i = ⟨wr.heap.size, i, none⟩ := by unfold Addr.add; split <;> simp_all
        rw [e, q4.cell i, ← hi]
        simp
      have HR4 := Lib.hid hr4
      have HO4 := Lib.hid (HO.out.alloc (.cells #[.int .u8 ((n : Int) / 2 ^ (56 - 8 * j) % 256)] 5))
      have HAT := Lib.hid hat
      have hws : w.heap.size ≤ wr.heap.size := HB.out.size
      clear hat q4 hr4
      go_wp2_with (at_builtin; go_loud (refine wpList_append_any _ rfl (.tmp 9) (.tmp 14) 90 rfl w.heap.size 5 j0 (.int .u8 0) 1 1 Tryz.underlying90 HJ.out HY0.out HY1.out HY2.out rfl (by omega) (.slice A j c) j (bytesV ((eightL n).take j)) rfl HO4.out (wr.heap.size + 1) (some ⟨wr.heap.size, 0, none⟩) 1 1 [.int .u8 ((n : Int) / 2 ^ (56 - 8 * j) % 256)] rfl HR4.out (by simp [Value.oneCell']) (by simp [maxLen]; omega) (by omega) (by simp; omega) ?_; intro v5 w5 hown5 hgrow5 hor5; have HO5 := Lib.hid hown5; have HG5 := Lib.hid hgrow5; clear hown5 hgrow5 hor5))
      refine ⟨⟨j + 1, by omega, congrArg (Value.int .i64) (by omega), ?_, ((Below.refl _ w).trans (HB.out.alloc hws _)).grown HG5.out (by simp; omega) fun g e => (HO4.out.lt g e).1⟩, by simp only [intOf]; omega⟩
      have h1 := HO5.out
      rwa [HAT.out] at h1
    · obtain rfl : j = 8 := by omega
      go_wp2
      refine bodyPost_ret (results_tmp rfl _ _ _) rfl ?_
      refine ⟨_, rfl, ?_, HB.out⟩
      have h1 := HO.out
      rwa [List.take_of_length_le (by rw [eightL_len]; exact Nat.le_refl _)] at h1
end Go.Proofs.YtbeeejpjnniejaaGreatDoor
