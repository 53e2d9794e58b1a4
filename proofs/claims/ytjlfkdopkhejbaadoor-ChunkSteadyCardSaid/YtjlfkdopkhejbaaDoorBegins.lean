/- The walk of the law ChunkBegins. -/
import Derived.Test.YtjlfkdopkhejbaaDoorUnlike
namespace Go.Proofs.YtjlfkdopkhejbaaDoor
open Go.RowKit Go.Shelf Ck
attribute [local go_sem] frombits_call tobits_call run_store_float

/-- a row of bytes in block g from o on -/
structure Bys (w : World) (g o c : Nat) (bs : List Nat) : Prop where
  len : bs.length ≤ c
  lt : g < w.heap.size
  byte : ∀ i b, bs[i]? = some b → w.cell? ⟨g, o + i, none⟩ = some (.int .u8 (b : Nat))

theorem Bys.below {w w' : World} {g o c : Nat} {bs : List Nat} (h : Bys w g o c bs) (hb : Below w.heap.size w w') : Bys w' g o c bs :=
  ⟨h.len, Nat.lt_of_lt_of_le h.lt hb.size, fun i b hi => (hb.cell (p := ⟨g, o + i, none⟩) h.lt).trans (h.byte i b hi)⟩
theorem Bys.sub {w : World} {g o c : Nat} {bs : List Nat} (h : Bys w g o c bs) (q : Nat) : BytAt w w.heap.size (some ⟨g, o + 2, none⟩) ((bs.take q).drop 2) := by
  intro _
  refine ⟨g, o + 2, rfl, h.lt, fun i b hi => ?_⟩
  rw [List.getElem?_drop, List.getElem?_take] at hi
  split at hi
  · rw [Nat.add_assoc]
    exact h.byte (2 + i) b hi
  · cases hi
theorem Bys.conv {w : World} {g o c : Nat} {bs : List Nat} (h : Bys w g o c bs) (q : Nat) (hq : q ≤ bs.length) (s : Cls w) :
    (convert 23 9 (.slice (some ⟨g, o + 2, none⟩) (q - 2) (c - 2))).run Tryd.prog s.val = .ok (.string (strOf ((bs.take q).drop 2))) s.val := by
  have e : ((bs.take q).drop 2).length = q - 2 := by simp; omega
  rw [← e]
  exact conv_any ((h.below s.2).sub q) (c - 2)
theorem Bys.conv2 {w : World} {g o c : Nat} {bs : List Nat} (_h : Bys w g o c bs) (s : Cls w) :
    (convert 23 9 (.slice (some ⟨g, o + 2, none⟩) 0 (c - 2))).run Tryd.prog s.val = .ok (.string (strOf ((bs.take 2).drop 2))) s.val := by
  have e : (bs.take 2).drop 2 = [] := by
    apply List.eq_nil_of_length_eq_zero
    simp
  rw [e]
  exact conv_any (bs := []) (A := some ⟨g, o + 2, none⟩) (lim := 0) (fun h => absurd h (by simp)) (c - 2)
theorem Bys.conv0 {w : World} {g o c : Nat} {bs : List Nat} (_h : Bys w g o c bs) (s : Cls w) :
    (convert 23 9 (.slice (some ⟨g, o, none⟩) 0 0)).run Tryd.prog s.val = .ok (.string (strOf ((bs.take 2).drop 2))) s.val := by
  have e : (bs.take 2).drop 2 = [] := by
    apply List.eq_nil_of_length_eq_zero
    simp
  rw [e]
  exact conv_any (bs := []) (A := some ⟨g, o, none⟩) (lim := 0) (fun h => absurd h (by simp)) 0

theorem Few.encode2 {w : World} {A : Option Addr} {m cap : Nat} {k : List Smp} (h : Few w A m cap k) (hT : TabW w) : Calls Tryd.prog 10 #[.slice A m cap] w fun e w' =>
    (∃ g o c, e = .returned (.tuple #[.slice (some ⟨g, o, none⟩) (chunkOf k).length c, .int .i64 0]) ∧ Bys w' g o c (chunkOf k)) ∧ Below w.heap.size w w' := by
  rw [h.len]
  refine (encode_any A cap k w h.at_ (by have := h.few; omega) h.ok hT).mono ?_
  rintro e w2 ⟨hb2, hq⟩
  rw [if_pos h.few] at hq
  obtain ⟨v2, rfl, ho2⟩ := hq
  obtain ⟨g, c, rfl⟩ := own_succ ho2 (by have := chunkOf_length k; omega)
  refine ⟨⟨g, 0, c, rfl, ?_, (ho2.lt g rfl).2, fun i b hi => ?_⟩, hb2⟩
  · rcases ho2.2 with ⟨_, h0⟩ | ⟨g1, cap1, cur, hv, _, _, hc, _⟩
    · omega
    · simp only [Value.slice.injEq] at hv
      omega
  · have hil : i < (chunkOf k).length := (List.getElem?_eq_some_iff.1 hi).1
    rw [Nat.zero_add, ho2.cellAt i (by omega), bytesV, List.getElem?_map, hi]
    rfl
theorem Few.bits {w : World} {A : Option Addr} {m cap : Nat} {k : List Smp} (h : Few w A m cap k) (hT : TabW w) : Calls Tryd.prog 21 #[.slice A m cap] w fun e w' =>
    e = .returned (.int .i64 (bitsN k : Nat)) ∧ Below w.heap.size w w' := by
  rw [h.len]
  exact bits_any A cap k w h.at_ (by have := h.few; omega) h.ok hT
theorem Few.head {w : World} {A : Option Addr} {m cap : Nat} {k : List Smp} (h : Few w A m cap k) (n : Nat) (hn : n ≤ m) : Few w A n cap (k.take n) := by
  have := h.len
  have := h.few
  have := h.cap_
  exact ⟨h.at_.take n, by simp; omega, by simp; omega, by simp; omega, fun x hx => h.ok x (List.mem_of_mem_take hx)⟩

/-- ChunkBegins in plain Lean: the whole bytes of a head are the head of the whole -/
theorem begins_law (k : List Smp) (n : Nat) (hk : k.length ≤ 120) (hok : ∀ x ∈ k, x.ok) :
    2 ≤ bitsN (k.take n) / 8 ∧ bitsN (k.take n) / 8 ≤ (chunkOf (k.take n)).length ∧ bitsN (k.take n) / 8 ≤ (chunkOf k).length ∧ bitsN (k.take n) ≤ 100000 ∧
    ((chunkOf (k.take n)).take (bitsN (k.take n) / 8)).drop 2 = ((chunkOf k).take (bitsN (k.take n) / 8)).drop 2 := by
  have hl : (k.take n).length ≤ 120 := by simp; omega
  have e0 : bitsN (k.take n) = 16 + (encBits St.zero (k.take n)).length := by unfold bitsN; rw [if_pos hl]
  have hb := encBits_length St.zero (k.take n) St.zero_ok (fun x hx => hok x (List.mem_of_mem_take hx))
  have happ : encBits St.zero k = encBits St.zero (k.take n) ++ encBits (encSt St.zero (k.take n)) (k.drop n) := by
    rw [← encBits_append, List.take_append_drop]
  obtain ⟨N, hN⟩ : ∃ N, N = (encBits St.zero (k.take n)).length := ⟨_, rfl⟩
  have e1 : (chunkOf (k.take n)).length = 2 + (N + 7) / 8 := by rw [hN, ← pack_length]; simp [chunkOf]; omega
  have e2 : (chunkOf k).length = 2 + ((encBits St.zero k).length + 7) / 8 := by rw [← pack_length]; simp [chunkOf]; omega
  have e3 : N ≤ (encBits St.zero k).length := by rw [happ, List.length_append]; omega
  rw [← hN] at e0 hb
  have hq : bitsN (k.take n) / 8 = 2 + N / 8 := by omega
  refine ⟨by omega, by omega, by omega, by omega, ?_⟩
  rw [hq]
  have f : ∀ l : List Smp, ((chunkOf l).take (2 + N / 8)).drop 2 = (pack (encBits St.zero l)).take (N / 8) := fun l => by
    have e : chunkOf l = l.length / 256 % 256 :: l.length % 256 :: pack (encBits St.zero l) := rfl
    rw [e, show 2 + N / 8 = N / 8 + 1 + 1 by omega, List.take_succ_cons, List.take_succ_cons, List.drop_succ_cons, List.drop_succ_cons, List.drop_zero]
  rw [f, f, happ, pack_take _ _ _ (by omega)]

set_option maxRecDepth 100000 in
set_option maxHeartbeats 1600000 in
theorem begins_any (A : Option Addr) (c : Nat) (l : List Smp) (z : Int) (w : World) (h : SmpAt w w.heap.size A l) (hc : l.length ≤ c) (ho : ∀ x ∈ l, x.ok) (hz : -9223372036854775808 ≤ z ∧ z ≤ 9223372036854775807) (hT : TabW w) :
    Calls Tryd.prog 8 #[.slice A l.length c, .int .i64 z] w fun e w' => e = .returned (.bool true) ∧ Below w.heap.size w w' := by
  obtain ⟨k, f, f'⟩ := few_of h hc ho
  have F := Lib.hid f
  have F' := Lib.hid f'
  have HZ := Lib.hid hz
  have HT := Lib.hid hT
  clear h ho f f' hT hz
  rcases Nat.lt_or_ge 120 l.length with n1 | n1
  case' inl =>
    have H1 := Lib.hid (F'.out (by omega))
    have g1 : (120 : Int) < (l.length : Int) := by omega
    have q1 : (120 : Int) ≤ (c : Int) := by omega
    have hm : (1 : Int) ≤ 121 ∧ (121 : Int) ≤ 9223372036854775807 := by omega
    have hr := Int.emod_nonneg z (show (121 : Int) ≠ 0 by omega)
    have hr' := Int.emod_lt_of_pos z (show (0 : Int) < 121 by omega)
    obtain ⟨r, her⟩ : ∃ r : Nat, z % 121 = (r : Int) := ⟨(z % 121).toNat, by omega⟩
    have hrm : r ≤ 120 := by omega
  case' inr =>
    have H1 := Lib.hid (F.out n1)
    have g1 : (l.length : Int) ≤ 120 := by omega
    have hm : (1 : Int) ≤ (l.length : Int) + 1 ∧ (l.length : Int) + 1 ≤ 9223372036854775807 := by omega
    have hr := Int.emod_nonneg z (show (l.length : Int) + 1 ≠ 0 by omega)
    have hr' := Int.emod_lt_of_pos z (show (0 : Int) < (l.length : Int) + 1 by omega)
    obtain ⟨r, her⟩ : ∃ r : Nat, z % ((l.length : Int) + 1) = (r : Int) := ⟨(z % ((l.length : Int) + 1)).toNat, by omega⟩
    have hrm : r ≤ l.length := by omega
  all_goals
    have HM := Lib.hid hm
    have HER := Lib.hid her
    have hrc : (r : Int) ≤ (c : Int) := by omega
    have HH := Lib.hid (H1.out.head r hrm)
    clear F F' hm her hr hr'
    go_enter Tryd.func8, Tryd.ntmps8
    go_wp2_with fail
    refine (within_any z _ w HM.out.1 HM.out.2 HZ.out.1 HZ.out.2).mono ?_
    rintro e w1 ⟨rfl, rfl⟩
    rw [HER.out]
    go_wp2_with fail
    refine (HH.out.encode2 HT.out).mono ?_
    rintro e w2 ⟨⟨ga, oa, ca, rfl, hya⟩, hb2⟩
    have HYA := Lib.hid hya
    have HB2 := Lib.hid hb2
    have HT2 := Lib.hid (HT.out.below hb2 HT.out.lt)
    have HCA := Lib.hid hya.len
    clear hya hb2
    obtain ⟨ba, hba⟩ : ∃ b, b = chunkOf (k.take r) := ⟨_, rfl⟩
    rw [← hba] at HYA HCA ⊢
    have HBA := Lib.hid hba
    clear hba
    go_wp2_with fail
    refine ((H1.out.below HB2.out).encode2 HT2.out).mono ?_
    rintro e w3 ⟨⟨gb, ob, cb, rfl, hyb⟩, hb3⟩
    have HYA3 := Lib.hid (HYA.out.below hb3)
    have HYB := Lib.hid hyb
    have HB3 := Lib.hid (HB2.out.trans (hb3.mono HB2.out.size))
    have HT3 := Lib.hid (HT2.out.below hb3 HT2.out.lt)
    have HCB := Lib.hid hyb.len
    clear hyb hb3
    obtain ⟨bb, hbb⟩ : ∃ b, b = chunkOf k := ⟨_, rfl⟩
    rw [← hbb] at HYB HCB ⊢
    have HBB := Lib.hid hbb
    clear hbb
    go_wp2_with fail
    refine ((HH.out.below HB3.out).bits HT3.out).mono ?_
    rintro e w4 ⟨rfl, hb4⟩
    have HYA4 := Lib.hid (HYA3.out.below hb4)
    have HYB4 := Lib.hid (HYB.out.below hb4)
    have HB4 := Lib.hid (HB3.out.trans (hb4.mono HB3.out.size))
    have HT4 := Lib.hid (HT3.out.below hb4 HT3.out.lt)
    clear hb4
    obtain ⟨x1, x2, x3, x4, x5⟩ := begins_law k r H1.out.few H1.out.ok
    rw [← HBA.out] at x2 x5
    rw [← HBB.out] at x3 x5
    obtain ⟨N, hN⟩ : ∃ N, N = bitsN (k.take r) := ⟨_, rfl⟩
    rw [← hN] at x1 x2 x3 x4 x5 ⊢
    obtain ⟨q, hq⟩ : ∃ q, q = N / 8 := ⟨_, rfl⟩
    rw [← hq] at x1 x2 x3 x5
    have hcq1 := Nat.le_trans x2 HCA.out
    have hcq2 := Nat.le_trans x3 HCB.out
    have i1 : (2 : Int) ≤ (q : Int) := by omega
    have i2 : (q : Int) ≤ (ba.length : Int) := by omega
    have i3 : (q : Int) ≤ (bb.length : Int) := by omega
    have i4 : (q : Int) ≤ (ca : Int) := by omega
    have i5 : (q : Int) ≤ (cb : Int) := by omega
    have hN8 : wrap64 ((N : Int) / 8) = ((q : Nat) : Int) := by unfold wrap64; omega
    have HX5 := Lib.hid x5
    clear x1 x4 x5 hN hq
    go_wp2_with fail
    rcases Classical.em (ca = 2) with hca | hca <;> rcases Classical.em (cb = 2) with hcb | hcb
    · obtain rfl : q = 2 := by omega
      subst hca hcb
      have j1 := fun s => HYA4.out.conv0 s
      have j2 := fun s => HYB4.out.conv0 s
      have HS5 := congrArg strOf HX5.out
      clear HX5
      have HW := Lib.hid (fun s : Cls w4 => wakes_any s.val (HT4.out.below s.2 HT4.out.lt))
      refine wp_region_cls (by kernel_rfl) (by kernel_rfl) ?_
      repeat (go_big_quiet_step ((go_at_call 13; exact Cls.call (HW.out _))))
      refine wpQuiet_nil ?_
      rintro _ ⟨s, rfl⟩
      go_wp2
      go_ret
      exact ⟨rfl, HB4.out.trans (s.2.mono HB4.out.size)⟩
    · obtain rfl : q = 2 := by omega
      subst hca
      have j1 := fun s => HYA4.out.conv0 s
      have j2 := fun s => HYB4.out.conv2 s
      have HS5 := congrArg strOf HX5.out
      clear HX5
      have HW := Lib.hid (fun s : Cls w4 => wakes_any s.val (HT4.out.below s.2 HT4.out.lt))
      refine wp_region_cls (by kernel_rfl) (by kernel_rfl) ?_
      repeat (go_big_quiet_step ((go_at_call 13; exact Cls.call (HW.out _))))
      refine wpQuiet_nil ?_
      rintro _ ⟨s, rfl⟩
      go_wp2
      go_ret
      exact ⟨rfl, HB4.out.trans (s.2.mono HB4.out.size)⟩
    · obtain rfl : q = 2 := by omega
      subst hcb
      have j1 := fun s => HYA4.out.conv2 s
      have j2 := fun s => HYB4.out.conv0 s
      have HS5 := congrArg strOf HX5.out
      clear HX5
      have HW := Lib.hid (fun s : Cls w4 => wakes_any s.val (HT4.out.below s.2 HT4.out.lt))
      refine wp_region_cls (by kernel_rfl) (by kernel_rfl) ?_
      repeat (go_big_quiet_step ((go_at_call 13; exact Cls.call (HW.out _))))
      refine wpQuiet_nil ?_
      rintro _ ⟨s, rfl⟩
      go_wp2
      go_ret
      exact ⟨rfl, HB4.out.trans (s.2.mono HB4.out.size)⟩
    · have j1 := fun s => HYA4.out.conv q x2 s
      have j2 := fun s => HYB4.out.conv q x3 s
      have HS5 := congrArg strOf HX5.out
      clear HX5
      have HW := Lib.hid (fun s : Cls w4 => wakes_any s.val (HT4.out.below s.2 HT4.out.lt))
      refine wp_region_cls (by kernel_rfl) (by kernel_rfl) ?_
      repeat (go_big_quiet_step ((go_at_call 13; exact Cls.call (HW.out _))))
      refine wpQuiet_nil ?_
      rintro _ ⟨s, rfl⟩
      go_wp2
      go_ret
      exact ⟨rfl, HB4.out.trans (s.2.mono HB4.out.size)⟩
end Go.Proofs.YtjlfkdopkhejbaaDoor
