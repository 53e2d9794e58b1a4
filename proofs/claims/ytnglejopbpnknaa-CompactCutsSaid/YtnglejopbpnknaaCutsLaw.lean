/- The walk of the law CompactCuts. -/
import Derived.Deep.QuietTactic
import Derived.BigQuiet
import Derived.Test.YtnglejopbpnknaaRCuts
namespace Go.Proofs.Ytnglejopbpnknaa
open Go.RowKit Go.Shelf Go.Lib Go.Sort

/-- the law behind the cut to a hundred -/
theorem own_reads {w : World} {b n : Nat} {A : Option Addr} {c : Nat} {xs : List Value} (h : w.ownsRow b 3 1 (.slice A n c) n xs) : Reads w w.heap.size 1 A n xs := Reads.of_own h

def LawR (w : World) (n : Nat) (i : Value) (wr : World) : Prop := ∃ k q : Nat, k ≤ n ∧ i = .int .i64 k ∧ wr = w.drewN q

theorem fcall (t wd : Int) (w : World) (hw : wd < 9223372036854775808) : Calls Try.prog 16 #[.int .i64 t, .int .i64 wd] w fun e w' => e = .returned (.int .i64 (floorZ t wd)) ∧ w' = w :=
  (floor_any t wd w hw).mono fun _ _ ⟨a, b⟩ => ⟨a, b.symm⟩
theorem rfcall (t wd : Int) (w : World) (hw : wd < 9223372036854775808) : Calls Try.prog 17 #[.int .i64 t, .int .i64 wd] w fun e w' => e = .returned (.int .i64 (floorZ t wd)) ∧ w' = w :=
  (rfloor_any t wd w hw).mono fun _ _ ⟨a, b⟩ => ⟨a, b.symm⟩

set_option maxRecDepth 100000 in
set_option maxHeartbeats 3200000 in
theorem cutslaw_any (A : Option Addr) (n c : Nat) (ts0 : List Int) (newest wd : Int) (w : World) (h : Reads w w.heap.size 1 A n (ts0.map (Value.int .i64))) (hc : n ≤ c) (hw : wd < 9223372036854775808) :
    Calls Try.prog 4 #[.slice A n c, .int .i64 newest, .int .i64 wd] w fun e w' => e = .returned (.bool true) ∧ Below w.heap.size w w' := by
  obtain ⟨i0, hi, hz0, hz1, hz2⟩ := info_parts info3
  have HR0 := Lib.hid h
  have HI := Lib.hid hi
  have HZ0 := Lib.hid hz0
  have HZ1 := Lib.hid hz1
  have HZ2 := Lib.hid hz2
  clear h hi hz0 hz1 hz2
  go_enter Try.func4, Try.ntmps4
  go_upto_if 11 with fail
  go_cut [0] (fun s0 wx => wx = w ∧ ∃ m ts, s0 = .slice A m c ∧ m ≤ 100 ∧ Reads w w.heap.size 1 A m (List.map (Value.int .i64) ts))
  case first =>
    rcases Nat.lt_or_ge 100 n with hn | hn
    · have q1 : (100 : Int) < (n : Int) := by omega
      have q2 : (100 : Int) ≤ (c : Int) := by omega
      go_wp2
      go_meet
      refine ⟨rfl, 100, ts0.take 100, rfl, Nat.le_refl _, ?_⟩
      have h9 := HR0.out.take (k := 100) (by omega)
      rw [← List.map_take] at h9
      exact h9
    · have q1 : (n : Int) ≤ (100 : Int) := by omega
      go_wp2
      go_meet
      exact ⟨rfl, n, ts0, rfl, hn, HR0.out⟩
  obtain ⟨hwc, m, ts, rfl, hm, hR⟩ := hcut
  subst hwc
  obtain rfl : ts.length = m := hR.len_int
  have HR := Lib.hid hR
  clear hR HR0
  go_wp2_with (at_builtin; go_loud (refine wpList_append_any _ rfl (.tmp 14) (.tmp 15) 40 rfl wc.heap.size 3 i0 (.int .i64 0) 1 8 Try.underlying40 HI.out HZ0.out HZ1.out HZ2.out rfl (by omega) (.slice (some ⟨wc.heap.size, 0, none⟩) 0 0) 0 [] rfl (World.ownsRow_made wc #[] 0 (Nat.le_refl _) (by simp [maxLen]) rfl) wc.heap.size A ts.length c (ts.map (Value.int .i64)) rfl (HR.out.alloc (Nat.le_refl _) _) (one_ints ts) (by simp [maxLen]; omega) (by omega) (by simp) ?_; intro v1 w1 hown1 hgrow1 _; have HW1 := Lib.hid hown1; have HG1 := Lib.hid hgrow1; have hs1 := hgrow1.size; rw [World.size_alloc] at hs1; clear hown1 hgrow1))
  have hb1 : Below wc.heap.size wc w1 := (((Below.refl _ wc).alloc (Nat.le_refl _) (.cells #[] 3)).grown HG1.out (by rw [World.size_alloc]; omega) (fun g hg => by cases hg; exact Nat.le_refl _))
  have HO1 := HW1.out
  rw [Nat.zero_add, List.nil_append] at HO1
  obtain ⟨A1, c1, rfl⟩ := own_slice HO1
  refine (cuts_any A1 ts.length c1 ts newest wd w1 (Reads.of_own HO1) (by omega) hw).mono ?_
  rintro e w2 ⟨v2, l, rfl, ho2, hl2, hcu, hb2⟩
  obtain ⟨A2, c2, rfl⟩ := own_slice ho2
  have hB2 := hb1.trans (hb2.mono (by omega))
  have hs2 := hb2.size
  have HB2 := Lib.hid hB2
  have HO2 := Lib.hid ho2
  have HCU := Lib.hid hcu
  have HR2 := Lib.hid (HR.out.below hB2)
  clear HO1 HW1 HG1 hb1 hb2 hB2 ho2 hcu
  go_wp2_with fail
  refine (rcuts_any A ts.length c ts newest wd w2 (HR2.out.more (by omega)) (by omega) hw).mono ?_
  rintro e w3 ⟨v3, l', rfl, ho3, -, hcu3, hb3⟩
  obtain rfl : l = l' := HCU.out.unique hcu3
  obtain ⟨A3, c3, rfl⟩ := own_slice ho3
  have hs3 := hb3.size
  have HB3 := Lib.hid (HB2.out.trans (hb3.mono (by omega)))
  have HO23 := Lib.hid (HO2.out.kept (only_of_below hb3 none) (by cases (Value.slice A2 l.length c2).ownBlock <;> simp))
  have HO3 := Lib.hid ho3
  clear ho3 hcu3 hb3 HO2 HB2 HR2 HCU
  go_wp2_with fail
  refine (ints_same A2 A3 l.length c2 c3 l w3 (Reads.of_own HO23.out) (Reads.of_own HO3.out) (by omega)).mono ?_
  rintro e w4 ⟨rfl, q4, rfl⟩
  clear HO3
  go_wp2_with fail
  go_loopw [8] (fun i wr => LawR w3 ts.length i wr) (fun i _ => ts.length - (intOf i).toNat)
  case atStart => exact ⟨0, q4, Nat.zero_le _, rfl, rfl⟩
  case round =>
    obtain ⟨k, q, hk, rfl, hwr⟩ := hrel
    have HRI := Lib.hid ((HR.out.below HB3.out).int_at)
    by_cases hlt : k < ts.length
    · obtain ⟨⟨g, o, s⟩, rfl, -, hcell⟩ := HRI.out (by omega)
      have c0 : wr.cell? (Addr.add ⟨g, o, s⟩ k) = some (.int .i64 (ts.getD k 0)) := by rw [hwr]; exact hcell k hlt
      have HWR := Lib.hid hwr
      clear hcell hwr
      generalize ts.getD k 0 = t at *
      go_wp2_with fail
      go_quiet ((first | (go_at_call 16; exact Calls.quiet_of_same (fcall t wd _ hw)) | (go_at_call 17; exact Calls.quiet_of_same (rfcall t wd _ hw))))
      go_wp2
      refine ⟨⟨k + 1, _, by omega, by go_num, by rw [HWR.out]; exact World.drewN_drewN _ _ _⟩, by simp [intOf]; omega⟩
    · obtain rfl : k = ts.length := by omega
      have hsz : wr.heap.size = w3.heap.size := by rw [hwr]; rfl
      have ho : wr.ownsRow w1.heap.size 3 1 (.slice A2 l.length c2) l.length (l.map (Value.int .i64)) := by rw [hwr]; exact HO23.out
      have hb : Below wc.heap.size wc wr := by rw [hwr]; exact below_drewN HB3.out q
      have HBR := Lib.hid hb
      have HOR := Lib.hid ho
      clear hwr hb ho HO23 HB3 hlt HRI
      go_wp2_with fail
      refine (spoil_any (.slice A2 l.length c2) l.length (l.map (Value.int .i64)) w1.heap.size wr HOR.out (by omega) (by omega)).mono ?_
      rintro e w5 ⟨rfl, hb5⟩
      have hs5 := hb5.size
      have hB5 := HBR.out.trans (hb5.mono (by omega))
      have HB5 := Lib.hid hB5
      have HR5 := Lib.hid (HR.out.below hB5)
      clear hb5 hB5 HBR HOR
      go_wp2_with fail
      refine (cuts_any A ts.length c ts newest wd w5 (HR5.out.more (by omega)) (by omega) hw).mono ?_
      rintro e w6 ⟨v6, l6, rfl, ho6, hl6, hcu6, hb6⟩
      obtain ⟨A6, c6, rfl⟩ := own_slice ho6
      have hs6 := hb6.size
      have HB6 := Lib.hid (HB5.out.trans (hb6.mono (by omega)))
      have HR6 := Lib.hid (HR5.out.below (hb6.mono (by omega)))
      have HO6 := Lib.hid ho6
      have HC6 := Lib.hid hcu6
      clear ho6 hb6 hcu6 HB5 HR5
      go_wp2_with fail
      refine (rcuts_any A ts.length c ts newest wd w6 (HR6.out.more (by omega)) (by omega) hw).mono ?_
      rintro e w7 ⟨v7, l7, rfl, ho7, -, hcu7, hb7⟩
      obtain rfl : l6 = l7 := HC6.out.unique hcu7
      obtain ⟨A7, c7, rfl⟩ := own_slice ho7
      have hs7 := hb7.size
      have HB7 := Lib.hid (HB6.out.trans (hb7.mono (by omega)))
      have HO67 := Lib.hid (HO6.out.kept (only_of_below hb7 none) (by cases (Value.slice A6 l6.length c6).ownBlock <;> simp))
      have HO7 := Lib.hid ho7
      clear ho7 hcu7 hb7 HO6 HB6 HR6 HC6
      go_wp2_with fail
      refine (ints_same A6 A7 l6.length c6 c7 l6 w7 (Reads.of_own HO67.out) (Reads.of_own HO7.out) (by omega)).mono ?_
      rintro e w8 ⟨rfl, q8, rfl⟩
      clear HO67 HO7
      go_wp2_with fail
      refine (wakes_any (w7.drewN q8)).mono ?_
      rintro e w9 ⟨rfl, hb9⟩
      have HB9 := Lib.hid ((below_drewN HB7.out q8).trans (hb9.mono (by show wc.heap.size ≤ w7.heap.size; omega)))
      clear hb9 HB7
      go_wp2
      go_ret
      exact ⟨rfl, HB9.out⟩
end Go.Proofs.Ytnglejopbpnknaa
