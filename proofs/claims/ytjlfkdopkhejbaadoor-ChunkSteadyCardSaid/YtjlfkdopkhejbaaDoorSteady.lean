/- The walk of the law ChunkSteady. -/
import Derived.Test.YtjlfkdopkhejbaaDoorBegins
import Derived.Test.YtjlfkdopkhejbaaDoorSteadyLaw
import Derived.OwnWalk
namespace Go.Proofs.YtjlfkdopkhejbaaDoor
open Go.RowKit Go.Shelf Ck
attribute [local go_sem] frombits_call tobits_call run_store_float

/-- between two rounds: the samples so far -/
def SteadyI (w : World) (f d : Int) (b k : Nat) (v i : Value) (wr : World) : Prop :=
  ∃ j : Nat, i = .int .i64 j ∧ j ≤ k ∧ wr.ownsRow w.heap.size 41 2 v (steadyL f d b j).length (smpV (steadyL f d b j)) ∧ Below w.heap.size w wr

set_option maxRecDepth 100000 in
set_option maxHeartbeats 1600000 in
theorem steady_any (t d n : Int) (b : Nat) (w : World) (ht : -9223372036854775808 ≤ t ∧ t ≤ 9223372036854775807) (hd : -9223372036854775808 ≤ d ∧ d ≤ 9223372036854775807) (hn : -9223372036854775808 ≤ n ∧ n ≤ 9223372036854775807) (hb : b < 2 ^ 64) (hT : TabW w) :
    Calls Tryd.prog 7 #[.agg #[.int .i64 t, .int .i64 d, .int .i64 n, .float .f64 b]] w fun e w' => e = .returned (.bool true) ∧ Below w.heap.size w w' := by
  obtain ⟨i0, hi, hz0, hz1, hz2⟩ := info_parts info41
  have HI := Lib.hid hi
  have HZ0 := Lib.hid hz0
  have HZ1 := Lib.hid hz1
  have HZ2 := Lib.hid hz2
  have HTt := Lib.hid ht
  have HDd := Lib.hid hd
  have HNn := Lib.hid hn
  have HBb := Lib.hid hb
  have HT := Lib.hid hT
  clear hi hz0 hz1 hz2 ht hd hn hb hT
  go_enter Tryd.func7, Tryd.ntmps7
  go_wp2_with fail
  have hX := Blk.new w 46 #[.int .i64 t, .int .i64 d, .int .i64 n, .float .f64 b]
  have hB1 : Below w.heap.size w (w.alloc (.cells #[.int .i64 t, .int .i64 d, .int .i64 n, .float .f64 b] 46)) := (Below.refl _ w).alloc (Nat.le_refl _) _
  obtain ⟨w1, hw1⟩ : ∃ w1, w1 = w.alloc (.cells #[.int .i64 t, .int .i64 d, .int .i64 n, .float .f64 b] 46) := ⟨_, rfl⟩
  rw [← hw1] at hX hB1 ⊢
  have x0 : w1.cell? ⟨w.heap.size, 0, none⟩ = some (.int .i64 t) := hX.cell 0
  have x1 : w1.cell? ⟨w.heap.size, 1, none⟩ = some (.int .i64 d) := hX.cell 1
  have x2 : w1.cell? ⟨w.heap.size, 2, none⟩ = some (.int .i64 n) := hX.cell 2
  have x3 : w1.cell? ⟨w.heap.size, 3, none⟩ = some (.float .f64 b) := hX.cell 3
  have HB1 := Lib.hid hB1
  clear hX hB1 hw1
  go_quiet (fail)
  have HB2 := Lib.hid (below_drewN HB1.out nq)
  obtain ⟨w2, hw2⟩ : ∃ w2, w2 = w1.drewN nq := ⟨_, rfl⟩
  rw [← hw2] at HB2 ⊢
  clear hw2 x0 x1 x2 x3 HB1
  go_wp2_with fail
  refine (within_any n 118 w2 (by omega) (by omega) HNn.out.1 HNn.out.2).mono ?_
  rintro e w3 ⟨rfl, rfl⟩
  obtain ⟨r, hr⟩ : ∃ r : Nat, n % 118 = (r : Int) := ⟨(n % 118).toNat, by omega⟩
  have hr1 : r ≤ 117 := by omega
  rw [hr]
  clear hr
  go_wp2_with fail
  refine (within_any t 1125899906842624 w2 (by omega) (by omega) HTt.out.1 HTt.out.2).mono ?_
  rintro e w3 ⟨rfl, rfl⟩
  obtain ⟨f, hf⟩ : ∃ f, f = t % 1125899906842624 := ⟨_, rfl⟩
  have hf1 : 0 ≤ f ∧ f < 1125899906842624 := by omega
  rw [← hf]
  clear hf
  go_wp2_with fail
  refine (within_any d 1099511627776 w2 (by omega) (by omega) HDd.out.1 HDd.out.2).mono ?_
  rintro e w3 ⟨rfl, rfl⟩
  obtain ⟨g, hg⟩ : ∃ g, g = d % 1099511627776 := ⟨_, rfl⟩
  have hg1 : 0 ≤ g ∧ g < 1099511627776 := by omega
  rw [← hg]
  clear hg
  have HF1 := Lib.hid hf1
  have HG1 := Lib.hid hg1
  clear hf1 hg1
  go_wp2_with fail
  go_loopw [8, 9] (fun v i wr => SteadyI w f g b (2 + r) v i wr) (fun v i _ => 2 + r - (intOf i).toNat)
  case atStart => exact ⟨0, rfl, Nat.zero_le _, World.ownsRow_nil _ _ _ _, HB2.out⟩
  case round =>
    obtain ⟨j, rfl, hj, ho, hbw⟩ := hrel
    obtain ⟨A, c, rfl, hs⟩ := own_smp ho
    rw [steadyL_length] at ho ⊢
    have HO := Lib.hid ho
    have HS := Lib.hid hs
    have HBW := Lib.hid hbw
    clear ho hs hbw
    by_cases hlt : j < 2 + r
    · have hm := mul_small j g (by omega) HG1.out
      have hmul : wrap64 ((j : Int) * g) = (j : Int) * g := wrap64_keeps _ (by omega)
      have hadd : wrap64 (f + (j : Int) * g) = f + (j : Int) * g := wrap64_keeps _ (by have := HF1.out; omega)
      clear hm
      go_wp2_with (at_builtin; refine wpList_append_own _ rfl (.tmp 32) (.tmp 40) 22 rfl w.heap.size 41 i0 (.agg #[.int .i64 0, .float .f64 0]) 2 16 Tryd.underlying22 HI.out HZ0.out HZ1.out HZ2.out rfl (by decide) (.slice A j c) j (smpV (steadyL f g b j)) rfl (HO.out.alloc _) ⟨wr.heap.size, 0, none⟩ 1 1 [.int .i64 (f + (j : Int) * g), .float .f64 b] rfl rfl (cells_new2 wr 41 _ _) (by simp [Value.oneCell']) (by simp [maxLen]; omega) (by omega) (by have := HBW.out.size; simp; omega) ?_; intro v' w4 hown4 hgrow4 _; obtain ⟨g', c', hv'⟩ := own_succ hown4 (by omega); subst hv'; have HO4 := Lib.hid hown4; have HG4 := Lib.hid hgrow4; clear hown4 hgrow4)
      refine ⟨⟨j + 1, by go_num, by omega, ?_, ?_⟩, by simp [intOf]; omega⟩
      · rw [steadyL_length, steadyL_succ, smpV_snoc]
        exact HO4.out
      · exact (HBW.out.alloc HBW.out.size _).grown HG4.out (by have := HBW.out.size; simp; omega) (fun k hk => (HO.out.lt k hk).1)
    · have hjk : j = 2 + r := by omega
      subst hjk
      have hcap : 2 + r ≤ c := by
        rcases HO.out.2 with ⟨_, h0⟩ | ⟨g1, cap1, cur, hv, _, _, hc, _⟩
        · omega
        · simp only [Value.slice.injEq] at hv
          omega
      have hfew : Few wr A (2 + r) c (steadyL f g b (2 + r)) := ⟨HS.out, by rw [steadyL_length], by rw [steadyL_length]; omega, by rw [steadyL_length]; omega, steadyL_ok f g b (2 + r) (by omega) HF1.out HG1.out HBb.out⟩
      have hf1 := hfew.head 1 (by omega)
      have hf2 := hfew.head 2 (by omega)
      rw [steadyL_take _ _ _ _ _ (by omega)] at hf1 hf2
      obtain ⟨l1, l2, l3, l4⟩ := steady_law f g b (2 + r) (by omega) HF1.out HG1.out
      have HTr := Lib.hid (HT.out.below HBW.out HT.out.lt)
      have HW1 := Lib.hid (fun s : Cls wr => (hf1.below s.2).bits (HTr.out.below s.2 HTr.out.lt))
      have HW2 := Lib.hid (fun s : Cls wr => (hf2.below s.2).bits (HTr.out.below s.2 HTr.out.lt))
      obtain ⟨T, hT⟩ : ∃ T, T = bitsN (steadyL f g b 2) := ⟨_, rfl⟩
      rw [← hT] at l2 l3 l4 HW2
      rw [l1] at HW1
      have hk2 : ((bitsN (steadyL f g b (2 + r)) : Nat) : Int) = (T : Int) + 2 * (r : Int) := by rw [l4]; omega
      have HK2 := Lib.hid hk2
      have HFEW := Lib.hid hfew
      clear hT l1 l4 hk2 hfew hf1 hf2
      have c1 : (1 : Int) ≤ (c : Int) := by omega
      have c2 : (2 : Int) ≤ (c : Int) := by omega
      go_wp2_with fail
      refine wp_region_cls (by kernel_rfl) (by kernel_rfl) ?_
      repeat (go_big_quiet_step ((first | (go_at_call_of 21 (Value.slice A 1 c); exact Cls.call (HW1.out _)) | (go_at_call_of 21 (Value.slice A 2 c); exact Cls.call (HW2.out _)))))
      refine wpQuiet_nil ?_
      rintro _ ⟨s, rfl⟩
      obtain ⟨w5, hb5⟩ := s
      have HB5 := Lib.hid hb5
      change Exit.then _ _ _ _ w5
      clear hb5
      have i1 : (2 : Int) ≤ (T : Int) - 144 := by omega
      have i2 : (T : Int) - 144 ≤ 69 := by omega
      go_wp2_with fail
      refine ((HFEW.out.below HB5.out).bits (HTr.out.below HB5.out HTr.out.lt)).mono ?_
      rintro e w6 ⟨rfl, hb6⟩
      rw [HK2.out]
      have HB6 := Lib.hid (HB5.out.trans (hb6.mono HB5.out.size))
      clear hb6
      go_wp2_with fail
      refine (wakes_any w6 (HTr.out.below HB6.out HTr.out.lt)).mono ?_
      rintro e w7 ⟨rfl, hb7⟩
      go_wp2
      go_ret
      exact ⟨rfl, (HBW.out.trans (HB6.out.mono HBW.out.size)).trans (hb7.mono (HBW.out.trans (HB6.out.mono HBW.out.size)).size)⟩
end Go.Proofs.YtjlfkdopkhejbaaDoor
