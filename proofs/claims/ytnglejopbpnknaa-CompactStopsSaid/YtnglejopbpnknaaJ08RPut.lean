/- The document's put (21): a sample into a row that rises, before all that are later, unless its time is there. The law's cut (6): the first twelve series that are right, of forty samples at most. The argument of CompactStops, opened: two lists of series and two numbers. The first theorem: the kit's extra-structs 1. The keeper's comparisons, where both rows are alike (9, 10, 32), and its Within (11). -/
import Derived.Test.YtnglejopbpnknaaJ05InsSmp
import Derived.Test.YtnglejopbpnknaaJ07Sym3Ser
import Derived.Test.YtnglejopbpnknaaJ04Utf
import Derived.Test.YtnglejopbpnknaaJ02Floor
import Derived.Laws.Entries
namespace Go.Proofs.Ytnglejopbpnknaa
open Go.RowKit
theorem Reads.take2 {w : World} {B size n : Nat} {A : Option Addr} {xs : List Value} (h : Reads w B size A n xs) {k : Nat} (hk : k ≤ n) : Reads w B size A k (xs.take (k * size)) := by
  refine ⟨by rw [List.length_take, h.1]; exact Nat.min_eq_left (Nat.mul_le_mul_right _ hk), fun hn => ?_⟩
  obtain ⟨ad, e, hb, hc⟩ := h.2 (by omega)
  refine ⟨ad, e, hb, fun j u hu => hc j u ?_⟩
  rw [List.getElem?_take] at hu
  split at hu
  · exact hu
  · cases hu
theorem flat2_take {α : Type} (f g : α → Value) : ∀ (l : List α) (k : Nat), (flat2 f g l).take (k * 2) = flat2 f g (l.take k)
  | [], k => by simp [flat2]
  | a :: l, 0 => by simp [flat2]
  | a :: l, k + 1 => by
    have := flat2_take f g l k
    unfold flat2 at this ⊢
    rw [List.take_succ_cons, List.flatMap_cons, List.flatMap_cons, ← this, show (k + 1) * 2 = k * 2 + 2 by omega]
    rfl
theorem flat2_drop {α : Type} (f g : α → Value) : ∀ (l : List α) (k : Nat), (flat2 f g l).drop (k * 2) = flat2 f g (l.drop k)
  | [], k => by simp [flat2]
  | a :: l, 0 => by simp [flat2]
  | a :: l, k + 1 => by
    have := flat2_drop f g l k
    unfold flat2 at this ⊢
    rw [List.drop_succ_cons, List.flatMap_cons, ← this, show (k + 1) * 2 = k * 2 + 2 by omega]
    rfl
theorem flat_ins (l : List Smp) (k : Nat) (x : Smp) : flatS (l.take k ++ x :: l.drop k) = [] ++ (flatS l).take (k * 2) ++ [.int .i64 x.1, .float .f64 x.2] ++ (flatS l).drop (k * 2) := by
  unfold flatS
  rw [flat2_append, flat2_take, flat2_drop]
  simp [flat2]
theorem putP_at : ∀ (l : List Smp) (k : Nat) (x : Smp), TAsc l → (∀ i p, k ≤ i → l[i]? = some p → x.1 < p.1) → (∀ i p, i < k → l[i]? = some p → p.1 < x.1) → putP l x = l.take k ++ x :: l.drop k
  | [], k, x, _, _, _ => by simp [putP]
  | y :: l, 0, x, _, h, _ => by
    have := h 0 y (Nat.le_refl _) rfl
    unfold putP
    rw [if_pos this]; rfl
  | y :: l, k + 1, x, hs, h1, h2 => by
    have := h2 0 y (by omega) rfl
    unfold putP
    rw [if_neg (by omega), if_neg (by omega), putP_at l k x (List.pairwise_cons.1 hs).2 (fun i p hi hp => h1 (i + 1) p (by omega) hp) (fun i p hi hp => h2 (i + 1) p (by omega) hp)]
    rfl
theorem putP_there : ∀ (l : List Smp) (k : Nat) (x p : Smp), TAsc l → l[k]? = some p → p.1 = x.1 → putP l x = l
  | [], k, x, p, _, h, _ => by simp at h
  | y :: l, 0, x, p, _, h, e => by
    simp at h; subst h
    unfold putP
    rw [if_neg (by omega), if_pos e]
  | y :: l, k + 1, x, p, hs, h, e => by
    obtain ⟨h1, h2⟩ := List.pairwise_cons.1 hs
    have h0 : l[k]? = some p := by simpa using h
    have := h1 p (List.mem_of_getElem? h0)
    unfold cmpT at this
    unfold putP
    rw [if_neg (by omega), if_neg (by omega), putP_there l k x p h2 h0 e]
theorem asc_below {l : List Smp} (h : TAsc l) {i k : Nat} {p q : Smp} (hik : i < k) (hp : l[i]? = some p) (hq : l[k]? = some q) : p.1 < q.1 := by
  obtain ⟨h1, rfl⟩ := List.getElem?_eq_some_iff.1 hp
  obtain ⟨h2, rfl⟩ := List.getElem?_eq_some_iff.1 hq
  have := List.pairwise_iff_getElem.1 h i k h1 h2 hik
  unfold cmpT at this
  omega
def PutR (w1 : World) (l : List Smp) (x : Smp) (i : Value) (wr : World) : Prop :=
  ∃ k q : Nat, i = .int .i64 (k : Int) ∧ k ≤ l.length ∧ (∀ i p, k ≤ i → l[i]? = some p → x.1 < p.1) ∧ wr = w1.drewN q
set_option maxRecDepth 100000 in
set_option maxHeartbeats 6400000 in
theorem put_any (w : World) (b : Nat) (v : Value) (l : List Smp) (x : Smp) (hb : b ≤ w.heap.size) (h : w.ownsRow b 51 2 v l.length (flatS l)) (hs : TAsc l) (hl : l.length ≤ 100000) :
    Calls Try.prog 21 #[v, .agg #[.int .i64 x.1, .float .f64 x.2]] w fun e w' => ∃ v', e = .returned v' ∧ w'.ownsRow b 51 2 v' (putP l x).length (flatS (putP l x)) ∧ Below w.heap.size w w' := by
  obtain ⟨j0, hj, hy0, hy1, hy2⟩ := info_parts info51
  have HJ := Lib.hid hj
  have HZ0 := Lib.hid hy0
  have HZ1 := Lib.hid hy1
  have HZ2 := Lib.hid hy2
  obtain ⟨n, hn⟩ : ∃ n, n = l.length := ⟨_, rfl⟩
  rw [← hn] at h hl
  obtain ⟨A, c, rfl⟩ := own_slice h
  have hcc : n ≤ c := by
    rcases h.2 with ⟨e, e0⟩ | ⟨g, cap, cur, e, -, -, hc, -⟩
    · omega
    · injection e with _ _ e; omega
  obtain ⟨w1, hw1⟩ : ∃ w1, w1 = w.alloc (.cells #[.int .i64 x.1, .float .f64 x.2] 51) := ⟨_, rfl⟩
  have hb1 : Below w.heap.size w w1 := by rw [hw1]; exact (Below.refl _ w).alloc (Nat.le_refl _) _
  have hbx1 : Blk w1 w.heap.size 51 #[.int .i64 x.1, .float .f64 x.2] := by rw [hw1]; exact Blk.new w 51 _
  have HO1 := Lib.hid (h.kept (only_of_below hb1 none) (by cases (Value.slice A n c).ownBlock <;> simp))
  have HS := Lib.hid hs
  have HN := Lib.hid hn
  have HB1 := Lib.hid hb1
  have HBX1 := Lib.hid hbx1
  have HW1E := Lib.hid hw1
  have HI := Lib.hid (show PutR w1 l x (.int .i64 (n : Int)) w1 from ⟨n, 0, rfl, by omega, fun i p hi hp => by
    have := (List.getElem?_eq_some_iff.1 hp).1
    omega, rfl⟩)
  clear hj hy0 hy1 hy2 h hs hn hb1 hbx1 hw1
  go_enter Try.func21, Try.ntmps21
  go_wp2_with fail
  rw [← HW1E.out]
  go_loopw [5] (fun i wr => PutR w1 l x i wr) (fun i _ => (intOf i).toNat)
  case atStart => exact HI.out
  case round =>
    obtain ⟨k, q0, rfl, hk, hgt, hw⟩ := hrel
    rw [← HN.out] at hk
    obtain ⟨wo, hwo⟩ : ∃ wo, wo = wr := ⟨_, rfl⟩
    subst hwo
    have hO : wo.ownsRow b 51 2 (.slice A n c) n (flatS l) := by rw [hw]; exact HO1.out
    have hbx : Blk wo w.heap.size 51 #[.int .i64 x.1, .float .f64 x.2] := by rw [hw]; exact HBX1.out.drewN _
    have hwo : Below w.heap.size w wo := by rw [hw]; exact below_drewN HB1.out _
    have xb1 : wo.cell? ⟨w.heap.size, 0, none⟩ = some (.int .i64 x.1) := hbx.cell 0
    have xb2 : wo.cell? ⟨w.heap.size, 1, none⟩ = some (.float .f64 x.2) := hbx.cell 1
    have HW := Lib.hid hw
    have HGT := Lib.hid hgt
    by_cases hk0 : 0 < k
    · have i1 : (0 : Int) < (k : Int) := by omega
      have i2 : decide ((0 : Int) < (k : Int)) = true := decide_eq_true i1
      obtain ⟨g, c2, hA⟩ := own_succ hO (by omega)
      injection hA with e1 e2 e3
      subst e1 e3
      obtain ⟨y, hy⟩ : ∃ y, l[k - 1]? = some y := ⟨_, List.getElem?_eq_getElem (by have := HN.out; omega)⟩
      have x0 : wo.cell? ⟨g, (k - 1) * 2, none⟩ = some (.int .i64 y.1) := by
        rw [hO.cellAt _ (by omega)]
        exact (flat2_get _ _ l (k - 1) y hy).1
      have d1 : (1 : Int) ≤ (k : Int) := by omega
      have d6 : k ≤ 100000 := by omega
      have d7 : ((k : Int) - 1).toNat = k - 1 := by omega
      have s1 : IntKind.i64.wrap ((k : Int) - 1) = (k : Int) - 1 := IntWalk.i64_in _ (by omega)
      have d2 : (k : Int) ≤ (n : Int) := by omega
      have d3 : (0 : Int) ≤ (k : Int) - 1 := by omega
      have d5 : (k : Int) - 1 < (n : Int) := by omega
      have HY := Lib.hid hy
      have HO := Lib.hid hO
      have HWO := Lib.hid hwo
      clear hw hgt hy hO hwo e2
      by_cases hxy : x.1 < y.1
      · have i3 : decide (x.1 < y.1) = true := decide_eq_true hxy
        clear hbx
        go_upto_region 2 with fail
        go_quiet (fail)
        go_wp2_with fail
        refine ⟨⟨k - 1, q0 + nq, congrArg (Value.int .i64) (by omega), by have := HN.out; omega, fun i p hi hp => ?_, by rw [HW.out, World.drewN_drewN]⟩, by simp [intOf]; omega⟩
        rcases Nat.lt_or_eq_of_le hi with h | h
        · exact HGT.out i p (by omega) hp
        · rw [← h, HY.out] at hp
          injection hp with hp
          rw [← hp]; exact hxy
      · have i3 : decide (x.1 < y.1) = false := decide_eq_false hxy
        go_upto_region 2 with fail
        go_quiet (fail)
        obtain ⟨wB, hwB⟩ : ∃ wB, wB = wo.drewN nq := ⟨_, rfl⟩
        rw [← hwB]
        have x0B : wB.cell? ⟨g, (k - 1) * 2, none⟩ = some (.int .i64 y.1) := by rw [hwB]; exact x0
        have xb1B : wB.cell? ⟨w.heap.size, 0, none⟩ = some (.int .i64 x.1) := by rw [hwB]; exact xb1
        have xb2B : wB.cell? ⟨w.heap.size, 1, none⟩ = some (.float .f64 x.2) := by rw [hwB]; exact xb2
        have HOB := Lib.hid (show wB.ownsRow b 51 2 (.slice (some ⟨g, 0, none⟩) n c) n (flatS l) by rw [hwB]; exact HO.out)
        have hbxB : Blk wB w.heap.size 51 #[.int .i64 x.1, .float .f64 x.2] := by rw [hwB]; exact hbx.drewN _
        have HWB := Lib.hid (show Below w.heap.size w wB by rw [hwB]; exact below_drewN HWO.out _)
        clear hwB x0 xb1 xb2 HO hbx HWO HW
        cases he : y.1 == x.1 with
        | true =>
          have HV := Lib.hid (putP_there l (k - 1) x y HS.out HY.out (eq_of_beq he))
          have he2 : (y.1 = x.1) := eq_of_beq he
          go_upto_region 4 with fail
          go_quiet (fail)
          go_wp2_with fail
          refine bodyPost_ret (results_tmp rfl _ _ _) rfl ?_
          refine ⟨.slice (some ⟨g, 0, none⟩) n c, rfl, ?_, below_drewN HWB.out _⟩
          rw [HV.out, ← HN.out]
          exact HOB.out
        | false =>
          have hne : ¬ y.1 = x.1 := by simpa using he
          have HPUT := Lib.hid (putP_at l k x HS.out HGT.out fun i p hi hp => by
            by_cases e : i = k - 1
            · rw [e, HY.out] at hp
              injection hp with hp
              rw [← hp]; omega
            · have := asc_below HS.out (show i < k - 1 by omega) hp HY.out
              omega)
          go_upto_region 4 with fail
          go_quiet (fail)
          obtain ⟨wo, hwo⟩ : ∃ wo, wo = wB.drewN nq := ⟨_, rfl⟩
          rw [← hwo]
          have hbx : Blk wo w.heap.size 51 #[.int .i64 x.1, .float .f64 x.2] := by rw [hwo]; exact hbxB.drewN _
          have HWO := Lib.hid (show Below w.heap.size w wo by rw [hwo]; exact below_drewN HWB.out _)
          obtain ⟨A, hA⟩ : ∃ A : Option Addr, A = some ⟨g, 0, none⟩ := ⟨_, rfl⟩
          have HO := Lib.hid (show wo.ownsRow b 51 2 (.slice A n c) n (flatS l) by rw [hwo, hA]; exact HOB.out)
          rw [← hA]
          clear hwo hA x0B xb1B xb2B HOB hbxB HWB he hne i1 i2 i3 d1 d6 d7 s1 d2 d3 d5 hxy
          have HRT := Lib.hid ((Reads.of_own HO.out).take2 (k := k) (by omega))
          have HRD := Lib.hid ((Reads.of_own HO.out).cut (k := k) (by omega) hcc)
          have e4 : (0 : Int) ≤ (k : Int) := by omega
          have e5 : (k : Int) ≤ (n : Int) := by omega
          have e6 : (k : Int) ≤ (c : Int) := by omega
          have e7 : (n : Int) ≤ (c : Int) := by omega
          obtain ⟨lt1, hlt1⟩ : ∃ l1, l1 = (flatS l).take (k * 2) := ⟨_, rfl⟩
          obtain ⟨lt2, hlt2⟩ : ∃ l2, l2 = (flatS l).drop (k * 2) := ⟨_, rfl⟩
          rw [← hlt1] at HRT
          rw [← hlt2] at HRD
          have ho1 : ∀ u ∈ lt1, u.oneCell' = true := fun u hu => flatS_one l u (by rw [hlt1] at hu; exact List.mem_of_mem_take hu)
          have ho2 : ∀ u ∈ lt2, u.oneCell' = true := fun u hu => flatS_one l u (by rw [hlt2] at hu; exact List.mem_of_mem_drop hu)
          have H1 := Lib.hid ho1
          have H2 := Lib.hid ho2
          have HL1 := Lib.hid hlt1
          have HL2 := Lib.hid hlt2
          clear hlt1 hlt2 ho1 ho2
          go_upto_region 6 with fail
          go_wp2_with (first
            | (at_builtin; (refine wpList_append_any _ rfl (.tmp 38) (.tmp 41) 32 rfl wo.heap.size 51 j0 (.agg #[.int .i64 0, .float .f64 0]) 2 16 Try.underlying32 HJ.out HZ0.out HZ1.out HZ2.out rfl (by omega) (.slice (some ⟨wo.heap.size, 0, none⟩) 0 0) 0 [] rfl (World.ownsRow_made wo #[] 0 (Nat.le_refl _) (by simp [maxLen]) rfl) wo.heap.size A k c lt1 rfl (HRT.out.alloc (Nat.le_refl _) _) H1.out (by simp [maxLen]; omega) (by omega) (by simp) ?_; intro v1 w1 hown1 hgrow1 _; have HW1 := Lib.hid hown1; have HG1 := Lib.hid hgrow1; have hs1 := hgrow1.size; rw [World.size_alloc] at hs1; have hqc := hbx.grown (only_trans (only_alloc (only_refl wo (some wo.heap.size)) (.cells #[] 51)) hgrow1) (by intro e; injection e with e; have := hbx.lt; omega); have xb1 := hqc.cell 0; have xb2 := hqc.cell 1; have HQC := Lib.hid hqc; clear hown1 hgrow1 hqc))
            | (at_builtin; (refine wpList_append_any _ rfl (.tmp 43) (.tmp 45) 32 rfl wo.heap.size 51 j0 (.agg #[.int .i64 0, .float .f64 0]) 2 16 Try.underlying32 HJ.out HZ0.out HZ1.out HZ2.out rfl (by omega) v1 (0 + k) ([] ++ lt1) rfl (HW1.out.alloc _) (w1.heap.size + 1) (some ⟨w1.heap.size, 0, none⟩) 1 1 [.int .i64 x.1, .float .f64 x.2] rfl ⟨rfl, fun _ => ⟨_, rfl, Nat.lt_succ_self _, cells_newL w1 51 _ _ rfl⟩⟩ (by simp [Value.oneCell']) (by simp [maxLen]; omega) (by omega) (by rw [World.size_alloc]; omega) ?_; intro v2 w2 hown2 hgrow2 _; have HW2 := Lib.hid hown2; have HG2 := Lib.hid hgrow2; have hs2 := hgrow2.size; rw [World.size_alloc] at hs2; clear hown2 hgrow2))
            | (at_builtin; (refine wpList_append_any _ rfl (.tmp 47) (.tmp 50) 32 rfl wo.heap.size 51 j0 (.agg #[.int .i64 0, .float .f64 0]) 2 16 Try.underlying32 HJ.out HZ0.out HZ1.out HZ2.out rfl (by omega) v2 (0 + k + 1) ([] ++ lt1 ++ [.int .i64 x.1, .float .f64 x.2]) rfl HW2.out wo.heap.size _ (n - k) (c - k) lt2 rfl (((HRD.out.alloc (Nat.le_refl _) _).grown HG1.out (by simp) (fun g hg => by cases hg; exact Nat.le_refl _)).alloc (by omega) _ |>.grown HG2.out (by rw [World.size_alloc]; omega) (fun g hg => (HW1.out.lt g hg).1)) H2.out (by simp [maxLen]; omega) (by omega) (by omega) ?_; intro v3 w3 hown3 hgrow3 _; have HW3 := Lib.hid hown3; have HG3 := Lib.hid hgrow3; have hs3 := hgrow3.size; clear hown3 hgrow3)))
          all_goals
            go_ret
            refine ⟨v3, rfl, ?_, ?_⟩
            · have h9 := own_less HW3.out (show b ≤ wo.heap.size by have := HWO.out.size; omega)
              rw [HPUT.out, List.length_append, List.length_cons, List.length_take, List.length_drop, ← HN.out]
              rw [show 0 + k + 1 + (n - k) = min k n + (n - k + 1) by omega, HL1.out, HL2.out] at h9
              rw [show flatS (l.take k ++ x :: l.drop k) = [] ++ (flatS l).take (k * 2) ++ [.int .i64 x.1, .float .f64 x.2] ++ (flatS l).drop (k * 2) from flat_ins l k x]
              exact h9
            · have g1 := (HWO.out.alloc HWO.out.size (.cells #[] 51)).grown HG1.out (by rw [World.size_alloc]; have := HWO.out.size; omega) (fun g hg => by cases hg; exact HWO.out.size)
              have g2 := (g1.alloc g1.size (.cells #[.int .i64 x.1, .float .f64 x.2] 51)).grown HG2.out (by rw [World.size_alloc]; have := g1.size; omega) (fun g hg => by have := (HW1.out.lt g hg).1; have := HWO.out.size; omega)
              exact g2.grown HG3.out g2.size (fun g hg => by have := (HW2.out.lt g hg).1; have := HWO.out.size; omega)
    · have i1 : ¬ (0 : Int) < (k : Int) := by omega
      have i2 : decide ((0 : Int) < (k : Int)) = false := decide_eq_false i1
      have HPUT := Lib.hid (putP_at l k x HS.out HGT.out fun i p hi hp => by omega)
      clear hw hgt
      go_upto_region 2 with fail
      go_quiet (fail)
      obtain ⟨wB, hwB⟩ : ∃ wB, wB = wo.drewN nq := ⟨_, rfl⟩
      rw [← hwB]
      have HOB := Lib.hid (show wB.ownsRow b 51 2 (.slice A n c) n (flatS l) by rw [hwB]; exact hO)
      have hbxB : Blk wB w.heap.size 51 #[.int .i64 x.1, .float .f64 x.2] := by rw [hwB]; exact hbx.drewN _
      have HWB := Lib.hid (show Below w.heap.size w wB by rw [hwB]; exact below_drewN hwo _)
      clear hwB xb1 xb2 hO hbx hwo HW
      go_upto_region 4 with fail
      go_quiet (fail)
      obtain ⟨wo, hwo⟩ : ∃ wo, wo = wB.drewN nq := ⟨_, rfl⟩
      rw [← hwo]
      have hbx : Blk wo w.heap.size 51 #[.int .i64 x.1, .float .f64 x.2] := by rw [hwo]; exact hbxB.drewN _
      have HWO := Lib.hid (show Below w.heap.size w wo by rw [hwo]; exact below_drewN HWB.out _)
      have HO := Lib.hid (show wo.ownsRow b 51 2 (.slice A n c) n (flatS l) by rw [hwo]; exact HOB.out)
      clear hwo HOB hbxB HWB i1 i2
      have HRT := Lib.hid ((Reads.of_own HO.out).take2 (k := k) (by omega))
      have HRD := Lib.hid ((Reads.of_own HO.out).cut (k := k) (by omega) hcc)
      have e4 : (0 : Int) ≤ (k : Int) := by omega
      have e5 : (k : Int) ≤ (n : Int) := by omega
      have e6 : (k : Int) ≤ (c : Int) := by omega
      have e7 : (n : Int) ≤ (c : Int) := by omega
      obtain ⟨lt1, hlt1⟩ : ∃ l1, l1 = (flatS l).take (k * 2) := ⟨_, rfl⟩
      obtain ⟨lt2, hlt2⟩ : ∃ l2, l2 = (flatS l).drop (k * 2) := ⟨_, rfl⟩
      rw [← hlt1] at HRT
      rw [← hlt2] at HRD
      have ho1 : ∀ u ∈ lt1, u.oneCell' = true := fun u hu => flatS_one l u (by rw [hlt1] at hu; exact List.mem_of_mem_take hu)
      have ho2 : ∀ u ∈ lt2, u.oneCell' = true := fun u hu => flatS_one l u (by rw [hlt2] at hu; exact List.mem_of_mem_drop hu)
      have H1 := Lib.hid ho1
      have H2 := Lib.hid ho2
      have HL1 := Lib.hid hlt1
      have HL2 := Lib.hid hlt2
      clear hlt1 hlt2 ho1 ho2
      go_upto_region 6 with fail
      go_wp2_with (first
        | (at_builtin; (refine wpList_append_any _ rfl (.tmp 38) (.tmp 41) 32 rfl wo.heap.size 51 j0 (.agg #[.int .i64 0, .float .f64 0]) 2 16 Try.underlying32 HJ.out HZ0.out HZ1.out HZ2.out rfl (by omega) (.slice (some ⟨wo.heap.size, 0, none⟩) 0 0) 0 [] rfl (World.ownsRow_made wo #[] 0 (Nat.le_refl _) (by simp [maxLen]) rfl) wo.heap.size A k c lt1 rfl (HRT.out.alloc (Nat.le_refl _) _) H1.out (by simp [maxLen]; omega) (by omega) (by simp) ?_; intro v1 w1 hown1 hgrow1 _; have HW1 := Lib.hid hown1; have HG1 := Lib.hid hgrow1; have hs1 := hgrow1.size; rw [World.size_alloc] at hs1; have hqc := hbx.grown (only_trans (only_alloc (only_refl wo (some wo.heap.size)) (.cells #[] 51)) hgrow1) (by intro e; injection e with e; have := hbx.lt; omega); have xb1 := hqc.cell 0; have xb2 := hqc.cell 1; have HQC := Lib.hid hqc; clear hown1 hgrow1 hqc))
        | (at_builtin; (refine wpList_append_any _ rfl (.tmp 43) (.tmp 45) 32 rfl wo.heap.size 51 j0 (.agg #[.int .i64 0, .float .f64 0]) 2 16 Try.underlying32 HJ.out HZ0.out HZ1.out HZ2.out rfl (by omega) v1 (0 + k) ([] ++ lt1) rfl (HW1.out.alloc _) (w1.heap.size + 1) (some ⟨w1.heap.size, 0, none⟩) 1 1 [.int .i64 x.1, .float .f64 x.2] rfl ⟨rfl, fun _ => ⟨_, rfl, Nat.lt_succ_self _, cells_newL w1 51 _ _ rfl⟩⟩ (by simp [Value.oneCell']) (by simp [maxLen]; omega) (by omega) (by rw [World.size_alloc]; omega) ?_; intro v2 w2 hown2 hgrow2 _; have HW2 := Lib.hid hown2; have HG2 := Lib.hid hgrow2; have hs2 := hgrow2.size; rw [World.size_alloc] at hs2; clear hown2 hgrow2))
        | (at_builtin; (refine wpList_append_any _ rfl (.tmp 47) (.tmp 50) 32 rfl wo.heap.size 51 j0 (.agg #[.int .i64 0, .float .f64 0]) 2 16 Try.underlying32 HJ.out HZ0.out HZ1.out HZ2.out rfl (by omega) v2 (0 + k + 1) ([] ++ lt1 ++ [.int .i64 x.1, .float .f64 x.2]) rfl HW2.out wo.heap.size _ (n - k) (c - k) lt2 rfl (((HRD.out.alloc (Nat.le_refl _) _).grown HG1.out (by simp) (fun g hg => by cases hg; exact Nat.le_refl _)).alloc (by omega) _ |>.grown HG2.out (by rw [World.size_alloc]; omega) (fun g hg => (HW1.out.lt g hg).1)) H2.out (by simp [maxLen]; omega) (by omega) (by omega) ?_; intro v3 w3 hown3 hgrow3 _; have HW3 := Lib.hid hown3; have HG3 := Lib.hid hgrow3; have hs3 := hgrow3.size; clear hown3 hgrow3)))
      all_goals
        go_ret
        refine ⟨v3, rfl, ?_, ?_⟩
        · have h9 := own_less HW3.out (show b ≤ wo.heap.size by have := HWO.out.size; omega)
          rw [HPUT.out, List.length_append, List.length_cons, List.length_take, List.length_drop, ← HN.out]
          rw [show 0 + k + 1 + (n - k) = min k n + (n - k + 1) by omega, HL1.out, HL2.out] at h9
          rw [show flatS (l.take k ++ x :: l.drop k) = [] ++ (flatS l).take (k * 2) ++ [.int .i64 x.1, .float .f64 x.2] ++ (flatS l).drop (k * 2) from flat_ins l k x]
          exact h9
        · have g1 := (HWO.out.alloc HWO.out.size (.cells #[] 51)).grown HG1.out (by rw [World.size_alloc]; have := HWO.out.size; omega) (fun g hg => by cases hg; exact HWO.out.size)
          have g2 := (g1.alloc g1.size (.cells #[.int .i64 x.1, .float .f64 x.2] 51)).grown HG2.out (by rw [World.size_alloc]; have := g1.size; omega) (fun g hg => by have := (HW1.out.lt g hg).1; have := HWO.out.size; omega)
          exact g2.grown HG3.out g2.size (fun g hg => by have := (HW2.out.lt g hg).1; have := HWO.out.size; omega)
end Go.Proofs.Ytnglejopbpnknaa
namespace Go.Proofs.Ytnglejopbpnknaa
open Go.RowKit
/-- a series as it is handed in -/
def SerIn (w : World) (B : Nat) (p : VV) (s : Ser) : Prop :=
  LabsAt w B p.1 s.1 ∧ (∃ A c, p.2 = .slice A s.2.length c ∧ s.2.length ≤ c ∧ Reads w B 2 A s.2.length (flatS s.2)) ∧ s.1.length ≤ 9223372036854775807 ∧ (∀ q ∈ s.1, q.1.size ≤ 9223372036854775807 ∧ q.2.size ≤ 9223372036854775807)
def SersIn (w : World) (B : Nat) (v : Value) : Prop :=
  ∃ (A : Option Addr) (n c : Nat) (vs : List VV) (ss : List Ser), v = .slice A n c ∧ n ≤ 9223372036854775807 ∧ vs.length = n ∧ ss.length = n ∧ Reads w B 2 A n (flatV vs) ∧ ∀ (i : Nat) (p : VV) (s : Ser), vs[i]? = some p → ss[i]? = some s → SerIn w B p s
theorem SerIn.below {w w' : World} {B B2 : Nat} {p : VV} {s : Ser} (h : SerIn w B p s) (hb : Below B2 w w') (hB : B ≤ B2) : SerIn w' B p s := by
  obtain ⟨h1, ⟨A, c, h2, h3, h4⟩, h5⟩ := h
  exact ⟨h1.below hb hB, ⟨A, c, h2, h3, h4.keep fun p hp => hb.cell (by omega)⟩, h5⟩
theorem SersIn.below {w w' : World} {B B2 : Nat} {v : Value} (h : SersIn w B v) (hb : Below B2 w w') (hB : B ≤ B2) : SersIn w' B v := by
  obtain ⟨A, n, c, vs, ss, h1, h2, h3, h4, h5, h6⟩ := h
  exact ⟨A, n, c, vs, ss, h1, h2, h3, h4, h5.keep fun p hp => hb.cell (by omega), fun i p s a b => (h6 i p s a b).below hb hB⟩
def Few (s : Ser) : Prop := s.1.length ≤ 64 ∧ s.2.length ≤ 40
/-- what a cut hands back: a row of its own, of series as they were handed in -/
def CutAt (W : World) (B : Nat) (v : Value) (ss : List Ser) : Prop :=
  B ≤ W.heap.size ∧ ss.length ≤ 12 ∧ ∃ vs : List VV, W.ownsRow B 34 2 v ss.length (flatV vs) ∧ vs.length = ss.length ∧ ∀ (i : Nat) (p : VV) (s : Ser), vs[i]? = some p → ss[i]? = some s → SerRd W B p s ∧ Few s
theorem SerRd.setCell {w : World} {B : Nat} {p : VV} {s : Ser} (h : SerRd w B p s) {a : Addr} (hB : B ≤ a.block) (u : Value) : SerRd (w.setCell a u) B p s := by
  obtain ⟨⟨A, c, e1, r1⟩, A2, c2, e2, r2⟩ := h
  exact ⟨⟨A, c, e1, r1.setCell hB u⟩, A2, c2, e2, r2.setCell hB u⟩
theorem CutAt.call {W W' : World} {B : Nat} {v : Value} {ss : List Ser} (h : CutAt W B v ss) (hb : Below W.heap.size W W') : CutAt W' B v ss := by
  obtain ⟨h0, h1, vs, h2, h3, h4⟩ := h
  exact ⟨Nat.le_trans h0 hb.size, h1, vs, h2.kept (only_of_below hb none) (by cases v.ownBlock <;> simp), h3, fun i p s a b => ⟨(h4 i p s a b).1.below hb h0, (h4 i p s a b).2⟩⟩
theorem CutAt.alloc {W : World} {B : Nat} {v : Value} {ss : List Ser} (h : CutAt W B v ss) (o : Obj) : CutAt (W.alloc o) B v ss := h.call ((Below.refl _ W).alloc (Nat.le_refl _) o)
theorem CutAt.st {W : World} {B g i : Nat} {v : Value} {ss : List Ser} {cs : Array Value} (h : CutAt W B v ss) (hg : Blk W g 3 cs) (hB : B ≤ g) (u : Value) : CutAt (W.setCell ⟨g, i, none⟩ u) B v ss := by
  obtain ⟨h0, h1, vs, h2, h3, h4⟩ := h
  exact ⟨by simpa [World.setCell] using h0, h1, vs, ownsRow_setCell_other h2 (own_blk_ne h2 hg (by decide)) u, h3, fun i p s a b => ⟨(h4 i p s a b).1.setCell hB u, (h4 i p s a b).2⟩⟩
theorem CutAt.rd {W : World} {B : Nat} {v : Value} {ss : List Ser} (h : CutAt W B v ss) : SersRd W W.heap.size v ss ∧ ss.length ≤ 12 ∧ ∀ s ∈ ss, Few s := by
  obtain ⟨h0, h1, vs, h2, h3, h4⟩ := h
  obtain ⟨A, c, e⟩ := own_slice h2
  subst e
  refine ⟨⟨A, c, vs, rfl, h3, Reads.of_own h2, fun i p s a b => (h4 i p s a b).1.more h0⟩, h1, fun s hs => ?_⟩
  obtain ⟨i, hi⟩ := List.mem_iff_getElem?.1 hs
  have hlt := (List.getElem?_eq_some_iff.1 hi).1
  exact (h4 i _ s (List.getElem?_eq_getElem (by omega)) hi).2
def Cut6P (w : World) (B : Nat) (e : Ending) (w' : World) : Prop := ∃ v' ss, e = .returned v' ∧ CutAt w' B v' ss ∧ Below w.heap.size w w'
def Cut6R (w : World) (B n : Nat) (v i : Value) (wr : World) : Prop :=
  ∃ (k : Nat) (ss : List Ser) (vs : List VV), i = .int .i64 (k : Int) ∧ k ≤ n ∧ wr.ownsRow w.heap.size 34 2 v ss.length (flatV vs) ∧ vs.length = ss.length ∧ ss.length ≤ 12 ∧ (∀ (i : Nat) (p : VV) (s : Ser), vs[i]? = some p → ss[i]? = some s → SerRd w B p s ∧ Few s) ∧ Below w.heap.size w wr
set_option maxRecDepth 100000 in
set_option maxHeartbeats 6400000 in
theorem cut_any (w : World) (B : Nat) (v : Value) (h : SersIn w B v) (hB : B ≤ w.heap.size) :
    Calls Try.prog 6 #[v] w (Cut6P w B) := by
  obtain ⟨j0, hj, hz0, hz1, hz2⟩ := info_parts info34
  have HJ := Lib.hid hj
  have HZ0 := Lib.hid hz0
  have HZ1 := Lib.hid hz1
  have HZ2 := Lib.hid hz2
  obtain ⟨A, n, c, vs, ss, rfl, hn, hvs, hss, hrd, hin⟩ := h
  have HVS := Lib.hid hvs
  have HSS := Lib.hid hss
  have HRD := Lib.hid hrd
  have HIN := Lib.hid hin
  have HBB := Lib.hid hB
  have HI := Lib.hid (show Cut6R w B n (.slice none 0 0) (.int .i64 0) w from ⟨0, [], [], rfl, Nat.zero_le _, World.ownsRow_nil _ _ _ _, rfl, by simp, fun i p s h => by simp at h, Below.refl _ w⟩)
  clear hj hz0 hz1 hz2 hvs hss hrd hin hB
  go_enter Try.func6, Try.ntmps6
  go_wp2_with fail
  go_loopw [3, 4] (fun v i wr => Cut6R w B n v i wr) (fun _ i _ => n - (intOf i).toNat)
  case atStart => exact HI.out
  case round =>
    obtain ⟨k, ss1, vs1, rfl, hk, hown, hs1, h12, hel, hb⟩ := hrel
    obtain ⟨m, hm⟩ : ∃ m, m = ss1.length := ⟨_, rfl⟩
    rw [← hm] at hown h12
    obtain ⟨Ao, co, hv⟩ := own_slice hown
    subst hv
    have HM := Lib.hid hm
    have HS1 := Lib.hid hs1
    have HE1 := Lib.hid hel
    by_cases hlt : k < n ∧ m < 12
    · obtain ⟨hlt1, hlt2⟩ := hlt
      have i1 : (k : Int) < (n : Int) := by omega
      have i2 : (m : Int) < 12 := by omega
      have sk : IntKind.i64.wrap ((k : Int) + 1) = ((k + 1 : Nat) : Int) := (IntWalk.i64_in _ (by omega)).trans (by omega)
      have hBw : B ≤ w.heap.size := HBB.out
      obtain ⟨p, hp⟩ : ∃ p, vs[k]? = some p := ⟨_, List.getElem?_eq_getElem (by have := HVS.out; omega)⟩
      obtain ⟨s, hs⟩ : ∃ s, ss[k]? = some s := ⟨_, List.getElem?_eq_getElem (by have := HSS.out; omega)⟩
      obtain ⟨d, rfl, hd, x1, x2⟩ := (HRD.out.keep fun p hp => hb.cell (by omega)).two hp
      obtain ⟨hsl, ⟨AS, cS, e2, hcS, hrS⟩, hln, hsz⟩ := HIN.out k p s hp hs
      obtain ⟨p1, p2⟩ := p
      have hsl0 := hsl
      obtain ⟨AL, cL, e1, hrL⟩ := hsl
      dsimp only at x1 x2 e1 e2 hsl0
      subst e1 e2
      obtain ⟨nL, hnL⟩ : ∃ n, n = s.1.length := ⟨_, rfl⟩
      obtain ⟨nS, hnS⟩ : ∃ n, n = s.2.length := ⟨_, rfl⟩
      rw [← hnL] at x1 hln hsl0 hrL
      rw [← hnS] at x2 hcS hrS
      obtain ⟨w2, hw2⟩ : ∃ w2, w2 = wr.alloc (.cells #[.slice AL nL cL, .slice AS nS cS] 34) := ⟨_, rfl⟩
      obtain ⟨sx, hsx⟩ : ∃ sx, sx = wr.heap.size := ⟨_, rfl⟩
      have hb2 : Below wr.heap.size wr w2 := by rw [hw2]; exact (Below.refl _ wr).alloc (Nat.le_refl _) _
      have hbl : Blk w2 sx 34 #[.slice AL nL cL, .slice AS nS cS] := by rw [hw2, hsx]; exact Blk.new wr 34 _
      have c0 : w2.cell? ⟨sx, 0, none⟩ = some (.slice AL nL cL) := hbl.cell 0
      have hbw2 := hb.trans (hb2.mono hb.size)
      have HRG := Lib.hid (right_any w2 B (.slice AL nL cL) s.1 (by have := hsl0.below hbw2 hBw; exact this) (Nat.le_trans hBw hbw2.size) (by rw [← hnL]; exact hln) hsz)
      have HO2 := Lib.hid (hown.kept (only_of_below hb2 none) (by cases (Value.slice Ao m co).ownBlock <;> simp))
      have HB2 := Lib.hid hbw2
      have HBL := Lib.hid hbl
      have HW2 := Lib.hid hw2
      have HSX := Lib.hid hsx
      have HLB := Lib.hid hsl0
      have HHW := Lib.hid (show w.heap.size ≤ sx from hsx ▸ hb.size)
      have HNE := Lib.hid (show ∀ g, (Value.slice Ao m co).ownBlock = some g → g < sx from fun g hg => hsx ▸ (hown.lt g hg).2)
      have HRS := Lib.hid hrS
      have HNL := Lib.hid hnL
      have HNS := Lib.hid hnS
      clear hb hp hs hown hel hs1 hm hrL hrS hsl0 hb2 hbl hbw2 hw2 hsx hd hnL hnS hsz hln
      go_wp2_with fail
      rw [← HW2.out, ← HSX.out]
      refine HRG.out.mono ?_
      rintro e w3 ⟨⟨b, rfl, hb64⟩, hb3⟩
      cases b with
      | false =>
        have HB3 := Lib.hid (HB2.out.trans (hb3.mono HB2.out.size))
        have HO3 := Lib.hid (HO2.out.kept (only_of_below hb3 none) (by cases (Value.slice Ao m co).ownBlock <;> simp))
        clear hb3 hb64 x1 x2 c0
        go_wp2
        refine ⟨⟨k + 1, ss1, vs1, rfl, by omega, by rw [← HM.out]; exact HO3.out, HS1.out, by have := HM.out; omega, HE1.out, HB3.out⟩, by simp [intOf]; omega⟩
      | true =>
        have hn64 := hb64 rfl
        rw [← HNL.out] at hn64
        have hbl3 := HBL.out.below hb3 HBL.out.lt
        have c3 : w3.cell? ⟨sx, 0, none⟩ = some (.slice AL nL cL) := hbl3.cell 0
        have c4 : w3.cell? ⟨sx, 1, none⟩ = some (.slice AS nS cS) := hbl3.cell 1
        have f4 := hbl3.frozen 1
        have HB3 := Lib.hid (HB2.out.trans (hb3.mono HB2.out.size))
        have HO3 := Lib.hid (HO2.out.kept (only_of_below hb3 none) (by cases (Value.slice Ao m co).ownBlock <;> simp))
        have hsxg := HHW.out
        have HL3 := Lib.hid hbl3
        clear hb3 hb64 x1 x2 c0 hbl3
        by_cases h40 : 40 < nS
        · have i4 : (40 : Int) < (nS : Int) := by omega
          have i5 : (40 : Int) ≤ (cS : Int) := by omega
          have i6 : (40 : Int) ≤ (nS : Int) := by omega
          obtain ⟨w6, hw6⟩ : ∃ w6, w6 = w3.setCell ⟨sx, 1, none⟩ (.slice AS 40 cS) := ⟨_, rfl⟩
          obtain ⟨s2, hs2⟩ : ∃ s2, s2 = s.2.take 40 := ⟨_, rfl⟩
          have hl6 : Blk w6 sx 34 #[.slice AL nL cL, .slice AS 40 cS] := by rw [hw6]; exact HL3.out.set_ 1 _
          have c6 : w6.cell? ⟨sx, 0, none⟩ = some (.slice AL nL cL) := hl6.cell 0
          have c7 : w6.cell? ⟨sx, 1, none⟩ = some (.slice AS 40 cS) := hl6.cell 1
          have HB6 := Lib.hid (show Below w.heap.size w w6 by rw [hw6]; exact HB3.out.setCell (p := ⟨sx, 1, none⟩) hsxg _)
          have HO6 := Lib.hid (show w6.ownsRow w.heap.size 34 2 (.slice Ao m co) m (flatV vs1) by rw [hw6]; exact ownsRow_setCell_other HO3.out (fun e => Nat.lt_irrefl _ (HNE.out _ e)) _)
          have HNEW := Lib.hid (show SerRd w B (.slice AL nL cL, .slice AS 40 cS) (s.1, s2) ∧ Few (s.1, s2) by
            refine ⟨⟨HLB.out, AS, cS, ?_, ?_⟩, by show s.1.length ≤ 64; rw [← HNL.out]; exact hn64, by rw [hs2]; show (s.2.take 40).length ≤ 40; rw [List.length_take]; omega⟩
            · show Value.slice AS 40 cS = .slice AS s2.length cS
              rw [hs2, List.length_take, ← HNS.out, Nat.min_eq_left (by omega)]
            · show Reads w B 2 AS s2.length (flat2 _ _ s2)
              rw [hs2, List.length_take, ← HNS.out, Nat.min_eq_left (by omega), ← flat2_take]
              exact HRS.out.take2 (by omega))
          have HW6 := Lib.hid hw6
          clear hw6 hs2 hl6
          go_upto_region 9 with fail
          rw [← HW6.out]
          clear c3 c4 f4
          go_wp2_with (at_builtin; (refine wpList_append_any _ rfl (.tmp 33) (.tmp 35) 22 rfl w.heap.size 34 j0 (.agg #[.slice none 0 0, .slice none 0 0]) 2 48 Try.underlying22 HJ.out HZ0.out HZ1.out HZ2.out rfl (by omega) (.slice Ao m co) m (flatV vs1) rfl (HO6.out.alloc _) (w6.heap.size + 1) (some ⟨w6.heap.size, 0, none⟩) 1 1 [.slice AL nL cL, .slice AS 40 cS] rfl ⟨rfl, fun _ => ⟨_, rfl, Nat.lt_succ_self _, cells_newL w6 34 _ _ rfl⟩⟩ (by simp [Value.oneCell']) (by simp [maxLen]; omega) (by omega) (by rw [World.size_alloc]; have := HB6.out.size; omega) ?_; intro v7 w7 hown7 hgrow7 _; have HW7 := Lib.hid hown7; have HG7 := Lib.hid hgrow7; clear hown7 hgrow7))
          have hb7 : Below w.heap.size w w7 := (HB6.out.alloc HB6.out.size (.cells #[.slice AL nL cL, .slice AS 40 cS] 34)).grown HG7.out (by rw [World.size_alloc]; have := HB6.out.size; omega) (fun g hg => (HO6.out.lt g hg).1)
          have HB7 := Lib.hid hb7
          clear hb7
          refine ⟨⟨k + 1, ss1 ++ [(s.1, s2)], vs1 ++ [(.slice AL nL cL, .slice AS 40 cS)], rfl, by omega, ?_, by simp [HS1.out], by have := HM.out; simp; omega, fun i p t hp ht => ?_, HB7.out⟩, by simp [intOf]; omega⟩
          · have := HW7.out
            rw [List.length_append, ← HM.out]
            show World.ownsRow _ _ _ _ _ _ (flat2 Prod.fst Prod.snd (vs1 ++ [_]))
            rw [flat2_append]
            exact this
          · rcases Nat.lt_or_ge i vs1.length with e | e
            · rw [List.getElem?_append_left e] at hp
              rw [List.getElem?_append_left (by have := HS1.out; omega)] at ht
              exact HE1.out i p t hp ht
            · have e0 : i = vs1.length := by
                have := (List.getElem?_eq_some_iff.1 hp).1
                simp at this; omega
              subst e0
              rw [List.getElem?_append_right (Nat.le_refl _), Nat.sub_self] at hp
              rw [List.getElem?_append_right (by have := HS1.out; omega), HS1.out, Nat.sub_self] at ht
              simp at hp ht
              subst hp ht
              exact HNEW.out
        · have i4 : ¬ (40 : Int) < (nS : Int) := by omega
          obtain ⟨w6, hw6⟩ : ∃ w6, w6 = w3 := ⟨_, rfl⟩
          subst hw6
          obtain ⟨s2, hs2⟩ : ∃ s2, s2 = s.2 := ⟨_, rfl⟩
          have HB6 := HB3
          have HO6 := HO3
          have HNEW := Lib.hid (show SerRd w B (.slice AL nL cL, .slice AS nS cS) (s.1, s2) ∧ Few (s.1, s2) by
            rw [hs2]
            refine ⟨⟨HLB.out, AS, cS, by rw [HNS.out], ?_⟩, by show s.1.length ≤ 64; rw [← HNL.out]; exact hn64, by show s.2.length ≤ 40; rw [← HNS.out]; omega⟩
            show Reads w B 2 AS s.2.length _
            rw [← HNS.out]
            exact HRS.out)
          clear hs2
          go_wp2_with (at_builtin; (refine wpList_append_any _ rfl (.tmp 33) (.tmp 35) 22 rfl w.heap.size 34 j0 (.agg #[.slice none 0 0, .slice none 0 0]) 2 48 Try.underlying22 HJ.out HZ0.out HZ1.out HZ2.out rfl (by omega) (.slice Ao m co) m (flatV vs1) rfl (HO6.out.alloc _) (w6.heap.size + 1) (some ⟨w6.heap.size, 0, none⟩) 1 1 [.slice AL nL cL, .slice AS nS cS] rfl ⟨rfl, fun _ => ⟨_, rfl, Nat.lt_succ_self _, cells_newL w6 34 _ _ rfl⟩⟩ (by simp [Value.oneCell']) (by simp [maxLen]; omega) (by omega) (by rw [World.size_alloc]; have := HB6.out.size; omega) ?_; intro v7 w7 hown7 hgrow7 _; have HW7 := Lib.hid hown7; have HG7 := Lib.hid hgrow7; clear hown7 hgrow7))
          have hb7 : Below w.heap.size w w7 := (HB6.out.alloc HB6.out.size (.cells #[.slice AL nL cL, .slice AS nS cS] 34)).grown HG7.out (by rw [World.size_alloc]; have := HB6.out.size; omega) (fun g hg => (HO6.out.lt g hg).1)
          have HB7 := Lib.hid hb7
          clear hb7
          refine ⟨⟨k + 1, ss1 ++ [(s.1, s2)], vs1 ++ [(.slice AL nL cL, .slice AS nS cS)], rfl, by omega, ?_, by simp [HS1.out], by have := HM.out; simp; omega, fun i p t hp ht => ?_, HB7.out⟩, by simp [intOf]; omega⟩
          · have := HW7.out
            rw [List.length_append, ← HM.out]
            show World.ownsRow _ _ _ _ _ _ (flat2 Prod.fst Prod.snd (vs1 ++ [_]))
            rw [flat2_append]
            exact this
          · rcases Nat.lt_or_ge i vs1.length with e | e
            · rw [List.getElem?_append_left e] at hp
              rw [List.getElem?_append_left (by have := HS1.out; omega)] at ht
              exact HE1.out i p t hp ht
            · have e0 : i = vs1.length := by
                have := (List.getElem?_eq_some_iff.1 hp).1
                simp at this; omega
              subst e0
              rw [List.getElem?_append_right (Nat.le_refl _), Nat.sub_self] at hp
              rw [List.getElem?_append_right (by have := HS1.out; omega), HS1.out, Nat.sub_self] at ht
              simp at hp ht
              subst hp ht
              exact HNEW.out
    · have HO := Lib.hid hown
      have HB := Lib.hid hb
      have HF := Lib.hid (show CutAt wr B (.slice Ao m co) ss1 from ⟨Nat.le_trans HBB.out hb.size, by omega, vs1, by rw [← hm]; exact own_less hown HBB.out, hs1, fun i p s a b => ⟨(hel i p s a b).1.below hb HBB.out, (hel i p s a b).2⟩⟩)
      by_cases h1 : k < n
      case' pos =>
        have i1 : (k : Int) < (n : Int) := by omega
        have i2 : ¬ (m : Int) < 12 := by omega
      case' neg =>
        have i1 : ¬ (k : Int) < (n : Int) := by omega
      all_goals
        clear hown hb hel hs1 hm hlt h1
        go_wp2
        refine bodyPost_ret (results_tmp rfl _ _ _) rfl ?_
        exact ⟨_, ss1, rfl, HF.out, HB.out⟩
end Go.Proofs.Ytnglejopbpnknaa
namespace Go.Proofs.Ytnglejopbpnknaa
open Go.ChangeShapes Go.WideShapes Go.ChangeAt Go.RowKit Go.Deep

section
variable {H : Type} {enc : TypeId × Value → H} {P : Program} {w : World} {base : Nat} {spare : Nat → Bool} {held : Bool}
theorem open_slice_fields {t e : TypeId} {fs : Array Field} {fuel : Nat} {cs : List Value} {x : DataW H × List MemPlace} (ht : P.underlying t = some (.slice e)) (he : P.underlying e = some (.struct fs))
    (hone : oneCellFields P fs = true) (hC : P.cellsOf e = fs.size) (h : DataW.trod enc P w base spare held fuel t cs = some x) :
    (cs = [.slice none 0 0] ∧ x = (.nil, [])) ∨
    ∃ (a : Addr) (len cap m : Nat) (D : Nat → DataW H) (Pl : Nat → List MemPlace), cs = [.slice (some a) len cap] ∧ base ≤ a.block ∧ len ≤ cap ∧ cap ≤ maxLen ∧ m = (if spare a.block then cap else len) ∧
      x = (.slice ((List.range len).map D) ((List.range (m - len)).map fun j => D (len + j)), MemPlace.row a (m * fs.size) ++ (List.range m).flatMap Pl) ∧
      ∀ i, i < m → ∃ (ys : List (DataW H × List MemPlace)) (n : Nat), D i = .agg (ys.map (·.1)) ∧ Pl i = ys.flatMap (·.2) ∧ ys.length = fs.size ∧
        ∀ (j : Nat) (f : Field), fs[j]? = some f → ∃ (v : Value) (y : DataW H × List MemPlace), w.cell? (a.add (i * fs.size + j)) = some v ∧ ys[j]? = some y ∧ DataW.trod enc P w base spare held n f.type [v] = some y := by
  rcases open_slice ht h with h0 | ⟨a, len, cap, m, n, D, Pl, hcs, hb, hl, hm, hmm, hx, hi⟩
  · exact .inl h0
  · refine .inr ⟨a, len, cap, m, D, Pl, hcs, hb, hl, hm, hmm, by rw [hC] at hx; exact hx, fun i him => ?_⟩
    obtain ⟨cs', hc, ht'⟩ := hi i him
    rw [hC] at hc
    obtain ⟨ys, n', hn', hy, hlen, hyl, hf⟩ := DataW.trod_struct he ht'
    obtain ⟨_, hcl, hat⟩ := World.cells?_some hc
    simp only [Prod.mk.injEq] at hy
    refine ⟨ys, n', hy.1, hy.2, hyl, fun j f hj => ?_⟩
    obtain ⟨ho, hk⟩ := hone_of hone j f hj
    have hjl : j < fs.size := (Array.getElem?_eq_some_iff.1 hj).1
    have hcell := hat j hjl
    have hv : cs'[j]? = some (cs'[j]'(by omega)) := List.getElem?_eq_getElem (by omega)
    have h1 := hf j f hj
    rw [ho, hk] at h1
    have hone' : (cs'.drop j).take 1 = [cs'[j]'(by omega)] := by
      rw [List.drop_eq_getElem_cons (by omega)]
      rfl
    rw [hone'] at h1
    have hys : ys[j]? = some (ys[j]'(by omega)) := List.getElem?_eq_getElem (by omega)
    refine ⟨_, _, ?_, hys, h1.trans hys⟩
    rw [← Go.Deep.add_add, hcell, hv]
theorem one_string {t : TypeId} {fuel : Nat} {v : Value} {x : DataW H × List MemPlace} (ht : P.underlying t = some .string) (h : DataW.trod enc P w base spare held fuel t [v] = some x) : ∃ s : ByteArray, v = .string s ∧ s.size ≤ maxLen := by
  obtain ⟨n, hn, -, hw⟩ := DataW.trod_string ht h
  exact ⟨n, by injection hn, hw⟩
theorem one_int {t : TypeId} {k : IntKind} {fuel : Nat} {v : Value} {x : DataW H × List MemPlace} (ht : P.underlying t = some (.int k)) (h : DataW.trod enc P w base spare held fuel t [v] = some x) : ∃ n, v = .int k n ∧ (Lit.int k n).wf = true := by
  obtain ⟨n, hn, -, hw⟩ := DataW.trod_int ht h
  exact ⟨n, by injection hn, hw⟩
theorem one_f64 {t : TypeId} {fuel : Nat} {v : Value} {x : DataW H × List MemPlace} (ht : P.underlying t = some (.float .f64)) (h : DataW.trod enc P w base spare held fuel t [v] = some x) : ∃ b : Nat, v = .float .f64 b := by
  cases fuel with
  | zero => simp [DataW.trod] at h
  | succ n =>
    unfold DataW.trod at h
    rw [ht] at h
    split at h <;> simp_all
/-- a slice of structs of two fields of one cell each -/
theorem open_two {t e : TypeId} {f0 f1 : Field} {fuel : Nat} {v : Value} {x : DataW H × List MemPlace} (ht : P.underlying t = some (.slice e)) (he : P.underlying e = some (.struct #[f0, f1]))
    (hone : oneCellFields P #[f0, f1] = true) (hC : P.cellsOf e = 2) (h : DataW.trod enc P w base spare held fuel t [v] = some x) :
    ∃ (A : Option Addr) (n c : Nat) (vs : List VV), v = .slice A n c ∧ n ≤ c ∧ n ≤ maxLen ∧ vs.length = n ∧ Reads w w.heap.size 2 A n (flatV vs) ∧
      ∀ p ∈ vs, (∃ m y, DataW.trod enc P w base spare held m f0.type [p.1] = some y) ∧ ∃ m y, DataW.trod enc P w base spare held m f1.type [p.2] = some y := by
  rcases open_slice_fields ht he hone hC h with ⟨hcs, -⟩ | ⟨a, len, cap, m, D, Pl, hcs, -, hl, hm, hmm, -, hi⟩
  · injection hcs with hcs
    exact ⟨none, 0, 0, [], hcs, Nat.le_refl _, Nat.zero_le _, rfl, Reads.none_, fun p hp => by cases hp⟩
  · injection hcs with hcs
    have hml : len ≤ m := by rw [hmm]; split <;> omega
    have hx : ∀ i : Nat, ∃ p : VV, i < len → w.cell? (a.add (i * 2)) = some p.1 ∧ w.cell? (a.add (i * 2 + 1)) = some p.2 ∧ (∃ m y, DataW.trod enc P w base spare held m f0.type [p.1] = some y) ∧ ∃ m y, DataW.trod enc P w base spare held m f1.type [p.2] = some y := by
      intro i
      by_cases hil : i < len
      · obtain ⟨ys, n, _, _, _, hfs⟩ := hi i (by omega)
        obtain ⟨v0, y0, c0, _, t0⟩ := hfs 0 _ rfl
        obtain ⟨v1, y1, c1, _, t1⟩ := hfs 1 _ rfl
        exact ⟨(v0, v1), fun _ => ⟨c0, c1, ⟨_, _, t0⟩, _, _, t1⟩⟩
      · exact ⟨(.bool false, .bool false), fun h => absurd h hil⟩
    obtain ⟨f, hf⟩ := Classical.skolem.1 hx
    refine ⟨some a, len, cap, (List.range len).map f, hcs, hl, Nat.le_trans hl hm, by simp, ⟨by rw [flat2_len]; simp, fun h0 => ⟨a, rfl, ?_, fun j u hu => ?_⟩⟩, fun p hp => ?_⟩
    · have := World.block_lt_of_cell? w _ (hf 0 h0).1
      rwa [block_of_add] at this
    · have hjl : j < len * 2 := by
        have := (List.getElem?_eq_some_iff.1 hu).1
        rw [flat2_len] at this
        simpa using this
      have hil : j / 2 < len := by omega
      obtain ⟨g1, g2, -⟩ := hf (j / 2) hil
      obtain ⟨k1, k2⟩ := flat2_get Prod.fst Prod.snd ((List.range len).map f) (j / 2) (f (j / 2)) (by simp [hil])
      rcases Nat.mod_two_eq_zero_or_one j with e | e
      · have ej : j = j / 2 * 2 := by omega
        rw [ej] at hu
        rw [k1] at hu
        injection hu with hu
        rw [ej, ← hu]; exact g1
      · have ej : j = j / 2 * 2 + 1 := by omega
        rw [ej] at hu
        rw [k2] at hu
        injection hu with hu
        rw [ej, ← hu]; exact g2
    · obtain ⟨i, hi', rfl⟩ := List.mem_map.1 hp
      have := hf i (List.mem_range.1 hi')
      exact ⟨this.2.2.1, this.2.2.2⟩
end
section
variable {H : Type} {enc : TypeId × Value → H} {W : World} {base : Nat} {sp : Nat → Bool} {held : Bool}
theorem map_flat {α : Type} (f g : α → Value) : ∀ (vs : List VV), (∀ p ∈ vs, ∃ q, p = (f q, g q)) → ∃ l : List α, l.length = vs.length ∧ flatV vs = flat2 f g l ∧ ∀ q ∈ l, (f q, g q) ∈ vs
  | [], _ => ⟨[], rfl, rfl, fun q h => by cases h⟩
  | p :: vs, h => by
    obtain ⟨q, e⟩ := h p List.mem_cons_self
    obtain ⟨l, h1, h2, h3⟩ := map_flat f g vs fun p hp => h p (List.mem_cons_of_mem _ hp)
    refine ⟨q :: l, by simp [h1], ?_, fun r hr => ?_⟩
    · subst e
      show _ :: _ :: flatV vs = _ :: _ :: flat2 f g l
      rw [h2]
    · rcases List.mem_cons.1 hr with rfl | hr
      · rw [← e]; exact List.mem_cons_self
      · exact List.mem_cons_of_mem _ (h3 r hr)
set_option maxRecDepth 100000 in
theorem one_labels {fuel : Nat} {v : Value} {x : DataW H × List MemPlace} (h : DataW.trod enc Try.prog W base sp held fuel 31 [v] = some x) :
    ∃ ls : List Lbl, LabsAt W W.heap.size v ls ∧ ls.length ≤ maxLen ∧ ∀ q ∈ ls, q.1.size ≤ maxLen ∧ q.2.size ≤ maxLen := by
  obtain ⟨A, n, c, vs, rfl, -, hm, hl, hR, hall⟩ := open_two Try.underlying31 Try.underlying61 (by kernel_rfl) (by kernel_rfl) h
  obtain ⟨ls, h1, h2, h3⟩ := map_flat (fun q : Lbl => Value.string q.1) (fun q : Lbl => Value.string q.2) vs fun p hp => by
    obtain ⟨⟨m, y, t0⟩, m2, y2, t1⟩ := hall p hp
    obtain ⟨s0, e0, -⟩ := one_string Try.underlying9 t0
    obtain ⟨s1, e1, -⟩ := one_string Try.underlying9 t1
    exact ⟨(s0, s1), by rw [← e0, ← e1]⟩
  refine ⟨ls, ⟨A, c, ?_, ?_⟩, by omega, fun q hq => ?_⟩
  · rw [h1, hl]
  · rw [h1, hl]
    have := hR
    rw [h2] at this
    exact this
  · obtain ⟨⟨m, y, t0⟩, m2, y2, t1⟩ := hall _ (h3 q hq)
    obtain ⟨s0, e0, l0⟩ := one_string Try.underlying9 t0
    obtain ⟨s1, e1, l1⟩ := one_string Try.underlying9 t1
    injection e0 with e0
    injection e1 with e1
    subst e0 e1
    exact ⟨l0, l1⟩
set_option maxRecDepth 100000 in
theorem one_samples {fuel : Nat} {v : Value} {x : DataW H × List MemPlace} (h : DataW.trod enc Try.prog W base sp held fuel 32 [v] = some x) :
    ∃ (l : List Smp) (A : Option Addr) (c : Nat), v = .slice A l.length c ∧ l.length ≤ c ∧ Reads W W.heap.size 2 A l.length (flatS l) := by
  obtain ⟨A, n, c, vs, rfl, hc, hm, hl, hR, hall⟩ := open_two Try.underlying32 Try.underlying51 (by kernel_rfl) (by kernel_rfl) h
  obtain ⟨l, h1, h2, h3⟩ := map_flat (fun q : Smp => Value.int .i64 q.1) (fun q : Smp => Value.float .f64 q.2) vs fun p hp => by
    obtain ⟨⟨m, y, t0⟩, m2, y2, t1⟩ := hall p hp
    obtain ⟨s0, e0, -⟩ := one_int Try.underlying3 t0
    obtain ⟨s1, e1⟩ := one_f64 Try.underlying49 t1
    exact ⟨(s0, s1), by rw [← e0, ← e1]⟩
  refine ⟨l, A, c, by rw [h1, hl], by omega, ?_⟩
  rw [h1, hl]
  have := hR
  rw [h2] at this
  exact this
set_option maxRecDepth 100000 in
theorem one_series {fuel : Nat} {v : Value} {x : DataW H × List MemPlace} (h : DataW.trod enc Try.prog W base sp held fuel 22 [v] = some x) : SersIn W W.heap.size v := by
  obtain ⟨A, n, c, vs, rfl, hc, hm, hl, hR, hall⟩ := open_two Try.underlying22 Try.underlying34 (by kernel_rfl) (by kernel_rfl) h
  have hs : ∀ vs : List VV, (∀ p ∈ vs, (∃ m y, DataW.trod enc Try.prog W base sp held m 31 [p.1] = some y) ∧ ∃ m y, DataW.trod enc Try.prog W base sp held m 32 [p.2] = some y) → ∃ ss : List Ser, ss.length = vs.length ∧ ∀ (i : Nat) (p : VV) (s : Ser), vs[i]? = some p → ss[i]? = some s → SerIn W W.heap.size p s := by
    intro vs
    induction vs with
    | nil => exact fun _ => ⟨[], rfl, fun i p s h => by simp at h⟩
    | cons p vs ih =>
      intro hall
      obtain ⟨ss, h1, h2⟩ := ih fun p hp => hall p (List.mem_cons_of_mem _ hp)
      obtain ⟨⟨m, y, t0⟩, m2, y2, t1⟩ := hall p List.mem_cons_self
      obtain ⟨ls, g1, g2, g3⟩ := one_labels t0
      obtain ⟨l, A2, c2, g4, g5, g6⟩ := one_samples t1
      refine ⟨(ls, l) :: ss, by simp [h1], fun i q s hq hs => ?_⟩
      cases i with
      | zero =>
        simp only [List.getElem?_cons_zero, Option.some.injEq] at hq hs
        subst hq hs
        exact ⟨g1, ⟨A2, c2, g4, g5, g6⟩, g2, g3⟩
      | succ i => exact h2 i q s (by simpa using hq) (by simpa using hs)
  obtain ⟨ss, h1, h2⟩ := hs vs hall
  exact ⟨A, n, c, vs, ss, rfl, hm, hl, by omega, hR, h2⟩
theorem wf63 {n : Int} (h : (Lit.int .i64 n).wf = true) : -9223372036854775808 ≤ n ∧ n ≤ 9223372036854775807 := by
  simp [Lit.wf] at h
  have h2 : IntKind.i64.min = -9223372036854775808 := rfl
  rw [h2] at h
  exact h
set_option maxRecDepth 100000 in
theorem open_stops {b0 : Nat} {r : Reach} {v : Value} {d : DataW H} {ps : List MemPlace} (hv : Value.okWide Try.prog W r b0 24 v) (h : DataW.Trod enc Try.prog W base sp held 24 v d ps) :
    ∃ (vA vB : Value) (z1 z2 : Int), v = .agg #[vA, vB, .int .i64 z1, .int .i64 z2] ∧ SersIn W W.heap.size vA ∧ SersIn W W.heap.size vB ∧ (-9223372036854775808 ≤ z1 ∧ z1 ≤ 9223372036854775807) ∧ (-9223372036854775808 ≤ z2 ∧ z2 ≤ 9223372036854775807) := by
  obtain ⟨cs, rfl, hsz⟩ := okWide_struct Try.underlying24 hv
  obtain ⟨fuel, hf⟩ := h
  obtain ⟨ys, n, -, -, hlen, hyl, hfl⟩ := DataW.trod_struct Try.underlying24 hf
  have hc4 : Try.prog.cellsOf 24 = 4 := by kernel_rfl
  rw [hc4] at hsz
  obtain ⟨l⟩ := cs
  match l, hsz with
  | [a, b, c, e], _ =>
    have h0 := hfl 0 _ rfl
    have h1 := hfl 1 _ rfl
    have h2 := hfl 2 _ rfl
    have h3 := hfl 3 _ rfl
    have y0 : ys[0]? = some (ys[0]'(by rw [hyl]; decide)) := List.getElem?_eq_getElem _
    have y1 : ys[1]? = some (ys[1]'(by rw [hyl]; decide)) := List.getElem?_eq_getElem _
    have y2 : ys[2]? = some (ys[2]'(by rw [hyl]; decide)) := List.getElem?_eq_getElem _
    have y3 : ys[3]? = some (ys[3]'(by rw [hyl]; decide)) := List.getElem?_eq_getElem _
    have e0 := one_series (v := a) (h0.trans y0)
    have e1 := one_series (v := b) (h1.trans y1)
    obtain ⟨z1, rfl, w1⟩ := one_int (v := c) Try.underlying3 (h2.trans y2)
    obtain ⟨z2, rfl, w2⟩ := one_int (v := e) Try.underlying3 (h3.trans y3)
    exact ⟨a, b, z1, z2, rfl, e0, e1, wf63 w1, wf63 w2⟩
end
end Go.Proofs.Ytnglejopbpnknaa
namespace Go.Proofs.Ytnglejopbpnknaa
open Go.RowKit
def KpR (w : World) (n : Nat) (i : Value) (wr : World) : Prop := ∃ k q : Nat, i = .int .i64 (k : Int) ∧ k ≤ n ∧ wr = w.drewN q
set_option maxRecDepth 100000 in
set_option maxHeartbeats 3200000 in
theorem klabels_any (w : World) (B1 B2 : Nat) (v1 v2 : Value) (a : List Lbl) (h1 : LabsAt w B1 v1 a) (h2 : LabsAt w B2 v2 a) (ha : a.length ≤ 100000) :
    Calls Try.prog 9 #[v1, v2] w fun e w' => e = .returned (.bool true) ∧ ∃ q, w' = w.drewN q := by
  obtain ⟨A1, c1, rfl, hr1⟩ := h1
  obtain ⟨A2, c2, rfl, hr2⟩ := h2
  obtain ⟨n, hn⟩ : ∃ n, n = a.length := ⟨_, rfl⟩
  rw [← hn] at hr1 hr2 ha ⊢
  have HR1 := Lib.hid hr1
  have HR2 := Lib.hid hr2
  have HN := Lib.hid hn
  have HI := Lib.hid (show KpR w n (.int .i64 0) w from ⟨0, 0, rfl, Nat.zero_le _, rfl⟩)
  clear hr1 hr2 hn
  go_enter Try.func9, Try.ntmps9
  go_wp2_with fail
  go_loopw [5] (fun i wr => KpR w n i wr) (fun i _ => n - (intOf i).toNat)
  case atStart => exact HI.out
  case round =>
    obtain ⟨k, q0, rfl, hk, hw⟩ := hrel
    have HW := Lib.hid hw
    by_cases hlt : k < n
    · have i1 : (k : Int) < (n : Int) := by omega
      have i3 : (0 : Int) ≤ (k : Int) := by omega
      obtain ⟨p, hp⟩ : ∃ p, a[k]? = some p := ⟨_, List.getElem?_eq_getElem (by have := HN.out; omega)⟩
      obtain ⟨d1, rfl, -, x1, x2⟩ := HR1.out.two hp
      obtain ⟨d2, rfl, -, y1, y2⟩ := HR2.out.two hp
      obtain ⟨p1, p2⟩ := p
      dsimp only at x1 x2 y1 y2
      replace x1 : wr.cell? (d1.add (k * 2)) = some (.string p1) := by rw [hw]; exact x1
      replace x2 : wr.cell? ⟨(d1.add (k * 2)).block, (d1.add (k * 2)).off + 1, none⟩ = some (.string p2) := by rw [hw]; exact x2
      replace y1 : wr.cell? (d2.add (k * 2)) = some (.string p1) := by rw [hw]; exact y1
      replace y2 : wr.cell? ⟨(d2.add (k * 2)).block, (d2.add (k * 2)).off + 1, none⟩ = some (.string p2) := by rw [hw]; exact y2
      have s1 : IntKind.i64.wrap ((k : Int) + 1) = ((k + 1 : Nat) : Int) := (IntWalk.i64_in _ (by omega)).trans (by omega)
      clear hp hw
      go_upto_region 6 with fail
      go_quiet (fail)
      go_wp2
      exact ⟨⟨k + 1, q0 + nq, rfl, by omega, by rw [HW.out, World.drewN_drewN]⟩, by simp [intOf]; omega⟩
    · have i1 : ¬ (k : Int) < (n : Int) := by omega
      clear hw
      go_wp2
      refine bodyPost_ret (results_tmp rfl _ _ _) rfl ?_
      exact ⟨rfl, _, HW.out⟩
theorem tobits_call (x : Nat) (w : World) : (callFunc 48 #[.float .f64 x]).run Try.prog w = .ok (.value (.int .u64 (x : Int))) w :=
  run_callFunc_extern (e := Extern.MathFloatBits.float64bits) Try.func48 (by kernel_rfl) (by kernel_rfl) (by kernel_rfl) (by kernel_rfl) #[.float .f64 x] w
attribute [local go_sem] tobits_call in
theorem bits_any (x : Nat) (w : World) : Calls Try.prog 32 #[.float .f64 x, .float .f64 x] w fun e w' => e = .returned (.bool true) ∧ w' = w := by
  go_enter Try.func32, Try.ntmps32
  go_wp2
  go_ret
  exact ⟨rfl, rfl⟩
set_option maxRecDepth 100000 in
set_option maxHeartbeats 3200000 in
theorem ksamples_any (w : World) (B1 B2 : Nat) (v1 v2 : Value) (a : List Smp) (h1 : SmpsRd w B1 v1 a) (h2 : SmpsRd w B2 v2 a) (ha : a.length ≤ 100000) :
    Calls Try.prog 10 #[v1, v2] w fun e w' => e = .returned (.bool true) ∧ ∃ q, w' = w.drewN q := by
  obtain ⟨A1, c1, rfl, hr1⟩ := h1
  obtain ⟨A2, c2, rfl, hr2⟩ := h2
  obtain ⟨n, hn⟩ : ∃ n, n = a.length := ⟨_, rfl⟩
  rw [← hn] at hr1 hr2 ha ⊢
  have HR1 := Lib.hid hr1
  have HR2 := Lib.hid hr2
  have HN := Lib.hid hn
  have HI := Lib.hid (show KpR w n (.int .i64 0) w from ⟨0, 0, rfl, Nat.zero_le _, rfl⟩)
  clear hr1 hr2 hn
  go_enter Try.func10, Try.ntmps10
  go_wp2_with fail
  go_loopw [5] (fun i wr => KpR w n i wr) (fun i _ => n - (intOf i).toNat)
  case atStart => exact HI.out
  case round =>
    obtain ⟨k, q0, rfl, hk, hw⟩ := hrel
    have HW := Lib.hid hw
    by_cases hlt : k < n
    · have i1 : (k : Int) < (n : Int) := by omega
      have i3 : (0 : Int) ≤ (k : Int) := by omega
      obtain ⟨p, hp⟩ : ∃ p, a[k]? = some p := ⟨_, List.getElem?_eq_getElem (by have := HN.out; omega)⟩
      obtain ⟨d1, rfl, -, x1, x2⟩ := HR1.out.two hp
      obtain ⟨d2, rfl, -, y1, y2⟩ := HR2.out.two hp
      obtain ⟨p1, p2⟩ := p
      dsimp only at x1 x2 y1 y2
      replace x1 : wr.cell? (d1.add (k * 2)) = some (.int .i64 p1) := by rw [hw]; exact x1
      replace x2 : wr.cell? ⟨(d1.add (k * 2)).block, (d1.add (k * 2)).off + 1, none⟩ = some (.float .f64 p2) := by rw [hw]; exact x2
      replace y1 : wr.cell? (d2.add (k * 2)) = some (.int .i64 p1) := by rw [hw]; exact y1
      replace y2 : wr.cell? ⟨(d2.add (k * 2)).block, (d2.add (k * 2)).off + 1, none⟩ = some (.float .f64 p2) := by rw [hw]; exact y2
      have s1 : IntKind.i64.wrap ((k : Int) + 1) = ((k + 1 : Nat) : Int) := (IntWalk.i64_in _ (by omega)).trans (by omega)
      have e1 : (p1 != p1) = false := by simp
      clear hp hw
      go_upto_region 6 with fail
      go_quiet ((go_at_call 32; exact Calls.quiet_of_same (bits_any _ _)))
      go_wp2
      exact ⟨⟨k + 1, q0 + nq, rfl, by omega, by rw [HW.out, World.drewN_drewN]⟩, by simp [intOf]; omega⟩
    · have i1 : ¬ (k : Int) < (n : Int) := by omega
      clear hw
      go_wp2
      refine bodyPost_ret (results_tmp rfl _ _ _) rfl ?_
      exact ⟨rfl, _, HW.out⟩
theorem within11_any (n m : Int) (w : World) (h : 1 ≤ m) (hm : m ≤ 9223372036854775807) (_hn : -9223372036854775808 ≤ n) (_hn' : n ≤ 9223372036854775807) :
    Calls Try.prog 11 #[.int .i64 n, .int .i64 m] w fun e w' => e = .returned (.int .i64 (n % m)) ∧ w' = w := by
  have h0 := Int.emod_nonneg n (show m ≠ 0 by omega)
  have h1 := Int.emod_lt_of_pos n (show 0 < m by omega)
  have h2 : n.tmod m = n % m ∨ n.tmod m = n % m - m := by
    rw [Int.tmod_eq_emod]
    split
    · left; omega
    · right; omega
  obtain ⟨r, hr⟩ : ∃ r, r = n.tmod m := ⟨_, rfl⟩
  obtain ⟨q, hq⟩ : ∃ q, q = n % m := ⟨_, rfl⟩
  rw [← hq] at h0 h1
  rw [← hr, ← hq] at h2
  have HR := Lib.hid hr
  have HQ := Lib.hid hq
  clear hr hq
  rcases h2 with e | e
  · have hr0 : 0 ≤ n.tmod m := by rw [← HR.out, e]; exact h0
    have HE := Lib.hid e
    clear e
    go_enter Try.func11, Try.ntmps11
    go_wp2
    go_ret
    refine ⟨congrArg (fun b => Ending.returned (Value.int IntKind.i64 b)) ?_, rfl⟩
    rw [← HQ.out, ← HE.out, HR.out]
  · have hr0 : n.tmod m < 0 := by rw [← HR.out, e]; omega
    have hr1 : n.tmod m + m ≤ 9223372036854775807 := by rw [← HR.out, e]; omega
    have hr2 : 0 ≤ n.tmod m + m := by rw [← HR.out, e]; omega
    have HE := Lib.hid e
    clear e
    go_enter Try.func11, Try.ntmps11
    go_wp2
    go_ret
    refine ⟨congrArg (fun b => Ending.returned (Value.int IntKind.i64 b)) ?_, rfl⟩
    rw [← HQ.out]
    have e1 : n.tmod m + m = q := by rw [← HR.out, HE.out]; omega
    rw [← e1]
end Go.Proofs.Ytnglejopbpnknaa
