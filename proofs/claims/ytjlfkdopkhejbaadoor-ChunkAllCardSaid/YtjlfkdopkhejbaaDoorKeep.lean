/- The walks of the keep's Samples, Bits, Within and of bytes.Equal. -/
import Derived.Test.YtjlfkdopkhejbaaDoorBytes
namespace Go.Proofs.YtjlfkdopkhejbaaDoor
open Go.RowKit Ck
attribute [local go_sem] frombits_call tobits_call run_store_float

/-- a slice (its address A) reads as the bytes bs, below block lim -/
def BytAt (w : World) (lim : Nat) (A : Option Addr) (bs : List Nat) : Prop :=
  0 < bs.length → ∃ g off, A = some ⟨g, off, none⟩ ∧ g < lim ∧ ∀ i b, bs[i]? = some b → w.cell? ⟨g, off + i, none⟩ = some (.int .u8 (b : Nat))

theorem BytAt.below {w w' : World} {lim : Nat} {A : Option Addr} {l : List Nat} (h : BytAt w lim A l) (hb : Below lim w w') : BytAt w' lim A l := by
  intro hl
  obtain ⟨g, off, hA, hg, hc⟩ := h hl
  exact ⟨g, off, hA, hg, fun i x hx => (hb.cell (p := ⟨g, off + i, none⟩) hg).trans (hc i x hx)⟩
theorem BytAt.mono {w : World} {lim lim' : Nat} {A : Option Addr} {l : List Nat} (h : BytAt w lim A l) (hl : lim ≤ lim') : BytAt w lim' A l := by
  intro h0
  obtain ⟨g, off, hA, hg, hc⟩ := h h0
  exact ⟨g, off, hA, by omega, hc⟩
theorem BytAt.drewN {w : World} {lim : Nat} {A : Option Addr} {l : List Nat} (h : BytAt w lim A l) (n : Nat) : BytAt (w.drewN n) lim A l := h
/-- an owned row of bytes, as a slice value -/
theorem own_byt {w : World} {base : Nat} {v : Value} {bs : List Nat} (h : w.ownsRow base 5 1 v bs.length (bytesV bs)) : ∃ A c, v = .slice A bs.length c ∧ BytAt w w.heap.size A bs := by
  rcases h.2 with ⟨rfl, h0⟩ | ⟨g, cap, cur, rfl, hb, hg, _⟩
  · exact ⟨none, 0, by rw [h0], fun h1 => absurd h1 (by omega)⟩
  · refine ⟨some ⟨g, 0, none⟩, cap, rfl, fun _ => ⟨g, 0, rfl, (Array.getElem?_eq_some_iff.1 hg).1, fun i b hb => ?_⟩⟩
    have hi : i < bs.length := (List.getElem?_eq_some_iff.1 hb).1
    rw [Nat.zero_add, h.cellAt i (by omega), bytesV, List.getElem?_map, hb]
    rfl

def strOf (bs : List Nat) : ByteArray := strOfNums (bs.map fun b : Nat => (b : Int))
theorem strOf_list (a : List Nat) : (strOf a).toList = a.map UInt8.ofNat := by
  rw [ByteArray.toList_eq, strOf, strOfNums_data, List.map_map]
  apply List.map_congr_left
  intro x _
  simp
theorem ofNat_inj : ∀ (a b : List Nat), (∀ x ∈ a, x < 256) → (∀ x ∈ b, x < 256) → a.map UInt8.ofNat = b.map UInt8.ofNat → a = b := by
  intro a
  induction a with
  | nil => intro b _ _ h; cases b with
    | nil => rfl
    | cons y b => cases h
  | cons x a ih =>
    intro b ha hb h
    cases b with
    | nil => cases h
    | cons y b =>
      simp only [List.map_cons, List.cons.injEq] at h
      have h1 := congrArg UInt8.toNat h.1
      have hx := ha x (by simp)
      have hy := hb y (by simp)
      simp only [UInt8.toNat_ofNat'] at h1
      rw [Nat.mod_eq_of_lt hx, Nat.mod_eq_of_lt hy] at h1
      rw [h1, ih b (fun z hz => ha z (by simp [hz])) (fun z hz => hb z (by simp [hz])) h.2]
theorem strOf_eq (a b : List Nat) (ha : ∀ x ∈ a, x < 256) (hb : ∀ x ∈ b, x < 256) : ((strOf a).toList == (strOf b).toList) = decide (a = b) := by
  rw [strOf_list, strOf_list]
  by_cases h : a = b
  · subst h; simp
  · have : a.map UInt8.ofNat ≠ b.map UInt8.ofNat := fun e => h (ofNat_inj a b ha hb e)
    simp [h, this]

/-- 'string(b)' -/
theorem conv_any {w : World} {lim : Nat} {A : Option Addr} {bs : List Nat} (h : BytAt w lim A bs) (c : Nat) : (convert 23 9 (.slice A bs.length c)).run Tryd.prog w = .ok (.string (strOf bs)) w := by
  rcases Nat.eq_zero_or_pos bs.length with hn | hn
  · obtain rfl : bs = [] := List.eq_nil_of_length_eq_zero hn
    cases A with
    | none => exact run_convert_bytes_nil w 23 5 Tryd.underlying23 Tryd.underlying5 0 c 9 Tryd.underlying9
    | some a =>
      rw [run_convert_bytes_string w 23 9 5 (some a) _ c Tryd.underlying23 Tryd.underlying5 Tryd.underlying9]
      exact (run_bytesToString w a 0 c [] (by simp [loadCells, loadCellsFrom])).trans rfl
  · obtain ⟨g, off, rfl, _, hc⟩ := h hn
    exact run_convert_bytes_arg (P := Tryd.prog) w 23 5 Tryd.underlying23 Tryd.underlying5 g off bs.length c (bs.map fun b : Nat => (b : Int)) (by simp) (fun i hi => by
      rw [hc i bs[i] (List.getElem?_eq_getElem hi)]
      simp [List.getD, List.getElem?_eq_getElem hi]) 9 Tryd.underlying9

theorem equal_any (A1 A2 : Option Addr) (c1 c2 lim1 lim2 : Nat) (xs ys : List Nat) (w : World) (h1 : BytAt w lim1 A1 xs) (h2 : BytAt w lim2 A2 ys) (hx : ∀ b ∈ xs, b < 256) (hy : ∀ b ∈ ys, b < 256) :
    Calls Tryd.prog 31 #[.slice A1 xs.length c1, .slice A2 ys.length c2] w fun e w' => e = .returned (.bool (decide (xs = ys))) ∧ w = w' := by
  have k1 := conv_any h1 c1
  have k2 := conv_any h2 c2
  have HE := Lib.hid (strOf_eq xs ys hx hy)
  clear h1 h2 hx hy
  go_enter Tryd.func31, Tryd.ntmps31
  go_wp2
  go_ret
  exact ⟨congrArg (fun b => Ending.returned (Value.bool b)) HE.out, rfl⟩

theorem fbits_any (a b : Nat) (w : World) : Calls Tryd.prog 19 #[.float .f64 a, .float .f64 b] w fun e w' => e = .returned (.bool (decide (a = b))) ∧ w = w' := by
  go_enter Tryd.func19, Tryd.ntmps19
  go_wp2
  go_ret
  refine ⟨congrArg (fun b => Ending.returned (Value.bool b)) ?_, rfl⟩
  by_cases h : a = b
  · subst h; simp
  · have : ¬ ((a : Int) = (b : Int)) := by omega
    simp [h, this]

theorem within_any (n m : Int) (w : World) (h : 1 ≤ m) (hm : m ≤ 9223372036854775807) (_hn : -9223372036854775808 ≤ n) (_hn' : n ≤ 9223372036854775807) :
    Calls Tryd.prog 20 #[.int .i64 n, .int .i64 m] w fun e w' => e = .returned (.int .i64 (n % m)) ∧ w = w' := by
  have h0 := Int.emod_nonneg n (show m ≠ 0 by omega)
  have h1 := Int.emod_lt_of_pos n (show 0 < m by omega)
  have h2 : n.tmod m = n % m ∨ n.tmod m = n % m - m := by
    rw [Int.tmod_eq_emod]
    split
    · left; omega
    · right; omega
  obtain ⟨r, hr⟩ : ∃ r, r = n.tmod m := ⟨_, rfl⟩
  obtain ⟨q, hq⟩ : ∃ q, q = n % m := ⟨_, rfl⟩
  rw [← hq] at h0 h1
  rw [← hr, ← hq] at h2
  have HR := Lib.hid hr
  have HQ := Lib.hid hq
  clear hr hq
  rcases h2 with e | e
  · have hr0 : 0 ≤ n.tmod m := by rw [← HR.out, e]; exact h0
    have HE := Lib.hid e
    clear e
    go_enter Tryd.func20, Tryd.ntmps20
    go_wp2
    go_ret
    refine ⟨congrArg (fun b => Ending.returned (Value.int IntKind.i64 b)) ?_, rfl⟩
    rw [← HQ.out, ← HE.out, HR.out]
  · have hr0 : n.tmod m < 0 := by rw [← HR.out, e]; omega
    have hr1 : n.tmod m + m ≤ 9223372036854775807 := by rw [← HR.out, e]; omega
    have hr2 : 0 ≤ n.tmod m + m := by rw [← HR.out, e]; omega
    have HE := Lib.hid e
    clear e
    go_enter Tryd.func20, Tryd.ntmps20
    go_wp2
    go_ret
    refine ⟨congrArg (fun b => Ending.returned (Value.int IntKind.i64 b)) ?_, rfl⟩
    rw [← HQ.out]
    have e1 : n.tmod m + m = q := by rw [← HR.out, HE.out]; omega
    rw [← e1]

/-! ### two rows of samples -/
def same (a b : List Smp) : Bool := decide (a = b)


def Drawn (w wr : World) : Prop := ∃ n, wr = w.drewN n
theorem Drawn.refl (w : World) : Drawn w w := ⟨0, rfl⟩
theorem Drawn.step {w wr : World} (h : Drawn w wr) (n : Nat) : Drawn w (wr.drewN n) := by
  obtain ⟨m, rfl⟩ := h
  exact ⟨m + n, by rw [World.drewN_drewN]⟩
theorem Drawn.below {w wr : World} (h : Drawn w wr) (B : Nat) : Below B w wr := by obtain ⟨m, rfl⟩ := h; exact below_drewN (Below.refl _ _) m
theorem quiet_left {P : Program} {f : FuncId} {args : Array Value} {w : World} {n : Nat} {v : Value}
    (h : Calls P f args (w.drewN n) fun e w' => e = .returned v ∧ w.drewN n = w') : Calls P f args (w.drewN n) fun e w'' => e = .returned v ∧ ∃ m, w'' = w.drewN m :=
  h.mono fun _ _ ⟨he, hw⟩ => ⟨he, n, hw.symm⟩

def SameRel (w : World) (a b : List Smp) (i : Value) (wr : World) : Prop := ∃ k : Nat, k ≤ a.length ∧ i = .int .i64 k ∧ a.take k = b.take k ∧ Drawn w wr

set_option maxHeartbeats 800000 in
theorem samples_any (A1 A2 : Option Addr) (c1 c2 lim1 lim2 : Nat) (a b : List Smp) (w : World) (h1 : SmpAt w lim1 A1 a) (h2 : SmpAt w lim2 A2 b) (ha : a.length ≤ 140737488355327) (_hb : b.length ≤ 140737488355327) :
    Calls Tryd.prog 12 #[.slice A1 a.length c1, .slice A2 b.length c2] w fun e w' => e = .returned (.bool (same a b)) ∧ Drawn w w' := by
  by_cases hl : a.length = b.length
  · have hlb : ((a.length : Int) != (b.length : Int)) = false := by simp; omega
    have HL := Lib.hid hl
    have H1 := Lib.hid h1
    have H2 := Lib.hid h2
    clear h1 h2 hl
    go_enter Tryd.func12, Tryd.ntmps12
    go_wp2_with fail
    go_loopw [5] (fun i wr => SameRel w a b i wr) (fun i _ => a.length - (intOf i).toNat)
    case atStart => exact ⟨0, Nat.zero_le _, rfl, rfl, Drawn.refl _⟩
    case round =>
      obtain ⟨k, hk, rfl, ht, hd⟩ := hrel
      have HT := Lib.hid ht
      have HD := Lib.hid hd
      clear ht hd
      by_cases hlt : k < a.length
      · have hlt2 : k < b.length := by have := HL.out; omega
        obtain ⟨g1, o1, hA1, hg1, hc1⟩ := (H1.out.below (HD.out.below _)) (by omega)
        obtain ⟨g2, o2, hA2, hg2, hc2⟩ := (H2.out.below (HD.out.below _)) (by omega)
        obtain ⟨x, hx⟩ : ∃ x, x = a[k] := ⟨_, rfl⟩
        obtain ⟨y, hy⟩ : ∃ y, y = b[k] := ⟨_, rfl⟩
        obtain ⟨p1, p2⟩ := hc1 k x (by rw [hx, List.getElem?_eq_getElem hlt])
        obtain ⟨q1, q2⟩ := hc2 k y (by rw [hy, List.getElem?_eq_getElem hlt2])
        have HX := Lib.hid hx
        have HY := Lib.hid hy
        subst hA1 hA2
        clear hc1 hc2 hx hy
        by_cases ht : x.t = y.t
        · have htb : (x.t != y.t) = false := by simp [ht]
          have HTE := Lib.hid ht
          clear ht
          by_cases hv : x.v = y.v
          · have HVE := Lib.hid hv
            have hvd : decide (x.v = y.v) = true := by simp [hv]
            clear hv
            go_wp2_with fail
            go_quiet ((go_at_call 19; exact quiet_left (fbits_any _ _ _)))
            go_wp2
            refine ⟨⟨k + 1, by omega, by go_num, ?_, HD.out.step _⟩, by simp [intOf]; omega⟩
            have hxy : x = y := by
              have e1 := HTE.out
              have e2 := HVE.out
              cases x; cases y
              simp only at e1 e2
              rw [e1, e2]
            rw [List.take_succ_eq_append_getElem hlt, List.take_succ_eq_append_getElem hlt2, HT.out, ← HX.out, ← HY.out, hxy]
          · have hs : same a b = false := by
              unfold same
              refine decide_eq_false (fun e => hv ?_)
              subst e
              rw [HX.out, HY.out]
            have HS := Lib.hid hs
            have hvd : decide (x.v = y.v) = false := by simp [hv]
            clear hv hs
            go_wp2_with fail
            go_quiet ((go_at_call 19; exact quiet_left (fbits_any _ _ _)))
            go_wp2
            refine bodyPost_ret (results_tmp rfl _ _ _) rfl ?_
            rw [HS.out]
            exact ⟨rfl, HD.out.step _⟩
        · have hs : same a b = false := by
            unfold same
            refine decide_eq_false (fun e => ht ?_)
            subst e
            rw [HX.out, HY.out]
          have HS := Lib.hid hs
          have htb : (x.t != y.t) = true := by simp [ht]
          clear ht hs
          go_wp2_with fail
          go_quiet (fail)
          go_wp2
          refine bodyPost_ret (results_tmp rfl _ _ _) rfl ?_
          rw [HS.out]
          exact ⟨rfl, HD.out.step _⟩
      · have hkl : k = a.length := by omega
        have hs : same a b = true := by
          unfold same
          refine decide_eq_true ?_
          have := HT.out
          rw [hkl, List.take_length, HL.out, List.take_length] at this
          exact this
        have HS := Lib.hid hs
        clear hkl hs
        go_wp2
        go_ret
        rw [HS.out]
        exact ⟨rfl, HD.out⟩
  · have hlb : ((a.length : Int) != (b.length : Int)) = true := by simp; omega
    have hs : same a b = false := by
      unfold same
      exact decide_eq_false (fun e => hl (by rw [e]))
    have HS := Lib.hid hs
    clear hs hl h1 h2
    go_enter Tryd.func12, Tryd.ntmps12
    go_wp2
    refine bodyPost_ret (results_tmp rfl _ _ _) rfl ?_
    rw [HS.out]
    exact ⟨rfl, Drawn.refl _⟩
end Go.Proofs.YtjlfkdopkhejbaaDoor
