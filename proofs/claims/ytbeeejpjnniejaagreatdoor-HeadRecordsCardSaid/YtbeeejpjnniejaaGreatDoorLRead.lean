/- labels.Read (164), its inner reader of a text (210). -/
import Derived.Test.YtbeeejpjnniejaaGreatDoorLReadP
import Derived.Test.YtbeeejpjnniejaaGreatDoorJ06Rx2
import Derived.Laws.BitsAllLaws
import Derived.IntWalk
namespace Go.Proofs.YtbeeejpjnniejaaGreatDoor
open Go.RowKit Go.Shelf
attribute [-go_sem] Builtin.append_
theorem i64_or_nat (a b : Nat) (ha : a < 9223372036854775808) (hb : b < 9223372036854775808) : bits .or .i64 (a : Int) (b : Int) = ((a ||| b : Nat) : Int) := by
  have hx : a ||| b < 2 ^ 63 := Nat.or_lt_two_pow (by omega) (by omega)
  show IntKind.i64.wrap ((BitVec.ofInt 64 (a : Int) ||| BitVec.ofInt 64 (b : Int)).toNat : Int) = _
  have e : ∀ c : Nat, c < 9223372036854775808 → (BitVec.ofInt 64 (c : Int)).toNat = c := fun c hc => by
    rw [BitVec.ofInt_natCast, BitVec.toNat_ofNat]; exact Nat.mod_eq_of_lt (by omega)
  rw [BitVec.toNat_or, e a ha, e b hb, IntKind.wrap_i64]
  omega
theorem or_bytes (b0 b1 : Nat) (h0 : b0 < 256) (h1 : b1 < 256) : bits .or .i64 ((b0 : Int) * 256) (b1 : Int) = ((b0 * 256 + b1 : Nat) : Int) := by
  have e2 : (b0 : Int) * 256 = ((b0 * 256 : Nat) : Int) := by omega
  rw [e2, i64_or_nat _ _ (by omega) (by omega)]
  congr 1
  have h := Nat.two_pow_add_eq_or_of_lt (i := 8) (b := b1) (by omega) b0
  rw [Nat.mul_comm, show (256 : Nat) = 2 ^ 8 from rfl, ← h]
/-- what is left to be read, in a variable of its own -/
def TxAt (w : World) (B C : Nat) (rest : List UInt8) : Prop := ∃ A c, Blk w C 90 #[.slice A rest.length c] ∧ rest.length ≤ c ∧ Reads w B 1 A rest.length (bytesV rest)
theorem TxAt.grown {w w' : World} {B C : Nat} {rest : List UInt8} {row : Option Nat} (h : TxAt w B C rest) (hg : w.grownBy w' row) (hB : B ≤ w.heap.size) (h1 : some C ≠ row) (h2 : ∀ g, row = some g → B ≤ g) : TxAt w' B C rest := by
  obtain ⟨A, c, a1, a2, a3⟩ := h
  exact ⟨A, c, a1.grown hg h1, a2, a3.grown hg hB h2⟩
def TextPost (w : World) (B C : Nat) (rest : List UInt8) (e : Ending) (w' : World) : Prop :=
  w.grownBy w' (some C) ∧ match textP rest with
  | none => e = .returned (.tuple #[.string ⟨#[]⟩, .bool false]) ∧ TxAt w' B C rest
  | some x => e = .returned (.tuple #[.string x.1, .bool true]) ∧ TxAt w' B C x.2
theorem add_two (a : Addr) (n : Nat) : (a.add 2).add n = a.add (2 + n) := add_of_add a 2 n
set_option maxRecDepth 100000 in
set_option maxHeartbeats 3200000 in
theorem text_any (w : World) (B C : Nat) (rest : List UInt8) (h : TxAt w B C rest) (hB : B ≤ C) (hl : rest.length ≤ 1000000000) : Calls Tryz.prog 210 #[.pointer (some ⟨C, 0, none⟩)] w (TextPost w B C rest) := by
  obtain ⟨A, c, hbk, hmc, hrd⟩ := h
  obtain ⟨m, hm⟩ : ∃ m, m = rest.length := ⟨_, rfl⟩
  rw [← hm] at hbk hmc hrd hl
  have x0 : w.cell? ⟨C, 0, none⟩ = some (.slice A m c) := hbk.cell 0
  have z0 := hbk.frozen 0
  have hCl := hbk.lt
  have HBK := Lib.hid hbk
  have HRD := Lib.hid hrd
  have HM := Lib.hid hm
  have gr0 : w.grownBy w (some C) := World.grownBy.refl _ _
  by_cases hs : m < 2
  · have hp : textP rest = none := by
      match rest, hm with
      | [], _ => rfl
      | [_], _ => rfl
      | _ :: _ :: _, hm => simp at hm; omega
    have i1 : (m : Int) < 2 := by omega
    have HP := Lib.hid (show TextPost w B C rest (.returned (.tuple #[.string ⟨#[]⟩, .bool false])) w by
      unfold TextPost
      rw [hp]
      exact ⟨gr0, rfl, A, c, by rw [← hm]; exact hbk, by rw [← hm]; exact hmc, by rw [← hm]; exact hrd⟩)
    clear hbk hrd hm gr0 hp
    go_enter Tryz.func210, Tryz.ntmps210
    go_wp2
    refine bodyPost_ret (results_tmp2 rfl _ _ _) rfl ?_
    exact HP.out
  · obtain ⟨x, y, r, hr⟩ : ∃ x y r, rest = x :: y :: r := by
      match rest, hm with
      | [], hm => simp at hm; omega
      | [_], hm => simp at hm; omega
      | x :: y :: r, _ => exact ⟨x, y, r, rfl⟩
    have hx := x.toNat_lt
    have hy := y.toNat_lt
    obtain ⟨ad, rfl, had, hcell⟩ := hrd.2 (by omega)
    obtain ⟨xn, hxn⟩ : ∃ n, n = x.toNat := ⟨_, rfl⟩
    obtain ⟨yn, hyn⟩ : ∃ n, n = y.toNat := ⟨_, rfl⟩
    have d0 : w.cell? ad = some (.int .u8 (xn : Int)) := by
      have h1 := hcell 0 (.int .u8 (xn : Int)) (by rw [hr, hxn]; rfl)
      rwa [show ad.add 0 = ad by unfold Addr.add; simp] at h1
    have d1 : w.cell? (ad.add 1) = some (.int .u8 (yn : Int)) := hcell 1 _ (by rw [hr, hyn]; rfl)
    obtain ⟨n, hn⟩ : ∃ n, n = xn * 256 + yn := ⟨_, rfl⟩
    have hor : bits .or .i64 ((xn : Int) * 256) (yn : Int) = (n : Int) := by rw [hn]; exact or_bytes xn yn (by omega) (by omega)
    have hn2 : n ≤ 65535 := by omega
    have hmr : m = r.length + 2 := by rw [hm, hr]; rfl
    have i1 : ¬ (m : Int) < 2 := by omega
    have i2 : (1 : Int) < (m : Int) := by omega
    have i3 : (0 : Int) < (m : Int) := by omega
    have i5 : 0 < m := by omega
    have i6 : 1 < m := by omega
    have e1 : IntKind.i64.wrap (xn : Int) = (xn : Int) := IntWalk.i64_in _ (by omega)
    have e2 : IntKind.i64.wrap (yn : Int) = (yn : Int) := IntWalk.i64_in _ (by omega)
    have e3 : IntKind.i64.wrap ((xn : Int) * 256) = (xn : Int) * 256 := IntWalk.i64_in _ (by omega)
    replace d1 : w.cell? ⟨ad.block, ad.off + 1, none⟩ = some (.int .u8 (yn : Int)) := d1
    have HR := Lib.hid hr
    have HMR := Lib.hid hmr
    have hxn2 : xn < 256 := by omega
    have hyn2 : yn < 256 := by omega
    have HN := Lib.hid (show n = x.toNat * 256 + y.toNat by rw [hn, hxn, hyn])
    have HXN := Lib.hid hxn
    have HYN := Lib.hid hyn
    clear hbk hrd hm gr0 hr hcell hxn hyn hn hmr hx hy
    by_cases hfit : m - 2 < n
    · have i4 : (m : Int) - 2 < (n : Int) := by omega
      have hp : textP rest = none := by
        rw [HR.out]
        show (if r.length < x.toNat * 256 + y.toNat then none else _) = none
        rw [if_pos (by have := HN.out; have := HMR.out; omega)]
      have HP := Lib.hid (show ∀ q, TextPost w B C rest (.returned (.tuple #[.string ⟨#[]⟩, .bool false])) (w.drewN q) from fun q => by
        unfold TextPost
        rw [hp]
        exact ⟨only_drewN (World.grownBy.refl _ _) q, rfl, some ad, c, by rw [← HM.out]; exact HBK.out.drewN q, by rw [← HM.out]; exact hmc, by rw [← HM.out]; exact HRD.out.drewN q⟩)
      clear hp
      go_enter Tryz.func210, Tryz.ntmps210
      go_wp2_with fail
      go_quiet (fail)
      go_wp2
      refine bodyPost_ret (results_tmp2 rfl _ _ _) rfl ?_
      exact HP.out _
    · have i4 : ¬ (m : Int) - 2 < (n : Int) := by omega
      obtain ⟨s, hs⟩ : ∃ s : ByteArray, s = ⟨(r.take n).toArray⟩ := ⟨_, rfl⟩
      have hrl := HMR.out
      have hp : textP rest = some (s, r.drop n) := by
        rw [HR.out, hs, HN.out]
        show (if r.length < x.toNat * 256 + y.toNat then none else _) = _
        rw [if_neg (by have := HN.out; omega)]
      have hrv : bytesV rest = [.int .u8 (xn : Int), .int .u8 (yn : Int)] ++ (bytesV (r.take n) ++ bytesV (r.drop n)) := by
        rw [← bytesV_append, List.take_append_drop, HR.out]
        show _ = Value.int .u8 (xn : Int) :: Value.int .u8 (yn : Int) :: bytesV r
        rw [HXN.out, HYN.out]
        rfl
      have hcell : ∀ j u, (bytesV rest)[j]? = some u → w.cell? (ad.add j) = some u := fun j u hj => by
        obtain ⟨a', e, -, h1⟩ := HRD.out.2 (by omega)
        injection e with e
        subst e
        exact h1 j u hj
      have hr2 : Reads w B 1 (some (ad.add 2)) n (bytesV (r.take n)) := by
        refine ⟨by rw [bytesV_length, List.length_take]; omega, fun _ => ⟨_, rfl, by rw [block_of_add]; exact had, fun j u hj => ?_⟩⟩
        rw [add_two]
        refine hcell _ _ ?_
        have hjl := (List.getElem?_eq_some_iff.1 hj).1
        rw [hrv, List.getElem?_append_right (by simp), List.getElem?_append_left (by simpa using hjl)]
        rw [← hj]
        congr 1
        simp
      have hr3 : Reads w B 1 (some (ad.add (2 + n))) (m - (2 + n)) (bytesV (r.drop n)) := by
        refine ⟨by rw [bytesV_length, List.length_drop]; omega, fun _ => ⟨_, rfl, by rw [block_of_add]; exact had, fun j u hj => ?_⟩⟩
        rw [add_of_add]
        refine hcell _ _ ?_
        have hl2 : (bytesV (r.take n)).length = n := by rw [bytesV_length, List.length_take]; omega
        rw [hrv, List.getElem?_append_right (by simp; omega), List.getElem?_append_right (by rw [hl2]; simp; omega), hl2, ← hj]
        congr 1
        simp
        omega
      have hz : ∀ (k : Nat) (A' : Option Addr) (xs : List UInt8), k = 0 → xs.length = 0 → Reads w B 1 A' k (bytesV xs) := fun k A' xs hk hx => by
        subst hk
        exact ⟨by rw [bytesV_length, hx], fun h => absurd h (by omega)⟩
      have hl1 : (r.take n).length = n := by rw [List.length_take]; omega
      have hl3 : (r.drop n).length = m - (2 + n) := by rw [List.length_drop]; omega
      have HP := Lib.hid (show ∀ q A3, Reads w B 1 A3 (m - (2 + n)) (bytesV (r.drop n)) → TextPost w B C rest (.returned (.tuple #[.string s, .bool true])) ((w.drewN q).setCell ⟨C, 0, none⟩ (.slice A3 (m - (2 + n)) (c - (2 + n)))) from fun q A3 h3 => by
        unfold TextPost
        rw [hp]
        refine ⟨only_setCell (only_drewN (World.grownBy.refl _ _) q) (.inl rfl) _, rfl, A3, c - (2 + n), ?_, by rw [hl3]; omega, ?_⟩
        · rw [hl3]
          exact (HBK.out.drewN q).set_ 0 _
        · rw [hl3]
          exact (h3.drewN q).setCell hB _)
      have HS := Lib.hid (show ∀ q A2 k, Reads w B 1 A2 n (bytesV (r.take n)) → (convert 90 9 (.slice A2 n k)).run Tryz.prog (w.drewN q) = .ok (.string s) (w.drewN q) from fun q A2 k h2 => by rw [hs]; exact run_str_reads k (h2.drewN q))
      have HR2 := Lib.hid hr2
      have HR3 := Lib.hid hr3
      have HZ := Lib.hid hz
      have HL1 := Lib.hid hl1
      have HL3 := Lib.hid hl3
      have k1 : (2 + (n : Int)).toNat = 2 + n := by omega
      have k2 : 2 + (n : Int) ≤ (m : Int) := by omega
      have k3 : 2 + (n : Int) ≤ (c : Int) := by omega
      have k4 : 2 + n - 2 = n := by omega
      clear hrv hcell hr2 hr3 hz hl1 hl3 hp hs hrl
      by_cases c2 : c = 2
      · have n0 : n = 0 := by omega
        have m2 : m = 2 := by omega
        subst n0 m2 c2
        have H2 := Lib.hid (fun q => HS.out q (some ad) 0 (HZ.out _ _ _ rfl HL1.out))
        have H3 := Lib.hid (fun q => HP.out q (some ad) (HZ.out _ _ _ rfl HL3.out))
        clear k1 k2 k3 k4
        go_enter Tryz.func210, Tryz.ntmps210
        go_wp2_with fail
        go_quiet (fail)
        have hcv := H2.out nq
        go_wp2
        refine bodyPost_ret (results_tmp2 rfl _ _ _) rfl ?_
        exact H3.out _
      · by_cases c3 : c = 2 + n
        · have m3 : m = 2 + n := by omega
          subst m3 c3
          have n0 : ¬ 2 + n = 2 := by omega
          have H2 := Lib.hid (fun q => HS.out q (some ⟨ad.block, ad.off + 2, none⟩) n HR2.out)
          have H3 := Lib.hid (fun q => by have h1 := HP.out q (some ad) (HZ.out _ _ _ (by omega) (by rw [HL3.out]; omega)); rw [Nat.sub_self] at h1; exact h1)
          go_enter Tryz.func210, Tryz.ntmps210
          go_wp2_with fail
          go_quiet (fail)
          have hcv := H2.out nq
          go_wp2
          refine bodyPost_ret (results_tmp2 rfl _ _ _) rfl ?_
          exact H3.out _
        · have H2 := Lib.hid (fun q => HS.out q (some ⟨ad.block, ad.off + 2, none⟩) (c - 2) HR2.out)
          have H3 := Lib.hid (fun q => HP.out q (some (ad.add (2 + n))) HR3.out)
          go_enter Tryz.func210, Tryz.ntmps210
          go_wp2_with fail
          go_quiet (fail)
          have hcv := H2.out nq
          go_wp2
          refine bodyPost_ret (results_tmp2 rfl _ _ _) rfl ?_
          exact H3.out _
theorem text_none {w : World} {B C : Nat} {rest : List UInt8} (h : TxAt w B C rest) (hB : B ≤ C) (hl : rest.length ≤ 1000000000) (hp : textP rest = none) :
    Calls Tryz.prog 210 #[.pointer (some ⟨C, 0, none⟩)] w fun e w' => e = .returned (.tuple #[.string ⟨#[]⟩, .bool false]) ∧ w.grownBy w' (some C) ∧ TxAt w' B C rest := by
  refine (text_any w B C rest h hB hl).mono ?_
  rintro e w' ⟨h1, h2⟩
  rw [hp] at h2
  exact ⟨h2.1, h1, h2.2⟩
theorem text_some {w : World} {B C : Nat} {rest r : List UInt8} {s : ByteArray} (h : TxAt w B C rest) (hB : B ≤ C) (hl : rest.length ≤ 1000000000) (hp : textP rest = some (s, r)) :
    Calls Tryz.prog 210 #[.pointer (some ⟨C, 0, none⟩)] w fun e w' => e = .returned (.tuple #[.string s, .bool true]) ∧ w.grownBy w' (some C) ∧ TxAt w' B C r := by
  refine (text_any w B C rest h hB hl).mono ?_
  rintro e w' ⟨h1, h2⟩
  rw [hp] at h2
  exact ⟨h2.1, h1, h2.2⟩
theorem labsP_succ (n : Nat) (acc : List Lbl) (l : List UInt8) : labsP (n + 1) acc l = match textP l with | none => none | some x => match textP x.2 with | none => none | some y => labsP n (acc ++ [(x.1, y.1)]) y.2 := rfl
def LReadPost (w : World) (raw : List UInt8) (e : Ending) (w' : World) : Prop :=
  Below w.heap.size w w' ∧ match lread raw with
  | none => e = .returned (.tuple #[.slice none 0 0, .int .i64 8])
  | some ls => ∃ v, e = .returned (.tuple #[v, .int .i64 0]) ∧ w'.ownsRow w.heap.size 55 2 v ls.length (flatL ls)
/-- between two labels -/
structure LrS (w wr : World) (C n : Nat) (r : List UInt8) (v : Value) (k : Nat) (acc : List Lbl) (rest : List UInt8) : Prop where
  le : k ≤ n
  len : acc.length = k
  eq : labsP n [] r = labsP (n - k) acc rest
  own : wr.ownsRow w.heap.size 55 2 v acc.length (flatL acc)
  tx : TxAt wr w.heap.size C rest
  bel : Below w.heap.size w wr
  small : rest.length ≤ r.length
  sized : ∀ p ∈ acc, p.1.size ≤ 1000000000 ∧ p.2.size ≤ 1000000000
def LrR (w : World) (C n : Nat) (r : List UInt8) (v i : Value) (wr : World) : Prop := ∃ (k : Nat) (acc : List Lbl) (rest : List UInt8), i = .int .u8 (k : Int) ∧ LrS w wr C n r v k acc rest
theorem flatL_one1 (l : List Lbl) : ∀ u ∈ flatL l, u.oneCell' = true := fun u hu => by
  simp only [flat2, List.mem_flatMap] at hu
  obtain ⟨p, -, hu⟩ := hu
  simp only [List.mem_cons, List.not_mem_nil, or_false] at hu
  rcases hu with rfl | rfl <;> rfl
theorem own_blk_w {w w' : World} {base : Nat} {e : TypeId} {size n : Nat} {v : Value} {xs : List Value} (h : w.ownsRow base e size v n xs) (hk : ∀ g, v.ownBlock = some g → w'.heap[g]? = w.heap[g]?) : w'.ownsRow base e size v n xs := by
  refine ⟨h.1, ?_⟩
  rcases h.2 with h | ⟨g, cap, cur, rfl, h2, h3, h4⟩
  · exact .inl h
  · exact .inr ⟨g, cap, cur, rfl, h2, (hk g rfl).trans h3, h4⟩
theorem own_grown_far {w w' : World} {base g : Nat} {e t : TypeId} {size n : Nat} {v : Value} {xs : List Value} {cs : Array Value} (h : w.ownsRow base e size v n xs) (hg : w.grownBy w' (some g)) (hb : Blk w g t cs) (hne : e ≠ t) : w'.ownsRow base e size v n xs :=
  h.kept hg (.inr (own_blk_ne h hb hne))
set_option maxRecDepth 100000 in
set_option maxHeartbeats 6400000 in
theorem lread_any (w : World) (A : Option Addr) (c : Nat) (raw : List UInt8) (h : Reads w w.heap.size 1 A raw.length (bytesV raw)) (hc : raw.length ≤ c) (hT : Tabs w) (hl : raw.length ≤ 1000000000) :
    Calls Tryz.prog 164 #[.slice A raw.length c] w (LReadPost w raw) := by
  obtain ⟨i0, hi, hz0, hz1, hz2⟩ := info_parts info55
  have HI := Lib.hid hi
  have HZ0 := Lib.hid hz0
  have HZ1 := Lib.hid hz1
  have HZ2 := Lib.hid hz2
  clear hi hz0 hz1 hz2
  have hmf : ∀ (fn : Fn) (first cap : Array Value) (w : World), (Instr.makeFunc fn first cap).run Tryz.prog w = .ok (.func fn first cap) w := fun _ _ _ _ => rfl
  cases hraw : raw with
  | nil =>
    have HP := Lib.hid (show LReadPost w [] (.returned (.tuple #[.slice none 0 0, .int .i64 8])) w from ⟨Below.refl _ w, rfl⟩)
    clear h hT hmf hl
    go_enter Tryz.func164, Tryz.ntmps164
    go_wp2
    refine bodyPost_ret (results_tmp2 rfl _ _ _) rfl ?_
    exact HP.out
  | cons x r =>
    subst hraw
    obtain ⟨M, hM⟩ : ∃ M, M = r.length := ⟨_, rfl⟩
    have hml : (x :: r).length = M + 1 := by rw [hM]; rfl
    rw [hml] at h hc hl ⊢
    obtain ⟨ad, rfl, had, hcell⟩ := h.2 (by omega)
    obtain ⟨n, hn⟩ : ∃ n, n = x.toNat := ⟨_, rfl⟩
    have hn8 : n < 256 := by rw [hn]; exact x.toNat_lt
    have d0 : w.cell? ad = some (.int .u8 (n : Int)) := by
      have h1 := hcell 0 (.int .u8 (n : Int)) (by rw [hn]; rfl)
      rwa [show ad.add 0 = ad by unfold Addr.add; simp] at h1
    have HRD := Lib.hid h
    have HM := Lib.hid hM
    have HN := Lib.hid hn
    have HT := Lib.hid hT
    have HLR := Lib.hid (show lread (x :: r) = match labsP n [] r with | some (ls, []) => if rightL ls then some ls else none | _ => none by rw [hn]; rfl)
    obtain ⟨Ar, hAr⟩ : ∃ Ar, Ar = if c = 1 then some ad else some (ad.add 1) := ⟨_, rfl⟩
    have hrr : Reads w w.heap.size 1 Ar M (bytesV r) := by
      have h1 := h.cut (k := 1) (cap := c) (by omega) hc
      rw [hAr]
      simpa [bytesV] using h1
    have HRR := Lib.hid hrr
    have HAR := Lib.hid hAr
    have hst : LrS w (w.alloc (.cells #[.slice Ar M (c - 1)] 90)) w.heap.size n r (.slice none 0 0) 0 [] r :=
      { le := Nat.zero_le _, len := rfl, eq := rfl, own := World.ownsRow_nil _ _ _ _, tx := ⟨Ar, c - 1, by rw [← hM]; exact Blk.new w 90 _, by omega, by rw [← hM]; exact hrr.alloc (Nat.le_refl _) _⟩,
        bel := (Below.refl _ w).alloc (Nat.le_refl _) _, small := Nat.le_refl _, sized := fun p hp => by cases hp }
    have HST := Lib.hid (show LrR w w.heap.size n r (.slice none 0 0) (.int .u8 0) (w.alloc (.cells #[.slice Ar M (c - 1)] 90)) from ⟨0, [], r, rfl, hst⟩)
    have d1 : ∀ o, (w.alloc o).cell? ad = some (.int .u8 (n : Int)) := fun o => (World.cell?_alloc_lt w o ad had).trans d0
    have i5 : 0 < M + 1 := by omega
    have i6 : (0 : Int) < ((M + 1 : Nat) : Int) := by omega
    have i7 : (1 : Int) ≤ ((M + 1 : Nat) : Int) := by omega
    have i8 : ((M + 1 : Nat) : Int).toNat = M + 1 := by omega
    have i9 : ((M : Int) + 1 == 0) = false := by simp; omega
    clear h hM hn hT hrr hAr hst hcell hml
    by_cases c1 : c = 1
    case' pos =>
      have hA1 := HAR.out
      rw [if_pos c1] at hA1
      have hM0 : M = 0 := by omega
      subst hA1 c1 hM0
      obtain ⟨w1, hw1⟩ : ∃ w1, w1 = w.alloc (.cells #[.slice (some ad) 0 0] 90) := ⟨_, rfl⟩
    case' neg =>
      have hA1 := HAR.out
      rw [if_neg c1] at hA1
      subst hA1
      obtain ⟨w1, hw1⟩ : ∃ w1, w1 = w.alloc (.cells #[.slice (some ⟨ad.block, ad.off + 1, none⟩) M (c - 1)] 90) := ⟨_, rfl⟩
    all_goals
      have HS1 := Lib.hid (show LrR w w.heap.size n r (.slice none 0 0) (.int .u8 0) w1 from by rw [hw1]; exact HST.out)
      have dd := d1 (.cells #[.slice (some ad) 0 0] 90)
      have d2 : w1.cell? ad = some (.int .u8 (n : Int)) := by rw [hw1]; exact d1 _
      have HW1 := Lib.hid hw1
      clear hw1 d1 dd HST
      go_enter Tryz.func164, Tryz.ntmps164
      go_upto_region 4 with fail
      rw [← HW1.out]
      go_wp2_with fail
      clear d0 d2
      go_loopw [6, 20] (fun v i wr => LrR w w.heap.size n r v i wr) (fun _ i _ => n - (intOf i).toNat)
      case atStart => exact HS1.out
      case round =>
        obtain ⟨k, acc, rest, rfl, hS⟩ := hrel
        have hkn := hS.le
        obtain ⟨Av, cv, rfl⟩ := own_slice hS.own
        have hlen := hS.len
        rw [hlen]
        have HS := Lib.hid hS
        have HLEN := Lib.hid hlen
        clear hS hlen
        by_cases hlt : k < n
        · have j1 : (k : Int) < (n : Int) := by omega
          have hsm : rest.length ≤ 1000000000 := by have := HS.out.small; have := HM.out; omega
          have hbl := HS.out.bel
          obtain ⟨kk, hkk⟩ : ∃ kk, n - k = kk + 1 := ⟨n - k - 1, by omega⟩
          have heq := HS.out.eq
          rw [hkk, labsP_succ] at heq
          have hw0 : w.heap.size ≤ wr.heap.size := hbl.size
          cases h1 : textP rest with
          | none =>
            rw [h1] at heq
            have HLN := Lib.hid (show lread (x :: r) = none by rw [HLR.out]; dsimp only at heq; rw [heq])
            have HT1 := Lib.hid (text_none HS.out.tx (Nat.le_refl _) hsm h1)
            have HH1 := Lib.hid h1
            have HBL := Lib.hid hbl
            clear heq h1 hkk hbl
            go_wp2_with fail
            refine HT1.out.mono ?_
            rintro e w2 ⟨rfl, hg2, ht2⟩
            have HT2 := Lib.hid (text_none ht2 (Nat.le_refl _) hsm HH1.out)
            have HB2 := Lib.hid (HBL.out.grown hg2 hw0 fun g e => by cases e; omega)
            have hw2 : w.heap.size ≤ w2.heap.size := HB2.out.size
            clear hg2 ht2 HT1
            go_wp2_with fail
            refine HT2.out.mono ?_
            rintro e w3 ⟨rfl, hg3, -⟩
            have HP := Lib.hid (show LReadPost w (x :: r) (.returned (.tuple #[.slice none 0 0, .int .i64 8])) w3 from ⟨HB2.out.grown hg3 hw2 fun g e => by cases e; omega, by rw [HLN.out]⟩)
            clear hg3 HT2
            go_wp2
            refine bodyPost_ret (results_tmp2 rfl _ _ _) rfl ?_
            exact HP.out
          | some q =>
            obtain ⟨sa, r1⟩ := q
            rw [h1] at heq
            dsimp only at heq
            have hl1 := textP_len h1
            cases h2 : textP r1 with
            | none =>
              rw [h2] at heq
              have HLN := Lib.hid (show lread (x :: r) = none by rw [HLR.out]; dsimp only at heq; rw [heq])
              have HT1 := Lib.hid (text_some HS.out.tx (Nat.le_refl _) hsm h1)
              have HH2 := Lib.hid h2
              have HBL := Lib.hid hbl
              clear heq h1 h2 hkk hbl
              go_wp2_with fail
              refine HT1.out.mono ?_
              rintro e w2 ⟨rfl, hg2, ht2⟩
              have HT2 := Lib.hid (text_none ht2 (Nat.le_refl _) (by omega) HH2.out)
              have HB2 := Lib.hid (HBL.out.grown hg2 hw0 fun g e => by cases e; omega)
              have hw2 : w.heap.size ≤ w2.heap.size := HB2.out.size
              clear hg2 ht2 HT1
              go_wp2_with fail
              refine HT2.out.mono ?_
              rintro e w3 ⟨rfl, hg3, -⟩
              have HP := Lib.hid (show LReadPost w (x :: r) (.returned (.tuple #[.slice none 0 0, .int .i64 8])) w3 from ⟨HB2.out.grown hg3 hw2 fun g e => by cases e; omega, by rw [HLN.out]⟩)
              clear hg3 HT2
              go_wp2
              refine bodyPost_ret (results_tmp2 rfl _ _ _) rfl ?_
              exact HP.out
            | some q =>
              obtain ⟨sb, r2⟩ := q
              rw [h2] at heq
              dsimp only at heq
              have hl2 := textP_len h2
              have HT1 := Lib.hid (text_some HS.out.tx (Nat.le_refl _) hsm h1)
              have HH2 := Lib.hid h2
              have HBL := Lib.hid hbl
              have HEQ := Lib.hid heq
              have HKK := Lib.hid hkk
              clear heq h1 h2 hkk hbl
              go_wp2_with fail
              refine HT1.out.mono ?_
              rintro e w2 ⟨rfl, hg2, ht2⟩
              have HT2 := Lib.hid (text_some ht2 (Nat.le_refl _) (by omega) HH2.out)
              have HB2 := Lib.hid (HBL.out.grown hg2 hw0 fun g e => by cases e; omega)
              have hw2 : w.heap.size ≤ w2.heap.size := HB2.out.size
              obtain ⟨Ct, cct, hbt, -⟩ := HS.out.tx
              have ho2 := own_grown_far HS.out.own hg2 hbt (by decide)
              obtain ⟨Ct2, cct2, hbt2, -⟩ := ht2
              have HO2 := Lib.hid ho2
              have HBT2 := Lib.hid hbt2
              clear hg2 HT1 hbt ho2 hbt2
              go_wp2_with fail
              refine HT2.out.mono ?_
              rintro e w3 ⟨rfl, hg3, ht3⟩
              have ho3 := own_grown_far HO2.out hg3 HBT2.out (by decide)
              rw [HLEN.out] at ho3
              have HB3 := Lib.hid (HB2.out.grown hg3 hw2 fun g e => by cases e; omega)
              have hw3 : w.heap.size ≤ w3.heap.size := HB3.out.size
              have q4 : Blk (w3.alloc (.cells #[.string sa, .string sb] 55)) w3.heap.size 55 #[.string sa, .string sb] := Blk.new w3 55 _
              have hr4 : Reads (w3.alloc (.cells #[.string sa, .string sb] 55)) (w3.heap.size + 1) 2 (some ⟨w3.heap.size, 0, none⟩) 1 (flatL [(sa, sb)]) := by
                refine ⟨rfl, fun _ => ⟨_, rfl, Nat.lt_succ_self _, fun j u hj => ?_⟩⟩
                have e : (⟨w3.heap.size, 0, none⟩ : Addr).add j = ⟨w3.heap.size, j, none⟩ := by unfold Addr.add; split <;> simp_all
                rw [e, q4.cell j, ← hj]
                simp [flat2]
              have HR4 := Lib.hid hr4
              have HO4 := Lib.hid (ho3.alloc (.cells #[.string sa, .string sb] 55))
              have HT3 := Lib.hid ht3
              have hk255 : k ≤ 255 := by omega
              clear hg3 HT2 ho3 q4 hr4 ht3
              go_wp2_with (at_builtin; go_loud (refine wpList_append_any _ rfl (.tmp 38) (.tmp 42) 37 rfl w.heap.size 55 i0 (.agg #[.string ⟨#[]⟩, .string ⟨#[]⟩]) 2 32 Tryz.underlying37 HI.out HZ0.out HZ1.out HZ2.out rfl (by omega) (.slice Av k cv) k (flatL acc) rfl HO4.out (w3.heap.size + 1) (some ⟨w3.heap.size, 0, none⟩) 1 1 (flatL [(sa, sb)]) rfl HR4.out (flatL_one1 _) (by simp [maxLen]; omega) (by omega) (by simp; omega) ?_; intro v5 w5 hown5 hgrow5 hor5; have HO5 := Lib.hid hown5; have HG5 := Lib.hid hgrow5; have HR5 := Lib.hid hor5; clear hown5 hgrow5 hor5))
              have hb4 : Below w.heap.size w (w3.alloc (.cells #[.string sa, .string sb] 55)) := HB3.out.alloc hw3 _
              obtain ⟨Ct3, cct3, hbt3, hbt4, hbt5⟩ := HT3.out
              have hbt6 := hbt3.alloc (.cells #[.string sa, .string sb] 55)
              have hne : (Value.slice Av k cv).ownBlock ≠ some w.heap.size := own_blk_ne HO4.out hbt6 (by decide)
              have HL := Lib.hid (show LrS w w5 w.heap.size n r v5 (k + 1) (acc ++ [(sa, sb)]) r2 from
                { le := by omega
                  len := by rw [List.length_append, HLEN.out]; rfl
                  eq := by rw [HEQ.out]; congr 1; have := HKK.out; omega
                  own := by
                    have h1 := HO5.out
                    rw [← flat2_append] at h1
                    rw [List.length_append, HLEN.out]
                    exact h1
                  tx := TxAt.grown (w := w3.alloc (.cells #[.string sa, .string sb] 55)) ⟨Ct3, cct3, hbt6, hbt4, hbt5.alloc (by omega) _⟩ HG5.out (by simp; omega) (fun e => hne e.symm) fun g e => (HO4.out.lt g e).1
                  bel := hb4.grown HG5.out (by simp; omega) fun g e => (HO4.out.lt g e).1
                  small := by have := HS.out.small; omega
                  sized := fun p hp => by
                    rcases List.mem_append.1 hp with h1 | h1
                    · exact HS.out.sized p h1
                    · rw [List.mem_singleton] at h1
                      subst h1
                      exact ⟨by show sa.size ≤ _; omega, by show sb.size ≤ _; omega⟩ })
              exact ⟨⟨k + 1, acc ++ [(sa, sb)], r2, congrArg (Value.int .u8) (by omega), HL.out⟩, by simp only [intOf]; omega⟩
        · have j1 : ¬ (k : Int) < (n : Int) := by omega
          have hkn2 : k = n := by omega
          have heq := HS.out.eq
          rw [show n - k = 0 by omega] at heq
          have HEQ := Lib.hid (show labsP n [] r = some (acc, rest) from heq)
          obtain ⟨Ct, cct, hbt, hct, hrt⟩ := HS.out.tx
          obtain ⟨R, hR⟩ : ∃ R, R = rest.length := ⟨_, rfl⟩
          rw [← hR] at hbt
          have x0 : wr.cell? ⟨w.heap.size, 0, none⟩ = some (.slice Ct R cct) := hbt.cell 0
          have HR := Lib.hid hR
          have hbl := HS.out.bel
          clear heq hbt hct hrt hR hkn2
          by_cases hre : 0 < R
          · have i1 : (0 : Int) < (R : Int) := by omega
            have HP := Lib.hid (show LReadPost w (x :: r) (.returned (.tuple #[.slice none 0 0, .int .i64 8])) wr from ⟨hbl, by
              rw [HLR.out, HEQ.out]
              have := HR.out
              cases rest with
              | nil => rw [this] at hre; simp at hre
              | cons a b => rfl⟩)
            clear hbl
            go_wp2
            refine bodyPost_ret (results_tmp2 rfl _ _ _) rfl ?_
            exact HP.out
          · have i1 : ¬ (0 : Int) < (R : Int) := by omega
            have hrn : rest = [] := List.length_eq_zero_iff.1 (by have := HR.out; omega)
            have hown := HS.out.own
            have hla : LabsAt wr wr.heap.size (.slice Av k cv) acc := by
              rw [HLEN.out] at hown
              exact ⟨Av, cv, by rw [HLEN.out], by rw [HLEN.out]; exact Reads.of_own hown⟩
            have hTr := HT.out.below_ hbl
            have HRT := Lib.hid (right_any wr wr.heap.size _ acc hTr hla (Nat.le_refl _) (by rw [HLEN.out]; omega) (fun p hp => ⟨by have := (HS.out.sized p hp).1; omega, by have := (HS.out.sized p hp).2; omega⟩))
            have HOW := Lib.hid (show wr.ownsRow w.heap.size 55 2 (.slice Av k cv) k (flatL acc) by rw [HLEN.out] at hown; exact hown)
            have HBL := Lib.hid hbl
            clear hown hla hTr hbl
            cases hrl : rightL acc with
            | true =>
              rw [hrl] at HRT
              have HRL := Lib.hid hrl
              clear hrl
              go_wp2_with fail
              refine HRT.out.mono ?_
              rintro e w2 ⟨rfl, hb2⟩
              have HP := Lib.hid (show LReadPost w (x :: r) (.returned (.tuple #[.slice Av k cv, .int .i64 0])) w2 from ⟨HBL.out.trans (hb2.mono HBL.out.size), by
                rw [HLR.out, HEQ.out, hrn]
                dsimp only
                rw [if_pos HRL.out]
                exact ⟨_, rfl, by rw [HLEN.out]; exact own_blk_w HOW.out fun j hj => hb2.block j (HOW.out.lt j hj).2⟩⟩)
              clear hb2 HRT
              go_wp2
              refine bodyPost_ret (results_tmp2 rfl _ _ _) rfl ?_
              exact HP.out
            | false =>
              rw [hrl] at HRT
              have HRL := Lib.hid hrl
              clear hrl
              go_wp2_with fail
              refine HRT.out.mono ?_
              rintro e w2 ⟨rfl, hb2⟩
              have HP := Lib.hid (show LReadPost w (x :: r) (.returned (.tuple #[.slice none 0 0, .int .i64 8])) w2 from ⟨HBL.out.trans (hb2.mono HBL.out.size), by
                rw [HLR.out, HEQ.out, hrn]
                dsimp only
                rw [HRL.out]
                rfl⟩)
              clear hb2 HRT
              go_wp2
              refine bodyPost_ret (results_tmp2 rfl _ _ _) rfl ?_
              exact HP.out
end Go.Proofs.YtbeeejpjnniejaaGreatDoor
