/- The keeper: SpoilTexts, SpoilBytes, IntactBytes, Ints (functions 65, 66, 48, 60). Both disks in one memory; what a call of one leaves of the other. -/
import Derived.Test.YtfeglchngekedaaJ10Rset
import Derived.Laws.BitsAllLaws
import Derived.Test.YtfeglchngekedaaJ17SimPost
import Derived.Test.YtfeglchngekedaaJ08Wakes
import Derived.Deep.RegionHeld3
namespace Go.Proofs.Ytfeglchngekedaa
open Go.RowKit Go.Shelf Go.Maps

def SpTR (w : World) (b : Nat) (v : Value) (n : Nat) (i : Value) (wr : World) : Prop :=
  ∃ (k : Nat) (xs : List Value), k ≤ n ∧ i = .int .i64 k ∧ wr.ownsRow b 9 1 v n xs ∧ Below b w wr
def SpTR2 (w : World) (b : Nat) (n : Nat) (v i : Value) (wr : World) : Prop :=
  ∃ (k : Nat) (u : Value) (xs : List Value), k ≤ 10 ∧ u = v ∧ i = .int .i64 k ∧ wr.ownsRow b 9 1 u (n + k) xs ∧ Below b w wr

set_option maxRecDepth 100000 in
set_option maxHeartbeats 1600000 in
theorem spoiltexts_any (v : Value) (n : Nat) (xs : List Value) (b : Nat) (w : World) (h : w.ownsRow b 9 1 v n xs) (hb : b ≤ w.heap.size) (hl : n ≤ 10000000) :
    Calls Try.prog 65 #[v] w fun e w' => e = .returned (.tuple #[]) ∧ Below b w w' := by
  obtain ⟨i0, hi, hz0, hz1, hz2⟩ := info_parts info9
  obtain ⟨A, c, rfl, hA⟩ : ∃ A c, v = .slice A n c ∧ (n ≠ 0 → ∃ g, A = some ⟨g, 0, none⟩) := by
    rcases h.2 with ⟨rfl, h0⟩ | ⟨g, cap, cur, rfl, _⟩
    · exact ⟨none, 0, by rw [h0], fun hn => absurd h0 hn⟩
    · exact ⟨_, _, rfl, fun _ => ⟨_, rfl⟩⟩
  have H := Lib.hid h
  have HA := Lib.hid hA
  have HI := Lib.hid hi
  have HZ0 := Lib.hid hz0
  have HZ1 := Lib.hid hz1
  have HZ2 := Lib.hid hz2
  clear h hi hz0 hz1 hz2 hA
  go_enter Try.func65, Try.ntmps65
  go_wp2_with fail
  go_loopw [2] (fun i wr => SpTR w b (.slice A n c) n i wr) (fun i _ => n - (intOf i).toNat)
  case atStart => exact ⟨0, xs, Nat.zero_le _, rfl, H.out, Below.refl _ _⟩
  case round =>
    obtain ⟨k, cs, hk, rfl, ho, hB⟩ := hrel
    have HO := Lib.hid ho
    have HB := Lib.hid hB
    clear ho hB
    by_cases hlt : k < n
    · obtain ⟨g, hg⟩ := HA.out (by omega)
      subst hg
      obtain ⟨u, hu⟩ : ∃ u, wr.cell? ⟨g, k, none⟩ = some u := ⟨cs[k]'(by have := HO.out.1; omega), by rw [HO.out.cellAt k (by omega)]; exact List.getElem?_eq_getElem _⟩
      have kg := HO.out.frozenAt k
      go_wp2
      have hs := HO.out.stored k (.string ⟨#[115, 112, 111, 105, 108, 116]⟩)
      have hg1 := HO.out.lt g rfl
      refine ⟨⟨k + 1, _, by omega, by go_num, hs.1, HB.out.setCell (p := ⟨g, k, none⟩) hg1.1 _⟩, by simp [intOf]; omega⟩
    · have hkl : k = n := by omega
      subst hkl
      clear H HA hlt
      go_wp2_with fail
      go_loopw [0, 3] (fun v i wr' => SpTR2 w b k v i wr') (fun _ i _ => 10 - (intOf i).toNat)
      case atStart => exact ⟨0, _, cs, Nat.zero_le _, rfl, rfl, HO.out, HB.out⟩
      case round =>
        obtain ⟨j, u, ds, hj, hu, rfl, ho, hB⟩ := hrel
        subst hu
        have HO2 := Lib.hid ho
        have HB2 := Lib.hid hB
        have hsz := hB.size
        clear ho hB HO HB
        by_cases hlt : j < 10
        · go_wp2_with (at_builtin; go_loud (refine wpList_append_own _ rfl (.tmp 17) (.tmp 18) 36 rfl b 9 i0 (.string ⟨#[]⟩) 1 16 Try.underlying36 HI.out HZ0.out HZ1.out HZ2.out rfl (by decide) u (k + j) ds rfl (HO2.out.alloc _) ⟨_, 0, none⟩ 1 1 [.string ⟨#[103, 114, 111, 119, 110]⟩] rfl rfl (cell_one_new _ _ _) (by simp [Value.oneCell']) (by simp only [maxLen]; omega) (by omega) (by simp; omega) ?_; intro v' w1 hown1 hgrow1 _; have HOW := Lib.hid hown1; have HGR := Lib.hid hgrow1; clear hown1 hgrow1))
          exact ⟨⟨j + 1, v', _, by omega, rfl, by go_num, HOW.out, (HB2.out.alloc (by omega) _).grown HGR.out (by simp; omega) (fun k hk => (HO2.out.lt k hk).1)⟩, by simp [intOf]; omega⟩
        · go_wp2
          go_end0
          exact ⟨rfl, HB2.out⟩

/-! ### bytes -/
def SpBR (w : World) (b : Nat) (v : Value) (n : Nat) (i : Value) (wr : World) : Prop :=
  ∃ (k : Nat) (bs : List UInt8), k ≤ n ∧ i = .int .i64 k ∧ bs.length = n ∧ wr.ownsRow b 5 1 v n (bytesV bs) ∧ Below b w wr
def SpBR2 (w : World) (b : Nat) (n : Nat) (v i : Value) (wr : World) : Prop :=
  ∃ (k : Nat) (u : Value) (bs : List UInt8), k ≤ 40 ∧ u = v ∧ i = .int .i64 k ∧ wr.ownsRow b 5 1 u (n + k) (bytesV bs) ∧ Below b w wr
theorem own_byte_at {w : World} {b g c n : Nat} {bs : List UInt8} (h : w.ownsRow b 5 1 (.slice (some ⟨g, 0, none⟩) n c) n (bytesV bs)) (k : Nat) (hk : k < bs.length) (hkn : k < n) :
    w.cell? ⟨g, k, none⟩ = some (.int .u8 (bs[k].toNat : Int)) := by
  rw [h.cellAt k (by omega), bytesV, List.getElem?_map, List.getElem?_eq_getElem hk]
  rfl

set_option maxRecDepth 100000 in
set_option maxHeartbeats 1600000 in
theorem spoilbytes_any (v : Value) (bs : List UInt8) (b : Nat) (w : World) (h : w.ownsRow b 5 1 v bs.length (bytesV bs)) (hb : b ≤ w.heap.size) (hl : bs.length ≤ 10000000) :
    Calls Try.prog 66 #[v] w fun e w' => e = .returned (.tuple #[]) ∧ Below b w w' := by
  obtain ⟨i0, hi, hz0, hz1, hz2⟩ := info_parts info5
  obtain ⟨N, hN⟩ : ∃ N, N = bs.length := ⟨_, rfl⟩
  obtain ⟨A, c, rfl, hA⟩ : ∃ A c, v = .slice A N c ∧ (N ≠ 0 → ∃ g, A = some ⟨g, 0, none⟩) := by
    rcases h.2 with ⟨rfl, h0⟩ | ⟨g, cap, cur, rfl, _⟩
    · exact ⟨none, 0, by rw [hN, h0], fun hn => absurd (hN.trans h0) hn⟩
    · exact ⟨_, _, by rw [hN], fun _ => ⟨_, rfl⟩⟩
  rw [← hN] at h
  have H := Lib.hid h
  have HN := Lib.hid hN
  have HA := Lib.hid hA
  have HI := Lib.hid hi
  have HZ0 := Lib.hid hz0
  have HZ1 := Lib.hid hz1
  have HZ2 := Lib.hid hz2
  have hN2 : N ≤ 10000000 := by omega
  clear h hi hz0 hz1 hz2 hN hA
  go_enter Try.func66, Try.ntmps66
  go_wp2_with fail
  go_loopw [2] (fun i wr => SpBR w b (.slice A N c) N i wr) (fun i _ => N - (intOf i).toNat)
  case atStart => exact ⟨0, bs, Nat.zero_le _, rfl, HN.out.symm, H.out, Below.refl _ _⟩
  case round =>
    obtain ⟨k, cs, hk, rfl, hcn, ho, hB⟩ := hrel
    have HO := Lib.hid ho
    have HB := Lib.hid hB
    have HCN := Lib.hid hcn
    by_cases hlt : k < N
    · obtain ⟨g, hg⟩ := HA.out (by omega)
      subst hg
      have q1 := own_byte_at ho k (by omega) hlt
      have kg := HO.out.frozenAt k
      obtain ⟨x, hxe⟩ : ∃ x, x = cs[k].toNat := ⟨_, rfl⟩
      have hx : x < 256 := by rw [hxe]; exact UInt8.toNat_lt _
      rw [← hxe] at q1
      have hxor := u8_xor_nat x 255 hx (by omega)
      rw [show ((255 : Nat) : Int) = 255 from rfl] at hxor
      have hxx : x ^^^ 255 < 256 := Nat.xor_lt_two_pow (n := 8) hx (by omega)
      clear hxe ho hB hcn
      go_wp2
      have hs := HO.out.stored k (.int .u8 ((x ^^^ 255 : Nat) : Int))
      have hg1 := HO.out.lt g rfl
      refine ⟨⟨k + 1, cs.set k (UInt8.ofNat (x ^^^ 255)), by omega, by go_num, by rw [List.length_set]; exact HCN.out, ?_, ?_⟩, by simp [intOf]; omega⟩
      · have e : bytesV (cs.set k (UInt8.ofNat (x ^^^ 255))) = (bytesV cs).set k (.int .u8 ((x ^^^ 255 : Nat) : Int)) := by
          unfold bytesV
          rw [List.map_set]
          congr 3
          rw [UInt8.toNat_ofNat']
          congr 1
          omega
        rw [e]; exact hs.1
      · exact HB.out.setCell (p := ⟨g, k, none⟩) hg1.1 _
    · have hkl : k = N := by omega
      subst hkl
      clear H HA hlt ho hB hcn
      go_wp2_with fail
      go_loopw [0, 3] (fun v i wr' => SpBR2 w b k v i wr') (fun _ i _ => 40 - (intOf i).toNat)
      case atStart => exact ⟨0, _, cs, Nat.zero_le _, rfl, rfl, HO.out, HB.out⟩
      case round =>
        obtain ⟨j, u, ds, hj, hu, rfl, ho, hB⟩ := hrel
        subst hu
        have HO2 := Lib.hid ho
        have HB2 := Lib.hid hB
        have hsz := hB.size
        clear ho hB HO HB HCN
        by_cases hlt : j < 40
        · go_wp2_with (at_builtin; go_loud (refine wpList_append_own _ rfl (.tmp 22) (.tmp 23) 22 rfl b 5 i0 (.int .u8 0) 1 1 Try.underlying22 HI.out HZ0.out HZ1.out HZ2.out rfl (by decide) u (k + j) (bytesV ds) rfl (HO2.out.alloc _) ⟨_, 0, none⟩ 1 1 [.int .u8 85] rfl rfl (cell_one_new _ _ _) (by simp [Value.oneCell']) (by simp only [maxLen]; omega) (by omega) (by simp; omega) ?_; intro v' w1 hown1 hgrow1 _; have HOW := Lib.hid hown1; have HGR := Lib.hid hgrow1; clear hown1 hgrow1))
          refine ⟨⟨j + 1, v', ds ++ [85], by omega, rfl, by go_num, ?_, (HB2.out.alloc (by omega) _).grown HGR.out (by simp; omega) (fun k hk => (HO2.out.lt k hk).1)⟩, by simp [intOf]; omega⟩
          have := HOW.out
          rw [show bytesV (ds ++ [85]) = bytesV ds ++ [.int .u8 85] by simp [bytesV]]
          exact this
        · go_wp2
          go_end0
          exact ⟨rfl, HB2.out⟩

/-! ### what was lent -/
def IntR (w : World) (g c n : Nat) (i : Value) (wr : World) : Prop :=
  ∃ (k b : Nat) (xs : List Value), k ≤ n ∧ i = .int .i64 k ∧ xs.length = n ∧ wr.ownsRow b 5 1 (.slice (some ⟨g, 0, none⟩) n c) n xs ∧ w.grownBy wr (some g)

set_option maxRecDepth 100000 in
set_option maxHeartbeats 1600000 in
theorem intact_any (w : World) (A : Option Addr) (cap g c lim B : Nat) (bs : List UInt8) (h : Reads w lim 1 A bs.length (bytesV bs)) (hL : w.ownsRow B 5 1 (.slice (some ⟨g, 0, none⟩) (bs.length + 4) c) (bs.length + 4) (bytesV (bs ++ markV))) (hl : bs.length ≤ 100000) :
    Calls Try.prog 48 #[.slice (some ⟨g, 0, none⟩) bs.length c, .slice A bs.length cap] w fun e w' => e = .returned (.bool true) ∧ w.grownBy w' (some g) := by
  have hcc : (bs.length : Int) + 4 ≤ (c : Int) := by have := own_capv hL; omega
  have hlen : (bs ++ markV).length = bs.length + 4 := by simp [markV]
  have j1 : (convert 22 9 (.slice (some ⟨g, 0, none⟩) (bs.length + 4) c)).run Try.prog w = .ok (.string ⟨(bs ++ markV).toArray⟩) w := run_str_reads c (Reads.of_own hL)
  have j2 : (convert 22 9 (.slice A bs.length cap)).run Try.prog w = .ok (.string ⟨bs.toArray⟩) w := run_str_reads cap h
  have HS : (⟨bs.toArray⟩ : ByteArray) ++ { data := #[201, 202, 203, 204] } = ⟨(bs ++ markV).toArray⟩ := by
    apply ByteArray.ext
    simp [markV]
  have hsz : (⟨bs.toArray⟩ : ByteArray).size + 4 ≤ 9223372036854775807 := by
    have : (⟨bs.toArray⟩ : ByteArray).size = bs.length := by simp [ByteArray.size]
    omega
  have HL := Lib.hid hL
  have HLN := Lib.hid hlen
  clear h hL hlen
  go_enter Try.func48, Try.ntmps48
  go_wp2_with fail
  go_loopw [7] (fun i wr => IntR w g c (bs.length + 4) i wr) (fun i _ => (bs.length + 4) - (intOf i).toNat)
  case atStart => exact ⟨0, B, bytesV (bs ++ markV), Nat.zero_le _, rfl, by rw [bytesV_length, HLN.out], HL.out, only_refl _ _⟩
  case round =>
    obtain ⟨k, b', cs, hk, rfl, hcn, ho, hb⟩ := hrel
    have HO := Lib.hid ho
    have HB := Lib.hid hb
    have HC := Lib.hid hcn
    clear ho hb hcn j1 j2 HS HL hsz
    by_cases hlt : k < bs.length + 4
    · obtain ⟨u, hu⟩ : ∃ u, wr.cell? ⟨g, k, none⟩ = some u := ⟨cs[k]'(by have := HC.out; omega), by rw [HO.out.cellAt k (by omega)]; exact List.getElem?_eq_getElem _⟩
      have kg := HO.out.frozenAt k
      go_wp2
      have hs := HO.out.stored k (.int .u8 85)
      refine ⟨⟨k + 1, b', _, by omega, by go_num, by rw [List.length_set]; exact HC.out, hs.1, only_setCell HB.out (p := ⟨g, k, none⟩) (.inl rfl) _⟩, by simp [intOf]; omega⟩
    · have hkl : k = bs.length + 4 := by omega
      go_wp2
      go_ret
      exact ⟨rfl, HB.out⟩

/-! ### numbers -/
def intsV (l : List Int) : List Value := l.map (Value.int .i64)
def InR (w : World) (n : Nat) (i : Value) (wr : World) : Prop := ∃ k q : Nat, k ≤ n ∧ i = .int .i64 k ∧ wr = w.drewN q
set_option maxRecDepth 100000 in
set_option maxHeartbeats 3200000 in
/-- two rows that hold the same -/
theorem ints_any (w : World) {B1 B2 c1 c2 : Nat} {A1 A2 : Option Addr} {l : List Int} (h1 : Reads w B1 1 A1 l.length (intsV l)) (h2 : Reads w B2 1 A2 l.length (intsV l)) (hn : l.length ≤ maxLen) :
    Calls Try.prog 60 #[.slice A1 l.length c1, .slice A2 l.length c2] w fun e w' => e = .returned (.bool true) ∧ ∃ q, w' = w.drewN q := by
  have hm : l.length ≤ 9223372036854775807 := Nat.le_trans hn (by simp [maxLen])
  have H1 := Lib.hid h1
  have H2 := Lib.hid h2
  clear h1 h2
  go_enter Try.func60, Try.ntmps60
  go_wp2_with fail
  go_loopw [5] (fun i wr => InR w l.length i wr) (fun i _ => l.length - (intOf i).toNat)
  case atStart => exact ⟨0, 0, Nat.zero_le _, rfl, rfl⟩
  case round =>
    obtain ⟨k, q, hk, rfl, rfl⟩ := hrel
    by_cases hlt : k < l.length
    · obtain ⟨ad1, u1, rfl, -, hu1, x1⟩ := H1.out.at_ hlt
      obtain ⟨ad2, u2, rfl, -, hu2, x2⟩ := H2.out.at_ hlt
      rw [intsV, List.getElem?_map, List.getElem?_eq_getElem hlt] at hu1 hu2
      injection hu1 with hu1
      injection hu2 with hu2
      subst hu1
      subst hu2
      generalize l[k] = y at *
      have y1' : (w.drewN q).cell? (ad1.add k) = some (.int .i64 y) := x1
      have y2' : (w.drewN q).cell? (ad2.add k) = some (.int .i64 y) := x2
      have hq : (y != y) = false := by simp
      go_upto_region 6 with fail
      go_quiet (fail)
      go_wp2
      exact ⟨⟨k + 1, _, by omega, by go_num, rfl⟩, by simp [intOf]; omega⟩
    · obtain rfl : k = l.length := by omega
      go_wp2
      go_ret
      exact ⟨rfl, _, rfl⟩
end Go.Proofs.Ytfeglchngekedaa
namespace Go.Proofs.Ytfeglchngekedaa
open Go.RowKit Go.Shelf Go.Maps

theorem RefAt.restrict {w : World} {F : Nat → Prop} {r : Nat} {s : RS} (h : RefAt w F r s) : RefAt w (fun k => F k ∧ k < w.heap.size) r s where
  blk := h.blk
  own := ⟨h.own, h.blk.lt⟩
  files := ⟨h.files.row, fun k hk => ⟨h.files.rowF k hk, (h.files.row.lt k hk).2⟩⟩
  dir := ⟨h.dir.row, fun k hk => ⟨h.dir.rowF k hk, (h.dir.row.lt k hk).2⟩⟩
  kept := ⟨h.kept.row, fun k hk => ⟨h.kept.rowF k hk, (h.kept.row.lt k hk).2⟩⟩
  pend := ⟨h.pend.row, fun k hk => ⟨h.pend.rowF k hk, (h.pend.row.lt k hk).2⟩⟩
  flts := ⟨h.flts.row, fun k hk => ⟨h.flts.rowF k hk, (h.flts.row.lt k hk).2⟩⟩
  bytes := fun x hx => by
    obtain ⟨⟨A, c, e, hc, hR, hA⟩, hk⟩ := h.bytes x hx
    exact ⟨⟨A, c, e, hc, hR, fun ad ea h0 => ⟨⟨(hA ad ea h0).1, (hA ad ea h0).2.lt⟩, (hA ad ea h0).2⟩⟩, hk⟩
  capB := h.capB

structure Pair (w : World) (M F G : Nat → Prop) (p r : Nat) (s : DS) (t : RS) : Prop where
  d : DiskAt w F p s
  r : RefAt w G r t
  fM : ∀ k, F k → M k ∧ k < w.heap.size
  gM : ∀ k, G k → M k ∧ k < w.heap.size
  dis : ∀ k, F k → ¬ G k
  new : ∀ k, w.heap.size ≤ k → M k
theorem Chg.more {F M : Nat → Prop} {w w' : World} (h : Chg F w w') (hF : ∀ k, F k → M k) : Chg M w w' := ⟨h.os, h.tape, h.output, h.size, fun k hk hn => h.block k hk (fun hf => hn (hF k hf))⟩
section
variable {w w' : World} {M F G : Nat → Prop} {p r : Nat} {s s' : DS} {t t' : RS}
theorem Pair.prog (h : Pair w M F G p r s t) (hd : DiskAt w' (Gr F w) p s') (hc : Chg F w w') : Pair w' M (fun k => Gr F w k ∧ k < w'.heap.size) G p r s' t ∧ Chg M w w' := by
  have hs := hc.size
  refine ⟨⟨hd.restrict, h.r.keep (fun k hk hlt => hc.block k hlt (fun hf => h.dis k hf hk)) hs (fun _ h => h), fun k hk => ⟨?_, hk.2⟩, fun k hk => ⟨(h.gM k hk).1, by have := (h.gM k hk).2; omega⟩, ?_, fun k hk => h.new k (by omega)⟩, hc.more fun k hk => (h.fM k hk).1⟩
  · rcases hk.1 with h1 | h1
    · exact (h.fM k h1).1
    · exact h.new k h1
  · rintro k ⟨h1 | h1, -⟩ hg
    · exact h.dis k h1 hg
    · have := (h.gM k hg).2; omega
theorem Pair.refd (h : Pair w M F G p r s t) (hd : RefAt w' (Gr G w) r t') (hc : Chg G w w') : Pair w' M F (fun k => Gr G w k ∧ k < w'.heap.size) p r s t' ∧ Chg M w w' := by
  have hs := hc.size
  refine ⟨⟨h.d.keep (fun k hk hlt => hc.block k hlt (fun hg => h.dis k hk hg)) (fun _ h => h), hd.restrict, fun k hk => ⟨(h.fM k hk).1, by have := (h.fM k hk).2; omega⟩, fun k hk => ⟨?_, hk.2⟩, ?_, fun k hk => h.new k (by omega)⟩, hc.more fun k hk => (h.gM k hk).1⟩
  · rcases hk.1 with h1 | h1
    · exact (h.gM k h1).1
    · exact h.new k h1
  · rintro k hf ⟨h1 | h1, -⟩
    · exact h.dis k hf h1
    · have := (h.fM k hf).2; omega
/-- blocks of neither disk turn -/
theorem Pair.far {Q : Nat → Prop} (h : Pair w M F G p r s t) (hc : Chg Q w w') (hq : ∀ k, Q k → M k ∧ ¬ F k ∧ ¬ G k) : Pair w' M F G p r s t ∧ Chg M w w' := by
  have hs := hc.size
  exact ⟨⟨h.d.keep (fun k hk hlt => hc.block k hlt (fun h1 => (hq k h1).2.1 hk)) (fun _ h => h), h.r.keep (fun k hk hlt => hc.block k hlt (fun h1 => (hq k h1).2.2 hk)) hs (fun _ h => h), fun k hk => ⟨(h.fM k hk).1, by have := (h.fM k hk).2; omega⟩, fun k hk => ⟨(h.gM k hk).1, by have := (h.gM k hk).2; omega⟩, h.dis, fun k hk => h.new k (by omega)⟩, hc.more fun k hk => (hq k hk).1⟩
theorem Pair.below (h : Pair w M F G p r s t) (hb : Below w.heap.size w w') : Pair w' M F G p r s t ∧ Chg M w w' :=
  h.far (Q := fun _ => False) ⟨hb.os, hb.tape, hb.output, hb.size, fun k hk _ => hb.block k hk⟩ (fun _ h => h.elim)
theorem Pair.drewN (h : Pair w M F G p r s t) (q : Nat) : Pair (w.drewN q) M F G p r s t := (h.below (w' := w.drewN q) (below_drewN (Below.refl _ w) q)).1
end

/-- both disks lie in memory and are alike -/
def Both (w : World) (M : Nat → Prop) (p r n : Nat) (x : PS) : Prop := ∃ F G s t φ, Pair w M F G p r s t ∧ Rel φ s x ∧ PB n x ∧ PC x ∧ t.pl = x
/-- the bounds that the calls of the program's disk ask -/
theorem Rel.opsB {φ : Nat → Nat} {s : DS} {x : PS} {n : Nat} (h : Rel φ s x) (hb : PB n x) (hn : n ≤ 10000) : s.ops ≤ 10000 ∧ s.flts.length ≤ 10000 := by
  have h1 := hb.count
  have h2 := hb.fltsL
  rw [h.ops, h.flts, List.length_map]
  omega
end Go.Proofs.Ytfeglchngekedaa
