/- SpoilBytes (function 66) once more: nothing but its own row turns. Printed from Spoils by gen_spoil2.py. same (function 29): all that both disks tell is alike. does (function 27): Crash. -/
import Derived.Test.YtfeglchngekedaaJ16Rcrash
import Derived.Test.YtfeglchngekedaaJ18Spoils
import Derived.Test.YtfeglchngekedaaJ20Tell
namespace Go.Proofs.Ytfeglchngekedaa
open Go.RowKit Go.Shelf Go.Maps

def SpBG (w : World) (b : Nat) (v : Value) (n : Nat) (i : Value) (wr : World) : Prop :=
  ∃ (k : Nat) (bs : List UInt8), k ≤ n ∧ i = .int .i64 k ∧ bs.length = n ∧ wr.ownsRow b 5 1 v n (bytesV bs) ∧ w.grownBy wr v.ownBlock
def SpBG2 (w : World) (b : Nat) (n : Nat) (row : Option Nat) (v i : Value) (wr : World) : Prop :=
  ∃ (k : Nat) (u : Value) (bs : List UInt8), k ≤ 40 ∧ u = v ∧ i = .int .i64 k ∧ wr.ownsRow b 5 1 u (n + k) (bytesV bs) ∧ w.grownBy wr row ∧ (u.ownBlock = row ∨ ∀ g, u.ownBlock = some g → w.heap.size ≤ g)
theorem grown_two {a b c : World} {row row2 : Option Nat} (h1 : a.grownBy b row) (h2 : b.grownBy c row2) (hr : row2 = row ∨ ∀ g, row2 = some g → a.heap.size ≤ g) : a.grownBy c row where
  os := h2.os.trans h1.os
  tape := h2.tape.trans h1.tape
  output := h2.output.trans h1.output
  size := Nat.le_trans h1.size h2.size
  block := fun k hk hn => by
    refine (h2.block k (Nat.lt_of_lt_of_le hk h1.size) ?_).trans (h1.block k hk hn)
    rcases hr with e | e
    · rw [e]; exact hn
    · intro e2
      exact absurd (e k e2.symm) (by omega)
theorem loc_two {a : Nat} {c : Nat} {row row2 row3 : Option Nat} (h1 : row2 = row ∨ ∀ g, row2 = some g → a ≤ g) (h2 : row3 = row2 ∨ row3 = some c) (hc : a ≤ c) : row3 = row ∨ ∀ g, row3 = some g → a ≤ g := by
  rcases h2 with e | e
  · rw [e]; exact h1
  · refine .inr fun g hg => ?_
    rw [e] at hg
    injection hg with hg
    omega

set_option maxRecDepth 100000 in
set_option maxHeartbeats 1600000 in
theorem spoilbytes2_any (v : Value) (bs : List UInt8) (b : Nat) (w : World) (h : w.ownsRow b 5 1 v bs.length (bytesV bs)) (hb : b ≤ w.heap.size) (hl : bs.length ≤ 10000000) :
    Calls Try.prog 66 #[v] w fun e w' => e = .returned (.tuple #[]) ∧ w.grownBy w' v.ownBlock := by
  obtain ⟨i0, hi, hz0, hz1, hz2⟩ := info_parts info5
  obtain ⟨N, hN⟩ : ∃ N, N = bs.length := ⟨_, rfl⟩
  obtain ⟨A, c, rfl, hA⟩ : ∃ A c, v = .slice A N c ∧ (N ≠ 0 → ∃ g, A = some ⟨g, 0, none⟩) := by
    rcases h.2 with ⟨rfl, h0⟩ | ⟨g, cap, cur, rfl, _⟩
    · exact ⟨none, 0, by rw [hN, h0], fun hn => absurd (hN.trans h0) hn⟩
    · exact ⟨_, _, by rw [hN], fun _ => ⟨_, rfl⟩⟩
  rw [← hN] at h
  have H := Lib.hid h
  have HN := Lib.hid hN
  have HA := Lib.hid hA
  have HI := Lib.hid hi
  have HZ0 := Lib.hid hz0
  have HZ1 := Lib.hid hz1
  have HZ2 := Lib.hid hz2
  have hN2 : N ≤ 10000000 := by omega
  clear h hi hz0 hz1 hz2 hN hA
  go_enter Try.func66, Try.ntmps66
  go_wp2_with fail
  go_loopw [2] (fun i wr => SpBG w b (.slice A N c) N i wr) (fun i _ => N - (intOf i).toNat)
  case atStart => exact ⟨0, bs, Nat.zero_le _, rfl, HN.out.symm, H.out, only_refl _ _⟩
  case round =>
    obtain ⟨k, cs, hk, rfl, hcn, ho, hB⟩ := hrel
    have HO := Lib.hid ho
    have HB := Lib.hid hB
    have HCN := Lib.hid hcn
    by_cases hlt : k < N
    · obtain ⟨g, hg⟩ := HA.out (by omega)
      subst hg
      have q1 := own_byte_at ho k (by omega) hlt
      have kg := HO.out.frozenAt k
      obtain ⟨x, hxe⟩ : ∃ x, x = cs[k].toNat := ⟨_, rfl⟩
      have hx : x < 256 := by rw [hxe]; exact UInt8.toNat_lt _
      rw [← hxe] at q1
      have hxor := u8_xor_nat x 255 hx (by omega)
      rw [show ((255 : Nat) : Int) = 255 from rfl] at hxor
      have hxx : x ^^^ 255 < 256 := Nat.xor_lt_two_pow (n := 8) hx (by omega)
      clear hxe ho hB hcn
      go_wp2
      have hs := HO.out.stored k (.int .u8 ((x ^^^ 255 : Nat) : Int))
      have hg1 := HO.out.lt g rfl
      refine ⟨⟨k + 1, cs.set k (UInt8.ofNat (x ^^^ 255)), by omega, by go_num, by rw [List.length_set]; exact HCN.out, ?_, ?_⟩, by simp [intOf]; omega⟩
      · have e : bytesV (cs.set k (UInt8.ofNat (x ^^^ 255))) = (bytesV cs).set k (.int .u8 ((x ^^^ 255 : Nat) : Int)) := by
          unfold bytesV
          rw [List.map_set]
          congr 3
          rw [UInt8.toNat_ofNat']
          congr 1
          omega
        rw [e]; exact hs.1
      · exact only_setCell HB.out (p := ⟨g, k, none⟩) (.inl rfl) _
    · have hkl : k = N := by omega
      subst hkl
      clear H HA hlt ho hB hcn
      go_wp2_with fail
      go_loopw [0, 3] (fun v i wr' => SpBG2 w b k (Value.slice A k c).ownBlock v i wr') (fun _ i _ => 40 - (intOf i).toNat)
      case atStart => exact ⟨0, _, cs, Nat.zero_le _, rfl, rfl, HO.out, HB.out, .inl rfl⟩
      case round =>
        obtain ⟨j, u, ds, hj, hu, rfl, ho, hB, hloc⟩ := hrel
        subst hu
        have HLOC := Lib.hid hloc
        clear hloc
        have HO2 := Lib.hid ho
        have HB2 := Lib.hid hB
        have hsz := hB.size
        clear ho hB HO HB HCN
        by_cases hlt : j < 40
        · go_wp2_with (at_builtin; go_loud (refine wpList_append_any _ rfl (.tmp 22) (.tmp 23) 22 rfl b 5 i0 (.int .u8 0) 1 1 Try.underlying22 HI.out HZ0.out HZ1.out HZ2.out rfl (by decide) u (k + j) (bytesV ds) rfl (HO2.out.alloc _) _ _ 1 1 [.int .u8 85] rfl (reads_new1 _ 5 _) (by simp [Value.oneCell']) (by simp only [maxLen]; omega) (by omega) (by simp; omega) ?_; intro v' w1 hown1 hgrow1 hlo1; have HLO := Lib.hid hlo1; clear hlo1; have HOW := Lib.hid hown1; have HGR := Lib.hid hgrow1; clear hown1 hgrow1))
          refine ⟨⟨j + 1, v', ds ++ [85], by omega, rfl, by go_num, ?_, grown_two (only_alloc HB2.out _) HGR.out HLOC.out, loc_two HLOC.out HLO.out (by simp; omega)⟩, by simp [intOf]; omega⟩
          have := HOW.out
          rw [show bytesV (ds ++ [85]) = bytesV ds ++ [.int .u8 85] by simp [bytesV]]
          exact this
        · go_wp2
          go_end0
          exact ⟨rfl, HB2.out⟩
end Go.Proofs.Ytfeglchngekedaa
namespace Go.Proofs.Ytfeglchngekedaa
open Go.RowKit Go.Shelf Go.Maps

def nmBA (l : Nm) : ByteArray := ⟨l.toArray⟩
theorem encs_texts (L : List Nm) : L.map encStr = (L.map nmBA).map Value.string := by rw [List.map_map]; rfl
/-- Texts of two rows that hold the same -/
theorem texts_same (w : World) {B1 B2 N c1 c2 : Nat} {A1 A2 : Option Addr} (L : List Nm) (h1 : Reads w B1 1 A1 N (L.map encStr)) (h2 : Reads w B2 1 A2 N (L.map encStr)) (hn : N ≤ maxLen) :
    Calls Try.prog 30 #[.slice A1 N c1, .slice A2 N c2] w fun e w' => e = .returned (.bool true) ∧ Below w.heap.size w w' := by
  rw [encs_texts] at h1 h2
  refine (texts_any w h1 h2 hn).mono ?_
  rintro e w' ⟨⟨b, rfl, hb⟩, q, rfl⟩
  exact ⟨by rw [hb.2 rfl], below_drewN (Below.refl _ w) q⟩

/-- the cells that are looked up -/
structure See (w : World) (pb p r c : Nat) : Prop where
  a : w.cell? ⟨pb, 0, none⟩ = some (.pointer (some ⟨p, 0, none⟩))
  b : w.cell? ⟨pb, 1, none⟩ = some (.pointer (some ⟨r, 0, none⟩))
  c : w.cell? ⟨r, 7, none⟩ = some (.int .i64 (c : Int))
  pl : pb < w.heap.size
  rl : r < w.heap.size
theorem See.below {w w' : World} {pb p r c : Nat} (h : See w pb p r c) (hb : Below w.heap.size w w') : See w' pb p r c where
  a := (hb.cell h.pl).trans h.a
  b := (hb.cell h.pl).trans h.b
  c := (hb.cell h.rl).trans h.c
  pl := Nat.lt_of_lt_of_le h.pl hb.size
  rl := Nat.lt_of_lt_of_le h.rl hb.size
theorem Both.see {w : World} {M : Nat → Prop} {pb p r n : Nat} {x : PS} (h : Both w M p r n x) (hp : PairAt w M pb p r) : See w pb p r x.count := by
  obtain ⟨F, G, s, t, φ, hpr, -, -, -, rfl⟩ := h
  exact ⟨hp.blk.cell 0, hp.blk.cell 1, hpr.r.blk.cell 7, hp.blk.lt, hpr.r.blk.lt⟩
theorem list_len_le (x : PS) (pre : Nm) : (x.list pre).length ≤ x.dir.length := by
  unfold PS.list begN
  rw [List.length_mergeSort]
  refine Nat.le_trans (List.length_filter_le ..) ?_
  rw [List.length_map]
  exact Nat.le_refl _
theorem list_mem {x : PS} {pre nm : Nm} (h : nm ∈ x.list pre) : ∃ e ∈ x.dir, e.1 = nm := by
  unfold PS.list begN at h
  have h1 := (List.mem_filter.1 ((List.mergeSort_perm ..).subset h)).1
  obtain ⟨e, he, e1⟩ := List.mem_map.1 h1
  exact ⟨e, he, e1⟩
theorem PB.listB {n : Nat} {x : PS} (h : PB n x) (pre : Nm) : (x.list pre).length ≤ n ∧ (∀ nm ∈ x.list pre, nm.length ≤ 64) ∧ x.durable.length ≤ n := by
  refine ⟨Nat.le_trans (list_len_le x pre) h.dirL, fun nm hm => ?_, ?_⟩
  · obtain ⟨e, he, rfl⟩ := list_mem hm
    exact h.dirN e he
  · unfold PS.durable
    rw [List.length_mergeSort, List.length_map]
    exact h.keptL
theorem PB.readB {n : Nat} {x : PS} (h : PB n x) (nm : ByteArray) : (x.read nm).1.length ≤ 1000 * n := by
  unfold PS.read
  split
  · split
    · rename_i f _
      show (match x.files[f]? with | some y => y.1 | none => ([] : List UInt8)).length ≤ _
      split
      · rename_i y hy
        exact (h.bytesL y (List.mem_of_getElem? hy)).1
      · exact Nat.zero_le _
    · exact Nat.zero_le _
  · exact Nat.zero_le _
theorem Both.pb {w : World} {M : Nat → Prop} {p r n : Nat} {x : PS} (h : Both w M p r n x) : PB n x := by
  obtain ⟨F, G, s, t, φ, hpr, -, h1, -, -⟩ := h
  exact h1

theorem below_of_drew {B : Nat} {w w' : World} (h : Below B w.drew w') : Below B w w' := ⟨h.os, h.tape, h.output, h.size, h.block⟩
def SamePost (w : World) (M : Nat → Prop) (p r n : Nat) (x : PS) (e : Ending) (w' : World) : Prop := e = .returned (.bool true) ∧ Both w' M p r n x ∧ Below w.heap.size w w'
def SmR (w5 : World) (N : Nat) (i : Value) (wr : World) : Prop := ∃ k : Nat, k ≤ N ∧ i = .int .i64 k ∧ Below w5.heap.size w5 wr

set_option maxRecDepth 100000 in
set_option maxHeartbeats 25600000 in
theorem same_any (w : World) (M : Nat → Prop) (pb p r n : Nat) (x : PS) (h : Both w M p r n x) (hpa : PairAt w M pb p r) (hn : n ≤ 10000) : Calls Try.prog 29 #[.pointer (some ⟨pb, 0, none⟩)] w (SamePost w M p r n x) := by
  have hsee := h.see hpa
  have HH := Lib.hid h
  have HSEE := Lib.hid hsee
  have a0 := hsee.a
  obtain ⟨L, hL⟩ : ∃ L, L = x.list [] := ⟨_, rfl⟩
  obtain ⟨D, hD⟩ : ∃ D, D = x.durable := ⟨_, rfl⟩
  obtain ⟨hb1, hb2, hb3⟩ := h.pb.listB []
  rw [← hL] at hb1 hb2
  rw [← hD] at hb3
  have hLm : L.length ≤ maxLen := Nat.le_trans hb1 (Nat.le_trans hn (by simp [maxLen]))
  have hDm : D.length ≤ maxLen := Nat.le_trans hb3 (Nat.le_trans hn (by simp [maxLen]))
  have HLM := Lib.hid hLm
  have HDM := Lib.hid hDm
  have HL64 := Lib.hid hb2
  have tl : ∀ w', Both w' M p r n x → Calls Try.prog 25 #[.pointer (some ⟨p, 0, none⟩), .string ⟨#[]⟩] w' (NamesPost w' L) := fun w' hB => by rw [hL]; exact tell_list w' M p r n x ⟨#[]⟩ hB hn
  have trl : ∀ w', Both w' M p r n x → Calls Try.prog 63 #[.pointer (some ⟨r, 0, none⟩), .string ⟨#[]⟩] w' (NamesPost w' L) := fun w' hB => by rw [hL]; exact tell_rlist w' M p r n x ⟨#[]⟩ hB hn (by decide)
  have td : ∀ w', Both w' M p r n x → Calls Try.prog 31 #[.pointer (some ⟨p, 0, none⟩)] w' (NamesPost w' D) := fun w' hB => by rw [hD]; exact tell_durable w' M p r n x hB hn
  have trd : ∀ w', Both w' M p r n x → Calls Try.prog 64 #[.pointer (some ⟨r, 0, none⟩)] w' (NamesPost w' D) := fun w' hB => by rw [hD]; exact tell_rdurable w' M p r n x hB hn
  have TL := Lib.hid tl
  have TRL := Lib.hid trl
  have TD := Lib.hid td
  have TRD := Lib.hid trd
  clear h hpa hsee hL hD hb2 hLm hDm tl trl td trd
  go_enter Try.func29, Try.ntmps29
  go_wp2_with fail
  refine (TL.out w HH.out).mono ?_
  rintro e w1 ⟨v1, rfl, ho1, hB1⟩
  obtain ⟨A1, c1, rfl⟩ := own_slice ho1
  have hs1 := hB1.size
  have HO1 := Lib.hid ho1
  have HB1 := Lib.hid hB1
  have HH1 := Lib.hid (HH.out.below hB1)
  have hse1 := HSEE.out.below hB1
  have HSE1 := Lib.hid hse1
  have b0 := hse1.a
  have b1 := hse1.b
  have b7 := hse1.c
  clear ho1 hB1 hse1
  go_upto_region 2 with fail
  clear a0
  go_region_held3 (fun w' => w'.cell? ⟨pb, 0, none⟩ = some (.pointer (some ⟨p, 0, none⟩)) ∧ w'.cell? ⟨pb, 1, none⟩ = some (.pointer (some ⟨r, 0, none⟩)) ∧ w'.cell? ⟨r, 7, none⟩ = some (.int .i64 (x.count : Int)))
    (first | exact ⟨b0, b1, b7⟩ | exact ⟨c0, c1', c7⟩ | exact ⟨d0, d1, d7⟩ | exact ⟨e0, e1, e7⟩ | exact ⟨f0, f1, f7⟩ | exact ⟨g0, g1, g7⟩ | exact ⟨h0, h1, h7⟩ | exact ⟨i0, i1, i7⟩)
    ((first
      | (go_at_call 63; refine (TRL.out w1.drew (HH1.out.drewN 1)).mono ?_; rintro e w2 ⟨v2, rfl, ho2, hB2⟩; obtain ⟨A2, c2, rfl⟩ := own_slice ho2; have hse2 := HSE1.out.below (show Below w1.heap.size w1 w2 from (below_of_drew hB2)); have c0 := hse2.a; have c1' := hse2.b; have c7 := hse2.c; have HO2 := Lib.hid ho2; have HB2 := Lib.hid (show Below w1.heap.size w1 w2 from (below_of_drew hB2)); have HSE2 := Lib.hid hse2; clear ho2 hB2 hse2)
      | (go_at_call 31; refine (TD.out w3 HH3.out).mono ?_; rintro e w4 ⟨v4, rfl, ho4, hB4⟩; obtain ⟨A4, c4, rfl⟩ := own_slice ho4; have hse4 := HSE3.out.below hB4; have e0 := hse4.a; have e1 := hse4.b; have e7 := hse4.c; have HO4 := Lib.hid ho4; have HB4 := Lib.hid (HB3.out.trans (hB4.mono HB3.out.size)); have HSE4 := Lib.hid hse4; have HH4 := Lib.hid (HH1.out.below HB4.out); clear ho4 hB4 hse4)
      | (go_at_call 64; refine (TRD.out w4 HH4.out).mono ?_; rintro e w5 ⟨v5, rfl, ho5, hB5⟩; obtain ⟨A5, c5, rfl⟩ := own_slice ho5; have hse5 := HSE4.out.below hB5; have f0 := hse5.a; have f1 := hse5.b; have f7 := hse5.c; have HO5 := Lib.hid ho5; have HR5 := Lib.hid ((Reads.of_own HO4.out).below hB5); have HB5 := Lib.hid (HB4.out.trans (hB5.mono HB4.out.size)); have HSE5 := Lib.hid hse5; clear ho5 hB5 hse5)
      | (go_at_call 30; refine (texts_same w5 D HR5.out (Reads.of_own HO5.out) HDM.out).mono ?_; rintro e w6 ⟨rfl, hB6⟩; have hse6 := HSE5.out.below hB6; have g0 := hse6.a; have g1 := hse6.b; have g7 := hse6.c; have HB6 := Lib.hid (HB5.out.trans (hB6.mono HB5.out.size)); have HSE6 := Lib.hid hse6; have HH6 := Lib.hid (HH1.out.below HB6.out); clear hB6 hse6)
      | (go_at_call 30; refine (texts_same w2 L ((Reads.of_own HO1.out).below HB2.out) (Reads.of_own HO2.out) HLM.out).mono ?_; rintro e w3 ⟨rfl, hB3⟩; have hse3 := HSE2.out.below hB3; have d0 := hse3.a; have d1 := hse3.b; have d7 := hse3.c; have HB3 := Lib.hid (HB2.out.trans (hB3.mono HB2.out.size)); have HSE3 := Lib.hid hse3; have HH3 := Lib.hid (HH1.out.below HB3.out); clear hB3 hse3)
      | (go_at_call 26; refine (tell_used w6 M p r n x HH6.out hn).mono ?_; rintro e w7 ⟨rfl, hB7⟩; have hse7 := HSE6.out.below hB7; have h0 := hse7.a; have h1 := hse7.b; have h7 := hse7.c; have HB7 := Lib.hid (HB6.out.trans (hB7.mono HB6.out.size)); have HSE7 := Lib.hid hse7; have HH7 := Lib.hid (HH1.out.below HB7.out); clear hB7 hse7)
      | (go_at_call 45; refine (tell_rused w7 M p r n x HH7.out hn).mono ?_; rintro e w8 ⟨rfl, q8, hq8⟩; have hB8 : Below w7.heap.size w7 w8 := hq8 ▸ below_drewN (Below.refl _ w7) q8; have hse8 := HSE7.out.below hB8; have i0 := hse8.a; have i1 := hse8.b; have i7 := hse8.c; have HB8 := Lib.hid (HB7.out.trans (hB8.mono HB7.out.size)); have HSE8 := Lib.hid hse8; have HH8 := Lib.hid (HH1.out.below HB8.out); clear hB8 hse8 hq8)
      | (go_at_call 28; refine (tell_ops w8 M p r n x HH8.out).mono ?_; rintro e w9 ⟨rfl, hw9⟩; replace hw9 := hw9.symm; subst hw9)))
  all_goals
    clear b0 b1 b7 c0 c1' c7 d0 d1 d7 e0 e1 e7 f0 f1 f7 g0 g1 g7 h0 h1 h7
    have hs8 := HB8.out.size
    go_wp2_with fail
    refine (spoiltexts_any _ L.length _ w.heap.size w8 (own_keep HO1.out (fun k hk hlt => HB8.out.block k hlt)) (by omega) (by omega)).mono ?_
    rintro e w9 ⟨rfl, hB9⟩
    have hw9 : Below w.heap.size w w9 := (HB1.out.trans (HB8.out.mono hs1)).trans hB9
    have hse9 := HSEE.out.below hw9
    have k0 := hse9.a
    have k1 := hse9.b
    have HW9 := Lib.hid hw9
    have HH9 := Lib.hid (HH.out.below hw9)
    have HSE9 := Lib.hid hse9
    have hs9 := hw9.size
    clear hB9 hw9 hse9 i0 i1 i7
    go_wp2_with fail
    refine (TRL.out w9 HH9.out).mono ?_
    rintro e w10 ⟨v10, rfl, ho10, hB10⟩
    obtain ⟨A10, c10, rfl⟩ := own_slice ho10
    have hs10 := hB10.size
    have HO10 := Lib.hid ho10
    have HB10 := Lib.hid hB10
    have HH10 := Lib.hid (HH9.out.below hB10)
    have HSE10 := Lib.hid (HSE9.out.below hB10)
    have hlen : L.length ≤ 9223372036854775807 := by omega
    clear ho10 hB10 k0 k1
    go_wp2_with fail
    go_loopw [5] (fun i wr => SmR w10 L.length i wr) (fun i _ => L.length - (intOf i).toNat)
    case atStart => exact ⟨0, Nat.zero_le _, rfl, Below.refl _ _⟩
    case round =>
      obtain ⟨k, hk, rfl, hb⟩ := hrel
      have hsr := hb.size
      have hser := HSE10.out.below hb
      have r0 := hser.a
      have r1 := hser.b
      have HSER := Lib.hid hser
      have HHR := Lib.hid (HH10.out.below hb)
      have HB := Lib.hid hb
      clear hb hser
      by_cases hlt : k < L.length
      · obtain ⟨g, hg⟩ : ∃ g, A10 = some ⟨g, 0, none⟩ := by
          obtain ⟨g, cap, hv, -, -⟩ := HO10.out.form (by omega)
          injection hv with hv
          exact ⟨g, hv⟩
        subst hg
        obtain ⟨nm, hnm⟩ : ∃ nm, nm = nmBA L[k] := ⟨_, rfl⟩
        have hgl := (HO10.out.lt g rfl).2
        have hname : w10.cell? ⟨g, k, none⟩ = some (.string nm) := by rw [HO10.out.cellAt k (by omega), List.getElem?_map, List.getElem?_eq_getElem hlt, hnm]; rfl
        have HNAME := Lib.hid hname
        have z0 : wr.cell? ⟨g, k, none⟩ = some (.string nm) := (HB.out.cell hgl).trans hname
        clear hname
        have hnml : nm.size ≤ maxLen := by
          have h64 := HL64.out L[k] (List.getElem_mem hlt)
          have e : nm.size = L[k].length := by rw [hnm]; show L[k].toArray.size = _; simp
          rw [e]
          exact Nat.le_trans h64 (by simp [maxLen])
        obtain ⟨bs, cd, hrd⟩ : ∃ bs cd, x.read nm = (bs, cd) := ⟨_, _, rfl⟩
        have hbs : bs.length ≤ 1000 * n := by have := HH.out.pb.readB nm; rw [hrd] at this; exact this
        have tr : ∀ w', Both w' M p r n x → Calls Try.prog 14 #[.pointer (some ⟨p, 0, none⟩), .string nm] w' (fun e w'' => ∃ v, e = .returned (.tuple #[v, .int .i64 cd]) ∧ w''.ownsRow w'.heap.size 5 1 v bs.length (bytesV bs) ∧ Below w'.heap.size w' w'') := fun w' hB => by
          have := tell_read w' M p r n x nm hB hn hnml
          rw [hrd] at this
          exact this
        have trr : ∀ w', Both w' M p r n x → Calls Try.prog 62 #[.pointer (some ⟨r, 0, none⟩), .string nm] w' (fun e w'' => ∃ v, e = .returned (.tuple #[v, .int .i64 cd]) ∧ w''.ownsRow w'.heap.size 5 1 v bs.length (bytesV bs) ∧ Below w'.heap.size w' w'') := fun w' hB => by
          have := tell_rread w' M p r n x nm hB hn hnml
          rw [hrd] at this
          exact this
        have TR := Lib.hid tr
        have TRR := Lib.hid trr
        clear hnm hrd tr trr
        have hq1 : (cd != cd) = false := by simp
        have hq2 : ((⟨bs.toArray⟩ : ByteArray).toList != (⟨bs.toArray⟩ : ByteArray).toList) = false := by simp
        have hq3 : ((⟨bs.toArray⟩ : ByteArray).toList == (⟨bs.toArray⟩ : ByteArray).toList) = true := beq_self_eq_true _
        go_upto_region 9 with fail
        go_region_held3 (fun w' => w'.cell? ⟨pb, 0, none⟩ = some (.pointer (some ⟨p, 0, none⟩)) ∧ w'.cell? ⟨g, k, none⟩ = some (.string nm))
          (first | exact ⟨r0, z0⟩ | exact ⟨s0, z1⟩)
          ((go_at_call 14; refine (TR.out wr.drew (HHR.out.drewN 1)).mono ?_; rintro e wa ⟨va, rfl, hoa, hBa⟩; obtain ⟨Aa, ca, rfl⟩ := own_slice hoa; have hBa := (show Below wr.heap.size wr wa from (below_of_drew hBa)); have hsea := HSER.out.below hBa; have s0 := hsea.a; have s1 := hsea.b; have z1 := (hBa.cell (show (⟨g, k, none⟩ : Addr).block < wr.heap.size from by show g < _; omega)).trans z0; have HOA := Lib.hid (show wa.ownsRow wr.heap.size 5 1 _ _ _ from hoa); have HBA := Lib.hid hBa; have HSEA := Lib.hid hsea; have HHA := Lib.hid (HHR.out.below hBa); have hsa := hBa.size; clear hoa hBa hsea))
        all_goals
          clear r0 r1 z0
          go_upto_region 10 with fail
          go_region_held3 (fun w' => w'.cell? ⟨pb, 1, none⟩ = some (.pointer (some ⟨r, 0, none⟩)) ∧ w'.cell? ⟨g, k, none⟩ = some (.string nm))
            (first | exact ⟨s1, z1⟩ | exact ⟨t1, z2⟩)
            ((go_at_call 62; refine (TRR.out wa.drew (HHA.out.drewN 1)).mono ?_; rintro e wb ⟨vb, rfl, hob, hBb⟩; obtain ⟨Ab, cb, rfl⟩ := own_slice hob; have hBb := (show Below wa.heap.size wa wb from (below_of_drew hBb)); have hseb := HSEA.out.below hBb; have t0 := hseb.a; have t1 := hseb.b; have z2 := (hBb.cell (show (⟨g, k, none⟩ : Addr).block < wa.heap.size from by show g < _; omega)).trans z1; have HOB := Lib.hid (show wb.ownsRow wa.heap.size 5 1 _ _ _ from hob); have HBB := Lib.hid hBb; have HSEB := Lib.hid hseb; have hsb := hBb.size; clear hob hBb hseb))
          all_goals
            clear s0 s1 z1
            have j1 : (convert 22 9 (.slice Aa bs.length ca)).run Try.prog wb = .ok (.string ⟨bs.toArray⟩) wb := run_str_reads ca ((Reads.of_own HOA.out).below HBB.out)
            have j2 : (convert 22 9 (.slice Ab bs.length cb)).run Try.prog wb = .ok (.string ⟨bs.toArray⟩) wb := run_str_reads cb (Reads.of_own HOB.out)
            go_wp2_with fail
            have howa : wb.ownsRow wr.heap.size 5 1 (.slice Aa bs.length ca) bs.length (bytesV bs) := own_keep HOA.out (fun k hk hlt => HBB.out.block k hlt)
            refine (spoilbytes2_any _ bs wr.heap.size wb howa (by omega) (by omega)).mono ?_
            rintro e wc ⟨rfl, hgc⟩
            have hbc : Below wr.heap.size wr wc := (HBA.out.trans (HBB.out.mono hsa)).grown hgc (by omega) (fun k hk => (howa.lt k hk).1)
            have hobc : wc.ownsRow wa.heap.size 5 1 (.slice Ab bs.length cb) bs.length (bytesV bs) := own_keep HOB.out (fun k hk hlt => hgc.block k hlt (fun e => by
              have h1 := (HOB.out.lt k hk).1
              have h2 := (HOA.out.lt k e.symm).2
              omega))
            have hsec := HSER.out.below hbc
            have u0 := hsec.a
            have z3 := (hbc.cell (show (⟨g, k, none⟩ : Addr).block < wr.heap.size from by show g < _; omega)).trans ((HB.out.cell hgl).trans (HNAME.out))
            have HOBC := Lib.hid hobc
            have HBC := Lib.hid hbc
            have HHC := Lib.hid (HHR.out.below hbc)
            have hsc := hbc.size
            clear hgc hbc hobc hsec howa j1 j2 t0 t1 z2
            go_upto_region 14 with fail
            go_region_held3 (fun w' => w'.cell? ⟨pb, 0, none⟩ = some (.pointer (some ⟨p, 0, none⟩)) ∧ w'.cell? ⟨g, k, none⟩ = some (.string nm))
              (first | exact ⟨u0, z3⟩ | exact ⟨y0, z4⟩)
              ((go_at_call 14; refine (TR.out wc.drew (HHC.out.drewN 1)).mono ?_; rintro e wd ⟨vd, rfl, hod, hBd⟩; obtain ⟨Ad, cd2, rfl⟩ := own_slice hod; have hBd := (show Below wc.heap.size wc wd from (below_of_drew hBd)); have y0 := (hBd.cell (show (⟨pb, 0, none⟩ : Addr).block < wc.heap.size from by have := HSER.out.pl; show pb < _; omega)).trans u0; have z4 := (hBd.cell (show (⟨g, k, none⟩ : Addr).block < wc.heap.size from by show g < _; omega)).trans z3; have HOD := Lib.hid (show wd.ownsRow wc.heap.size 5 1 _ _ _ from hod); have HBD := Lib.hid hBd; clear hod hBd))
            all_goals
              have j1 : (convert 22 9 (.slice Ad bs.length cd2)).run Try.prog wd = .ok (.string ⟨bs.toArray⟩) wd := run_str_reads cd2 (Reads.of_own HOD.out)
              have j2 : (convert 22 9 (.slice Ab bs.length cb)).run Try.prog wd = .ok (.string ⟨bs.toArray⟩) wd := run_str_reads cb ((Reads.of_own HOBC.out).below HBD.out)
              clear y0 z4 u0 z3
              go_wp2
              exact ⟨⟨k + 1, by omega, by go_num, HB.out.trans ((HBC.out.trans (HBD.out.mono hsc)).mono hsr)⟩, by simp [intOf]; omega⟩
      · obtain rfl : k = L.length := by omega
        clear hlt
        go_wp2_with fail
        refine (TL.out wr HHR.out).mono ?_
        rintro e we ⟨ve, rfl, hoe, hBe⟩
        obtain ⟨Ae, ce, rfl⟩ := own_slice hoe
        have HOE := Lib.hid hoe
        have HBE := Lib.hid hBe
        clear hoe hBe
        go_wp2_with fail
        refine (texts_same we L (Reads.of_own HOE.out) (((Reads.of_own HO10.out).below HB.out).below (HBE.out.mono hsr)) HLM.out).mono ?_
        rintro e wf ⟨rfl, hBf⟩
        have hall : Below w.heap.size w wf := ((((HW9.out.trans (HB10.out.mono hs9)).trans (HB.out.mono (by omega)))).trans (HBE.out.mono (by omega))).trans (hBf.mono (by have := HBE.out.size; omega))
        have HALL := Lib.hid hall
        clear hBf hall
        go_wp2
        go_ret
        exact ⟨rfl, HH.out.below HALL.out, HALL.out⟩
end Go.Proofs.Ytfeglchngekedaa
namespace Go.Proofs.Ytfeglchngekedaa
open Go.RowKit Go.Shelf Go.Maps

theorem ints_n (w : World) {B1 B2 c1 c2 m : Nat} {A1 A2 : Option Addr} {l : List Int} (hm : m = l.length) (h1 : Reads w B1 1 A1 m (l.map (Value.int .i64))) (h2 : Reads w B2 1 A2 m (l.map (Value.int .i64))) (hn : m ≤ maxLen) :
    Calls Try.prog 60 #[.slice A1 m c1, .slice A2 m c2] w fun e w' => e = .returned (.bool true) ∧ Below w.heap.size w w' := by
  subst hm
  refine (ints_any w h1 h2 hn).mono ?_
  rintro e w' ⟨rfl, q, rfl⟩
  exact ⟨rfl, below_drewN (Below.refl _ w) q⟩
theorem Both.up {w : World} {M : Nat → Prop} {p r n m : Nat} {x : PS} (h : Both w M p r n x) (hm : n ≤ m) : Both w M p r m x := by
  obtain ⟨F, G, s, t, φ, hp, h1, h2, h3, h9⟩ := h
  exact ⟨F, G, s, t, φ, hp, h1, h2.mono hm, h3, h9⟩

set_option maxRecDepth 100000 in
set_option maxHeartbeats 25600000 in
theorem does_crash (w : World) (M : Nat → Prop) (pb p r n : Nat) (x : PS) (o : OpD) (hk : o.k % 11 = 8) (h : Both w M p r n x) (hpa : PairAt w M pb p r) (hn : n ≤ 9000) (ho : OpOk w M o) :
    Calls Try.prog 27 #[.pointer (some ⟨pb, 0, none⟩), .agg #[.int .i64 o.k, .int .i64 o.a, .int .i64 o.b, .string o.nm, .string o.t2, .slice o.A o.nb o.cb, .slice o.A2 o.nc o.cc]] w (OpPost w M p r n (x.crash o.cs)) := by
  obtain ⟨i3, hi3, hz30, hz31, hz32⟩ := info_parts info3
  have HI3 := Lib.hid hi3
  have HZ30 := Lib.hid hz30
  have HZ31 := Lib.hid hz31
  have HZ32 := Lib.hid hz32
  have hka := ho.k63
  have hcC := ho.cC
  have hcL := ho.cL
  have hc47 := ho.c47
  have hcR := ho.cR
  have hcA := ho.cA
  clear ho hi3 hz30 hz31 hz32
  obtain ⟨k, a, b, nm, t2, A, nb, cb, bs, A2, nc, cc, cs⟩ := o
  dsimp only at *
  have hcs : nc = cs.length := by have := hcR.1; rw [List.length_map] at this; omega
  obtain ⟨w1, hw1⟩ : ∃ w1, w.alloc (.cells #[.int .i64 8, .int .i64 a, .int .i64 b, .string nm, .string t2, .slice A nb cb, .slice A2 nc cc] 47) = w1 := ⟨_, rfl⟩
  have hob : Blk w1 w.heap.size 47 #[.int .i64 8, .int .i64 a, .int .i64 b, .string nm, .string t2, .slice A nb cb, .slice A2 nc cc] := by rw [← hw1]; exact Blk.new w 47 _
  have hc1 : Chg M w w1 := by rw [← hw1]; exact (Chg.refl M w).alloc _
  have hb1 : Both w1 (fun k => M k ∧ k ≠ w.heap.size) p r n x := by rw [← hw1]; exact h.box _
  have hnew := h.new
  have hp1 := hpa.chg hc1
  have hpl := hp1.blk.lt
  have hpw := hpa.blk.lt
  have hs1 : w.heap.size < w1.heap.size := hob.lt
  have a0 : w1.cell? ⟨pb, 0, none⟩ = some (.pointer (some ⟨p, 0, none⟩)) := hp1.blk.cell 0
  have ad : w1.cell? ⟨w.heap.size, 0, none⟩ = some (.int .i64 8) := hob.cell 0
  have a6 : w1.cell? ⟨w.heap.size, 6, none⟩ = some (.slice A2 nc cc) := hob.cell 6
  have hR1 := hcR.chg hc1 hcA
  have hbe : Below w1.heap.size w1 (w1.alloc (.cells #[] 3)) := (Below.refl _ w1).alloc (Nat.le_refl _) _
  have HRE := Lib.hid (hR1.below hbe)
  have HR1 := Lib.hid hR1
  have HBE := Lib.hid hbe
  have HOW := Lib.hid (World.ownsRow_lit (base := w1.heap.size) (e := 3) (size := 1) w1 #[] 0 (Nat.le_refl _) (Nat.zero_le _) rfl)
  have HB := Lib.hid hb1
  have HC1 := Lib.hid hc1
  have HOB := Lib.hid hob
  have HP1 := Lib.hid hp1
  have HPO := Lib.hid hpa.out
  have HV := Lib.hid hk
  have HCS := Lib.hid hcs
  have HCA := Lib.hid hcA
  have HONE := Lib.hid (show ∀ u ∈ cs.map (Value.int .i64), u.oneCell' = true from fun u hu => by obtain ⟨z, -, rfl⟩ := List.mem_map.1 hu; rfl)
  clear h hpa hob hc1 hb1 hp1 hk hcR hcA hR1 hbe hcs
  unfold maxLen at hcL
  go_enter Try.func27, Try.ntmps27
  go_wp2_with fail
  refine (keepwithin_any k 11 _ (by omega) (by omega)).mono ?_
  rintro e wz ⟨rfl, rfl⟩
  rw [HV.out]
  go_upto_region 11 with fail
  clear hw1 ad
  go_upto_region 12 with (at_builtin; (refine wpList_append_any _ rfl (.tmp 57) (.tmp 59) 23 rfl w1.heap.size 3 i3 (.int .i64 0) 1 8 Try.underlying23 HI3.out HZ30.out HZ31.out HZ32.out rfl (by omega) (.slice (some ⟨w1.heap.size, 0, none⟩) 0 0) 0 [] rfl HOW.out w1.heap.size A2 nc cc (cs.map (Value.int .i64)) rfl HRE.out HONE.out (by simp [maxLen]; omega) (by omega) (by simp) ?_; intro v4 w4 hown4 hgrow4 _; rw [Nat.zero_add, List.nil_append] at hown4; obtain ⟨A5, d5, hv5⟩ := own_slice hown4; subst hv5; have HW4 := Lib.hid hown4; have HB4 := Lib.hid (HBE.out.grown hgrow4 (by simp) (fun k hk => by cases hk; exact Nat.le_refl _)); clear hown4 hgrow4))
  have hs4 := HB4.out.size
  obtain ⟨M2, hM2⟩ : ∃ M2 : Nat → Prop, M2 = fun k => (M k ∧ k ≠ w.heap.size) ∧ ¬ (w1.heap.size ≤ k ∧ k < w4.heap.size) := ⟨_, rfl⟩
  have hsub : ∀ k, M2 k → M k := fun k hk => by rw [hM2] at hk; exact hk.1.1
  have hno1 : ¬ M2 w.heap.size := fun hk => by rw [hM2] at hk; exact hk.1.2 rfl
  have hno2 : ¬ M2 pb := fun hk => HPO.out (hsub pb hk)
  have hno3 : ∀ g, w1.heap.size ≤ g → g < w4.heap.size → ¬ M2 g := fun g h1 h2 hk => by rw [hM2] at hk; exact hk.2 ⟨h1, h2⟩
  have hB2 : Both w4 M2 p r n x := by rw [hM2]; exact HB.out.fence HB4.out
  have hob4 := HOB.out.below HB4.out hs1
  have hpb4 := HP1.out.blk.below HB4.out hpl
  have c0 : w4.cell? ⟨pb, 0, none⟩ = some (.pointer (some ⟨p, 0, none⟩)) := hpb4.cell 0
  have hR4 := (HR1.out.below HB4.out).more hs4
  have hcap := own_capv HW4.out
  have HOB4 := Lib.hid hob4
  have HPB4 := Lib.hid hpb4
  have HB2 := Lib.hid hB2
  have HR4 := Lib.hid hR4
  have HSUB := Lib.hid hsub
  have HNO1 := Lib.hid hno1
  have HNO2 := Lib.hid hno2
  have HNO3 := Lib.hid hno3
  have HA2 := Lib.hid (show ∀ h0 : 0 < nc, ∀ ad, A2 = some ad → ¬ M2 ad.block from fun h0 ad e hk => HCA.out h0 ad e (hsub _ hk))
  have HC4 := Lib.hid (HC1.out.below HB4.out (by omega))
  clear hM2 hsub hno1 hno2 hno3 hB2 hob4 hpb4 hR4 a0 a6
  go_wp2_with fail
  refine (prog_crash w4 M2 p r n x A5 nc d5 cs HCS.out HB2.out (by omega) (Reads.of_own HW4.out) hcap).mono ?_
  rintro e w5 ⟨⟨rfl, hH, hC5⟩, hok⟩
  have hob5 : Blk w5 w.heap.size 47 _ := (hC5.block _ HOB4.out.lt HNO1.out).trans HOB4.out
  have hpb5 : Blk w5 pb 45 _ := (hC5.block _ HPB4.out.lt HNO2.out).trans HPB4.out
  have d1 : w5.cell? ⟨pb, 1, none⟩ = some (.pointer (some ⟨r, 0, none⟩)) := hpb5.cell 1
  have d6 : w5.cell? ⟨w.heap.size, 6, none⟩ = some (.slice A2 nc cc) := hob5.cell 6
  have hs5 := hC5.size
  have HW5 := Lib.hid (own_keep (w' := w5) HW4.out (fun x hx hlt => hC5.block x hlt (HNO3.out x (HW4.out.lt x hx).1 hlt)))
  have HR5 := Lib.hid (HR4.out.chg hC5 HA2.out)
  have HOB5 := Lib.hid hob5
  have HPB5 := Lib.hid hpb5
  have HH := Lib.hid hH
  have HOK := Lib.hid hok
  have HC5 := Lib.hid (HC4.out.trans (hC5.more HSUB.out) (fun x hx => .inl hx))
  clear hob5 hpb5 hH hok hC5 c0
  go_upto_region 13 with fail
  go_region_held3 (fun w' => w'.cell? ⟨pb, 1, none⟩ = some (.pointer (some ⟨r, 0, none⟩)) ∧ w'.cell? ⟨w.heap.size, 6, none⟩ = some (.slice A2 nc cc))
    (first | exact ⟨d1, d6⟩ | exact ⟨f1, f6⟩)
    ((go_at_call 59; refine (ref_crash w5.drew M2 p r n x A2 nc cc cs HCS.out (HH.out.drewN 1) (by omega) HR5.out HA2.out hcC HOK.out).mono ?_; rintro e w6 ⟨rfl, hB6, hC6⟩; have hC6 := Chg.of_drew hC6; have hob6 : Blk w6 w.heap.size 47 _ := (hC6.block _ HOB5.out.lt HNO1.out).trans HOB5.out; have hpb6 : Blk w6 pb 45 _ := (hC6.block _ HPB5.out.lt HNO2.out).trans HPB5.out; have f1 : w6.cell? ⟨pb, 1, none⟩ = some (.pointer (some ⟨r, 0, none⟩)) := hpb6.cell 1; have f6 : w6.cell? ⟨w.heap.size, 6, none⟩ = some (.slice A2 nc cc) := hob6.cell 6; have HB6 := Lib.hid hB6; have HPB6 := Lib.hid hpb6; have HC6 := Lib.hid (HC5.out.trans (hC6.more HSUB.out) (fun x hx => .inl hx)); have HR6 := Lib.hid (HR5.out.chg hC6 HA2.out); have HW6 := Lib.hid (own_keep (w' := w6) HW5.out (fun x hx hlt => hC6.block x hlt (HNO3.out x (HW4.out.lt x hx).1 (HW4.out.lt x hx).2))); clear hB6 hpb6 hob6 hC6))
  all_goals
    clear d1 d6 f1
    go_wp2_with fail
    refine (ints_n w6 HCS.out (Reads.of_own HW6.out) HR6.out (by simp [maxLen]; omega)).mono ?_
    rintro e w7 ⟨rfl, hB7⟩
    have HB7 := Lib.hid hB7
    have hs6 := HC6.out.size
    clear hB7 f6
    go_wp2_with fail
    refine (same_any w7 M2 pb p r (n + 1) _ (HB6.out.below HB7.out) ⟨HPB6.out.below HB7.out HPB6.out.lt, HNO2.out⟩ (by omega)).mono ?_
    rintro e w8 ⟨rfl, hB8, hb8⟩
    have HB8 := Lib.hid hB8
    have hs7 := HB7.out.size
    have HC8 := Lib.hid ((HC6.out.below HB7.out hs6).below hb8 (by omega))
    clear hB8 hb8
    go_wp2
    first | go_ret | refine bodyPost_ret (results_tmp rfl _ _ _) rfl ?_
    exact ⟨rfl, HB8.out.more HSUB.out, HC8.out⟩
end Go.Proofs.Ytfeglchngekedaa
