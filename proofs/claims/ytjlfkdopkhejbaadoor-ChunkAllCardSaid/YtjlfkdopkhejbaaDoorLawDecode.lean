/- The walk of the law ChunkDecode. -/
import Derived.Test.YtjlfkdopkhejbaaDoorLend
import Derived.Test.YtjlfkdopkhejbaaDoorRefDec
namespace Go.Proofs.YtjlfkdopkhejbaaDoor
open Go.RowKit Go.Shelf Ck
attribute [local go_sem] frombits_call tobits_call run_store_float

/-- what a law's first lines make of a row of bytes: at most 3000 of them -/
structure Raw (w : World) (A : Option Addr) (q c : Nat) (k : List Nat) : Prop where
  at_ : BytAt w w.heap.size A k
  len : q = k.length
  few : k.length ≤ 3000
  lt : ∀ b ∈ k, b < 256

theorem raw_of {w : World} {A : Option Addr} {c : Nat} {bs : List Nat} (h : BytAt w w.heap.size A bs) (ho : ∀ b ∈ bs, b < 256) :
    ∃ k, (bs.length ≤ 3000 → Raw w A bs.length c k) ∧ (3000 < bs.length → Raw w A 3000 c k) := by
  have ht : BytAt w w.heap.size A (bs.take 3000) := by
    intro h0
    obtain ⟨g, off, hA, hg, hc⟩ := h (by simp at h0; omega)
    refine ⟨g, off, hA, hg, fun i x hx => hc i x ?_⟩
    rw [List.getElem?_take] at hx
    split at hx
    · exact hx
    · cases hx
  exact ⟨bs.take 3000, fun hl => ⟨ht, by simp; omega, by simp; omega, fun x hx => ho x (List.mem_of_mem_take hx)⟩, fun hl => ⟨ht, by simp; omega, by simp; omega, fun x hx => ho x (List.mem_of_mem_take hx)⟩⟩

section
variable {w w' : World} {A : Option Addr} {q c : Nat} {k : List Nat}
theorem Raw.below (h : Raw w A q c k) (hb : Below w.heap.size w w') : Raw w' A q c k := ⟨(h.at_.below hb).mono hb.size, h.len, h.few, h.lt⟩
theorem Raw.lend (h : Raw w A q c k) : Calls Tryd.prog 14 #[.slice A q c] w fun e w' => ∃ g c', e = .returned (.slice (some ⟨g, 0, none⟩) k.length c') ∧ LentAt w' g c' k ∧ w.heap.size ≤ g ∧ Below w.heap.size w w' := by
  rw [h.len]
  exact lend_any A c k w h.at_ (by have := h.few; omega)
theorem Raw.dec (h : Raw w A q c k) : Calls Tryd.prog 15 #[.slice A q c] w (DecPost w (Ck.decode k)) := by
  rw [h.len]
  exact refdec_any A c k w h.at_ (by have := h.few; omega) h.lt
theorem Raw.intact (h : Raw w A q c k) {g c' : Nat} (hL : LentAt w g c' k) : Calls Tryd.prog 16 #[.slice (some ⟨g, 0, none⟩) k.length c', .slice A q c] w fun e w' => e = .returned (.bool true) ∧ w.grownBy w' (some g) := by
  rw [h.len]
  exact intact_any A c g c' w.heap.size k w h.at_ hL (by have := h.few; omega)
theorem Raw.conv (h : Raw w A q c k) : (convert 23 9 (.slice A q c)).run Tryd.prog w = .ok (.string (strOf k)) w := by
  rw [h.len]
  exact conv_any h.at_ c
end

theorem decode_some {bs : List Nat} {l : List Smp} (h : Ck.decode bs = some l) : chunkOf l = bs ∧ l.length ≤ 120 ∧ ∀ x ∈ l, x.ok := by
  unfold Ck.decode at h
  split at h
  · rename_i hc
    injection h with h
    subst h
    exact ⟨hc, by simp; omega, fun x hx => allOf_ok bs x (List.mem_of_mem_take hx)⟩
  · cases h

set_option maxRecDepth 100000 in
set_option maxHeartbeats 1600000 in
theorem lawdecode_any (A : Option Addr) (c : Nat) (bs : List Nat) (w : World) (h : BytAt w w.heap.size A bs) (hc : bs.length ≤ c) (ho : ∀ b ∈ bs, b < 256) (hT : TabW w) :
    Calls Tryd.prog 4 #[.slice A bs.length c] w fun e w' => e = .returned (.bool true) ∧ Below w.heap.size w w' := by
  obtain ⟨k, f, f'⟩ := raw_of (c := c) h ho
  have F := Lib.hid f
  have F' := Lib.hid f'
  have HT := Lib.hid hT
  clear h ho f f' hT
  rcases Nat.lt_or_ge 3000 bs.length with n1 | n1
  case' inl =>
    have H := Lib.hid (F'.out n1)
    have g1 : (3000 : Int) < (bs.length : Int) := by omega
    have q1 : (3000 : Int) ≤ (c : Int) := by omega
  case' inr =>
    have H := Lib.hid (F.out n1)
    have g1 : (bs.length : Int) ≤ 3000 := by omega
  all_goals
    clear F F'
    go_enter Tryd.func4, Tryd.ntmps4
    go_wp2_with fail
    refine H.out.lend.mono ?_
    rintro e w1 ⟨g, c1, rfl, hL, hg, hb1⟩
    have HL1 := Lib.hid hL
    have HB1 := Lib.hid hb1
    have hgl := hL.lt.1
    have hkf := H.out.few
    have HT1 := Lib.hid (HT.out.below hb1 HT.out.lt)
    clear hL hb1
    go_wp2_with fail
    refine (decode_any (some ⟨g, 0, none⟩) c1 k w1 (HL1.out.head.mono hgl) (by omega) H.out.lt HT1.out).mono ?_
    rintro e w2 hp2
    obtain ⟨hb2, hq2⟩ := hp2
    have HB2 := Lib.hid (HB1.out.trans (hb2.mono HB1.out.size))
    have hs12 := hb2.size
    have HL2 := Lib.hid (HL1.out.below hb2)
    have HR2 := Lib.hid ((H.out.below HB1.out).below hb2)
    cases hd : Ck.decode k with
    | none =>
      rw [hd] at hq2
      have hq2' : e = .returned (.tuple #[.slice none 0 0, .int .i64 8]) := hq2
      subst hq2'
      clear hq2 hb2 HL1
      go_wp2_with fail
      refine HR2.out.dec.mono ?_
      rintro e w3 ⟨hb3, hq3⟩
      rw [hd] at hq3
      have hq3' : e = .returned (.tuple #[.slice none 0 0, .int .i64 8]) := hq3
      subst hq3'
      have HB3 := Lib.hid (HB2.out.trans (hb3.mono HB2.out.size))
      have HL3 := Lib.hid (HL2.out.below hb3)
      have HR3 := Lib.hid (HR2.out.below hb3)
      clear hq3 hb3 HL2 HR2
      go_wp2_with fail
      refine (HR3.out.intact HL3.out).mono ?_
      rintro e w4 ⟨rfl, hg4⟩
      have HB4 := Lib.hid (HB3.out.grown hg4 HB3.out.size (fun j hj => by cases hj; exact hg))
      clear hg4 HL3
      go_wp2_with fail
      refine (samples_any none none 0 0 0 0 [] [] w4 (fun h => absurd h (by simp)) (fun h => absurd h (by simp)) (by simp) (by simp)).mono ?_
      rintro e w5 ⟨rfl, hd5⟩
      have HB5 := Lib.hid (HB4.out.trans (hd5.below _))
      have hsame : same [] [] = true := rfl
      rw [hsame]
      clear hd5 hsame hd
      go_wp2_with fail
      refine (wakes_any w5 (HT.out.below HB5.out HT.out.lt)).mono ?_
      rintro e w6 ⟨rfl, hb6⟩
      have HB6 := Lib.hid (HB5.out.trans (hb6.mono HB5.out.size))
      clear hb6
      go_wp2
      go_ret
      exact ⟨rfl, HB6.out⟩
    | some l =>
      obtain ⟨hck, hl120, hlok⟩ := decode_some hd
      rw [hd] at hq2
      obtain ⟨v2, rfl, ho2⟩ := hq2
      obtain ⟨A2, c2, rfl, _⟩ := own_smp ho2
      have HO2 := Lib.hid ho2
      have HLOK := Lib.hid hlok
      have HCK := Lib.hid hck
      clear hb2 HL1 ho2 hlok hck
      go_wp2_with fail
      refine HR2.out.dec.mono ?_
      rintro e w3 ⟨hb3, hq3⟩
      rw [hd] at hq3
      obtain ⟨v3, rfl, ho3⟩ := hq3
      obtain ⟨A3, c3, rfl, _⟩ := own_smp ho3
      have HB3 := Lib.hid (HB2.out.trans (hb3.mono HB2.out.size))
      have HL3 := Lib.hid (HL2.out.below hb3)
      have HR3 := Lib.hid (HR2.out.below hb3)
      have HO23 := Lib.hid (HO2.out.kept (only_of_below hb3 none) (by cases (Value.slice A2 l.length c2).ownBlock <;> simp))
      have HO3 := Lib.hid ho3
      clear hb3 HL2 HR2 HO2 ho3
      go_wp2_with fail
      refine (HR3.out.intact HL3.out).mono ?_
      rintro e w4 ⟨rfl, hg4⟩
      have HB4 := Lib.hid (HB3.out.grown hg4 HB3.out.size (fun j hj => by cases hj; exact hg))
      have HO24 := Lib.hid (HO23.out.kept hg4 (by
        cases hv : (Value.slice A2 l.length c2).ownBlock with
        | none => exact .inl rfl
        | some j => exact .inr (fun e => by cases e; have := (HO23.out.lt _ hv).1; omega)))
      have HO34 := Lib.hid (HO3.out.kept hg4 (by
        cases hv : (Value.slice A3 l.length c3).ownBlock with
        | none => exact .inl rfl
        | some j => exact .inr (fun e => by cases e; have := (HO3.out.lt _ hv).1; omega)))
      have hgw4 : w3.heap.size ≤ w4.heap.size := hg4.size
      have hs2 : SmpAt w4 w4.heap.size A2 l := by
        obtain ⟨A', c', e', hs⟩ := own_smp HO24.out
        injection e' with e1 e2 e3
        subst e1
        exact hs
      have hs3 : SmpAt w4 w4.heap.size A3 l := by
        obtain ⟨A', c', e', hs⟩ := own_smp HO34.out
        injection e' with e1 e2 e3
        subst e1
        exact hs
      have HS2 := Lib.hid hs2
      have HS3 := Lib.hid hs3
      have HR4 := Lib.hid (H.out.below HB4.out)
      clear hg4 HL3 HO23 HO3 hs2 hs3 HR3
      go_wp2_with fail
      refine (samples_any A2 A3 c2 c3 w4.heap.size w4.heap.size l l w4 HS2.out HS3.out (by omega) (by omega)).mono ?_
      rintro e w5 ⟨rfl, hd5⟩
      have HB5 := Lib.hid (HB4.out.trans (hd5.below _))
      have HS5 := Lib.hid ((HS2.out.below (hd5.below w4.heap.size)).mono (hd5.below w4.heap.size).size)
      have hsame : same l l = true := by simp [same]
      rw [hsame]
      clear hd5 hsame hd HO24 HO34
      go_wp2_with fail
      refine (encode_any A2 c2 l w5 HS5.out (by omega) HLOK.out (HT.out.below HB5.out HT.out.lt)).mono ?_
      rintro e w6 ⟨hb6, hq6⟩
      rw [if_pos hl120] at hq6
      obtain ⟨v6, rfl, ho6⟩ := hq6
      rw [HCK.out] at ho6
      obtain ⟨A6, c6, rfl, hby6⟩ := own_byt ho6
      have j1 := conv_any hby6 c6
      have HB6 := Lib.hid (HB5.out.trans (hb6.mono HB5.out.size))
      have j2 := (H.out.below HB6.out).conv
      clear hb6 ho6 hby6
      go_wp2_with fail
      refine (wakes_any w6 (HT.out.below HB6.out HT.out.lt)).mono ?_
      rintro e w7 ⟨rfl, hb7⟩
      have HB7 := Lib.hid (HB6.out.trans (hb7.mono HB6.out.size))
      clear hb7
      go_wp2
      go_ret
      exact ⟨rfl, HB7.out⟩
end Go.Proofs.YtjlfkdopkhejbaaDoor
