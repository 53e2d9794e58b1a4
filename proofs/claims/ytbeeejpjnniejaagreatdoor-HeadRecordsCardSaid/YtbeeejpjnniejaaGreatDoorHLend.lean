/- The keeper: LendBytes (57), IntactBytes (59), of rows of bytes that are not too long. -/
import Derived.Test.YtbeeejpjnniejaaGreatDoorJ06Rx2
import Derived.Test.YtbeeejpjnniejaaGreatDoorJ04LRight
import Derived.Laws.BitsAllLaws
namespace Go.Proofs.YtbeeejpjnniejaaGreatDoor
open Go.RowKit Go.Shelf Go.Maps
theorem own_capv {w : World} {b : Nat} {t : TypeId} {z n c : Nat} {A : Option Addr} {xs : List Value} (h : w.ownsRow b t z (.slice A n c) n xs) : n ≤ c := by
  rcases h.2 with ⟨h1, h2⟩ | ⟨g', cap, cur, h1, _, _, hc, _⟩
  · injection h1 with _ _ h3; omega
  · injection h1 with _ _ h3; omega
def markV : List UInt8 := [201, 202, 203, 204]
theorem four_bytes (w : World) : Reads (w.alloc (.cells #[.int .u8 201, .int .u8 202, .int .u8 203, .int .u8 204] 5)) (w.heap.size + 1) 1 (some ⟨w.heap.size, 0, none⟩) 4 (bytesV markV) := by
  have hb := Blk.new w 5 #[.int .u8 201, .int .u8 202, .int .u8 203, .int .u8 204]
  refine ⟨rfl, fun _ => ⟨_, rfl, by show w.heap.size < _; omega, fun j u hu => ?_⟩⟩
  have e : (⟨w.heap.size, 0, none⟩ : Addr).add j = ⟨w.heap.size, j, none⟩ := by unfold Addr.add; split <;> simp_all
  rw [e, hb.cell j, ← Array.getElem?_toList]
  exact hu

set_option maxRecDepth 100000 in
set_option maxHeartbeats 6400000 in
theorem lend_any (w : World) (A : Option Addr) (n c : Nat) (b : List UInt8) (h : Reads w w.heap.size 1 A n (bytesV b)) (hn : n ≤ 10000000) :
    Calls Tryz.prog 57 #[.slice A n c] w fun e w' => ∃ g cap, e = .returned (.slice (some ⟨g, 0, none⟩) n cap) ∧ w'.ownsRow w.heap.size 5 1 (.slice (some ⟨g, 0, none⟩) (n + 4) cap) (n + 4) (bytesV (b ++ markV)) ∧ Below w.heap.size w w' := by
  obtain ⟨i5, hi5, hz50, hz51, hz52⟩ := info_parts info5
  have HI5 := Lib.hid hi5
  have HZ50 := Lib.hid hz50
  have HZ51 := Lib.hid hz51
  have HZ52 := Lib.hid hz52
  have hb1 : Below w.heap.size w (w.alloc (.cells #[] 5)) := (Below.refl _ w).alloc (Nat.le_refl _) _
  have HR1 := Lib.hid (h.below hb1)
  have HB1 := Lib.hid hb1
  have HOW := Lib.hid (World.ownsRow_lit (base := w.heap.size) (e := 5) (size := 1) w #[] 0 (Nat.le_refl _) (Nat.zero_le _) rfl)
  clear hi5 hz50 hz51 hz52 h hb1
  go_enter Tryz.func57, Tryz.ntmps57
  go_wp2_with (first
    | (at_builtin; (refine wpList_append_any _ rfl (.tmp 4) (.tmp 5) 90 rfl w.heap.size 5 i5 (.int .u8 0) 1 1 Tryz.underlying90 HI5.out HZ50.out HZ51.out HZ52.out rfl (by omega) (.slice (some ⟨w.heap.size, 0, none⟩) 0 0) 0 [] rfl HOW.out w.heap.size A n c (bytesV b) rfl HR1.out (bytesV_one _) (by simp [maxLen]; omega) (by omega) (by simp) ?_; intro v4 w4 hown4 hgrow4 _; rw [Nat.zero_add, List.nil_append] at hown4; obtain ⟨A5, d5, hv5⟩ := own_slice hown4; subst hv5; have hs4 := hgrow4.size; rw [World.size_alloc] at hs4; have HW4 := Lib.hid hown4; have HB4 := Lib.hid (HB1.out.grown hgrow4 (by simp) (fun k hk => by cases hk; exact Nat.le_refl _)); clear hown4 hgrow4))
    | (at_builtin; (refine wpList_append_any _ rfl (.tmp 6) (.tmp 7) 90 rfl w.heap.size 5 i5 (.int .u8 0) 1 1 Tryz.underlying90 HI5.out HZ50.out HZ51.out HZ52.out rfl (by omega) (.slice A5 n d5) n (bytesV b) rfl (HW4.out.alloc _) (w4.heap.size + 1) (some ⟨w4.heap.size, 0, none⟩) 4 4 (bytesV markV) rfl (four_bytes w4) (bytesV_one _) (by simp [maxLen]; omega) (by omega) (by simp; omega) ?_; intro v6 w6 hown6 hgrow6 _; obtain ⟨A7, d7, hv7⟩ := own_slice hown6; subst hv7; obtain ⟨g7, c7, hA7⟩ := own_succ hown6 (by omega); injection hA7 with hA7 _ hc7'; subst hc7'; subst hA7; have hs6 := hgrow6.size; have HW6 := Lib.hid hown6; have HB6 := Lib.hid ((HB4.out.alloc (by omega) (.cells #[.int .u8 201, .int .u8 202, .int .u8 203, .int .u8 204] 5)).grown hgrow6 (by simp; omega) (fun k hk => (HW4.out.lt k hk).1)); have hc7 := own_capv hown6; clear hown6 hgrow6)))
  go_ret
  have h6 := HW6.out
  rw [show bytesV b ++ bytesV markV = bytesV (b ++ markV) by simp [bytesV]] at h6
  exact ⟨g7, d7, rfl, h6, HB6.out⟩
def IntR (w : World) (g c n : Nat) (i : Value) (wr : World) : Prop :=
  ∃ (k b : Nat) (xs : List Value), k ≤ n ∧ i = .int .i64 k ∧ xs.length = n ∧ wr.ownsRow b 5 1 (.slice (some ⟨g, 0, none⟩) n c) n xs ∧ w.grownBy wr (some g)
set_option maxRecDepth 100000 in
set_option maxHeartbeats 1600000 in
theorem intact_any (w : World) (A : Option Addr) (cap g c lim B : Nat) (bs : List UInt8) (h : Reads w lim 1 A bs.length (bytesV bs)) (hL : w.ownsRow B 5 1 (.slice (some ⟨g, 0, none⟩) (bs.length + 4) c) (bs.length + 4) (bytesV (bs ++ markV))) (hl : bs.length ≤ 4000000) :
    Calls Tryz.prog 59 #[.slice (some ⟨g, 0, none⟩) bs.length c, .slice A bs.length cap] w fun e w' => e = .returned (.bool true) ∧ w.grownBy w' (some g) := by
  have hcc : (bs.length : Int) + 4 ≤ (c : Int) := by have := own_capv hL; omega
  have hlen : (bs ++ markV).length = bs.length + 4 := by simp [markV]
  have j1 : (convert 90 9 (.slice (some ⟨g, 0, none⟩) (bs.length + 4) c)).run Tryz.prog w = .ok (.string ⟨(bs ++ markV).toArray⟩) w := run_str_reads c (Reads.of_own hL)
  have j2 : (convert 90 9 (.slice A bs.length cap)).run Tryz.prog w = .ok (.string ⟨bs.toArray⟩) w := run_str_reads cap h
  have HS : (⟨bs.toArray⟩ : ByteArray) ++ { data := #[201, 202, 203, 204] } = ⟨(bs ++ markV).toArray⟩ := by
    apply ByteArray.ext
    simp [markV]
  have hsz : (⟨bs.toArray⟩ : ByteArray).size + 4 ≤ 9223372036854775807 := by
    have : (⟨bs.toArray⟩ : ByteArray).size = bs.length := by simp [ByteArray.size]
    omega
  have HL := Lib.hid hL
  have HLN := Lib.hid hlen
  clear h hL hlen
  go_enter Tryz.func59, Tryz.ntmps59
  go_wp2_with fail
  go_loopw [7] (fun i wr => IntR w g c (bs.length + 4) i wr) (fun i _ => (bs.length + 4) - (intOf i).toNat)
  case atStart => exact ⟨0, B, bytesV (bs ++ markV), Nat.zero_le _, rfl, by rw [bytesV_length, HLN.out], HL.out, only_refl _ _⟩
  case round =>
    obtain ⟨k, b', cs, hk, rfl, hcn, ho, hb⟩ := hrel
    have HO := Lib.hid ho
    have HB := Lib.hid hb
    have HC := Lib.hid hcn
    clear ho hb hcn j1 j2 HS HL hsz
    by_cases hlt : k < bs.length + 4
    · obtain ⟨u, hu⟩ : ∃ u, wr.cell? ⟨g, k, none⟩ = some u := ⟨cs[k]'(by have := HC.out; omega), by rw [HO.out.cellAt k (by omega)]; exact List.getElem?_eq_getElem _⟩
      have kg := HO.out.frozenAt k
      go_wp2
      have hs := HO.out.stored k (.int .u8 85)
      refine ⟨⟨k + 1, b', _, by omega, by go_num, by rw [List.length_set]; exact HC.out, hs.1, only_setCell HB.out (p := ⟨g, k, none⟩) (.inl rfl) _⟩, by simp [intOf]; omega⟩
    · have hkl : k = bs.length + 4 := by omega
      go_wp2
      go_ret
      exact ⟨rfl, HB.out⟩
end Go.Proofs.YtbeeejpjnniejaaGreatDoor
