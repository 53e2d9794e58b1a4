/- The walks of (*chunk.Writer).Bytes, Count, chunk.Encode, chunk.Bits. -/
import Derived.Test.YtjlfkdopkhejbaaDoorPacked
import Derived.Test.YtjlfkdopkhejbaaDoorWords
import Derived.Deep.RegionLaw
namespace Go.Proofs.YtjlfkdopkhejbaaDoor
open Go.RowKit Ck
attribute [local go_sem] frombits_call tobits_call run_store_float

/-- what a writer's chunk is -/
def rawChunk (s : St) (l : List Bool) : List Nat := [s.n / 256 % 256, s.n % 256] ++ pack l

def BytesPost (w : World) (bs : List Nat) (e : Ending) (w' : World) : Prop :=
  ∃ v, e = .returned v ∧ w'.ownsRow w.heap.size 5 1 v bs.length (bytesV bs) ∧ Below w.heap.size w w'

theorem bytesV_one (bs : List Nat) : ∀ u ∈ bytesV bs, u.oneCell' = true := by
  intro u hu
  obtain ⟨b, _, rfl⟩ := List.mem_map.1 hu
  rfl

set_option maxRecDepth 100000 in
set_option maxHeartbeats 1600000 in
theorem bytes_any (B : Nat) (s : St) (l : List Bool) (w : World) (h : WrAt w B s l) (hl : l.length ≤ 100000) :
    Calls Tryd.prog 28 #[.pointer (some ⟨B, 0, none⟩)] w (BytesPost w (rawChunk s l)) := by
  obtain ⟨raw, hr⟩ := h
  obtain ⟨i0, hi, hz0, hz1, hz2⟩ := info_parts info5
  have c0 : w.cell? ⟨B, 0, none⟩ = some (.int .i64 (s.n : Nat)) := hr.blk.cell 0
  have c7 : w.cell? ⟨B, 7, none⟩ = some raw := hr.blk.cell 7
  obtain ⟨A, m, cap, hraw, hm⟩ : ∃ A m cap, raw = .slice A m cap ∧ m = (pack l).length := by
    rcases hr.own.2 with ⟨rfl, h0⟩ | ⟨g, cap, cur, rfl, _⟩
    · exact ⟨none, 0, 0, rfl, h0.symm⟩
    · exact ⟨_, _, _, rfl, rfl⟩
  subst hraw
  have hm2 : m ≤ 100000 := by rw [hm, pack_length]; omega
  have ho := hr.own
  rw [← hm] at ho
  have HRd := Lib.hid (Reads.of_own ho)
  have hsz := hr.blk.lt
  have hne : B ≠ w.heap.size := by omega
  have HI := Lib.hid hi
  have HZ0 := Lib.hid hz0
  have HZ1 := Lib.hid hz1
  have HZ2 := Lib.hid hz2
  have HM := Lib.hid hm
  clear hi hz0 hz1 hz2 hr ho hm
  go_enter Tryd.func28, Tryd.ntmps28
  go_wp2_with fail
  have hX : IntKind.u8.wrap ((s.n : Int) / 256) = ((s.n / 256 % 256 : Nat) : Int) := by rw [IntKind.wrap_u8]; omega
  have hY : IntKind.u8.wrap (s.n : Int) = ((s.n % 256 : Nat) : Int) := by rw [IntKind.wrap_u8]; omega
  have HX := Lib.hid hX
  have HY := Lib.hid hY
  clear hX hY
  go_region_law (refine step_append_any _ rfl (.tmp 16) (.tmp 20) 23 rfl w.heap.size 5 i0 (.int .u8 0) 1 1 Tryd.underlying23 HI.out HZ0.out HZ1.out HZ2.out rfl (by decide) (.slice (some ⟨w.heap.size, 0, none⟩) 2 2) 2 [.int .u8 (IntKind.u8.wrap ((s.n : Int) / 256)), .int .u8 (IntKind.u8.wrap (s.n : Int))] rfl (World.ownsRow_lit w #[.int .u8 (IntKind.u8.wrap ((s.n : Int) / 256)), .int .u8 (IntKind.u8.wrap (s.n : Int))] 2 (Nat.le_refl _) (by simp [maxLen]) rfl).drew w.heap.size A m cap (bytesV (pack l)) rfl (HRd.out.alloc (Nat.le_refl _) _).drew (bytesV_one _) (by simp [maxLen]; omega) (by omega) (by simp [World.drew]) ?_; intro v' w1 hown1 hgrow1 hat1)
  all_goals
    have HO1 := Lib.hid hown1
    have HG1 := Lib.hid hgrow1
    clear hown1 hgrow1 hat1
    go_wp2
    refine bodyPost_ret (results_tmp rfl _ _ _) rfl ?_
    refine ⟨v', rfl, ?_, ?_⟩
    · have := HO1.out
      rw [HX.out, HY.out, HM.out] at this
      have e : (rawChunk s l).length = 2 + (pack l).length := by simp [rawChunk]; omega
      rw [e]
      exact this
    · refine Below.grown ?_ HG1.out (by simp [World.drew]) (fun k hk => by simp [Value.ownBlock] at hk; omega)
      exact ((Below.refl _ w).alloc (Nat.le_refl _) _).drew

theorem count_any (B : Nat) (s : St) (l : List Bool) (w : World) (h : WrAt w B s l) :
    Calls Tryd.prog 29 #[.pointer (some ⟨B, 0, none⟩)] w fun e w' => e = .returned (.int .i64 (s.n : Nat)) ∧ w = w' := by
  have c0 : w.cell? ⟨B, 0, none⟩ = some (.int .i64 (s.n : Nat)) := h.cell 0 (by omega) _ (fun _ _ => rfl)
  clear h
  go_enter Tryd.func29, Tryd.ntmps29
  go_wp2
  go_ret
  exact ⟨rfl, rfl⟩

/-- what Encode answers -/
def EncPost (w : World) (l : List Smp) (e : Ending) (w' : World) : Prop :=
  Below w.heap.size w w' ∧ (if l.length ≤ 120 then ∃ v, e = .returned (.tuple #[v, .int .i64 0]) ∧ w'.ownsRow w.heap.size 5 1 v (chunkOf l).length (bytesV (chunkOf l)) else e = .returned (.tuple #[.slice none 0 0, .int .i64 15]))

theorem rawChunk_enc (l : List Smp) : rawChunk (encSt St.zero l) (encBits St.zero l) = chunkOf l := by
  unfold rawChunk chunkOf
  rw [encSt_n]
  simp [St.zero]

theorem encode_any (A : Option Addr) (cap : Nat) (l : List Smp) (w : World) (h : SmpAt w w.heap.size A l) (hl : l.length ≤ 140737488355327) (hok : ∀ x ∈ l, x.ok) (hT : TabW w) :
    Calls Tryd.prog 10 #[.slice A l.length cap] w (EncPost w l) := by
  have H := Lib.hid h
  have HO := Lib.hid hok
  have HT := Lib.hid hT
  clear h hok hT
  go_enter Tryd.func10, Tryd.ntmps10
  go_wp2_with fail
  refine (packed_any A cap l w H.out hl HO.out HT.out).mono ?_
  rintro e w1 ⟨hb, hq⟩
  have HB := Lib.hid hb
  clear hb
  by_cases h120 : l.length ≤ 120
  · rw [if_pos h120] at hq
    obtain ⟨rfl, hr⟩ := hq
    have HR := Lib.hid hr
    have hbl := encBits_length St.zero l St.zero_ok HO.out
    have hn : (encSt St.zero l).n = l.length := by rw [encSt_n]; simp [St.zero]
    have HN := Lib.hid hn
    clear hr hn
    go_wp2_with fail
    refine (bytes_any _ _ _ _ HR.out (by omega)).mono ?_
    rintro e w2 ⟨v, rfl, ho, hb2⟩
    rw [rawChunk_enc] at ho
    have HO2 := Lib.hid ho
    have HB2 := Lib.hid hb2
    clear ho hb2
    go_wp2
    go_ret2
    refine ⟨HB.out.trans (HB2.out.mono HB.out.size), ?_⟩
    rw [if_pos h120]
    refine ⟨v, rfl, HO2.out.1, ?_⟩
    rcases HO2.out.2 with h0 | ⟨g, c, cur, hv, hg, rest⟩
    · exact .inl h0
    · exact .inr ⟨g, c, cur, hv, Nat.le_trans HB.out.size hg, rest⟩
  · rw [if_neg h120] at hq
    subst hq
    go_wp2
    refine bodyPost_ret (results_tmp2 rfl _ _ _) rfl ?_
    refine ⟨HB.out, ?_⟩
    rw [if_neg h120]
    rfl

/-- how many bits samples take -/
def bitsN (l : List Smp) : Nat := if l.length ≤ 120 then 16 + (encBits St.zero l).length else 0

theorem bits_any (A : Option Addr) (cap : Nat) (l : List Smp) (w : World) (h : SmpAt w w.heap.size A l) (hl : l.length ≤ 140737488355327) (hok : ∀ x ∈ l, x.ok) (hT : TabW w) :
    Calls Tryd.prog 21 #[.slice A l.length cap] w fun e w' => e = .returned (.int .i64 (bitsN l : Nat)) ∧ Below w.heap.size w w' := by
  have H := Lib.hid h
  have HO := Lib.hid hok
  have HT := Lib.hid hT
  clear h hok hT
  go_enter Tryd.func21, Tryd.ntmps21
  go_wp2_with fail
  refine (packed_any A cap l w H.out hl HO.out HT.out).mono ?_
  rintro e w1 ⟨hb, hq⟩
  have HB := Lib.hid hb
  clear hb
  by_cases h120 : l.length ≤ 120
  · rw [if_pos h120] at hq
    obtain ⟨rfl, raw, hr⟩ := hq
    have hbl := encBits_length St.zero l St.zero_ok HO.out
    have c8 : w1.cell? ⟨w.heap.size, 8, none⟩ = some (.int .i64 ((encBits St.zero l).length : Nat)) := hr.blk.cell 8
    have e1 : bitsN l = 16 + (encBits St.zero l).length := by unfold bitsN; rw [if_pos h120]
    have HE := Lib.hid e1
    obtain ⟨N, hN⟩ : ∃ N, N = (encBits St.zero l).length := ⟨_, rfl⟩
    rw [← hN] at c8 hbl HE
    clear hr e1 hN
    go_wp2
    go_ret
    refine ⟨?_, HB.out⟩
    rw [HE.out]
    congr 2
  · rw [if_neg h120] at hq
    subst hq
    go_wp2
    refine bodyPost_ret (results_tmp rfl _ _ _) rfl ?_
    refine ⟨?_, HB.out⟩
    have e1 : bitsN l = 0 := by unfold bitsN; rw [if_neg h120]
    rw [e1]
    rfl
end Go.Proofs.YtjlfkdopkhejbaaDoor
