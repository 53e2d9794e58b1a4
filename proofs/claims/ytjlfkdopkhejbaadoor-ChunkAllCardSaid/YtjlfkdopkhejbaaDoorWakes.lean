/- The walk of the keep's wakes. -/
import Derived.Test.YtjlfkdopkhejbaaDoorDecode
namespace Go.Proofs.YtjlfkdopkhejbaaDoor
open Go.RowKit Go.Shelf Ck
attribute [local go_sem] frombits_call tobits_call run_store_float

/-- the two samples that 'wakes' tries -/
def two : List Smp := [⟨1, 4607182418800017408⟩, ⟨1001, 4607182418800017408⟩]
theorem two_ok : ∀ x ∈ two, x.ok := by
  intro x hx
  rcases List.mem_cons.1 hx with rfl | hx
  · exact ⟨by decide, by decide⟩
  · rcases List.mem_cons.1 hx with rfl | hx
    · exact ⟨by decide, by decide⟩
    · cases hx
theorem chunkOf_small (l : List Smp) (hl : l.length ≤ 120) (hok : ∀ x ∈ l, x.ok) : (chunkOf l).length ≤ 1000000 := by
  have := encBits_length St.zero l St.zero_ok hok
  have e : (chunkOf l).length = 2 + (pack (encBits St.zero l)).length := by simp [chunkOf]; omega
  rw [e, pack_length]
  omega
theorem two_bits : bitsN two = 161 := by kernel_rfl

set_option maxRecDepth 100000 in
set_option maxHeartbeats 1600000 in
theorem wakes_any (w : World) (hT : TabW w) : Calls Tryd.prog 13 #[] w fun e w' => e = .returned (.bool true) ∧ Below w.heap.size w w' := by
  have HT := Lib.hid hT
  clear hT
  go_enter Tryd.func13, Tryd.ntmps13
  go_wp2_with fail
  obtain ⟨w1, hw1⟩ : ∃ w1, w1 = w.alloc (.cells #[.int .i64 1, .float .f64 4607182418800017408, .int .i64 1001, .float .f64 4607182418800017408] 41) := ⟨_, rfl⟩
  have hx := Blk.new w 41 #[.int .i64 1, .float .f64 4607182418800017408, .int .i64 1001, .float .f64 4607182418800017408]
  have hb : Below w.heap.size w w1 := by rw [hw1]; exact (Below.refl _ w).alloc (Nat.le_refl _) _
  rw [← hw1] at hx ⊢
  have hs : SmpAt w1 w1.heap.size (some ⟨w.heap.size, 0, none⟩) two := by
    refine fun _ => ⟨_, 0, rfl, hx.lt, fun i x hi => ?_⟩
    match i with
    | 0 => cases hi; exact ⟨hx.cell 0, hx.cell 1⟩
    | 1 => cases hi; exact ⟨hx.cell 2, hx.cell 3⟩
    | i + 2 => cases hi
  have hT1 : TabW w1 := HT.out.below hb HT.out.lt
  have HS := Lib.hid hs
  have HB := Lib.hid hb
  have HT1 := Lib.hid hT1
  clear hs hb hT1 hx hw1
  refine (encode_any (some ⟨w.heap.size, 0, none⟩) 2 two w1 HS.out (by decide) two_ok HT1.out).mono ?_
  rintro e w2 ⟨hb2, hq⟩
  rw [if_pos (by decide)] at hq
  obtain ⟨v2, rfl, ho2⟩ := hq
  obtain ⟨A2, c2, rfl, hby2⟩ := own_byt ho2
  have hdec := decode_chunkOf two two_ok (by decide)
  have hbl := chunkOf_small two (by decide) two_ok
  have hclt := chunkOf_lt two
  obtain ⟨cb, hcb⟩ : ∃ cb, cb = chunkOf two := ⟨_, rfl⟩
  rw [← hcb] at hby2 hdec hbl hclt ⊢
  have HBy := Lib.hid hby2
  have HB2 := Lib.hid (HB.out.trans (hb2.mono HB.out.size))
  have HD := Lib.hid hdec
  have HCL := Lib.hid hclt
  have HT2 := Lib.hid (HT1.out.below hb2 HT1.out.lt)
  clear hby2 hb2 ho2 hdec hclt hcb
  go_wp2_with fail
  refine (decode_any A2 c2 cb w2 HBy.out hbl HCL.out HT2.out).mono ?_
  rintro e w3 ⟨hb3, hq⟩
  rw [HD.out] at hq
  obtain ⟨v3, rfl, ho3⟩ := hq
  obtain ⟨A3, c3, rfl, hs3⟩ := own_smp ho3
  obtain ⟨g, off, rfl, hg, hc⟩ := hs3 (by decide)
  obtain ⟨y0, y1⟩ := hc 1 ⟨1001, 4607182418800017408⟩ rfl
  have HB3 := Lib.hid (HB2.out.trans (hb3.mono HB2.out.size))
  have HS3 := Lib.hid hs3
  have HT3 := Lib.hid (HT2.out.below hb3 HT2.out.lt)
  clear hb3 ho3 hs3 hc
  rw [show two.length = 2 from rfl]
  go_wp2_with fail
  refine (bits_any (some ⟨g, off, none⟩) c3 two w3 HS3.out (by decide) two_ok HT3.out).mono ?_
  rintro e w4 ⟨rfl, hb4⟩
  rw [two_bits]
  have HB4 := Lib.hid (HB3.out.trans (hb4.mono HB3.out.size))
  clear hb4
  go_wp2
  go_ret
  exact ⟨rfl, HB4.out⟩
end Go.Proofs.YtjlfkdopkhejbaaDoor
