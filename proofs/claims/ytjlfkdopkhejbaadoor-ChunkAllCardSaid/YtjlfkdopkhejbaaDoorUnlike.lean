/- The walk of the law ChunkUnlike. -/
import Derived.Test.YtjlfkdopkhejbaaDoorLaws
import Derived.Test.YtjlfkdopkhejbaaDoorCls
namespace Go.Proofs.YtjlfkdopkhejbaaDoor
open Go.RowKit Go.Shelf Ck
attribute [local go_sem] frombits_call tobits_call run_store_float

/-- what a law's first lines make of a row of samples: at most 120 of them -/
structure Few (w : World) (A : Option Addr) (m cap : Nat) (k : List Smp) : Prop where
  at_ : SmpAt w w.heap.size A k
  len : m = k.length
  few : k.length ≤ 120
  cap_ : k.length ≤ cap
  ok : ∀ x ∈ k, x.ok

theorem Few.below {w w' : World} {A : Option Addr} {m cap : Nat} {k : List Smp} (h : Few w A m cap k) (hb : Below w.heap.size w w') : Few w' A m cap k :=
  ⟨(h.at_.below hb).mono hb.size, h.len, h.few, h.cap_, h.ok⟩
theorem Few.encode {w : World} {A : Option Addr} {m cap : Nat} {k : List Smp} (h : Few w A m cap k) (hT : TabW w) : Calls Tryd.prog 10 #[.slice A m cap] w fun e w' =>
    (∃ B c, e = .returned (.tuple #[.slice B (chunkOf k).length c, .int .i64 0]) ∧ BytAt w' w'.heap.size B (chunkOf k)) ∧ Below w.heap.size w w' := by
  rw [h.len]
  refine (encode_any A cap k w h.at_ (by have := h.few; omega) h.ok hT).mono ?_
  rintro e w2 ⟨hb2, hq⟩
  rw [if_pos h.few] at hq
  obtain ⟨v2, rfl, ho2⟩ := hq
  obtain ⟨B, c, rfl, hby⟩ := own_byt ho2
  exact ⟨⟨B, c, rfl, hby⟩, hb2⟩

theorem few_of {w : World} {A : Option Addr} {cap : Nat} {l : List Smp} (h : SmpAt w w.heap.size A l) (hc : l.length ≤ cap) (hok : ∀ x ∈ l, x.ok) :
    ∃ k, (l.length ≤ 120 → Few w A l.length cap k) ∧ (120 < l.length → Few w A 120 cap k) :=
  ⟨l.take 120, fun hl => ⟨h.take 120, by simp; omega, by simp; omega, by simp; omega, fun x hx => hok x (List.mem_of_mem_take hx)⟩, fun hl => ⟨h.take 120, by simp; omega, by simp; omega, by simp; omega, fun x hx => hok x (List.mem_of_mem_take hx)⟩⟩

theorem Few.same {w w3 : World} {A1 A2 : Option Addr} {m1 m2 c1 c2 : Nat} {k1 k2 : List Smp} (h1 : Few w A1 m1 c1 k1) (h2 : Few w A2 m2 c2 k2) (hb : Below w.heap.size w w3) (s : Cls w3) :
    Calls Tryd.prog 12 #[.slice A1 m1 c1, .slice A2 m2 c2] s.val fun e w' => e = .returned (.bool (YtjlfkdopkhejbaaDoor.same k1 k2)) ∧ Below s.val.heap.size s.val w' := by
  rw [h1.len, h2.len]
  exact (samples_any A1 A2 c1 c2 w.heap.size w.heap.size k1 k2 s.val (h1.at_.below (hb.trans (s.2.mono hb.size))) (h2.at_.below (hb.trans (s.2.mono hb.size))) (by have := h1.few; omega) (by have := h2.few; omega)).mono fun e w' hh => ⟨hh.1, hh.2.below s.val.heap.size⟩

set_option maxRecDepth 100000 in
set_option maxHeartbeats 1600000 in
theorem unlike_any (A1 A2 : Option Addr) (c1 c2 : Nat) (l1 l2 : List Smp) (w : World) (h1 : SmpAt w w.heap.size A1 l1) (hc1 : l1.length ≤ c1) (ho1 : ∀ x ∈ l1, x.ok) (h2 : SmpAt w w.heap.size A2 l2) (hc2 : l2.length ≤ c2) (ho2 : ∀ x ∈ l2, x.ok) (hT : TabW w) :
    Calls Tryd.prog 6 #[.slice A1 l1.length c1, .slice A2 l2.length c2] w fun e w' => e = .returned (.bool true) ∧ Below w.heap.size w w' := by
  obtain ⟨k1, f1, f1'⟩ := few_of h1 hc1 ho1
  obtain ⟨k2, f2, f2'⟩ := few_of h2 hc2 ho2
  have F1 := Lib.hid f1
  have F1' := Lib.hid f1'
  have F2 := Lib.hid f2
  have F2' := Lib.hid f2'
  have HT := Lib.hid hT
  clear h1 h2 ho1 ho2 f1 f1' f2 f2' hT
  rcases Nat.lt_or_ge 120 l1.length with n1 | n1 <;> rcases Nat.lt_or_ge 120 l2.length with n2 | n2
  case' inl.inl =>
    have H1 := Lib.hid (F1'.out (by omega))
    have g1 : (120 : Int) < (l1.length : Int) := by omega
    have q1 : (120 : Int) ≤ (c1 : Int) := by omega
    have H2 := Lib.hid (F2'.out (by omega))
    have g2 : (120 : Int) < (l2.length : Int) := by omega
    have q2 : (120 : Int) ≤ (c2 : Int) := by omega
  case' inl.inr =>
    have H1 := Lib.hid (F1'.out (by omega))
    have g1 : (120 : Int) < (l1.length : Int) := by omega
    have q1 : (120 : Int) ≤ (c1 : Int) := by omega
    have H2 := Lib.hid (F2.out n2)
    have g2 : (l2.length : Int) ≤ 120 := by omega
  case' inr.inl =>
    have H1 := Lib.hid (F1.out n1)
    have g1 : (l1.length : Int) ≤ 120 := by omega
    have H2 := Lib.hid (F2'.out (by omega))
    have g2 : (120 : Int) < (l2.length : Int) := by omega
    have q2 : (120 : Int) ≤ (c2 : Int) := by omega
  case' inr.inr =>
    have H1 := Lib.hid (F1.out n1)
    have g1 : (l1.length : Int) ≤ 120 := by omega
    have H2 := Lib.hid (F2.out n2)
    have g2 : (l2.length : Int) ≤ 120 := by omega
  all_goals clear F1 F1' F2 F2'
  all_goals go_enter Tryd.func6, Tryd.ntmps6
  all_goals go_wp2_with fail
  all_goals
    refine (H1.out.encode HT.out).mono ?_
    rintro e w2 ⟨⟨E1, x1, rfl, hy1⟩, hb2⟩
    have HB2 := Lib.hid hb2
    have HY1 := Lib.hid hy1
    have HT2 := Lib.hid (HT.out.below hb2 HT.out.lt)
    have H22 := Lib.hid (H2.out.below hb2)
    have hlt1 := chunkOf_lt k1
    have hlt2 := chunkOf_lt k2
    have hinj : (decide (chunkOf k1 = chunkOf k2) == same k1 k2) = true := by
      by_cases h : k1 = k2
      · subst h; simp [same]
      · have : chunkOf k1 ≠ chunkOf k2 := fun e => h (chunkOf_inj k1 k2 H1.out.ok H2.out.ok H1.out.few H2.out.few e)
        simp [same, h, this]
    obtain ⟨cb1, hcb1⟩ : ∃ cb, cb = chunkOf k1 := ⟨_, rfl⟩
    obtain ⟨cb2, hcb2⟩ : ∃ cb, cb = chunkOf k2 := ⟨_, rfl⟩
    have HC2 := Lib.hid hcb2
    rw [← hcb1] at HY1 hlt1 hinj ⊢
    rw [← hcb2] at hlt2 hinj
    have HL1 := Lib.hid hlt1
    have HL2 := Lib.hid hlt2
    have HIN := Lib.hid hinj
    clear hb2 hy1 hcb1 hcb2 hlt1 hlt2 hinj
    go_wp2_with fail
    refine (H22.out.encode HT2.out).mono ?_
    rw [← HC2.out]
    rintro e w3 ⟨⟨E2, x2, rfl, hy2⟩, hb3⟩
    have HY13 := Lib.hid (HY1.out.below hb3)
    have HY23 := Lib.hid hy2
    have HB3 := Lib.hid (HB2.out.trans (hb3.mono HB2.out.size))
    have HT3 := Lib.hid (HT2.out.below hb3 HT2.out.lt)
    have HS := Lib.hid (H1.out.same H2.out HB3.out)
    have HW := Lib.hid (fun s : Cls w3 => wakes_any s.val (HT3.out.below s.2 HT3.out.lt))
    have j1 := fun s : Cls w3 => conv_any (HY13.out.below (s.2.mono hb3.size)) x1
    have j2 := fun s : Cls w3 => conv_any (HY23.out.below s.2) x2
    have HIN' := HIN.out
    rw [← strOf_eq cb1 cb2 HL1.out HL2.out] at HIN'
    clear hy2 hb3
    go_wp2_with fail
    refine wp_region_cls (by kernel_rfl) (by kernel_rfl) ?_
    repeat (go_big_quiet_step ((first | (go_at_call 12; exact Cls.call (HS.out _)) | (go_at_call 13; exact Cls.call (HW.out _)))))
    refine wpQuiet_nil ?_
    rintro _ ⟨s, rfl⟩
    go_wp2
    go_ret
    exact ⟨rfl, HB3.out.trans (s.2.mono HB3.out.size)⟩
end Go.Proofs.YtjlfkdopkhejbaaDoor
