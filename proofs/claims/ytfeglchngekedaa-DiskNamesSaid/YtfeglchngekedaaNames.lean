/- The walk of the law DiskNames (function 4). -/
import Derived.Test.YtfeglchngekedaaWakes
import Derived.Test.YtfeglchngekedaaRName
namespace Go.Proofs.Ytfeglchngekedaa
open Go.RowKit Go.Shelf Go.Maps

/-- Create on a disk that neither stops nor faults -/
theorem plain_create {w w' : World} {F : Nat → Prop} {p : Nat} {s : DS} {nm : ByteArray} {e : Ending} (h1 : s.stopped = false) (h2 : s.flts = []) (h : CreatePost w F p s nm e w') :
    ∃ c : Int, e = .returned (.int .i64 c) ∧ (rightB nm = false → c = 2) ∧ (rightB nm = true → c = 0 ∨ c = 4) ∧ ∃ s', DiskAt w' (Gr F w) p s' ∧ Chg F w w' ∧ s'.stopped = false ∧ s'.flts = [] ∧ s'.ops = s.ops + 1 := by
  obtain ⟨v, s', rfl, hD, hC, hs⟩ := h
  have hl : leftF s.flts s.ops = [] := by rw [h2]; rfl
  have hb : ∀ b, rightB nm = b → beginS s [nm] = (0, if b then 0 else 2) := by
    intro b hb
    unfold beginS
    rw [if_neg (by simp [h1]), h2]
    simp only [struckF, List.find?_nil, Option.map_none]
    cases b <;> simp [hb]
  refine ⟨_, rfl, fun hr => ?_, fun hr => ?_, s', hD, hC, ?_⟩
  · unfold createC
    rw [hb _ hr]
    rfl
  · unfold createC
    rw [hb _ hr]
    cases hd : dget s.names nm.data.toList with
    | none => exact .inl (by simp)
    | some g => exact .inr (by simp)
  · rcases hs with ⟨-, rfl⟩ | ⟨-, -, -, g, v2, -, rfl⟩
    · exact ⟨h1, hl, rfl⟩
    · exact ⟨h1, hl, rfl⟩

def NamR (w : World) (p n : Nat) (i : Value) (wr : World) : Prop :=
  ∃ (k : Nat) (s : DS), k ≤ n ∧ k ≤ 100 ∧ i = .int .i64 k ∧ DiskAt wr (fun x => w.heap.size ≤ x) p s ∧ s.ops = k ∧ s.stopped = false ∧ s.flts = [] ∧ Below w.heap.size w wr

set_option maxRecDepth 100000 in
set_option maxHeartbeats 6400000 in
theorem names_any (w : World) (A : Option Addr) (n c : Nat) (l : List ByteArray) (hR : Reads w w.heap.size 1 A n (l.map Value.string)) (hn : n ≤ maxLen) (hl : ∀ x ∈ l, x.size ≤ maxLen) :
    Calls Try.prog 4 #[.slice A n c] w fun e w' => e = .returned (.bool true) ∧ Below w.heap.size w w' := by
  have hln : l.length = n := by have := hR.1; simpa using this
  have hn2 : n ≤ 9223372036854775807 := Nat.le_trans hn (by simp [maxLen])
  have HR := Lib.hid hR
  have HL := Lib.hid hl
  clear hR hl
  go_enter Try.func4, Try.ntmps4
  go_wp2_with fail
  refine (new_any 10 w (by omega)).mono ?_
  rintro e w1 ⟨p, mn, ms, rfl, hD1, hb1⟩
  have HD1 := Lib.hid hD1
  have HB1 := Lib.hid hb1
  clear hD1 hb1
  go_wp2_with fail
  go_loopw [4] (fun i wr => NamR w p n i wr) (fun i _ => n - (intOf i).toNat)
  case atStart => exact ⟨0, _, Nat.zero_le _, Nat.zero_le _, rfl, HD1.out, rfl, rfl, rfl, HB1.out⟩
  case round =>
    obtain ⟨k, s, hk, hk1, rfl, hD, hops, hst, hfl, hb⟩ := hrel
    have hbs := hb.size
    by_cases hlt : k < n ∧ k < 100
    · obtain ⟨hlt1, hlt2⟩ := hlt
      obtain ⟨ad, u, rfl, hadb, hu, hcell⟩ := HR.out.at_ hlt1
      obtain ⟨nm, hnm⟩ : ∃ nm, nm = l[k]'(by omega) := ⟨_, rfl⟩
      have hu2 : u = .string nm := by
        rw [List.getElem?_map, List.getElem?_eq_getElem (by omega), ← hnm] at hu
        injection hu with hu
        exact hu.symm
      subst hu2
      have hsz := HL.out nm (by rw [hnm]; exact List.getElem_mem _)
      have hsz2 : nm.size ≤ 9223372036854775807 := Nat.le_trans hsz (by simp [maxLen])
      have x0 : wr.cell? (ad.add k) = some (.string nm) := (hb.cell (by rw [block_of_add]; exact hadb)).trans hcell
      have HD := Lib.hid hD
      have HB := Lib.hid hb
      have HU := Lib.hid hu
      have HC := Lib.hid hcell
      have HST := Lib.hid hst
      have HFL := Lib.hid hfl
      have HOP := Lib.hid hops
      clear hD hb hu hcell hnm hst hfl hops
      go_wp2_with fail
      refine (create_any wr _ p s nm HD.out hsz2 hsz (by rw [HOP.out]; omega) (by rw [HFL.out]; exact Nat.zero_le _)).mono ?_
      rintro e w2 hp2
      obtain ⟨c2, rfl, hc1, hc2, s2, hD2, hC2, hst2, hfl2, hop2⟩ := plain_create HST.out HFL.out hp2
      have hB2 : Below w.heap.size wr w2 := hC2.toBelow (fun k hk => hk) hbs
      have x1 : w2.cell? (ad.add k) = some (.string nm) := (hB2.cell (by rw [block_of_add]; exact hadb)).trans x0
      have HD2 := Lib.hid (hD2.inF (G := fun k => w.heap.size ≤ k) (fun k hk => by rcases hk with h | h <;> omega))
      have HB2 := Lib.hid (HB.out.trans hB2)
      have HST2 := Lib.hid hst2
      have HFL2 := Lib.hid hfl2
      have HOP2 := Lib.hid hop2
      clear hp2 hD2 hC2 hst2 hfl2 hop2 hB2 x0
      cases hrt : rightB nm with
      | false =>
        obtain rfl := hc1 hrt
        have HRT := Lib.hid hrt
        clear hc1 hc2 hrt
        go_wp2_with fail
        refine (rright_any nm w2 hsz2).mono ?_
        rintro e w3 ⟨rfl, rfl⟩
        rw [HRT.out]
        go_wp2_with fail
        refine (rright_any nm w2 hsz2).mono ?_
        rintro e w3 ⟨rfl, rfl⟩
        rw [HRT.out]
        go_wp2
        exact ⟨⟨k + 1, s2, by omega, by omega, by go_num, HD2.out, by rw [HOP2.out, HOP.out], HST2.out, HFL2.out, HB2.out⟩, by simp [intOf]; omega⟩
      | true =>
        have HRT := Lib.hid hrt
        have hc3 := hc2 hrt
        clear hc1 hc2 hrt
        rcases hc3 with rfl | rfl
        all_goals
          go_wp2_with fail
          refine (rright_any nm w2 hsz2).mono ?_
          rintro e w3 ⟨rfl, rfl⟩
          rw [HRT.out]
          go_wp2_with fail
          refine (rright_any nm w2 hsz2).mono ?_
          rintro e w3 ⟨rfl, rfl⟩
          rw [HRT.out]
          go_wp2
          exact ⟨⟨k + 1, s2, by omega, by omega, by go_num, HD2.out, by rw [HOP2.out, HOP.out], HST2.out, HFL2.out, HB2.out⟩, by simp [intOf]; omega⟩
    · have HB := Lib.hid hb
      clear hb hD hst hfl
      by_cases hkn : k < n
      case' pos =>
        have hk100 : ¬ k < 100 := fun h => hlt ⟨hkn, h⟩
        have hk2 : k = 100 := by omega
        clear hk100 hlt
      case' neg =>
        have hk2 : k = n := by omega
        clear hlt
      all_goals
        subst hk2
        go_wp2_with fail
        refine (wakes_any wr).mono ?_
        rintro e w2 ⟨rfl, hb2⟩
        have HB2 := Lib.hid (HB.out.trans (hb2.mono hbs))
        clear hb2
        go_wp2
        go_ret
        exact ⟨rfl, HB2.out⟩
end Go.Proofs.Ytfeglchngekedaa
