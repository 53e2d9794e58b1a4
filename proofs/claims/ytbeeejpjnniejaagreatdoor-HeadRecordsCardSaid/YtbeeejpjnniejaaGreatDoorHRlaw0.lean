/- For the law HeadRecords: three heads side by side in memory; lengths. -/
import Derived.Test.YtbeeejpjnniejaaGreatDoorHRtake
import Derived.Test.YtbeeejpjnniejaaGreatDoorHRsel
import Derived.Test.YtbeeejpjnniejaaGreatDoorHRecord
import Derived.Test.YtbeeejpjnniejaaGreatDoorHReplay
import Derived.Test.YtbeeejpjnniejaaGreatDoorHOrder
import Derived.Test.YtbeeejpjnniejaaGreatDoorHKser
import Derived.Test.YtbeeejpjnniejaaGreatDoorHLend
namespace Go.Proofs.YtbeeejpjnniejaaGreatDoor
open Go.RowKit Go.Shelf Go.Maps
theorem pointP_len {l r : List UInt8} {p : Pt} (h : pointP l = some (p, r)) : r.length + 24 ≤ l.length := by
  unfold pointP at h
  split at h
  · cases h
  · rename_i h0
    split at h
    · cases h
    · split at h
      · cases h
      · injection h with h
        injection h with h1 h2
        rw [← h2, List.length_drop]
        omega
theorem pointsP_len : ∀ (f : Nat) (acc : List Pt) (l : List UInt8) (pts : List Pt), pointsP f acc l = some pts → pts.length * 24 ≤ acc.length * 24 + l.length
  | 0, _, _, _, h => by cases h
  | f + 1, acc, l, pts, h => by
    unfold pointsP at h
    split at h
    · injection h with h
      rw [← h]
      omega
    · cases hp : pointP l with
      | none => rw [hp] at h; cases h
      | some x =>
        rw [hp] at h
        have h1 := pointsP_len f _ _ _ h
        have h2 := pointP_len (p := x.1) (r := x.2) hp
        rw [List.length_append, List.length_singleton] at h1
        omega
theorem recB_len : ∀ (pts : List Pt), (∀ p ∈ pts, fitP p.1 = true) → pts.length * 24 ≤ (recB pts).length ∧ (recB pts).length ≤ pts.length * 131353
  | [], _ => ⟨Nat.le_refl _, Nat.le_refl _⟩
  | p :: r, h => by
    have e : recB (p :: r) = recB1 p ++ recB r := rfl
    obtain ⟨h1, h2⟩ := recB_len r fun q hq => h q (List.mem_cons_of_mem _ hq)
    have h3 := recB1_len p
    have h4 := lbytes_len (fitP_fit (h p List.mem_cons_self))
    rw [e, List.length_append, List.length_cons]
    omega
/-- three heads, apart: the program's two, the document's -/
structure RcS (w : World) (pa pb pr na nb nr : Nat) (Fa Fb Fr : Nat → Prop) (Ha Hb Hr : Hd) (W : World) : Prop where
  a : HdAt W Fa pa na Ha
  b : HdAt W Fb pb nb Hb
  r : RHd W Fr pr nr Hr
  fa : ∀ j, Fa j → w.heap.size ≤ j ∧ j < W.heap.size
  fb : ∀ j, Fb j → w.heap.size ≤ j ∧ j < W.heap.size
  fr : ∀ j, Fr j → w.heap.size ≤ j ∧ j < W.heap.size
  ab : ∀ j, Fa j → ¬ Fb j
  ar : ∀ j, Fa j → ¬ Fr j
  br : ∀ j, Fb j → ¬ Fr j
  bel : Below w.heap.size w W
section
variable {w W W2 : World} {pa pb pr na nb nr n2 : Nat} {Fa Fb Fr : Nat → Prop} {Ha Hb Hr H2 : Hd}
theorem RcS.below (h : RcS w pa pb pr na nb nr Fa Fb Fr Ha Hb Hr W) (hb : Below W.heap.size W W2) : RcS w pa pb pr na nb nr Fa Fb Fr Ha Hb Hr W2 :=
  have hs := hb.size
  ⟨h.a.below hb, h.b.below hb, h.r.below hb, fun j hj => ⟨(h.fa j hj).1, Nat.lt_of_lt_of_le (h.fa j hj).2 hs⟩, fun j hj => ⟨(h.fb j hj).1, Nat.lt_of_lt_of_le (h.fb j hj).2 hs⟩, fun j hj => ⟨(h.fr j hj).1, Nat.lt_of_lt_of_le (h.fr j hj).2 hs⟩, h.ab, h.ar, h.br, h.bel.trans (hb.mono h.bel.size)⟩
theorem chg_bel {F : Nat → Prop} (hb : Below w.heap.size w W) (hF : ∀ j, F j → w.heap.size ≤ j) (hc : Chg F W W2) : Below w.heap.size w W2 :=
  hb.trans ⟨hc.os, hc.tape, hc.output, hc.size, fun j hj => hc.block j (Nat.lt_of_lt_of_le hj hb.size) fun hf => by have := hF j hf; omega⟩
theorem RHd.far {Q F : Nat → Prop} {p n : Nat} {H : Hd} (h : RHd W F p n H) (hc : Chg Q W W2) (hq : ∀ k, F k → ¬ Q k) : RHd W2 F p n H := h.keep (fun k hk hlt => hc.block k hlt (hq k hk)) fun _ h _ => h
theorem RcS.chgA (h : RcS w pa pb pr na nb nr Fa Fb Fr Ha Hb Hr W) (hd : HdAt W2 (Grs Fa W W2) pa n2 H2) (hc : Chg Fa W W2) : RcS w pa pb pr n2 nb nr (Grs Fa W W2) Fb Fr H2 Hb Hr W2 := by
  have hs := hc.size
  have hw := h.bel.size
  refine ⟨hd, h.b.far hc fun k hk => h.ab k hk, h.r.far hc fun k hk hq => h.ar k hq hk, fun j hj => ⟨?_, hj.2⟩, fun j hj => ⟨(h.fb j hj).1, Nat.lt_of_lt_of_le (h.fb j hj).2 hs⟩, fun j hj => ⟨(h.fr j hj).1, Nat.lt_of_lt_of_le (h.fr j hj).2 hs⟩, fun j hj hk => ?_, fun j hj hk => ?_, h.br, chg_bel h.bel (fun j hj => (h.fa j hj).1) hc⟩
  · rcases hj.1 with h1 | h1
    · exact (h.fa j h1).1
    · omega
  · rcases hj.1 with h1 | h1
    · exact h.ab j h1 hk
    · have := (h.fb j hk).2; omega
  · rcases hj.1 with h1 | h1
    · exact h.ar j h1 hk
    · have := (h.fr j hk).2; omega
theorem RcS.chgB (h : RcS w pa pb pr na nb nr Fa Fb Fr Ha Hb Hr W) (hd : HdAt W2 (Grs Fb W W2) pb n2 H2) (hc : Chg Fb W W2) : RcS w pa pb pr na n2 nr Fa (Grs Fb W W2) Fr Ha H2 Hr W2 := by
  have hs := hc.size
  have hw := h.bel.size
  refine ⟨h.a.far hc fun k hk hq => h.ab k hq hk, hd, h.r.far hc fun k hk hq => h.br k hq hk, fun j hj => ⟨(h.fa j hj).1, Nat.lt_of_lt_of_le (h.fa j hj).2 hs⟩, fun j hj => ⟨?_, hj.2⟩, fun j hj => ⟨(h.fr j hj).1, Nat.lt_of_lt_of_le (h.fr j hj).2 hs⟩, fun j hj hk => ?_, h.ar, fun j hj hk => ?_, chg_bel h.bel (fun j hj => (h.fb j hj).1) hc⟩
  · rcases hj.1 with h1 | h1
    · exact (h.fb j h1).1
    · omega
  · rcases hk.1 with h1 | h1
    · exact h.ab j hj h1
    · have := (h.fa j hj).2; omega
  · rcases hj.1 with h1 | h1
    · exact h.br j h1 hk
    · have := (h.fr j hk).2; omega
theorem RcS.chgR (h : RcS w pa pb pr na nb nr Fa Fb Fr Ha Hb Hr W) (hd : RHd W2 (Grs Fr W W2) pr n2 H2) (hc : Chg Fr W W2) : RcS w pa pb pr na nb n2 Fa Fb (Grs Fr W W2) Ha Hb H2 W2 := by
  have hs := hc.size
  have hw := h.bel.size
  refine ⟨h.a.far hc fun k hk hq => h.ar k hq hk, h.b.far hc fun k hk hq => h.br k hq hk, hd, fun j hj => ⟨(h.fa j hj).1, Nat.lt_of_lt_of_le (h.fa j hj).2 hs⟩, fun j hj => ⟨(h.fb j hj).1, Nat.lt_of_lt_of_le (h.fb j hj).2 hs⟩, fun j hj => ⟨?_, hj.2⟩, h.ab, fun j hj hk => ?_, fun j hj hk => ?_, chg_bel h.bel (fun j hj => (h.fr j hj).1) hc⟩
  · rcases hj.1 with h1 | h1
    · exact (h.fr j h1).1
    · omega
  · rcases hk.1 with h1 | h1
    · exact h.ar j hj h1
    · have := (h.fa j hj).2; omega
  · rcases hk.1 with h1 | h1
    · exact h.br j hj h1
    · have := (h.fb j hj).2; omega
/-- a block that is none of theirs is spoilt -/
theorem RcS.spoil {g : Nat} (h : RcS w pa pb pr na nb nr Fa Fb Fr Ha Hb Hr W) (hg : W.grownBy W2 (some g)) (hw : w.heap.size ≤ g) (ga : ¬ Fa g) (gb : ¬ Fb g) (gr : ¬ Fr g) : RcS w pa pb pr na nb nr Fa Fb Fr Ha Hb Hr W2 := by
  have hs := hg.size
  have hc : Chg (fun k => k = g) W W2 := ⟨hg.os, hg.tape, hg.output, hg.size, fun k hk hn => hg.block k hk fun e => by injection e with e; exact hn e⟩
  exact ⟨h.a.far hc fun k hk hf => ga (hk ▸ hf), h.b.far hc fun k hk hf => gb (hk ▸ hf), h.r.far hc fun k hk hq => gr (hq ▸ hk), fun j hj => ⟨(h.fa j hj).1, Nat.lt_of_lt_of_le (h.fa j hj).2 hs⟩, fun j hj => ⟨(h.fb j hj).1, Nat.lt_of_lt_of_le (h.fb j hj).2 hs⟩, fun j hj => ⟨(h.fr j hj).1, Nat.lt_of_lt_of_le (h.fr j hj).2 hs⟩, h.ab, h.ar, h.br,
    chg_bel h.bel (fun j hj => by rw [hj]; exact hw) hc⟩
theorem RcS.mono (h : RcS w pa pb pr na nb nr Fa Fb Fr Ha Hb Hr W) {ma mb mr : Nat} (h1 : na ≤ ma) (h2 : nb ≤ mb) (h3 : nr ≤ mr) : RcS w pa pb pr ma mb mr Fa Fb Fr Ha Hb Hr W := ⟨h.a.mono h1, h.b.mono h2, h.r.mono h3, h.fa, h.fb, h.fr, h.ab, h.ar, h.br, h.bel⟩
end
/-- what Select answers, read -/
theorem SelPost.rd {w w' : World} {ss : List Ser} {e : Ending} (h : SelPost w 0 ss e w') : ∃ v, e = .returned (.tuple #[v, .int .i64 0]) ∧ Below w.heap.size w w' ∧ SersRd w' w'.heap.size v ss := by
  obtain ⟨v, rfl, hb, h2⟩ := h
  rw [if_pos rfl] at h2
  obtain ⟨vs, hl, ho, he⟩ := h2
  obtain ⟨A, c, rfl⟩ := own_slice ho
  exact ⟨_, rfl, hb, A, c, vs, rfl, hl, Reads.of_own ho, fun i p s a b => (he i p s a b).rd⟩
theorem sel_lens2 {H : Hd} {n : Nat} (hok : H.Ok) (h : ∀ x ∈ H.ss, x.2.length ≤ n) (hn : n ≤ 100000) {mean : List Lbl → Bool} {a b : Int} : ∀ s ∈ H.sel mean a b, s.1.length ≤ 100000 ∧ s.2.length ≤ 100000 := fun s hs => by
  have h1 := (fitP_fit ((sel_ok hok mean a b).fit s hs)).1
  have h2 := sel_lens h s hs
  omega
theorem reads_prefix {w : World} {B n m : Nat} {A : Option Addr} {l : List UInt8} (h : Reads w B 1 A n (bytesV l)) (hm : m ≤ n) : Reads w B 1 A m (bytesV (l.take m)) := by
  have h1 := h.take2 hm
  rw [Nat.mul_one, bytesV_take2] at h1
  exact h1
end Go.Proofs.YtbeeejpjnniejaaGreatDoor
