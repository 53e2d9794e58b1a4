/- Commit. slices.SortedFunc over maps.Keys of a directory. sorted: the head's series, rising. from: the place of the first sample that is no older. -/
import Derived.Test.YtbeeejpjnniejaaGreatDoorJ09HCommit1
import Derived.StillTailTactics
import Derived.Test.YtbeeejpjnniejaaGreatDoorJ08Rx6
import Derived.Test.YtbeeejpjnniejaaGreatDoorShelf
import Derived.Test.YtbeeejpjnniejaaGreatDoorJ00Lib
import Derived.Sort.OwnSorted
namespace Go.Proofs.YtbeeejpjnniejaaGreatDoor
open Go.RowKit Go.Shelf Go.Maps
attribute [local go_sem] run_store_float
/-! ### plainly -/
theorem taken_each : ∀ (l : List Pt) (H : Hd) (k : Nat) (q : Pt), (H.taken l)[k]? = some q → (H.adds ((H.taken l).take k)).code q = 0
  | [], _, _, _, h => by simp [Hd.taken] at h
  | p :: r, H, k, q, h => by
    unfold Hd.taken at h ⊢
    unfold Hd.take1 at h ⊢
    by_cases hc : H.code p = 0
    · rw [if_pos hc] at h ⊢
      rw [if_pos hc] at h ⊢
      cases k with
      | zero =>
        simp at h
        subst h
        exact hc
      | succ k =>
        rw [List.getElem?_cons_succ] at h
        exact taken_each r (H.add p) k q h
    · rw [if_neg hc] at h ⊢
      rw [if_neg hc] at h ⊢
      exact taken_each r H k q h
theorem adds_snoc (H : Hd) (l : List Pt) (q : Pt) : H.adds (l ++ [q]) = (H.adds l).add q := by unfold Hd.adds; rw [List.foldl_append]; rfl
theorem code_fit {H : Hd} {q : Pt} (h : H.code q = 0) : fitP q.1 = true := by
  unfold Hd.code at h
  split at h
  · assumption
  · omega
theorem LabsAt.keepQ {w w' : World} {B : Nat} {v : Value} {ls : List Lbl} (h : LabsAt w B v ls) (hb : ∀ k, useB v = some k → k < B → w'.heap[k]? = w.heap[k]?) : LabsAt w' B v ls := by
  obtain ⟨A, c, rfl, h1, h2⟩ := h
  refine ⟨A, c, rfl, h1, fun hn => ?_⟩
  obtain ⟨ad, rfl, hB, hc⟩ := h2 hn
  have hu : useB (.slice (some ad) ls.length c) = some ad.block := by
    cases hl : ls.length with
    | zero => omega
    | succ n => rfl
  exact ⟨ad, rfl, hB, fun j u hj => (World.cell?_of_block (by rw [block_of_add]; exact hb _ hu hB)).trans (hc j u hj)⟩
theorem CmtB.keepF {B base bk bp : Nat} {Q F : Nat → Prop} {l : List Pt} {G : Nat → Prop} {W W' : World} {vk vp : Value} {vs : List (Value × Int × Nat)} (h : CmtB B base bk bp Q l G W vk vp vs) (hc : Chg F W W') (hG : ∀ k, G k → ¬ F k) (hQ : ∀ k, Q k → ¬ F k) (hB : B ≤ W.heap.size) : CmtB B base bk bp Q l G W' vk vp vs :=
  have hk : ∀ k, G k → W'.heap[k]? = W.heap[k]? := fun k hk => hc.block k (h.lt k hk).2 (hG k hk)
  ⟨(hk bk ((h.own _).2 (.inl rfl))).trans h.kb, (hk bp ((h.own _).2 (.inr (.inl rfl)))).trans h.pb, own_blk h.keys fun g hg => hk g ((h.own _).2 (.inr (.inr (.inl hg)))), h.len, own_blk h.points fun g hg => hk g ((h.own _).2 (.inr (.inr (.inr hg)))),
    fun i x p a b => ⟨(h.each i x p a b).1, (h.each i x p a b).2.1.keepQ fun k e hk => hc.block k (by omega) (hQ k ((h.each i x p a b).2.2.2 k e)), (h.each i x p a b).2.2⟩, h.own, h.lo⟩
/-- one point of what is collected -/
theorem CmtB.at_ {B base bk bp : Nat} {Q : Nat → Prop} {l : List Pt} {G : Nat → Prop} {W : World} {vk vp : Value} {vs : List (Value × Int × Nat)} (h : CmtB B base bk bp Q l G W vk vp vs) {i : Nat} {q : Pt} (hq : l[i]? = some q) :
    ∃ dk ck dp cp AL cL, vk = .slice (some dk) l.length ck ∧ vp = .slice (some dp) l.length cp ∧ W.cell? (dk.add i) = some (.string (keyS q.1)) ∧ W.cell? (dp.add (i * 3)) = some (.slice AL q.1.length cL) ∧ W.cell? ⟨(dp.add (i * 3)).block, (dp.add (i * 3)).off + 1, none⟩ = some (.int .i64 q.2.1) ∧ W.cell? ⟨(dp.add (i * 3)).block, (dp.add (i * 3)).off + 2, none⟩ = some (.float .f64 q.2.2) ∧ LabsAt W B (.slice AL q.1.length cL) q.1 := by
  have hlt := (List.getElem?_eq_some_iff.1 hq).1
  obtain ⟨Ak, ck, ek⟩ := own_slice h.keys
  obtain ⟨Ap, cp, ep⟩ := own_slice h.points
  have hk := h.keys
  have hp := h.points
  rw [ek] at hk
  rw [ep] at hp
  obtain ⟨dk, u, rfl, -, hu, hcu⟩ := (Reads.of_own hk).at_ hlt
  obtain ⟨x, hx⟩ : ∃ x, vs[i]? = some x := ⟨_, List.getElem?_eq_getElem (by rw [h.len]; omega)⟩
  obtain ⟨k1, k2, -, -⟩ := h.each i x q hx hq
  obtain ⟨g0, g1, g2⟩ := ptsV_get vs i x hx
  obtain ⟨dp, rfl, -, x0, x1, x2⟩ := (Reads.of_own hp).three hlt g0 g1 g2
  rw [k1] at x1 x2
  have k2' := k2
  obtain ⟨AL, cL, e3, -⟩ := k2'
  rw [e3] at x0 k2
  rw [List.getElem?_map, hq] at hu
  injection hu with hu
  exact ⟨dk, ck, dp, cp, AL, cL, ek, ep, by rw [← hu] at hcu; exact hcu, x0, x1, x2, k2⟩
def CmL (w3 : World) (F : Nat → Prop) (p n : Nat) (H : Hd) (l : List Pt) (i : Value) (wr : World) : Prop := ∃ k : Nat, i = .int .i64 (k : Int) ∧ k ≤ l.length ∧ HdAt wr (Grs F w3 wr) p (n + k) (H.adds (l.take k)) ∧ Chg F w3 wr
def CommitPost (w : World) (F : Nat → Prop) (p n : Nat) (H : Hd) (pts : List Pt) (e : Ending) (w' : World) : Prop :=
  e = .returned (.int .i64 (H.taken pts).length) ∧ HdAt w' (Grs F w w') p (n + pts.length) (H.take pts).2 ∧ Chg F w w'
theorem grs_of {F : Nat → Prop} {w w3 w' : World} (h : w.heap.size ≤ w3.heap.size) (k : Nat) (hk : Grs F w3 w' k) : Grs F w w' k :=
  ⟨hk.1.elim .inl fun h1 => .inr (by omega), hk.2⟩
theorem grs_grs {F : Nat → Prop} {w w3 w' : World} (h : w.heap.size ≤ w3.heap.size) (k : Nat) (hk : Grs (Grs F w w3) w3 w' k) : Grs F w w' k :=
  ⟨hk.1.elim (fun h1 => h1.1) fun h1 => .inr (by omega), hk.2⟩
set_option maxRecDepth 100000 in
set_option maxHeartbeats 6400000 in
theorem commit_any (w : World) (F : Nat → Prop) (p n B : Nat) (H : Hd) (v : Value) (pts : List Pt) (hh : HdAt w F p n H) (hp : PtsAt w B (fun k => ¬ F k) v pts) (hT : Tabs w) (hB : 2 < B ∧ B ≤ w.heap.size) (hF : ∀ k, F k → k < w.heap.size) (hN : pts.length ≤ 50000) (hn : n ≤ 50000) :
    Calls Tryz.prog 14 #[.pointer (some ⟨p, 0, none⟩), v] w (CommitPost w F p n H pts) := by
  obtain ⟨l, hl⟩ : ∃ l, l = H.taken pts := ⟨_, rfl⟩
  obtain ⟨m, hm⟩ : ∃ m, m = l.length := ⟨_, rfl⟩
  have hml : m ≤ pts.length := by rw [hm, hl]; exact taken_len _ _
  obtain ⟨w1, hw1⟩ : ∃ w1, w1 = w.alloc (.cells #[.slice none 0 0] 88) := ⟨_, rfl⟩
  obtain ⟨w2, hw2⟩ : ∃ w2, w2 = w1.alloc (.cells #[.slice none 0 0] 22) := ⟨_, rfl⟩
  have hs1 : w1.heap.size = w.heap.size + 1 := by rw [hw1]; simp
  have hs2 : w2.heap.size = w.heap.size + 2 := by rw [hw2]; simp [hs1]
  have hb1 : Below w.heap.size w w1 := by rw [hw1]; exact (Below.refl _ w).alloc (Nat.le_refl _) _
  have hb2 : Below w.heap.size w w2 := by rw [hw2]; exact hb1.alloc hb1.size _
  have hk2 : Blk w2 w.heap.size 88 #[.slice none 0 0] := by rw [hw2, hw1]; exact (Blk.new w 88 _).alloc _
  have hp2 : Blk w2 w1.heap.size 22 #[.slice none 0 0] := by rw [hw2]; exact Blk.new w1 22 _
  rw [hs1] at hp2
  have hJ0 : CmtJ B w.heap.size w.heap.size (w.heap.size + 1) (fun k => ¬ F k) [] (fun k => k = w.heap.size ∨ k = w.heap.size + 1) w2 :=
    ⟨_, _, [], hk2, hp2, World.ownsRow_nil _ _ _ _, rfl, World.ownsRow_nil _ _ _ _, fun i x q h => by simp at h, fun k => by simp [Value.ownBlock], ⟨hB.2, Nat.le_refl _, by omega⟩⟩
  have hpl := plan_any w2 F (fun k => k = w.heap.size ∨ k = w.heap.size + 1) (fun k => ¬ F k) p 50000 n B 63 _ _ H v pts (enters_of Tryz.func63 (by kernel_rfl) rfl) (cmtTake B w.heap.size w.heap.size (w.heap.size + 1) 50000 (fun k => ¬ F k) (by omega)) hJ0 (hh.below hb2) (hp.keep fun a ha => hb2.cell (by omega)) (hT.below (hb2.mono hB.2) hB.1) ⟨hB.1, by omega⟩ (fun k h hf => by have := hF k hf; omega) hN (by omega) (by omega)
  have hpl2 : Calls Tryz.prog 62 #[.pointer (some ⟨p, 0, none⟩), v, .func (.func 63) #[] #[.pointer (some ⟨w.heap.size, 0, none⟩), .pointer (some ⟨w.heap.size + 1, 0, none⟩)]] w2 fun e w3 => ∃ out G, e = .returned out ∧ CmtJ B w.heap.size w.heap.size (w.heap.size + 1) (fun k => ¬ F k) l G w3 ∧ (∀ g, G g → ¬ F g) ∧ HdAt w3 F p n H ∧ Below w.heap.size w w3 := by
    refine hpl.mono ?_
    rintro e w3 ⟨out, G, rfl, -, h2, -, h4, h5⟩
    have hb3 : Below w.heap.size w2 w3 := h5.toBelow (fun k hk => by omega) (by omega)
    refine ⟨out, G, rfl, by rw [hl]; exact h2, fun g hg hf => ?_, (hh.below hb2).far h5 fun k hk hf => ?_, hb2.trans hb3⟩
    · have := hF g hf
      rcases h4 g hg with h | h <;> omega
    · have := hF k hf; omega
  have HPL := Lib.hid hpl2
  have HL := Lib.hid hl
  have HM := Lib.hid hm
  have HW1 := Lib.hid hw1
  have HW2 := Lib.hid hw2
  have HS1 := Lib.hid hs1
  have HHH := Lib.hid hh
  have HB := Lib.hid hB
  have HF := Lib.hid hF
  clear hpl2 hpl hl hm hw1 hw2 hs1 hs2 hb1 hb2 hk2 hp2 hJ0 hh hp hT hB hF
  go_enter Tryz.func14, Tryz.ntmps14
  go_upto_region 3 with (fail)
  rw [← HW1.out]
  rw [← HW2.out]
  go_wp2_with fail
  refine HPL.out.mono ?_
  rintro e w3 ⟨out, G, rfl, ⟨vk, vp, vs, hcm⟩, hGF, hd3, hb3⟩
  obtain ⟨Ak, ck, hvk⟩ := own_slice hcm.keys
  obtain ⟨Ap, cp, hvp⟩ := own_slice hcm.points
  subst hvk hvp
  rw [← HM.out] at hcm
  have q3 : w3.cell? ⟨w.heap.size + 1, 0, none⟩ = some (.slice Ap m cp) := hcm.pb.cell 0
  have HST := Lib.hid (show CmL w3 F p n H l (.int .i64 0) w3 from ⟨0, rfl, Nat.zero_le _, (hd3.keep (fun _ _ _ => rfl) (Nat.le_refl _)).inF fun k hk => ⟨.inl hk, by have := HF.out k hk; have := hb3.size; omega⟩, Chg.refl _ _⟩)
  have HCM := Lib.hid hcm
  have HGF := Lib.hid hGF
  have HB3 := Lib.hid hb3
  clear hcm hGF hd3 hb3
  go_wp2_with fail
  go_loopw [15] (fun i wr => CmL w3 F p n H l i wr) (fun i _ => m - (intOf i).toNat)
  case atStart => exact HST.out
  case round =>
    obtain ⟨k, rfl, hk, hd, hch⟩ := hrel
    have hk2 : k ≤ m := by rw [HM.out]; exact hk
    have hBr : B ≤ w3.heap.size := by have := HB3.out.size; have := HB.out; omega
    have hcm := HCM.out.keepF hch HGF.out (fun k h => h) hBr
    have hsz := hch.size
    by_cases hlt : k < m
    · have i1 : (k : Int) < (m : Int) := by omega
      obtain ⟨q, hq⟩ : ∃ q, l[k]? = some q := ⟨_, List.getElem?_eq_getElem (by have := HM.out; omega)⟩
      obtain ⟨dk, ck', dp, cp', AL, cL, ek, ep, e0, x0, x1, x2, hla⟩ := hcm.at_ hq
      injection ek with ek1 ek2 ek3
      injection ep with ep1 ep2 ep3
      subst ek1 ep1
      have hk5 : k < 100000 := by omega
      have sk : IntKind.i64.wrap ((k : Int) + 1) = ((k + 1 : Nat) : Int) := (IntWalk.i64_in _ (by omega)).trans (by omega)
      have htk : l.take (k + 1) = l.take k ++ [q] := by rw [List.take_add_one, hq]; rfl
      have hcd : (H.adds (l.take k)).code q = 0 := by
        have := taken_each pts H k q (by rw [← HL.out]; exact hq)
        rwa [← HL.out] at this
      obtain ⟨Hk, hHk⟩ : ∃ Hk, Hk = H.adds (l.take k) := ⟨_, rfl⟩
      rw [← hHk] at hd hcd
      have hf := code_fit hcd
      have hok := hd.ok.add hcd
      obtain ⟨w4, hw4⟩ : ∃ w4, w4 = wr.alloc (.cells #[.slice AL q.1.length cL, .int .i64 q.2.1, .float .f64 q.2.2] 57) := ⟨_, rfl⟩
      have hb4 : Below wr.heap.size wr w4 := by rw [hw4]; exact (Below.refl _ wr).alloc (Nat.le_refl _) _
      have hbx : Blk w4 wr.heap.size 57 #[.slice AL q.1.length cL, .int .i64 q.2.1, .float .f64 q.2.2] := by rw [hw4]; exact Blk.new wr 57 _
      have b0 : w4.cell? ⟨wr.heap.size, 0, none⟩ = some (.slice AL q.1.length cL) := hbx.cell 0
      have b1 : w4.cell? ⟨wr.heap.size, 1, none⟩ = some (.int .i64 q.2.1) := hbx.cell 1
      have b2 : w4.cell? ⟨wr.heap.size, 2, none⟩ = some (.float .f64 q.2.2) := hbx.cell 2
      have k4 : w4.cell? ⟨w.heap.size, 0, none⟩ = some (.slice (some dk) m ck) := (hcm.kb.below hb4 hcm.kb.lt).cell 0
      have f4 : w4.cell? (dk.add k) = some (.string (keyS q.1)) := by
        rw [hw4]; exact World.grownBy.cell (w := wr) (World.grownBy_alloc wr _ none) e0 (by simp)
      have hPut := put_any w4.drew (Grs F w3 wr) p (n + k) B Hk q AL cL (hd.below hb4.drew) (by omega) (hla.below hb4.drew (by omega)) (by have := hb4.size; show B ≤ w4.heap.size; omega) hf hok
      have HPUT := Lib.hid hPut
      have HTK := Lib.hid htk
      have HHK := Lib.hid hHk
      have HCH := Lib.hid hch
      have HW4 := Lib.hid hw4
      have HB4 := Lib.hid hb4
      clear hPut htk hHk hch hd hcm hla hcd hf hok hbx hb4 hw4 hk ek2 ek3 ep2 ep3 hq e0
      obtain ⟨nL, hnL⟩ : ∃ x, x = q.1.length := ⟨_, rfl⟩
      obtain ⟨qt, hqt⟩ : ∃ x, x = q.2.1 := ⟨_, rfl⟩
      obtain ⟨qb, hqb⟩ : ∃ x, x = q.2.2 := ⟨_, rfl⟩
      obtain ⟨ks, hks⟩ : ∃ x, x = keyS q.1 := ⟨_, rfl⟩
      rw [← hnL] at x0 b0 HW4 HPUT
      rw [← hqt] at x1 b1 HW4 HPUT
      rw [← hqb] at x2 b2 HW4 HPUT
      rw [← hks] at f4 HPUT
      have HNL := Lib.hid hnL
      clear hnL hqt hqb hks
      go_upto_region 7 with fail
      rw [← HW4.out]
      clear x0 x1 x2
      go_still_tail 12, (by kernel_rfl)
      change wpList _ _ _ _ _ w4.drew
      have c0 : w4.drew.cell? ⟨wr.heap.size, 0, none⟩ = some (.slice AL nL cL) := b0
      have c1 : w4.drew.cell? ⟨wr.heap.size, 1, none⟩ = some (.int .i64 qt) := b1
      have c2 : w4.drew.cell? ⟨wr.heap.size, 2, none⟩ = some (.float .f64 qb) := b2
      have c3 : w4.drew.cell? ⟨w.heap.size, 0, none⟩ = some (.slice (some dk) m ck) := k4
      have c4 : w4.drew.cell? (dk.add k) = some (.string ks) := f4
      clear b0 b1 b2 k4 f4
      go_wp2_with fail
      refine HPUT.out.mono ?_
      rintro e w5 ⟨rfl, hd5, hc5⟩
      have HD5 := Lib.hid hd5
      have HC5 := Lib.hid hc5
      clear hd5 hc5 c0 c1 c2 c3 c4
      go_wp2
      refine ⟨?_, by simp only [intOf]; omega⟩
      have hsw : wr.heap.size ≤ w4.heap.size := HB4.out.size
      have hc45 : Chg F w3 w5 := (HCH.out.below (HB4.out.drew) hsz).trans HC5.out fun x hx => hx.1
      refine ⟨k + 1, rfl, by have := HM.out; omega, ?_, hc45⟩
      rw [HTK.out, adds_snoc, ← HHK.out]
      refine HD5.out.inF fun x hx => ⟨?_, hx.2⟩
      rcases hx.1 with h | h
      · exact h.1
      · exact .inr (by have : w4.heap.size ≤ x := h; omega)
    · have i1 : ¬ (k : Int) < (m : Int) := by omega
      have hkm : k = m := by omega
      have HCMR := Lib.hid hcm
      have HD := Lib.hid hd
      have HCH := Lib.hid hch
      have q3' : wr.cell? ⟨w.heap.size + 1, 0, none⟩ = some (.slice Ap m cp) := hcm.pb.cell 0
      clear hcm hd hch hk
      go_wp2
      go_ret
      have hE : H.adds (l.take k) = (H.take pts).2 := by rw [hkm, HM.out, List.take_length, take_adds, HL.out]
      have hd := HD.out
      rw [hE] at hd
      have hw3 : w.heap.size ≤ w3.heap.size := HB3.out.size
      refine ⟨by have := HM.out; rw [HL.out] at this; rw [this]; rfl, (hd.inF fun x hx => grs_of hw3 x hx).mono (by omega), ?_⟩
      exact (Chg.of_below HB3.out).trans HCH.out fun x hx => .inl hx
end Go.Proofs.YtbeeejpjnniejaaGreatDoor
namespace Go.Proofs.YtbeeejpjnniejaaGreatDoor
open Go.RowKit Go.Maps Go.Sort Go.Shelf
theorem putCells_map {α : Type} [Inhabited α] (key : α → List UInt8) (off : Nat) (d : Array α) (cur : Array Value) : putCells (fun x => encStr (key x)) off d cur = putCells encStr off (d.map key) cur := by
  unfold putCells
  apply Array.ext
  · simp
  · intro i h1 h2
    simp only [Array.getElem_mapIdx, Array.size_map]
    split
    · rename_i h
      have hi : i - off < d.size := by omega
      rw [getElem!_pos d _ hi, getElem!_pos (d.map key) _ (by simpa using hi), Array.getElem_map]
    · rfl
theorem sortWorld_map {α : Type} [Inhabited α] (key : α → List UInt8) (w : World) (blk off m : Nat) (d : Array α) (os : Array Obj) : sortWorld (fun x => encStr (key x)) w blk off m d os = grow (putRow encStr (Sort.ahead w m) blk off (d.map key)) os := by
  unfold sortWorld putRow
  congr 1
  congr 1
  funext cur
  exact putCells_map key off d cur
/-- each name's entry -/
theorem entries_of {ds : Dl} : ∀ (ss : List Nm), (∀ x ∈ ss, ∃ y ∈ ds, y.1 = x) → ∃ l : List {y : Nm × Nat // y ∈ ds}, (l.map fun y => y.1.1) = ss
  | [], _ => ⟨[], rfl⟩
  | x :: r, h => by
    obtain ⟨y, hy, e⟩ := h x List.mem_cons_self
    obtain ⟨l, hl⟩ := entries_of r fun z hz => h z (List.mem_cons_of_mem _ hz)
    exact ⟨⟨y, hy⟩ :: l, by simp [e, hl]⟩
theorem keys_of_dirD (l : Dl) : strKeys (dirD l) = l.map Prod.fst := by
  show (l.map encE).map (fun p => strOf p.1) = _
  rw [List.map_map]
  rfl
theorem keys125_any (mb : Option Nat) (w : World) : Calls Tryz.prog 125 #[.map mb] w fun e w' => e = .returned (.func (.func 172) #[] #[.pointer (some ⟨w.heap.size, 0, none⟩)]) ∧ w' = w.alloc (.cells #[.map mb] 124) :=
  callsIn_wide.1 (AnyZ.keys_in Tryz.keys125 Fence.wide 5 trivial rfl mb w)
theorem collect160_any (w : World) (Bm m n : Nat) (ds : Dl) (hd : DirAt w m n ds) (hm : w.cell? ⟨Bm, 0, none⟩ = some (.map (some m))) (hBm : Bm < w.heap.size) (hn : ds.length ≤ 100000) :
    Calls Tryz.prog 160 #[.func (.func 172) #[] #[.pointer (some ⟨Bm, 0, none⟩)]] w fun e w' => ∃ (v : Value) (ss : List Nm), e = .returned v ∧ ss.Perm (ds.map Prod.fst) ∧ w'.ownsRow w.heap.size 9 1 v ss.length (ss.map encStr) ∧ (v = .slice none 0 0 ↔ ss = []) ∧ Below w.heap.size w w' := by
  have hsz : Maps.size (dirD ds) ≤ 100000 := by show (ds.map encE).length ≤ _; simpa using hn
  have hseq : SeqGives Fence.wide 3 Tryz.prog 172 #[.pointer (some ⟨Bm, 0, none⟩)] encStr (fun ss => ss.Perm (strKeys (dirD ds))) (Maps.size (dirD ds)) w :=
    AnyZ.keys_gives (ρ := Tryz.keys125_ren) { Tryz.keys125 with } Fence.wide _ trivial rfl (by omega) Bm m n (dirD ds) w hBm hm hd
  have h := AnyZ.collect_in Tryz.collect160 Fence.wide 5 trivial trivial rfl (by omega) 172 #[.pointer (some ⟨Bm, 0, none⟩)] trivial (enters_of Tryz.func172 (by kernel_rfl) rfl) _ _ (Nat.le_trans hsz (by decide)) (by omega) w hseq
  refine (callsIn_wide.1 h).mono ?_
  rintro e w' ⟨v, ss, he, hp, hr, hv, hb⟩
  rw [keys_of_dirD] at hp
  exact ⟨v, ss, he, hp, hr, hv, hb⟩
theorem nb : ∀ {x : Bool}, (!x) = true → x = false := by decide
theorem nb' : ∀ {x : Bool}, x = false → (!x) = true := by decide
theorem swo_lab {α : Type} (f : α → List Lbl) : SWO (ltOf fun x y => cmpL (f x) (f y)) := by
  have T := cmpL_three
  refine ⟨fun x => ?_, fun x y z h1 h2 => ?_, fun x y z h1 h2 => ?_⟩
  · unfold ltOf; exact decide_eq_false (by dsimp only; rw [T.self]; omega)
  · unfold ltOf at *
    exact decide_eq_true (T.trans _ _ _ (of_decide_eq_true h1) (of_decide_eq_true h2))
  · unfold ltOf at *
    have h1 := of_decide_eq_false h1
    have h2 := of_decide_eq_false h2
    dsimp only at h1 h2
    refine decide_eq_false fun h => ?_
    dsimp only at h
    have a1 := T.anti (f x) (f y)
    have a2 := T.anti (f y) (f z)
    have a3 := T.anti (f x) (f z)
    by_cases e1 : cmpL (f y) (f x) = 0
    · rw [(T.zero _ _).1 e1] at h2; omega
    · by_cases e2 : cmpL (f z) (f y) = 0
      · rw [← (T.zero _ _).1 e2] at h1; omega
      · have := T.trans (f z) (f y) (f x) (by omega) (by omega)
        omega
theorem pair_fst_nodup {ds : Dl} (h : ds.Pairwise fun x y => x.1 ≠ y.1) : (ds.map Prod.fst).Nodup := by
  unfold List.Nodup; rw [List.pairwise_map]; exact h
set_option maxHeartbeats 1600000 in
theorem sortedfunc_any (w : World) (Bm m n : Nat) (ds : Dl) (lab : Nm × Nat → List Lbl) (g : Nat) (cb : Array Value) (hd : DirAt w m n ds) (hm : w.cell? ⟨Bm, 0, none⟩ = some (.map (some m))) (hBm : Bm < w.heap.size) (hn : ds.length ≤ 100000)
    (eg : ∀ args w, (callFunc g args).run Tryz.prog w = .ok (.enter g args) w) (hinj : ∀ x ∈ ds, ∀ y ∈ ds, lab x = lab y → x = y)
    (hcmp : ∀ W, Below w.heap.size w W → ∀ x ∈ ds, ∀ y ∈ ds, Calls Tryz.prog g (#[nmV x.1, nmV y.1] ++ cb) W fun e W' => e = .returned (.int .i64 (cmpL (lab x) (lab y))) ∧ Up W W') :
    Calls Tryz.prog 124 #[.func (.func 172) #[] #[.pointer (some ⟨Bm, 0, none⟩)], .func (.func g) #[] cb] w fun e w' => ∃ (v : Value) (l : Dl), e = .returned v ∧ l.Perm ds ∧ l.Pairwise (fun x y => cmpL (lab x) (lab y) < 0) ∧
      w'.ownsRow w.heap.size 9 1 v l.length (l.map fun x => nmV x.1) ∧ Below w.heap.size w w' := by
  have HC := Lib.hid (collect160_any w Bm m n ds hd hm hBm hn)
  have HT := Lib.hid hd.tidy
  have HI := Lib.hid hinj
  have HCMP := Lib.hid hcmp
  have HEG := Lib.hid eg
  clear hd hm hBm hinj hcmp eg
  go_enter Tryz.func124, Tryz.ntmps124
  go_wp2_with fail
  refine HC.out.mono ?_
  rintro e w1 ⟨v, ss, rfl, hp, hr, hv, hb⟩
  by_cases hs : ss = []
  · have hv' := hv.2 hs
    subst hv' hs
    have hds : ds = [] := by
      have := hp.length_eq
      simp at this
      exact List.eq_nil_of_length_eq_zero this.symm
    subst hds
    have HR := Lib.hid hr
    have HB := Lib.hid hb
    clear hp hr hv hb HC
    have hnone : Calls Tryz.prog 171 #[.slice none 0 0, .func (.func g) #[] cb] w1 fun e w' => e = .returned (.tuple #[]) ∧ w' = w1 := AnyF.slices_SortFunc_none (P := Tryz.prog) (ρ := Tryz.sortStr_ren) { Tryz.sortStr with } none 0 (.func (.func g) #[] cb) w1
    go_wp2_with fail
    refine hnone.mono ?_
    rintro e w2 ⟨rfl, rfl⟩
    go_wp2
    go_ret
    exact ⟨_, [], rfl, List.Perm.refl _, List.Pairwise.nil, HR.out, HB.out⟩
  · rcases hr.2 with ⟨hnil, -⟩ | ⟨gb, cap, cur, rfl, hbase, hblk, h1, h2, h3, h4⟩
    · exact absurd (hv.1 hnil) hs
    · obtain ⟨l0, hl0⟩ := entries_of (ds := ds) ss fun x hx => by
        obtain ⟨y, hy, e⟩ := List.mem_map.1 (hp.mem_iff.1 hx)
        exact ⟨y, hy, e⟩
      have hne : l0 ≠ [] := fun e => hs (by rw [← hl0, e]; rfl)
      haveI : Inhabited {y : Nm × Nat // y ∈ ds} := ⟨l0.head hne⟩
      obtain ⟨key, hkey⟩ : ∃ key : {y : Nm × Nat // y ∈ ds} → Nm, key = fun y => y.1.1 := ⟨_, rfl⟩
      have hlen : l0.length = ss.length := by rw [← hl0, List.length_map]
      have hmapA : (l0.toArray.map key) = ss.toArray := by rw [hkey, List.map_toArray, hl0]
      have hH : Holds (fun x => encStr (key x)) w1 gb 0 l0.toArray := by
        have hh := holds_of_block hblk (by simpa using h4)
        intro j hj
        have hj2 : j < ss.toArray.size := by rw [← hmapA]; simpa using hj
        obtain ⟨k1, k2⟩ := hh j hj2
        refine ⟨?_, k2⟩
        rw [k1]
        congr 1
        show encStr ss.toArray[j]! = encStr (key l0.toArray[j]!)
        rw [← hmapA, getElem!_pos l0.toArray j hj, getElem!_pos (l0.toArray.map key) j (by simpa using hj), Array.getElem_map]
      have hgl : gb < w1.heap.size := (Array.getElem?_eq_some_iff.1 hblk).1
      have hsort := Any.slices_SortFunc_total (P := Tryz.prog) (ρ := Tryz.sortStr_ren) Tryz.sortStr (fun x => encStr (key x)) (fun x => rfl) (fun x y => cmpL (lab x.1) (lab y.1)) (swo_lab fun x : {y : Nm × Nat // y ∈ ds} => lab x.1) g cb gb 0 cap l0.toArray w1 HEG.out
        (fun mm os dk hdk x y => by
          have hB : Below w.heap.size w (sortWorld (fun x => encStr (key x)) w1 gb 0 mm dk os) := by
            rw [sortWorld_map]
            exact hb.grown (grownBy_sorted _) hb.size (fun k e => by cases e; exact hbase)
          have hc := HCMP.out _ hB x.1 x.2 y.1 y.2
          rw [hkey]
          rw [hkey] at hc
          refine hc.mono ?_
          rintro e w' ⟨he, q, os', hw⟩
          exact ⟨he, q, os', hw⟩) hH hgl (by have := hp.length_eq; rw [List.length_map] at this; rw [List.size_toArray]; omega) (fun x y e1 e2 => by
            unfold ltOf at e1 e2
            have e1 := of_decide_eq_false e1
            have e2 := of_decide_eq_false e2
            dsimp only at e1 e2
            have := cmpL_three.anti (lab x.1) (lab y.1)
            exact Subtype.ext (HI.out x.1 x.2 y.1 y.2 ((cmpL_three.zero _ _).1 (by omega))))
      have hsz : l0.toArray.size = ss.length := by rw [List.size_toArray]; exact hlen
      rw [hsz] at hsort
      have HSO := Lib.hid hsort
      have HP := Lib.hid hp
      have HB := Lib.hid hb
      have HBK := Lib.hid hblk
      have H1 := Lib.hid h1
      have H2 := Lib.hid h2
      have H3 := Lib.hid h3
      have HL0 := Lib.hid hl0
      have HKY := Lib.hid hkey
      have HBA := Lib.hid hbase
      clear hsort hsz hp hb hblk h1 h2 h3 h4 hl0 hkey hbase hmapA hH hr hv hs
      go_wp2_with fail
      refine HSO.out.mono ?_
      rintro e w2 ⟨rfl, nn, os, rfl⟩
      obtain ⟨ms, hms⟩ : ∃ ms, ms = l0.mergeSort (fun x y => !(ltOf fun x y : {y : Nm × Nat // y ∈ ds} => cmpL (lab x.1) (lab y.1)) y x) := ⟨_, rfl⟩
      have hw2 : sortWorld (fun x => encStr (key x)) w1 gb 0 nn (l0.toArray.toList.mergeSort (fun x y => !(ltOf fun x y : {y : Nm × Nat // y ∈ ds} => cmpL (lab x.1) (lab y.1)) y x)).toArray os = grow (putRow encStr (Sort.ahead w1 nn) gb 0 (ms.map key).toArray) os := by
        rw [sortWorld_map, hms, List.map_toArray, List.toList_toArray]
      rw [hw2]
      clear hw2
      have hpm : ms.Perm l0 := by rw [hms]; exact List.mergeSort_perm _ _
      have hkeyl : l0.map key = ss := by rw [HKY.out]; exact HL0.out
      have hll : (ms.map key).length = ss.length := by rw [← hkeyl, List.length_map, List.length_map, hpm.length_eq]
      have hown := ownsRow_sorted (n := nn) (os := os) (ts := ms.map key) hll HBA.out HBK.out H1.out H2.out H3.out
      have hB : Below w.heap.size w (grow (putRow encStr (Sort.ahead w1 nn) gb 0 (ms.map key).toArray) os) := HB.out.grown (grownBy_sorted _) HB.out.size fun k e => by cases e; exact HBA.out
      obtain ⟨w2, hw2⟩ : ∃ x, x = grow (putRow encStr (Sort.ahead w1 nn) gb 0 (ms.map key).toArray) os := ⟨_, rfl⟩
      rw [← hw2] at hown hB ⊢
      have HO := Lib.hid hown
      have HBB := Lib.hid hB
      have HMS := Lib.hid hms
      have HPM := Lib.hid hpm
      have HKL := Lib.hid hkeyl
      clear hown hB hms hpm hkeyl hll hw2
      go_wp2
      go_ret
      have hnd : (ms.map fun y => y.1.1).Nodup := by
        have h1 : (ms.map fun y => y.1.1).Perm ss := by rw [← HL0.out]; exact HPM.out.map _
        exact (h1.trans HP.out).nodup_iff.2 (pair_fst_nodup HT.out)
      refine ⟨_, ms.map Subtype.val, rfl, ?_, ?_, ?_, HBB.out⟩
      · refine (List.perm_ext_iff_of_nodup ?_ ?_).2 fun x => ?_
        · have h2 : (ms.map Subtype.val).Pairwise fun a b => a.1 ≠ b.1 := by
            rw [List.pairwise_map]
            unfold List.Nodup at hnd
            rwa [List.pairwise_map] at hnd
          exact h2.imp fun h e => h (congrArg Prod.fst e)
        · exact HT.out.imp fun h e => h (congrArg Prod.fst e)
        · constructor
          · intro hx
            obtain ⟨y, -, rfl⟩ := List.mem_map.1 hx
            exact y.2
          · intro hx
            have h1 : x.1 ∈ ss := HP.out.mem_iff.2 (List.mem_map.2 ⟨x, hx, rfl⟩)
            rw [← HL0.out] at h1
            obtain ⟨y, hy, e⟩ := List.mem_map.1 h1
            have : y.1 = x := pair_once (f := Prod.fst) HT.out y.2 hx e
            exact List.mem_map.2 ⟨y, HPM.out.mem_iff.2 hy, this⟩
      · have hle := List.pairwise_mergeSort (le := fun x y => !(ltOf fun x y : {y : Nm × Nat // y ∈ ds} => cmpL (lab x.1) (lab y.1)) y x) (fun a b c h1 h2 => ?_) (fun a b => ?_) l0
        · rw [← HMS.out] at hle
          rw [List.pairwise_map]
          unfold List.Nodup at hnd
          rw [List.pairwise_map] at hnd
          refine (hle.and hnd).imp fun {a b} h => ?_
          obtain ⟨h1, h2⟩ := h
          unfold ltOf at h1
          have h1 := of_decide_eq_false (nb h1)
          dsimp only at h1
          have h3 := cmpL_three.anti (lab a.1) (lab b.1)
          have h4 : cmpL (lab a.1) (lab b.1) ≠ 0 := fun e => h2 (congrArg Prod.fst (HI.out a.1 a.2 b.1 b.2 ((cmpL_three.zero _ _).1 e)))
          omega
        · have h1 := nb h1
          have h2 := nb h2
          exact nb' ((swo_lab fun x : {y : Nm × Nat // y ∈ ds} => lab x.1).ntrans c b a h2 h1)
        · unfold ltOf
          have h3 := cmpL_three.anti (lab a.1) (lab b.1)
          by_cases h : cmpL (lab b.1) (lab a.1) < 0
          · have : ¬ cmpL (lab a.1) (lab b.1) < 0 := by omega
            simp [this]
          · simp [h]
      · have h1 := HO.out
        have e1 : (ms.map Subtype.val).length = ss.length := by rw [← HKL.out, List.length_map, List.length_map, HPM.out.length_eq]
        rw [e1, List.map_map]
        have e2 : (ms.map key).map encStr = ms.map ((fun x : Nm × Nat => nmV x.1) ∘ Subtype.val) := by rw [List.map_map, HKY.out]; rfl
        rw [← e2]
        exact h1
end Go.Proofs.YtbeeejpjnniejaaGreatDoor
namespace Go.Proofs.YtbeeejpjnniejaaGreatDoor
open Go.RowKit Go.Maps Go.Sort Go.Shelf
theorem labs_of_own {w : World} {v : Value} {ls : List Lbl} (h : w.ownsRow 0 55 2 v ls.length (flatL ls)) : LabsAt w w.heap.size v ls := by
  obtain ⟨A, c, rfl⟩ := own_slice h
  exact ⟨A, c, rfl, Reads.of_own h⟩
theorem dget_of_mem {l : Dl} (h : l.Pairwise fun x y => x.1 ≠ y.1) {x : Nm × Nat} (hx : x ∈ l) : dget l x.1 = some x.2 := by
  cases hg : dget l x.1 with
  | some g =>
    have := pair_once (f := Prod.fst) h hx (dget_mem hg) rfl
    rw [this]
  | none =>
    unfold dget at hg
    rw [Option.map_eq_none_iff, List.find?_eq_none] at hg
    exact absurd (by simp) (hg x hx)
set_option maxHeartbeats 1600000 in
set_option maxRecDepth 100000 in
theorem cmp126_any (w : World) (F : Nat → Prop) (p s0 : Nat) (s : HS) (hs : HeadAt w F p s) (h0 : w.cell? ⟨s0, 0, none⟩ = some (.pointer (some ⟨p, 0, none⟩))) (hfit : ∀ x ∈ s.dir, fitP (s.lab x.2) = true) (x y : Nm × Nat) (hx : x ∈ s.dir) (hy : y ∈ s.dir) :
    Calls Tryz.prog 126 #[nmV x.1, nmV y.1, .pointer (some ⟨s0, 0, none⟩)] w fun e w' => e = .returned (.int .i64 (cmpL (s.lab x.2) (s.lab y.2))) ∧ Up w w' := by
  have hsz : ∀ z ∈ s.dir, (⟨z.1.toArray⟩ : ByteArray).size ≤ maxLen := fun z hz => by
    have h1 := lbytes_len (fitP_fit (hfit z hz))
    rw [← hs.key z hz] at h1
    have h2 : (⟨z.1.toArray⟩ : ByteArray).size = z.1.length := by simp [ByteArray.size]
    unfold maxLen
    omega
  have y2 : w.cell? ⟨p, 2, none⟩ = some (.map (some s.m)) := hs.blk.cell 2
  have lx : (Instr.lookup 124 (.map (some s.m)) (nmV x.1) false).run Tryz.prog w.drew = .ok (.pointer (some ⟨x.2, 0, none⟩)) w.drew := by
    have h := (DirAt.keep (w' := w.drew) hs.dir rfl).look124 ⟨x.1.toArray⟩ (hsz x hx)
    rw [show (⟨x.1.toArray⟩ : ByteArray).data.toList = x.1 by simp, dget_of_mem hs.dir.tidy hx] at h
    exact h
  have ly : (Instr.lookup 124 (.map (some s.m)) (nmV y.1) false).run Tryz.prog w.drew = .ok (.pointer (some ⟨y.2, 0, none⟩)) w.drew := by
    have h := (DirAt.keep (w' := w.drew) hs.dir rfl).look124 ⟨y.1.toArray⟩ (hsz y hy)
    rw [show (⟨y.1.toArray⟩ : ByteArray).data.toList = y.1 by simp, dget_of_mem hs.dir.tidy hy] at h
    exact h
  have bx := (hs.ser x hx).blk.cell 0
  have by_ := (hs.ser y hy).blk.cell 0
  have hlx := labs_of_own (hs.ser x hx).labs
  have hly := labs_of_own (hs.ser y hy).labs
  have hnx : (s.lab x.2).length ≤ 100000 := by have := (fitP_fit (hfit x hx)).1; omega
  have hny : (s.lab y.2).length ≤ 100000 := by have := (fitP_fit (hfit y hy)).1; omega
  have HC := Lib.hid (lcompare_any w.drew (s.vl x.2) (s.vl y.2) (s.lab x.2) (s.lab y.2) hlx hly hnx hny)
  obtain ⟨kx, hkx⟩ : ∃ k, k = nmV x.1 := ⟨_, rfl⟩
  obtain ⟨ky, hky⟩ : ∃ k, k = nmV y.1 := ⟨_, rfl⟩
  rw [← hkx] at lx ⊢
  rw [← hky] at ly ⊢
  clear hkx hky hsz hlx hly hnx hny hs hfit hx hy
  go_enter Tryz.func126, Tryz.ntmps126
  go_upto_region 1 with fail
  go_still_tail 18, (by kernel_rfl)
  change wpList _ _ _ _ _ w.drew
  have z0 : w.drew.cell? ⟨s0, 0, none⟩ = some (.pointer (some ⟨p, 0, none⟩)) := h0
  have z2 : w.drew.cell? ⟨p, 2, none⟩ = some (.map (some s.m)) := y2
  have zx : w.drew.cell? ⟨x.2, 0, none⟩ = some (s.vl x.2) := bx
  have zy : w.drew.cell? ⟨y.2, 0, none⟩ = some (s.vl y.2) := by_
  go_wp2_with fail
  refine HC.out.mono ?_
  rintro e w2 ⟨rfl, hu⟩
  have HU := Lib.hid hu
  clear hu HC
  go_wp2
  go_ret
  exact ⟨rfl, ((Up.refl w).drew).trans HU.out⟩
/-- what sorted hands back: an iterator over the keys in a box, with the head in another -/
structure SortAt (w : World) (base p kb hb : Nat) (s : HS) (l : Dl) (v : Value) : Prop where
  kB : Blk w kb 88 #[v]
  hB : Blk w hb 25 #[.pointer (some ⟨p, 0, none⟩)]
  keys : w.ownsRow base 9 1 v l.length (l.map fun x => nmV x.1)
  perm : l.Perm s.dir
  rises : l.Pairwise fun x y => cmpL (s.lab x.2) (s.lab y.2) < 0
  lo : base ≤ kb ∧ base ≤ hb
set_option maxHeartbeats 1600000 in
theorem sorted_any (w : World) (F : Nat → Prop) (p : Nat) (s : HS) (hs : HeadAt w F p s) (hfit : ∀ x ∈ s.dir, fitP (s.lab x.2) = true) (hn : s.dir.length ≤ 100000) :
    Calls Tryz.prog 66 #[.pointer (some ⟨p, 0, none⟩)] w fun e w' => ∃ (kb : Nat) (v : Value) (l : Dl), e = .returned (.func (.func 128) #[] #[.pointer (some ⟨kb, 0, none⟩), .pointer (some ⟨w.heap.size, 0, none⟩)]) ∧ SortAt w' w.heap.size p kb w.heap.size s l v ∧ Below w.heap.size w w' := by
  obtain ⟨w1, hw1⟩ : ∃ w1, w1 = w.alloc (.cells #[.pointer (some ⟨p, 0, none⟩)] 25) := ⟨_, rfl⟩
  obtain ⟨w2, hw2⟩ : ∃ w2, w2 = w1.alloc (.cells #[.map (some s.m)] 124) := ⟨_, rfl⟩
  have hs1 : w1.heap.size = w.heap.size + 1 := by rw [hw1]; simp
  have hs2 : w2.heap.size = w.heap.size + 2 := by rw [hw2]; simp [hs1]
  have hb1 : Below w.heap.size w w1 := by rw [hw1]; exact (Below.refl _ w).alloc (Nat.le_refl _) _
  have hb2 : Below w.heap.size w w2 := by rw [hw2]; exact hb1.alloc hb1.size _
  have hbx : Blk w2 w.heap.size 25 #[.pointer (some ⟨p, 0, none⟩)] := by rw [hw2, hw1]; exact (Blk.new w 25 _).alloc _
  have hbm : Blk w2 w1.heap.size 124 #[.map (some s.m)] := by rw [hw2]; exact Blk.new w1 124 _
  have y2 : w1.cell? ⟨p, 2, none⟩ = some (.map (some s.m)) := (hs.blk.below hb1 hs.blk.lt).cell 2
  have b0 : w1.cell? ⟨w.heap.size, 0, none⟩ = some (.pointer (some ⟨p, 0, none⟩)) := by rw [hw1]; exact (Blk.new w 25 _).cell 0
  have hsort := sortedfunc_any w2 w1.heap.size s.m s.dir.length s.dir (fun x => s.lab x.2) 126 #[.pointer (some ⟨w.heap.size, 0, none⟩)] (hs.dir.keep (hb2.block _ hs.dir.lt)) (hbm.cell 0) hbm.lt hn (enters_of Tryz.func126 (by kernel_rfl) rfl)
    (fun x hx y hy e => pair_once (f := Prod.fst) hs.dir.tidy hx hy (by rw [hs.key x hx, hs.key y hy]; exact congrArg lbytes e))
    (fun W hW x hx y hy => cmp126_any W F p w.heap.size s ((hs.keep (fun k _ hk => hb2.block k hk) (fun _ h => h) hb2.size).keep (fun k _ hk => hW.block k hk) (fun _ h => h) hW.size) ((hbx.below hW (by omega)).cell 0) hfit x y hx hy)
  have HS := Lib.hid hsort
  have HW1 := Lib.hid hw1
  have HW2 := Lib.hid hw2
  have HS1 := Lib.hid hs1
  have HS2 := Lib.hid hs2
  have HB2 := Lib.hid hb2
  have HBX := Lib.hid hbx
  have HK := fun mb W => Lib.hid (keys125_any mb W)
  clear hsort hw1 hw2 hs1 hs2 hb1 hb2 hbx hbm hs hfit hn
  go_enter Tryz.func66, Tryz.ntmps66
  go_upto_region 1 with fail
  rw [← HW1.out]
  go_wp2_with fail
  refine (HK _ _).out.mono ?_
  rintro e wz ⟨rfl, rfl⟩
  rw [← HW2.out]
  go_wp2_with fail
  refine HS.out.mono ?_
  rintro e w3 ⟨v, l, rfl, hperm, hris, hown, hb3⟩
  have H1 := Lib.hid hperm
  have H2 := Lib.hid hris
  have H3 := Lib.hid hown
  have H4 := Lib.hid hb3
  clear hperm hris hown hb3 HS HK y2 b0
  have hsz3 : w2.heap.size ≤ w3.heap.size := H4.out.size
  obtain ⟨Av, cv, hv⟩ := own_slice H3.out
  subst hv
  go_wp2
  go_ret
  have h2 := HS2.out
  refine ⟨w3.heap.size, .slice Av l.length cv, l, rfl, ⟨Blk.new w3 88 _, (HBX.out.below H4.out (by omega)).alloc _, ownsRow_base_a (World.ownsRow.alloc H3.out _) (by omega), H1.out, H2.out, by omega, Nat.le_refl _⟩, ?_⟩
  exact (HB2.out.trans (H4.out.mono HB2.out.size)).alloc (by have := HB2.out.size; omega) _
end Go.Proofs.YtbeeejpjnniejaaGreatDoor
namespace Go.Proofs.YtbeeejpjnniejaaGreatDoor
open Go.RowKit Go.Maps Go.Sort Go.Shelf
attribute [local go_sem] run_store_float
/-- i is the place of the first that is no older than t -/
structure FromAt (r : List HSmp) (t : Int) (i : Nat) : Prop where
  le : i ≤ r.length
  low : ∀ (j : Nat) (x : HSmp), r[j]? = some x → j < i → x.1 < t
  high : ∀ (j : Nat) (x : HSmp), r[j]? = some x → i ≤ j → t ≤ x.1
def cmpT (a t : Int) : Int := if a < t then -1 else if t < a then 1 else 0
theorem cmp131_any (a t : Int) (b : Nat) (d : Bool) (w : World) : Calls Tryz.prog 131 #[.agg #[.int .i64 a, .float .f64 b, .bool d], .int .i64 t] w fun e w' => e = .returned (.int .i64 (cmpT a t)) ∧ Up w w' := by
  obtain ⟨w1, hw1⟩ : ∃ w1, w1 = w.alloc (.cells #[.int .i64 a, .float .f64 b, .bool d] 148) := ⟨_, rfl⟩
  have hbx : Blk w1 w.heap.size 148 #[.int .i64 a, .float .f64 b, .bool d] := by rw [hw1]; exact Blk.new w 148 _
  have c0 : w1.cell? ⟨w.heap.size, 0, none⟩ = some (.int .i64 a) := hbx.cell 0
  have HU := Lib.hid (show Up w w1 by rw [hw1]; exact (Up.refl w).alloc _)
  have HW1 := Lib.hid hw1
  clear hw1 hbx
  unfold cmpT
  by_cases h1 : a < t
  · rw [if_pos h1]
    go_enter Tryz.func131, Tryz.ntmps131
    go_upto_region 1 with fail
    rw [← HW1.out]
    go_wp2
    go_ret
    exact ⟨rfl, HU.out⟩
  · rw [if_neg h1]
    by_cases h2 : t < a
    · rw [if_pos h2]
      go_enter Tryz.func131, Tryz.ntmps131
      go_upto_region 1 with fail
      rw [← HW1.out]
      go_wp2
      go_ret
      exact ⟨rfl, HU.out⟩
    · rw [if_neg h2]
      go_enter Tryz.func131, Tryz.ntmps131
      go_upto_region 1 with fail
      rw [← HW1.out]
      go_wp2
      go_ret
      exact ⟨rfl, HU.out⟩
def BsR (w : World) (r : List HSmp) (t : Int) (lo hi : Value) (wr : World) : Prop := ∃ l h : Nat, lo = .int .i64 (l : Int) ∧ hi = .int .i64 (h : Int) ∧ l ≤ h ∧ h ≤ r.length ∧ Up w wr ∧ (∀ (j : Nat) (x : HSmp), r[j]? = some x → j < l → x.1 < t) ∧ ∀ (j : Nat) (x : HSmp), r[j]? = some x → h ≤ j → t ≤ x.1
set_option maxRecDepth 100000 in
set_option maxHeartbeats 3200000 in
theorem search_any (w : World) (B : Nat) (A : Option Addr) (c : Nat) (r : List HSmp) (t : Int) (hr : Reads w B 3 A r.length (rowV r)) (hB : B ≤ w.heap.size) (hn : r.length ≤ 100000) (hs : Rises r) :
    Calls Tryz.prog 130 #[.slice A r.length c, .int .i64 t, .func (.func 131) #[] #[]] w fun e w' => ∃ (i : Nat) (b : Bool), e = .returned (.tuple #[.int .i64 (i : Int), .bool b]) ∧ FromAt r t i ∧ Up w w' := by
  obtain ⟨n, hnn⟩ : ∃ n, n = r.length := ⟨_, rfl⟩
  rw [← hnn] at hn hr ⊢
  have HI := Lib.hid (show BsR w r t (.int .i64 0) (.int .i64 (n : Int)) w from ⟨0, n, rfl, rfl, Nat.zero_le _, by omega, Up.refl w, fun j x _ h => absurd h (Nat.not_lt_zero _), fun j x h1 h2 => absurd (List.getElem?_eq_some_iff.1 h1).1 (by omega)⟩)
  have HR := Lib.hid hr
  have HN := Lib.hid hnn
  have HS := Lib.hid hs
  have HB := Lib.hid hB
  have HC := fun a b d W => Lib.hid (cmp131_any a t b d W)
  have e131 : ∀ args w, (callFunc 131 args).run Tryz.prog w = .ok (.enter 131 args) w := enters_of Tryz.func131 (by kernel_rfl) rfl
  clear hr hnn hs hB
  go_enter Tryz.func130, Tryz.ntmps130
  go_wp2_with fail
  go_loopw [9, 10] (fun lo hi wr => BsR w r t lo hi wr) (fun lo hi _ => (intOf hi).toNat - (intOf lo).toNat)
  case atStart => exact HI.out
  case round =>
    obtain ⟨lo, hi, rfl, rfl, hlh, hin, hup, hlow, hhigh⟩ := hrel
    have HU := Lib.hid hup
    have HLO := Lib.hid hlow
    have HHI := Lib.hid hhigh
    have hin2 : hi ≤ n := by rw [HN.out]; exact hin
    clear hup hlow hhigh hin
    by_cases hlt : lo < hi
    · obtain ⟨mid, hmid⟩ : ∃ m, m = (lo + hi) / 2 := ⟨_, rfl⟩
      obtain ⟨x, hx⟩ : ∃ x, r[mid]? = some x := ⟨_, List.getElem?_eq_getElem (by have := HN.out; omega)⟩
      obtain ⟨g0, g1, g2⟩ := rowV_get r mid x hx
      obtain ⟨d, hd, hdB, x0, x1, x2⟩ := (HR.out.below ((HU.out).below.mono HB.out) ).three (i := mid) (by omega) g0 g1 g2
      subst hd
      obtain ⟨xt, xb, xd⟩ := x
      dsimp only at x0 x1 x2
      have i1 : (lo : Int) < (hi : Int) := by omega
      have hsum : ((lo : Int) + (hi : Int)) / 2 = (mid : Int) := by omega
      have HX := Lib.hid hx
      have HMID := Lib.hid hmid
      clear hx hmid g0 g1 g2 hdB
      have sk : IntKind.i64.wrap ((mid : Int) + 1) = ((mid + 1 : Nat) : Int) := (IntWalk.i64_in _ (by omega)).trans (by omega)
      have hm1 : mid < hi := by have := HMID.out; omega
      have hm0 : lo ≤ mid := by have := HMID.out; omega
      by_cases hc : xt < t
      · have hct : cmpT xt t = -1 := by unfold cmpT; rw [if_pos hc]
        have HCC := HC xt xb xd wr
        rw [hct] at HCC
        clear hct
        go_upto_region 5 with fail
        go_wp2_with fail
        refine HCC.out.mono ?_
        rintro e w2 ⟨rfl, hu2⟩
        have HU2 := Lib.hid hu2
        clear hu2 HCC x0 x1 x2
        go_wp2_with fail
        refine ⟨⟨mid + 1, hi, rfl, rfl, by omega, by have := HN.out; omega, HU.out.trans HU2.out, fun j y hj hjl => ?_, HHI.out⟩, by simp only [intOf]; omega⟩
        rcases Nat.lt_or_ge j mid with h | h
        · have h1 := HS.out
          unfold Rises at h1
          have := (List.pairwise_iff_getElem.1 h1) j mid (List.getElem?_eq_some_iff.1 hj).1 (List.getElem?_eq_some_iff.1 HX.out).1 h
          rw [(List.getElem?_eq_some_iff.1 hj).2, (List.getElem?_eq_some_iff.1 HX.out).2] at this
          dsimp only at this
          omega
        · have : j = mid := by omega
          subst this
          rw [HX.out] at hj
          injection hj with hj
          subst hj
          exact hc
      · have hct : ∃ z : Int, cmpT xt t = z ∧ 0 ≤ z := ⟨_, rfl, by unfold cmpT; rw [if_neg hc]; split <;> omega⟩
        obtain ⟨z, hz, hz0⟩ := hct
        have HCC := HC xt xb xd wr
        rw [hz] at HCC
        clear hz
        have hz1 : ¬ z < 0 := by omega
        go_upto_region 5 with fail
        go_wp2_with fail
        refine HCC.out.mono ?_
        rintro e w2 ⟨rfl, hu2⟩
        have HU2 := Lib.hid hu2
        clear hu2 HCC x0 x1 x2
        go_wp2_with fail
        refine ⟨⟨lo, mid, rfl, rfl, by omega, by have := HN.out; omega, HU.out.trans HU2.out, HLO.out, fun j y hj hjl => ?_⟩, by simp only [intOf]; omega⟩
        rcases Nat.lt_or_ge mid j with h | h
        · have h1 := HS.out
          unfold Rises at h1
          have := (List.pairwise_iff_getElem.1 h1) mid j (List.getElem?_eq_some_iff.1 HX.out).1 (List.getElem?_eq_some_iff.1 hj).1 h
          rw [(List.getElem?_eq_some_iff.1 hj).2, (List.getElem?_eq_some_iff.1 HX.out).2] at this
          dsimp only at this
          omega
        · have : j = mid := by omega
          subst this
          rw [HX.out] at hj
          injection hj with hj
          subst hj
          dsimp only
          omega
    · have i1 : ¬ (lo : Int) < (hi : Int) := by omega
      have hE : hi = lo := by omega
      subst hE
      have HF := Lib.hid (show FromAt r t hi from ⟨by rw [← HN.out]; omega, HLO.out, HHI.out⟩)
      by_cases hl2 : hi < n
      · obtain ⟨x, hx⟩ : ∃ x, r[hi]? = some x := ⟨_, List.getElem?_eq_getElem (by have := HN.out; omega)⟩
        obtain ⟨g0, g1, g2⟩ := rowV_get r hi x hx
        obtain ⟨d, hd, hdB, x0, x1, x2⟩ := (HR.out.below ((HU.out).below.mono HB.out) ).three (i := hi) (by omega) g0 g1 g2
        subst hd
        obtain ⟨xt, xb, xd⟩ := x
        dsimp only at x0 x1 x2
        have i2 : (hi : Int) < (n : Int) := by omega
        have HCC := HC xt xb xd wr
        obtain ⟨z, hz⟩ : ∃ z, z = cmpT xt t := ⟨_, rfl⟩
        rw [← hz] at HCC
        clear hz hx g0 g1 g2 hdB
        go_wp2_with fail
        refine HCC.out.mono ?_
        rintro e w2 ⟨rfl, hu2⟩
        have HU2 := Lib.hid hu2
        clear hu2 HCC x0 x1 x2
        go_wp2
        go_ret2
        exact ⟨hi, _, rfl, HF.out, HU.out.trans HU2.out⟩
      · have i2 : ¬ (hi : Int) < (n : Int) := by omega
        go_wp2
        go_ret2
        exact ⟨hi, .inl rfl, HF.out, HU.out⟩
theorem from_any (w : World) (g base : Nat) (vl v : Value) (r : List HSmp) (t : Int) (hb : Blk w g 140 #[vl, v]) (ho : w.ownsRow base 148 3 v r.length (rowV r)) (hn : r.length ≤ 100000) (hs : Rises r) :
    Calls Tryz.prog 71 #[.pointer (some ⟨g, 0, none⟩), .int .i64 t] w fun e w' => ∃ i : Nat, e = .returned (.int .i64 (i : Int)) ∧ FromAt r t i ∧ Up w w' := by
  obtain ⟨A, c, hv⟩ := own_slice ho
  subst hv
  have HC := Lib.hid (search_any w w.heap.size A c r t (Reads.of_own ho) (Nat.le_refl _) hn hs)
  have c1 : w.cell? ⟨g, 1, none⟩ = some (.slice A r.length c) := hb.cell 1
  clear ho hb
  go_enter Tryz.func71, Tryz.ntmps71
  go_wp2_with fail
  refine HC.out.mono ?_
  rintro e w2 ⟨i, b, rfl, hf, hu⟩
  have HF := Lib.hid hf
  have HU := Lib.hid hu
  clear hf hu HC c1
  go_wp2
  go_ret
  exact ⟨i, rfl, HF.out, HU.out⟩
end Go.Proofs.YtbeeejpjnniejaaGreatDoor
