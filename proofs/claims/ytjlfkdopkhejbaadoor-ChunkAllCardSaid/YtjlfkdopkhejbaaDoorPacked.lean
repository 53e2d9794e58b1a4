/- The walks of chunk.New and chunk.packed. -/
import Derived.Test.YtjlfkdopkhejbaaDoorAppend
namespace Go.Proofs.YtjlfkdopkhejbaaDoor
open Go.RowKit Ck
attribute [local go_sem] frombits_call tobits_call run_store_float

/-- a slice (its address A) reads as the samples l, below block lim -/
def SmpAt (w : World) (lim : Nat) (A : Option Addr) (l : List Smp) : Prop :=
  0 < l.length → ∃ g off, A = some ⟨g, off, none⟩ ∧ g < lim ∧ ∀ i x, l[i]? = some x → w.cell? ⟨g, off + i * 2, none⟩ = some (.int .i64 x.t) ∧ w.cell? ⟨g, off + i * 2 + 1, none⟩ = some (.float .f64 x.v)

theorem SmpAt.below {w w' : World} {lim : Nat} {A : Option Addr} {l : List Smp} (h : SmpAt w lim A l) (hb : Below lim w w') : SmpAt w' lim A l := by
  intro hl
  obtain ⟨g, off, hA, hg, hc⟩ := h hl
  refine ⟨g, off, hA, hg, fun i x hx => ?_⟩
  obtain ⟨h1, h2⟩ := hc i x hx
  exact ⟨(hb.cell (p := ⟨g, off + i * 2, none⟩) hg).trans h1, (hb.cell (p := ⟨g, off + i * 2 + 1, none⟩) hg).trans h2⟩
theorem SmpAt.mono {w : World} {lim lim' : Nat} {A : Option Addr} {l : List Smp} (h : SmpAt w lim A l) (hl : lim ≤ lim') : SmpAt w lim' A l := by
  intro h0
  obtain ⟨g, off, hA, hg, hc⟩ := h h0
  exact ⟨g, off, hA, by omega, hc⟩
theorem SmpAt.take {w : World} {lim : Nat} {A : Option Addr} {l : List Smp} (h : SmpAt w lim A l) (n : Nat) : SmpAt w lim A (l.take n) := by
  intro h0
  obtain ⟨g, off, hA, hg, hc⟩ := h (by simp at h0; omega)
  refine ⟨g, off, hA, hg, fun i x hx => hc i x ?_⟩
  rw [List.getElem?_take] at hx
  split at hx
  · exact hx
  · cases hx

theorem dodBits_length (x : Int) : (dodBits x).length ≤ 70 := by
  unfold dodBits
  split
  · simp [bitsOf_length]
  · split
    · simp [bitsOf_length]
    · split
      · simp [bitsOf_length]
      · split <;> simp [bitsOf_length]
theorem valueBits_length (s : St) (x : Nat) (hs : s.fits) : (valueBits s x).1.length ≤ 80 := by
  unfold valueBits
  split
  · simp [bitsOf_length]
  · split
    · rename_i h; have := hs h.1; simp only [List.length_append, bitsOf_length]; omega
    · simp only [List.length_append, bitsOf_length]; omega
theorem appendBits_length (s : St) (x : Smp) (hs : s.fits) : (appendBits s x).1.length ≤ 150 := by
  unfold appendBits
  split
  · simp [bitsOf_length]
  · have h1 := dodBits_length (wrap64 (wrap64 (x.t - s.t) - s.delta))
    have h2 := valueBits_length s (x.v ^^^ s.v) hs
    simp only [List.length_append]
    omega
theorem encBits_length (s : St) (l : List Smp) (hs : s.ok) (hl : ∀ x ∈ l, x.ok) : (encBits s l).length ≤ 150 * l.length := by
  induction l generalizing s with
  | nil => simp [encBits]
  | cons x l ih =>
    have h1 := appendBits_length s x hs.1
    have h2 := ih _ (appendBits_ok s x hs (hl x (by simp))) (fun y hy => hl y (by simp [hy]))
    simp only [encBits, List.length_append, List.length_cons]
    omega

theorem new_any (w : World) : Calls Tryd.prog 24 #[] w fun e w' => e = .returned (.pointer (some ⟨w.heap.size, 0, none⟩)) ∧ w.alloc (.cells (wrCells St.zero (.slice none 0 0) 0) 76) = w' := by
  go_enter Tryd.func24, Tryd.ntmps24
  go_wp2
  go_ret
  exact ⟨rfl, rfl⟩
theorem wrAt_new (w : World) : WrAt (w.alloc (.cells (wrCells St.zero (.slice none 0 0) 0) 76)) w.heap.size St.zero [] :=
  ⟨.slice none 0 0, Blk.new _ _ _, World.ownsRow_nil _ _ _ _⟩
theorem TabW.lt {w : World} (h : TabW w) : 1 < w.heap.size := World.block_lt_of_cell? w _ (h 0 (by decide))

def PackRel (w : World) (l : List Smp) (i : Value) (wr : World) : Prop :=
  ∃ k : Nat, k ≤ l.length ∧ k ≤ 120 ∧ i = .int .i64 k ∧ WrAt wr w.heap.size (encSt St.zero (l.take k)) (encBits St.zero (l.take k)) ∧ Below w.heap.size w wr

def PackedPost (w : World) (l : List Smp) (e : Ending) (w' : World) : Prop :=
  Below w.heap.size w w' ∧ (if l.length ≤ 120 then e = .returned (.pointer (some ⟨w.heap.size, 0, none⟩)) ∧ WrAt w' w.heap.size (encSt St.zero l) (encBits St.zero l) else e = .returned (.pointer none))

theorem sample_snoc (l : List Smp) (k : Nat) (h : k < l.length) : l.take (k + 1) = l.take k ++ [l[k]] := by
  rw [List.take_succ_eq_append_getElem h]

set_option maxHeartbeats 800000 in
theorem packed_any (A : Option Addr) (cap : Nat) (l : List Smp) (w : World) (h : SmpAt w w.heap.size A l) (hl : l.length ≤ 140737488355327) (hok : ∀ x ∈ l, x.ok) (hT : TabW w) :
    Calls Tryd.prog 30 #[.slice A l.length cap] w (PackedPost w l) := by
  have H := Lib.hid h
  have HO := Lib.hid hok
  have HT := Lib.hid hT
  clear h hok hT
  go_enter Tryd.func30, Tryd.ntmps30
  go_wp2_with fail
  refine (new_any _).mono ?_
  rintro e w1 ⟨rfl, hw1⟩
  have H1 := Lib.hid (wrAt_new w)
  have HW1 := Lib.hid ((Below.refl w.heap.size w).alloc (Nat.le_refl _) (.cells (wrCells St.zero (.slice none 0 0) 0) 76))
  rw [hw1] at H1 HW1
  clear hw1
  go_wp2_with fail
  go_loopw [9] (fun i wr => PackRel w l i wr) (fun i _ => l.length - (intOf i).toNat)
  case atStart => exact ⟨0, Nat.zero_le _, by omega, rfl, H1.out, HW1.out⟩
  case round =>
    obtain ⟨k, hk, hk2, rfl, hr, hb⟩ := hrel
    have HR := Lib.hid hr
    have HB := Lib.hid hb
    clear hr hb
    by_cases hlt : k < l.length
    · obtain ⟨g, off, hA, hg, hc⟩ := H.out (by omega)
      obtain ⟨x, hx⟩ : ∃ x, x = l[k] := ⟨_, rfl⟩
      obtain ⟨h1, h2⟩ := hc k x (by rw [hx, List.getElem?_eq_getElem hlt])
      have d1 := (HB.out.cell (p := ⟨g, off + k * 2, none⟩) hg).trans h1
      have d2 := (HB.out.cell (p := ⟨g, off + k * 2 + 1, none⟩) hg).trans h2
      have hxo : x.ok := HO.out x (by rw [hx]; exact List.getElem_mem hlt)
      have HX := Lib.hid hx
      have HXO := Lib.hid hxo
      subst hA
      clear hc h1 h2 hx hxo
      by_cases hk120 : k < 120
      · have hst : (encSt St.zero (l.take k)).ok := encSt_ok _ _ St.zero_ok (fun y hy => HO.out y (List.mem_of_mem_take hy))
        have hsn : (encSt St.zero (l.take k)).n = k := by rw [encSt_n]; simp [St.zero]; omega
        have hel := encBits_length St.zero (l.take k) St.zero_ok (fun y hy => HO.out y (List.mem_of_mem_take hy))
        have hel2 : (encBits St.zero (l.take k)).length ≤ 90000 := by
          have : (l.take k).length ≤ 120 := by simp; omega
          omega
        have HST := Lib.hid hst
        have HSN := Lib.hid hsn
        clear hst hsn hel
        go_wp2_with fail
        refine (append_any w.heap.size _ _ x _ (HR.out.alloc _) HST.out HXO.out (by rw [HSN.out]; exact hk120) hel2 ?_ HT.out.lt).mono ?_
        · exact HT.out.below (HB.out.alloc HB.out.size _) HT.out.lt
        rintro e w2 ⟨rfl, hr2, hg2⟩
        have e1 : encBits St.zero (l.take (k + 1)) = encBits St.zero (l.take k) ++ (appendBits (encSt St.zero (l.take k)) x).1 := by
          rw [sample_snoc l k hlt, encBits_append, HX.out]; simp [encBits]
        have e2 : encSt St.zero (l.take (k + 1)) = (appendBits (encSt St.zero (l.take k)) x).2 := by
          rw [sample_snoc l k hlt, encSt_append, HX.out]; simp [encSt]
        rw [← e1, ← e2] at hr2
        have HR2 := Lib.hid hr2
        have HB2 := Lib.hid ((HB.out.alloc HB.out.size (.cells #[.int .i64 x.t, .float .f64 x.v] 41)).trans hg2.below)
        clear hr2 hg2 e1 e2 d1 d2
        go_wp2
        exact ⟨⟨k + 1, by omega, by omega, by go_num, HR2.out, HB2.out⟩, by simp [intOf]; omega⟩
      · have hsn : (encSt St.zero (l.take k)).n = k := by rw [encSt_n]; simp [St.zero]; omega
        have HSN := Lib.hid hsn
        clear hsn
        go_wp2_with fail
        refine (append_full w.heap.size _ _ x.t x.v _ (HR.out.alloc _) (by rw [HSN.out]; omega)).mono ?_
        rintro e w2 ⟨rfl, rfl⟩
        go_wp2
        refine bodyPost_ret (results_tmp rfl _ _ _) rfl ?_
        refine ⟨HB.out.alloc HB.out.size _, ?_⟩
        rw [if_neg (by omega)]
        rfl
    · have hkl : k = l.length := by omega
      have HK := Lib.hid hkl
      clear hkl
      go_wp2
      go_ret
      refine ⟨HB.out, ?_⟩
      rw [if_pos (by have := HK.out; omega)]
      have := HR.out
      rw [HK.out, List.take_length] at this
      exact ⟨rfl, this⟩
end Go.Proofs.YtjlfkdopkhejbaaDoor
