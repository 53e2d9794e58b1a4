/- The walks of the keep's LendBytes and IntactBytes. -/
import Derived.Test.YtjlfkdopkhejbaaDoorSpoil
namespace Go.Proofs.YtjlfkdopkhejbaaDoor
open Go.RowKit Go.Shelf Ck
attribute [local go_sem] frombits_call tobits_call run_store_float

def marks : List Nat := [201, 202, 203, 204]
theorem strOf_marks (bs : List Nat) : strOf bs ++ { data := #[201, 202, 203, 204] } = strOf (bs ++ marks) := by
  apply ByteArray.ext
  apply Array.ext'
  rw [ByteArray.data_append, Array.toList_append]
  unfold strOf
  rw [strOfNums_data, strOfNums_data, List.map_append, List.map_append]
  simp [marks]
theorem cells_newL (w : World) (t : TypeId) (cs : Array Value) (xs : List Value) (hx : cs.toList = xs) : ∀ (j : Nat) (u : Value), xs[j]? = some u → (w.alloc (.cells cs t)).cell? ((⟨w.heap.size, 0, none⟩ : Addr).add j) = some u := by
  intro j u hu
  have h := (Blk.new w t cs).cell j
  have e : (⟨w.heap.size, 0, none⟩ : Addr).add j = ⟨w.heap.size, j, none⟩ := by unfold Addr.add; split <;> simp_all
  rw [e, h, ← hu, ← hx]
  simp

theorem strOf_size (bs : List Nat) : (strOf bs).size = bs.length := by
  show (strOf bs).data.size = bs.length
  rw [← Array.length_toList, strOf, strOfNums_data]
  simp

/-- what is lent: a row of the bytes with marks behind -/
def LentAt (w : World) (g c : Nat) (bs : List Nat) : Prop := ∃ b, w.ownsRow b 5 1 (.slice (some ⟨g, 0, none⟩) (bs.length + 4) c) (bs.length + 4) (bytesV (bs ++ marks))

theorem LentAt.byt {w : World} {g c : Nat} {bs : List Nat} (h : LentAt w g c bs) : BytAt w (g + 1) (some ⟨g, 0, none⟩) (bs ++ marks) := by
  obtain ⟨b, h⟩ := h
  refine fun _ => ⟨g, 0, rfl, Nat.lt_succ_self _, fun i x hx => ?_⟩
  have hi : i < (bs ++ marks).length := (List.getElem?_eq_some_iff.1 hx).1
  rw [Nat.zero_add, h.cellAt i (by simp [marks] at hi; omega), bytesV, List.getElem?_map, hx]
  rfl
theorem LentAt.head {w : World} {g c : Nat} {bs : List Nat} (h : LentAt w g c bs) : BytAt w (g + 1) (some ⟨g, 0, none⟩) bs := by
  intro _
  obtain ⟨g', o, hA, hg, hc⟩ := h.byt (by simp [marks])
  refine ⟨g', o, hA, hg, fun i x hx => hc i x ?_⟩
  rw [List.getElem?_append_left (List.getElem?_eq_some_iff.1 hx).1]
  exact hx
theorem LentAt.lt {w : World} {g c : Nat} {bs : List Nat} (h : LentAt w g c bs) : g < w.heap.size ∧ bs.length + 4 ≤ c := by
  obtain ⟨b, h⟩ := h
  refine ⟨(h.lt g rfl).2, ?_⟩
  rcases h.2 with ⟨_, h0⟩ | ⟨g1, cap1, cur, hv, _, _, hc, _⟩
  · omega
  · simp only [Value.slice.injEq] at hv
    omega
theorem LentAt.below {w w' : World} {g c : Nat} {bs : List Nat} (h : LentAt w g c bs) (hb : Below w.heap.size w w') : LentAt w' g c bs := by
  obtain ⟨b, h⟩ := h
  exact ⟨b, h.kept (only_of_below hb none) (by simp [Value.ownBlock])⟩

set_option maxRecDepth 100000 in
set_option maxHeartbeats 1600000 in
theorem lend_any (A : Option Addr) (cap : Nat) (bs : List Nat) (w : World) (h : BytAt w w.heap.size A bs) (hl : bs.length ≤ 100000) :
    Calls Tryd.prog 14 #[.slice A bs.length cap] w fun e w' => ∃ g c, e = .returned (.slice (some ⟨g, 0, none⟩) bs.length c) ∧ LentAt w' g c bs ∧ w.heap.size ≤ g ∧ Below w.heap.size w w' := by
  obtain ⟨i0, hi, hz0, hz1, hz2⟩ := info_parts info5
  have H := Lib.hid (byt_reads h)
  have HI := Lib.hid hi
  have HZ0 := Lib.hid hz0
  have HZ1 := Lib.hid hz1
  have HZ2 := Lib.hid hz2
  clear h hi hz0 hz1 hz2
  go_enter Tryd.func14, Tryd.ntmps14
  go_wp2_with (at_builtin; first
    | (refine wpList_append_any _ rfl (.tmp 4) (.tmp 5) 23 rfl w.heap.size 5 i0 (.int .u8 0) 1 1 Tryd.underlying23 HI.out HZ0.out HZ1.out HZ2.out rfl (by decide) (.slice (some ⟨w.heap.size, 0, none⟩) 0 0) 0 [] rfl (World.ownsRow_lit w #[] 0 (Nat.le_refl _) (by simp [maxLen]) rfl) w.heap.size A bs.length cap (bytesV bs) rfl (H.out.alloc (Nat.le_refl _) _) (bytesV_one _) (by simp [maxLen]; omega) (by omega) (by simp) ?_; intro v1 w1 hown1 hgrow1 _; rw [Nat.zero_add, List.nil_append] at hown1; obtain ⟨A1, c1, hv1, _⟩ := own_byt hown1; subst hv1; have HOW := Lib.hid hown1; have HB1 := Lib.hid (((Below.refl w.heap.size w).alloc (Nat.le_refl _) _).grown hgrow1 (by simp) (fun k hk => by simp [Value.ownBlock] at hk; omega)); have hsz1 := HB1.out.size; clear hown1 hgrow1)
    | (refine wpList_append_any _ rfl (.tmp 6) (.tmp 7) 23 rfl w.heap.size 5 i0 (.int .u8 0) 1 1 Tryd.underlying23 HI.out HZ0.out HZ1.out HZ2.out rfl (by decide) (.slice A1 bs.length c1) bs.length (bytesV bs) rfl (HOW.out.alloc _) (w1.heap.size + 1) (some ⟨w1.heap.size, 0, none⟩) 4 4 (bytesV marks) rfl ⟨rfl, fun _ => ⟨_, rfl, Nat.lt_succ_self _, cells_newL w1 5 #[.int .u8 201, .int .u8 202, .int .u8 203, .int .u8 204] (bytesV marks) rfl⟩⟩ (bytesV_one _) (by simp [maxLen]; omega) (by omega) (by simp; omega) ?_; intro v2 w2 hown2 hgrow2 _; obtain ⟨g, c, hv2⟩ := own_succ hown2 (by omega); subst hv2; have hlen : LentAt w2 g c bs := ⟨w.heap.size, (by rw [show bytesV (bs ++ marks) = bytesV bs ++ bytesV marks by simp [bytesV]]; exact hown2)⟩; have hc2 : (bs.length : Int) ≤ (c : Int) := (by have := hlen.lt.2; omega); have hgw := (hown2.lt g rfl).1; have HLEN := Lib.hid hlen; have HB2 := Lib.hid ((HB1.out.alloc hsz1 _).grown hgrow2 (by simp; omega) (fun k hk => (HOW.out.lt k hk).1)); clear hown2 hgrow2 hlen))
  go_ret
  exact ⟨g, c, rfl, HLEN.out, hgw, HB2.out⟩

def IntR (w : World) (g c n : Nat) (i : Value) (wr : World) : Prop :=
  ∃ (k b : Nat) (cs : List Nat), k ≤ n ∧ i = .int .i64 k ∧ cs.length = n ∧ wr.ownsRow b 5 1 (.slice (some ⟨g, 0, none⟩) n c) n (bytesV cs) ∧ w.grownBy wr (some g)

set_option maxRecDepth 100000 in
set_option maxHeartbeats 1600000 in
theorem intact_any (A : Option Addr) (cap g c lim : Nat) (bs : List Nat) (w : World) (h : BytAt w lim A bs) (hL : LentAt w g c bs) (hl : bs.length ≤ 100000) :
    Calls Tryd.prog 16 #[.slice (some ⟨g, 0, none⟩) bs.length c, .slice A bs.length cap] w fun e w' => e = .returned (.bool true) ∧ w.grownBy w' (some g) := by
  have hlt := hL.lt
  have hcc : (bs.length : Int) + 4 ≤ (c : Int) := by omega
  have j1 := conv_any hL.byt c
  rw [show (bs ++ marks).length = bs.length + 4 by simp [marks]] at j1
  have j2 := conv_any h cap
  have HS := strOf_marks bs
  have hsz : (strOf bs).size + 4 ≤ 9223372036854775807 := by rw [strOf_size]; omega
  obtain ⟨b, hLo⟩ := hL
  have HL := Lib.hid hLo
  obtain ⟨N, hN⟩ : ∃ N, N = bs.length + 4 := ⟨_, rfl⟩
  have HN := Lib.hid hN
  clear h hlt hLo hN
  go_enter Tryd.func16, Tryd.ntmps16
  go_wp2_with fail
  go_loopw [7] (fun i wr => IntR w g c (bs.length + 4) i wr) (fun i _ => (bs.length + 4) - (intOf i).toNat)
  case atStart => exact ⟨0, b, bs ++ marks, Nat.zero_le _, rfl, by simp [marks], HL.out, only_refl _ _⟩
  case round =>
    obtain ⟨k, b', cs, hk, rfl, hcn, ho, hb⟩ := hrel
    have HO := Lib.hid ho
    have HB := Lib.hid hb
    have HC := Lib.hid hcn
    clear ho hb hcn j1 j2 HS HL hsz
    by_cases hlt : k < bs.length + 4
    · have q1 := own_bytes_at HO.out HC.out k hlt
      have kg := HO.out.frozenAt k
      go_wp2
      have hs := HO.out.stored k (.int .u8 ((85 : Nat) : Int))
      refine ⟨⟨k + 1, b', cs.set k 85, by omega, by go_num, by rw [List.length_set]; exact HC.out, ?_, ?_⟩, by simp [intOf]; omega⟩
      · rw [bytesV, List.map_set]; exact hs.1
      · exact only_setCell HB.out (p := ⟨g, k, none⟩) (.inl rfl) _
    · have hkl : k = bs.length + 4 := by omega
      go_wp2
      go_ret
      exact ⟨rfl, HB.out⟩
end Go.Proofs.YtjlfkdopkhejbaaDoor
