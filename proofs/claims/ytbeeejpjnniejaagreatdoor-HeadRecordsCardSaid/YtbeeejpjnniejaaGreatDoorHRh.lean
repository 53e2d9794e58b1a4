/- The document's head in memory: New (27), at (162), Horizon (118). -/
import Derived.Test.YtbeeejpjnniejaaGreatDoorHRhP
import Derived.Test.YtbeeejpjnniejaaGreatDoorJ10HCommit
import Derived.Test.YtbeeejpjnniejaaGreatDoorJ06Rx2
import Derived.Test.YtbeeejpjnniejaaGreatDoorJ13HWakes
import Derived.Test.YtbeeejpjnniejaaGreatDoorLRead
import Derived.IntWalk
namespace Go.Proofs.YtbeeejpjnniejaaGreatDoor
open Go.RowKit Go.Shelf Go.Maps
structure RAt (w : World) (F : Nat → Prop) (p : Nat) (H : Hd) (vL : Value) (vs : List VV) : Prop where
  blk : Blk w p 144 #[.int .i64 H.ret, vL, .int .i64 H.newest]
  own : F p
  row : w.ownsRow 0 153 2 vL H.ss.length (flatV vs)
  rowF : ∀ k, vL.ownBlock = some k → F k
  len : vs.length = H.ss.length
  each : ∀ (i : Nat) (x : VV) (s : HSer), vs[i]? = some x → H.ss[i]? = some s → (w.ownsRow 0 55 2 x.1 s.1.length (flatL s.1) ∧ ∀ k, x.1.ownBlock = some k → F k) ∧ (w.ownsRow 0 155 3 x.2 s.2.length (rowV s.2) ∧ ∀ k, x.2.ownBlock = some k → F k)
/-- the document's head, in the blocks of F, with n samples a series and n series at most -/
def RHd (w : World) (F : Nat → Prop) (p n : Nat) (H : Hd) : Prop := H.Ok ∧ H.ss.length ≤ n ∧ (∀ x ∈ H.ss, x.2.length ≤ n) ∧ ∃ vL vs, RAt w F p H vL vs
theorem RAt.keep {w w' : World} {F G : Nat → Prop} {p : Nat} {H : Hd} {vL : Value} {vs : List VV} (h : RAt w F p H vL vs) (hb : ∀ k, F k → k < w.heap.size → w'.heap[k]? = w.heap[k]?) (hF : ∀ k, F k → k < w.heap.size → G k) : RAt w' G p H vL vs := by
  have hk : ∀ {e : TypeId} {z m : Nat} {v : Value} {xs : List Value}, w.ownsRow 0 e z v m xs → (∀ k, v.ownBlock = some k → F k) → w'.ownsRow 0 e z v m xs ∧ ∀ k, v.ownBlock = some k → G k := fun ho hf =>
    ⟨own_blk_w ho fun k hk => hb k (hf k hk) (ho.lt k hk).2, fun k hk => hF k (hf k hk) (ho.lt k hk).2⟩
  exact ⟨(hb p h.own h.blk.lt).trans h.blk, hF p h.own h.blk.lt, (hk h.row h.rowF).1, (hk h.row h.rowF).2, h.len, fun i x s a b => ⟨hk (h.each i x s a b).1.1 (h.each i x s a b).1.2, hk (h.each i x s a b).2.1 (h.each i x s a b).2.2⟩⟩
theorem RHd.keep {w w' : World} {F G : Nat → Prop} {p n : Nat} {H : Hd} (h : RHd w F p n H) (hb : ∀ k, F k → k < w.heap.size → w'.heap[k]? = w.heap[k]?) (hF : ∀ k, F k → k < w.heap.size → G k) : RHd w' G p n H := by
  obtain ⟨h1, h2, h3, vL, vs, h4⟩ := h
  exact ⟨h1, h2, h3, vL, vs, h4.keep hb hF⟩
theorem RHd.below {w w' : World} {F : Nat → Prop} {p n : Nat} {H : Hd} (h : RHd w F p n H) (hb : Below w.heap.size w w') : RHd w' F p n H := h.keep (fun k _ hk => hb.block k hk) fun _ h _ => h
theorem RHd.mono {w : World} {F : Nat → Prop} {p n m : Nat} {H : Hd} (h : RHd w F p n H) (hn : n ≤ m) : RHd w F p m H := ⟨h.1, by have := h.2.1; omega, fun x hx => by have := h.2.2.1 x hx; omega, h.2.2.2⟩
set_option maxRecDepth 100000 in
set_option maxHeartbeats 1600000 in
theorem rnew_any (r : Int) (w : World) (hr : r ≤ 9223372036854775807) : Calls Tryz.prog 27 #[.int .i64 r] w fun e w' => e = .returned (.pointer (some ⟨w.heap.size, 0, none⟩)) ∧ RHd w' (fun k => w.heap.size ≤ k ∧ k < w'.heap.size) w.heap.size 0 (Hd.empty r) ∧ Below w.heap.size w w' := by
  have key : ∀ z, z = max r 0 → RHd (w.alloc (.cells #[.int .i64 z, .slice none 0 0, .int .i64 (-9007199254740993)] 144)) (fun k => w.heap.size ≤ k ∧ k < (w.alloc (.cells #[.int .i64 z, .slice none 0 0, .int .i64 (-9007199254740993)] 144)).heap.size) w.heap.size 0 (Hd.empty r) ∧ Below w.heap.size w (w.alloc (.cells #[.int .i64 z, .slice none 0 0, .int .i64 (-9007199254740993)] 144)) := by
    intro z hz
    refine ⟨⟨⟨by show 0 ≤ max r 0 ∧ max r 0 ≤ _; omega, by show -big - 1 ≤ -big - 1 ∧ -big - 1 ≤ big; unfold big; omega, List.Pairwise.nil, fun s hs => by cases hs⟩, Nat.le_refl _, fun x hx => (by cases hx), .slice none 0 0, [], ?_⟩, (Below.refl _ w).alloc (Nat.le_refl _) _⟩
    exact RAt.mk (by show Blk _ w.heap.size 144 #[.int .i64 (max r 0), .slice none 0 0, .int .i64 (-9007199254740993)]; rw [← hz]; exact Blk.new w 144 _) ⟨Nat.le_refl _, by simp⟩ ( World.ownsRow_nil _ _ _ _) (fun k hk => (by cases hk)) rfl (fun i x s a => by simp at a)
  by_cases h0 : r < 0
  · have HK := Lib.hid (key 0 (by omega))
    clear key
    go_enter Tryz.func27, Tryz.ntmps27
    go_wp2
    go_ret
    exact ⟨rfl, HK.out.1, HK.out.2⟩
  · have HK := Lib.hid (key r (by omega))
    clear key
    go_enter Tryz.func27, Tryz.ntmps27
    go_wp2
    go_ret
    exact ⟨rfl, HK.out.1, HK.out.2⟩
def RatR (w : World) (ls : List Lbl) (ss : List HSer) (i : Value) (wr : World) : Prop := ∃ k q : Nat, i = .int .i64 (k : Int) ∧ k ≤ ss.length ∧ atP ls ss = (k + (atP ls (ss.drop k)).1, (atP ls (ss.drop k)).2) ∧ wr = w.drewN q
set_option maxRecDepth 100000 in
set_option maxHeartbeats 3200000 in
theorem rat_any (w : World) (F : Nat → Prop) (p n B : Nat) (H : Hd) (v : Value) (ls : List Lbl) (h : RHd w F p n H) (hn : n ≤ 100000) (hv : LabsAt w B v ls) (hl : ls.length ≤ 100000) :
    Calls Tryz.prog 162 #[.pointer (some ⟨p, 0, none⟩), v] w fun e w' => e = .returned (.tuple #[.int .i64 ((atP ls H.ss).1 : Int), .bool (atP ls H.ss).2]) ∧ ∃ q, w' = w.drewN q := by
  obtain ⟨hok, hn1, hn2, vL, vs, hr⟩ := h
  obtain ⟨AL, cL, rfl⟩ := own_slice hr.row
  obtain ⟨N, hN⟩ : ∃ N, N = H.ss.length := ⟨_, rfl⟩
  have hrow := hr.row
  have hblk := hr.blk
  rw [← hN] at hrow hblk hn1
  have x1 : w.cell? ⟨p, 1, none⟩ = some (.slice AL N cL) := hblk.cell 1
  have HST := Lib.hid (show RatR w ls H.ss (.int .i64 0) w from ⟨0, 0, rfl, Nat.zero_le _, by rw [List.drop_zero, Nat.zero_add], rfl⟩)
  have HR := Lib.hid hr
  have HN := Lib.hid hN
  have HRW := Lib.hid hrow
  have HB := Lib.hid hblk
  have HV := Lib.hid hv
  have HOK := Lib.hid hok
  clear hok hr hN hrow hblk hv hn2
  go_enter Tryz.func162, Tryz.ntmps162
  go_wp2_with fail
  clear x1
  go_loopw [6] (fun i wr => RatR w ls H.ss i wr) (fun i _ => N - (intOf i).toNat)
  case atStart => exact HST.out
  case round =>
    obtain ⟨k, q, rfl, hk, he, hw⟩ := hrel
    have HE := Lib.hid he
    have x1 : wr.cell? ⟨p, 1, none⟩ = some (.slice AL N cL) := by rw [hw]; exact HB.out.cell 1
    by_cases hlt : k < N
    · have j1 : (k : Int) < (N : Int) := by omega
      have j0 : (0 : Int) ≤ (k : Int) := by omega
      obtain ⟨s, hs⟩ : ∃ s, H.ss[k]? = some s := ⟨_, List.getElem?_eq_getElem (by have := HN.out; omega)⟩
      obtain ⟨x, hx⟩ : ∃ x, vs[k]? = some x := ⟨_, List.getElem?_eq_getElem (by have := HN.out; have := HR.out.len; omega)⟩
      have hea := HR.out.each k x s hx hs
      have hrd : Reads w w.heap.size 2 AL N (flatV vs) := Reads.of_own HRW.out
      have hVL : vs.length = N := by have := HN.out; have := HR.out.len; omega
      rw [← hVL] at hrd
      obtain ⟨d, rfl, -, y0, -⟩ := hrd.two hx
      obtain ⟨Al, cl, el⟩ := own_slice hea.1.1
      rw [el] at y0
      have hs64 : s.1.length ≤ 64 := (fitP_fit (HOK.out.ser s (List.mem_of_getElem? hs)).right).1
      obtain ⟨cm, hcm⟩ : ∃ cm, cm = cmpL s.1 ls := ⟨_, rfl⟩
      have hlab : LabsAt wr wr.heap.size x.1 s.1 := by rw [hw]; exact labs_of_own (w := w) hea.1.1
      have hlv : LabsAt wr B v ls := by rw [hw]; exact HV.out
      have HC := Lib.hid (show Calls Tryz.prog 19 #[x.1, v] wr fun e w' => e = .returned (.int .i64 cm) ∧ ∃ q', w' = wr.drewN q' from by
        rw [hcm]
        exact rcompare_any wr (max wr.heap.size B) x.1 v s.1 ls (hlab.more (Nat.le_max_left _ _)) (hlv.more (Nat.le_max_right _ _)) (by omega) hl)
      rw [el] at HC
      replace y0 : wr.cell? (d.add (k * 2)) = some (.slice Al s.1.length cl) := by rw [hw]; exact y0
      obtain ⟨nl, hnl⟩ : ∃ nl, nl = s.1.length := ⟨_, rfl⟩
      rw [← hnl] at HC y0
      have HS := Lib.hid hs
      have HCM := Lib.hid hcm
      have HW := Lib.hid hw
      clear he hs hx hea hrd hVL el hcm hlab hlv hw hnl
      go_wp2_with fail
      refine HC.out.mono ?_
      rintro e w2 ⟨rfl, q2, rfl⟩
      rcases Int.lt_trichotomy cm 0 with hc | hc | hc
      · have c0 : (cm == 0) = false := by simp; omega
        have c1 : ¬ 0 < cm := by omega
        have hst := atP_step HS.out (by rw [← HCM.out]; exact hc)
        have HP := Lib.hid (show atP ls H.ss = (k + 1 + (atP ls (H.ss.drop (k + 1))).1, (atP ls (H.ss.drop (k + 1))).2) by rw [HE.out, hst]; refine Prod.ext ?_ rfl; show k + ((atP ls (H.ss.drop (k + 1))).1 + 1) = _; omega)
        clear hst
        go_wp2
        exact ⟨⟨k + 1, q + q2, by first | rfl | go_num, by have := HN.out; omega, HP.out, by rw [HW.out, World.drewN_drewN]⟩, by simp only [intOf]; omega⟩
      · have HP := Lib.hid (show atP ls H.ss = (k, true) by rw [HE.out, atP_zero HS.out (by rw [← HCM.out]; exact hc)]; rfl)
        have c0 : (cm == 0) = true := by simp; omega
        clear hc
        go_wp2
        refine bodyPost_ret (results_tmp2 rfl _ _ _) rfl ?_
        exact ⟨by rw [HP.out]; rfl, q + q2, by rw [HW.out, World.drewN_drewN]⟩
      · have HP := Lib.hid (show atP ls H.ss = (k, false) by rw [HE.out, atP_stop HS.out (by rw [← HCM.out]; exact hc)]; rfl)
        have c0 : (cm == 0) = false := by simp; omega
        go_wp2
        refine bodyPost_ret (results_tmp2 rfl _ _ _) rfl ?_
        exact ⟨by rw [HP.out]; rfl, q + q2, by rw [HW.out, World.drewN_drewN]⟩
    · have j1 : ¬ (k : Int) < (N : Int) := by omega
      have hkn : k = N := by have := HN.out; omega
      have HP := Lib.hid (show atP ls H.ss = (N, false) by
        rw [HE.out, List.drop_of_length_le (by have := HN.out; omega), hkn]
        rfl)
      have HW := Lib.hid hw
      clear he hw hkn
      go_wp2
      refine bodyPost_ret (results_tmp2 rfl _ _ _) rfl ?_
      exact ⟨by rw [HP.out]; rfl, q, HW.out⟩
end Go.Proofs.YtbeeejpjnniejaaGreatDoor
