/- The document's disk: sorted (function 76), List (63), Durable (64). The document's disk: List (function 63), Durable (64); the row of names is the sorted one. The program's disk and the document's, side by side, in plain Lean: when their states tell the same. -/
import Derived.Test.YtfeglchngekedaaJ13Rread
import Derived.Test.YtfeglchngekedaaJ11Rpl
namespace Go.Proofs.Ytfeglchngekedaa
open Go.RowKit Go.Shelf Go.Maps

/-- a name laid into a rising row -/
def below (n : Nm) (l : List Nm) : Nat := (l.takeWhile fun x => decide (x < n)).length
def insN (n : Nm) (l : List Nm) : List Nm := l.take (below n l) ++ n :: l.drop (below n l)
def sortN (pre : Nm) : List Nm → List Nm → List Nm
  | acc, [] => acc
  | acc, n :: l => sortN pre (if Go.Lib.hasPrefix n pre then insN n acc else acc) l
theorem below_le (n : Nm) (l : List Nm) : below n l ≤ l.length := by
  unfold below
  exact (List.takeWhile_prefix _).length_le
theorem bless_eq : ∀ (x y : List UInt8), Op.bytesLess x y = decide (x < y)
  | [], [] => by simp [Op.bytesLess]
  | _ :: _, [] => by simp [Op.bytesLess]
  | [], _ :: _ => by simp [Op.bytesLess]
  | a :: x, b :: y => by
    rw [Op.bytesLess, bless_eq x y]
    by_cases h1 : a < b
    · simp [h1, List.cons_lt_cons_iff]
    · by_cases h2 : a = b
      · simp [h2]
      · simp [h1, h2, List.cons_lt_cons_iff]
theorem tw_next {α : Type} (p : α → Bool) : ∀ (l : List α) (k : Nat), k ≤ (l.takeWhile p).length → ∀ h : k < l.length, (p l[k] = true → k + 1 ≤ (l.takeWhile p).length) ∧ (p l[k] = false → (l.takeWhile p).length = k)
  | [], k, _, h => absurd h (Nat.not_lt_zero _)
  | a :: l, 0, _, _ => by
    refine ⟨fun h => ?_, fun h => ?_⟩
    · have h : p a = true := h
      rw [List.takeWhile_cons_of_pos h]; simp
    · have h : p a = false := h
      rw [List.takeWhile_cons_of_neg (by rw [h]; simp)]; rfl
  | a :: l, k + 1, hk, h => by
    cases ha : p a with
    | false => rw [List.takeWhile_cons_of_neg (by rw [ha]; simp)] at hk; simp at hk
    | true =>
      rw [List.takeWhile_cons_of_pos ha] at hk ⊢
      simp only [List.length_cons] at hk h ⊢
      have := tw_next p l k (by omega) (by omega)
      exact ⟨fun h2 => by have := this.1 h2; omega, fun h2 => by have := this.2 h2; omega⟩
theorem below_next {n : Nm} {l : List Nm} {k : Nat} (hk : k ≤ below n l) (h : k < l.length) : (l[k] < n → k + 1 ≤ below n l) ∧ (¬ l[k] < n → below n l = k) := by
  have := tw_next (fun x : Nm => decide (x < n)) l k hk h
  exact ⟨fun h2 => this.1 (by simpa using h2), fun h2 => this.2 (by simpa using h2)⟩
theorem sortN_snoc (pre : Nm) : ∀ (l acc : List Nm) (n : Nm), sortN pre acc (l ++ [n]) = if Go.Lib.hasPrefix n pre then insN n (sortN pre acc l) else sortN pre acc l
  | [], _, _ => rfl
  | _ :: l, _, n => sortN_snoc pre l _ n
theorem insN_len (n : Nm) (l : List Nm) : (insN n l).length = l.length + 1 := by
  unfold insN
  have := below_le n l
  simp
  omega
theorem sortN_len (pre : Nm) : ∀ (l acc : List Nm), (sortN pre acc l).length ≤ acc.length + l.length
  | [], _ => Nat.le_refl _
  | n :: l, acc => by
    show (sortN pre (if Go.Lib.hasPrefix n pre then insN n acc else acc) l).length ≤ _
    have := sortN_len pre l (if Go.Lib.hasPrefix n pre then insN n acc else acc)
    have h2 : (if Go.Lib.hasPrefix n pre then insN n acc else acc).length ≤ acc.length + 1 := by
      split
      · rw [insN_len]; exact Nat.le_refl _
      · omega
    simp only [List.length_cons]
    omega

def SrtR (w : World) (l : Dl) (pre : Nm) (acc i : Value) (wr : World) : Prop :=
  ∃ (k : Nat) (u : Value), k ≤ l.length ∧ u = acc ∧ i = .int .i64 k ∧ wr.ownsRow w.heap.size 9 1 u (sortN pre [] ((l.take k).map (·.1))).length ((sortN pre [] ((l.take k).map (·.1))).map encStr) ∧ Below w.heap.size w wr
def SrtI (ks : List Nm) (n : Nm) (i : Value) : Prop := ∃ k : Nat, k ≤ below n ks ∧ i = .int .i64 k

set_option maxRecDepth 100000 in
set_option maxHeartbeats 6400000 in
theorem sorted_any (w : World) (A : Option Addr) (c : Nat) (l : Dl) (pre : ByteArray) (h : w.ownsRow 0 94 2 (.slice A l.length c) l.length (entsV l)) (hl : l.length ≤ 1000000) (hp : pre.size ≤ maxLen) (hnm : ∀ x ∈ l, x.1.length ≤ maxLen) :
    Calls Try.prog 76 #[.slice A l.length c, .string pre] w fun e w' => ∃ v, e = .returned v ∧ w'.ownsRow w.heap.size 9 1 v (sortN pre.data.toList [] (l.map (·.1))).length ((sortN pre.data.toList [] (l.map (·.1))).map encStr) ∧ Below w.heap.size w w' := by
  obtain ⟨i0, hi, hz0, hz1, hz2⟩ := info_parts info9
  have HI := Lib.hid hi
  have HZ0 := Lib.hid hz0
  have HZ1 := Lib.hid hz1
  have HZ2 := Lib.hid hz2
  have H := Lib.hid h
  have HNM := Lib.hid hnm
  unfold maxLen at hp
  clear h hnm hi hz0 hz1 hz2
  go_enter Try.func76, Try.ntmps76
  go_wp2_with fail
  go_loopw [5, 6] (fun acc i wr => SrtR w l pre.data.toList acc i wr) (fun _ i _ => l.length - (intOf i).toNat)
  case atStart => exact ⟨0, _, Nat.zero_le _, rfl, rfl, World.ownsRow_nil _ _ _ _, Below.refl _ _⟩
  case round =>
    obtain ⟨k, u, hk, hu, rfl, hrow, hb⟩ := hrel
    subst hu
    obtain ⟨A5, d5, rfl⟩ := own_slice hrow
    have hbs := hb.size
    by_cases hlt : k < l.length
    · obtain ⟨gA, cA, hAv⟩ := own_succ H.out (by omega)
      injection hAv with hAv _ hcA
      subst hcA
      subst hAv
      have hw0 : wr.ownsRow 0 94 2 (.slice (some ⟨gA, 0, none⟩) l.length c) l.length (entsV l) := own_keep H.out (fun k _ hk => hb.block k hk)
      have x0 : wr.cell? ⟨gA, k * 2, none⟩ = some (nmV l[k].1) := by rw [hw0.cellAt (k * 2) (by omega)]; exact (entsV_at l k hlt).1
      clear hw0
      have hnk := HNM.out _ (List.getElem_mem hlt)
      have hts : (l.take (k + 1)).map (·.1) = (l.take k).map (·.1) ++ [l[k].1] := by rw [List.take_succ_eq_append_getElem hlt, List.map_append]; rfl
      obtain ⟨y, hy⟩ : ∃ y, y = l[k].1 := ⟨_, rfl⟩
      rw [← hy] at x0 hnk hts
      obtain ⟨x, hx⟩ : ∃ x : ByteArray, x = ⟨y.toArray⟩ := ⟨_, rfl⟩
      have hxs : x.size = y.length := by rw [hx]; rfl
      have x0' : wr.cell? ⟨gA, k * 2, none⟩ = some (.string x) := by rw [x0, hx]; rfl
      have hxm : x.size ≤ 9223372036854775807 := by rw [hxs]; unfold maxLen at hnk; omega
      have HY := Lib.hid (show x.data.toList = y by rw [hx])
      have hsl := sortN_len pre.data.toList ((l.take k).map (·.1)) []
      rw [List.length_map, List.length_take] at hsl
      obtain ⟨ks, hks⟩ : ∃ ks, ks = sortN pre.data.toList [] ((l.take k).map (·.1)) := ⟨_, rfl⟩
      have hsn : sortN pre.data.toList [] ((l.take (k + 1)).map (·.1)) = if Go.Lib.hasPrefix y pre.data.toList then insN y ks else ks := by rw [hts, sortN_snoc, hks]
      rw [← hks] at hrow hsl ⊢
      have hkl : ks.length ≤ 1000000 := by simp at hsl; omega
      have HSN := Lib.hid hsn
      have HROW := Lib.hid hrow
      have HB := Lib.hid hb
      clear hy hx hxs x0 hnk hts hrow hb hsn hks hsl
      have hpx : Go.Lib.hasPrefix y pre.data.toList = (decide (pre.size ≤ x.size) && ((x.extract 0 pre.size).toList == pre.toList)) := by
        rw [← HY.out]
        unfold Go.Lib.hasPrefix
        rw [ByteArray.toList_eq, ByteArray.toList_eq, Bool.eq_iff_iff, List.isPrefixOf_iff_prefix, Bool.and_eq_true, decide_eq_true_eq, beq_iff_eq]
        have e1 : (x.extract 0 pre.size).data.toList = x.data.toList.take pre.size := by simp [ByteArray.data_extract]
        rw [e1]
        have e2 : pre.data.toList.length = pre.size := by simp
        have e3 : x.data.toList.length = x.size := by simp
        rw [List.prefix_iff_eq_take, e2]
        constructor
        · intro h
          have h2 := congrArg List.length h
          rw [List.length_take, e2, e3] at h2
          exact ⟨by omega, h.symm⟩
        · exact fun h => h.2.symm
      have HPX := Lib.hid hpx
      clear hpx
      by_cases hsz : x.size < pre.size
      · go_wp2
        refine ⟨⟨k + 1, _, by omega, rfl, by go_num, ?_, HB.out⟩, by simp [intOf]; omega⟩
        have e : Go.Lib.hasPrefix y pre.data.toList = false := by rw [HPX.out, decide_eq_false (by omega)]; rfl
        rw [HSN.out, e]
        exact HROW.out
      · cases hq : ((x.extract 0 pre.size).toList == pre.toList) with
        | false =>
          have hq' : ((x.extract 0 pre.size).toList != pre.toList) = true := by rw [bne, hq]; rfl
          have e : Go.Lib.hasPrefix y pre.data.toList = false := by rw [HPX.out, hq, Bool.and_false]
          have HE := Lib.hid e
          clear e
          go_wp2
          refine ⟨⟨k + 1, _, by omega, rfl, by go_num, ?_, HB.out⟩, by simp [intOf]; omega⟩
          rw [HSN.out, HE.out]
          exact HROW.out
        | true =>
          have hq' : ((x.extract 0 pre.size).toList != pre.toList) = false := by rw [bne, hq]; rfl
          have e : Go.Lib.hasPrefix y pre.data.toList = true := by rw [HPX.out, hq, decide_eq_true (by omega)]; rfl
          have HE := Lib.hid e
          clear e
          go_wp2_with fail
          have hcap := own_capv HROW.out
          have hA5 : d5 ≠ 0 → ∃ g, A5 = some ⟨g, 0, none⟩ := by
            intro h0
            rcases HROW.out.2 with ⟨e1, -⟩ | ⟨g, cap, cur, e1, -⟩
            · injection e1 with _ _ e1; exact absurd e1 h0
            · injection e1 with e1; exact ⟨g, e1⟩
          have HA5 := Lib.hid hA5
          clear hA5
          go_loop [8] (fun i => SrtI ks y i) (fun i => ks.length - (intOf i).toNat)
          case atStart => exact ⟨0, Nat.zero_le _, rfl⟩
          case round =>
            obtain ⟨j, hj, rfl⟩ := hrel
            have hjl := below_le y ks
            obtain ⟨L, hL⟩ : ∃ L, L = ks.length := ⟨_, rfl⟩
            by_cases hgo : ∃ h : j < ks.length, ks[j] < y
            · obtain ⟨hlt2, hls⟩ := hgo
              obtain ⟨g5, c5, hA5⟩ := own_succ HROW.out (by omega)
              injection hA5 with hA5 _ hc5
              subst hc5
              subst hA5
              have z0 : wr.cell? ⟨g5, j, none⟩ = some (encStr ks[j]) := by rw [HROW.out.cellAt j (by omega), List.getElem?_map, List.getElem?_eq_getElem hlt2]; rfl
              have hnx := (below_next hj hlt2).1 hls
              have hbl : Op.bytesLess ks[j] x.toList = true := by rw [bless_eq, ByteArray.toList_eq, HY.out]; exact decide_eq_true hls
              clear hls
              obtain ⟨z, hz⟩ : ∃ z, z = ks[j] := ⟨_, rfl⟩
              rw [← hz] at hbl z0
              have z0' : wr.cell? ⟨g5, j, none⟩ = some (.string ⟨z.toArray⟩) := z0
              clear z0 hz
              go_wp2
              exact ⟨⟨j + 1, hnx, by go_num⟩, by simp [intOf]; omega⟩
            · have hbel : below y ks = j := by
                rcases Nat.lt_or_ge j ks.length with h1 | h1
                · exact (below_next hj h1).2 (fun h2 => hgo ⟨h1, h2⟩)
                · omega
              have hjd : j ≤ d5 := by omega
              have HBEL := Lib.hid hbel
              have hins : insN y ks = ks.take j ++ y :: ks.drop j := by unfold insN; rw [hbel]
              have HINS := Lib.hid hins
              have hb1 : Below wr.heap.size wr (wr.alloc (.cells #[] 9)) := (Below.refl _ wr).alloc (Nat.le_refl _) _
              have HB1 := Lib.hid hb1
              have HOW := Lib.hid (World.ownsRow_lit (base := wr.heap.size) (e := 9) (size := 1) wr #[] 0 (Nat.le_refl _) (Nat.zero_le _) rfl)
              have hrd := Reads.of_own HROW.out
              have hr1 := hrd.take (k := j) (by omega)
              rw [Nat.mul_one] at hr1
              have HR1 := Lib.hid (hr1.alloc (Nat.le_refl _) (.cells #[] 9))
              have hr3 := hrd.cut (k := j) (cap := d5) (by omega) hcap
              rw [Nat.mul_one] at hr3
              have HR3 := Lib.hid (hr3.alloc (Nat.le_refl _) (.cells #[] 9))
              have hl1 : (ks.map encStr).take j = (ks.take j).map encStr := (List.map_take ..).symm
              have hl3 : (ks.map encStr).drop j = (ks.drop j).map encStr := (List.map_drop ..).symm
              rw [hl1] at HR1
              rw [hl3] at HR3
              have hdl : (ks.drop j).length = ks.length - j := by simp
              have HDL := Lib.hid hdl
              have hxe : encStr y = .string x := by unfold encStr; rw [← HY.out]
              have HXE := Lib.hid hxe
              have hone : ∀ u ∈ [Value.string x], u.oneCell' = true := by intro u hu; rw [List.mem_singleton.1 hu]; rfl
              have HONE := Lib.hid hone
              have hstr : ∀ (q : List Nm), ∀ u ∈ q.map encStr, u.oneCell' = true := by
                intro q u hu
                obtain ⟨z, -, rfl⟩ := List.mem_map.1 hu
                rfl
              have HSTR := Lib.hid hstr
              have hwsz : w.heap.size ≤ wr.heap.size := hbs
              clear hbel hins hb1 hrd hr1 hr3 hl1 hl3 hdl hxe hone hstr
              have htail : ∀ (A3 : Option Addr) (c3 : Nat), (if d5 = j then A5 else A5.map (·.add j)) = A3 → True := fun _ _ _ => trivial
              clear htail
              have hz : (if hh : j < ks.length then Op.bytesLess ks[j] x.toList = false else True) := by
                split
                · rename_i hh
                  rw [bless_eq, ByteArray.toList_eq, HY.out]
                  exact decide_eq_false (fun h2 => hgo ⟨hh, h2⟩)
                · trivial
              clear hgo
              by_cases hlt2 : j < ks.length
              case' pos =>
                rw [dif_pos hlt2] at hz
                obtain ⟨g5, c5, hA5⟩ := own_succ HROW.out (by omega)
                injection hA5 with hA5 _ hc5
                subst hc5
                subst hA5
                have z0 : wr.cell? ⟨g5, j, none⟩ = some (encStr ks[j]) := by rw [HROW.out.cellAt j (by omega), List.getElem?_map, List.getElem?_eq_getElem hlt2]; rfl
                obtain ⟨z, hze⟩ : ∃ z, z = ks[j] := ⟨_, rfl⟩
                rw [← hze] at hz z0
                have z0' : wr.cell? ⟨g5, j, none⟩ = some (.string ⟨z.toArray⟩) := z0
                clear z0 hze
              case' neg =>
                clear hz
              all_goals
                by_cases hdj : d5 = j
                case' pos =>
                  rw [if_pos hdj] at HR3
                  obtain rfl : j = d5 := hdj.symm
                  rw [show ks.length - j = 0 by omega] at HR3
                case' neg =>
                  obtain ⟨g6, hg6⟩ := HA5.out (by omega)
                  rw [if_neg hdj] at HR3
                  first
                    | subst hg6
                    | (obtain rfl : g5 = g6 := by injection hg6 with e; injection e)
                  have hadd : ∀ g : Nat, (⟨g, 0, none⟩ : Addr).add j = ⟨g, j, none⟩ := fun g => by unfold Addr.add; split <;> simp_all
                  simp only [Option.map_some, hadd] at HR3
                  clear hadd
                all_goals (try (exfalso; omega))
                all_goals
                  go_wp2_with (first
                    | (at_builtin; (refine wpList_append_any _ rfl (.tmp 48) (.tmp 51) 36 rfl wr.heap.size 9 i0 (.string ⟨#[]⟩) 1 16 Try.underlying36 HI.out HZ0.out HZ1.out HZ2.out rfl (by omega) (.slice (some ⟨wr.heap.size, 0, none⟩) 0 0) 0 [] rfl HOW.out wr.heap.size _ j _ ((ks.take j).map encStr) rfl HR1.out (HSTR.out _) (by simp [maxLen]; omega) (by omega) (by simp) ?_; intro v1 w1 hown1 hgrow1 _; rw [Nat.zero_add, List.nil_append] at hown1; obtain ⟨A1, d1, hv1⟩ := own_slice hown1; subst hv1; have hb1 := HB1.out.grown hgrow1 (by simp) (fun k hk => by cases hk; exact Nat.le_refl _); have hs1 := hb1.size; have HW1 := Lib.hid hown1; have HRA := Lib.hid (HR3.out.grown hgrow1 (by simp) (fun k hk => by cases hk; exact Nat.le_refl _)); have HBA := Lib.hid hb1; clear hown1 hgrow1 hb1))
                    | (at_builtin; (refine wpList_append_any _ rfl (.tmp 53) (.tmp 55) 36 rfl wr.heap.size 9 i0 (.string ⟨#[]⟩) 1 16 Try.underlying36 HI.out HZ0.out HZ1.out HZ2.out rfl (by omega) (.slice A1 j d1) j ((ks.take j).map encStr) rfl (HW1.out.alloc _) (w1.heap.size + 1) (some ⟨w1.heap.size, 0, none⟩) 1 1 [.string x] rfl (one_str w1 x) HONE.out (by simp [maxLen]; omega) (by omega) (by simp; omega) ?_; intro v2 w2 hown2 hgrow2 _; obtain ⟨A2, d2, hv2⟩ := own_slice hown2; subst hv2; have hb2 := (HBA.out.alloc hs1 (.cells #[.string x] 9)).grown hgrow2 (by simp; omega) (fun k hk => (HW1.out.lt k hk).1); have hs2 := hb2.size; have HW2 := Lib.hid hown2; have HRB := Lib.hid ((HRA.out.alloc hs1 (.cells #[.string x] 9)).grown hgrow2 (by simp; omega) (fun k hk => (HW1.out.lt k hk).1)); have HBB := Lib.hid hb2; clear hown2 hgrow2 hb2))
                    | (at_builtin; go_loud (refine wpList_append_any _ rfl (.tmp 57) (.tmp 60) 36 rfl wr.heap.size 9 i0 (.string ⟨#[]⟩) 1 16 Try.underlying36 HI.out HZ0.out HZ1.out HZ2.out rfl (by omega) (.slice A2 (j + 1) d2) (j + 1) ((ks.take j).map encStr ++ [.string x]) rfl HW2.out wr.heap.size _ _ _ ((ks.drop j).map encStr) rfl HRB.out (HSTR.out _) (by simp [maxLen]; omega) (by omega) (by omega) ?_; intro v3 w3 hown3 hgrow3 _; obtain ⟨A3, d3, hv3⟩ := own_slice hown3; subst hv3; have hb3 := HBB.out.grown hgrow3 (by omega) (fun k hk => (HW2.out.lt k hk).1); have HW3 := Lib.hid hown3; have HBC := Lib.hid hb3; clear hown3 hgrow3 hb3)))
                  refine ⟨⟨k + 1, _, by omega, rfl, by go_num, ?_, HB.out.trans (HBC.out.mono hwsz)⟩, by simp [intOf]; omega⟩
                  rw [HSN.out, HE.out, if_pos rfl, insN_len]
                  have h3 := HW3.out
                  have e2 : (insN y ks).map encStr = (ks.take j).map encStr ++ [.string x] ++ (ks.drop j).map encStr := by
                    rw [HINS.out, List.map_append, List.map_cons, HXE.out, List.append_assoc]; rfl
                  rw [e2]
                  have h4 := own_low h3 hwsz
                  first
                    | (rw [show j + 1 + (ks.length - j) = ks.length + 1 by omega] at h4 ⊢; exact h4)
                    | (rw [show j + 1 + (ks.length - j) = ks.length + 1 by omega] at h4; exact h4)
                    | (rw [Nat.add_zero, show j = ks.length by omega] at h4 ⊢; exact h4)
                    | (obtain rfl : j = ks.length := by omega
                       exact h4)
    · obtain rfl : k = l.length := by omega
      have HROW := Lib.hid hrow
      have HB := Lib.hid hb
      clear hrow hb
      go_wp2
      go_ret
      have := HROW.out
      simp only [List.take_length] at this ⊢
      exact ⟨_, rfl, this, HB.out⟩
end Go.Proofs.Ytfeglchngekedaa
namespace Go.Proofs.Ytfeglchngekedaa
open Go.RowKit Go.Shelf Go.Maps

abbrev leN (x y : Nm) : Bool := decide (x ≤ y)
theorem insN_cons (n a : Nm) (l : List Nm) : insN n (a :: l) = if a < n then a :: insN n l else n :: a :: l := by
  unfold insN below
  by_cases h : a < n
  · rw [if_pos h, List.takeWhile_cons_of_pos (by simpa using h)]
    simp
  · rw [if_neg h, List.takeWhile_cons_of_neg (by simpa using h)]
    simp
theorem insN_perm (n : Nm) : ∀ l : List Nm, (insN n l).Perm (n :: l)
  | [] => List.Perm.refl _
  | a :: l => by
    rw [insN_cons]
    split
    · exact ((insN_perm n l).cons a).trans (List.Perm.swap n a l)
    · exact List.Perm.refl _
theorem insN_sorted (n : Nm) : ∀ l : List Nm, l.Pairwise (fun x y => x ≤ y) → (insN n l).Pairwise (fun x y => x ≤ y)
  | [], _ => List.pairwise_singleton _ _
  | a :: l, h => by
    rw [insN_cons]
    rw [List.pairwise_cons] at h
    split
    · rename_i hlt
      refine List.pairwise_cons.2 ⟨fun x hx => ?_, insN_sorted n l h.2⟩
      rcases List.mem_cons.1 ((insN_perm n l).mem_iff.1 hx) with rfl | hx
      · exact List.le_of_lt hlt
      · exact h.1 x hx
    · rename_i hlt
      have hle : n ≤ a := List.not_lt.1 hlt
      refine List.pairwise_cons.2 ⟨fun x hx => ?_, List.pairwise_cons.2 h⟩
      rcases List.mem_cons.1 hx with rfl | hx
      · exact hle
      · exact List.le_trans hle (h.1 x hx)
theorem sortN_ok (pre : Nm) : ∀ (l acc : List Nm), acc.Pairwise (fun x y => x ≤ y) → (sortN pre acc l).Pairwise (fun x y => x ≤ y) ∧ (sortN pre acc l).Perm (begN pre l ++ acc)
  | [], acc, h => ⟨h, List.Perm.refl _⟩
  | n :: l, acc, h => by
    show (sortN pre (if Go.Lib.hasPrefix n pre then insN n acc else acc) l).Pairwise _ ∧ (sortN pre (if Go.Lib.hasPrefix n pre then insN n acc else acc) l).Perm _
    by_cases hp : Go.Lib.hasPrefix n pre = true
    · rw [if_pos hp]
      obtain ⟨h1, h2⟩ := sortN_ok pre l (insN n acc) (insN_sorted n acc h)
      refine ⟨h1, h2.trans ?_⟩
      have e : begN pre (n :: l) = n :: begN pre l := List.filter_cons_of_pos hp
      rw [e]
      exact ((List.Perm.append_left _ (insN_perm n acc)).trans List.perm_middle)
    · rw [if_neg hp]
      obtain ⟨h1, h2⟩ := sortN_ok pre l acc h
      have e : begN pre (n :: l) = begN pre l := List.filter_cons_of_neg hp
      rw [e]
      exact ⟨h1, h2⟩
theorem sort_unique {l l' : List Nm} (h : l.Perm l') (hs : l.Pairwise fun x y => x ≤ y) : l = l'.mergeSort (fun x y => decide (x ≤ y)) := by
  have tr : ∀ a b c : Nm, decide (a ≤ b) = true → decide (b ≤ c) = true → decide (a ≤ c) = true := fun a b c h1 h2 => by
    simp only [decide_eq_true_eq] at *
    exact List.le_trans h1 h2
  have tot : ∀ a b : Nm, (decide (a ≤ b) || decide (b ≤ a)) = true := fun a b => by
    simp only [Bool.or_eq_true, decide_eq_true_eq]
    exact List.le_total a b
  refine List.Perm.eq_of_pairwise (le := fun a b => decide (a ≤ b) = true) (fun a b _ _ h1 h2 => ?_) (hs.imp fun h => by simpa using h) (List.pairwise_mergeSort tr tot l') (h.trans (List.mergeSort_perm l' _).symm)
  simp only [decide_eq_true_eq] at h1 h2
  exact List.le_antisymm h1 h2
theorem sortN_eq (pre : Nm) (l : List Nm) : sortN pre [] l = (begN pre l).mergeSort (fun x y => decide (x ≤ y)) := by
  obtain ⟨h1, h2⟩ := sortN_ok pre l [] List.Pairwise.nil
  rw [List.append_nil] at h2
  exact sort_unique h2 h1
theorem sort_perm {l l' : List Nm} (h : l.Perm l') : l.mergeSort (fun x y => decide (x ≤ y)) = l'.mergeSort (fun x y => decide (x ≤ y)) := by
  have tr : ∀ a b c : Nm, decide (a ≤ b) = true → decide (b ≤ c) = true → decide (a ≤ c) = true := fun a b c h1 h2 => by
    simp only [decide_eq_true_eq] at *
    exact List.le_trans h1 h2
  have tot : ∀ a b : Nm, (decide (a ≤ b) || decide (b ≤ a)) = true := fun a b => by
    simp only [Bool.or_eq_true, decide_eq_true_eq]
    exact List.le_total a b
  exact sort_unique ((List.mergeSort_perm l _).trans h) ((List.pairwise_mergeSort tr tot l).imp fun h => by simpa using h)
theorem begN_nil (l : List Nm) : begN [] l = l := List.filter_eq_self.2 fun x _ => by unfold Go.Lib.hasPrefix; rfl

def PS.list (x : PS) (pre : Nm) : List Nm := (begN pre (x.dir.map (·.1))).mergeSort (fun x y => decide (x ≤ y))
def PS.durable (x : PS) : List Nm := (x.kept.map (·.1)).mergeSort (fun x y => decide (x ≤ y))
def NamesPost (w : World) (l : List Nm) (e : Ending) (w' : World) : Prop := ∃ v, e = .returned v ∧ w'.ownsRow w.heap.size 9 1 v l.length (l.map encStr) ∧ Below w.heap.size w w'

set_option maxRecDepth 100000 in
set_option maxHeartbeats 3200000 in
theorem rlist_any (w : World) (F : Nat → Prop) (r : Nat) (s : RS) (pre : ByteArray) (h : RefAt w F r s) (hl : s.dir.length ≤ 100000) (hp : pre.size ≤ maxLen) (hnm : ∀ x ∈ s.dir, x.1.length ≤ maxLen) :
    Calls Try.prog 63 #[.pointer (some ⟨r, 0, none⟩), .string pre] w (NamesPost w (s.pl.list pre.data.toList)) := by
  obtain ⟨A2, d2, hvd⟩ := own_slice h.dir.row
  have c2 : w.cell? ⟨r, 2, none⟩ = some (.slice A2 s.dir.length d2) := (h.blk.cell 2).trans (congrArg some hvd)
  have HO := Lib.hid (show w.ownsRow 0 94 2 (.slice A2 s.dir.length d2) s.dir.length (entsV s.dir) by rw [← hvd]; exact h.dir.row)
  have HNM := Lib.hid hnm
  clear h hvd hnm
  go_enter Try.func63, Try.ntmps63
  go_wp2_with fail
  refine (sorted_any w A2 d2 s.dir pre HO.out (by omega) hp HNM.out).mono ?_
  rintro e w2 ⟨v, rfl, hrow, hb⟩
  have HR := Lib.hid hrow
  have HB := Lib.hid hb
  clear hrow hb
  go_wp2
  go_ret
  have h1 := HR.out
  rw [sortN_eq] at h1
  exact ⟨v, rfl, h1, HB.out⟩
set_option maxRecDepth 100000 in
set_option maxHeartbeats 3200000 in
theorem rdurable_any (w : World) (F : Nat → Prop) (r : Nat) (s : RS) (h : RefAt w F r s) (hl : s.kept.length ≤ 100000) (hnm : ∀ x ∈ s.kept, x.1.length ≤ maxLen) :
    Calls Try.prog 64 #[.pointer (some ⟨r, 0, none⟩)] w (NamesPost w s.pl.durable) := by
  obtain ⟨A2, d2, hvd⟩ := own_slice h.kept.row
  have c2 : w.cell? ⟨r, 3, none⟩ = some (.slice A2 s.kept.length d2) := (h.blk.cell 3).trans (congrArg some hvd)
  have HO := Lib.hid (show w.ownsRow 0 94 2 (.slice A2 s.kept.length d2) s.kept.length (entsV s.kept) by rw [← hvd]; exact h.kept.row)
  have HNM := Lib.hid hnm
  clear h hvd hnm
  go_enter Try.func64, Try.ntmps64
  go_wp2_with fail
  refine (sorted_any w A2 d2 s.kept ⟨#[]⟩ HO.out (by omega) (Nat.zero_le _) HNM.out).mono ?_
  rintro e w2 ⟨v, rfl, hrow, hb⟩
  have HR := Lib.hid hrow
  have HB := Lib.hid hb
  clear hrow hb
  go_wp2
  go_ret
  have h1 := HR.out
  rw [sortN_eq, show begN (⟨#[]⟩ : ByteArray).data.toList (s.kept.map (·.1)) = s.kept.map (·.1) from begN_nil _] at h1
  exact ⟨v, rfl, h1, HB.out⟩
end Go.Proofs.Ytfeglchngekedaa
namespace Go.Proofs.Ytfeglchngekedaa
open Go.RowKit Go.Shelf Go.Maps

/-! ### directories -/
def DirRel (φ : Nat → Nat) (l m : Dl) : Prop := ∀ nm, dget l nm = (dget m nm).map φ
structure RDir (m : Dl) : Prop where
  names : m.Pairwise fun x y => x.1 ≠ y.1
  files : m.Pairwise fun x y => x.2 ≠ y.2
def rset (m : Dl) (nm : Nm) (f : Nat) : Dl := ddel m nm ++ [(nm, f)]
def rdo (m : Dl) (c : RC) : Dl := if c.kind = 1 then rset m c.nm c.file else if c.kind = 2 then rset (ddel m c.old) c.nm c.file else ddel m c.nm

theorem dget_append (a b : Dl) (t : Nm) : dget (a ++ b) t = (dget a t).or (dget b t) := by
  unfold dget
  rw [List.find?_append]
  cases a.find? (fun x => x.1 == t) <;> rfl
theorem dget_rset (m : Dl) (nm : Nm) (f : Nat) (t : Nm) : dget (rset m nm f) t = if t = nm then some f else dget m t := by
  unfold rset
  rw [dget_append, dget_del]
  by_cases h : t = nm
  · subst h
    rw [if_pos rfl, if_pos rfl]
    simp [dget]
  · rw [if_neg h, if_neg h]
    have : dget [(nm, f)] t = none := dget_none.2 fun y hy => by rw [List.mem_singleton.1 hy]; exact fun e => h e.symm
    rw [this, Option.or_none]
theorem pw_inj {α β : Type} {g : α → β} : ∀ {l : List α}, (l.Pairwise fun x y => g x ≠ g y) → ∀ {x y : α}, x ∈ l → y ∈ l → g x = g y → x = y
  | [], _, _, _, h, _, _ => by cases h
  | a :: l, hp, x, y, hx, hy, he => by
    rw [List.pairwise_cons] at hp
    rcases List.mem_cons.1 hx with e1 | h1 <;> rcases List.mem_cons.1 hy with e2 | h2
    · rw [e1, e2]
    · rw [e1] at he; exact absurd he (hp.1 y h2)
    · rw [e2] at he; exact absurd he.symm (hp.1 x h1)
    · exact pw_inj hp.2 h1 h2 he
theorem dget_of_mem {m : Dl} (h : m.Pairwise fun x y => x.1 ≠ y.1) {t : Nm} {f : Nat} (hm : (t, f) ∈ m) : dget m t = some f := by
  cases hd : dget m t with
  | none => exact absurd rfl (dget_none.1 hd _ hm)
  | some g =>
    have := pw_inj h (dget_mem hd) hm rfl
    injection this with _ e
    rw [e]
theorem RDir.nil : RDir [] := ⟨List.Pairwise.nil, List.Pairwise.nil⟩
theorem RDir.del {m : Dl} (h : RDir m) (nm : Nm) : RDir (ddel m nm) := ⟨h.names.filter _, h.files.filter _⟩
theorem RDir.set_ {m : Dl} (h : RDir m) (nm : Nm) (f : Nat) (hf : ∀ x ∈ ddel m nm, x.2 ≠ f) : RDir (rset m nm f) := by
  unfold rset
  refine ⟨List.pairwise_append.2 ⟨h.names.filter _, List.pairwise_singleton _ _, fun a ha b hb => ?_⟩, List.pairwise_append.2 ⟨h.files.filter _, List.pairwise_singleton _ _, fun a ha b hb => ?_⟩⟩
  · rw [List.mem_singleton.1 hb]; exact ((mem_ddel _ _ _).1 ha).2
  · rw [List.mem_singleton.1 hb]; exact hf a ha
theorem RDir.inj {m : Dl} (h : RDir m) {a b : Nm} {f : Nat} (h1 : dget m a = some f) (h2 : dget m b = some f) : a = b := by
  have := pw_inj (g := fun x : Nm × Nat => x.2) h.files (dget_mem h1) (dget_mem h2) rfl
  injection this

/-! ### what pends -/
inductive StepRel (φ : Nat → Nat) (m : Dl) : Ch → RC → Prop
  | create (nm : Nm) (f : Nat) (h : nm ≠ []) (hf : ∀ x ∈ m, x.2 ≠ f) : StepRel φ m ⟨[], nm, some (φ f)⟩ ⟨1, [], nm, f⟩
  | rename (old nm : Nm) (f : Nat) (h : nm ≠ []) (hn : old ≠ nm) (hf : dget m old = some f) : StepRel φ m ⟨old, nm, none⟩ ⟨2, old, nm, f⟩
  | remove (nm : Nm) : StepRel φ m ⟨nm, [], none⟩ ⟨3, [], nm, 0⟩
theorem step_rel {φ : Nat → Nat} {l m : Dl} {c : Ch} {d : RC} (h : DirRel φ l m) (hm : RDir m) (hs : StepRel φ m c d) : DirRel φ (doL l c) (rdo m d) ∧ RDir (rdo m d) := by
  cases hs with
  | create nm f hn hf =>
    have e1 : doL l ⟨[], nm, some (φ f)⟩ = dput l nm (φ f) := by show (if nm = [] then l else dput l nm (φ f)) = _; rw [if_neg hn]
    have e2 : rdo m ⟨1, [], nm, f⟩ = rset m nm f := rfl
    rw [e1, e2]
    refine ⟨fun t => ?_, hm.set_ nm f (fun x hx => hf x ((mem_ddel _ _ _).1 hx).1)⟩
    rw [dget_put, dget_rset]
    split
    · rfl
    · exact h t
  | rename old nm f hn hne hf =>
    have hl : dget l old = some (φ f) := by rw [h old, hf]; rfl
    have e1 : doL l ⟨old, nm, none⟩ = dput (ddel l old) nm (φ f) := by
      show (if nm = [] then ddel l old else match dget l old with
        | some g => dput (ddel l old) nm g
        | none => ddel l old) = _
      rw [if_neg hn, hl]
    have e2 : rdo m ⟨2, old, nm, f⟩ = rset (ddel m old) nm f := rfl
    rw [e1, e2]
    refine ⟨fun t => ?_, (hm.del old).set_ nm f (fun x hx => ?_)⟩
    · rw [dget_put, dget_rset, dget_del, dget_del]
      split
      · rfl
      · split
        · rfl
        · exact h t
    · have h1 := (mem_ddel _ _ _).1 ((mem_ddel _ _ _).1 hx).1
      intro e
      have h2 : dget m x.1 = some f := dget_of_mem hm.names (by rw [← e]; exact h1.1)
      exact h1.2 (hm.inj h2 hf)
  | remove nm =>
    have e1 : doL l ⟨nm, [], none⟩ = ddel l nm := rfl
    have e2 : rdo m ⟨3, [], nm, 0⟩ = ddel m nm := rfl
    rw [e1, e2]
    refine ⟨fun t => ?_, hm.del nm⟩
    rw [dget_del, dget_del]
    split
    · rfl
    · exact h t

def PendRel (φ : Nat → Nat) : Dl → List Ch → List RC → Prop
  | _, [], [] => True
  | m, c :: cs, d :: ds => StepRel φ m c d ∧ PendRel φ (rdo m d) cs ds
  | _, _, _ => False
theorem PendRel.len {φ : Nat → Nat} : ∀ {m : Dl} {cs : List Ch} {ds : List RC}, PendRel φ m cs ds → cs.length = ds.length
  | _, [], [], _ => rfl
  | _, _ :: cs, _ :: ds, h => by simp [PendRel.len h.2]
  | _, [], _ :: _, h => h.elim
  | _, _ :: _, [], h => h.elim
theorem PendRel.snoc {φ : Nat → Nat} {c : Ch} {d : RC} : ∀ {m : Dl} {cs : List Ch} {ds : List RC}, PendRel φ m cs ds → StepRel φ (ds.foldl rdo m) c d → PendRel φ m (cs ++ [c]) (ds ++ [d])
  | _, [], [], _, h => ⟨h, trivial⟩
  | _, _ :: _, _ :: _, h, hs => ⟨h.1, h.2.snoc hs⟩
  | _, [], _ :: _, h, _ => h.elim
  | _, _ :: _, [], h, _ => h.elim
theorem PendRel.take {φ : Nat → Nat} : ∀ {l m : Dl} {cs : List Ch} {ds : List RC} (n : Nat), DirRel φ l m → RDir m → PendRel φ m cs ds → DirRel φ (replay l (cs.take n)) ((ds.take n).foldl rdo m) ∧ RDir ((ds.take n).foldl rdo m)
  | _, _, [], [], n, h, hm, _ => by rw [List.take_nil, List.take_nil]; exact ⟨h, hm⟩
  | _, _, _ :: _, _ :: _, 0, h, hm, _ => ⟨h, hm⟩
  | l, m, c :: cs, d :: ds, n + 1, h, hm, hp => by
    obtain ⟨h1, h2⟩ := step_rel h hm hp.1
    exact PendRel.take (cs := cs) (ds := ds) n h1 h2 hp.2
  | _, _, [], _ :: _, _, _, _, h => h.elim
  | _, _, _ :: _, [], _, _, _, h => h.elim
theorem PendRel.congr {φ ψ : Nat → Nat} : ∀ {m : Dl} {cs : List Ch} {ds : List RC}, (∀ d ∈ ds, d.kind = 1 → φ d.file = ψ d.file) → PendRel φ m cs ds → PendRel ψ m cs ds
  | _, [], [], _, _ => trivial
  | m, c :: cs, d :: ds, he, h => by
    refine ⟨?_, PendRel.congr (fun d hd => he d (List.mem_cons_of_mem _ hd)) h.2⟩
    have h1 := h.1
    have e := he d List.mem_cons_self
    cases h1 with
    | create nm f hn hf =>
      rw [show φ f = ψ f from e rfl]
      exact .create nm f hn hf
    | rename old nm f hn hne hf => exact .rename old nm f hn hne hf
    | remove nm => exact .remove nm
  | _, [], _ :: _, _, h => h.elim
  | _, _ :: _, [], _, h => h.elim
theorem PendRel.born {φ : Nat → Nat} : ∀ {m : Dl} {cs : List Ch} {ds : List RC}, PendRel φ m cs ds → ∀ d ∈ ds, d.kind = 1 → ∃ c ∈ cs, c.file = some (φ d.file)
  | _, [], [], _, d, hd, _ => by cases hd
  | m, c :: cs, e :: ds, h, d, hd, hk => by
    rcases List.mem_cons.1 hd with rfl | hd
    · have h1 := h.1
      cases h1 with
      | create nm f hn hf => exact ⟨_, List.mem_cons_self, rfl⟩
      | rename old nm f hn hne hf => cases hk
      | remove nm => cases hk
    · obtain ⟨c', hc, e'⟩ := PendRel.born h.2 d hd hk
      exact ⟨c', List.mem_cons_of_mem _ hc, e'⟩
  | _, [], _ :: _, h, _, _, _ => h.elim
  | _, _ :: _, [], h, _, _, _ => h.elim
/-- a file that a directory behind changes names was there before, or is made by one of them -/
theorem PendRel.src {φ : Nat → Nat} : ∀ {m : Dl} {cs : List Ch} {ds : List RC} (n : Nat), PendRel φ m cs ds → ∀ x ∈ (ds.take n).foldl rdo m, (∃ e ∈ m, e.2 = x.2) ∨ (∃ d ∈ ds, d.kind = 1 ∧ d.file = x.2)
  | _, [], [], n, _, x, hx => by rw [List.take_nil] at hx; exact .inl ⟨x, hx, rfl⟩
  | _, _ :: _, _ :: _, 0, _, x, hx => .inl ⟨x, hx, rfl⟩
  | m, c :: cs, d :: ds, n + 1, h, x, hx => by
    rcases PendRel.src (cs := cs) (ds := ds) n h.2 x hx with ⟨e, he, e2⟩ | ⟨e, he, e2⟩
    · have h1 := h.1
      cases h1 with
      | create nm f hn hf =>
        rcases List.mem_append.1 (show e ∈ ddel m nm ++ [(nm, f)] from he) with he | he
        · exact .inl ⟨e, ((mem_ddel _ _ _).1 he).1, e2⟩
        · rw [List.mem_singleton.1 he] at e2
          exact .inr ⟨_, List.mem_cons_self, rfl, e2⟩
      | rename old nm f hn hne hf =>
        rcases List.mem_append.1 (show e ∈ ddel (ddel m old) nm ++ [(nm, f)] from he) with he | he
        · exact .inl ⟨e, ((mem_ddel _ _ _).1 ((mem_ddel _ _ _).1 he).1).1, e2⟩
        · rw [List.mem_singleton.1 he] at e2
          exact .inl ⟨_, dget_mem hf, e2⟩
      | remove nm => exact .inl ⟨e, ((mem_ddel _ _ _).1 he).1, e2⟩
    · exact .inr ⟨e, List.mem_cons_of_mem _ he, e2⟩
  | _, [], _ :: _, _, h, _, _ => h.elim
  | _, _ :: _, [], _, h, _, _ => h.elim

/-! ### the states -/
def rlive (x : PS) (f : Nat) : Prop := (∃ e ∈ x.kept, e.2 = f) ∨ (∃ c ∈ x.pend, c.kind = 1 ∧ c.file = f)
def stopRel (s : DS) (x : PS) : Prop :=
  (x.stop = -1 ∧ s.stopped = false) ∨ (x.stop = 0 ∧ s.stopped = true ∧ s.stop ≤ (s.ops : Int)) ∨ (0 < x.stop ∧ s.stopped = decide (0 ≤ laterZ s.ops x.stop) ∧ s.stop = laterZ s.ops x.stop)
structure Rel (φ : Nat → Nat) (s : DS) (x : PS) : Prop where
  cap : s.cap = x.cap
  ops : s.ops = x.count
  flts : s.flts = x.flts.map fun f => (laterZ s.ops f.1, f.2)
  stop : stopRel s x
  kept : DirRel φ s.safe x.kept
  rdir : RDir x.kept
  pend : PendRel φ x.kept s.pend x.pend
  dir : x.dir = x.pend.foldl rdo x.kept
  file : ∀ f, rlive x f → x.files[f]? = some (s.bytes (φ f), s.kept (φ f))
  inj : ∀ f g, rlive x f → rlive x g → φ f = φ g → f = g
  rep : replay s.safe s.pend = s.names

section
variable {φ : Nat → Nat} {s : DS} {x : PS}
theorem Rel.now (h : Rel φ s x) : DirRel φ s.names x.dir ∧ RDir x.dir := by
  have := h.pend.take s.pend.length h.kept h.rdir
  rw [List.take_length, h.pend.len, List.take_length, h.rep, ← h.dir] at this
  exact this
theorem Rel.names (h : Rel φ s x) : DirRel φ s.names x.dir := h.now.1
theorem Rel.rnow (h : Rel φ s x) : RDir x.dir := h.now.2
theorem Rel.liveDir (h : Rel φ s x) {e : Nm × Nat} (he : e ∈ x.dir) : rlive x e.2 := by
  have := h.pend.src x.pend.length e (by rw [List.take_length, ← h.dir]; exact he)
  rcases this with ⟨y, hy, e2⟩ | ⟨d, hd, hk, e2⟩
  · exact .inl ⟨y, hy, e2⟩
  · exact .inr ⟨d, hd, hk, e2⟩
theorem Rel.liveTake (h : Rel φ s x) (n : Nat) {e : Nm × Nat} (he : e ∈ (x.pend.take n).foldl rdo x.kept) : rlive x e.2 := by
  rcases h.pend.src n e he with ⟨y, hy, e2⟩ | ⟨d, hd, hk, e2⟩
  · exact .inl ⟨y, hy, e2⟩
  · exact .inr ⟨d, hd, hk, e2⟩
theorem Rel.live (h : Rel φ s x) {f : Nat} (hf : rlive x f) : live s (φ f) := by
  rcases hf with ⟨e, he, rfl⟩ | ⟨c, hc, hk, rfl⟩
  · have : dget s.safe e.1 = some (φ e.2) := by rw [h.kept e.1, dget_of_mem h.rdir.names (show (e.1, e.2) ∈ x.kept from he)]; rfl
    exact .inr (.inl ⟨_, dget_mem this, rfl⟩)
  · obtain ⟨c', hc', e⟩ := h.pend.born c hc hk
    exact .inr (.inr ⟨c', hc', e⟩)
theorem Rel.flt (h : Rel φ s x) {f : Nat} (hf : rlive x f) : f < x.files.length := (List.getElem?_eq_some_iff.1 (h.file f hf)).1
theorem Rel.isSome (h : Rel φ s x) (nm : Nm) : (dget s.names nm).isSome = (dget x.dir nm).isSome := by
  rw [h.names nm]; cases dget x.dir nm <;> rfl
theorem Rel.getLive (h : Rel φ s x) {nm : Nm} {f : Nat} (hd : dget x.dir nm = some f) : rlive x f ∧ dget s.names nm = some (φ f) := ⟨h.liveDir (dget_mem hd), by rw [h.names nm, hd]; rfl⟩
end

/-! ### an operation begins -/
theorem later_zero (ops : Nat) (a : Int) (ho : ops ≤ 1000000) (ha : 0 ≤ a) : laterZ ops a = (ops : Int) ↔ a = 0 := by
  unfold laterZ
  constructor
  · intro h
    split at h <;> omega
  · rintro rfl
    rw [if_pos (by omega)]; omega
theorem later_next (ops : Nat) (a : Int) (ha : 0 < a) : laterZ (ops + 1) (a - 1) = laterZ ops a := by
  unfold laterZ
  have : ((ops + 1 : Nat) : Int) + max (a - 1) 0 = (ops : Int) + max a 0 := by omega
  rw [this]
theorem flts_left (ops : Nat) (ho : ops ≤ 1000000) : ∀ (l : List (Int × Int)), (∀ f ∈ l, 0 ≤ f.1) → leftF (l.map fun f => (laterZ ops f.1, f.2)) ops = (rleft l).map fun f => (laterZ (ops + 1) f.1, f.2)
  | [], _ => rfl
  | f :: l, h => by
    have ih := flts_left ops ho l (fun g hg => h g (List.mem_cons_of_mem _ hg))
    have h0 := h f List.mem_cons_self
    have hz := later_zero ops f.1 ho h0
    unfold leftF at ih ⊢
    rw [List.map_cons]
    show _ = List.map _ (if 0 < f.1 then (f.1 - 1, f.2) :: rleft l else rleft l)
    by_cases hp : 0 < f.1
    · rw [List.filter_cons_of_pos (by simp; omega), if_pos hp, List.map_cons, ih, later_next ops f.1 hp]
    · rw [List.filter_cons_of_neg (by simp; omega), if_neg hp, ih]
theorem flts_struck (ops : Nat) (ho : ops ≤ 1000000) : ∀ (l : List (Int × Int)), (∀ f ∈ l, 0 ≤ f.1) → rstruck l = match struckF (l.map fun f => (laterZ ops f.1, f.2)) ops with
    | none => 0
    | some k => if k = 2 then 2 else 1
  | [], _ => rfl
  | f :: l, h => by
    have ih := flts_struck ops ho l (fun g hg => h g (List.mem_cons_of_mem _ hg))
    have h0 := h f List.mem_cons_self
    have hz := later_zero ops f.1 ho h0
    unfold struckF at ih ⊢
    rw [List.map_cons]
    show (if 0 < f.1 then rstruck l else if f.2 = 2 then 2 else 1) = _
    by_cases hp : 0 < f.1
    · rw [List.find?_cons_of_neg (by simp; omega), if_pos hp, ih]
    · rw [List.find?_cons_of_pos (by simp; omega), if_neg hp]
      rfl

theorem begun_stop {φ : Nat → Nat} {s : DS} {x : PS} (h : Rel φ s x) (ho : s.ops ≤ 1000000) (v : Value) : stopRel (begun s v) x.begun := by
  rcases h.stop with ⟨h1, h2⟩ | ⟨h1, h2, h3⟩ | ⟨h1, h2, h3⟩
  · refine .inl ⟨?_, h2⟩
    show (if 0 < x.stop then x.stop - 1 else x.stop) = -1
    rw [if_neg (by omega)]; exact h1
  · refine .inr (.inl ⟨?_, h2, ?_⟩)
    · show (if 0 < x.stop then x.stop - 1 else x.stop) = 0
      rw [if_neg (by omega)]; exact h1
    · show s.stop ≤ ((s.ops + 1 : Nat) : Int)
      omega
  · have e : x.begun.stop = x.stop - 1 := if_pos h1
    have hn := later_next s.ops x.stop h1
    by_cases h0 : x.stop = 1
    · refine .inr (.inl ⟨by rw [e, h0]; rfl, ?_, ?_⟩)
      · show s.stopped = true
        rw [h2, h0]
        unfold laterZ
        rw [if_pos (by omega)]
        simp; omega
      · show s.stop ≤ ((s.ops + 1 : Nat) : Int)
        rw [h3, h0]
        unfold laterZ
        rw [if_pos (by omega)]
        omega
    · refine .inr (.inr ⟨by rw [e]; omega, ?_, ?_⟩)
      · show s.stopped = decide (0 ≤ laterZ (s.ops + 1) x.begun.stop)
        rw [e, hn]; exact h2
      · show s.stop = laterZ (s.ops + 1) x.begun.stop
        rw [e, hn]; exact h3
theorem begun_rel {φ : Nat → Nat} {s : DS} {x : PS} (h : Rel φ s x) (ho : s.ops ≤ 1000000) (hf : ∀ f ∈ x.flts, 0 ≤ f.1) (v : Value) : Rel φ (begun s v) x.begun where
  cap := h.cap
  ops := by show s.ops + 1 = x.count + 1; rw [h.ops]
  flts := by
    show leftF s.flts s.ops = (rleft x.flts).map fun f => (laterZ (s.ops + 1) f.1, f.2)
    rw [h.flts, flts_left s.ops ho x.flts hf]
  stop := begun_stop h ho v
  kept := h.kept
  rdir := h.rdir
  pend := h.pend
  dir := h.dir
  file := h.file
  inj := h.inj
  rep := h.rep
/-- both refuse alike -/
theorem begin_same {φ : Nat → Nat} {s : DS} {x : PS} (h : Rel φ s x) (ho : s.ops ≤ 1000000) (hf : ∀ f ∈ x.flts, 0 ≤ f.1) (ns : List ByteArray) :
    (beginS s ns).2 = (if x.beginC.1 = 0 then (if ns.all rightB then 0 else 2) else x.beginC.1) ∧ (x.beginC.2 = 2 ↔ (beginS s ns).2 = 6 ∧ (beginS s ns).1 = 2) := by
  have hst := flts_struck s.ops ho x.flts hf
  rw [← h.flts] at hst
  have hdead : (s.stopped = true ∧ s.stop ≤ (s.ops : Int)) ↔ x.stop = 0 := by
    rcases h.stop with ⟨h1, h2⟩ | ⟨h1, h2, h3⟩ | ⟨h1, h2, h3⟩
    · rw [h2, h1]; simp
    · exact ⟨fun _ => h1, fun _ => ⟨h2, h3⟩⟩
    · constructor
      · rintro ⟨h4, h5⟩
        rw [h2] at h4
        rw [h3] at h5
        unfold laterZ at h4 h5
        split at h5
        · omega
        · rw [if_neg (by assumption)] at h4; simp at h4
      · omega
  unfold beginS PS.beginC
  by_cases h0 : x.stop = 0
  · rw [if_pos (hdead.2 h0), if_pos h0]
    simp
  · rw [if_neg (fun hc => h0 (hdead.1 hc)), if_neg h0]
    cases hk : struckF s.flts s.ops with
    | none =>
      rw [hk] at hst
      rw [if_pos hst]
      cases hr : ns.all rightB <;> simp
    | some k =>
      rw [hk] at hst
      have hst' : rstruck x.flts = if k = 2 then 2 else 1 := hst
      have h3 : rstruck x.flts ≠ 0 := by rw [hst']; split <;> decide
      simp only [h3, if_false]
      refine ⟨rfl, ?_⟩
      show rstruck x.flts = 2 ↔ True ∧ k = 2
      rw [hst']
      by_cases h2 : k = 2
      · simp [h2]
      · simp [h2]
end Go.Proofs.Ytfeglchngekedaa
