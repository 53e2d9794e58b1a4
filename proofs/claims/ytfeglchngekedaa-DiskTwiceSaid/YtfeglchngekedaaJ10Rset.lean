/- The document's disk: unset and set (functions 71, 44). The keeper's Texts (function 30). The keeper: Within (function 23). Lines of the compact seat, the number turned. The plain part of DiskKeeps: the states on its way; what is read behind a crash. The walk of begins (function 15), where the first is a beginning of the second; string(b) of any row of bytes. The keeper's LendBytes (function 47). The document's disk in memory: its state, told plainly; SetCapacity, Stop, New (functions 41, 22, 19). -/
import Derived.Test.YtfeglchngekedaaJ09Rename
import Derived.IntWalk
import Derived.Test.YtfeglchngekedaaJ08Wakes
namespace Go.Proofs.Ytfeglchngekedaa
open Go.RowKit Go.Shelf Go.Maps

theorem info94 : (Try.prog.info? 94).map (fun i => (i.zero, i.size, i.bytes)) = some (some (.agg #[.string ⟨#[]⟩, .int .i64 0]), 2, 24) := by kernel_rfl
theorem entsV_snoc (l : Dl) (x : Nm × Nat) : entsV (l ++ [x]) = entsV l ++ entV x := by simp [entsV]
theorem ddel_take (l : Dl) (s : Nm) (k : Nat) (h : k < l.length) : ddel (l.take (k + 1)) s = ddel (l.take k) s ++ (if l[k].1 = s then [] else [l[k]]) := by
  unfold ddel
  rw [List.take_succ_eq_append_getElem h, List.filter_append]
  congr 1
  by_cases e : l[k].1 = s
  · rw [if_pos e, List.filter_cons_of_neg (by simp [e])]; rfl
  · rw [if_neg e, List.filter_cons_of_pos (by simp [e])]; rfl
theorem one_ent (w : World) (a b : Value) : Reads (w.alloc (.cells #[a, b] 94)) (w.heap.size + 1) 2 (some ⟨w.heap.size, 0, none⟩) 1 [a, b] := reads_new2 w 94 a b

def UnR (w : World) (l : Dl) (s : Nm) (acc i : Value) (wr : World) : Prop :=
  ∃ k : Nat, k ≤ l.length ∧ i = .int .i64 k ∧ wr.ownsRow w.heap.size 94 2 acc (ddel (l.take k) s).length (entsV (ddel (l.take k) s)) ∧ Below w.heap.size w wr

set_option maxRecDepth 100000 in
set_option maxHeartbeats 3200000 in
theorem unset_any (w : World) (A : Option Addr) (c : Nat) (l : Dl) (nm : ByteArray) (h : w.ownsRow 0 94 2 (.slice A l.length c) l.length (entsV l)) (hl : l.length ≤ 10000000) :
    Calls Try.prog 71 #[.slice A l.length c, .string nm] w fun e w' => ∃ v, e = .returned v ∧ w'.ownsRow w.heap.size 94 2 v (ddel l nm.data.toList).length (entsV (ddel l nm.data.toList)) ∧ Below w.heap.size w w' := by
  obtain ⟨i0, hi, hz0, hz1, hz2⟩ := info_parts info94
  have HI := Lib.hid hi
  have HZ0 := Lib.hid hz0
  have HZ1 := Lib.hid hz1
  have HZ2 := Lib.hid hz2
  have H := Lib.hid h
  clear h hi hz0 hz1 hz2
  go_enter Try.func71, Try.ntmps71
  go_wp2_with fail
  go_loopw [5, 6] (fun acc i wr => UnR w l nm.data.toList acc i wr) (fun _ i _ => l.length - (intOf i).toNat)
  case atStart => exact ⟨0, Nat.zero_le _, rfl, World.ownsRow_nil _ _ _ _, Below.refl _ _⟩
  case round =>
    obtain ⟨k, hk, rfl, hrow, hb⟩ := hrel
    obtain ⟨A5, d5, rfl⟩ := own_slice hrow
    have hlen : (ddel (l.take k) nm.data.toList).length ≤ 10000000 := by
      have h1 := len_ddel (l.take k) nm.data.toList
      rw [List.length_take] at h1
      omega
    have hbs := hb.size
    by_cases hlt : k < l.length
    · obtain ⟨gA, cA, hAv⟩ := own_succ H.out (by omega)
      injection hAv with hAv _ hcA
      subst hcA
      subst hAv
      have hw0 : wr.ownsRow 0 94 2 (.slice (some ⟨gA, 0, none⟩) l.length c) l.length (entsV l) := own_keep H.out (fun k _ hk => hb.block k hk)
      have x0 : wr.cell? ⟨gA, k * 2, none⟩ = some (nmV l[k].1) := by rw [hw0.cellAt (k * 2) (by omega)]; exact (entsV_at l k hlt).1
      have x1 : wr.cell? ⟨gA, k * 2 + 1, none⟩ = some (.int .i64 (l[k].2 : Int)) := by rw [hw0.cellAt (k * 2 + 1) (by omega)]; exact (entsV_at l k hlt).2
      clear hw0
      have hdt := ddel_take l nm.data.toList k hlt
      obtain ⟨y, hy⟩ : ∃ y, y = l[k].1 := ⟨_, rfl⟩
      obtain ⟨f, hf⟩ : ∃ f, f = l[k].2 := ⟨_, rfl⟩
      have hyf : l[k] = (y, f) := by rw [hy, hf]
      rw [← hy] at x0
      rw [← hf] at x1
      simp only [nmV] at x0
      have HYF := Lib.hid hyf
      have HB := Lib.hid hb
      have HROW := Lib.hid hrow
      have HDT := Lib.hid hdt
      obtain ⟨ks, hks⟩ : ∃ ks, ks = ddel (l.take k) nm.data.toList := ⟨_, rfl⟩
      rw [← hks] at HROW HDT hlen ⊢
      clear hks
      clear hy hf hyf hb hrow hdt
      by_cases he : y = nm.data.toList
      · have hq : (y == nm.toList) = true := by
          rw [ByteArray.toList_eq, he]; exact beq_self_eq_true _
        have hq' : (y != nm.toList) = false := by rw [bne, hq]; rfl
        have HE := Lib.hid he
        clear he
        go_wp2
        refine ⟨⟨k + 1, by omega, by go_num, ?_, HB.out⟩, by simp [intOf]; omega⟩
        rw [HDT.out, HYF.out, if_pos HE.out, List.append_nil]
        exact HROW.out
      · have hq : (y == nm.toList) = false := by
          rw [ByteArray.toList_eq]; exact beq_false_of_ne he
        have hq' : (y != nm.toList) = true := by rw [bne, hq]; rfl
        have HE := Lib.hid he
        clear he
        go_wp2_with (at_builtin; (refine wpList_append_any _ rfl (.tmp 20) (.tmp 25) 54 rfl w.heap.size 94 i0 (.agg #[.string ⟨#[]⟩, .int .i64 0]) 2 24 Try.underlying54 HI.out HZ0.out HZ1.out HZ2.out rfl (by omega) (.slice A5 ks.length d5) ks.length (entsV ks) rfl (HROW.out.alloc _) (wr.heap.size + 1) (some ⟨wr.heap.size, 0, none⟩) 1 1 [.string ⟨y.toArray⟩, .int .i64 (f : Int)] rfl (one_ent wr _ _) (by intro u hu; simp at hu; rcases hu with rfl | rfl <;> rfl) (by simp [maxLen]; omega) (by omega) (by simp; omega) ?_; intro v6 w6 hown6 hgrow6 _; have HW6 := Lib.hid hown6; have HG6 := Lib.hid hgrow6; obtain ⟨A7, d7, hv7⟩ := own_slice hown6; subst hv7; clear hown6 hgrow6))
        refine ⟨⟨k + 1, by omega, by go_num, ?_, ?_⟩, by simp [intOf]; omega⟩
        · rw [HDT.out, HYF.out, if_neg HE.out, entsV_snoc, List.length_append]
          exact HW6.out
        · exact (HB.out.alloc hbs _).grown HG6.out (by simp; omega) (fun k hk => (HROW.out.lt k hk).1)
    · obtain rfl : k = l.length := by omega
      have HB := Lib.hid hb
      have HROW := Lib.hid hrow
      clear hb hrow
      go_wp2
      go_ret
      have := HROW.out
      rw [List.take_length] at this
      exact ⟨_, by rw [List.take_length]; rfl, this, HB.out⟩

set_option maxRecDepth 100000 in
set_option maxHeartbeats 3200000 in
theorem set_any (w : World) (A : Option Addr) (c : Nat) (l : Dl) (nm : ByteArray) (f : Nat) (h : w.ownsRow 0 94 2 (.slice A l.length c) l.length (entsV l)) (hl : l.length ≤ 10000000) :
    Calls Try.prog 44 #[.slice A l.length c, .string nm, .int .i64 (f : Int)] w fun e w' => ∃ v, e = .returned v ∧ w'.ownsRow w.heap.size 94 2 v (ddel l nm.data.toList ++ [(nm.data.toList, f)]).length (entsV (ddel l nm.data.toList ++ [(nm.data.toList, f)])) ∧ Below w.heap.size w w' := by
  obtain ⟨i0, hi, hz0, hz1, hz2⟩ := info_parts info94
  have HI := Lib.hid hi
  have HZ0 := Lib.hid hz0
  have HZ1 := Lib.hid hz1
  have HZ2 := Lib.hid hz2
  have H := Lib.hid h
  clear h hi hz0 hz1 hz2
  go_enter Try.func44, Try.ntmps44
  go_wp2_with fail
  refine (unset_any w A c l nm H.out hl).mono ?_
  rintro e w1 ⟨v, rfl, hrow, hb⟩
  obtain ⟨A5, d5, rfl⟩ := own_slice hrow
  have hlen := len_ddel l nm.data.toList
  obtain ⟨ks, hks⟩ : ∃ ks, ks = ddel l nm.data.toList := ⟨_, rfl⟩
  rw [← hks] at hrow hlen ⊢
  have HKS := Lib.hid hks
  clear hks
  have HROW := Lib.hid hrow
  have HB := Lib.hid hb
  have hbs := hb.size
  clear hrow hb
  go_wp2_with (at_builtin; (refine wpList_append_any _ rfl (.tmp 9) (.tmp 13) 54 rfl w.heap.size 94 i0 (.agg #[.string ⟨#[]⟩, .int .i64 0]) 2 24 Try.underlying54 HI.out HZ0.out HZ1.out HZ2.out rfl (by omega) (.slice A5 ks.length d5) ks.length (entsV ks) rfl (HROW.out.alloc _) (w1.heap.size + 1) (some ⟨w1.heap.size, 0, none⟩) 1 1 [.string nm, .int .i64 (f : Int)] rfl (one_ent w1 _ _) (by intro u hu; simp at hu; rcases hu with rfl | rfl <;> rfl) (by simp [maxLen]; omega) (by omega) (by simp; omega) ?_; intro v6 w6 hown6 hgrow6 _; have HW6 := Lib.hid hown6; have HG6 := Lib.hid hgrow6; clear hown6 hgrow6))
  go_ret
  refine ⟨v6, rfl, ?_, (HB.out.alloc hbs _).grown HG6.out (by simp; omega) (fun k hk => (HROW.out.lt k hk).1)⟩
  have e : entV (nm.data.toList, f) = [.string nm, .int .i64 (f : Int)] := by simp [entV, nmV]
  rw [← HKS.out, entsV_snoc, List.length_append, e]
  exact HW6.out
end Go.Proofs.Ytfeglchngekedaa
namespace Go.Proofs.Ytfeglchngekedaa
open Go.RowKit Go.Shelf Go.Maps

def TxR (w : World) (l1 l2 : List ByteArray) (i : Value) (wr : World) : Prop := ∃ k q : Nat, k ≤ l1.length ∧ i = .int .i64 k ∧ wr = w.drewN q ∧ l1.take k = l2.take k

set_option maxRecDepth 100000 in
set_option maxHeartbeats 3200000 in
theorem texts_any (w : World) {B1 B2 n1 n2 c1 c2 : Nat} {A1 A2 : Option Addr} {l1 l2 : List ByteArray} (h1 : Reads w B1 1 A1 n1 (l1.map Value.string)) (h2 : Reads w B2 1 A2 n2 (l2.map Value.string)) (hn : n1 ≤ maxLen) :
    Calls Try.prog 30 #[.slice A1 n1 c1, .slice A2 n2 c2] w fun e w' => (∃ b : Bool, e = .returned (.bool b) ∧ (b = true ↔ l1 = l2)) ∧ ∃ q, w' = w.drewN q := by
  have e1 : l1.length = n1 := by have := h1.1; simpa using this
  have e2 : l2.length = n2 := by have := h2.1; simpa using this
  have hm : n1 ≤ 9223372036854775807 := Nat.le_trans hn (by simp [maxLen])
  have H1 := Lib.hid h1
  have H2 := Lib.hid h2
  have E1 := Lib.hid e1
  have E2 := Lib.hid e2
  clear h1 h2 e1 e2
  go_enter Try.func30, Try.ntmps30
  by_cases hne : n1 = n2
  · subst hne
    go_wp2_with fail
    go_loopw [5] (fun i wr => TxR w l1 l2 i wr) (fun i _ => n1 - (intOf i).toNat)
    case atStart => exact ⟨0, 0, Nat.zero_le _, rfl, rfl, rfl⟩
    case round =>
      obtain ⟨k, q, hk, rfl, rfl, htk⟩ := hrel
      rw [E1.out] at hk
      have HTK := Lib.hid htk
      clear htk
      by_cases hlt : k < n1
      · have k1 : k < l1.length := by rw [E1.out]; exact hlt
        have k2 : k < l2.length := by rw [E2.out]; exact hlt
        obtain ⟨ad1, u1, rfl, -, hu1, x1⟩ := H1.out.at_ hlt
        obtain ⟨ad2, u2, rfl, -, hu2, x2⟩ := H2.out.at_ hlt
        rw [List.getElem?_map, List.getElem?_eq_getElem k1] at hu1
        rw [List.getElem?_map, List.getElem?_eq_getElem k2] at hu2
        injection hu1 with hu1
        injection hu2 with hu2
        subst hu1
        subst hu2
        have T1 := Lib.hid (List.take_succ_eq_append_getElem k1)
        have T2 := Lib.hid (List.take_succ_eq_append_getElem k2)
        have G1 := Lib.hid (List.getElem?_eq_getElem k1)
        have G2 := Lib.hid (List.getElem?_eq_getElem k2)
        generalize l1[k] = y1 at *
        generalize l2[k] = y2 at *
        have y1' : (w.drewN q).cell? (ad1.add k) = some (.string y1) := x1
        have y2' : (w.drewN q).cell? (ad2.add k) = some (.string y2) := x2
        clear k1 k2
        by_cases he : y1 = y2
        · subst he
          have hq : (y1.toList == y1.toList) = true := beq_self_eq_true _
          go_upto_region 6 with fail
          go_quiet (fail)
          go_wp2
          exact ⟨⟨k + 1, _, by rw [E1.out]; omega, by go_num, rfl, by rw [T1.out, T2.out, HTK.out]⟩, by simp [intOf]; omega⟩
        · have hq : (y1.toList == y2.toList) = false := by
            rw [ByteArray.toList_eq, ByteArray.toList_eq]; exact beq_false_of_ne (fun e => he (Go.WideShapes.bytes_inj e))
          have HE := Lib.hid he
          clear he
          go_upto_region 6 with fail
          go_quiet (fail)
          go_wp2
          go_ret
          refine ⟨⟨false, rfl, ⟨(fun h => by cases h), fun h => ?_⟩⟩, _, World.drewN_drewN _ _ _⟩
          have g1 := G1.out
          rw [h, G2.out] at g1
          injection g1 with g1
          exact absurd g1.symm HE.out
      · obtain rfl : k = n1 := by omega
        go_wp2
        go_ret
        refine ⟨⟨true, rfl, ?_⟩, _, rfl⟩
        have h3 := HTK.out
        rw [← E1.out, List.take_length, E1.out, ← E2.out, List.take_length] at h3
        exact ⟨fun _ => h3, fun _ => rfl⟩
  · go_wp2
    go_ret
    refine ⟨⟨false, rfl, ?_⟩, 0, rfl⟩
    exact ⟨fun h => (by cases h), fun h => absurd (by rw [← E1.out, ← E2.out, h]) hne⟩
end Go.Proofs.Ytfeglchngekedaa
namespace Go.Proofs.Ytfeglchngekedaa
open Go.RowKit Go.Shelf Go.Maps

set_option maxRecDepth 100000 in
set_option maxHeartbeats 1600000 in
theorem keepwithin_any (n m : Int) (w : World) (hm : 1 ≤ m) (hm2 : m ≤ 4611686018427387904) : Calls Try.prog 23 #[.int .i64 n, .int .i64 m] w fun e w' => e = .returned (.int .i64 (n % m)) ∧ w = w' := by
  have HR := Lib.hid (rem_facts n m hm)
  have hne : m ≠ 0 := by omega
  obtain ⟨f, hf⟩ : ∃ f, f = n % m := ⟨_, rfl⟩
  have HF := Lib.hid hf
  rw [← hf]
  clear hf
  go_enter Try.func23, Try.ntmps23
  go_wp2
  all_goals
    refine bodyPost_ret (results_tmp rfl _ _ _) rfl ?_
    refine ⟨ret_int ?_, rfl⟩
    have h2 := HF.out
    have h4 := HR.out
    obtain ⟨r1, r2, r3, r4⟩ := h4
    generalize n.tmod m = k at *
    generalize n % m = j at *
    try unfold wrap64
    first
      | (have r5 := r3 (by omega); omega)
      | (have r5 := r4 (by omega); omega)
end Go.Proofs.Ytfeglchngekedaa
namespace Go.Proofs.Ytfeglchngekedaa
open Go.RowKit Go.Shelf Go.Maps

theorem u8_list (l : List Int) (h : ∀ x ∈ l, (Lit.int .u8 x).wf = true) : ∃ b : List UInt8, l.map (Value.int .u8) = bytesV b ∧ b.length = l.length := by
  refine ⟨l.map fun x => UInt8.ofNat x.toNat, ?_, by simp⟩
  unfold bytesV
  rw [List.map_map]
  apply List.map_congr_left
  intro x hx
  have w := h x hx
  simp [Lit.wf, IntKind.max, IntKind.min, IntKind.signed, IntKind.bits] at w
  have : ((UInt8.ofNat x.toNat).toNat : Int) = x := by
    simp only [UInt8.toNat_ofNat']
    omega
  simp only [Function.comp]
  rw [this]

/-- the disk of DiskKeeps on its way: one file, f -/
structure Kp (s : DS) (g : Nat) (b : List UInt8) (k n : Nat) : Prop where
  st : s.stopped = false
  fl : s.flts = []
  nm : s.names = [([102], g)]
  by_ : s.bytes g = b
  kp : s.kept g = k
  op : s.ops = n
  cp : s.cap = 4000
theorem right_f : rightB ⟨#[102]⟩ = true := by kernel_rfl
theorem right_g : rightB ⟨#[103]⟩ = true := by kernel_rfl
theorem begF {s : DS} (h1 : s.stopped = false) (h2 : s.flts = []) : beginS s [⟨#[102]⟩] = (0, 0) := beg0 h1 h2 _ (by simp [right_f])
theorem begG {s : DS} (h1 : s.stopped = false) (h2 : s.flts = []) : beginS s [⟨#[103]⟩] = (0, 0) := beg0 h1 h2 _ (by simp [right_g])
theorem kp_get (g : Nat) : dget [(([102] : Nm), g)] [102] = some g := by simp [dget]
theorem kp_create {w w' : World} {F : Nat → Prop} {p : Nat} {e : Ending} {mn ms : Nat} (h : CreatePost w F p (emptyS 4000 mn ms) ⟨#[102]⟩ e w') :
    e = .returned (.int .i64 0) ∧ ∃ s' g, DiskAt w' (Gr F w) p s' ∧ Chg F w w' ∧ Kp s' g [] 0 1 := by
  obtain ⟨v, s', rfl, hD, hC, hs⟩ := h
  have hc : createC (emptyS 4000 mn ms) ⟨#[102]⟩ = 0 := by
    unfold createC
    rw [begF rfl rfl]
    rfl
  rw [hc] at hs ⊢
  rcases hs with ⟨h1, -⟩ | ⟨-, -, -, g, v2, -, rfl⟩
  · exact absurd rfl h1
  · refine ⟨rfl, _, g, hD, hC, ⟨rfl, rfl, ?_, ?_, ?_, rfl, rfl⟩⟩
    · show dput [] [102] g = _; simp [dput, ddel, dins]
    · simp [created, upd]
    · simp [created, upd]
theorem kp_append {w w' : World} {F : Nat → Prop} {p : Nat} {e : Ending} {s : DS} {g kn n : Nat} {b x : List UInt8} (k : Kp s g b kn n) (hl : b.length + x.length ≤ 4000) (h : AppendPost w F p s ⟨#[102]⟩ x e w') :
    e = .returned (.int .i64 0) ∧ ∃ s', DiskAt w' (Gr F w) p s' ∧ Chg F w w' ∧ Kp s' g (b ++ x) kn (n + 1) ∧ s'.safe = s.safe ∧ s'.pend = s.pend := by
  obtain ⟨v, s', rfl, hD, hC, hs⟩ := h
  have hg : dget s.names [102] = some g := by rw [k.nm]; exact kp_get g
  have hb := begF k.st k.fl
  have hu : usedS s = b.length := by unfold usedS; rw [k.nm]; simp [k.by_]
  have hf : fitsS s ⟨#[102]⟩ x.length = 0 := by
    unfold fitsS
    show (if (dget s.names [102]).isSome = true then _ else _) = _
    rw [hg, hu, k.cp]
    show (if 0 < x.length ∧ (4000 : Int) - (b.length : Int) < (x.length : Int) then (5 : Int) else 0) = 0
    rw [if_neg (by omega)]
  have ha : appendC s ⟨#[102]⟩ x.length = 0 := by unfold appendC; rw [hb, hf]; rfl
  have ht : takes s ⟨#[102]⟩ x.length = some x.length := by
    unfold takes tornS
    rw [hb, hf]
    rfl
  rw [ha]
  rcases hs with ⟨h1, -⟩ | ⟨m, g', v2, h1, h2, rfl⟩
  · rw [ht] at h1; cases h1
  · rw [ht] at h1
    injection h1 with h1
    have hg2 : dget s.names [102] = some g' := h2
    rw [hg] at hg2
    injection hg2 with hg2
    subst hg2
    refine ⟨rfl, _, hD, hC, ⟨k.st, ?_, k.nm, ?_, k.kp, ?_, k.cp⟩, rfl, rfl⟩
    · show leftF s.flts _ = []; rw [k.fl]; rfl
    · show upd s.bytes g (s.bytes g ++ _) g = _
      rw [upd_same, k.by_, ← h1, List.take_length]
    · show s.ops + 1 = n + 1; rw [k.op]
theorem kp_sync {w w' : World} {F : Nat → Prop} {p : Nat} {e : Ending} {s : DS} {g kn n : Nat} {b : List UInt8} (k : Kp s g b kn n) (h : SyncPost w F p s ⟨#[102]⟩ e w') :
    e = .returned (.int .i64 0) ∧ ∃ s', DiskAt w' (Gr F w) p s' ∧ Chg F w w' ∧ Kp s' g b b.length (n + 1) ∧ s'.safe = s.safe ∧ s'.pend = s.pend := by
  obtain ⟨v, s', rfl, hD, hC, hs⟩ := h
  have hg : dget s.names [102] = some g := by rw [k.nm]; exact kp_get g
  have hb := begF k.st k.fl
  have ha : syncC s ⟨#[102]⟩ = 0 := by
    unfold syncC
    rw [hb]
    show (if (0 : Int) = 0 then (if (dget s.names [102]).isSome = true then _ else _) else _) = _
    rw [hg]
    rfl
  rw [ha] at hs ⊢
  rcases hs with ⟨h1, -⟩ | ⟨-, g', h2, rfl⟩
  · exact absurd rfl h1
  · have hg2 : dget s.names [102] = some g' := h2
    rw [hg] at hg2
    injection hg2 with hg2
    subst hg2
    refine ⟨rfl, _, hD, hC, ⟨k.st, ?_, k.nm, k.by_, ?_, ?_, k.cp⟩, rfl, rfl⟩
    · show leftF s.flts _ = []; rw [k.fl]; rfl
    · show upd s.kept g (s.bytes g).length g = _
      rw [upd_same, k.by_]
    · show s.ops + 1 = n + 1; rw [k.op]
theorem kp_syncdir {w w' : World} {F : Nat → Prop} {p : Nat} {e : Ending} {s : DS} {g kn n : Nat} {b : List UInt8} (k : Kp s g b kn n) (h : SyncDirPost w F p s e w') :
    e = .returned (.int .i64 0) ∧ ∃ s', DiskAt w' (Gr F w) p s' ∧ Chg F w w' ∧ Kp s' g b kn (n + 1) ∧ s'.safe = [([102], g)] ∧ s'.pend = [] := by
  obtain ⟨v, s', rfl, hD, hC, hs⟩ := h
  rw [beg0 k.st k.fl [] rfl] at hs ⊢
  rcases hs with ⟨h1, -⟩ | ⟨-, m, rfl⟩
  · exact absurd rfl h1
  · refine ⟨rfl, _, hD, hC, ⟨k.st, ?_, k.nm, k.by_, k.kp, ?_, k.cp⟩, k.nm, rfl⟩
    · show leftF s.flts _ = []; rw [k.fl]; rfl
    · show s.ops + 1 = n + 1; rw [k.op]
theorem kp_other {w w' : World} {F : Nat → Prop} {p : Nat} {e : Ending} {s : DS} {g kn n : Nat} {b : List UInt8} (hd : DiskAt w F p s) (k : Kp s g b kn n) (h : CreatePost w F p s ⟨#[103]⟩ e w') :
    e = .returned (.int .i64 0) ∧ ∃ s' g2, DiskAt w' (Gr F w) p s' ∧ Chg F w w' ∧ s'.bytes g = b ∧ s'.kept g = kn ∧ s'.ops = n + 1 ∧ s'.safe = s.safe ∧ s'.pend = s.pend ++ [⟨[], [103], some g2⟩] := by
  obtain ⟨v, s', rfl, hD, hC, hs⟩ := h
  have hc : createC s ⟨#[103]⟩ = 0 := by
    unfold createC
    rw [begG k.st k.fl]
    show (if (0 : Int) = 0 then (if (dget s.names [103]).isSome = true then _ else _) else _) = _
    rw [k.nm, show dget [(([102] : Nm), g)] [103] = none by simp [dget]]
    rfl
  have hlt : g < w.heap.size := live_lt hd (.inl ⟨([102], g), by rw [k.nm]; simp, rfl⟩)
  rw [hc] at hs ⊢
  rcases hs with ⟨h1, -⟩ | ⟨-, -, -, g2, v2, hg2, rfl⟩
  · exact absurd rfl h1
  · refine ⟨rfl, _, g2, hD, hC, ?_, ?_, ?_, rfl, rfl⟩
    · show upd s.bytes g2 [] g = _
      rw [upd_other _ _ (by omega), k.by_]
    · show upd s.kept g2 0 g = _
      rw [upd_other _ _ (by omega), k.kp]
    · show s.ops + 1 = n + 1; rw [k.op]

theorem crashL_kept {bytes : Nat → List UInt8} {kept : Nat → Nat} {dir : Dl} : ∀ (keys : List Nm) (cs : List Int) (x : Nm × List UInt8 × Nat), x ∈ crashL bytes kept dir keys cs →
    ∃ n, kept ((dget dir x.1).getD 0) ≤ n ∧ x.2.1 = (bytes ((dget dir x.1).getD 0)).take n
  | [], _, _, h => by cases h
  | nm :: r, cs, x, h => by
    rcases List.mem_cons.1 h with rfl | h
    · exact ⟨_, Nat.le_add_right _ _, rfl⟩
    · exact crashL_kept r cs.tail x h
/-- what is read behind a crash: a beginning, not less than what was durable -/
theorem crash_read {w w' : World} {F : Nat → Prop} {p : Nat} {s : DS} {cs : List Int} {e : Ending} (h : CrashPost w F p s cs e w') (nm : ByteArray) (hr : rightB nm = true) (g : Nat)
    (hg : ∀ j, dget (replay s.safe (s.pend.take j)) nm.data.toList = some g) :
    e = .returned (.tuple #[]) ∧ ∃ s' n, DiskAt w' (Gr F w) p s' ∧ Chg F w w' ∧ s'.ops = s.ops ∧ s.kept g ≤ n ∧ readS s' nm = ((s.bytes g).take n, 0) := by
  obtain ⟨he, dir, ss, keys, lst, mn, ms, hdir, -, -, hnm, htell, hne, hnd, hin, -, hD, hC⟩ := h
  have hdg : dget dir nm.data.toList = some g := by rw [hdir]; exact hg _
  have hk : nm.data.toList ∈ keys := (hin _).2 (by rw [hdg]; rfl)
  rw [← hnm] at hk hnd
  obtain ⟨x, hx, hxn⟩ := List.mem_map.1 hk
  have h1 : x.tell ∈ crashL s.bytes s.kept dir keys cs.tail := by rw [← htell]; exact List.mem_map.2 ⟨x, hx, rfl⟩
  obtain ⟨n, hn, hb⟩ := crashL_kept _ _ _ h1
  have e1 : x.tell.1 = nm.data.toList := hxn
  rw [e1, hdg] at hn hb
  refine ⟨he, _, n, hD, hC, rfl, hn, ?_⟩
  have hget := dget_laid_hit lst dir x hnd hx
  rw [hxn] at hget
  have hby : (crashedS s dir lst mn ms).bytes x.g = x.bs := by
    show ((lst.find? (fun y => y.g == x.g)).map (·.bs)).getD [] = _
    rw [find_file lst x hne hx]
    rfl
  unfold readS
  rw [hr]
  show (match dget (laid dir lst) nm.data.toList with | none => _ | some g => _) = _
  rw [hget]
  show ((crashedS s dir lst mn ms).bytes x.g, (0 : Int)) = _
  rw [hby]
  exact congrArg (fun l => (l, (0 : Int))) hb
theorem keeps_dir {safe : Dl} {g g2 : Nat} (hs : safe = [([102], g)]) (j : Nat) : dget (replay safe (([⟨[], [103], some g2⟩] : List Ch).take j)) [102] = some g := by
  subst hs
  match j with
  | 0 => exact kp_get g
  | j + 1 =>
    rw [List.take_succ_cons, List.take_nil]
    show dget (dput [(([102] : Nm), g)] [103] g2) [102] = some g
    rw [dget_put, if_neg (by decide)]
    exact kp_get g
end Go.Proofs.Ytfeglchngekedaa
namespace Go.Proofs.Ytfeglchngekedaa
open Go.RowKit Go.Shelf Go.Maps

theorem run_str_reads {w : World} {B n : Nat} {A : Option Addr} {l : List UInt8} (c : Nat) (h : Reads w B 1 A n (bytesV l)) : (convert 22 9 (.slice A n c)).run Try.prog w = .ok (.string ⟨l.toArray⟩) w := by
  have hl : l.length = n := by have := h.1; rw [bytesV_length] at this; omega
  cases A with
  | none =>
    have h0 : n = 0 := by
      rcases Nat.eq_zero_or_pos n with h0 | h0
      · exact h0
      · obtain ⟨ad, e, -⟩ := h.2 h0
        cases e
    have : l = [] := List.eq_nil_of_length_eq_zero (by omega)
    subst this
    exact run_convert_bytes_nil (P := Try.prog) w 22 5 Try.underlying22 Try.underlying5 _ _ 9 Try.underlying9
  | some a =>
    have hc : (loadCells a n).run Try.prog w = .ok ((l.map fun b => (b.toNat : Int)).map (Value.int .u8)).toArray w := by
      have := run_loadCells_list (P := Try.prog) (w := w) a (bytesV l) (fun j v hj => by
        rcases Nat.eq_zero_or_pos n with h0 | h0
        · have := (List.getElem?_eq_some_iff.1 hj).1
          rw [bytesV_length] at this
          omega
        · obtain ⟨ad, e, -, hcell⟩ := h.2 h0
          injection e with e
          subst e
          exact hcell j v hj)
      rw [bytesV_length, hl] at this
      rw [this, List.map_map]
      rfl
    rw [run_convert_bytes_string w 22 9 5 (some a) n c Try.underlying22 Try.underlying5 Try.underlying9, run_bytesToString w a n c _ hc, foldl_push_bytes]
    congr 2
    rw [← strOfNums_bytes]
    simp [strOfNums]
    conv => rhs; rw [← List.map_id l]
    apply List.map_congr_left
    intro b _
    simp

set_option maxRecDepth 100000 in
set_option maxHeartbeats 3200000 in
theorem begins_any (w : World) {B1 B2 n m c d : Nat} {A1 A2 : Option Addr} {a b : List UInt8} (h1 : Reads w B1 1 A1 n (bytesV a)) (h2 : Reads w B2 1 A2 m (bytesV b)) (hab : a = b.take n) (hnm : n ≤ m) (hmd : m ≤ d) (hd : m ≤ maxLen) :
    Calls Try.prog 15 #[.slice A1 n c, .slice A2 m d] w fun e w' => e = .returned (.bool true) ∧ ∃ q, w' = w.drewN q := by
  have c1 : ∀ q, (convert 22 9 (.slice A1 n c)).run Try.prog (w.drewN q) = .ok (.string ⟨a.toArray⟩) (w.drewN q) := fun q => run_str_reads c (h1.drewN q)
  have h3 : Reads w B2 1 A2 n (bytesV a) := by
    have := h2.take hnm
    rw [show (bytesV b).take (n * 1) = bytesV a by unfold bytesV; rw [hab, Nat.mul_one, List.map_take]] at this
    exact this
  have c2 : ∀ q, (convert 22 9 (.slice A2 n d)).run Try.prog (w.drewN q) = .ok (.string ⟨a.toArray⟩) (w.drewN q) := fun q => run_str_reads d (h3.drewN q)
  have hdm : n ≤ d := by omega
  have hle : (n : Int) ≤ (m : Int) := by omega
  have hm2 : m ≤ 9223372036854775807 := Nat.le_trans hd (by simp [maxLen])
  clear h1 h2 h3 hab
  go_enter Try.func15, Try.ntmps15
  go_upto_region 1 with fail
  go_quiet (fail)
  go_wp2
  go_ret
  exact ⟨rfl, _, rfl⟩
end Go.Proofs.Ytfeglchngekedaa
namespace Go.Proofs.Ytfeglchngekedaa
open Go.RowKit Go.Shelf Go.Maps

def markV : List UInt8 := [201, 202, 203, 204]
theorem four_bytes (w : World) : Reads (w.alloc (.cells #[.int .u8 201, .int .u8 202, .int .u8 203, .int .u8 204] 5)) (w.heap.size + 1) 1 (some ⟨w.heap.size, 0, none⟩) 4 (bytesV markV) := by
  have hb := Blk.new w 5 #[.int .u8 201, .int .u8 202, .int .u8 203, .int .u8 204]
  refine ⟨rfl, fun _ => ⟨_, rfl, by show w.heap.size < _; omega, fun j u hu => ?_⟩⟩
  have e : (⟨w.heap.size, 0, none⟩ : Addr).add j = ⟨w.heap.size, j, none⟩ := by unfold Addr.add; split <;> simp_all
  rw [e, hb.cell j, ← Array.getElem?_toList]
  exact hu

set_option maxRecDepth 100000 in
set_option maxHeartbeats 6400000 in
theorem lend_any (w : World) (A : Option Addr) (n c : Nat) (b : List UInt8) (h : Reads w w.heap.size 1 A n (bytesV b)) (hn : n ≤ 1000) :
    Calls Try.prog 47 #[.slice A n c] w fun e w' => ∃ g cap, e = .returned (.slice (some ⟨g, 0, none⟩) n cap) ∧ w'.ownsRow w.heap.size 5 1 (.slice (some ⟨g, 0, none⟩) (n + 4) cap) (n + 4) (bytesV (b ++ markV)) ∧ Below w.heap.size w w' := by
  obtain ⟨i5, hi5, hz50, hz51, hz52⟩ := info_parts info5
  have HI5 := Lib.hid hi5
  have HZ50 := Lib.hid hz50
  have HZ51 := Lib.hid hz51
  have HZ52 := Lib.hid hz52
  have hb1 : Below w.heap.size w (w.alloc (.cells #[] 5)) := (Below.refl _ w).alloc (Nat.le_refl _) _
  have HR1 := Lib.hid (h.below hb1)
  have HB1 := Lib.hid hb1
  have HOW := Lib.hid (World.ownsRow_lit (base := w.heap.size) (e := 5) (size := 1) w #[] 0 (Nat.le_refl _) (Nat.zero_le _) rfl)
  clear hi5 hz50 hz51 hz52 h hb1
  go_enter Try.func47, Try.ntmps47
  go_wp2_with (first
    | (at_builtin; (refine wpList_append_any _ rfl (.tmp 4) (.tmp 5) 22 rfl w.heap.size 5 i5 (.int .u8 0) 1 1 Try.underlying22 HI5.out HZ50.out HZ51.out HZ52.out rfl (by omega) (.slice (some ⟨w.heap.size, 0, none⟩) 0 0) 0 [] rfl HOW.out w.heap.size A n c (bytesV b) rfl HR1.out (bytesV_one _) (by simp [maxLen]; omega) (by omega) (by simp) ?_; intro v4 w4 hown4 hgrow4 _; rw [Nat.zero_add, List.nil_append] at hown4; obtain ⟨A5, d5, hv5⟩ := own_slice hown4; subst hv5; have hs4 := hgrow4.size; rw [World.size_alloc] at hs4; have HW4 := Lib.hid hown4; have HB4 := Lib.hid (HB1.out.grown hgrow4 (by simp) (fun k hk => by cases hk; exact Nat.le_refl _)); clear hown4 hgrow4))
    | (at_builtin; (refine wpList_append_any _ rfl (.tmp 6) (.tmp 7) 22 rfl w.heap.size 5 i5 (.int .u8 0) 1 1 Try.underlying22 HI5.out HZ50.out HZ51.out HZ52.out rfl (by omega) (.slice A5 n d5) n (bytesV b) rfl (HW4.out.alloc _) (w4.heap.size + 1) (some ⟨w4.heap.size, 0, none⟩) 4 4 (bytesV markV) rfl (four_bytes w4) (bytesV_one _) (by simp [maxLen]; omega) (by omega) (by simp; omega) ?_; intro v6 w6 hown6 hgrow6 _; obtain ⟨A7, d7, hv7⟩ := own_slice hown6; subst hv7; obtain ⟨g7, c7, hA7⟩ := own_succ hown6 (by omega); injection hA7 with hA7 _ hc7'; subst hc7'; subst hA7; have hs6 := hgrow6.size; have HW6 := Lib.hid hown6; have HB6 := Lib.hid ((HB4.out.alloc (by omega) (.cells #[.int .u8 201, .int .u8 202, .int .u8 203, .int .u8 204] 5)).grown hgrow6 (by simp; omega) (fun k hk => (HW4.out.lt k hk).1)); have hc7 := own_capv hown6; clear hown6 hgrow6)))
  go_ret
  have h6 := HW6.out
  rw [show bytesV b ++ bytesV markV = bytesV (b ++ markV) by simp [bytesV]] at h6
  exact ⟨g7, d7, rfl, h6, HB6.out⟩
end Go.Proofs.Ytfeglchngekedaa
namespace Go.Proofs.Ytfeglchngekedaa
open Go.RowKit Go.Shelf Go.Maps

/-- a file: its bytes' slice, the bytes, how many are durable -/
structure RF where
  v : Value
  bs : List UInt8
  kept : Nat
/-- a change that pends -/
structure RC where
  kind : Int
  old : Nm
  nm : Nm
  file : Nat
def rfV (x : RF) : List Value := [x.v, .int .i64 (x.kept : Int)]
def rfsV (l : List RF) : List Value := l.flatMap rfV
def rcV (x : RC) : List Value := [.int .i64 x.kind, nmV x.old, nmV x.nm, .int .i64 (x.file : Int)]
def rcsV (l : List RC) : List Value := l.flatMap rcV
structure RS where
  cap : Int
  files : List RF
  dir : Dl
  kept : Dl
  pend : List RC
  flts : List (Int × Int)
  stop : Int
  count : Nat
  vf : Value
  vd : Value
  vk : Value
  vp : Value
  vq : Value

/-- block k holds cells of type t -/
def IsT (w : World) (k : Nat) (t : TypeId) : Prop := ∃ cs fr, w.heap[k]? = some (.cells cs t fr)
theorem IsT.keep {w w' : World} {k : Nat} {t : TypeId} (h : IsT w k t) (hk : w'.heap[k]? = w.heap[k]?) : IsT w' k t := by
  obtain ⟨cs, fr, e⟩ := h
  exact ⟨cs, fr, hk.trans e⟩
theorem IsT.lt {w : World} {k : Nat} {t : TypeId} (h : IsT w k t) : k < w.heap.size := by
  obtain ⟨cs, fr, e⟩ := h
  rcases Nat.lt_or_ge k w.heap.size with hlt | hge
  · exact hlt
  · rw [Array.getElem?_eq_none hge] at e; cases e
theorem IsT.of_blk {w : World} {k : Nat} {t : TypeId} {cs : Array Value} (h : Blk w k t cs) : IsT w k t := ⟨cs, _, h⟩
theorem IsT.of_own {w : World} {base : Nat} {e : TypeId} {size n : Nat} {v : Value} {xs : List Value} (h : w.ownsRow base e size v n xs) {k : Nat} (hk : v.ownBlock = some k) : IsT w k e := by
  rcases h.2 with ⟨rfl, _⟩ | ⟨g, cap, cur, rfl, _, hh, _⟩
  · cases hk
  · have : g = k := by simpa [Value.ownBlock] using hk
    subst this
    exact ⟨_, _, hh⟩
theorem IsT.ne {w : World} {k k' : Nat} {t t' : TypeId} (h : IsT w k t) (h' : IsT w k' t') (hne : t ≠ t') : k ≠ k' := by
  rintro rfl
  obtain ⟨cs, fr, e⟩ := h
  obtain ⟨cs', fr', e'⟩ := h'
  rw [e] at e'
  injection e' with e'
  injection e' with _ e' _
  exact hne e'

/-- a file's bytes in memory -/
structure FileOk (w : World) (F : Nat → Prop) (x : RF) : Prop where
  row : ∃ A c, x.v = .slice A x.bs.length c ∧ x.bs.length ≤ c ∧ Reads w w.heap.size 1 A x.bs.length (bytesV x.bs) ∧ (∀ ad, A = some ad → 0 < x.bs.length → F ad.block ∧ IsT w ad.block 5)
  le : x.kept ≤ x.bs.length
theorem FileOk.keep {w w' : World} {F G : Nat → Prop} {x : RF} (h : FileOk w F x) (hb : ∀ k, F k → IsT w k 5 → w'.heap[k]? = w.heap[k]?) (hsz : w.heap.size ≤ w'.heap.size) (hF : ∀ k, F k → G k) : FileOk w' G x := by
  obtain ⟨⟨A, c, e, hc, hR, hA⟩, hk⟩ := h
  refine ⟨⟨A, c, e, hc, ⟨hR.1, fun h0 => ?_⟩, fun ad e h0 => ⟨hF _ (hA ad e h0).1, (hA ad e h0).2.keep (hb _ (hA ad e h0).1 (hA ad e h0).2)⟩⟩, hk⟩
  obtain ⟨ad, e2, hlt, hcell⟩ := hR.2 h0
  refine ⟨ad, e2, by omega, fun j u hu => (World.cell?_of_block (a := ad.add j) ?_).trans (hcell j u hu)⟩
  rw [block_of_add]
  exact hb _ (hA ad e2 h0).1 (hA ad e2 h0).2
/-- a row of the document's disk -/
structure RRow (w : World) (F : Nat → Prop) (t : TypeId) (z : Nat) (v : Value) (n : Nat) (xs : List Value) : Prop where
  row : w.ownsRow 0 t z v n xs
  rowF : ∀ k, v.ownBlock = some k → F k
theorem RRow.keep {w w' : World} {F G : Nat → Prop} {t : TypeId} {z n : Nat} {v : Value} {xs : List Value} (h : RRow w F t z v n xs) (hb : ∀ k, F k → v.ownBlock = some k → IsT w k t → w'.heap[k]? = w.heap[k]?) (hF : ∀ k, F k → G k) : RRow w' G t z v n xs :=
  ⟨own_keep h.row fun k hk _ => hb k (h.rowF k hk) hk (.of_own h.row hk), fun k hk => hF _ (h.rowF k hk)⟩
theorem RRow.nil (w : World) (F : Nat → Prop) (t : TypeId) (z : Nat) : RRow w F t z (.slice none 0 0) 0 [] := ⟨World.ownsRow_nil _ _ _ _, fun k hk => by cases hk⟩

structure RefAt (w : World) (F : Nat → Prop) (r : Nat) (s : RS) : Prop where
  blk : Blk w r 58 #[.int .i64 s.cap, s.vf, s.vd, s.vk, s.vp, s.vq, .int .i64 s.stop, .int .i64 (s.count : Int)]
  own : F r
  files : RRow w F 88 2 s.vf s.files.length (rfsV s.files)
  dir : RRow w F 94 2 s.vd s.dir.length (entsV s.dir)
  kept : RRow w F 94 2 s.vk s.kept.length (entsV s.kept)
  pend : RRow w F 91 4 s.vp s.pend.length (rcsV s.pend)
  flts : RRow w F 108 2 s.vq s.flts.length (fltsV s.flts)
  bytes : ∀ x ∈ s.files, FileOk w F x
  capB : 0 ≤ s.cap ∧ s.cap < 9223372036854775808

theorem RefAt.keep {w w' : World} {F G : Nat → Prop} {r : Nat} {s : RS} (h : RefAt w F r s) (hb : ∀ k, F k → k < w.heap.size → w'.heap[k]? = w.heap[k]?) (hsz : w.heap.size ≤ w'.heap.size) (hF : ∀ k, F k → G k) : RefAt w' G r s where
  blk := (hb r h.own h.blk.lt).trans h.blk
  own := hF _ h.own
  files := h.files.keep (fun k hk _ ht => hb k hk ht.lt) hF
  dir := h.dir.keep (fun k hk _ ht => hb k hk ht.lt) hF
  kept := h.kept.keep (fun k hk _ ht => hb k hk ht.lt) hF
  pend := h.pend.keep (fun k hk _ ht => hb k hk ht.lt) hF
  flts := h.flts.keep (fun k hk _ ht => hb k hk ht.lt) hF
  bytes := fun x hx => (h.bytes x hx).keep (fun k hk ht => hb k hk ht.lt) hsz hF
  capB := h.capB
theorem RefAt.drewN {w : World} {F : Nat → Prop} {r : Nat} {s : RS} (h : RefAt w F r s) (n : Nat) : RefAt (w.drewN n) F r s := h.keep (fun _ _ _ => rfl) (Nat.le_refl _) fun _ h => h
theorem RefAt.inF {w : World} {F G : Nat → Prop} {r : Nat} {s : RS} (h : RefAt w F r s) (hF : ∀ k, F k → G k) : RefAt w G r s := h.keep (fun _ _ _ => rfl) (Nat.le_refl _) hF
/-- the cells of the own block -/
theorem RefAt.cells {w : World} {F : Nat → Prop} {r : Nat} {s : RS} (h : RefAt w F r s) : w.cell? ⟨r, 0, none⟩ = some (.int .i64 s.cap) ∧ w.cell? ⟨r, 1, none⟩ = some s.vf ∧ w.cell? ⟨r, 2, none⟩ = some s.vd ∧ w.cell? ⟨r, 3, none⟩ = some s.vk ∧
    w.cell? ⟨r, 4, none⟩ = some s.vp ∧ w.cell? ⟨r, 5, none⟩ = some s.vq ∧ w.cell? ⟨r, 6, none⟩ = some (.int .i64 s.stop) ∧ w.cell? ⟨r, 7, none⟩ = some (.int .i64 (s.count : Int)) :=
  ⟨h.blk.cell 0, h.blk.cell 1, h.blk.cell 2, h.blk.cell 3, h.blk.cell 4, h.blk.cell 5, h.blk.cell 6, h.blk.cell 7⟩
/-- what has turned: the own block, and (as marked) the rows of files, changes, faults -/
theorem RefAt.turn {w w' : World} {F : Nat → Prop} {r : Nat} {s : RS} (h : RefAt w F r s) (s' : RS) (uf up uq : Bool) (hsz : w.heap.size ≤ w'.heap.size)
    (hk : ∀ k, k < w.heap.size → k ≠ r → (uf = true → s.vf.ownBlock ≠ some k) → (up = true → s.vp.ownBlock ≠ some k) → (uq = true → s.vq.ownBlock ≠ some k) → w'.heap[k]? = w.heap[k]?)
    (hb : Blk w' r 58 #[.int .i64 s'.cap, s'.vf, s'.vd, s'.vk, s'.vp, s'.vq, .int .i64 s'.stop, .int .i64 (s'.count : Int)])
    (hf : (uf = false ∧ s'.vf = s.vf ∧ s'.files = s.files) ∨ (RRow w' (Gr F w) 88 2 s'.vf s'.files.length (rfsV s'.files) ∧ ∀ x ∈ s'.files, (∃ y ∈ s.files, x.v = y.v ∧ x.bs = y.bs ∧ x.kept ≤ x.bs.length) ∨ FileOk w' (Gr F w) x))
    (hd : (s'.vd = s.vd ∧ s'.dir = s.dir) ∨ RRow w' (Gr F w) 94 2 s'.vd s'.dir.length (entsV s'.dir))
    (hkt : (s'.vk = s.vk ∧ s'.kept = s.kept) ∨ RRow w' (Gr F w) 94 2 s'.vk s'.kept.length (entsV s'.kept))
    (hp : (up = false ∧ s'.vp = s.vp ∧ s'.pend = s.pend) ∨ RRow w' (Gr F w) 91 4 s'.vp s'.pend.length (rcsV s'.pend))
    (hq : (uq = false ∧ s'.vq = s.vq ∧ s'.flts = s.flts) ∨ RRow w' (Gr F w) 108 2 s'.vq s'.flts.length (fltsV s'.flts))
    (hc : 0 ≤ s'.cap ∧ s'.cap < 9223372036854775808) : RefAt w' (Gr F w) r s' := by
  have hF : ∀ k, F k → Gr F w k := fun k hk => .inl hk
  have hr : IsT w r 58 := .of_blk h.blk
  have same : ∀ {t : TypeId} {k : Nat}, IsT w k t → t ≠ 58 → (t ≠ 88 ∨ uf = false) → (t ≠ 91 ∨ up = false) → (t ≠ 108 ∨ uq = false) → w'.heap[k]? = w.heap[k]? := by
    intro t k ht h1 h2 h3 h4
    refine hk k ht.lt (ht.ne hr h1) (fun e he => ?_) (fun e he => ?_) (fun e he => ?_)
    · rcases h2 with h2 | h2
      · exact ht.ne (.of_own h.files.row he) h2 rfl
      · rw [e] at h2; cases h2
    · rcases h3 with h3 | h3
      · exact ht.ne (.of_own h.pend.row he) h3 rfl
      · rw [e] at h3; cases h3
    · rcases h4 with h4 | h4
      · exact ht.ne (.of_own h.flts.row he) h4 rfl
      · rw [e] at h4; cases h4
  have fk : ∀ x ∈ s.files, FileOk w' (Gr F w) x := fun x hx => (h.bytes x hx).keep (fun k _ ht => same ht (by decide) (.inl (by decide)) (.inl (by decide)) (.inl (by decide))) hsz hF
  exact {
    blk := hb
    own := .inl h.own
    files := by
      rcases hf with ⟨e, e1, e2⟩ | hf
      · rw [e1, e2]; exact h.files.keep (fun k _ _ ht => same ht (by decide) (.inr e) (.inl (by decide)) (.inl (by decide))) hF
      · exact hf.1
    dir := by
      rcases hd with ⟨e1, e2⟩ | hd
      · rw [e1, e2]; exact h.dir.keep (fun k _ _ ht => same ht (by decide) (.inl (by decide)) (.inl (by decide)) (.inl (by decide))) hF
      · exact hd
    kept := by
      rcases hkt with ⟨e1, e2⟩ | hd
      · rw [e1, e2]; exact h.kept.keep (fun k _ _ ht => same ht (by decide) (.inl (by decide)) (.inl (by decide)) (.inl (by decide))) hF
      · exact hd
    pend := by
      rcases hp with ⟨e, e1, e2⟩ | hd
      · rw [e1, e2]; exact h.pend.keep (fun k _ _ ht => same ht (by decide) (.inl (by decide)) (.inr e) (.inl (by decide))) hF
      · exact hd
    flts := by
      rcases hq with ⟨e, e1, e2⟩ | hd
      · rw [e1, e2]; exact h.flts.keep (fun k _ _ ht => same ht (by decide) (.inl (by decide)) (.inl (by decide)) (.inr e)) hF
      · exact hd
    bytes := fun x hx => by
      rcases hf with ⟨e, e1, e2⟩ | hf
      · rw [e2] at hx; exact fk x hx
      · rcases hf.2 x hx with ⟨y, hy, e1, e2, e3⟩ | h1
        · obtain ⟨⟨A, c, e, hc, hR, hA⟩, _⟩ := fk y hy
          exact ⟨⟨A, c, by rw [e1, e2]; exact e, by rw [e2]; exact hc, by rw [e2]; exact hR, by rw [e2]; exact hA⟩, e3⟩
        · exact h1
    capB := hc }

set_option maxRecDepth 100000 in
set_option maxHeartbeats 1600000 in
theorem rsetcap_any (w : World) (r : Nat) (cs : Array Value) (n x : Int) (h : Blk w r 58 cs) (h0 : cs[0]? = some (.int .i64 x)) :
    Calls Try.prog 41 #[.pointer (some ⟨r, 0, none⟩), .int .i64 n] w fun e w' => e = .returned (.tuple #[]) ∧ w' = w.setCell ⟨r, 0, none⟩ (.int .i64 (max n 0)) := by
  have q0 : w.cell? ⟨r, 0, none⟩ = some (.int .i64 x) := (h.cell 0).trans h0
  have f0 := h.frozen 0
  clear h h0
  by_cases hn : n < 0
  case' pos =>
    have e : max n 0 = 0 := by omega
  case' neg =>
    have e : max n 0 = n := by omega
  all_goals
    have HE := Lib.hid e
    clear e
    go_enter Try.func41, Try.ntmps41
    go_wp2
    go_end0
    exact ⟨rfl, by rw [HE.out]⟩

set_option maxRecDepth 100000 in
set_option maxHeartbeats 1600000 in
theorem rstop_any (w : World) (r : Nat) (cs : Array Value) (n x : Int) (h : Blk w r 58 cs) (h0 : cs[6]? = some (.int .i64 x)) :
    Calls Try.prog 22 #[.pointer (some ⟨r, 0, none⟩), .int .i64 n] w fun e w' => e = .returned (.tuple #[]) ∧ w' = w.setCell ⟨r, 6, none⟩ (.int .i64 (max n 0)) := by
  have q0 : w.cell? ⟨r, 6, none⟩ = some (.int .i64 x) := (h.cell 6).trans h0
  have f0 := h.frozen 6
  clear h h0
  by_cases hn : n < 0
  case' pos =>
    have e : max n 0 = 0 := by omega
  case' neg =>
    have e : max n 0 = n := by omega
  all_goals
    have HE := Lib.hid e
    clear e
    go_enter Try.func22, Try.ntmps22
    go_wp2
    go_end0
    exact ⟨rfl, by rw [HE.out]⟩

def emptyR (cap : Int) : RS := { cap := cap, files := [], dir := [], kept := [], pend := [], flts := [], stop := -1, count := 0, vf := .slice none 0 0, vd := .slice none 0 0, vk := .slice none 0 0, vp := .slice none 0 0, vq := .slice none 0 0 }
set_option maxRecDepth 100000 in
set_option maxHeartbeats 1600000 in
theorem rnew_any (w : World) (cap : Int) (hc : cap < 9223372036854775808) : Calls Try.prog 19 #[.int .i64 cap] w fun e w' => ∃ r, e = .returned (.pointer (some ⟨r, 0, none⟩)) ∧ RefAt w' (fun k => w.heap.size ≤ k) r (emptyR (max cap 0)) ∧ Below w.heap.size w w' := by
  go_enter Try.func19, Try.ntmps19
  go_wp2_with fail
  obtain ⟨w1, hw1⟩ : ∃ w1, w.alloc (.cells #[.int .i64 0, .slice none 0 0, .slice none 0 0, .slice none 0 0, .slice none 0 0, .slice none 0 0, .int .i64 (-1), .int .i64 0] 58) = w1 := ⟨_, rfl⟩
  have hb : Blk w1 w.heap.size 58 _ := hw1 ▸ Blk.new w 58 #[.int .i64 0, .slice none 0 0, .slice none 0 0, .slice none 0 0, .slice none 0 0, .slice none 0 0, .int .i64 (-1), .int .i64 0]
  have hb1 : Below w.heap.size w w1 := by rw [← hw1]; exact (Below.refl _ w).alloc (Nat.le_refl _) _
  rw [hw1]
  refine (rsetcap_any w1 w.heap.size _ cap 0 hb rfl).mono ?_
  rintro e w2 ⟨rfl, rfl⟩
  have HBL := Lib.hid (hb.set_ 0 (.int .i64 (max cap 0)))
  have HB1 := Lib.hid hb1
  clear hw1 hb hb1
  go_wp2
  go_ret
  refine ⟨w.heap.size, rfl, ⟨HBL.out, Nat.le_refl _, RRow.nil _ _ _ _, RRow.nil _ _ _ _, RRow.nil _ _ _ _, RRow.nil _ _ _ _, RRow.nil _ _ _ _, (fun x hx => by cases hx), (by show 0 ≤ max cap 0 ∧ max cap 0 < _; omega)⟩, ?_⟩
  exact HB1.out.grown (only_setCell (only_refl w1 (some w.heap.size)) (.inl rfl) _) HB1.out.size (fun k hk => by cases hk; exact Nat.le_refl _)
end Go.Proofs.Ytfeglchngekedaa
