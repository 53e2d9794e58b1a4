/- wakes: a disk that is alive; string(b) of a row of bytes. -/
import Derived.Test.YtfeglchngekedaaCrash
import Derived.Test.YtfeglchngekedaaAppendW
import Derived.Test.YtfeglchngekedaaSync
import Derived.Test.YtfeglchngekedaaRead
import Derived.Test.YtfeglchngekedaaUsed
import Derived.Test.YtfeglchngekedaaNew
import Derived.Laws.BytesArg
import Derived.Lib.SmallJoins
namespace Go.Proofs.Ytfeglchngekedaa
open Go.RowKit Go.Shelf Go.Maps

theorem strOfNums_bytes (l : List UInt8) : strOfNums (l.map fun b => (b.toNat : Int)) = ⟨l.toArray⟩ := by
  have h : (strOfNums (l.map fun b => (b.toNat : Int))).data.toList = l := by
    rw [strOfNums_data, List.map_map]
    conv => rhs; rw [← List.map_id l]
    apply List.map_congr_left
    intro b _
    simp
  have h2 : (strOfNums (l.map fun b => (b.toNat : Int))).data = l.toArray := by rw [← Array.toList_inj, h]
  calc strOfNums (l.map fun b => (b.toNat : Int)) = ⟨(strOfNums (l.map fun b => (b.toNat : Int))).data⟩ := rfl
    _ = ⟨l.toArray⟩ := by rw [h2]
theorem run_str_at (w : World) (g c : Nat) (l : List UInt8) (h : ∀ i, i < l.length → w.cell? ⟨g, i, none⟩ = some (.int .u8 ((l.map fun b => (b.toNat : Int)).getD i 0))) : (convert 22 9 (.slice (some ⟨g, 0, none⟩) l.length c)).run Try.prog w = .ok (.string ⟨l.toArray⟩) w := by
  have := run_convert_bytes_arg (P := Try.prog) w 22 5 Try.underlying22 Try.underlying5 g 0 l.length c (l.map fun b => (b.toNat : Int)) (by simp) (fun i hi => by rw [Nat.zero_add]; exact h i hi) 9 Try.underlying9
  rwa [strOfNums_bytes] at this
theorem run_str_of_row (w : World) (base : Nat) (v : Value) (l : List UInt8) (h : w.ownsRow base 5 1 v l.length (bytesV l)) : (convert 22 9 v).run Try.prog w = .ok (.string ⟨l.toArray⟩) w := by
  rcases h.2 with ⟨e, e2⟩ | ⟨g, cap, cur, e, _, _, _, _⟩
  · have hl : l = [] := by
      match l, e2 with
      | [], _ => rfl
      | _ :: _, e2 => cases e2
    subst hl
    rw [e]
    exact run_convert_bytes_nil (P := Try.prog) w 22 5 Try.underlying22 Try.underlying5 _ _ 9 Try.underlying9
  · subst e
    refine run_str_at w g cap l fun i hi => ?_
    rw [h.cellAt i (by omega)]
    simp [bytesV, List.getElem?_map, List.getElem?_eq_getElem hi, List.getD_eq_getElem?_getD]

theorem DiskAt.restrict {w : World} {F : Nat → Prop} {p : Nat} {s : DS} (h : DiskAt w F p s) : DiskAt w (fun k => F k ∧ k < w.heap.size) p s where
  blk := h.blk
  own := ⟨h.own, h.blk.lt⟩
  names := h.names
  safe := h.safe
  namesL := h.namesL
  safeL := h.safeL
  mnF := ⟨h.mnF, h.names.lt⟩
  msF := ⟨h.msF, h.safe.lt⟩
  mne := h.mne
  pend := h.pend
  pendF := fun k hk => ⟨h.pendF k hk, (h.pend.lt k hk).2⟩
  pendL := h.pendL
  flts := h.flts
  fltsF := fun k hk => ⟨h.fltsF k hk, (h.flts.lt k hk).2⟩
  file := fun g hg => by
    have f := h.file g hg
    exact ⟨f.blk, ⟨f.own, f.blk.lt⟩, f.row, fun k hk => ⟨f.rowF k hk, (f.row.lt k hk).2⟩, f.le, f.len⟩
  apart := h.apart
  nameOk := h.nameOk
  safeOk := h.safeOk
  pendOk := h.pendOk
  capB := h.capB
  rep := h.rep

theorem wake_crash {s : DS} {g : Nat} {cs : List Int} (hs : s.safe = [([97], g)]) (hp : s.pend = []) (hb : s.bytes g = [120, 121, 122]) (hk : s.kept g = 3) (hcs : cs = [])
    {w w' : World} {F : Nat → Prop} {p : Nat} {e : Ending} (h : CrashPost w F p s cs e w') :
    e = .returned (.tuple #[]) ∧ ∃ s', DiskAt w' (Gr F w) p s' ∧ Chg F w w' ∧ readS s' ⟨#[97]⟩ = ([120, 121, 122], 0) ∧ usedS s' = 3 ∧ s'.ops = s.ops := by
  subst hcs
  obtain ⟨he, dir, ss, keys, lst, mn, ms, hdir, hss, hkeys, hnm, htell, -, -, -, -, hD, hC⟩ := h
  have hdir' : dir = [([97], g)] := by rw [hdir, hp, hs]; simp [replay]
  rw [hdir'] at hss
  have hss' : ss = [[97]] := List.perm_singleton.1 hss
  have hkeys' : keys = [[97]] := by rw [hkeys, hss']; exact List.mergeSort_singleton _
  rw [hkeys', hdir'] at htell
  have hcr : crashL s.bytes s.kept [(([97] : Nm), g)] [[97]] [] = [([97], [120, 121, 122], 3)] := by
    have e1 : dget [(([97] : Nm), g)] [97] = some g := by simp [dget]
    unfold crashL
    rw [e1]
    simp only [Option.getD_some, hb, hk]
    simp [nextK, crashL]
  rw [List.tail_nil, hcr] at htell
  obtain ⟨e, rfl⟩ : ∃ x, lst = [x] := by
    match lst, htell with
    | [x], _ => exact ⟨x, rfl⟩
    | [], h => cases h
    | _ :: _ :: _, h => simp at h
  simp only [List.map_cons, List.map_nil, List.cons.injEq, and_true] at htell
  unfold NewF.tell at htell
  injection htell with h1 h2
  injection h2 with h2 h3
  have hl : laid dir [e] = [([97], e.g)] := by
    rw [hdir']
    show dput _ e.name e.g = _
    rw [h1]
    simp [dput, ddel, dins]
  have hby : (crashedS s dir [e] mn ms).bytes e.g = [120, 121, 122] := by
    show (([e].find? (fun x => x.g == e.g)).map (·.bs)).getD [] = _
    simp [h2]
  refine ⟨he, _, hD, hC, ?_, ?_, rfl⟩
  · unfold readS
    rw [show rightB ⟨#[97]⟩ = true by kernel_rfl]
    show (match dget (laid dir [e]) [97] with | none => _ | some g => _) = _
    rw [hl, show dget [(([97] : Nm), e.g)] [97] = some e.g by simp [dget]]
    show ((crashedS s dir [e] mn ms).bytes e.g, (0 : Int)) = _
    rw [hby]
  · unfold usedS
    show ((laid dir [e]).map _).sum = 3
    rw [hl]
    simp [hby]
/-- a disk on the way -/
structure Wk (s : DS) (g : Nat) (b : List UInt8) (k n : Nat) : Prop where
  st : s.stopped = false
  fl : s.flts = []
  nm : s.names = [([97], g)]
  by_ : s.bytes g = b
  kp : s.kept g = k
  op : s.ops = n
  cp : s.cap = 100
theorem right_a : rightB ⟨#[97]⟩ = true := by kernel_rfl
theorem beg0 {s : DS} (h1 : s.stopped = false) (h2 : s.flts = []) (ns : List ByteArray) (h : ns.all rightB = true) : beginS s ns = (0, 0) := by
  unfold beginS
  rw [if_neg (by simp [h1]), h2]
  simp only [struckF, List.find?_nil, Option.map_none]
  rw [if_pos h]
theorem beg1 {s : DS} (h1 : s.stopped = false) (h2 : s.flts = []) : beginS s [⟨#[97]⟩] = (0, 0) := beg0 h1 h2 _ (by simp [right_a])
theorem wk_create {w w' : World} {F : Nat → Prop} {p : Nat} {e : Ending} {mn ms : Nat} (h : CreatePost w F p (emptyS 100 mn ms) ⟨#[97]⟩ e w') :
    e = .returned (.int .i64 0) ∧ ∃ s' g, DiskAt w' (Gr F w) p s' ∧ Chg F w w' ∧ Wk s' g [] 0 1 := by
  obtain ⟨v, s', rfl, hD, hC, hs⟩ := h
  have hc : createC (emptyS 100 mn ms) ⟨#[97]⟩ = 0 := by
    unfold createC
    rw [beg1 rfl rfl]
    rfl
  rw [hc] at hs ⊢
  rcases hs with ⟨h1, -⟩ | ⟨-, -, -, g, v2, -, rfl⟩
  · exact absurd rfl h1
  · refine ⟨rfl, _, g, hD, hC, ⟨rfl, rfl, ?_, ?_, ?_, rfl, rfl⟩⟩
    · show dput [] [97] g = _; simp [dput, ddel, dins]
    · simp [created, upd]
    · simp [created, upd]
theorem wk_get (g : Nat) : dget [(([97] : Nm), g)] [97] = some g := by simp [dget]
theorem wk_append {w w' : World} {F : Nat → Prop} {p : Nat} {e : Ending} {s : DS} {g : Nat} (k : Wk s g [] 0 1) (h : AppendPost w F p s ⟨#[97]⟩ [120, 121, 122] e w') :
    e = .returned (.int .i64 0) ∧ ∃ s', DiskAt w' (Gr F w) p s' ∧ Chg F w w' ∧ Wk s' g [120, 121, 122] 0 2 := by
  obtain ⟨v, s', rfl, hD, hC, hs⟩ := h
  have hg : dget s.names [97] = some g := by rw [k.nm]; exact wk_get g
  have hb := beg1 k.st k.fl
  have hu : usedS s = 0 := by unfold usedS; rw [k.nm]; simp [k.by_]
  have hf : fitsS s ⟨#[97]⟩ 3 = 0 := by
    unfold fitsS
    show (if (dget s.names [97]).isSome = true then _ else _) = _
    rw [hg, hu, k.cp]
    rfl
  have ha : appendC s ⟨#[97]⟩ 3 = 0 := by unfold appendC; rw [hb, hf]; rfl
  have ht : takes s ⟨#[97]⟩ 3 = some 3 := by
    unfold takes tornS
    rw [hb, hf]
    rfl
  have e3 : ([120, 121, 122] : List UInt8).length = 3 := rfl
  rw [e3] at hs ⊢
  rw [ha]
  rcases hs with ⟨h1, -⟩ | ⟨m, g', v2, h1, h2, rfl⟩
  · rw [ht] at h1; cases h1
  · rw [ht] at h1
    injection h1 with h1
    have hg2 : dget s.names [97] = some g' := h2
    rw [hg] at hg2
    injection hg2 with hg2
    subst hg2
    refine ⟨rfl, _, hD, hC, ⟨k.st, ?_, k.nm, ?_, k.kp, ?_, k.cp⟩⟩
    · show leftF s.flts _ = []; rw [k.fl]; rfl
    · show upd s.bytes g (s.bytes g ++ _) g = _
      rw [upd_same, k.by_, ← h1]; rfl
    · show s.ops + 1 = 2; rw [k.op]
theorem wk_sync {w w' : World} {F : Nat → Prop} {p : Nat} {e : Ending} {s : DS} {g : Nat} (k : Wk s g [120, 121, 122] 0 2) (h : SyncPost w F p s ⟨#[97]⟩ e w') :
    e = .returned (.int .i64 0) ∧ ∃ s', DiskAt w' (Gr F w) p s' ∧ Chg F w w' ∧ Wk s' g [120, 121, 122] 3 3 := by
  obtain ⟨v, s', rfl, hD, hC, hs⟩ := h
  have hg : dget s.names [97] = some g := by rw [k.nm]; exact wk_get g
  have hb := beg1 k.st k.fl
  have ha : syncC s ⟨#[97]⟩ = 0 := by
    unfold syncC
    rw [hb]
    show (if (0 : Int) = 0 then (if (dget s.names [97]).isSome = true then _ else _) else _) = _
    rw [hg]
    rfl
  rw [ha] at hs ⊢
  rcases hs with ⟨h1, -⟩ | ⟨-, g', h2, rfl⟩
  · exact absurd rfl h1
  · have hg2 : dget s.names [97] = some g' := h2
    rw [hg] at hg2
    injection hg2 with hg2
    subst hg2
    refine ⟨rfl, _, hD, hC, ⟨k.st, ?_, k.nm, k.by_, ?_, ?_, k.cp⟩⟩
    · show leftF s.flts _ = []; rw [k.fl]; rfl
    · show upd s.kept g (s.bytes g).length g = _
      rw [upd_same, k.by_]; rfl
    · show s.ops + 1 = 3; rw [k.op]
theorem wk_syncdir {w w' : World} {F : Nat → Prop} {p : Nat} {e : Ending} {s : DS} {g : Nat} (k : Wk s g [120, 121, 122] 3 3) (h : SyncDirPost w F p s e w') :
    e = .returned (.int .i64 0) ∧ ∃ s', DiskAt w' (Gr F w) p s' ∧ Chg F w w' ∧ Wk s' g [120, 121, 122] 3 4 ∧ s'.safe = [([97], g)] ∧ s'.pend = [] := by
  obtain ⟨v, s', rfl, hD, hC, hs⟩ := h
  rw [beg0 k.st k.fl [] rfl] at hs ⊢
  rcases hs with ⟨h1, -⟩ | ⟨-, m, rfl⟩
  · exact absurd rfl h1
  · refine ⟨rfl, _, hD, hC, ⟨k.st, ?_, k.nm, k.by_, k.kp, ?_, k.cp⟩, k.nm, rfl⟩
    · show leftF s.flts _ = []; rw [k.fl]; rfl
    · show s.ops + 1 = 4; rw [k.op]

set_option maxRecDepth 100000 in
set_option maxHeartbeats 6400000 in
theorem wakes_any (w : World) : Calls Try.prog 16 #[] w fun e w' => e = .returned (.bool true) ∧ Below w.heap.size w w' := by
  go_enter Try.func16, Try.ntmps16
  go_wp2_with fail
  refine (new_any 100 w (by omega)).mono ?_
  rintro e w1 ⟨p, mn, ms, rfl, hD1, hb1⟩
  have HD1 := Lib.hid hD1
  have HB1 := Lib.hid hb1
  clear hD1 hb1
  go_wp2_with fail
  refine (create_any w1 _ p _ ⟨#[97]⟩ HD1.out (by decide) (by decide) (by show (0 : Nat) ≤ _; omega) (Nat.zero_le _)).mono ?_
  rintro e w2 hp2
  obtain ⟨rfl, s2, g, hD2, hC2, k2⟩ := wk_create hp2
  have HB2 := Lib.hid (hC2.toBelow (B := w.heap.size) (fun k hk => hk) HB1.out.size)
  have HD2 := Lib.hid hD2
  have K2 := Lib.hid k2
  have hcv := Lib.run_convert_bytes_const (P := Try.prog) w2 22 5 #[.int .u8 120, .int .u8 121, .int .u8 122] 3 3 Try.underlying22 Try.underlying5
  clear hp2 hD2 hC2 k2
  go_wp2_with fail
  obtain ⟨w3, hw3⟩ : ∃ w3, w2.alloc (.cells #[.int .u8 120, .int .u8 121, .int .u8 122] 5 (3, 4)) = w3 := ⟨_, rfl⟩
  have hs3 : w3.heap.size = w2.heap.size + 1 := by rw [← hw3]; simp
  have hs2 := HB2.out.size
  have hs1 := HB1.out.size
  have hD3 := HD2.out.restrict.keep (w' := w3) (fun k _ hk => by rw [← hw3]; exact Below.heap_alloc _ _ _ hk) (fun _ h => h)
  have hR3 : Reads w3 w3.heap.size 1 (some ⟨w2.heap.size, 0, none⟩) ([120, 121, 122] : List UInt8).length (bytesV [120, 121, 122]) := by
    refine ⟨rfl, fun _ => ⟨_, rfl, by show w2.heap.size < _; omega, fun j u hu => ?_⟩⟩
    have e : (⟨w2.heap.size, 0, none⟩ : Addr).add j = ⟨w2.heap.size, j, none⟩ := by unfold Addr.add; split <;> simp_all
    rw [e, ← hw3, World.cell?_alloc_mark, ← Array.getElem?_toList]
    exact hu
  have HB3 := Lib.hid (show Below w.heap.size w w3 by rw [← hw3]; exact (HB1.out.trans HB2.out).alloc (Nat.le_trans hs1 hs2) _)
  have HD3 := Lib.hid hD3
  have HR3 := Lib.hid hR3
  rw [hw3]
  clear hw3 hD3 hR3 hcv
  refine (append_any w3 _ p s2 ⟨#[97]⟩ _ 3 [120, 121, 122] HD3.out HR3.out (fun _ ad e => by injection e with e; rw [← e]; rintro ⟨_, h⟩; exact absurd h (Nat.lt_irrefl _)) (by decide) (by decide) (by decide) (by decide) (by rw [K2.out.op]; omega) (by rw [K2.out.fl]; exact Nat.zero_le _)).mono ?_
  rintro e w4 hp4
  obtain ⟨rfl, s4, hD4, hC4, k4⟩ := wk_append K2.out hp4
  have hin4 : ∀ k, Gr (fun k => Gr (fun k => w.heap.size ≤ k) w1 k ∧ k < w2.heap.size) w3 k → w.heap.size ≤ k := fun k hk => by
    rcases hk with ⟨h | h, -⟩ | h <;> omega
  have HD4 := Lib.hid (hD4.inF hin4)
  have HB4 := Lib.hid (HB3.out.trans (hC4.toBelow (B := w.heap.size) (fun k hk => hin4 k (.inl hk)) (by omega)))
  have K4 := Lib.hid k4
  have hs4 := hC4.size
  clear hp4 hD4 hC4 k4 hin4
  go_wp2_with fail
  refine (sync_any w4 _ p s4 ⟨#[97]⟩ HD4.out (by decide) (by decide) (by rw [K4.out.op]; omega) (by rw [K4.out.fl]; exact Nat.zero_le _)).mono ?_
  rintro e w5 hp5
  obtain ⟨rfl, s5, hD5, hC5, k5⟩ := wk_sync K4.out hp5
  have HD5 := Lib.hid (hD5.inF (G := fun k => w.heap.size ≤ k) (fun k hk => by rcases hk with h | h <;> omega))
  have HB5 := Lib.hid (HB4.out.trans (hC5.toBelow (B := w.heap.size) (fun k hk => hk) (by omega)))
  have K5 := Lib.hid k5
  have hs5 := hC5.size
  clear hp5 hD5 hC5 k5
  go_wp2_with fail
  refine (syncdir_any w5 _ p s5 HD5.out (by rw [K5.out.op]; omega) (by rw [K5.out.fl]; exact Nat.zero_le _)).mono ?_
  rintro e w6 hp6
  obtain ⟨rfl, s6, hD6, hC6, k6, hsafe, hpend⟩ := wk_syncdir K5.out hp6
  have HD6 := Lib.hid (hD6.inF (G := fun k => w.heap.size ≤ k) (fun k hk => by rcases hk with h | h <;> omega))
  have HB6 := Lib.hid (HB5.out.trans (hC6.toBelow (B := w.heap.size) (fun k hk => hk) (by omega)))
  have K6 := Lib.hid k6
  have HSF := Lib.hid hsafe
  have HPD := Lib.hid hpend
  have hs6 := hC6.size
  clear hp6 hD6 hC6 k6 hsafe hpend
  go_wp2_with fail
  refine (crash_any w6 _ p s6 none 0 [] HD6.out ⟨rfl, fun h => absurd h (by simp)⟩ (Nat.le_refl _) (by rw [K6.out.op]; omega) (by rw [HSF.out, HPD.out, K6.out.op]; simp)).mono ?_
  rintro e w7 hp7
  obtain ⟨rfl, s7, hD7, hC7, hread, hused, hops⟩ := wake_crash HSF.out HPD.out K6.out.by_ K6.out.kp rfl hp7
  have HD7 := Lib.hid (hD7.inF (G := fun k => w.heap.size ≤ k) (fun k hk => by rcases hk with h | h <;> omega))
  have HB7 := Lib.hid (HB6.out.trans (hC7.toBelow (B := w.heap.size) (fun k hk => hk) (by omega)))
  have HRD := Lib.hid hread
  have HUS := Lib.hid hused
  have HOP := Lib.hid hops
  have hs7 := hC7.size
  clear hp7 hD7 hC7 hread hused hops
  go_wp2_with fail
  refine (read_any w7 _ p s7 ⟨#[97]⟩ HD7.out (by decide) (by decide) (by rw [HOP.out, K6.out.op]; omega)).mono ?_
  rintro e w8 ⟨v, rfl, hrow, hb8⟩
  rw [HRD.out] at hrow ⊢
  obtain ⟨A8, d8, rfl⟩ := own_slice hrow
  have hcs : (convert 22 9 (.slice A8 3 d8)).run Try.prog w8 = .ok (.string ⟨#[120, 121, 122]⟩) w8 := run_str_of_row w8 _ _ [120, 121, 122] hrow
  have HD8 := Lib.hid (HD7.out.keep (fun k _ hk => hb8.block k hk) (fun _ h => h))
  have HB8 := Lib.hid (HB7.out.trans (hb8.mono (by omega)))
  have HROW := Lib.hid hrow
  clear hrow hb8
  go_wp2_with fail
  refine (used_any w8 _ p s7 HD8.out (by rw [HOP.out, K6.out.op]; omega)).mono ?_
  rintro e w9 ⟨rfl, hb9⟩
  rw [HUS.out]
  have HB9 := Lib.hid (HB8.out.trans (hb9.mono (by have := HB8.out.size; omega)))
  clear hb9
  go_wp2
  go_ret
  exact ⟨rfl, HB9.out⟩
end Go.Proofs.Ytfeglchngekedaa
