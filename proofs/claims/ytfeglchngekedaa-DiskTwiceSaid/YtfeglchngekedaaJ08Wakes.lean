/- wakes: a disk that is alive; string(b) of a row of bytes. What each row of the seat wants: an argument that is a row of strings, of bytes, of integers; a law that answers true and leaves alone what lay before. Began as the kit's extra-small 9 (post_of_below). A change of the directory that moves or removes a name: the state behind it; Remove (function 52). -/
import Derived.Test.YtfeglchngekedaaJ07Crash
import Derived.Test.YtfeglchngekedaaJ05Used
import Derived.Test.YtfeglchngekedaaJ06Sync
import Derived.Test.YtfeglchngekedaaJ03Right
import Derived.Laws.BytesArg
import Derived.Lib.SmallJoins
import Derived.Test.YtfeglchngekedaaRows
import Derived.WalkKit
import Derived.ProofKit
import Derived.OpenShut
import Derived.Deep.Slices
import Derived.ChangeSame
import Derived.ChangeSlices
import Derived.SliceStrings
import Derived.Below
import Derived.Carry
import Derived.Deep.DeepHandedRow
import Derived.Deep.Fields
import Derived.StillTailTactics
namespace Go.Proofs.Ytfeglchngekedaa
open Go.RowKit Go.Shelf Go.Maps

theorem strOfNums_bytes (l : List UInt8) : strOfNums (l.map fun b => (b.toNat : Int)) = ⟨l.toArray⟩ := by
  have h : (strOfNums (l.map fun b => (b.toNat : Int))).data.toList = l := by
    rw [strOfNums_data, List.map_map]
    conv => rhs; rw [← List.map_id l]
    apply List.map_congr_left
    intro b _
    simp
  have h2 : (strOfNums (l.map fun b => (b.toNat : Int))).data = l.toArray := by rw [← Array.toList_inj, h]
  calc strOfNums (l.map fun b => (b.toNat : Int)) = ⟨(strOfNums (l.map fun b => (b.toNat : Int))).data⟩ := rfl
    _ = ⟨l.toArray⟩ := by rw [h2]
theorem run_str_at (w : World) (g c : Nat) (l : List UInt8) (h : ∀ i, i < l.length → w.cell? ⟨g, i, none⟩ = some (.int .u8 ((l.map fun b => (b.toNat : Int)).getD i 0))) : (convert 22 9 (.slice (some ⟨g, 0, none⟩) l.length c)).run Try.prog w = .ok (.string ⟨l.toArray⟩) w := by
  have := run_convert_bytes_arg (P := Try.prog) w 22 5 Try.underlying22 Try.underlying5 g 0 l.length c (l.map fun b => (b.toNat : Int)) (by simp) (fun i hi => by rw [Nat.zero_add]; exact h i hi) 9 Try.underlying9
  rwa [strOfNums_bytes] at this
theorem run_str_of_row (w : World) (base : Nat) (v : Value) (l : List UInt8) (h : w.ownsRow base 5 1 v l.length (bytesV l)) : (convert 22 9 v).run Try.prog w = .ok (.string ⟨l.toArray⟩) w := by
  rcases h.2 with ⟨e, e2⟩ | ⟨g, cap, cur, e, _, _, _, _⟩
  · have hl : l = [] := by
      match l, e2 with
      | [], _ => rfl
      | _ :: _, e2 => cases e2
    subst hl
    rw [e]
    exact run_convert_bytes_nil (P := Try.prog) w 22 5 Try.underlying22 Try.underlying5 _ _ 9 Try.underlying9
  · subst e
    refine run_str_at w g cap l fun i hi => ?_
    rw [h.cellAt i (by omega)]
    simp [bytesV, List.getElem?_map, List.getElem?_eq_getElem hi, List.getD_eq_getElem?_getD]

theorem DiskAt.restrict {w : World} {F : Nat → Prop} {p : Nat} {s : DS} (h : DiskAt w F p s) : DiskAt w (fun k => F k ∧ k < w.heap.size) p s where
  blk := h.blk
  own := ⟨h.own, h.blk.lt⟩
  names := h.names
  safe := h.safe
  namesL := h.namesL
  safeL := h.safeL
  mnF := ⟨h.mnF, h.names.lt⟩
  msF := ⟨h.msF, h.safe.lt⟩
  mne := h.mne
  pend := h.pend
  pendF := fun k hk => ⟨h.pendF k hk, (h.pend.lt k hk).2⟩
  pendL := h.pendL
  flts := h.flts
  fltsF := fun k hk => ⟨h.fltsF k hk, (h.flts.lt k hk).2⟩
  file := fun g hg => by
    have f := h.file g hg
    exact ⟨f.blk, ⟨f.own, f.blk.lt⟩, f.row, fun k hk => ⟨f.rowF k hk, (f.row.lt k hk).2⟩, f.le, f.len⟩
  apart := h.apart
  nameOk := h.nameOk
  safeOk := h.safeOk
  pendOk := h.pendOk
  capB := h.capB
  rep := h.rep

theorem wake_crash {s : DS} {g : Nat} {cs : List Int} (hs : s.safe = [([97], g)]) (hp : s.pend = []) (hb : s.bytes g = [120, 121, 122]) (hk : s.kept g = 3) (hcs : cs = [])
    {w w' : World} {F : Nat → Prop} {p : Nat} {e : Ending} (h : CrashPost w F p s cs e w') :
    e = .returned (.tuple #[]) ∧ ∃ s', DiskAt w' (Gr F w) p s' ∧ Chg F w w' ∧ readS s' ⟨#[97]⟩ = ([120, 121, 122], 0) ∧ usedS s' = 3 ∧ s'.ops = s.ops := by
  subst hcs
  obtain ⟨he, dir, ss, keys, lst, mn, ms, hdir, hss, hkeys, hnm, htell, -, -, -, -, hD, hC⟩ := h
  have hdir' : dir = [([97], g)] := by rw [hdir, hp, hs]; simp [replay]
  rw [hdir'] at hss
  have hss' : ss = [[97]] := List.perm_singleton.1 hss
  have hkeys' : keys = [[97]] := by rw [hkeys, hss']; exact List.mergeSort_singleton _
  rw [hkeys', hdir'] at htell
  have hcr : crashL s.bytes s.kept [(([97] : Nm), g)] [[97]] [] = [([97], [120, 121, 122], 3)] := by
    have e1 : dget [(([97] : Nm), g)] [97] = some g := by simp [dget]
    unfold crashL
    rw [e1]
    simp only [Option.getD_some, hb, hk]
    simp [nextK, crashL]
  rw [List.tail_nil, hcr] at htell
  obtain ⟨e, rfl⟩ : ∃ x, lst = [x] := by
    match lst, htell with
    | [x], _ => exact ⟨x, rfl⟩
    | [], h => cases h
    | _ :: _ :: _, h => simp at h
  simp only [List.map_cons, List.map_nil, List.cons.injEq, and_true] at htell
  unfold NewF.tell at htell
  injection htell with h1 h2
  injection h2 with h2 h3
  have hl : laid dir [e] = [([97], e.g)] := by
    rw [hdir']
    show dput _ e.name e.g = _
    rw [h1]
    simp [dput, ddel, dins]
  have hby : (crashedS s dir [e] mn ms).bytes e.g = [120, 121, 122] := by
    show (([e].find? (fun x => x.g == e.g)).map (·.bs)).getD [] = _
    simp [h2]
  refine ⟨he, _, hD, hC, ?_, ?_, rfl⟩
  · unfold readS
    rw [show rightB ⟨#[97]⟩ = true by kernel_rfl]
    show (match dget (laid dir [e]) [97] with | none => _ | some g => _) = _
    rw [hl, show dget [(([97] : Nm), e.g)] [97] = some e.g by simp [dget]]
    show ((crashedS s dir [e] mn ms).bytes e.g, (0 : Int)) = _
    rw [hby]
  · unfold usedS
    show ((laid dir [e]).map _).sum = 3
    rw [hl]
    simp [hby]
/-- a disk on the way -/
structure Wk (s : DS) (g : Nat) (b : List UInt8) (k n : Nat) : Prop where
  st : s.stopped = false
  fl : s.flts = []
  nm : s.names = [([97], g)]
  by_ : s.bytes g = b
  kp : s.kept g = k
  op : s.ops = n
  cp : s.cap = 100
theorem right_a : rightB ⟨#[97]⟩ = true := by kernel_rfl
theorem beg0 {s : DS} (h1 : s.stopped = false) (h2 : s.flts = []) (ns : List ByteArray) (h : ns.all rightB = true) : beginS s ns = (0, 0) := by
  unfold beginS
  rw [if_neg (by simp [h1]), h2]
  simp only [struckF, List.find?_nil, Option.map_none]
  rw [if_pos h]
theorem beg1 {s : DS} (h1 : s.stopped = false) (h2 : s.flts = []) : beginS s [⟨#[97]⟩] = (0, 0) := beg0 h1 h2 _ (by simp [right_a])
theorem wk_create {w w' : World} {F : Nat → Prop} {p : Nat} {e : Ending} {mn ms : Nat} (h : CreatePost w F p (emptyS 100 mn ms) ⟨#[97]⟩ e w') :
    e = .returned (.int .i64 0) ∧ ∃ s' g, DiskAt w' (Gr F w) p s' ∧ Chg F w w' ∧ Wk s' g [] 0 1 := by
  obtain ⟨v, s', rfl, hD, hC, hs⟩ := h
  have hc : createC (emptyS 100 mn ms) ⟨#[97]⟩ = 0 := by
    unfold createC
    rw [beg1 rfl rfl]
    rfl
  rw [hc] at hs ⊢
  rcases hs with ⟨h1, -⟩ | ⟨-, -, -, g, v2, -, rfl⟩
  · exact absurd rfl h1
  · refine ⟨rfl, _, g, hD, hC, ⟨rfl, rfl, ?_, ?_, ?_, rfl, rfl⟩⟩
    · show dput [] [97] g = _; simp [dput, ddel, dins]
    · simp [created, upd]
    · simp [created, upd]
theorem wk_get (g : Nat) : dget [(([97] : Nm), g)] [97] = some g := by simp [dget]
theorem wk_append {w w' : World} {F : Nat → Prop} {p : Nat} {e : Ending} {s : DS} {g : Nat} (k : Wk s g [] 0 1) (h : AppendPost w F p s ⟨#[97]⟩ [120, 121, 122] e w') :
    e = .returned (.int .i64 0) ∧ ∃ s', DiskAt w' (Gr F w) p s' ∧ Chg F w w' ∧ Wk s' g [120, 121, 122] 0 2 := by
  obtain ⟨v, s', rfl, hD, hC, hs⟩ := h
  have hg : dget s.names [97] = some g := by rw [k.nm]; exact wk_get g
  have hb := beg1 k.st k.fl
  have hu : usedS s = 0 := by unfold usedS; rw [k.nm]; simp [k.by_]
  have hf : fitsS s ⟨#[97]⟩ 3 = 0 := by
    unfold fitsS
    show (if (dget s.names [97]).isSome = true then _ else _) = _
    rw [hg, hu, k.cp]
    rfl
  have ha : appendC s ⟨#[97]⟩ 3 = 0 := by unfold appendC; rw [hb, hf]; rfl
  have ht : takes s ⟨#[97]⟩ 3 = some 3 := by
    unfold takes tornS
    rw [hb, hf]
    rfl
  have e3 : ([120, 121, 122] : List UInt8).length = 3 := rfl
  rw [e3] at hs ⊢
  rw [ha]
  rcases hs with ⟨h1, -⟩ | ⟨m, g', v2, h1, h2, rfl⟩
  · rw [ht] at h1; cases h1
  · rw [ht] at h1
    injection h1 with h1
    have hg2 : dget s.names [97] = some g' := h2
    rw [hg] at hg2
    injection hg2 with hg2
    subst hg2
    refine ⟨rfl, _, hD, hC, ⟨k.st, ?_, k.nm, ?_, k.kp, ?_, k.cp⟩⟩
    · show leftF s.flts _ = []; rw [k.fl]; rfl
    · show upd s.bytes g (s.bytes g ++ _) g = _
      rw [upd_same, k.by_, ← h1]; rfl
    · show s.ops + 1 = 2; rw [k.op]
theorem wk_sync {w w' : World} {F : Nat → Prop} {p : Nat} {e : Ending} {s : DS} {g : Nat} (k : Wk s g [120, 121, 122] 0 2) (h : SyncPost w F p s ⟨#[97]⟩ e w') :
    e = .returned (.int .i64 0) ∧ ∃ s', DiskAt w' (Gr F w) p s' ∧ Chg F w w' ∧ Wk s' g [120, 121, 122] 3 3 := by
  obtain ⟨v, s', rfl, hD, hC, hs⟩ := h
  have hg : dget s.names [97] = some g := by rw [k.nm]; exact wk_get g
  have hb := beg1 k.st k.fl
  have ha : syncC s ⟨#[97]⟩ = 0 := by
    unfold syncC
    rw [hb]
    show (if (0 : Int) = 0 then (if (dget s.names [97]).isSome = true then _ else _) else _) = _
    rw [hg]
    rfl
  rw [ha] at hs ⊢
  rcases hs with ⟨h1, -⟩ | ⟨-, g', h2, rfl⟩
  · exact absurd rfl h1
  · have hg2 : dget s.names [97] = some g' := h2
    rw [hg] at hg2
    injection hg2 with hg2
    subst hg2
    refine ⟨rfl, _, hD, hC, ⟨k.st, ?_, k.nm, k.by_, ?_, ?_, k.cp⟩⟩
    · show leftF s.flts _ = []; rw [k.fl]; rfl
    · show upd s.kept g (s.bytes g).length g = _
      rw [upd_same, k.by_]; rfl
    · show s.ops + 1 = 3; rw [k.op]
theorem wk_syncdir {w w' : World} {F : Nat → Prop} {p : Nat} {e : Ending} {s : DS} {g : Nat} (k : Wk s g [120, 121, 122] 3 3) (h : SyncDirPost w F p s e w') :
    e = .returned (.int .i64 0) ∧ ∃ s', DiskAt w' (Gr F w) p s' ∧ Chg F w w' ∧ Wk s' g [120, 121, 122] 3 4 ∧ s'.safe = [([97], g)] ∧ s'.pend = [] := by
  obtain ⟨v, s', rfl, hD, hC, hs⟩ := h
  rw [beg0 k.st k.fl [] rfl] at hs ⊢
  rcases hs with ⟨h1, -⟩ | ⟨-, m, rfl⟩
  · exact absurd rfl h1
  · refine ⟨rfl, _, hD, hC, ⟨k.st, ?_, k.nm, k.by_, k.kp, ?_, k.cp⟩, k.nm, rfl⟩
    · show leftF s.flts _ = []; rw [k.fl]; rfl
    · show s.ops + 1 = 4; rw [k.op]

set_option maxRecDepth 100000 in
set_option maxHeartbeats 6400000 in
theorem wakes_any (w : World) : Calls Try.prog 16 #[] w fun e w' => e = .returned (.bool true) ∧ Below w.heap.size w w' := by
  go_enter Try.func16, Try.ntmps16
  go_wp2_with fail
  refine (new_any 100 w (by omega)).mono ?_
  rintro e w1 ⟨p, mn, ms, rfl, hD1, hb1⟩
  have HD1 := Lib.hid hD1
  have HB1 := Lib.hid hb1
  clear hD1 hb1
  go_wp2_with fail
  refine (create_any w1 _ p _ ⟨#[97]⟩ HD1.out (by decide) (by decide) (by show (0 : Nat) ≤ _; omega) (Nat.zero_le _)).mono ?_
  rintro e w2 hp2
  obtain ⟨rfl, s2, g, hD2, hC2, k2⟩ := wk_create hp2
  have HB2 := Lib.hid (hC2.toBelow (B := w.heap.size) (fun k hk => hk) HB1.out.size)
  have HD2 := Lib.hid hD2
  have K2 := Lib.hid k2
  have hcv := Lib.run_convert_bytes_const (P := Try.prog) w2 22 5 #[.int .u8 120, .int .u8 121, .int .u8 122] 3 3 Try.underlying22 Try.underlying5
  clear hp2 hD2 hC2 k2
  go_wp2_with fail
  obtain ⟨w3, hw3⟩ : ∃ w3, w2.alloc (.cells #[.int .u8 120, .int .u8 121, .int .u8 122] 5 (3, 4)) = w3 := ⟨_, rfl⟩
  have hs3 : w3.heap.size = w2.heap.size + 1 := by rw [← hw3]; simp
  have hs2 := HB2.out.size
  have hs1 := HB1.out.size
  have hD3 := HD2.out.restrict.keep (w' := w3) (fun k _ hk => by rw [← hw3]; exact Below.heap_alloc _ _ _ hk) (fun _ h => h)
  have hR3 : Reads w3 w3.heap.size 1 (some ⟨w2.heap.size, 0, none⟩) ([120, 121, 122] : List UInt8).length (bytesV [120, 121, 122]) := by
    refine ⟨rfl, fun _ => ⟨_, rfl, by show w2.heap.size < _; omega, fun j u hu => ?_⟩⟩
    have e : (⟨w2.heap.size, 0, none⟩ : Addr).add j = ⟨w2.heap.size, j, none⟩ := by unfold Addr.add; split <;> simp_all
    rw [e, ← hw3, World.cell?_alloc_mark, ← Array.getElem?_toList]
    exact hu
  have HB3 := Lib.hid (show Below w.heap.size w w3 by rw [← hw3]; exact (HB1.out.trans HB2.out).alloc (Nat.le_trans hs1 hs2) _)
  have HD3 := Lib.hid hD3
  have HR3 := Lib.hid hR3
  rw [hw3]
  clear hw3 hD3 hR3 hcv
  refine (append_any w3 _ p s2 ⟨#[97]⟩ _ 3 [120, 121, 122] HD3.out HR3.out (fun _ ad e => by injection e with e; rw [← e]; rintro ⟨_, h⟩; exact absurd h (Nat.lt_irrefl _)) (by decide) (by decide) (by decide) (by decide) (by rw [K2.out.op]; omega) (by rw [K2.out.fl]; exact Nat.zero_le _)).mono ?_
  rintro e w4 hp4
  obtain ⟨rfl, s4, hD4, hC4, k4⟩ := wk_append K2.out hp4
  have hin4 : ∀ k, Gr (fun k => Gr (fun k => w.heap.size ≤ k) w1 k ∧ k < w2.heap.size) w3 k → w.heap.size ≤ k := fun k hk => by
    rcases hk with ⟨h | h, -⟩ | h <;> omega
  have HD4 := Lib.hid (hD4.inF hin4)
  have HB4 := Lib.hid (HB3.out.trans (hC4.toBelow (B := w.heap.size) (fun k hk => hin4 k (.inl hk)) (by omega)))
  have K4 := Lib.hid k4
  have hs4 := hC4.size
  clear hp4 hD4 hC4 k4 hin4
  go_wp2_with fail
  refine (sync_any w4 _ p s4 ⟨#[97]⟩ HD4.out (by decide) (by decide) (by rw [K4.out.op]; omega) (by rw [K4.out.fl]; exact Nat.zero_le _)).mono ?_
  rintro e w5 hp5
  obtain ⟨rfl, s5, hD5, hC5, k5⟩ := wk_sync K4.out hp5
  have HD5 := Lib.hid (hD5.inF (G := fun k => w.heap.size ≤ k) (fun k hk => by rcases hk with h | h <;> omega))
  have HB5 := Lib.hid (HB4.out.trans (hC5.toBelow (B := w.heap.size) (fun k hk => hk) (by omega)))
  have K5 := Lib.hid k5
  have hs5 := hC5.size
  clear hp5 hD5 hC5 k5
  go_wp2_with fail
  refine (syncdir_any w5 _ p s5 HD5.out (by rw [K5.out.op]; omega) (by rw [K5.out.fl]; exact Nat.zero_le _)).mono ?_
  rintro e w6 hp6
  obtain ⟨rfl, s6, hD6, hC6, k6, hsafe, hpend⟩ := wk_syncdir K5.out hp6
  have HD6 := Lib.hid (hD6.inF (G := fun k => w.heap.size ≤ k) (fun k hk => by rcases hk with h | h <;> omega))
  have HB6 := Lib.hid (HB5.out.trans (hC6.toBelow (B := w.heap.size) (fun k hk => hk) (by omega)))
  have K6 := Lib.hid k6
  have HSF := Lib.hid hsafe
  have HPD := Lib.hid hpend
  have hs6 := hC6.size
  clear hp6 hD6 hC6 k6 hsafe hpend
  go_wp2_with fail
  refine (crash_any w6 _ p s6 none 0 [] HD6.out ⟨rfl, fun h => absurd h (by simp)⟩ (Nat.le_refl _) (by rw [K6.out.op]; omega) (by rw [HSF.out, HPD.out, K6.out.op]; simp)).mono ?_
  rintro e w7 hp7
  obtain ⟨rfl, s7, hD7, hC7, hread, hused, hops⟩ := wake_crash HSF.out HPD.out K6.out.by_ K6.out.kp rfl hp7
  have HD7 := Lib.hid (hD7.inF (G := fun k => w.heap.size ≤ k) (fun k hk => by rcases hk with h | h <;> omega))
  have HB7 := Lib.hid (HB6.out.trans (hC7.toBelow (B := w.heap.size) (fun k hk => hk) (by omega)))
  have HRD := Lib.hid hread
  have HUS := Lib.hid hused
  have HOP := Lib.hid hops
  have hs7 := hC7.size
  clear hp7 hD7 hC7 hread hused hops
  go_wp2_with fail
  refine (read_any w7 _ p s7 ⟨#[97]⟩ HD7.out (by decide) (by decide) (by rw [HOP.out, K6.out.op]; omega)).mono ?_
  rintro e w8 ⟨v, rfl, hrow, hb8⟩
  rw [HRD.out] at hrow ⊢
  obtain ⟨A8, d8, rfl⟩ := own_slice hrow
  have hcs : (convert 22 9 (.slice A8 3 d8)).run Try.prog w8 = .ok (.string ⟨#[120, 121, 122]⟩) w8 := run_str_of_row w8 _ _ [120, 121, 122] hrow
  have HD8 := Lib.hid (HD7.out.keep (fun k _ hk => hb8.block k hk) (fun _ h => h))
  have HB8 := Lib.hid (HB7.out.trans (hb8.mono (by omega)))
  have HROW := Lib.hid hrow
  clear hrow hb8
  go_wp2_with fail
  refine (used_any w8 _ p s7 HD8.out (by rw [HOP.out, K6.out.op]; omega)).mono ?_
  rintro e w9 ⟨rfl, hb9⟩
  rw [HUS.out]
  have HB9 := Lib.hid (HB8.out.trans (hb9.mono (by have := HB8.out.size; omega)))
  clear hb9
  go_wp2
  go_ret
  exact ⟨rfl, HB9.out⟩
end Go.Proofs.Ytfeglchngekedaa
namespace Go.Proofs.Ytfeglchngekedaa
open Go.ChangeShapes Go.WideShapes Go.ChangeAt Go.RowKit Go.Deep

section
variable {H : Type} {enc : TypeId × Value → H} {P : Program}
theorem post_of_below {f : Func} {s : ChangeSpec} {apart fresh handsOn again : Bool} {W W' : World} {args : Array Value} {v : Value} {ds gs : List (DataW H)} {before pa pv : List MemPlace}
    (hW : DataW.Whole enc P f.params.toList s.vars apart W args.toList ds gs before)
    (hres : ∀ (b : Nat) (sp : Nat → Bool) (hd : Bool), DataW.TrodAll enc P W' b sp hd f.resultTypes.toList (v.resultList f.resultTypes.size) (s.fn H (ds ++ gs)).results [])
    (hargs : ∀ sp : Nat → Bool, (∀ p ∈ before, sp p.block = true) → DataW.TrodAll enc P W' 0 sp true f.params.toList args.toList (s.fn H (ds ++ gs)).args pa)
    (hvars : ∀ sp : Nat → Bool, (∀ p ∈ before, sp p.block = true) → DataW.TrodVars enc P W' sp s.vars (s.fn H (ds ++ gs)).vars pv)
    (hps : before = pa ++ pv) (hb : Below W.heap.size W W')
    (hok : ∀ (j : Nat) (t : TypeId) (r : Value), f.resultTypes[j]? = some t → (v.resultList f.resultTypes.size)[j]? = some r → Value.okWide P W' .any 0 t r) :
    s.post enc P f apart fresh handsOn again W args v W' := by
  have hlt : ∀ p ∈ before, p.block < W.heap.size := fun p hp => hW.lt p hp
  have hold : ∀ p ∈ before, (fun b => decide (b < W.heap.size)) p.block = true := fun p hp => by simpa using hlt p hp
  refine ⟨ds, gs, before, [], pa, pv, hW, hres _ _ _, hargs _ hold, hvars _ hold, World.keptBut_mono (fun p hp => ⟨hp, ?_⟩) (hb.frame (· ∈ before)), fun _ => ?_⟩
  · rw [hps, List.mem_append] at hp
    exact Or.inr hp
  · obtain ⟨_, _, _, _, _, hz, hn⟩ := hW
    refine ⟨hok, _, _, ([] ++ pa) ++ pv, ⟨[] ++ pa, pv, trodAll_append (hargs _ (fun _ _ => rfl)) (hres _ _ _), hvars _ (fun _ _ => rfl), rfl, ?_, ?_⟩, ?_⟩
    · intro b off hp
      have hin : MemPlace.cell b off ∈ before := by rw [hps]; simpa using hp
      rw [hb.frozen (hlt _ hin)]
      exact hz b off hin
    · intro ha
      have := hn ha
      rw [hps] at this
      simpa using this
    · intro p hp _
      rw [hps]
      simpa using hp
end

theorem own : ownKnob Try.prog.godebug = none := by kernel_rfl
theorem cells3 : Try.prog.cellsOf 3 = 1 := by kernel_rfl
theorem cells5 : Try.prog.cellsOf 5 = 1 := by kernel_rfl
theorem cells9 : Try.prog.cellsOf 9 = 1 := by kernel_rfl

set_option maxRecDepth 100000 in
/-- an argument that is a row of numbers, opened -/
theorem open_nums {H : Type} {enc : TypeId × Value → H} {W : World} {base b0 : Nat} {sp : Nat → Bool} {held : Bool} {r : Reach} {v : Value} {d : DataW H} {ps : List MemPlace} {t e : TypeId} {k : IntKind}
    (ht : Try.prog.underlying t = some (.slice e)) (he : Try.prog.underlying e = some (.int k)) (hc1 : Try.prog.cellsOf e = 1)
    (hv : Value.okWide Try.prog W r b0 t v) (h : DataW.Trod enc Try.prog W base sp held t v d ps) :
    ∃ (A : Option Addr) (n cap : Nat) (l : List Int), v = .slice A n cap ∧ n ≤ cap ∧ n ≤ maxLen ∧ Reads W W.heap.size 1 A n (l.map (Value.int k)) ∧ ∀ x ∈ l, (Lit.int k x).wf = true := by
  obtain ⟨a, len, cap, rfl⟩ := okWide_slice ht hv
  obtain ⟨fuel, hf⟩ := h
  rcases open_ints ht he hc1 hf with ⟨hcs, _⟩ | ⟨a', len', cap', zs, hcs, _, hl, hm, hz, _, hc, hwf⟩
  · simp only [Value.cells, List.cons.injEq, and_true] at hcs
    cases hcs
    exact ⟨none, 0, 0, [], rfl, Nat.le_refl _, Nat.zero_le _, Reads.none_, (fun x hx => by cases hx)⟩
  · simp only [Value.cells, List.cons.injEq, and_true] at hcs
    cases hcs
    have hlz : len ≤ zs.length := by rw [hz]; split <;> omega
    refine ⟨some a', len, cap, zs.take len, rfl, hl, Nat.le_trans hl hm, ⟨by simp; omega, fun h0 => ⟨a', rfl, ?_, fun j u hu => ?_⟩⟩, fun x hx => hwf x (List.mem_of_mem_take hx)⟩
    · have := World.block_lt_of_cell? W _ (hc 0 (by omega))
      rwa [block_of_add] at this
    · rw [List.getElem?_map] at hu
      obtain ⟨x, hx, rfl⟩ := Option.map_eq_some_iff.1 hu
      have hj : j < len := by have := (List.getElem?_eq_some_iff.1 hx).1; simp at this; omega
      rw [hc j (by omega), List.getD]
      rw [List.getElem?_take_of_lt hj] at hx
      rw [hx]
      rfl
set_option maxRecDepth 100000 in
/-- an argument that is a row of strings, opened -/
theorem open_names {H : Type} {enc : TypeId × Value → H} {W : World} {base b0 : Nat} {sp : Nat → Bool} {held : Bool} {r : Reach} {v : Value} {d : DataW H} {ps : List MemPlace}
    (hv : Value.okWide Try.prog W r b0 36 v) (h : DataW.Trod enc Try.prog W base sp held 36 v d ps) :
    ∃ (A : Option Addr) (n cap : Nat) (l : List ByteArray), v = .slice A n cap ∧ n ≤ cap ∧ n ≤ maxLen ∧ Reads W W.heap.size 1 A n (l.map Value.string) ∧ ∀ x ∈ l, x.size ≤ maxLen := by
  obtain ⟨a, len, cap, rfl⟩ := okWide_slice Try.underlying36 hv
  obtain ⟨fuel, hf⟩ := h
  rcases open_strings Try.underlying36 Try.underlying9 cells9 hf with ⟨hcs, _⟩ | ⟨a', len', cap', zs, hcs, _, hl, hm, hz, _, hc, hwf⟩
  · simp only [Value.cells, List.cons.injEq, and_true] at hcs
    cases hcs
    exact ⟨none, 0, 0, [], rfl, Nat.le_refl _, Nat.zero_le _, Reads.none_, (fun x hx => by cases hx)⟩
  · simp only [Value.cells, List.cons.injEq, and_true] at hcs
    cases hcs
    have hlz : len ≤ zs.length := by rw [hz]; split <;> omega
    refine ⟨some a', len, cap, zs.take len, rfl, hl, Nat.le_trans hl hm, ⟨by simp; omega, fun h0 => ⟨a', rfl, ?_, fun j u hu => ?_⟩⟩, fun x hx => hwf x (List.mem_of_mem_take hx)⟩
    · have := World.block_lt_of_cell? W _ (hc 0 (by omega))
      rwa [block_of_add] at this
    · rw [List.getElem?_map] at hu
      obtain ⟨x, hx, rfl⟩ := Option.map_eq_some_iff.1 hu
      have hj : j < len := by have := (List.getElem?_eq_some_iff.1 hx).1; simp at this; omega
      rw [hc j (by omega), List.getD]
      rw [List.getElem?_take_of_lt hj] at hx
      rw [hx]
      rfl

theorem laidOut : laidOutB Try.prog = true := by kernel_rfl

theorem all_stays {H : Type} {enc : TypeId × Value → H} {W W' : World} (hb : Below W.heap.size W W') {sp : Nat → Bool} : ∀ {ts : List TypeId} {vs : List Value} {ds : List (DataW H)} {ps : List MemPlace},
    (∀ t ∈ ts, Try.prog.readableRec t = true ∧ t < Try.prog.types.size) → DataW.TrodAll enc Try.prog W 0 (fun _ => true) true ts vs ds ps → (∀ p ∈ ps, p.block < W.heap.size) → (∀ p ∈ ps, sp p.block = true) →
    DataW.TrodAll enc Try.prog W' 0 sp true ts vs ds ps
  | [], [], [], _, _, h, _, _ => h
  | _ :: _, _ :: _, _ :: _, _, hT, ⟨p, q, h1, h2, e⟩, hl, hs =>
    ⟨p, q, WideElems.Trod_stays laidOut (hT _ List.mem_cons_self).1 (hT _ List.mem_cons_self).2 h1 (fun x hx => hb.same (hl x (by rw [e]; exact List.mem_append_left _ hx))) (fun x hx => hs x (by rw [e]; exact List.mem_append_left _ hx)),
      all_stays hb (fun t ht => hT t (List.mem_cons_of_mem _ ht)) h2 (fun x hx => hl x (by rw [e]; exact List.mem_append_right _ hx)) (fun x hx => hs x (by rw [e]; exact List.mem_append_right _ hx)), e⟩

set_option maxRecDepth 100000 in
/-- a law that answers true and leaves alone what lay before -/
theorem shut_law {H : Type} {enc : TypeId × Value → H} {fn : Func} {s : ChangeSpec} {W W' : World} {args : Array Value} {ds : List (DataW H)} {before : List MemPlace} (hv : s.vars = []) (hr : fn.resultTypes = #[4])
    (hspec : s.fn H (ds ++ []) = { results := [.lit (.bool true)], args := ds }) (hvs : (s.fn H (ds ++ [])).vars = []) (hW : DataW.Whole enc Try.prog fn.params.toList s.vars false W args.toList ds [] before)
    (hA : DataW.TrodAll enc Try.prog W 0 (fun _ => true) true fn.params.toList args.toList ds before) (hT : ∀ t ∈ fn.params.toList, Try.prog.readableRec t = true ∧ t < Try.prog.types.size) (hb : Below W.heap.size W W') :
    s.post enc Try.prog fn false true false false W args (.bool true) W' := by
  have hlt : ∀ p ∈ before, p.block < W.heap.size := fun p hp => hW.lt p hp
  refine post_of_below (pa := before) (pv := []) hW ?_ ?_ ?_ (by simp) hb ?_
  · intro b sp hd
    rw [hr, hspec]
    exact trodAll_cons_mk (shut_bool Try.underlying4 _) trodAll_mk0
  · intro sp hsp
    rw [hspec]
    exact all_stays hb hT hA hlt hsp
  · intro sp _
    rw [hv, hvs]
    rfl
  · exact ok_one hr rfl (okWide_bool_mk Try.underlying4 _)
end Go.Proofs.Ytfeglchngekedaa
namespace Go.Proofs.Ytfeglchngekedaa
open Go.RowKit Go.Shelf Go.Maps

def changed (s : DS) (c : Ch) (v : Value) : DS := { s with names := doL s.names c, pend := s.pend ++ [c], vp := v }
theorem live_changed {s : DS} {c : Ch} {v : Value} (hc : c.file = none) {g : Nat} (h : live (changed s c v) g) : live s g := by
  rcases h with ⟨y, hy, rfl⟩ | ⟨y, hy, rfl⟩ | ⟨c', hc', he⟩
  · rcases mem_doL hy with ⟨z, hz, e⟩ | e
    · exact .inl ⟨z, hz, e⟩
    · rw [hc] at e; cases e
  · exact .inr (.inl ⟨y, hy, rfl⟩)
  · rcases List.mem_append.1 hc' with hc' | hc'
    · exact .inr (.inr ⟨c', hc', he⟩)
    · rw [List.mem_singleton.1 hc', hc] at he; cases he
theorem DiskAt.changed {w w' : World} {F : Nat → Prop} {p : Nat} {s : DS} (h : DiskAt w F p s) (c : Ch) (v : Value) (hc : c.file = none) (hok : okC s.names c)
    (hk : ∀ k, k < w.heap.size → k ≠ p → k ≠ s.mn → s.vp.ownBlock ≠ some k → w'.heap[k]? = w.heap[k]?)
    (hb : Blk w' p 68 #[.int .i64 s.cap, .int .i64 (s.ops : Int), .map (some s.mn), .map (some s.ms), v, s.vf, .bool s.stopped, .int .i64 s.stop])
    (hd : DirAt w' s.mn (doL s.names c).length (doL s.names c))
    (hv : w'.ownsRow 0 75 3 v (s.pend.length + 1) (chsV (s.pend ++ [c]))) (hvF : v.ownBlock = s.vp.ownBlock ∨ (∀ k, v.ownBlock = some k → w.heap.size ≤ k))
    (hl1 : (doL s.names c).length ≤ s.ops) (hl2 : s.pend.length + 1 ≤ s.ops) (hn : nmOk c.from_ ∧ nmOk c.name) : DiskAt w' (Gr F w) p (changed s c v) where
  blk := hb
  own := .inl h.own
  names := hd
  safe := h.safe.keep (hk _ h.safe.lt (h.safe.blk_ne h.blk) (Ne.symm h.mne) (h.safe.own_ne h.pend))
  namesL := hl1
  safeL := h.safeL
  mnF := .inl h.mnF
  msF := .inl h.msF
  mne := h.mne
  pend := by
    have e : (s.pend ++ [c]).length = s.pend.length + 1 := by simp
    show w'.ownsRow 0 75 3 v (s.pend ++ [c]).length (chsV (s.pend ++ [c]))
    rw [e]; exact hv
  pendF := fun k hk' => by
    rcases hvF with e | e
    · exact .inl (h.pendF k (by rw [← e]; exact hk'))
    · exact .inr (e k hk')
  pendL := by show (s.pend ++ [c]).length ≤ s.ops; simp; omega
  flts := own_keep h.flts fun k hk' hlt => hk k hlt (fun e => own_blk_ne h.flts h.blk (by decide) (by rw [← e]; exact hk')) (fun e => h.names.own_ne h.flts (by rw [← e]; exact hk'))
    (own_ne2 h.flts h.pend (by decide) hk')
  fltsF := fun k hk' => .inl (h.fltsF k hk')
  file := fun x hx => by
    have hf' := h.file x (live_changed hc hx)
    refine ⟨?_, .inl hf'.own, ?_, fun k hk' => .inl (hf'.rowF k hk'), hf'.le, hf'.len⟩
    · exact (hk x hf'.blk.lt (Blk.ne_ hf'.blk h.blk (by decide)) (fun e => h.names.blk_ne hf'.blk e.symm) (own_blk_ne h.pend hf'.blk (by decide))).trans hf'.blk
    · exact own_keep hf'.row fun k hk' hlt => hk k hlt (fun e => own_blk_ne hf'.row h.blk (by decide) (by rw [← e]; exact hk')) (fun e => h.names.own_ne hf'.row (by rw [← e]; exact hk'))
        (own_ne2 hf'.row h.pend (by decide) hk')
  apart := fun x y hx hy hne => h.apart x y (live_changed hc hx) (live_changed hc hy) hne
  nameOk := nameOk_doL h.nameOk hn
  safeOk := h.safeOk
  pendOk := fun c' hc' => by
    rcases List.mem_append.1 hc' with hc' | hc'
    · exact h.pendOk c' hc'
    · rw [List.mem_singleton.1 hc']; exact hn
  capB := h.capB
  rep := h.rep.snoc c hok rfl

/-- the end of a walk that turned the directory and wrote the change down -/
theorem turn_end {w w0 w2 w3 w5 w6 : World} {F : Nat → Prop} {p : Nat} {s : DS} {v : Value} {c : Ch} {A4 A5 : Option Addr} {d4 d5 : Nat} {o : Obj} (h0 : DiskAt w0 F p s) (hD : DiskAt w2 (Gr F w) p (begun s v)) (hC : Chg F w w2) (hsz : w.heap.size ≤ w2.heap.size) (hc : c.file = none)
    (hok : okC s.names c) (hn : nmOk c.from_ ∧ nmOk c.name) (hB3 : Below w2.heap.size w2 w3) (hg5 : w3.grownBy w5 (some s.mn)) (hd5 : DirAt w5 s.mn (doL s.names c).length (doL s.names c)) (hvp : s.vp = .slice A4 s.pend.length d4)
    (hb6 : Blk w6 p 68 #[.int .i64 s.cap, .int .i64 ((begun s v).ops : Int), .map (some s.mn), .map (some s.ms), s.vp, v, .bool s.stopped, .int .i64 s.stop])
    (hw6 : w6.ownsRow 0 75 3 (.slice A5 (s.pend.length + 1) d5) (s.pend.length + 1) (chsV s.pend ++ chV c)) (hg6 : (w5.alloc o).grownBy w6 (Value.slice A4 s.pend.length d4).ownBlock)
    (hl6 : (Value.slice A5 (s.pend.length + 1) d5).ownBlock = (Value.slice A4 s.pend.length d4).ownBlock ∨ (Value.slice A5 (s.pend.length + 1) d5).ownBlock = some (w5.alloc o).heap.size) :
    DiskAt (w6.setCell ⟨p, 4, none⟩ (.slice A5 (s.pend.length + 1) d5)) (Gr F w) p (changed (begun s v) c (.slice A5 (s.pend.length + 1) d5)) ∧ Chg F w (w6.setCell ⟨p, 4, none⟩ (.slice A5 (s.pend.length + 1) d5)) := by
  have hs3 := hB3.size
  have hs5 := hg5.size
  have hs6 := hg6.size
  rw [World.size_alloc] at hs6
  have hpl : p < w2.heap.size := hD.blk.lt
  have hml : s.mn < w2.heap.size := hD.names.lt
  have hmp : s.mn ≠ p := hD.names.blk_ne hD.blk
  have hnv : (Value.slice A4 s.pend.length d4).ownBlock ≠ some s.mn := by
    have := hD.names.own_ne hD.pend
    rw [show (begun s v).vp = .slice A4 s.pend.length d4 from hvp] at this
    exact this
  constructor
  · refine (hD.changed (w' := w6.setCell ⟨p, 4, none⟩ (.slice A5 (s.pend.length + 1) d5)) c _ hc hok ?_ (hb6.set_ 4 _) ?_ ?_ ?_ ?_ ?_ hn).inF (fun k hk => Gr.mono hsz k hk)
    · intro k hk h1 h2 h3
      have h3' : (Value.slice A4 s.pend.length d4).ownBlock ≠ some k := by rw [← hvp]; exact h3
      have h2' : k ≠ s.mn := h2
      rw [Below.heap_setCell _ _ _ _ h1, hg6.block k (by rw [World.size_alloc]; omega) (Ne.symm h3'), Below.heap_alloc _ _ _ (by omega), hg5.block k (by omega) (by simpa using h2'), hB3.block k hk]
    · refine hd5.keep ?_
      rw [Below.heap_setCell _ _ _ _ hmp, hg6.block _ (by rw [World.size_alloc]; omega) (Ne.symm hnv), Below.heap_alloc _ _ _ (by omega)]
    · have e : chsV (s.pend ++ [c]) = chsV s.pend ++ chV c := chsV_snoc _ _
      show (w6.setCell _ _).ownsRow 0 75 3 _ (s.pend.length + 1) (chsV (s.pend ++ [c]))
      rw [e]
      exact ownsRow_setCell_other hw6 (own_blk_ne hw6 hb6 (by decide)) _
    · rcases hl6 with e | e
      · exact .inl (by show _ = s.vp.ownBlock; rw [hvp]; exact e)
      · refine .inr fun k hk => ?_
        rw [e] at hk
        injection hk with hk
        rw [World.size_alloc] at hk
        omega
    · have h1 := len_doL s.names c
      have h2 := h0.namesL
      show (doL s.names c).length ≤ s.ops + 1
      omega
    · have h2 := h0.pendL
      show s.pend.length + 1 ≤ s.ops + 1
      omega
  · have c3 := hC.below hB3 hsz
    have c4 := c3.grown hg5 (fun g hg => by cases hg; exact hD.mnF)
    have c5 := (c4.alloc o).grown hg6 (fun g hg => hD.pendF g (by rw [show (begun s v).vp = .slice A4 s.pend.length d4 from hvp]; exact hg))
    exact c5.setCell (p := ⟨p, 4, none⟩) hD.own _

def removeC (s : DS) (nm : ByteArray) : Int := if (beginS s [nm]).2 = 0 then (if (dget s.names nm.data.toList).isSome then 0 else 3) else (beginS s [nm]).2
def RemovePost (w : World) (F : Nat → Prop) (p : Nat) (s : DS) (nm : ByteArray) (e : Ending) (w' : World) : Prop :=
  ∃ v s', e = .returned (.int .i64 (removeC s nm)) ∧ DiskAt w' (Gr F w) p s' ∧ Chg F w w' ∧
    ((removeC s nm ≠ 0 ∧ s' = begun s v) ∨ (removeC s nm = 0 ∧ rightB nm = true ∧ (dget s.names nm.data.toList).isSome = true ∧ ∃ v2, s' = changed (begun s v) ⟨nm.data.toList, [], none⟩ v2))

set_option maxRecDepth 100000 in
set_option maxHeartbeats 6400000 in
theorem remove_any (w : World) (F : Nat → Prop) (p : Nat) (s : DS) (nm : ByteArray) (h : DiskAt w F p s) (hnm : nm.size ≤ 9223372036854775807) (hnm2 : nm.size ≤ maxLen)
    (ho : s.ops ≤ 999999) (hf : s.flts.length ≤ 100000) : Calls Try.prog 52 #[.pointer (some ⟨p, 0, none⟩), .string nm] w (RemovePost w F p s nm) := by
  obtain ⟨i0, hi, hz0, hz1, hz2⟩ := info_parts info75
  have HI := Lib.hid hi
  have HZ0 := Lib.hid hz0
  have HZ1 := Lib.hid hz1
  have HZ2 := Lib.hid hz2
  have hp := h.lt
  have H := Lib.hid h
  clear h hi hz0 hz1 hz2
  go_enter Try.func52, Try.ntmps52
  go_wp2_with fail
  refine (begin1_any w F p s nm H.out hnm ho hf).mono ?_
  rintro e w2 ⟨v, rfl, hD2, hc2, hs2⟩
  have HD := Lib.hid hD2
  have HC := Lib.hid hc2
  clear hD2 hc2
  obtain ⟨kd, why, hk⟩ : ∃ kd why, beginS s [nm] = (kd, why) := ⟨_, _, rfl⟩
  rw [hk]
  have HK := Lib.hid hk
  clear hk
  by_cases hwy : why = 0
  · subst hwy
    have hrt := beginS_right (s := s) (nm := nm) (by rw [HK.out])
    have HRT := Lib.hid hrt
    have c2 : w2.cell? ⟨p, 2, none⟩ = some (.map (some s.mn)) := HD.out.blk.cell 2
    have hlook : (Instr.lookup 64 (.map (some s.mn)) (.string nm) false).run Try.prog w2 = .ok (ptrV (dget s.names nm.data.toList)) w2 := HD.out.names.look nm hnm2
    clear hrt
    cases hd : dget s.names nm.data.toList with
    | none =>
      have HDG := Lib.hid hd
      rw [hd] at hlook
      simp only [ptrV] at hlook
      clear hd
      go_wp2
      go_ret
      have e4 : removeC s nm = 3 := by
        unfold removeC
        rw [HK.out, if_pos rfl, HDG.out]
        rfl
      exact ⟨v, _, by rw [e4]; rfl, HD.out, HC.out, .inl ⟨by rw [e4]; decide, rfl⟩⟩
    | some g =>
      have HDG := Lib.hid hd
      rw [hd] at hlook
      simp only [ptrV] at hlook
      clear hd
      go_upto_region 7 with fail
      obtain ⟨w3, hw3⟩ : ∃ w3, w2.alloc (.cells #[.string nm, .string ⟨#[]⟩, .pointer none] 75) = w3 := ⟨_, rfl⟩
      have hs3 : w3.heap.size = w2.heap.size + 1 := by rw [← hw3]; simp
      have hb3 : Below w2.heap.size w2 w3 := by rw [← hw3]; exact (Below.refl _ w2).alloc (Nat.le_refl _) _
      have bX : Blk w3 w2.heap.size 75 #[.string nm, .string ⟨#[]⟩, .pointer none] := by rw [← hw3]; exact Blk.new w2 75 _
      have hN3 : DirAt w3 s.mn s.names.length s.names := HD.out.names.keep (hb3.block _ HD.out.names.lt)
      have e2 : w3.cell? ⟨p, 2, none⟩ = some (.map (some s.mn)) := (hb3.cell HD.out.blk.lt).trans c2
      have x0 : w3.cell? ⟨w2.heap.size, 0, none⟩ = some (.string nm) := bX.cell 0
      have x1 : w3.cell? ⟨w2.heap.size, 1, none⟩ = some (.string ⟨#[]⟩) := bX.cell 1
      have x2 : w3.cell? ⟨w2.heap.size, 2, none⟩ = some (.pointer none) := bX.cell 2
      have hnv : nmV nm.data.toList = .string nm := by simp [nmV]
      have hnl := HD.out.namesL
      have hol : (begun s v).ops = s.ops + 1 := rfl
      have hno : nmOk nm.data.toList := by unfold nmOk; have := rightB_size HRT.out; rw [Array.length_toList]; exact this
      have HDO := Lib.hid (show Calls Try.prog 37 #[.agg #[.string nm, .string ⟨#[]⟩, .pointer none], .map (some s.mn)] w3.drew fun e w' => e = .returned (.tuple #[]) ∧ DirAt w' s.mn (doL s.names ⟨nm.data.toList, [], none⟩).length (doL s.names ⟨nm.data.toList, [], none⟩) ∧ w3.drew.grownBy w' (some s.mn) from by
        have := do_any w3.drew s.mn s.names ⟨nm.data.toList, [], none⟩ hN3 hno (Nat.zero_le _) (by have h1 : s.names.length ≤ (begun s v).ops := hnl; omega) (fun _ h => absurd rfl h)
        rw [hnv] at this
        exact this)
      have HNO := Lib.hid hno
      have HBX := Lib.hid bX
      have HB3 := Lib.hid hb3
      rw [hw3]
      clear hw3 hb3 bX hN3 hlook c2 hno hnv hol hnl
      go_still_tail 5, (by kernel_rfl)
      change wpList _ _ _ _ _ w3.drew
      go_wp2_with fail
      refine HDO.out.mono ?_
      rintro e w4 ⟨rfl, hd4, hg4⟩
      obtain ⟨A4, d4, hvp⟩ := own_slice HD.out.pend
      have hmn := HD.out.names.lt
      have hml : s.mn < w2.heap.size := hmn
      have hpl : p < w2.heap.size := HD.out.blk.lt
      have hmp : s.mn ≠ p := HD.out.names.blk_ne HD.out.blk
      have hg5 : w3.grownBy w4.drew (some s.mn) := ⟨hg4.os, hg4.tape, hg4.output, hg4.size, hg4.block⟩
      have hd5 : DirAt w4.drew s.mn (doL s.names ⟨nm.data.toList, [], none⟩).length (doL s.names ⟨nm.data.toList, [], none⟩) := hd4
      have bP3 : Blk w3 p 68 _ := HD.out.blk.below HB3.out hpl
      have bP5 : Blk w4.drew p 68 _ := bP3.grown hg5 (by simp; omega)
      have oP3 := own_keep (w' := w3) HD.out.pend (fun k _ hk => HB3.out.block k hk)
      have oP5 := own_keep (w' := w4.drew) oP3 (fun k hk hk2 => hg5.block k hk2 (fun e => HD.out.names.own_ne HD.out.pend (by rw [hk, e]; rfl)))
      have p4 : w4.cell? ⟨p, 4, none⟩ = some (.slice A4 s.pend.length d4) := (bP5.cell 4).trans (congrArg some hvp)
      have y0 : w4.cell? ⟨w2.heap.size, 0, none⟩ = some (.string nm) := (HBX.out.grown hg5 (by simp; omega)).cell 0
      have y1 : w4.cell? ⟨w2.heap.size, 1, none⟩ = some (.string ⟨#[]⟩) := (HBX.out.grown hg5 (by simp; omega)).cell 1
      have y2 : w4.cell? ⟨w2.heap.size, 2, none⟩ = some (.pointer none) := (HBX.out.grown hg5 (by simp; omega)).cell 2
      have hs5 := hg5.size
      have HG5 := Lib.hid hg5
      have HD5 := Lib.hid hd5
      have HBP5 := Lib.hid bP5
      have HOP5 := Lib.hid oP5
      have HVP := Lib.hid hvp
      clear hg4 hd4 hg5 hd5 bP3 bP5 oP3 oP5 hvp hmn x0 x1 x2 e2
      go_upto_region 8 with fail
      have hoP5 := HOP5.out
      rw [HVP.out] at hoP5
      have HOQ := Lib.hid hoP5
      have hpl2 : s.pend.length ≤ s.ops := H.out.pendL
      have hpl3 : p < w4.heap.size := by have : w3.heap.size ≤ w4.heap.size := hs5; omega
      have p4' : (w4.drew.alloc (.cells #[.string nm, .string ⟨#[]⟩, .pointer none] 75)).cell? ⟨p, 4, none⟩ = some (.slice A4 s.pend.length d4) := (World.cell?_alloc_lt w4.drew _ _ hpl3).trans p4
      clear hoP5
      go_region_law (first
        | (refine step_append_any (w4.drew.alloc (.cells #[.string nm, .string ⟨#[]⟩, .pointer none] 75)) (by rfl) (.tmp 37) (.tmp 39) 65 (by rfl) 0 75 i0 (.agg #[.string ⟨#[]⟩, .string ⟨#[]⟩, .pointer none]) 3 40 Try.underlying65 HI.out HZ0.out HZ1.out HZ2.out rfl (by omega) (.slice A4 s.pend.length d4) s.pend.length (chsV s.pend) (by rfl) (HOQ.out.alloc _) (w4.heap.size + 1) (some ⟨w4.heap.size, 0, none⟩) 1 1 [.string nm, .string ⟨#[]⟩, .pointer none] (by rfl) (reads_new3 w4.drew 75 _ _ _) (by intro u hu; simp at hu; rcases hu with rfl | rfl | rfl <;> rfl) (by simp [maxLen]; omega) (by omega) (Nat.zero_le _) ?_; intro v6 w6 hown6 hgrow6 hloc6; obtain ⟨A5, d5, hv5⟩ := own_slice hown6; subst hv5; have bP6 := (HBP5.out.alloc (.cells #[.string nm, .string ⟨#[]⟩, .pointer none] 75)).grown hgrow6 (Ne.symm (own_blk_ne HOQ.out HBP5.out (by decide))); have y4 : w6.cell? ⟨p, 4, none⟩ = some (.slice A4 s.pend.length d4) := (bP6.cell 4).trans (congrArg some HVP.out); have z4 := bP6.frozen 4; have HBP6 := Lib.hid bP6; have HW6 := Lib.hid hown6; have HG6 := Lib.hid hgrow6; have HL6 := Lib.hid hloc6; have hs6 := hgrow6.size; rw [World.size_alloc] at hs6; clear bP6 hown6 hgrow6 hloc6))
      all_goals
        go_wp2
        go_ret
        have hch : chV ⟨nm.data.toList, [], none⟩ = [.string nm, .string ⟨#[]⟩, .pointer none] := by simp [chV, nmV, ptrV]
        obtain ⟨hDD, hCC⟩ := turn_end H.out HD.out HC.out (Nat.le_of_lt hs2) rfl (fun _ h => absurd rfl h) ⟨HNO.out, Nat.zero_le _⟩ HB3.out HG5.out HD5.out HVP.out HBP6.out (by rw [hch]; exact HW6.out) HG6.out HL6.out
        have e4 : removeC s nm = 0 := by
          unfold removeC
          rw [HK.out, if_pos rfl, HDG.out]
          rfl
        exact ⟨v, _, by rw [e4]; rfl, hDD, hCC, .inr ⟨e4, HRT.out, by rw [HDG.out]; rfl, _, rfl⟩⟩
  · have hq : (why != 0) = true := by simp [hwy]
    have HWY := Lib.hid hwy
    clear hwy
    go_wp2
    go_ret
    have e4 : removeC s nm = why := by
      unfold removeC
      rw [HK.out, if_neg HWY.out]
    exact ⟨v, _, by rw [e4]; rfl, HD.out, HC.out, .inl ⟨by rw [e4]; exact HWY.out, rfl⟩⟩
end Go.Proofs.Ytfeglchngekedaa
