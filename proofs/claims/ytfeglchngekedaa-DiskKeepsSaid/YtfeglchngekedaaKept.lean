/- The plain part of DiskKeeps: the states on its way; what is read behind a crash. -/
import Derived.Test.YtfeglchngekedaaWakes
namespace Go.Proofs.Ytfeglchngekedaa
open Go.RowKit Go.Shelf Go.Maps

theorem u8_list (l : List Int) (h : ∀ x ∈ l, (Lit.int .u8 x).wf = true) : ∃ b : List UInt8, l.map (Value.int .u8) = bytesV b ∧ b.length = l.length := by
  refine ⟨l.map fun x => UInt8.ofNat x.toNat, ?_, by simp⟩
  unfold bytesV
  rw [List.map_map]
  apply List.map_congr_left
  intro x hx
  have w := h x hx
  simp [Lit.wf, IntKind.max, IntKind.min, IntKind.signed, IntKind.bits] at w
  have : ((UInt8.ofNat x.toNat).toNat : Int) = x := by
    simp only [UInt8.toNat_ofNat']
    omega
  simp only [Function.comp]
  rw [this]

/-- the disk of DiskKeeps on its way: one file, f -/
structure Kp (s : DS) (g : Nat) (b : List UInt8) (k n : Nat) : Prop where
  st : s.stopped = false
  fl : s.flts = []
  nm : s.names = [([102], g)]
  by_ : s.bytes g = b
  kp : s.kept g = k
  op : s.ops = n
  cp : s.cap = 4000
theorem right_f : rightB ⟨#[102]⟩ = true := by kernel_rfl
theorem right_g : rightB ⟨#[103]⟩ = true := by kernel_rfl
theorem begF {s : DS} (h1 : s.stopped = false) (h2 : s.flts = []) : beginS s [⟨#[102]⟩] = (0, 0) := beg0 h1 h2 _ (by simp [right_f])
theorem begG {s : DS} (h1 : s.stopped = false) (h2 : s.flts = []) : beginS s [⟨#[103]⟩] = (0, 0) := beg0 h1 h2 _ (by simp [right_g])
theorem kp_get (g : Nat) : dget [(([102] : Nm), g)] [102] = some g := by simp [dget]
theorem kp_create {w w' : World} {F : Nat → Prop} {p : Nat} {e : Ending} {mn ms : Nat} (h : CreatePost w F p (emptyS 4000 mn ms) ⟨#[102]⟩ e w') :
    e = .returned (.int .i64 0) ∧ ∃ s' g, DiskAt w' (Gr F w) p s' ∧ Chg F w w' ∧ Kp s' g [] 0 1 := by
  obtain ⟨v, s', rfl, hD, hC, hs⟩ := h
  have hc : createC (emptyS 4000 mn ms) ⟨#[102]⟩ = 0 := by
    unfold createC
    rw [begF rfl rfl]
    rfl
  rw [hc] at hs ⊢
  rcases hs with ⟨h1, -⟩ | ⟨-, -, -, g, v2, -, rfl⟩
  · exact absurd rfl h1
  · refine ⟨rfl, _, g, hD, hC, ⟨rfl, rfl, ?_, ?_, ?_, rfl, rfl⟩⟩
    · show dput [] [102] g = _; simp [dput, ddel, dins]
    · simp [created, upd]
    · simp [created, upd]
theorem kp_append {w w' : World} {F : Nat → Prop} {p : Nat} {e : Ending} {s : DS} {g kn n : Nat} {b x : List UInt8} (k : Kp s g b kn n) (hl : b.length + x.length ≤ 4000) (h : AppendPost w F p s ⟨#[102]⟩ x e w') :
    e = .returned (.int .i64 0) ∧ ∃ s', DiskAt w' (Gr F w) p s' ∧ Chg F w w' ∧ Kp s' g (b ++ x) kn (n + 1) ∧ s'.safe = s.safe ∧ s'.pend = s.pend := by
  obtain ⟨v, s', rfl, hD, hC, hs⟩ := h
  have hg : dget s.names [102] = some g := by rw [k.nm]; exact kp_get g
  have hb := begF k.st k.fl
  have hu : usedS s = b.length := by unfold usedS; rw [k.nm]; simp [k.by_]
  have hf : fitsS s ⟨#[102]⟩ x.length = 0 := by
    unfold fitsS
    show (if (dget s.names [102]).isSome = true then _ else _) = _
    rw [hg, hu, k.cp]
    show (if 0 < x.length ∧ (4000 : Int) - (b.length : Int) < (x.length : Int) then (5 : Int) else 0) = 0
    rw [if_neg (by omega)]
  have ha : appendC s ⟨#[102]⟩ x.length = 0 := by unfold appendC; rw [hb, hf]; rfl
  have ht : takes s ⟨#[102]⟩ x.length = some x.length := by
    unfold takes tornS
    rw [hb, hf]
    rfl
  rw [ha]
  rcases hs with ⟨h1, -⟩ | ⟨m, g', v2, h1, h2, rfl⟩
  · rw [ht] at h1; cases h1
  · rw [ht] at h1
    injection h1 with h1
    have hg2 : dget s.names [102] = some g' := h2
    rw [hg] at hg2
    injection hg2 with hg2
    subst hg2
    refine ⟨rfl, _, hD, hC, ⟨k.st, ?_, k.nm, ?_, k.kp, ?_, k.cp⟩, rfl, rfl⟩
    · show leftF s.flts _ = []; rw [k.fl]; rfl
    · show upd s.bytes g (s.bytes g ++ _) g = _
      rw [upd_same, k.by_, ← h1, List.take_length]
    · show s.ops + 1 = n + 1; rw [k.op]
theorem kp_sync {w w' : World} {F : Nat → Prop} {p : Nat} {e : Ending} {s : DS} {g kn n : Nat} {b : List UInt8} (k : Kp s g b kn n) (h : SyncPost w F p s ⟨#[102]⟩ e w') :
    e = .returned (.int .i64 0) ∧ ∃ s', DiskAt w' (Gr F w) p s' ∧ Chg F w w' ∧ Kp s' g b b.length (n + 1) ∧ s'.safe = s.safe ∧ s'.pend = s.pend := by
  obtain ⟨v, s', rfl, hD, hC, hs⟩ := h
  have hg : dget s.names [102] = some g := by rw [k.nm]; exact kp_get g
  have hb := begF k.st k.fl
  have ha : syncC s ⟨#[102]⟩ = 0 := by
    unfold syncC
    rw [hb]
    show (if (0 : Int) = 0 then (if (dget s.names [102]).isSome = true then _ else _) else _) = _
    rw [hg]
    rfl
  rw [ha] at hs ⊢
  rcases hs with ⟨h1, -⟩ | ⟨-, g', h2, rfl⟩
  · exact absurd rfl h1
  · have hg2 : dget s.names [102] = some g' := h2
    rw [hg] at hg2
    injection hg2 with hg2
    subst hg2
    refine ⟨rfl, _, hD, hC, ⟨k.st, ?_, k.nm, k.by_, ?_, ?_, k.cp⟩, rfl, rfl⟩
    · show leftF s.flts _ = []; rw [k.fl]; rfl
    · show upd s.kept g (s.bytes g).length g = _
      rw [upd_same, k.by_]
    · show s.ops + 1 = n + 1; rw [k.op]
theorem kp_syncdir {w w' : World} {F : Nat → Prop} {p : Nat} {e : Ending} {s : DS} {g kn n : Nat} {b : List UInt8} (k : Kp s g b kn n) (h : SyncDirPost w F p s e w') :
    e = .returned (.int .i64 0) ∧ ∃ s', DiskAt w' (Gr F w) p s' ∧ Chg F w w' ∧ Kp s' g b kn (n + 1) ∧ s'.safe = [([102], g)] ∧ s'.pend = [] := by
  obtain ⟨v, s', rfl, hD, hC, hs⟩ := h
  rw [beg0 k.st k.fl [] rfl] at hs ⊢
  rcases hs with ⟨h1, -⟩ | ⟨-, m, rfl⟩
  · exact absurd rfl h1
  · refine ⟨rfl, _, hD, hC, ⟨k.st, ?_, k.nm, k.by_, k.kp, ?_, k.cp⟩, k.nm, rfl⟩
    · show leftF s.flts _ = []; rw [k.fl]; rfl
    · show s.ops + 1 = n + 1; rw [k.op]
theorem kp_other {w w' : World} {F : Nat → Prop} {p : Nat} {e : Ending} {s : DS} {g kn n : Nat} {b : List UInt8} (hd : DiskAt w F p s) (k : Kp s g b kn n) (h : CreatePost w F p s ⟨#[103]⟩ e w') :
    e = .returned (.int .i64 0) ∧ ∃ s' g2, DiskAt w' (Gr F w) p s' ∧ Chg F w w' ∧ s'.bytes g = b ∧ s'.kept g = kn ∧ s'.ops = n + 1 ∧ s'.safe = s.safe ∧ s'.pend = s.pend ++ [⟨[], [103], some g2⟩] := by
  obtain ⟨v, s', rfl, hD, hC, hs⟩ := h
  have hc : createC s ⟨#[103]⟩ = 0 := by
    unfold createC
    rw [begG k.st k.fl]
    show (if (0 : Int) = 0 then (if (dget s.names [103]).isSome = true then _ else _) else _) = _
    rw [k.nm, show dget [(([102] : Nm), g)] [103] = none by simp [dget]]
    rfl
  have hlt : g < w.heap.size := live_lt hd (.inl ⟨([102], g), by rw [k.nm]; simp, rfl⟩)
  rw [hc] at hs ⊢
  rcases hs with ⟨h1, -⟩ | ⟨-, -, -, g2, v2, hg2, rfl⟩
  · exact absurd rfl h1
  · refine ⟨rfl, _, g2, hD, hC, ?_, ?_, ?_, rfl, rfl⟩
    · show upd s.bytes g2 [] g = _
      rw [upd_other _ _ (by omega), k.by_]
    · show upd s.kept g2 0 g = _
      rw [upd_other _ _ (by omega), k.kp]
    · show s.ops + 1 = n + 1; rw [k.op]

theorem crashL_kept {bytes : Nat → List UInt8} {kept : Nat → Nat} {dir : Dl} : ∀ (keys : List Nm) (cs : List Int) (x : Nm × List UInt8 × Nat), x ∈ crashL bytes kept dir keys cs →
    ∃ n, kept ((dget dir x.1).getD 0) ≤ n ∧ x.2.1 = (bytes ((dget dir x.1).getD 0)).take n
  | [], _, _, h => by cases h
  | nm :: r, cs, x, h => by
    rcases List.mem_cons.1 h with rfl | h
    · exact ⟨_, Nat.le_add_right _ _, rfl⟩
    · exact crashL_kept r cs.tail x h
/-- what is read behind a crash: a beginning, not less than what was durable -/
theorem crash_read {w w' : World} {F : Nat → Prop} {p : Nat} {s : DS} {cs : List Int} {e : Ending} (h : CrashPost w F p s cs e w') (nm : ByteArray) (hr : rightB nm = true) (g : Nat)
    (hg : ∀ j, dget (replay s.safe (s.pend.take j)) nm.data.toList = some g) :
    e = .returned (.tuple #[]) ∧ ∃ s' n, DiskAt w' (Gr F w) p s' ∧ Chg F w w' ∧ s'.ops = s.ops ∧ s.kept g ≤ n ∧ readS s' nm = ((s.bytes g).take n, 0) := by
  obtain ⟨he, dir, ss, keys, lst, mn, ms, hdir, -, -, hnm, htell, hne, hnd, hin, -, hD, hC⟩ := h
  have hdg : dget dir nm.data.toList = some g := by rw [hdir]; exact hg _
  have hk : nm.data.toList ∈ keys := (hin _).2 (by rw [hdg]; rfl)
  rw [← hnm] at hk hnd
  obtain ⟨x, hx, hxn⟩ := List.mem_map.1 hk
  have h1 : x.tell ∈ crashL s.bytes s.kept dir keys cs.tail := by rw [← htell]; exact List.mem_map.2 ⟨x, hx, rfl⟩
  obtain ⟨n, hn, hb⟩ := crashL_kept _ _ _ h1
  have e1 : x.tell.1 = nm.data.toList := hxn
  rw [e1, hdg] at hn hb
  refine ⟨he, _, n, hD, hC, rfl, hn, ?_⟩
  have hget := dget_laid_hit lst dir x hnd hx
  rw [hxn] at hget
  have hby : (crashedS s dir lst mn ms).bytes x.g = x.bs := by
    show ((lst.find? (fun y => y.g == x.g)).map (·.bs)).getD [] = _
    rw [find_file lst x hne hx]
    rfl
  unfold readS
  rw [hr]
  show (match dget (laid dir lst) nm.data.toList with | none => _ | some g => _) = _
  rw [hget]
  show ((crashedS s dir lst mn ms).bytes x.g, (0 : Int)) = _
  rw [hby]
  exact congrArg (fun l => (l, (0 : Int))) hb
theorem keeps_dir {safe : Dl} {g g2 : Nat} (hs : safe = [([102], g)]) (j : Nat) : dget (replay safe (([⟨[], [103], some g2⟩] : List Ch).take j)) [102] = some g := by
  subst hs
  match j with
  | 0 => exact kp_get g
  | j + 1 =>
    rw [List.take_succ_cons, List.take_nil]
    show dget (dput [(([102] : Nm), g)] [103] g2) [102] = some g
    rw [dget_put, if_neg (by decide)]
    exact kp_get g
end Go.Proofs.Ytfeglchngekedaa
