/- points (117): what was written down is read. -/
import Derived.Test.YtbeeejpjnniejaaGreatDoorHRecP
import Derived.Test.YtbeeejpjnniejaaGreatDoorHEight
import Derived.Test.YtbeeejpjnniejaaGreatDoorLRead
import Derived.Test.YtbeeejpjnniejaaGreatDoorJ06Rx2
import Derived.Laws.Entries
namespace Go.Proofs.YtbeeejpjnniejaaGreatDoor
open Go.RowKit Go.Shelf
attribute [-go_sem] Builtin.append_
set_option maxRecDepth 100000 in
theorem frombits_call (x : Nat) (w : World) : (callFunc 165 #[.int .u64 (x : Int)]).run Tryz.prog w = .ok (.value (.float .f64 x)) w :=
  run_callFunc_extern (e := Extern.MathFloatBits.float64frombits) Tryz.func165 (by kernel_rfl) (by kernel_rfl) (by kernel_rfl) (by kernel_rfl) #[.int .u64 (x : Int)] w
attribute [local go_sem] frombits_call run_store_float
structure PtsI (w wr : World) (acc : List Pt) (v : Value) : Prop where
  out : ∃ vs : List (Value × Int × Nat), vs.length = acc.length ∧ wr.ownsRow w.heap.size 57 3 v acc.length (ptsV vs) ∧ ∀ (i : Nat) (x : Value × Int × Nat) (p : Pt), vs[i]? = some x → acc[i]? = some p → x.2 = p.2 ∧ wr.ownsRow w.heap.size 55 2 x.1 p.1.length (flatL p.1) ∧ rightL p.1 = true
  bel : Below w.heap.size w wr
def PointsPost (w : World) (raw : List UInt8) (e : Ending) (w' : World) : Prop :=
  match pointsP (raw.length + 1) [] raw with
  | none => e = .returned (.tuple #[.slice none 0 0, .bool false]) ∧ Below w.heap.size w w'
  | some pts => ∃ v, e = .returned (.tuple #[v, .bool true]) ∧ PtsI w w' pts v
theorem PtsI.below {w w1 w2 : World} {acc : List Pt} {v : Value} (h : PtsI w w1 acc v) (hb : Below w1.heap.size w1 w2) : PtsI w w2 acc v := by
  obtain ⟨⟨vs, h1, h2, h3⟩, h4⟩ := h
  exact ⟨⟨vs, h1, own_blk_w h2 fun j hj => hb.block j (h2.lt j hj).2, fun i x p a b => ⟨(h3 i x p a b).1, own_blk_w (h3 i x p a b).2.1 fun j hj => hb.block j ((h3 i x p a b).2.1.lt j hj).2, (h3 i x p a b).2.2⟩⟩, h4.trans (hb.mono h4.size)⟩
theorem PtsI.pts {w wr : World} {acc : List Pt} {v : Value} (h : PtsI w wr acc v) {Q : Nat → Prop} (hQ : ∀ k, w.heap.size ≤ k → Q k) : PtsAt wr wr.heap.size Q v acc := by
  obtain ⟨vs, h1, h2, h3⟩ := h.out
  obtain ⟨A, c, rfl⟩ := own_slice h2
  refine ⟨A, c, vs, rfl, h1, Reads.of_own h2, fun i x p hx hp => ?_⟩
  obtain ⟨e1, e2, e3⟩ := h3 i x p hx hp
  have hf := rightL_fit e3
  obtain ⟨AL, cL, eL⟩ := own_slice e2
  refine ⟨e1, ⟨AL, cL, eL, by rw [eL] at e2; exact Reads.of_own e2⟩, ⟨by have := hf.1; omega, fun q hq => ⟨by have := (hf.2 q hq).1; omega, by have := (hf.2 q hq).2; omega⟩⟩, fun k hk => ?_⟩
  rw [eL] at hk e2
  rcases e2.2 with ⟨e5, -⟩ | ⟨g, cap, cur, e5, h6, -⟩
  · injection e5 with a1 a2 a3
    subst a1
    cases hk
  · injection e5 with a1 a2 a3
    subst a1
    unfold useB at hk
    split at hk
    · rename_i e6
      injection e6 with b1 b2 b3
      injection b1 with b1
      injection hk with hk
      rw [← hk, ← b1]
      exact hQ _ h6
    · cases hk
theorem bytesV_drop2 (l : List UInt8) (k : Nat) : (bytesV l).drop k = bytesV (l.drop k) := by simp [bytesV]
theorem bytesV_take2 (l : List UInt8) (k : Nat) : (bytesV l).take k = bytesV (l.take k) := by simp [bytesV]
theorem ptsV_append1 (vs : List (Value × Int × Nat)) (v : Value) (t : Int) (b : Nat) : ptsV (vs ++ [(v, t, b)]) = ptsV vs ++ [v, .int .i64 t, .float .f64 b] := by simp [ptsV]; rfl
/-- between two points -/
structure PoS (w wr : World) (raw : List UInt8) (A : Option Addr) (c : Nat) (v : Value) (f : Nat) (acc : List Pt) (rest : List UInt8) : Prop where
  le : rest.length ≤ c
  rd : Reads wr w.heap.size 1 A rest.length (bytesV rest)
  fuel : rest.length < f
  eq : pointsP (raw.length + 1) [] raw = pointsP f acc rest
  pts : PtsI w wr acc v
  few : acc.length * 24 + rest.length ≤ raw.length
def PoR (w : World) (raw : List UInt8) (v0 v4 : Value) (wr : World) : Prop := ∃ A c f acc rest, v0 = .slice A rest.length c ∧ PoS w wr raw A c v4 f acc rest
def slen : Value → Nat
  | .slice _ n _ => n
  | _ => 0
theorem pointP_bad {l : List UInt8} (h : l.length < 24 ∨ l.length - 24 < uneightL (l.take 8)) : pointP l = none := by
  unfold pointP
  rw [if_pos h]
theorem info57 : (Tryz.prog.info? 57).map (fun i => (i.zero, i.size, i.bytes)) = some (some (.agg #[.slice none 0 0, .int .i64 0, .float .f64 0]), 3, 40) := by kernel_rfl
set_option maxRecDepth 100000 in
set_option maxHeartbeats 6400000 in
theorem points_any (w : World) (A : Option Addr) (c : Nat) (raw : List UInt8) (h : Reads w w.heap.size 1 A raw.length (bytesV raw)) (hc : raw.length ≤ c) (hT : Tabs w) (hl : raw.length ≤ 10000000) :
    Calls Tryz.prog 117 #[.slice A raw.length c] w (PointsPost w raw) := by
  obtain ⟨i0, hi, hz0, hz1, hz2⟩ := info_parts info57
  have HI := Lib.hid hi
  have HZ0 := Lib.hid hz0
  have HZ1 := Lib.hid hz1
  have HZ2 := Lib.hid hz2
  have HT := Lib.hid hT
  have HST := Lib.hid (show PoR w raw (.slice A raw.length c) (.slice none 0 0) w from ⟨A, c, raw.length + 1, [], raw, rfl, hc, h, by omega, rfl, ⟨⟨[], rfl, World.ownsRow_nil _ _ _ _, fun i x p a => by simp at a⟩, Below.refl _ w⟩, by simp⟩)
  clear hi hz0 hz1 hz2 hT h
  go_enter Tryz.func117, Tryz.ntmps117
  go_wp2_with fail
  go_loopw [0, 4] (fun v0 v4 wr => PoR w raw v0 v4 wr) (fun v0 _ _ => slen v0)
  case atStart => exact HST.out
  case round =>
    obtain ⟨A1, c1, f, acc, rest, rfl, hS⟩ := hrel
    obtain ⟨m, hm⟩ : ∃ m, m = rest.length := ⟨_, rfl⟩
    rw [← hm]
    have hle := hS.le
    have hrd := hS.rd
    have hfew := hS.few
    rw [← hm] at hle hrd hfew
    have HS := Lib.hid hS
    have HM := Lib.hid hm
    have HRD := Lib.hid hrd
    obtain ⟨f, rfl⟩ : ∃ f', f = f' + 1 := ⟨f - 1, by have := hS.fuel; omega⟩
    obtain ⟨vs, hv1, hv2, hv3⟩ := hS.pts.out
    obtain ⟨Av, cv, rfl⟩ := own_slice hv2
    have hws : w.heap.size ≤ wr.heap.size := hS.pts.bel.size
    clear hS hm hrd hv1 hv2 hv3
    by_cases h0 : m = 0
    · subst h0
      have hr0 : rest = [] := List.length_eq_zero_iff.1 HM.out.symm
      have HP := Lib.hid (show PointsPost w raw (.returned (.tuple #[.slice Av acc.length cv, .bool true])) wr from by
        unfold PointsPost
        rw [HS.out.eq, hr0]
        exact ⟨_, rfl, HS.out.pts⟩)
      clear hr0
      go_wp2
      refine bodyPost_ret (results_tmp2 rfl _ _ _) rfl ?_
      exact HP.out
    · have k0 : (0 : Int) < (m : Int) := by omega
      have hne : rest.isEmpty = false := by
        rw [List.isEmpty_eq_false_iff]
        intro e
        have := HM.out
        rw [e] at this
        exact h0 this
      have heq : pointsP (raw.length + 1) [] raw = match pointP rest with | none => none | some x => pointsP f (acc ++ [x.1]) x.2 := by
        rw [HS.out.eq]
        conv => lhs; unfold pointsP
        rw [hne]
        rfl
      have HEQ := Lib.hid heq
      clear heq hne h0
      by_cases h24 : m < 24
      · have k1 : (m : Int) < 24 := by omega
        have HP := Lib.hid (show PointsPost w raw (.returned (.tuple #[.slice none 0 0, .bool false])) wr from by
          unfold PointsPost
          rw [HEQ.out, pointP_bad (.inl (by rw [← HM.out]; exact h24))]
          exact ⟨rfl, HS.out.pts.bel⟩)
        go_wp2
        refine bodyPost_ret (results_tmp2 rfl _ _ _) rfl ?_
        exact HP.out
      · have k1 : ¬ (m : Int) < 24 := by omega
        obtain ⟨u, hu⟩ : ∃ u, u = uneightL (rest.take 8) := ⟨_, rfl⟩
        have HU8 := Lib.hid (show Calls Tryz.prog 163 #[.slice A1 m c1] wr fun e w' => e = .returned (.int .u64 (u : Int)) ∧ wr = w' from by
          rw [hu]
          exact uneight_any wr w.heap.size A1 m c1 rest HRD.out HM.out (by omega) hle)
        have HU := Lib.hid hu
        have hu64 : u < 18446744073709551616 := by
          rw [hu]
          refine Nat.lt_of_lt_of_le (uneight_small _) ?_
          rw [List.length_take]
          exact Nat.pow_le_pow_right (n := 256) (by omega) (show min 8 rest.length ≤ 8 by omega)
        have e24 : IntKind.u64.wrap ((m : Int) - 24) = (m : Int) - 24 := IntWalk.u64_in _ (by omega)
        clear hu
        by_cases hfit : m - 24 < u
        · have k2 : (m : Int) - 24 < (u : Int) := by omega
          have HP := Lib.hid (show PointsPost w raw (.returned (.tuple #[.slice none 0 0, .bool false])) wr from by
            unfold PointsPost
            rw [HEQ.out, pointP_bad (.inr (by rw [← HM.out, ← HU.out]; exact hfit))]
            exact ⟨rfl, HS.out.pts.bel⟩)
          go_wp2_with fail
          refine HU8.out.mono ?_
          rintro e w' ⟨rfl, rfl⟩
          go_wp2
          refine bodyPost_ret (results_tmp2 rfl _ _ _) rfl ?_
          exact HP.out
        · have k2 : ¬ (m : Int) - 24 < (u : Int) := by omega
          have e64 : IntKind.i64.wrap (u : Int) = (u : Int) := IntWalk.i64_in _ (by omega)
          go_wp2_with fail
          refine HU8.out.mono ?_
          rintro e w' ⟨rfl, rfl⟩
          go_wp2_with fail
          refine HU8.out.mono ?_
          rintro e w' ⟨rfl, rfl⟩
          have hc8 : ¬ c1 = 8 := by omega
          have hr8 := HRD.out.cut (k := 8) (cap := c1) (by omega) hle
          rw [if_neg hc8, Nat.mul_one, bytesV_drop2] at hr8
          obtain ⟨bl, hbl⟩ : ∃ bl, bl = (rest.drop 8).take u := ⟨_, rfl⟩
          have hbll : bl.length = u := by rw [hbl, List.length_take, List.length_drop]; have := HM.out; omega
          have hrb : Reads wr w.heap.size 1 (Option.map (fun x => ⟨x.block, x.off + 8, none⟩) A1) bl.length (bytesV bl) := by
            rw [hbll]
            refine ⟨by rw [bytesV_length, hbll]; omega, fun h0 => ?_⟩
            obtain ⟨ad, e, h1, h2⟩ := hr8.2 (by omega)
            refine ⟨ad, ?_, h1, fun j y hj => h2 j y ?_⟩
            · rw [← e]
              cases A1 <;> rfl
            · rw [hbl, ← bytesV_take2, List.getElem?_take] at hj
              split at hj
              · exact hj
              · cases hj
          have hTr : Tabs wr := HT.out.below_ HS.out.pts.bel
          have HLR := Lib.hid (lread_any wr _ (c1 - 8) bl (hrb.more hws) (by omega) hTr (by omega))
          rw [hbll] at HLR
          have HBL := Lib.hid hbl
          have HR8 := Lib.hid hr8
          clear hr8 hbl hbll hrb hTr
          go_wp2_with fail
          refine HLR.out.mono ?_
          rintro e w2 ⟨hb2, he⟩
          have hpp : pointP rest = match lread bl with
            | none => none
            | some ls => if ls.isEmpty ∨ unnum ((rest.drop (8 + u)).take 8) < -9007199254740992 ∨ 9007199254740992 < unnum ((rest.drop (8 + u)).take 8) then none
              else some ((ls, unnum ((rest.drop (8 + u)).take 8), uneightL ((rest.drop (8 + u + 8)).take 8)), rest.drop (8 + u + 16)) := by
            unfold pointP
            rw [← HU.out, if_neg (by rw [← HM.out]; omega), ← HBL.out]
            rfl
          have hs12 := hb2.size
          -- the slices behind the labels
          have hrt := (HRD.out.cut (k := 8 + u) (cap := c1) (by omega) hle).keep (w' := w2) fun a ha => hb2.cell (by omega)
          have hrv := (HRD.out.cut (k := 8 + u + 8) (cap := c1) (by omega) hle).keep (w' := w2) fun a ha => hb2.cell (by omega)
          rw [if_neg (by omega), Nat.mul_one, bytesV_drop2] at hrt hrv
          obtain ⟨tz, htz⟩ : ∃ tz, tz = uneightL ((rest.drop (8 + u)).take 8) := ⟨_, rfl⟩
          obtain ⟨vz, hvz⟩ : ∃ vz, vz = uneightL ((rest.drop (8 + u + 8)).take 8) := ⟨_, rfl⟩
          have HTZ := Lib.hid (show Calls Tryz.prog 163 #[.slice (Option.map (fun x => x.add (8 + u)) A1) (m - (8 + u)) (c1 - (8 + u))] w2 fun e w' => e = .returned (.int .u64 (tz : Int)) ∧ w2 = w' from by
            rw [htz]
            exact uneight_any w2 w.heap.size _ _ _ _ hrt (by rw [List.length_drop]; have := HM.out; omega) (by omega) (by omega))
          have HVZ := Lib.hid (show Calls Tryz.prog 163 #[.slice (Option.map (fun x => x.add (8 + u + 8)) A1) (m - (8 + u + 8)) (c1 - (8 + u + 8))] w2 fun e w' => e = .returned (.int .u64 (vz : Int)) ∧ w2 = w' from by
            rw [hvz]
            exact uneight_any w2 w.heap.size _ _ _ _ hrv (by rw [List.length_drop]; have := HM.out; omega) (by omega) (by omega))
          obtain ⟨ti, hti⟩ : ∃ ti, ti = unnum ((rest.drop (8 + u)).take 8) := ⟨_, rfl⟩
          have hwt : IntKind.i64.wrap (tz : Int) = ti := by rw [hti, htz, IntKind.wrap_i64]; unfold unnum RowKit.wrap64; omega
          rw [← hti, ← hvz] at hpp
          have HPP := Lib.hid hpp
          have HTI := Lib.hid hti
          have HB2 := Lib.hid hb2
          have kt : (8 + (u : Int)).toNat = 8 + u := by omega
          have kt2 : (8 + (u : Int) + 8).toNat = 8 + u + 8 := by omega
          clear hpp hrt hrv htz hvz hti hb2 HU8
          cases hlr : lread bl with
          | none =>
            rw [hlr] at he
            subst he
            have HLN := Lib.hid hlr
            have HP := Lib.hid (show PointsPost w raw (.returned (.tuple #[.slice none 0 0, .bool false])) w2 from by
              unfold PointsPost
              rw [HEQ.out, HPP.out, hlr]
              exact ⟨rfl, HS.out.pts.bel.trans (HB2.out.mono hws)⟩)
            clear hlr HLR
            go_wp2_with fail
            refine HTZ.out.mono ?_
            rintro e w' ⟨rfl, rfl⟩
            go_wp2
            refine bodyPost_ret (results_tmp2 rfl _ _ _) rfl ?_
            exact HP.out
          | some ls =>
            rw [hlr] at he
            obtain ⟨vl, rfl, hol⟩ := he
            obtain ⟨AL, cL, rfl⟩ := own_slice hol
            obtain ⟨nL, hnL⟩ : ∃ nL, nL = ls.length := ⟨_, rfl⟩
            rw [← hnL] at hol ⊢
            have hnl64 : nL ≤ 64 := by rw [hnL]; exact (rightL_fit (lread_right hlr)).1
            have HNL := Lib.hid hnL
            have HOL := Lib.hid hol
            have HLN := Lib.hid hlr
            have HPQ := Lib.hid (show pointP rest = if ls.isEmpty ∨ ti < -9007199254740992 ∨ 9007199254740992 < ti then none else some ((ls, ti, vz), rest.drop (8 + u + 16)) by rw [HPP.out, hlr])
            have HBW := Lib.hid (HS.out.pts.bel.trans (HB2.out.mono hws))
            clear hlr HLR hnL hol
            by_cases hbad : ls.isEmpty ∨ ti < -9007199254740992 ∨ 9007199254740992 < ti
            · have HP := Lib.hid (show PointsPost w raw (.returned (.tuple #[.slice none 0 0, .bool false])) w2 from by
                unfold PointsPost
                rw [HEQ.out, HPQ.out, if_pos hbad]
                exact ⟨rfl, HBW.out⟩)
              by_cases hz : nL = 0
              · subst hz
                clear hbad
                go_wp2_with fail
                refine HTZ.out.mono ?_
                rintro e w' ⟨rfl, rfl⟩
                go_wp2
                refine bodyPost_ret (results_tmp2 rfl _ _ _) rfl ?_
                exact HP.out
              · have hne : ¬ (nL : Int) = 0 := by omega
                have hneb : ((nL : Int) == 0) = false := by simpa using hne
                have hls : ls.isEmpty = false := by
                  rw [List.isEmpty_eq_false_iff]
                  intro e
                  have := HNL.out
                  rw [e] at this
                  exact hz this
                by_cases hlo : ti < -9007199254740992
                · clear hbad hls
                  go_wp2_with fail
                  refine HTZ.out.mono ?_
                  rintro e w' ⟨rfl, rfl⟩
                  go_wp2
                  refine bodyPost_ret (results_tmp2 rfl _ _ _) rfl ?_
                  exact HP.out
                · have hhi : 9007199254740992 < ti := by
                    rcases hbad with h | h | h
                    · rw [hls] at h; cases h
                    · exact absurd h hlo
                    · exact h
                  clear hbad hls
                  go_wp2_with fail
                  refine HTZ.out.mono ?_
                  rintro e w' ⟨rfl, rfl⟩
                  go_wp2
                  refine bodyPost_ret (results_tmp2 rfl _ _ _) rfl ?_
                  exact HP.out
            · have hz : ¬ nL = 0 := fun e => hbad (.inl (by
                have := HNL.out
                rw [e] at this
                rw [List.length_eq_zero_iff.1 this.symm]
                rfl))
              have hne : ¬ (nL : Int) = 0 := by omega
              have hneb : ((nL : Int) == 0) = false := by simpa using hne
              have hlo : ¬ ti < -9007199254740992 := fun e => hbad (.inr (.inl e))
              have hhi : ¬ 9007199254740992 < ti := fun e => hbad (.inr (.inr e))
              have HEQ2 := Lib.hid (show pointsP (raw.length + 1) [] raw = pointsP f (acc ++ [(ls, ti, vz)]) (rest.drop (8 + u + 16)) by rw [HEQ.out, HPQ.out, if_neg hbad])
              clear hbad
              go_wp2_with fail
              refine HTZ.out.mono ?_
              rintro e w' ⟨rfl, rfl⟩
              go_wp2_with fail
              refine HVZ.out.mono ?_
              rintro e w' ⟨rfl, rfl⟩
              have hps2 := HS.out.pts.below HB2.out
              obtain ⟨vs, hv1, hv2, hv3⟩ := hps2.out
              obtain ⟨pc, hpc⟩ : ∃ pc, pc = Obj.cells #[.slice AL nL cL, .int .i64 ti, .float .f64 vz] 57 := ⟨_, rfl⟩
              obtain ⟨W4, hW4⟩ : ∃ W4, W4 = w2.alloc pc := ⟨_, rfl⟩
              have q4 : Blk W4 w2.heap.size 57 #[.slice AL nL cL, .int .i64 ti, .float .f64 vz] := by rw [hW4, hpc]; exact Blk.new w2 57 _
              have hz4 : W4.heap.size = w2.heap.size + 1 := by rw [hW4]; simp
              have hr4 : Reads W4 (w2.heap.size + 1) 3 (some ⟨w2.heap.size, 0, none⟩) 1 [.slice AL nL cL, .int .i64 ti, .float .f64 vz] := by
                refine ⟨rfl, fun _ => ⟨_, rfl, Nat.lt_succ_self _, fun i y hi => ?_⟩⟩
                have e : (⟨w2.heap.size, 0, none⟩ : Addr).add i = ⟨w2.heap.size, i, none⟩ := by unfold Addr.add; split <;> simp_all
                rw [e, q4.cell i, ← hi]
                simp
              have ho4 : W4.ownsRow w.heap.size 57 3 (.slice Av acc.length cv) acc.length (ptsV vs) := by rw [hW4]; exact hv2.alloc pc
              have hol4 : W4.ownsRow w.heap.size 55 2 (.slice AL nL cL) nL (flatL ls) := by rw [hW4]; exact (own_lower2 HOL.out hws).alloc pc
              have hbW4 : Below w.heap.size w W4 := by rw [hW4]; exact HBW.out.alloc (by omega) pc
              obtain ⟨na, hna⟩ : ∃ na, na = acc.length := ⟨_, rfl⟩
              rw [← hna] at ho4 hfew
              have HO4 := Lib.hid ho4
              have HR4 := Lib.hid hr4
              have HOL4 := Lib.hid hol4
              have HB4 := Lib.hid hbW4
              have HV1 := Lib.hid hv1
              have HV3 := Lib.hid hv3
              have HW4 := Lib.hid hW4
              have HPC := Lib.hid hpc
              have HNA := Lib.hid hna
              have hz5 : w2.heap.size + 1 ≤ W4.heap.size := by omega
              have hwW : w.heap.size ≤ W4.heap.size := by omega
              have kt3 : (8 + (u : Int) + 16).toNat = 8 + u + 16 := by omega
              have kt4 : 8 + (u : Int) + 16 ≤ (m : Int) := by omega
              have kt5 : 8 + (u : Int) + 16 ≤ (c1 : Int) := by omega
              clear hps2 hv1 hv2 hv3 q4 hr4 ho4 hol4 hbW4 hW4 hpc hz4
              have HCUT := Lib.hid (HRD.out.cut (k := 8 + u + 16) (cap := c1) (by omega) hle)
              go_upto_region 11 with (first | ((with_reducible refine HTZ.out.mono ?_); rintro e w' ⟨rfl, rfl⟩) | ((with_reducible refine HVZ.out.mono ?_); rintro e w' ⟨rfl, rfl⟩) | (at_builtin; rw [← HNA.out, ← HPC.out, ← HW4.out]; go_loud (refine wpList_append_any _ rfl (.tmp 55) (.tmp 65) 22 rfl w.heap.size 57 i0 (.agg #[.slice none 0 0, .int .i64 0, .float .f64 0]) 3 40 Tryz.underlying22 HI.out HZ0.out HZ1.out HZ2.out rfl (by omega) (.slice Av na cv) na (ptsV vs) rfl HO4.out (w2.heap.size + 1) (some ⟨w2.heap.size, 0, none⟩) 1 1 [.slice AL nL cL, .int .i64 ti, .float .f64 vz] rfl HR4.out (by simp [Value.oneCell']) (by simp [maxLen]; omega) (by omega) hwW ?_; intro v5 w5 hown5 hgrow5 hor5; have HO5 := Lib.hid hown5; have HG5 := Lib.hid hgrow5; clear hown5 hgrow5 hor5)))
              have hPI : PtsI w w5 (acc ++ [(ls, ti, vz)]) v5 := by
                refine ⟨⟨vs ++ [(.slice AL nL cL, ti, vz)], by rw [List.length_append, List.length_append, HV1.out]; rfl, ?_, fun i x q hx hq => ?_⟩, HB4.out.grown HG5.out hwW fun g e => (HO4.out.lt g e).1⟩
                · have h1 := HO5.out
                  rw [List.length_append, ← HNA.out, ptsV_append1]
                  exact h1
                · by_cases hi : i < na
                  · rw [List.getElem?_append_left (by rw [HV1.out, ← HNA.out]; exact hi)] at hx
                    rw [List.getElem?_append_left (by rw [← HNA.out]; exact hi)] at hq
                    obtain ⟨e1, e2, e3⟩ := HV3.out i x q hx hq
                    have e4 : W4.ownsRow w.heap.size 55 2 x.1 q.1.length (flatL q.1) := by rw [HW4.out]; exact e2.alloc pc
                    exact ⟨e1, e4.kept HG5.out (own_ne3 e4 HO4.out (by decide)), e3⟩
                  · have hil := (List.getElem?_eq_some_iff.1 hx).1
                    rw [List.length_append, HV1.out, ← HNA.out] at hil
                    have hi2 : i = na := by simp at hil; omega
                    rw [hi2, List.getElem?_append_right (by rw [HV1.out, ← HNA.out]; exact Nat.le_refl _), HV1.out, ← HNA.out, Nat.sub_self] at hx
                    rw [hi2, List.getElem?_append_right (by rw [← HNA.out]; exact Nat.le_refl _), ← HNA.out, Nat.sub_self] at hq
                    injection hx with hx
                    injection hq with hq
                    subst hx hq
                    refine ⟨rfl, ?_, lread_right HLN.out⟩
                    show w5.ownsRow w.heap.size 55 2 (.slice AL nL cL) ls.length (flatL ls)
                    rw [← HNL.out]
                    exact HOL4.out.kept HG5.out (own_ne3 HOL4.out HO4.out (by decide))
              have HPI := Lib.hid hPI
              have hW5 : ∀ a : Addr, a.block < w.heap.size → w5.cell? a = wr.cell? a := fun a ha => (hPI.bel.cell ha).trans (HS.out.pts.bel.cell ha).symm
              have HR5 := Lib.hid (HCUT.out.keep (w' := w5) hW5)
              have hdl : (rest.drop (8 + u + 16)).length = m - (8 + u + 16) := by rw [List.length_drop, ← HM.out]
              have HPS := Lib.hid (show ∀ A2, A2 = (if c1 = 8 + u + 16 then A1 else Option.map (fun x => x.add (8 + u + 16)) A1) → PoR w raw (.slice A2 (m - (8 + u + 16)) (c1 - (8 + u + 16))) v5 w5 from fun A2 hA2 => by
                refine ⟨A2, c1 - (8 + u + 16), f, acc ++ [(ls, ti, vz)], rest.drop (8 + u + 16), by rw [hdl], ⟨by rw [hdl]; omega, ?_, by rw [hdl]; have := HS.out.fuel; have := HM.out; omega, HEQ2.out, HPI.out, ?_⟩⟩
                · rw [hdl, hA2]
                  have h1 := HR5.out
                  rw [Nat.mul_one, bytesV_drop2] at h1
                  exact h1
                · rw [hdl, List.length_append, ← HNA.out]
                  simp only [List.length_cons, List.length_nil]
                  omega)
              clear hPI hW5 hdl
              by_cases hc16 : c1 = 8 + u + 16
              · have H3 := Lib.hid (HPS.out A1 (by rw [if_pos hc16]))
                go_wp2
                have h4 := H3.out
                rw [show c1 - (8 + u + 16) = 0 by omega] at h4
                exact ⟨h4, by simp only [slen]; omega⟩
              · have H3 := Lib.hid (HPS.out _ (by rw [if_neg hc16]))
                go_wp2
                exact ⟨H3.out, by simp only [slen]; omega⟩
end Go.Proofs.YtbeeejpjnniejaaGreatDoor
