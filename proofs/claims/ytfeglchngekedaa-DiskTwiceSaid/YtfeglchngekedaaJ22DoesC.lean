/- does (function 27): all that is told; any call. The plain law of DiskTwice: a crash behind a crash changes nothing; the names that are told are right ones. And the program's disk alone. An argument that is a row of Ops, opened, with the reach of their cuts. The walk of the law DiskExact (function 6). -/
import Derived.Test.YtfeglchngekedaaJ21Spoil2
import Derived.Test.YtfeglchngekedaaJ20Tell
import Derived.SizedLaws
namespace Go.Proofs.Ytfeglchngekedaa
open Go.RowKit Go.Shelf Go.Maps

set_option maxRecDepth 100000 in
set_option maxHeartbeats 25600000 in
theorem does_tell (w : World) (M : Nat → Prop) (pb p r n : Nat) (x : PS) (o : OpD) (hk : o.k % 11 = 10) (h : Both w M p r n x) (hpa : PairAt w M pb p r) (hn : n ≤ 9000) (ho : OpOk w M o) :
    Calls Try.prog 27 #[.pointer (some ⟨pb, 0, none⟩), .agg #[.int .i64 o.k, .int .i64 o.a, .int .i64 o.b, .string o.nm, .string o.t2, .slice o.A o.nb o.cb, .slice o.A2 o.nc o.cc]] w (OpPost w M p r n x) := by
  have hka := ho.k63
  have hnm := ho.nmL
  clear ho
  obtain ⟨k, a, b, nm, t2, A, nb, cb, bb, A2, nc, cc, cs⟩ := o
  dsimp only at *
  obtain ⟨w1, hw1⟩ : ∃ w1, w.alloc (.cells #[.int .i64 10, .int .i64 a, .int .i64 b, .string nm, .string t2, .slice A nb cb, .slice A2 nc cc] 47) = w1 := ⟨_, rfl⟩
  have hob : Blk w1 w.heap.size 47 #[.int .i64 10, .int .i64 a, .int .i64 b, .string nm, .string t2, .slice A nb cb, .slice A2 nc cc] := by rw [← hw1]; exact Blk.new w 47 _
  have hc1 : Chg M w w1 := by rw [← hw1]; exact (Chg.refl M w).alloc _
  have hb1 : Both w1 (fun k => M k ∧ k ≠ w.heap.size) p r n x := by rw [← hw1]; exact h.box _
  have hp1 := hpa.chg hc1
  have hpl := hp1.blk.lt
  have hs1 : w.heap.size < w1.heap.size := hob.lt
  have a0 : w1.cell? ⟨pb, 0, none⟩ = some (.pointer (some ⟨p, 0, none⟩)) := hp1.blk.cell 0
  have a1 : w1.cell? ⟨pb, 1, none⟩ = some (.pointer (some ⟨r, 0, none⟩)) := hp1.blk.cell 1
  have ad : w1.cell? ⟨w.heap.size, 0, none⟩ = some (.int .i64 10) := hob.cell 0
  have a3 : w1.cell? ⟨w.heap.size, 3, none⟩ = some (.string nm) := hob.cell 3
  have HA3 := Lib.hid a3
  have HSEE := Lib.hid (hb1.see ⟨hp1.blk, fun hm => hpa.out hm.1⟩)
  have HPR := Lib.hid (show PairAt w1 (fun k => M k ∧ k ≠ w.heap.size) pb p r from ⟨hp1.blk, fun hm => hpa.out hm.1⟩)
  have HB := Lib.hid hb1
  have HC1 := Lib.hid hc1
  have HV := Lib.hid hk
  obtain ⟨bs, cd, hrd⟩ : ∃ bs cd, x.read nm = (bs, cd) := ⟨_, _, rfl⟩
  obtain ⟨L, hL⟩ : ∃ L, L = x.list nm.data.toList := ⟨_, rfl⟩
  have hb1 := (hb1.pb.listB nm.data.toList).1
  rw [← hL] at hb1
  have HLM := Lib.hid (show L.length ≤ maxLen from Nat.le_trans hb1 (Nat.le_trans hn (by simp [maxLen])))
  have TR := Lib.hid (show ∀ w', Both w' (fun k => M k ∧ k ≠ w.heap.size) p r n x → Calls Try.prog 14 #[.pointer (some ⟨p, 0, none⟩), .string nm] w' (fun e w'' => ∃ v, e = .returned (.tuple #[v, .int .i64 cd]) ∧ w''.ownsRow w'.heap.size 5 1 v bs.length (bytesV bs) ∧ Below w'.heap.size w' w'') from fun w' hB => by
    have := tell_read w' _ p r n x nm hB (by omega) hnm
    rw [hrd] at this
    exact this)
  have TRR := Lib.hid (show ∀ w', Both w' (fun k => M k ∧ k ≠ w.heap.size) p r n x → Calls Try.prog 62 #[.pointer (some ⟨r, 0, none⟩), .string nm] w' (fun e w'' => ∃ v, e = .returned (.tuple #[v, .int .i64 cd]) ∧ w''.ownsRow w'.heap.size 5 1 v bs.length (bytesV bs) ∧ Below w'.heap.size w' w'') from fun w' hB => by
    have := tell_rread w' _ p r n x nm hB (by omega) hnm
    rw [hrd] at this
    exact this)
  have TL := Lib.hid (show ∀ w', Both w' (fun k => M k ∧ k ≠ w.heap.size) p r n x → Calls Try.prog 25 #[.pointer (some ⟨p, 0, none⟩), .string nm] w' (NamesPost w' L) from fun w' hB => by rw [hL]; exact tell_list w' _ p r n x nm hB (by omega))
  have TRL := Lib.hid (show ∀ w', Both w' (fun k => M k ∧ k ≠ w.heap.size) p r n x → Calls Try.prog 63 #[.pointer (some ⟨r, 0, none⟩), .string nm] w' (NamesPost w' L) from fun w' hB => by rw [hL]; exact tell_rlist w' _ p r n x nm hB (by omega) hnm)
  have hq1 : (cd == cd) = true := beq_self_eq_true _
  have hq3 : ((⟨bs.toArray⟩ : ByteArray).toList == (⟨bs.toArray⟩ : ByteArray).toList) = true := beq_self_eq_true _
  clear h hpa hob hc1 hb1 hp1 hk hrd hL a1
  go_enter Try.func27, Try.ntmps27
  go_wp2_with fail
  refine (keepwithin_any k 11 _ (by omega) (by omega)).mono ?_
  rintro e wz ⟨rfl, rfl⟩
  rw [HV.out]
  go_upto_region 19 with fail
  clear hw1 ad
  go_region_held3 (fun w' => w'.cell? ⟨pb, 0, none⟩ = some (.pointer (some ⟨p, 0, none⟩)) ∧ w'.cell? ⟨w.heap.size, 3, none⟩ = some (.string nm))
    (first | exact ⟨a0, a3⟩ | exact ⟨b0, b3⟩)
    ((go_at_call 14; refine (TR.out w1.drew (HB.out.drewN 1)).mono ?_; rintro e wa ⟨va, rfl, hoa, hBa⟩; obtain ⟨Aa, ca, rfl⟩ := own_slice hoa; have hBa := (show Below w1.heap.size w1 wa from (below_of_drew hBa)); have hsea := HSEE.out.below hBa; have b0 := hsea.a; have b1 := hsea.b; have b3 := (hBa.cell (show (⟨w.heap.size, 3, none⟩ : Addr).block < w1.heap.size from hs1)).trans a3; have HOA := Lib.hid (show wa.ownsRow w1.heap.size 5 1 _ _ _ from hoa); have HBA := Lib.hid hBa; have HSEA := Lib.hid hsea; have HHA := Lib.hid (HB.out.below hBa); have hsa := hBa.size; clear hoa hBa hsea))
  all_goals
    clear a0 a3 b0
    go_upto_region 20 with fail
    go_region_held3 (fun w' => w'.cell? ⟨pb, 1, none⟩ = some (.pointer (some ⟨r, 0, none⟩)) ∧ w'.cell? ⟨w.heap.size, 3, none⟩ = some (.string nm))
      (first | exact ⟨b1, b3⟩ | exact ⟨c1', c3⟩)
      ((go_at_call 62; refine (TRR.out wa.drew (HHA.out.drewN 1)).mono ?_; rintro e wb ⟨vb, rfl, hob, hBb⟩; obtain ⟨Ab, cb2, rfl⟩ := own_slice hob; have hBb := (show Below wa.heap.size wa wb from (below_of_drew hBb)); have hseb := HSEA.out.below hBb; have c0 := hseb.a; have c1' := hseb.b; have c3 := (hBb.cell (show (⟨w.heap.size, 3, none⟩ : Addr).block < wa.heap.size from by show w.heap.size < _; omega)).trans b3; have HOB := Lib.hid (show wb.ownsRow wa.heap.size 5 1 _ _ _ from hob); have HBB := Lib.hid (HBA.out.trans (hBb.mono hsa)); have HJA := Lib.hid ((Reads.of_own HOA.out).below hBb); have HSEB := Lib.hid hseb; have hsb := hBb.size; clear hob hBb hseb))
    all_goals
      clear b1 b3
      have HJA := Lib.hid (show Reads wb wb.heap.size 1 Aa bs.length (bytesV bs) from HJA.out.more hsb)
      have HJB := Lib.hid (Reads.of_own HOB.out)
      have j1 : (convert 22 9 (.slice Aa bs.length ca)).run Try.prog wb.drew = .ok (.string ⟨bs.toArray⟩) wb.drew := run_str_reads ca HJA.out.drew
      have j2 : (convert 22 9 (.slice Ab bs.length cb2)).run Try.prog wb.drew = .ok (.string ⟨bs.toArray⟩) wb.drew := run_str_reads cb2 HJB.out.drew
      have j3 : (convert 22 9 (.slice Aa bs.length ca)).run Try.prog wb = .ok (.string ⟨bs.toArray⟩) wb := run_str_reads ca HJA.out
      have j4 : (convert 22 9 (.slice Ab bs.length cb2)).run Try.prog wb = .ok (.string ⟨bs.toArray⟩) wb := run_str_reads cb2 HJB.out
      have HHB := Lib.hid (HB.out.below HBB.out)
      go_upto_region 21 with fail
      go_region_held3 (fun w' => w'.cell? ⟨pb, 0, none⟩ = some (.pointer (some ⟨p, 0, none⟩)) ∧ w'.cell? ⟨pb, 1, none⟩ = some (.pointer (some ⟨r, 0, none⟩)) ∧ w'.cell? ⟨w.heap.size, 3, none⟩ = some (.string nm) ∧ (convert 22 9 (.slice Aa bs.length ca)).run Try.prog w' = .ok (.string ⟨bs.toArray⟩) w' ∧ (convert 22 9 (.slice Ab bs.length cb2)).run Try.prog w' = .ok (.string ⟨bs.toArray⟩) w')
        (first | exact ⟨c0, c1', c3, j1, j2⟩ | exact ⟨c0, c1', c3, j3, j4⟩ | exact ⟨d0, d1, d3, d4, d5⟩ | exact ⟨e0, e1, e3, e4, e5⟩ | exact ⟨f0, f1, f3, f4, f5⟩ | exact ⟨g0, g1, g3, g4, g5⟩)
        ((first
          | (go_at_call 25; refine (TL.out wb.drew (HHB.out.drewN 1)).mono ?_; rintro e wc ⟨vc, rfl, hoc, hBc⟩; obtain ⟨Ac, cc2, rfl⟩ := own_slice hoc; have hBc := (show Below wb.heap.size wb wc from (below_of_drew hBc)); have hsec := HSEB.out.below hBc; have d0 := hsec.a; have d1 := hsec.b; have d3 := (hBc.cell (show (⟨w.heap.size, 3, none⟩ : Addr).block < wb.heap.size from by show w.heap.size < _; omega)).trans c3; have HOC := Lib.hid hoc; have HBC := Lib.hid (HBB.out.trans (hBc.mono (by omega))); have HSEC := Lib.hid hsec; have hsc := hBc.size; have HHC := Lib.hid (HB.out.below HBC.out); have HJAc := Lib.hid ((HJA.out.below hBc).more hBc.size); have HJBc := Lib.hid ((HJB.out.below hBc).more hBc.size); have d4 : (convert 22 9 (.slice Aa bs.length ca)).run Try.prog wc = .ok (.string ⟨bs.toArray⟩) wc := run_str_reads ca HJAc.out; have d5 : (convert 22 9 (.slice Ab bs.length cb2)).run Try.prog wc = .ok (.string ⟨bs.toArray⟩) wc := run_str_reads cb2 HJBc.out; clear hoc hBc hsec)
          | (go_at_call 63; refine (TRL.out wc HHC.out).mono ?_; rintro e wd ⟨vd, rfl, hod, hBd⟩; obtain ⟨Ad, cd3, rfl⟩ := own_slice hod; have hsed := HSEC.out.below hBd; have e0 := hsed.a; have e1 := hsed.b; have e3 := (hBd.cell (show (⟨w.heap.size, 3, none⟩ : Addr).block < wc.heap.size from by show w.heap.size < _; omega)).trans d3; have HOD := Lib.hid hod; have HRC := Lib.hid ((Reads.of_own HOC.out).below hBd); have HBD := Lib.hid (HBC.out.trans (hBd.mono (by omega))); have HSED := Lib.hid hsed; have hsd := hBd.size; have HJAd := Lib.hid ((HJAc.out.below hBd).more hBd.size); have HJBd := Lib.hid ((HJBc.out.below hBd).more hBd.size); have e4 : (convert 22 9 (.slice Aa bs.length ca)).run Try.prog wd = .ok (.string ⟨bs.toArray⟩) wd := run_str_reads ca HJAd.out; have e5 : (convert 22 9 (.slice Ab bs.length cb2)).run Try.prog wd = .ok (.string ⟨bs.toArray⟩) wd := run_str_reads cb2 HJBd.out; clear hod hBd hsed)
          | (go_at_call 30; refine (texts_same wd L HRC.out (Reads.of_own HOD.out) HLM.out).mono ?_; rintro e we ⟨rfl, hBe⟩; have hsee := HSED.out.below hBe; have f0 := hsee.a; have f1 := hsee.b; have f3 := (hBe.cell (show (⟨w.heap.size, 3, none⟩ : Addr).block < wd.heap.size from by show w.heap.size < _; omega)).trans e3; have HBE := Lib.hid (HBD.out.trans (hBe.mono (by omega))); have HSEE2 := Lib.hid hsee; have hse := hBe.size; have HHE := Lib.hid (HB.out.below HBE.out); have HJAe := Lib.hid ((HJAd.out.below hBe).more hBe.size); have HJBe := Lib.hid ((HJBd.out.below hBe).more hBe.size); have f4 : (convert 22 9 (.slice Aa bs.length ca)).run Try.prog we = .ok (.string ⟨bs.toArray⟩) we := run_str_reads ca HJAe.out; have f5 : (convert 22 9 (.slice Ab bs.length cb2)).run Try.prog we = .ok (.string ⟨bs.toArray⟩) we := run_str_reads cb2 HJBe.out; clear hBe hsee)
          | (go_at_call 29; refine (same_any we _ pb p r n x HHE.out ⟨HPR.out.blk.below HBE.out HPR.out.blk.lt, HPR.out.out⟩ (by omega)).mono ?_; rintro e wf ⟨rfl, hBf, hbf⟩; have hsef := HSEE2.out.below hbf; have g0 := hsef.a; have g1 := hsef.b; have g3 := (hbf.cell (show (⟨w.heap.size, 3, none⟩ : Addr).block < we.heap.size from by show w.heap.size < _; omega)).trans f3; have HHF := Lib.hid hBf; have HBF := Lib.hid (HBE.out.trans (hbf.mono (by omega))); have HJAf := Lib.hid ((HJAe.out.below hbf).more hbf.size); have HJBf := Lib.hid ((HJBe.out.below hbf).more hbf.size); have g4 : (convert 22 9 (.slice Aa bs.length ca)).run Try.prog wf = .ok (.string ⟨bs.toArray⟩) wf := run_str_reads ca HJAf.out; have g5 : (convert 22 9 (.slice Ab bs.length cb2)).run Try.prog wf = .ok (.string ⟨bs.toArray⟩) wf := run_str_reads cb2 HJBf.out; clear hBf hbf hsef)))
      all_goals
        clear c0 c1' c3 d0 d1 d3 e0 e1 e3 f0 f1 f3 g0 g1 g3 j1 j2 j3 j4 d4 d5 e4 e5 f4 f5 g4 g5
        go_wp2
        first | go_ret | refine bodyPost_ret (results_tmp rfl _ _ _) rfl ?_
        exact ⟨rfl, (HHF.out.more (fun k hk => hk.1)).up (Nat.le_succ n), HC1.out.below HBF.out (by omega)⟩

/-! ### any call -/
def DoesPost (w : World) (M : Nat → Prop) (p r n : Nat) (e : Ending) (w' : World) : Prop := e = .returned (.bool true) ∧ (∃ x', Both w' M p r (n + 1) x') ∧ Chg M w w'
theorem does_any (w : World) (M : Nat → Prop) (pb p r n : Nat) (x : PS) (o : OpD) (h : Both w M p r n x) (hpa : PairAt w M pb p r) (hn : n ≤ 9000) (ho : OpOk w M o) :
    Calls Try.prog 27 #[.pointer (some ⟨pb, 0, none⟩), .agg #[.int .i64 o.k, .int .i64 o.a, .int .i64 o.b, .string o.nm, .string o.t2, .slice o.A o.nb o.cb, .slice o.A2 o.nc o.cc]] w (DoesPost w M p r n) := by
  have wk : ∀ {x' : PS} {e : Ending} {w' : World}, OpPost w M p r n x' e w' → DoesPost w M p r n e w' := fun h => ⟨h.1, ⟨_, h.2.1⟩, h.2.2⟩
  have hn2 : n ≤ 10000 := by omega
  have hc : o.k % 11 < 6 ∨ o.k % 11 = 6 ∨ o.k % 11 = 7 ∨ o.k % 11 = 8 ∨ o.k % 11 = 9 ∨ o.k % 11 = 10 := by omega
  rcases hc with hk | hk | hk | hk | hk | hk
  · exact (does_oper w M pb p r n x o hk h hpa hn2 ho).mono fun _ _ h => wk h
  · exact (does_fault w M pb p r n x o hk h hpa hn2 ho).mono fun _ _ h => wk h
  · exact (does_stop w M pb p r n x o hk h hpa hn2 ho).mono fun _ _ h => wk h
  · exact (does_crash w M pb p r n x o hk h hpa hn ho).mono fun _ _ h => wk h
  · exact (does_cap w M pb p r n x o hk h hpa hn2 ho).mono fun _ _ h => wk h
  · exact (does_tell w M pb p r n x o hk h hpa hn ho).mono fun _ _ h => wk h
end Go.Proofs.Ytfeglchngekedaa
namespace Go.Proofs.Ytfeglchngekedaa
open Go.RowKit Go.Shelf Go.Maps

/-! ### names are right ones -/
structure PR (x : PS) : Prop where
  dir : ∀ e ∈ x.dir, rightB (nmBA e.1) = true
  kept : ∀ e ∈ x.kept, rightB (nmBA e.1) = true
  pend : ∀ c ∈ x.pend, c.kind = 1 ∨ c.kind = 2 → rightB (nmBA c.nm) = true
theorem nmBA_of (nm : ByteArray) : nmBA nm.data.toList = nm := by
  unfold nmBA
  apply ByteArray.ext
  simp
theorem nmBA_data (l : Nm) : (nmBA l).data.toList = l := by simp [nmBA]
theorem rdo_right (m : Dl) (c : RC) (h : ∀ e ∈ m, rightB (nmBA e.1) = true) (hc : c.kind = 1 ∨ c.kind = 2 → rightB (nmBA c.nm) = true) : ∀ e ∈ rdo m c, rightB (nmBA e.1) = true := by
  intro e he
  unfold rdo rset at he
  split at he
  · rename_i h1
    rcases List.mem_append.1 he with he | he
    · exact h e ((mem_ddel _ _ _).1 he).1
    · rw [List.mem_singleton.1 he]; exact hc (.inl h1)
  · split at he
    · rename_i h2
      rcases List.mem_append.1 he with he | he
      · exact h e ((mem_ddel _ _ _).1 ((mem_ddel _ _ _).1 he).1).1
      · rw [List.mem_singleton.1 he]; exact hc (.inr h2)
    · exact h e ((mem_ddel _ _ _).1 he).1
theorem fold_right : ∀ (l : List RC) (m : Dl), (∀ e ∈ m, rightB (nmBA e.1) = true) → (∀ c ∈ l, c.kind = 1 ∨ c.kind = 2 → rightB (nmBA c.nm) = true) → ∀ e ∈ l.foldl rdo m, rightB (nmBA e.1) = true
  | [], _, h, _ => h
  | c :: l, m, h, hc => fold_right l (rdo m c) (rdo_right m c h (hc c List.mem_cons_self)) (fun d hd => hc d (List.mem_cons_of_mem _ hd))
section
variable {x : PS}
theorem PR.begun (h : PR x) : PR x.begun := ⟨h.dir, h.kept, h.pend⟩
theorem PR.change (h : PR x) (d : RC) (hd : d.kind = 1 ∨ d.kind = 2 → rightB (nmBA d.nm) = true) (dir : Dl) (hm : ∀ e ∈ dir, rightB (nmBA e.1) = true) (files : List (List UInt8 × Nat)) : PR { x with dir := dir, pend := x.pend ++ [d], files := files } where
  dir := hm
  kept := h.kept
  pend := fun c hc => by
    rcases List.mem_append.1 (show c ∈ x.pend ++ [d] from hc) with hc | hc
    · exact h.pend c hc
    · rw [List.mem_singleton.1 hc]; exact hd
theorem PR.created (h : PR x) (nm : ByteArray) (hr : rightB nm = true) : PR (x.created nm.data.toList) :=
  h.change ⟨1, [], nm.data.toList, x.files.length⟩ (fun _ => by show rightB (nmBA nm.data.toList) = true; rw [nmBA_of]; exact hr) _ (fun e he => by
    rcases List.mem_append.1 he with he | he
    · exact h.dir e ((mem_ddel _ _ _).1 he).1
    · rw [List.mem_singleton.1 he]; show rightB (nmBA nm.data.toList) = true; rw [nmBA_of]; exact hr) (x.files ++ [([], 0)])
theorem PR.renamed (h : PR x) (od nm : ByteArray) (hr : rightB nm = true) (f : Nat) : PR (x.renamed od.data.toList nm.data.toList f) :=
  h.change ⟨2, od.data.toList, nm.data.toList, f⟩ (fun _ => by show rightB (nmBA nm.data.toList) = true; rw [nmBA_of]; exact hr) _ (fun e he => by
    rcases List.mem_append.1 he with he | he
    · exact h.dir e ((mem_ddel _ _ _).1 ((mem_ddel _ _ _).1 he).1).1
    · rw [List.mem_singleton.1 he]; show rightB (nmBA nm.data.toList) = true; rw [nmBA_of]; exact hr) x.files
theorem PR.removed (h : PR x) (nm : Nm) : PR (x.removed nm) :=
  h.change ⟨3, [], nm, 0⟩ (fun hk => by
    rcases hk with hk | hk
    · exact absurd (show (3 : Int) = 1 from hk) (by decide)
    · exact absurd (show (3 : Int) = 2 from hk) (by decide)) _ (fun e he => h.dir e ((mem_ddel _ _ _).1 he).1) x.files
theorem PR.addTo (h : PR x) (nm : Nm) (b : List UInt8) : PR (x.addTo nm b) := by
  unfold PS.addTo
  split
  · exact ⟨h.dir, h.kept, h.pend⟩
  · exact h
theorem PR.create (h : PR x) (nm : ByteArray) : PR (x.create nm).2 := by
  unfold PS.create
  split
  · split
    · rename_i hr
      split
      · exact h.begun
      · exact h.begun.created nm hr
    · exact h.begun
  · exact h.begun
theorem PR.append (h : PR x) (nm : ByteArray) (b : List UInt8) : PR (x.append nm b).2 := by
  unfold PS.append
  split
  · show PR (if _ then _ else _)
    split
    · exact h.begun.addTo _ _
    · exact h.begun
  · show PR (if _ then _ else _)
    split
    · exact h.begun.addTo _ _
    · exact h.begun
theorem PR.sync (h : PR x) (nm : ByteArray) : PR (x.sync nm).2 := by
  unfold PS.sync
  split
  · split
    · split
      · exact ⟨h.dir, h.kept, h.pend⟩
      · exact h.begun
    · exact h.begun
  · exact h.begun
theorem PR.rename (h : PR x) (od nm : ByteArray) : PR (x.rename od nm).2 := by
  unfold PS.rename
  split
  · split
    · rename_i hr
      split
      · split
        · exact h.begun
        · exact h.begun.renamed od nm hr.2 _
      · exact h.begun
    · exact h.begun
  · exact h.begun
theorem PR.remove (h : PR x) (nm : ByteArray) : PR (x.remove nm).2 := by
  unfold PS.remove
  split
  · split
    · split
      · exact h.begun.removed _
      · exact h.begun
    · exact h.begun
  · exact h.begun
theorem PR.syncDir (h : PR x) : PR x.syncDir.2 := by
  unfold PS.syncDir
  split
  · exact ⟨h.dir, h.dir, (fun c hc => by cases hc)⟩
  · exact h.begun
theorem PR.oper (h : PR x) (k : Int) (nm t2 : ByteArray) (bs : List UInt8) : PR (x.oper k nm t2 bs) := by
  unfold PS.oper
  split
  · exact h.create nm
  · split
    · exact h.append nm _
    · split
      · exact h.sync nm
      · split
        · exact h.rename nm t2
        · split
          · exact h.remove nm
          · exact h.syncDir
theorem PR.crash (h : PR x) (cs : List Int) : PR (x.crash cs) := by
  have hd : ∀ e ∈ x.crashDir cs, rightB (nmBA e.1) = true := fold_right _ _ h.kept (fun c hc => h.pend c (List.mem_of_mem_take hc))
  exact ⟨hd, hd, (fun c hc => by cases hc)⟩
end
theorem PR.empty (cap : Int) : PR (emptyR cap).pl := ⟨(fun e he => by cases he), (fun e he => by cases he), (fun c hc => by cases hc)⟩

/-- what any call leaves -/
def PS.does (x : PS) (o : OpD) : PS :=
  if o.k % 11 < 6 then x.oper (o.k % 11) o.nm o.t2 o.bs else if o.k % 11 = 6 then x.fault o.a o.b else if o.k % 11 = 7 then { x with stop := max o.a 0 } else if o.k % 11 = 8 then x.crash o.cs else if o.k % 11 = 9 then { x with cap := max o.a 0 } else x
theorem PR.does {x : PS} (h : PR x) (o : OpD) : PR (x.does o) := by
  unfold PS.does
  split
  · exact h.oper _ _ _ _
  · split
    · exact ⟨h.dir, h.kept, h.pend⟩
    · split
      · exact ⟨h.dir, h.kept, h.pend⟩
      · split
        · exact h.crash _
        · split
          · exact ⟨h.dir, h.kept, h.pend⟩
          · exact h
theorem does_all (w : World) (M : Nat → Prop) (pb p r n : Nat) (x : PS) (o : OpD) (h : Both w M p r n x) (hpa : PairAt w M pb p r) (hn : n ≤ 9000) (ho : OpOk w M o) :
    Calls Try.prog 27 #[.pointer (some ⟨pb, 0, none⟩), .agg #[.int .i64 o.k, .int .i64 o.a, .int .i64 o.b, .string o.nm, .string o.t2, .slice o.A o.nb o.cb, .slice o.A2 o.nc o.cc]] w (OpPost w M p r n (x.does o)) := by
  have hn2 : n ≤ 10000 := by omega
  unfold PS.does
  split
  · rename_i hk
    exact does_oper w M pb p r n x o hk h hpa hn2 ho
  · split
    · rename_i hk
      exact does_fault w M pb p r n x o hk h hpa hn2 ho
    · split
      · rename_i hk
        exact does_stop w M pb p r n x o hk h hpa hn2 ho
      · split
        · rename_i hk
          exact does_crash w M pb p r n x o hk h hpa hn ho
        · split
          · rename_i hk
            exact does_cap w M pb p r n x o hk h hpa hn2 ho
          · exact does_tell w M pb p r n x o (by omega) h hpa hn ho

/-! ### a crash behind a crash -/
theorem cut_fix {files : Fl} {f : Nat} (cs : List Int) (h : ∀ y, files[f]? = some y → y.2 = y.1.length) : cutF files f cs = files := by
  unfold cutF
  apply List.ext_getElem?
  intro k
  rw [List.getElem?_modify]
  by_cases e : f = k
  · subst e
    cases hf : files[f]? with
    | none => rfl
    | some y =>
      have h1 := h y hf
      have h2 := cutN_bd cs hf (by omega)
      have h3 : cutN files f cs = y.1.length := by omega
      rw [h3]
      simp only [if_true, Option.map_eq_map, Option.map_some, List.take_length]
      rw [← h1]
  · simp [e]
theorem cuts_fix (D : Dl) : ∀ (keys : List Nm) (st : Fl × List Int), (∀ nm ∈ keys, ∀ y, st.1[(dget D nm).getD 0]? = some y → y.2 = y.1.length) → (keys.foldl (cutStep D) st).1 = st.1
  | [], _, _ => rfl
  | nm :: r, st, h => by
    have h1 : (cutStep D st nm).1 = st.1 := cut_fix st.2 (h nm List.mem_cons_self)
    rw [List.foldl_cons, cuts_fix D r _ (fun m hm => by rw [h1]; exact h m (List.mem_cons_of_mem _ hm)), h1]
theorem cuts_full (D : Dl) (B : Nat) (f : Nat) : ∀ (keys : List Nm) (st : Fl × List Int), (∀ y ∈ st.1, y.1.length ≤ B ∧ y.2 ≤ y.1.length) → ((∀ y, st.1[f]? = some y → y.2 = y.1.length) ∨ ∃ nm ∈ keys, (dget D nm).getD 0 = f) →
    ∀ y, (keys.foldl (cutStep D) st).1[f]? = some y → y.2 = y.1.length
  | [], _, _, h => by
    rcases h with h | ⟨nm, hm, _⟩
    · exact h
    · cases hm
  | nm :: r, st, hb, h => by
    rw [List.foldl_cons]
    refine cuts_full D B f r _ (cut_all D B [nm] st hb) ?_
    by_cases e : (dget D nm).getD 0 = f
    · refine .inl fun y hy => ?_
      have hy : (st.1.modify ((dget D nm).getD 0) fun y => (y.1.take (cutN st.1 ((dget D nm).getD 0) st.2), cutN st.1 ((dget D nm).getD 0) st.2))[f]? = some y := hy
      rw [e, List.getElem?_modify] at hy
      cases hf : st.1[f]? with
      | none => rw [hf] at hy; cases hy
      | some z =>
        rw [hf] at hy
        have h2 := cutN_bd st.2 hf (hb z (List.mem_of_getElem? hf)).2
        simp at hy
        rw [← hy]
        show _ = (z.1.take _).length
        rw [List.length_take]
        omega
    · rcases h with h | ⟨m, hm, hme⟩
      · refine .inl fun y hy => h y ?_
        have hy : (cutF st.1 ((dget D nm).getD 0) st.2)[f]? = some y := hy
        unfold cutF at hy
        rwa [get_modify_other _ _ e] at hy
      · rcases List.mem_cons.1 hm with rfl | hm
        · exact absurd hme e
        · exact .inr ⟨m, hm, hme⟩
theorem crash_twice {x : PS} {n : Nat} (h : PB n x) (a b : List Int) : (x.crash a).crash b = x.crash a := by
  have hd : (x.crash a).crashDir b = x.crashDir a := by
    show (([] : List RC).take _).foldl rdo (x.crashDir a) = x.crashDir a
    rw [List.take_nil]; rfl
  have hf : ((((x.crash a).crashDir b).map (·.1)).mergeSort (fun a b => decide (a ≤ b)) |>.foldl (cutStep ((x.crash a).crashDir b)) ((x.crash a).files, b.tail)).1 = (x.crash a).files := by
    rw [hd]
    exact cuts_fix _ _ _ fun nm hm => cuts_full (x.crashDir a) (1000 * n) _ _ (x.files, a.tail) (fun y hy => h.bytesL y hy) (.inr ⟨nm, hm, rfl⟩)
  show ({ (x.crash a) with files := ((((x.crash a).crashDir b).map (·.1)).mergeSort (fun a b => decide (a ≤ b)) |>.foldl (cutStep ((x.crash a).crashDir b)) ((x.crash a).files, b.tail)).1, dir := (x.crash a).crashDir b, kept := (x.crash a).crashDir b, pend := [], flts := [], stop := -1 } : PS) = x.crash a
  rw [hf, hd]
  rfl
theorem crash_durable (x : PS) (a : List Int) : (x.crash a).durable = (x.crash a).list [] := by
  unfold PS.durable PS.list
  rw [begN_nil]
  rfl
theorem read_ok {y : PS} (h : PR y) {nm : Nm} (hm : nm ∈ y.list []) : (y.read (nmBA nm)).2 = 0 := by
  obtain ⟨e, he, rfl⟩ := list_mem hm
  unfold PS.read
  rw [if_pos (h.dir e he), nmBA_data]
  cases hd : dget y.dir e.1 with
  | some f => rfl
  | none =>
    unfold dget at hd
    rw [Option.map_eq_none_iff, List.find?_eq_none] at hd
    exact absurd (by simp) (hd e he)

/-! ### the program's disk alone -/
def Solo (w : World) (F : Nat → Prop) (p n : Nat) (x : PS) : Prop := ∃ s φ, DiskAt w F p s ∧ Rel φ s x ∧ PB n x ∧ PC x
theorem Both.solo {w : World} {M : Nat → Prop} {p r n : Nat} {x : PS} (h : Both w M p r n x) : ∃ F, Solo w F p n x ∧ ∀ k, F k → M k ∧ k < w.heap.size := by
  obtain ⟨F, G, s, t, φ, hp, h1, h2, h3, -⟩ := h
  exact ⟨F, ⟨s, φ, hp.d, h1, h2, h3⟩, hp.fM⟩
theorem Solo.below {w w' : World} {F : Nat → Prop} {p n : Nat} {x : PS} (h : Solo w F p n x) (hb : Below w.heap.size w w') : Solo w' F p n x := by
  obtain ⟨s, φ, hd, h1⟩ := h
  exact ⟨s, φ, hd.keep (fun k _ hlt => hb.block k hlt) (fun _ h => h), h1⟩
theorem Solo.restrict {w : World} {F : Nat → Prop} {p n : Nat} {x : PS} (h : Solo w F p n x) : Solo w (fun k => F k ∧ k < w.heap.size) p n x := by
  obtain ⟨s, φ, hd, h1⟩ := h
  exact ⟨s, φ, hd.restrict, h1⟩
theorem Solo.pb {w : World} {F : Nat → Prop} {p n : Nat} {x : PS} (h : Solo w F p n x) : PB n x := by
  obtain ⟨s, φ, hd, h1, h2, h3⟩ := h
  exact h2
section
variable (w : World) (F : Nat → Prop) (p n : Nat) (x : PS)
theorem solo_read (nm : ByteArray) (h : Solo w F p n x) (hn : n ≤ 10000) (hnm : nm.size ≤ maxLen) : Calls Try.prog 14 #[.pointer (some ⟨p, 0, none⟩), .string nm] w (RReadPost w (x.read nm)) := by
  obtain ⟨s, φ, hd, hrel, hpb, hpc⟩ := h
  obtain ⟨ho, hf⟩ := hrel.opsB hpb hn
  refine (read_any w F p s nm hd (Nat.le_trans hnm (by simp [maxLen])) hnm (by omega)).mono ?_
  rintro e w' ⟨v, rfl, h1, h2⟩
  rw [read_same hrel nm] at h1 ⊢
  exact ⟨v, rfl, h1, h2⟩
theorem solo_list (pre : ByteArray) (h : Solo w F p n x) (hn : n ≤ 10000) : Calls Try.prog 25 #[.pointer (some ⟨p, 0, none⟩), .string pre] w (NamesPost w (x.list pre.data.toList)) := by
  obtain ⟨s, φ, hd, hrel, hpb, hpc⟩ := h
  obtain ⟨ho, hf⟩ := hrel.opsB hpb hn
  refine (list_any w F p s pre hd (by omega)).mono ?_
  rintro e w' ⟨v, ss, rfl, h1, h2, h3⟩
  rw [list_same hrel hd.names.tidy pre.data.toList h1] at h2
  refine ⟨v, rfl, ?_, h3⟩
  have e1 : ss.length = (x.list pre.data.toList).length := by rw [← list_same hrel hd.names.tidy pre.data.toList h1, List.length_mergeSort]
  rwa [e1] at h2
theorem solo_durable (h : Solo w F p n x) (hn : n ≤ 10000) : Calls Try.prog 31 #[.pointer (some ⟨p, 0, none⟩)] w (NamesPost w x.durable) := by
  obtain ⟨s, φ, hd, hrel, hpb, hpc⟩ := h
  obtain ⟨ho, hf⟩ := hrel.opsB hpb hn
  refine (durable_any w F p s hd (by omega)).mono ?_
  rintro e w' ⟨v, ss, rfl, h1, h2, h3⟩
  rw [durable_same hrel hd.safe.tidy h1] at h2
  refine ⟨v, rfl, ?_, h3⟩
  have e1 : ss.length = x.durable.length := by rw [← durable_same hrel hd.safe.tidy h1, List.length_mergeSort]
  rwa [e1] at h2
theorem solo_crash (A : Option Addr) (m c : Nat) (cs : List Int) (hm : m = cs.length) (h : Solo w F p n x) (hn : n ≤ 10000) (hR : Reads w w.heap.size 1 A m (cs.map (Value.int .i64))) (hc : m ≤ c) :
    Calls Try.prog 13 #[.pointer (some ⟨p, 0, none⟩), .slice A m c] w fun e w' => e = .returned (.tuple #[]) ∧ Solo w' (fun k => Gr F w k ∧ k < w'.heap.size) p (n + 1) (x.crash cs) ∧ Chg F w w' := by
  subst hm
  obtain ⟨s, φ, hd, hrel, hpb, hpc⟩ := h
  obtain ⟨ho, hf⟩ := hrel.opsB hpb hn
  refine (crash_any w F p s A c cs hd hR hc (by omega) (safe_len hrel hpc hd.safe.tidy)).mono ?_
  rintro e w' ⟨rfl, dir, ss, keys, lst, mn, ms, k1, k2, k3, k4, k5, k6, k7, k8, -, hd2, hc⟩
  obtain ⟨-, -, ⟨φ2, h4⟩, h5, h6⟩ := crash_sim hrel hpb hpc (fun g hg => (hd.file g hg).le) cs dir ss keys lst mn ms k1 k2 k3 k4 k5 k6 k7 k8
  exact ⟨rfl, ⟨_, φ2, hd2.restrict, h4, h5, h6⟩, hc⟩
end
end Go.Proofs.Ytfeglchngekedaa
namespace Go.Proofs.Ytfeglchngekedaa
open Go.ChangeShapes Go.WideShapes Go.ChangeAt Go.RowKit Go.Deep

theorem weights_all_mem {H : Type} {P : Program} {e : TypeId} : ∀ {ds : List (DataW H)} {i : Nat} {d : DataW H}, ds[i]? = some d → ∀ n ∈ d.weights P e, n ∈ DataW.weightsAll P e ds
  | d0 :: ds, 0, d, h, n, hn => by
    simp only [List.getElem?_cons_zero, Option.some.injEq] at h
    subst h
    simp only [DataW.weightsAll, List.mem_append]
    exact .inl hn
  | d0 :: ds, i + 1, d, h, n, hn => by
    simp only [List.getElem?_cons_succ] at h
    simp only [DataW.weightsAll, List.mem_append]
    exact .inr (weights_all_mem h n hn)
  | [], _, _, h, _, _ => by simp at h
theorem reach_47 : reachBytes ≤ 140737488355328 := by decide
section
variable {H : Type} {enc : TypeId × Value → H} {P : Program} {w : World} {base : Nat} {spare : Nat → Bool} {held : Bool}
theorem ints_weight {t e : TypeId} {k : IntKind} {fuel : Nat} {v : Value} {x : DataW H × List MemPlace} (ht : P.underlying t = some (.slice e)) (he : P.underlying e = some (.int k)) (hc1 : P.cellsOf e = 1) (hB : P.bytesOf e = 8)
    (h : DataW.trod enc P w base spare held fuel t [v] = some x) (hz : ∀ n ∈ x.1.weights P t, n ≤ reachBytes) {A : Option Addr} {n cap : Nat} (hv : v = .slice A n cap) : n * 8 ≤ 140737488355328 := by
  subst hv
  rcases open_ints ht he hc1 h with ⟨hcs, _⟩ | ⟨a', len', cap', zs, hcs, _, hl, hm, hzl, hx, hc, hwf⟩
  · injection hcs with hcs
    injection hcs with _ h2 _
    omega
  · injection hcs with hcs
    injection hcs with _ h2 _
    subst hx
    have h1 := hz _ (by
      simp only [DataW.weights, ht, List.mem_cons]
      exact .inl rfl)
    rw [hB] at h1
    have h3 : (lits (H := H) k (zs.take len')).length + (lits (H := H) k (zs.drop len')).length = zs.length := by
      simp only [lits, List.length_map]
      rw [← List.length_append, List.take_append_drop]
    rw [h3] at h1
    have h4 := reach_47
    have h5 : n ≤ zs.length := by rw [hzl, h2]; split <;> omega
    omega
end
def OpsAt2 (W : World) (A : Option Addr) (n : Nat) : Prop := ∀ i, i < n → ∃ d, A = some d ∧ d.block < W.heap.size ∧ ∃ o, OpAt W d i o ∧ o.nc * 8 ≤ 140737488355328
theorem bytes3 : Try.prog.bytesOf 3 = 8 := by kernel_rfl
set_option maxRecDepth 100000 in
theorem open_ops2 {H : Type} {enc : TypeId × Value → H} {W : World} {base b0 : Nat} {sp : Nat → Bool} {held : Bool} {r : Reach} {v : Value} {d : DataW H} {ps : List MemPlace}
    (hv : Value.okWide Try.prog W r b0 39 v) (h : DataW.Trod enc Try.prog W base sp held 39 v d ps) (hz : ∀ n ∈ d.weights Try.prog 39, n ≤ reachBytes) : ∃ (A : Option Addr) (n cap : Nat), v = .slice A n cap ∧ n ≤ cap ∧ n ≤ maxLen ∧ OpsAt2 W A n := by
  obtain ⟨a, len, cap, rfl⟩ := okWide_slice Try.underlying39 hv
  obtain ⟨fuel, hf⟩ := h
  rcases open_slice_fields Try.underlying39 Try.underlying47 (by kernel_rfl) (by kernel_rfl) hf with ⟨hcs, -⟩ | ⟨a', len', cap', m, D, Pl, hcs, -, hl, hm, hmm, hx, hi⟩
  · simp only [Value.cells, List.cons.injEq, and_true] at hcs
    cases hcs
    exact ⟨none, 0, 0, rfl, Nat.le_refl _, Nat.zero_le _, fun i hi => absurd hi (Nat.not_lt_zero _)⟩
  · simp only [Value.cells, List.cons.injEq, and_true] at hcs
    cases hcs
    have hml : len ≤ m := by rw [hmm]; split <;> omega
    injection hx with hx _
    refine ⟨some a', len, cap, rfl, hl, Nat.le_trans hl hm, fun i hil => ?_⟩
    obtain ⟨ys, n, hD, -, hyl, hfld⟩ := hi i (by omega)
    have hzi : ∀ n ∈ (D i).weights Try.prog 47, n ≤ reachBytes := fun n hn => hz n (by
      rw [hx]
      simp only [DataW.weights, Try.underlying39, List.mem_cons, List.mem_append]
      exact .inr (.inl (weights_all_mem (i := i) (d := D i) (by rw [List.getElem?_map, List.getElem?_range hil]; rfl) n hn)))
    obtain ⟨v0, y0, q0, -, t0⟩ := hfld 0 _ rfl
    obtain ⟨v1, y1, q1, -, t1⟩ := hfld 1 _ rfl
    obtain ⟨v2, y2, q2, -, t2⟩ := hfld 2 _ rfl
    obtain ⟨v3, y3, q3, -, t3⟩ := hfld 3 _ rfl
    obtain ⟨v4, y4, q4, -, t4⟩ := hfld 4 _ rfl
    obtain ⟨v5, y5, q5, -, t5⟩ := hfld 5 _ rfl
    obtain ⟨v6, y6, q6, hy6, t6⟩ := hfld 6 _ rfl
    have hz6 : ∀ n ∈ y6.1.weights Try.prog 23, n ≤ reachBytes := fun n hn => hzi n (by
      rw [hD]
      simp only [DataW.weights, Try.underlying47]
      exact DataW.weights_mem_each (j := 6) (t := 23) (d := y6.1) rfl (by rw [List.getElem?_map, hy6]; rfl) n hn)
    obtain ⟨n0, rfl, w0⟩ := one_int Try.underlying3 t0
    obtain ⟨n1, rfl, w1⟩ := one_int Try.underlying3 t1
    obtain ⟨n2, rfl, w2⟩ := one_int Try.underlying3 t2
    obtain ⟨s3, rfl, l3⟩ := one_string Try.underlying9 t3
    obtain ⟨s4, rfl, l4⟩ := one_string Try.underlying9 t4
    obtain ⟨A5, n5, c5, x5, rfl, hc5, hm5, hR5, hw5⟩ := one_ints Try.underlying22 Try.underlying5 cells5 t5
    obtain ⟨A6, n6, c6, x6, rfl, hc6, hm6, hR6, hw6⟩ := one_ints Try.underlying23 Try.underlying3 cells3 t6
    have h47 := ints_weight Try.underlying23 Try.underlying3 cells3 bytes3 t6 hz6 rfl
    obtain ⟨b5, e5, -⟩ := u8_list x5 hw5
    rw [e5] at hR5
    refine ⟨a', rfl, ?_, ⟨n0, n1, n2, s3, s4, A5, n5, c5, b5, A6, n6, c6, x6⟩, ⟨q0, q1, q2, q3, q4, q5, q6, wf63 w0, wf63 w1, wf63 w2, l3, l4, hR5, hc5, hm5, hR6, hc6, hm6⟩, h47⟩
    have := World.block_lt_of_cell? W _ q0
    rwa [block_of_add] at this
end Go.Proofs.Ytfeglchngekedaa
namespace Go.Proofs.Ytfeglchngekedaa
open Go.RowKit Go.Shelf Go.Maps

/-- the outside of the law's own memory -/
theorem OpAt.ok {W w' : World} {d : Addr} {i : Nat} {o : OpD} {M : Nat → Prop} (h : OpAt W d i o) (h47 : o.nc * 8 ≤ 140737488355328) (hb : Below W.heap.size W w') (hM : ∀ k, M k → W.heap.size ≤ k) : OpOk w' M o where
  k63 := h.k63
  a63 := h.a63
  b63 := h.b63
  nmL := h.nmL
  t2L := h.t2L
  bR := (h.bR.below hb).more hb.size
  bA := fun h0 ad e hm => by
    obtain ⟨ad', e', hlt, -⟩ := h.bR.2 h0
    rw [e] at e'
    injection e' with e'
    subst e'
    have := hM _ hm
    omega
  bC := h.bC
  bL := h.bL
  cR := (h.cR.below hb).more hb.size
  cA := fun h0 ad e hm => by
    obtain ⟨ad', e', hlt, -⟩ := h.cR.2 h0
    rw [e] at e'
    injection e' with e'
    subst e'
    have := hM _ hm
    omega
  cC := h.cC
  cL := h.cL
  c47 := h47

/-- two empty disks and their pair -/
theorem start_both {w w1 w2 : World} {cap : Int} {p r mn ms : Nat} (hD : DiskAt w1 (fun k => w.heap.size ≤ k) p (emptyS cap mn ms)) (hb1 : Below w.heap.size w w1) (hR : RefAt w2 (fun k => w1.heap.size ≤ k) r (emptyR cap)) (hb2 : Below w1.heap.size w1 w2) :
    Both w2 (fun k => w.heap.size ≤ k) p r 0 (emptyR cap).pl := by
  have hs1 := hb1.size
  have hs2 := hb2.size
  have hD2 : DiskAt w2 (fun k => w.heap.size ≤ k ∧ k < w1.heap.size) p (emptyS cap mn ms) := hD.restrict.keep (fun k hk hlt => hb2.block k hlt) (fun _ h => h)
  have hR2 : RefAt w2 (fun k => w1.heap.size ≤ k ∧ k < w2.heap.size) r (emptyR cap) := hR.restrict
  exact ⟨_, _, _, emptyR cap, _, ⟨hD2, hR2, fun k hk => ⟨hk.1, by omega⟩, fun k hk => ⟨by omega, hk.2⟩, fun k hk hg => by omega, fun k hk => by omega⟩, empty_rel cap mn ms, empty_pb cap, empty_pc cap, rfl⟩

def ExR (w : World) (n pb p r : Nat) (i : Value) (wr : World) : Prop :=
  ∃ (k : Nat) (x : PS), k ≤ n ∧ k ≤ 200 ∧ i = .int .i64 k ∧ Both wr (fun k => w.heap.size ≤ k ∧ k ≠ pb) p r k x ∧ PairAt wr (fun k => w.heap.size ≤ k ∧ k ≠ pb) pb p r ∧ Below w.heap.size w wr

set_option maxRecDepth 100000 in
set_option maxHeartbeats 102400000 in
theorem exact_any (w : World) (cap : Int) (hcap : cap ≤ 9223372036854775807) (A : Option Addr) (n c : Nat) (hO : OpsAt2 w A n) : Calls Try.prog 6 #[.int .i64 cap, .slice A n c] w fun e w' => e = .returned (.bool true) ∧ Below w.heap.size w w' := by
  have HO := Lib.hid hO
  clear hO
  go_enter Try.func6, Try.ntmps6
  go_wp2_with fail
  refine (new_any cap w (by omega)).mono ?_
  rintro e w1 ⟨p, mn, ms, rfl, hD1, hb1⟩
  have HD1 := Lib.hid hD1
  have HB1 := Lib.hid hb1
  have hs1 := hb1.size
  clear hD1 hb1
  go_wp2_with fail
  refine (rnew_any w1 cap (by omega)).mono ?_
  rintro e w2 ⟨r, rfl, hR2, hb2⟩
  have hs2 := hb2.size
  have hB := start_both HD1.out HB1.out hR2 hb2
  have hBb := hB.box (.cells #[.pointer (some ⟨p, 0, none⟩), .pointer (some ⟨r, 0, none⟩)] 45)
  have hBL : Below w.heap.size w (w2.alloc (.cells #[.pointer (some ⟨p, 0, none⟩), .pointer (some ⟨r, 0, none⟩)] 45)) := (HB1.out.trans (hb2.mono hs1)).alloc (by omega) _
  have hPA : PairAt (w2.alloc (.cells #[.pointer (some ⟨p, 0, none⟩), .pointer (some ⟨r, 0, none⟩)] 45)) (fun k => w.heap.size ≤ k ∧ k ≠ w2.heap.size) w2.heap.size p r := ⟨Blk.new w2 45 _, fun h => h.2 rfl⟩
  have HBB := Lib.hid hBb
  have HBL := Lib.hid hBL
  have HPA := Lib.hid hPA
  clear hB hR2 hb2 hBb hBL hPA
  go_wp2_with fail
  generalize hpbq : w2.heap.size = pb at *
  go_loopw [7] (fun i wr => ExR w n pb p r i wr) (fun i _ => n - (intOf i).toNat)
  case atStart => exact ⟨0, _, Nat.zero_le _, Nat.zero_le _, rfl, HBB.out, HPA.out, HBL.out⟩
  case round =>
    obtain ⟨k, x, hk, hk2, rfl, hB, hpa, hb⟩ := hrel
    have HB := Lib.hid hB
    have HPA1 := Lib.hid hpa
    have HBW := Lib.hid hb
    have hsz := hb.size
    by_cases hlt : k < n ∧ k < 200
    · obtain ⟨hl1, hl2⟩ := hlt
      obtain ⟨d, rfl, hdl, o, hop, h47⟩ := HO.out k hl1
      have hadd : ∀ j, j ≠ 0 → d.add (k * 7 + j) = ⟨(d.add (k * 7)).block, (d.add (k * 7)).off + j, none⟩ := fun j hj => by
        rw [← add_of_add]
        generalize d.add (k * 7) = b
        unfold Addr.add
        rw [if_neg hj]
      have hcell : ∀ j v, w.cell? (d.add (k * 7 + j)) = some v → wr.cell? (d.add (k * 7 + j)) = some v := fun j v h => (hb.cell (by rw [block_of_add]; exact hdl)).trans h
      have x0 := hcell 0 _ hop.c0
      have x1 := hcell 1 _ hop.c1
      have x2 := hcell 2 _ hop.c2
      have x3 := hcell 3 _ hop.c3
      have x4 := hcell 4 _ hop.c4
      have x5 := hcell 5 _ hop.c5
      have x6 := hcell 6 _ hop.c6
      rw [Nat.add_zero] at x0
      rw [hadd 1 (by omega)] at x1
      rw [hadd 2 (by omega)] at x2
      rw [hadd 3 (by omega)] at x3
      rw [hadd 4 (by omega)] at x4
      rw [hadd 5 (by omega)] at x5
      rw [hadd 6 (by omega)] at x6
      have HOK := Lib.hid (hop.ok h47 hb (M := fun k => w.heap.size ≤ k ∧ k ≠ pb) (fun _ h => h.1))
      clear hadd hcell hop hB hdl h47
      have hS := hpa.blk
      clear hpa hb
      go_upto_region 8 with fail
      go_region_law
        ((first
          | (go_simp; go_at_call 27; refine (does_any wr.drew (fun k => w.heap.size ≤ k ∧ k ≠ pb) pb p r k x o (HB.out.drewN 1) ⟨HPA1.out.blk, HPA1.out.out⟩ (by omega) (HOK.out.chg (Chg.refl _ wr).drew)).mono ?_; rintro e w3 ⟨rfl, ⟨y, hB3⟩, hC3⟩; have hC3 := Chg.of_drew hC3; have hp3 := HPA1.out.chg hC3; have hse3 := hB3.see hp3; have b1 := hse3.b; have b7 := hse3.c; have HB3 := Lib.hid hB3; have HP3 := Lib.hid hp3; have HC3 := Lib.hid hC3; clear hB3 hp3 hse3 hC3)
          | (go_simp; go_at_call 28; refine (tell_ops w3 _ p r _ y HB3.out).mono ?_; rintro e w4 ⟨rfl, hw4⟩; replace hw4 := hw4.symm; subst hw4)))
      all_goals
        have hq : ((y.count : Int) != (y.count : Int)) = false := by simp
        go_wp2
        refine ⟨⟨k + 1, y, by omega, by omega, by go_num, HB3.out, HP3.out, HBW.out.trans (HC3.out.toBelow (fun k hk => hk.1) hsz)⟩, by simp [intOf]; omega⟩
    · have hend : (k < n → ¬ k < 200) := fun h1 h2 => hlt ⟨h1, h2⟩
      clear hlt
      by_cases h1 : k < n
      case' pos =>
        have h2 := hend h1
        clear hend
      case' neg =>
        clear hend
      all_goals
        clear hB hpa hb
        go_wp2_with fail
        refine (same_any wr _ pb p r k x HB.out HPA1.out (by omega)).mono ?_
        rintro e wd ⟨rfl, -, hbd⟩
        have HBD := Lib.hid hbd
        have hsd := hbd.size
        clear hbd
        go_wp2_with fail
        refine (wakes_any wd).mono ?_
        rintro e we ⟨rfl, hbe⟩
        have HBE := Lib.hid hbe
        clear hbe
        go_wp2
        go_ret
        exact ⟨rfl, (HBW.out.trans (HBD.out.mono hsz)).trans (HBE.out.mono (by omega))⟩
end Go.Proofs.Ytfeglchngekedaa
