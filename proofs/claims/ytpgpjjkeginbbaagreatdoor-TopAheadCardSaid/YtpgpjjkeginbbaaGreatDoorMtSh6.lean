/- ShM6, ShM7, one behind the other. -/
import Derived.Test.YtpgpjjkeginbbaaGreatDoorMtSh5
import Derived.Test.YtpgpjjkeginbbaaGreatDoorMeTk
namespace Go.Proofs.YtpgpjjkeginbbaaGreatDoor.Shm
open Go.RowKit Go.Proofs BigFrame
open Sh (Fl Cg Pk St)
open Rnk (RkIn)
set_option maxHeartbeats 40000000
set_option maxRecDepth 1000000
set_option linter.unusedSimpArgs false
theorem build_rek (k : Int) (w : World) : (Instr.build TRe #[(0, .int .i64 k)]).run Tryz.prog w = .ok (.agg (VRe k 0 0 0 0 0 0 0 0 0 (fun _ => 0))) w := by kernel_rfl
theorem iface_nil (T : TypeId) (V : Value) (w : World) : (binOp .eql 84 (.iface T V) .nilIface).run Tryz.prog w = .ok (.bool false) w := by kernel_rfl
/-- An operation that what lies behind the interface allows. -/
def Allow {R : World → Value → (Nat → Prop) → Nat → Nat → Sh.Bk → Prop} (hR : Bk.Laws R) (c : Cg) (st : St) (x : Sh.Op) : Prop := (Sh.known x.kind = 1 → Sh.mayIn c st x.flow x.len = 0 → hR.Pu st.bk (Sh.rankOf c st x.flow x.len).1) ∧ (Sh.known x.kind = 2 → hR.As st.bk)
theorem allow_bq {c : Cg} {st : St} {x : Sh.Op} : Allow Bk.bq_laws c st x := ⟨fun _ _ => trivial, fun _ => trivial⟩
/-- What a call of Do leaves. -/
abbrev DoPost {R : World → Value → (Nat → Prop) → Nat → Nat → Sh.Bk → Prop} (hR : Bk.Laws R) (w : World) (own : Nat → Prop) (L : Lay) (c : Cg) (cnt : Nat) (st : St) (x : Sh.Op) : Ending → World → Prop := fun e w' => e = .returned (.agg (vre (Sh.doS c st x).1)) ∧ ∃ own' cnt', cnt' ≤ cnt + 1 ∧ (shC hR L c cnt' (Sh.doS c st x).2).P w' own' ∧ Fol w own w' own'
section
variable {R : World → Value → (Nat → Prop) → Nat → Nat → Sh.Bk → Prop}
theorem do_enq (hR : Bk.Laws R) {w : World} {own : Nat → Prop} {L : Lay} {c : Cg} {cnt : Nat} {st : St} {x : Sh.Op} (h : (shC hR L c cnt st).P w own) (hg : Sh.Good c st) (hc : Sh.Cok c) (hx : x.Ok) (hcnt : cnt < 18446744073709551615) (hpu : Sh.mayIn c st x.flow x.len = 0 → hR.Pu st.bk (Sh.rankOf c st x.flow x.len).1) (hk : Sh.known x.kind = 1) :
 Calls Tryz.prog 10 #[.pointer (some ⟨L.s, 0, none⟩), .agg (VOp x)] w (DoPost hR w own L c cnt st x) := by
 unfold DoPost
 obtain ⟨kind, x0, x1, x2, ticks⟩ := x
 obtain ⟨s, g, k, gf, gt, cf, ct, v⟩ := L
 dsimp only at *
 obtain ⟨ES, hES⟩ : ∃ ES, Sh.doS c st ⟨kind, x0, x1, x2, ticks⟩ = ES := ⟨_, rfl⟩
 rw [hES]
 have HES := Lib.hid hES
 have HPU := Lib.hid hpu
 clear hpu
 clear hES
 have HKN := fun u => known_any kind u
 rw [hk] at HKN
 have HKN := fun u => Lib.hid (HKN u)
 have HH : Hid (Sep w (shL hR ⟨s, g, k, gf, gt, cf, ct, v⟩ c cnt st) own) := Lib.hid h
 have HLT : Hid (∀ q, own q → q < w.heap.size) := Lib.hid (fun q hq => Sep.lt HH.out hq)
 obtain ⟨T, VV, hv⟩ : ∃ T VV, v = .iface T VV := by
  obtain ⟨oB, hB, _, _⟩ := Sep.foc (bkC hR v c.packets.toNat cnt st.bk) [] [blkC s (SC g k c.rate c.burst st.tok v st.now (rOf st.ref)) TSh, gmC g c st.pk st.by_ c.flows.length st.own, rkC k gf gt c.flows.length cf ct c.rank c.flows st.tags st.virt] HH.out
  obtain ⟨T, VV, fp, fk, fo, hM⟩ := hR.meth hB
  exact ⟨T, VV, hM.eq⟩
 subst hv
 have hnil := iface_nil T VV
 clear h
 have hU0 : Upd Nowhere w ((w.alloc (.cells (VOp ⟨kind, x0, x1, x2, ticks⟩) TOp)).alloc (.cells zRe TRe)) := ((Upd.refl _ _).alloc _).alloc _
 have hP := Blk.alloc (Blk.new w (VOp ⟨kind, x0, x1, x2, ticks⟩) TOp) (.cells zRe TRe)
 have HRb := Lib.hid (Blk.new2 w (.cells (VOp ⟨kind, x0, x1, x2, ticks⟩) TOp) zRe TRe)
 go_enter Tryz.func10, Tryz.ntmps10
 go_upto_region 1 with fail
 have HRN : Hid (w.heap.size ≤ w.heap.size + 1 ∧ w.heap.size ≤ w.heap.size ∧ w.heap.size < w.heap.size + 1) := Lib.hid (by omega)
 generalize w.heap.size + 1 = rb at *
 obtain ⟨pb, hpb⟩ : ∃ pb, w.heap.size = pb := ⟨_, rfl⟩
 have HPN : Hid (w.heap.size ≤ pb ∧ pb ≠ rb) := Lib.hid (by have := HRN.out; omega)
 rw [hpb] at hP
 simp only [hpb]
 clear hpb
 generalize (w.alloc (.cells (VOp ⟨kind, x0, x1, x2, ticks⟩) TOp)).alloc (.cells zRe TRe) = wB at *
 obtain ⟨p0, p1, p2, p3, p4, _, _, _, _, _⟩ := cells5 hP
 obtain ⟨V1, hV1⟩ : ∃ V1, VRe 1 0 0 0 0 0 0 0 0 0 (fun _ => 0) = V1 := ⟨_, rfl⟩
 have HV1 := Lib.hid hV1
 have hs1 : V1.size = 42 := by rw [← hV1]; rfl
 have ha1 : V1.all (·.oneCell') = true := by rw [← hV1]; exact vre_one ..
 have hbuild := build_rek 1 wB
 rw [hV1] at hbuild
 clear hV1
 refine wp_region_lit ?_
 refine wpList_one rfl fun K hK => ?_
 go_simp
 refine hK.out _ _ ?_
 clear hK K
 try simp only [Act.put, List.setIfInBounds_toArray, List.set_cons_zero, List.set_cons_succ]
 refine wpList_one rfl fun K hK => ?_
 go_simp
 refine hK.out _ _ ?_
 clear hK K
 try simp only [Act.put, List.setIfInBounds_toArray, List.set_cons_zero, List.set_cons_succ]
 refine wpList_one rfl fun K hK => ?_
 go_simp
 go_wp2_with (go_at_call 33; refine (HKN _).out.mono ?_; rintro e w3 ⟨rfl, rfl⟩)
 refine hK.out _ _ ?_
 clear hK K
 try simp only [Act.put, List.setIfInBounds_toArray, List.set_cons_zero, List.set_cons_succ]
 refine wpList_buildV (.agg V1) (exec_build hbuild) ?_
 (try simp only [Act.put, List.setIfInBounds_toArray, List.set_cons_zero, List.set_cons_succ])
 clear hbuild
 refine wpList_one rfl fun K hK => ?_
 go_simp
 refine hK.out _ _ ?_
 clear hK K
 try simp only [Act.put, List.setIfInBounds_toArray, List.set_cons_zero, List.set_cons_succ]
 have hUB : Upd Nowhere w (wB.alloc (.cells zRe TRe)) := hU0.alloc _
 have hZ := Blk.new wB zRe TRe
 have HON : Hid (w.heap.size ≤ wB.heap.size ∧ wB.heap.size ≠ rb ∧ wB.heap.size ≠ pb) := Lib.hid (by have := hU0.size; have := HRb.out.lt; have := hP.lt; omega)
 have HRb := Lib.hid (Blk.alloc HRb.out (.cells zRe TRe))
 have hP := Blk.alloc hP (.cells zRe TRe)
 generalize wB.heap.size = ob at *
 clear hU0 p0 p1 p2 p3 p4
 generalize wB.alloc (.cells zRe TRe) = wC at *
 obtain ⟨wD, hst, hOB, huD⟩ := store_all (P := Tryz.prog) (T := TRe) (V := V1) (n := 42) hZ infoRe rfl hs1 ha1
 refine wpList_storeV TRe (.tmp 5) (.tmp 9) ⟨ob, 0, none⟩ (.agg V1) hst ?_
 refine wpList_nil ?_
 have HRD := Lib.hid (HRb.out.kept huD (fun e => HON.out.2.1 e.symm))
 have hPD := hP.kept huD (fun e => HON.out.2.2 e.symm)
 have hUD : Upd Nowhere w wD := hUB.trans huD (fun q hq e => by have := HON.out.1; omega)
 clear hst huD hZ hUB HRb hP
 have hSD := HH.out.old hUD
 have hsb := (sep_blk hSD).1
 have HSS : Hid (own s) := Lib.hid (sep_blk hSD).2
 have HOFF : Hid (¬ own rb ∧ ¬ own ob ∧ ¬ own pb) := Lib.hid ⟨fun h => by have := HLT.out _ h; have := HRN.out; omega, fun h => by have := HLT.out _ h; have := HON.out.1; omega, fun h => by have := HLT.out _ h; have := HPN.out; omega⟩
 have c5 : wD.cell? ⟨s, 5, none⟩ = some (.iface T VV) := hsb.cellAt rfl
 have o0 : wD.cell? ⟨ob, 0, none⟩ = some (.int .i64 1) := hOB.cellAt (by rw [← HV1.out]; rfl)
 obtain rfl : ES = Sh.enq c st ⟨kind, x0, x1, x2, ticks⟩ := by rw [← HES.out]; unfold Sh.doS; rw [if_pos hk]
 obtain ⟨p0, p1, p2, p3, p4, _, _, _, _, _⟩ := cells5 hPD
 have HCQ := Lib.hid (enq_any hR (L := ⟨s, g, k, gf, gt, cf, ct, .iface T VV⟩) (x := ⟨kind, x0, x1, x2, ticks⟩) (show (shC hR ⟨s, g, k, gf, gt, cf, ct, .iface T VV⟩ c cnt st).P wD own from hSD) hg hc hx hcnt HPU.out)
 obtain ⟨EQ, hEQ⟩ : ∃ EQ, Sh.enq c st ⟨kind, x0, x1, x2, ticks⟩ = EQ := ⟨_, rfl⟩
 rw [hEQ] at HCQ
 obtain ⟨V2, hV2⟩ : ∃ V2, vre EQ.1 = V2 := ⟨_, rfl⟩
 have hs2 : V2.size = 42 := by rw [← hV2]; rfl
 have ha2 : V2.all (·.oneCell') = true := by rw [← hV2]; exact vre_one ..
 rw [hV2] at HCQ
 have HV2 := Lib.hid hV2
 have HEQ := Lib.hid hEQ
 have HUD := Lib.hid hUD
 clear hV2 hEQ hSD hOB hUD hsb hPD HES
 go_upto_region 8 with fail
 refine wp_region_lit ?_
 refine wpList_one rfl fun K hK => ?_
 go_simp
 refine hK.out _ _ ?_
 clear hK K
 try simp only [Act.put, List.setIfInBounds_toArray, List.set_cons_zero, List.set_cons_succ]
 refine wpList_one rfl fun K hK => ?_
 go_simp
 refine hK.out _ _ ?_
 clear hK K
 try simp only [Act.put, List.setIfInBounds_toArray, List.set_cons_zero, List.set_cons_succ]
 refine wpList_one rfl fun K hK => ?_
 go_simp
 go_wp2_with (go_at_call 34; refine HCQ.out.mono ?_; rintro e w5 ⟨rfl, own5, cnt5, hle5, h5, f5⟩)
 refine hK.out _ _ ?_
 clear hK K
 (try simp only [Act.put, List.setIfInBounds_toArray, List.set_cons_zero, List.set_cons_succ])
 have hR5 := f5.blk HRD.out HOFF.out.1
 have hno := f5.off HOFF.out.1 HRD.out.lt
 obtain ⟨w9, hst, hR9, hu9⟩ := store_all (P := Tryz.prog) (T := TRe) (V := V2) (n := 42) hR5 infoRe rfl hs2 ha2
 refine wpList_storeV TRe (.tmp 4) (.tmp 30) ⟨rb, 0, none⟩ (.agg V2) hst ?_
 refine wpList_nil ?_
 go_wp2_with fail
 refine bodyPost_ret (v := .agg V2) (results_cell (t := TRe) (x := 4) rfl rfl (load_all (n := 42) hR9 Tryz.underlying51 rfl infoRe hs2)) rfl ⟨?_, ?_⟩
 · rw [HEQ.out, HV2.out]
 · rw [HEQ.out]
   exact ⟨own5, cnt5, hle5, Sep.kp hu9 h5 (fun q hq e => hno (by rw [← e]; exact hq)), (((Fol.refl w own).old HUD.out).trans f5).ret hu9 HRN.out.1⟩
theorem do_deq (hR : Bk.Laws R) {w : World} {own : Nat → Prop} {L : Lay} {c : Cg} {cnt : Nat} {st : St} {x : Sh.Op} (h : (shC hR L c cnt st).P w own) (hg : Sh.Good c st) (hc : Sh.Cok c) (has : hR.As st.bk) (hev : hR.Ev w own) (hk : Sh.known x.kind = 2) :
 Calls Tryz.prog 10 #[.pointer (some ⟨L.s, 0, none⟩), .agg (VOp x)] w (DoPost hR w own L c cnt st x) := by
 unfold DoPost
 obtain ⟨kind, x0, x1, x2, ticks⟩ := x
 obtain ⟨s, g, k, gf, gt, cf, ct, v⟩ := L
 dsimp only at *
 obtain ⟨ES, hES⟩ : ∃ ES, Sh.doS c st ⟨kind, x0, x1, x2, ticks⟩ = ES := ⟨_, rfl⟩
 rw [hES]
 have HES := Lib.hid hES
 have HAS := Lib.hid has
 have HEV := Lib.hid hev
 clear has hev
 clear hES
 have HKN := fun u => known_any kind u
 rw [hk] at HKN
 have HKN := fun u => Lib.hid (HKN u)
 have HH : Hid (Sep w (shL hR ⟨s, g, k, gf, gt, cf, ct, v⟩ c cnt st) own) := Lib.hid h
 have HLT : Hid (∀ q, own q → q < w.heap.size) := Lib.hid (fun q hq => Sep.lt HH.out hq)
 obtain ⟨T, VV, hv⟩ : ∃ T VV, v = .iface T VV := by
  obtain ⟨oB, hB, _, _⟩ := Sep.foc (bkC hR v c.packets.toNat cnt st.bk) [] [blkC s (SC g k c.rate c.burst st.tok v st.now (rOf st.ref)) TSh, gmC g c st.pk st.by_ c.flows.length st.own, rkC k gf gt c.flows.length cf ct c.rank c.flows st.tags st.virt] HH.out
  obtain ⟨T, VV, fp, fk, fo, hM⟩ := hR.meth hB
  exact ⟨T, VV, hM.eq⟩
 subst hv
 have hnil := iface_nil T VV
 clear h
 have hU0 : Upd Nowhere w ((w.alloc (.cells (VOp ⟨kind, x0, x1, x2, ticks⟩) TOp)).alloc (.cells zRe TRe)) := ((Upd.refl _ _).alloc _).alloc _
 have hP := Blk.alloc (Blk.new w (VOp ⟨kind, x0, x1, x2, ticks⟩) TOp) (.cells zRe TRe)
 have HRb := Lib.hid (Blk.new2 w (.cells (VOp ⟨kind, x0, x1, x2, ticks⟩) TOp) zRe TRe)
 go_enter Tryz.func10, Tryz.ntmps10
 go_upto_region 1 with fail
 have HRN : Hid (w.heap.size ≤ w.heap.size + 1 ∧ w.heap.size ≤ w.heap.size ∧ w.heap.size < w.heap.size + 1) := Lib.hid (by omega)
 generalize w.heap.size + 1 = rb at *
 obtain ⟨pb, hpb⟩ : ∃ pb, w.heap.size = pb := ⟨_, rfl⟩
 have HPN : Hid (w.heap.size ≤ pb ∧ pb ≠ rb) := Lib.hid (by have := HRN.out; omega)
 rw [hpb] at hP
 simp only [hpb]
 clear hpb
 generalize (w.alloc (.cells (VOp ⟨kind, x0, x1, x2, ticks⟩) TOp)).alloc (.cells zRe TRe) = wB at *
 obtain ⟨p0, p1, p2, p3, p4, _, _, _, _, _⟩ := cells5 hP
 obtain ⟨V1, hV1⟩ : ∃ V1, VRe 2 0 0 0 0 0 0 0 0 0 (fun _ => 0) = V1 := ⟨_, rfl⟩
 have HV1 := Lib.hid hV1
 have hs1 : V1.size = 42 := by rw [← hV1]; rfl
 have ha1 : V1.all (·.oneCell') = true := by rw [← hV1]; exact vre_one ..
 have hbuild := build_rek 2 wB
 rw [hV1] at hbuild
 clear hV1
 refine wp_region_lit ?_
 refine wpList_one rfl fun K hK => ?_
 go_simp
 refine hK.out _ _ ?_
 clear hK K
 try simp only [Act.put, List.setIfInBounds_toArray, List.set_cons_zero, List.set_cons_succ]
 refine wpList_one rfl fun K hK => ?_
 go_simp
 refine hK.out _ _ ?_
 clear hK K
 try simp only [Act.put, List.setIfInBounds_toArray, List.set_cons_zero, List.set_cons_succ]
 refine wpList_one rfl fun K hK => ?_
 go_simp
 go_wp2_with (go_at_call 33; refine (HKN _).out.mono ?_; rintro e w3 ⟨rfl, rfl⟩)
 refine hK.out _ _ ?_
 clear hK K
 try simp only [Act.put, List.setIfInBounds_toArray, List.set_cons_zero, List.set_cons_succ]
 refine wpList_buildV (.agg V1) (exec_build hbuild) ?_
 (try simp only [Act.put, List.setIfInBounds_toArray, List.set_cons_zero, List.set_cons_succ])
 clear hbuild
 refine wpList_one rfl fun K hK => ?_
 go_simp
 refine hK.out _ _ ?_
 clear hK K
 try simp only [Act.put, List.setIfInBounds_toArray, List.set_cons_zero, List.set_cons_succ]
 have hUB : Upd Nowhere w (wB.alloc (.cells zRe TRe)) := hU0.alloc _
 have hZ := Blk.new wB zRe TRe
 have HON : Hid (w.heap.size ≤ wB.heap.size ∧ wB.heap.size ≠ rb ∧ wB.heap.size ≠ pb) := Lib.hid (by have := hU0.size; have := HRb.out.lt; have := hP.lt; omega)
 have HRb := Lib.hid (Blk.alloc HRb.out (.cells zRe TRe))
 have hP := Blk.alloc hP (.cells zRe TRe)
 generalize wB.heap.size = ob at *
 clear hU0 p0 p1 p2 p3 p4
 generalize wB.alloc (.cells zRe TRe) = wC at *
 obtain ⟨wD, hst, hOB, huD⟩ := store_all (P := Tryz.prog) (T := TRe) (V := V1) (n := 42) hZ infoRe rfl hs1 ha1
 refine wpList_storeV TRe (.tmp 5) (.tmp 9) ⟨ob, 0, none⟩ (.agg V1) hst ?_
 refine wpList_nil ?_
 have HRD := Lib.hid (HRb.out.kept huD (fun e => HON.out.2.1 e.symm))
 have hPD := hP.kept huD (fun e => HON.out.2.2 e.symm)
 have hUD : Upd Nowhere w wD := hUB.trans huD (fun q hq e => by have := HON.out.1; omega)
 clear hst huD hZ hUB HRb hP
 have hSD := HH.out.old hUD
 have hsb := (sep_blk hSD).1
 have HSS : Hid (own s) := Lib.hid (sep_blk hSD).2
 have HOFF : Hid (¬ own rb ∧ ¬ own ob ∧ ¬ own pb) := Lib.hid ⟨fun h => by have := HLT.out _ h; have := HRN.out; omega, fun h => by have := HLT.out _ h; have := HON.out.1; omega, fun h => by have := HLT.out _ h; have := HPN.out; omega⟩
 have c5 : wD.cell? ⟨s, 5, none⟩ = some (.iface T VV) := hsb.cellAt rfl
 have o0 : wD.cell? ⟨ob, 0, none⟩ = some (.int .i64 2) := hOB.cellAt (by rw [← HV1.out]; rfl)
 obtain rfl : ES = Sh.deq c st := by rw [← HES.out]; unfold Sh.doS; rw [if_neg (by rw [hk]; decide), if_pos hk]
 have HCQ := Lib.hid (deq_any hR (L := ⟨s, g, k, gf, gt, cf, ct, .iface T VV⟩) (show (shC hR ⟨s, g, k, gf, gt, cf, ct, .iface T VV⟩ c cnt st).P wD own from hSD) hg hc HAS.out (hR.evf HEV.out ((Fol.refl w own).old hUD)))
 obtain ⟨EQ, hEQ⟩ : ∃ EQ, Sh.deq c st = EQ := ⟨_, rfl⟩
 rw [hEQ] at HCQ
 obtain ⟨V2, hV2⟩ : ∃ V2, vre EQ.1 = V2 := ⟨_, rfl⟩
 have hs2 : V2.size = 42 := by rw [← hV2]; rfl
 have ha2 : V2.all (·.oneCell') = true := by rw [← hV2]; exact vre_one ..
 rw [hV2] at HCQ
 have HV2 := Lib.hid hV2
 have HEQ := Lib.hid hEQ
 have HUD := Lib.hid hUD
 clear hV2 hEQ hSD hOB hUD hsb hPD HES
 go_upto_region 10 with fail
 refine wp_region_lit ?_
 refine wpList_one rfl fun K hK => ?_
 go_simp
 refine hK.out _ _ ?_
 clear hK K
 try simp only [Act.put, List.setIfInBounds_toArray, List.set_cons_zero, List.set_cons_succ]
 refine wpList_one rfl fun K hK => ?_
 go_simp
 go_wp2_with (go_at_call 35; refine HCQ.out.mono ?_; rintro e w5 ⟨rfl, own5, h5, f5⟩)
 refine hK.out _ _ ?_
 clear hK K
 (try simp only [Act.put, List.setIfInBounds_toArray, List.set_cons_zero, List.set_cons_succ])
 have hR5 := f5.blk HRD.out HOFF.out.1
 have hno := f5.off HOFF.out.1 HRD.out.lt
 obtain ⟨w9, hst, hR9, hu9⟩ := store_all (P := Tryz.prog) (T := TRe) (V := V2) (n := 42) hR5 infoRe rfl hs2 ha2
 refine wpList_storeV TRe (.tmp 4) (.tmp 34) ⟨rb, 0, none⟩ (.agg V2) hst ?_
 refine wpList_nil ?_
 go_wp2_with fail
 refine bodyPost_ret (v := .agg V2) (results_cell (t := TRe) (x := 4) rfl rfl (load_all (n := 42) hR9 Tryz.underlying51 rfl infoRe hs2)) rfl ⟨?_, ?_⟩
 · rw [HEQ.out, HV2.out]
 · rw [HEQ.out]
   exact ⟨own5, cnt, Nat.le_succ _, Sep.kp hu9 h5 (fun q hq e => hno (by rw [← e]; exact hq)), (((Fol.refl w own).old HUD.out).trans f5).ret hu9 HRN.out.1⟩
theorem do_torn (hR : Bk.Laws R) {w : World} {own : Nat → Prop} {L : Lay} {c : Cg} {cnt : Nat} {st : St} {x : Sh.Op} (h : (shC hR L c cnt st).P w own) (hg : Sh.Good c st)  (hk : Sh.known x.kind = 5) :
 Calls Tryz.prog 10 #[.pointer (some ⟨L.s, 0, none⟩), .agg (VOp x)] w (DoPost hR w own L c cnt st x) := by
 unfold DoPost
 obtain ⟨kind, x0, x1, x2, ticks⟩ := x
 obtain ⟨s, g, k, gf, gt, cf, ct, v⟩ := L
 dsimp only at *
 obtain ⟨ES, hES⟩ : ∃ ES, Sh.doS c st ⟨kind, x0, x1, x2, ticks⟩ = ES := ⟨_, rfl⟩
 rw [hES]
 have HES := Lib.hid hES
 clear hES
 have HKN := fun u => known_any kind u
 rw [hk] at HKN
 have HKN := fun u => Lib.hid (HKN u)
 have HH : Hid (Sep w (shL hR ⟨s, g, k, gf, gt, cf, ct, v⟩ c cnt st) own) := Lib.hid h
 have HLT : Hid (∀ q, own q → q < w.heap.size) := Lib.hid (fun q hq => Sep.lt HH.out hq)
 obtain ⟨T, VV, hv⟩ : ∃ T VV, v = .iface T VV := by
  obtain ⟨oB, hB, _, _⟩ := Sep.foc (bkC hR v c.packets.toNat cnt st.bk) [] [blkC s (SC g k c.rate c.burst st.tok v st.now (rOf st.ref)) TSh, gmC g c st.pk st.by_ c.flows.length st.own, rkC k gf gt c.flows.length cf ct c.rank c.flows st.tags st.virt] HH.out
  obtain ⟨T, VV, fp, fk, fo, hM⟩ := hR.meth hB
  exact ⟨T, VV, hM.eq⟩
 subst hv
 have hnil := iface_nil T VV
 clear h
 have hU0 : Upd Nowhere w ((w.alloc (.cells (VOp ⟨kind, x0, x1, x2, ticks⟩) TOp)).alloc (.cells zRe TRe)) := ((Upd.refl _ _).alloc _).alloc _
 have hP := Blk.alloc (Blk.new w (VOp ⟨kind, x0, x1, x2, ticks⟩) TOp) (.cells zRe TRe)
 have HRb := Lib.hid (Blk.new2 w (.cells (VOp ⟨kind, x0, x1, x2, ticks⟩) TOp) zRe TRe)
 go_enter Tryz.func10, Tryz.ntmps10
 go_upto_region 1 with fail
 have HRN : Hid (w.heap.size ≤ w.heap.size + 1 ∧ w.heap.size ≤ w.heap.size ∧ w.heap.size < w.heap.size + 1) := Lib.hid (by omega)
 generalize w.heap.size + 1 = rb at *
 obtain ⟨pb, hpb⟩ : ∃ pb, w.heap.size = pb := ⟨_, rfl⟩
 have HPN : Hid (w.heap.size ≤ pb ∧ pb ≠ rb) := Lib.hid (by have := HRN.out; omega)
 rw [hpb] at hP
 simp only [hpb]
 clear hpb
 generalize (w.alloc (.cells (VOp ⟨kind, x0, x1, x2, ticks⟩) TOp)).alloc (.cells zRe TRe) = wB at *
 obtain ⟨p0, p1, p2, p3, p4, _, _, _, _, _⟩ := cells5 hP
 obtain ⟨V1, hV1⟩ : ∃ V1, VRe 5 0 0 0 0 0 0 0 0 0 (fun _ => 0) = V1 := ⟨_, rfl⟩
 have HV1 := Lib.hid hV1
 have hs1 : V1.size = 42 := by rw [← hV1]; rfl
 have ha1 : V1.all (·.oneCell') = true := by rw [← hV1]; exact vre_one ..
 have hbuild := build_rek 5 wB
 rw [hV1] at hbuild
 clear hV1
 refine wp_region_lit ?_
 refine wpList_one rfl fun K hK => ?_
 go_simp
 refine hK.out _ _ ?_
 clear hK K
 try simp only [Act.put, List.setIfInBounds_toArray, List.set_cons_zero, List.set_cons_succ]
 refine wpList_one rfl fun K hK => ?_
 go_simp
 refine hK.out _ _ ?_
 clear hK K
 try simp only [Act.put, List.setIfInBounds_toArray, List.set_cons_zero, List.set_cons_succ]
 refine wpList_one rfl fun K hK => ?_
 go_simp
 go_wp2_with (go_at_call 33; refine (HKN _).out.mono ?_; rintro e w3 ⟨rfl, rfl⟩)
 refine hK.out _ _ ?_
 clear hK K
 try simp only [Act.put, List.setIfInBounds_toArray, List.set_cons_zero, List.set_cons_succ]
 refine wpList_buildV (.agg V1) (exec_build hbuild) ?_
 (try simp only [Act.put, List.setIfInBounds_toArray, List.set_cons_zero, List.set_cons_succ])
 clear hbuild
 refine wpList_one rfl fun K hK => ?_
 go_simp
 refine hK.out _ _ ?_
 clear hK K
 try simp only [Act.put, List.setIfInBounds_toArray, List.set_cons_zero, List.set_cons_succ]
 have hUB : Upd Nowhere w (wB.alloc (.cells zRe TRe)) := hU0.alloc _
 have hZ := Blk.new wB zRe TRe
 have HON : Hid (w.heap.size ≤ wB.heap.size ∧ wB.heap.size ≠ rb ∧ wB.heap.size ≠ pb) := Lib.hid (by have := hU0.size; have := HRb.out.lt; have := hP.lt; omega)
 have HRb := Lib.hid (Blk.alloc HRb.out (.cells zRe TRe))
 have hP := Blk.alloc hP (.cells zRe TRe)
 generalize wB.heap.size = ob at *
 clear hU0 p0 p1 p2 p3 p4
 generalize wB.alloc (.cells zRe TRe) = wC at *
 obtain ⟨wD, hst, hOB, huD⟩ := store_all (P := Tryz.prog) (T := TRe) (V := V1) (n := 42) hZ infoRe rfl hs1 ha1
 refine wpList_storeV TRe (.tmp 5) (.tmp 9) ⟨ob, 0, none⟩ (.agg V1) hst ?_
 refine wpList_nil ?_
 have HRD := Lib.hid (HRb.out.kept huD (fun e => HON.out.2.1 e.symm))
 have hPD := hP.kept huD (fun e => HON.out.2.2 e.symm)
 have hUD : Upd Nowhere w wD := hUB.trans huD (fun q hq e => by have := HON.out.1; omega)
 clear hst huD hZ hUB HRb hP
 have hSD := HH.out.old hUD
 have hsb := (sep_blk hSD).1
 have HSS : Hid (own s) := Lib.hid (sep_blk hSD).2
 have HOFF : Hid (¬ own rb ∧ ¬ own ob ∧ ¬ own pb) := Lib.hid ⟨fun h => by have := HLT.out _ h; have := HRN.out; omega, fun h => by have := HLT.out _ h; have := HON.out.1; omega, fun h => by have := HLT.out _ h; have := HPN.out; omega⟩
 have c5 : wD.cell? ⟨s, 5, none⟩ = some (.iface T VV) := hsb.cellAt rfl
 have o0 : wD.cell? ⟨ob, 0, none⟩ = some (.int .i64 5) := hOB.cellAt (by rw [← HV1.out]; rfl)
 obtain rfl : ES = ({ Sh.re0 5 with code := 2 }, Sh.refuse st 2) := by rw [← HES.out]; unfold Sh.doS; rw [if_neg (by rw [hk]; decide), if_neg (by rw [hk]; decide), if_neg (by rw [hk]; decide), if_neg (by rw [hk]; decide), if_pos hk]
 have hy32 : rOf st.ref 2 ≤ 18446744073709551615 := Sh.getD_le hg.rb
 obtain ⟨oS, hS, hSs, hSb⟩ := Sep.foc (blkC s (SC g k c.rate c.burst st.tok (.iface T VV) st.now (rOf st.ref)) TSh) [gmC g c st.pk st.by_ c.flows.length st.own, rkC k gf gt c.flows.length cf ct c.rank c.flows st.tags st.virt, bkC hR (.iface T VV) c.packets.toNat cnt st.bk] [] hSD
 have HRef := Lib.hid (refuse_any hS.1 (show 2 < 32 by omega) hy32)
 have HSb : Hid (∀ w6, Blk w6 s (SC g k c.rate c.burst st.tok (.iface T VV) st.now (rSet (rOf st.ref) 2 (min (rOf st.ref 2 + 1) 18446744073709551615))) TSh → Upd (fun q => q = s) wD w6 → ∃ own', Sep w6 (shL hR ⟨s, g, k, gf, gt, cf, ct, .iface T VV⟩ c cnt (Sh.refuse st 2)) own' ∧ Fol wD own w6 own') := Lib.hid (fun w6 h6 u6 => by
  have e2 : rOf (Sh.refuse st 2).ref = rSet (rOf st.ref) 2 (min (rOf st.ref 2 + 1) 18446744073709551615) := rOf_set (by rw [hg.rl]; omega)
  obtain ⟨own', a1, a2⟩ := hSb w6 oS (blkC s (SC g k c.rate c.burst st.tok (.iface T VV) st.now (rSet (rOf st.ref) 2 (min (rOf st.ref 2 + 1) 18446744073709551615))) TSh) ⟨h6, hS.2⟩ ⟨fun _ h => .inl h, u6.mono fun q _ e => (hS.2 q).2 e⟩
  refine ⟨own', ?_, a2⟩
  unfold shL
  rw [e2]
  exact a1)
 have HOB := Lib.hid hOB
 have HUD := Lib.hid hUD
 clear hSb hSs hS hSD hOB hUD hsb hPD HES
 go_upto_region 17 with fail
 go_wp2_with fail
 refine HRef.out.mono ?_
 rintro e w6 ⟨rfl, h6, u6⟩
 obtain ⟨own6, hS6, hF6⟩ := HSb.out w6 h6 u6
 have hO6 := hF6.blk HOB.out HOFF.out.2.1
 have hR6 := hF6.blk HRD.out HOFF.out.1
 have HNO6 : Hid (¬ own6 rb ∧ ¬ own6 ob) := Lib.hid ⟨hF6.off HOFF.out.1 HRD.out.lt, hF6.off HOFF.out.2.1 HOB.out.lt⟩
 have o1 : w6.cell? ⟨ob, 1, none⟩ = some (.int .i64 0) := hO6.cellAt (by rw [← HV1.out]; rfl)
 have z1 := hO6.free 1
 obtain ⟨V2, hV2⟩ : ∃ V2, V1.setIfInBounds 1 (.int .i64 2) = V2 := ⟨_, rfl⟩
 have e2 : V2 = VRe 5 2 0 0 0 0 0 0 0 0 (fun _ => 0) := by rw [← hV2, ← HV1.out]; rfl
 have hO7 : Blk (w6.setCell ⟨ob, 1, none⟩ (.int .i64 2)) ob V2 TRe := by rw [← hV2]; exact hO6.set 1 _
 have HU7 : Hid (Upd (fun q => q = ob) w6 (w6.setCell ⟨ob, 1, none⟩ (.int .i64 2))) := Lib.hid (Upd.setCell (S := fun q => q = ob) (a := ⟨ob, 1, none⟩) (Upd.refl _ _) (fun _ => rfl) _)
 have HO7 := Lib.hid hO7
 have HS6 := Lib.hid hS6
 have HF6 := Lib.hid hF6
 have HR6 := Lib.hid hR6
 have hs2 : V2.size = 42 := by rw [e2]; rfl
 have ha2 : V2.all (·.oneCell') = true := by rw [e2]; exact vre_one ..
 clear hO7 hO6 hV2 h6 u6 hS6 hF6 hR6
 go_upto_region 18 with fail
 generalize w6.setCell ⟨ob, 1, none⟩ (.int .i64 2) = w7 at *
 have hR7 := HR6.out.kept HU7.out (fun e => HON.out.2.1 e.symm)
 obtain ⟨w9, hst, hR9, hu9⟩ := store_all (P := Tryz.prog) (T := TRe) (V := V2) (n := 42) hR7 infoRe rfl hs2 ha2
 refine wp_region_lit ?_
 refine wpList_loadV TRe (.tmp 5) ⟨ob, 0, none⟩ (.agg V2) (load_all (n := 42) HO7.out Tryz.underlying51 rfl infoRe hs2) ?_
 (try simp only [Act.put, List.setIfInBounds_toArray, List.set_cons_zero, List.set_cons_succ])
 refine wpList_storeV TRe (.tmp 4) (.tmp 67) ⟨rb, 0, none⟩ (.agg V2) hst ?_
 refine wpList_nil ?_
 go_wp2_with fail
 refine bodyPost_ret (v := .agg V2) (results_cell (t := TRe) (x := 4) rfl rfl (load_all (n := 42) hR9 Tryz.underlying51 rfl infoRe hs2)) rfl ⟨?_, ?_⟩
 · rw [e2]; unfold vre; dsimp only [Sh.re0]; rw [rOf_z32]
 · exact ⟨own6, cnt, Nat.le_succ _, (HS6.out.kp HU7.out (fun q hq e => HNO6.out.2 (by rw [← e]; exact hq))).kp hu9 (fun q hq e => HNO6.out.1 (by rw [← e]; exact hq)), ((((Fol.refl w own).old HUD.out).trans HF6.out).ret HU7.out HON.out.1).ret hu9 HRN.out.1⟩
theorem do_junk (hR : Bk.Laws R) {w : World} {own : Nat → Prop} {L : Lay} {c : Cg} {cnt : Nat} {st : St} {x : Sh.Op} (h : (shC hR L c cnt st).P w own) (hg : Sh.Good c st)  (hk : Sh.known x.kind = 0) :
 Calls Tryz.prog 10 #[.pointer (some ⟨L.s, 0, none⟩), .agg (VOp x)] w (DoPost hR w own L c cnt st x) := by
 unfold DoPost
 obtain ⟨kind, x0, x1, x2, ticks⟩ := x
 obtain ⟨s, g, k, gf, gt, cf, ct, v⟩ := L
 dsimp only at *
 obtain ⟨ES, hES⟩ : ∃ ES, Sh.doS c st ⟨kind, x0, x1, x2, ticks⟩ = ES := ⟨_, rfl⟩
 rw [hES]
 have HES := Lib.hid hES
 clear hES
 have HKN := fun u => known_any kind u
 rw [hk] at HKN
 have HKN := fun u => Lib.hid (HKN u)
 have HH : Hid (Sep w (shL hR ⟨s, g, k, gf, gt, cf, ct, v⟩ c cnt st) own) := Lib.hid h
 have HLT : Hid (∀ q, own q → q < w.heap.size) := Lib.hid (fun q hq => Sep.lt HH.out hq)
 obtain ⟨T, VV, hv⟩ : ∃ T VV, v = .iface T VV := by
  obtain ⟨oB, hB, _, _⟩ := Sep.foc (bkC hR v c.packets.toNat cnt st.bk) [] [blkC s (SC g k c.rate c.burst st.tok v st.now (rOf st.ref)) TSh, gmC g c st.pk st.by_ c.flows.length st.own, rkC k gf gt c.flows.length cf ct c.rank c.flows st.tags st.virt] HH.out
  obtain ⟨T, VV, fp, fk, fo, hM⟩ := hR.meth hB
  exact ⟨T, VV, hM.eq⟩
 subst hv
 have hnil := iface_nil T VV
 clear h
 have hU0 : Upd Nowhere w ((w.alloc (.cells (VOp ⟨kind, x0, x1, x2, ticks⟩) TOp)).alloc (.cells zRe TRe)) := ((Upd.refl _ _).alloc _).alloc _
 have hP := Blk.alloc (Blk.new w (VOp ⟨kind, x0, x1, x2, ticks⟩) TOp) (.cells zRe TRe)
 have HRb := Lib.hid (Blk.new2 w (.cells (VOp ⟨kind, x0, x1, x2, ticks⟩) TOp) zRe TRe)
 go_enter Tryz.func10, Tryz.ntmps10
 go_upto_region 1 with fail
 have HRN : Hid (w.heap.size ≤ w.heap.size + 1 ∧ w.heap.size ≤ w.heap.size ∧ w.heap.size < w.heap.size + 1) := Lib.hid (by omega)
 generalize w.heap.size + 1 = rb at *
 obtain ⟨pb, hpb⟩ : ∃ pb, w.heap.size = pb := ⟨_, rfl⟩
 have HPN : Hid (w.heap.size ≤ pb ∧ pb ≠ rb) := Lib.hid (by have := HRN.out; omega)
 rw [hpb] at hP
 simp only [hpb]
 clear hpb
 generalize (w.alloc (.cells (VOp ⟨kind, x0, x1, x2, ticks⟩) TOp)).alloc (.cells zRe TRe) = wB at *
 obtain ⟨p0, p1, p2, p3, p4, _, _, _, _, _⟩ := cells5 hP
 obtain ⟨V1, hV1⟩ : ∃ V1, VRe 0 0 0 0 0 0 0 0 0 0 (fun _ => 0) = V1 := ⟨_, rfl⟩
 have HV1 := Lib.hid hV1
 have hs1 : V1.size = 42 := by rw [← hV1]; rfl
 have ha1 : V1.all (·.oneCell') = true := by rw [← hV1]; exact vre_one ..
 have hbuild := build_rek 0 wB
 rw [hV1] at hbuild
 clear hV1
 refine wp_region_lit ?_
 refine wpList_one rfl fun K hK => ?_
 go_simp
 refine hK.out _ _ ?_
 clear hK K
 try simp only [Act.put, List.setIfInBounds_toArray, List.set_cons_zero, List.set_cons_succ]
 refine wpList_one rfl fun K hK => ?_
 go_simp
 refine hK.out _ _ ?_
 clear hK K
 try simp only [Act.put, List.setIfInBounds_toArray, List.set_cons_zero, List.set_cons_succ]
 refine wpList_one rfl fun K hK => ?_
 go_simp
 go_wp2_with (go_at_call 33; refine (HKN _).out.mono ?_; rintro e w3 ⟨rfl, rfl⟩)
 refine hK.out _ _ ?_
 clear hK K
 try simp only [Act.put, List.setIfInBounds_toArray, List.set_cons_zero, List.set_cons_succ]
 refine wpList_buildV (.agg V1) (exec_build hbuild) ?_
 (try simp only [Act.put, List.setIfInBounds_toArray, List.set_cons_zero, List.set_cons_succ])
 clear hbuild
 refine wpList_one rfl fun K hK => ?_
 go_simp
 refine hK.out _ _ ?_
 clear hK K
 try simp only [Act.put, List.setIfInBounds_toArray, List.set_cons_zero, List.set_cons_succ]
 have hUB : Upd Nowhere w (wB.alloc (.cells zRe TRe)) := hU0.alloc _
 have hZ := Blk.new wB zRe TRe
 have HON : Hid (w.heap.size ≤ wB.heap.size ∧ wB.heap.size ≠ rb ∧ wB.heap.size ≠ pb) := Lib.hid (by have := hU0.size; have := HRb.out.lt; have := hP.lt; omega)
 have HRb := Lib.hid (Blk.alloc HRb.out (.cells zRe TRe))
 have hP := Blk.alloc hP (.cells zRe TRe)
 generalize wB.heap.size = ob at *
 clear hU0 p0 p1 p2 p3 p4
 generalize wB.alloc (.cells zRe TRe) = wC at *
 obtain ⟨wD, hst, hOB, huD⟩ := store_all (P := Tryz.prog) (T := TRe) (V := V1) (n := 42) hZ infoRe rfl hs1 ha1
 refine wpList_storeV TRe (.tmp 5) (.tmp 9) ⟨ob, 0, none⟩ (.agg V1) hst ?_
 refine wpList_nil ?_
 have HRD := Lib.hid (HRb.out.kept huD (fun e => HON.out.2.1 e.symm))
 have hPD := hP.kept huD (fun e => HON.out.2.2 e.symm)
 have hUD : Upd Nowhere w wD := hUB.trans huD (fun q hq e => by have := HON.out.1; omega)
 clear hst huD hZ hUB HRb hP
 have hSD := HH.out.old hUD
 have hsb := (sep_blk hSD).1
 have HSS : Hid (own s) := Lib.hid (sep_blk hSD).2
 have HOFF : Hid (¬ own rb ∧ ¬ own ob ∧ ¬ own pb) := Lib.hid ⟨fun h => by have := HLT.out _ h; have := HRN.out; omega, fun h => by have := HLT.out _ h; have := HON.out.1; omega, fun h => by have := HLT.out _ h; have := HPN.out; omega⟩
 have c5 : wD.cell? ⟨s, 5, none⟩ = some (.iface T VV) := hsb.cellAt rfl
 have o0 : wD.cell? ⟨ob, 0, none⟩ = some (.int .i64 0) := hOB.cellAt (by rw [← HV1.out]; rfl)
 obtain rfl : ES = ({ Sh.re0 0 with code := 1 }, Sh.refuse st 1) := by rw [← HES.out]; unfold Sh.doS; rw [if_neg (by rw [hk]; decide), if_neg (by rw [hk]; decide), if_neg (by rw [hk]; decide), if_neg (by rw [hk]; decide), if_neg (by rw [hk]; decide)]
 have hy32 : rOf st.ref 1 ≤ 18446744073709551615 := Sh.getD_le hg.rb
 obtain ⟨oS, hS, hSs, hSb⟩ := Sep.foc (blkC s (SC g k c.rate c.burst st.tok (.iface T VV) st.now (rOf st.ref)) TSh) [gmC g c st.pk st.by_ c.flows.length st.own, rkC k gf gt c.flows.length cf ct c.rank c.flows st.tags st.virt, bkC hR (.iface T VV) c.packets.toNat cnt st.bk] [] hSD
 have HRef := Lib.hid (refuse_any hS.1 (show 1 < 32 by omega) hy32)
 have HSb : Hid (∀ w6, Blk w6 s (SC g k c.rate c.burst st.tok (.iface T VV) st.now (rSet (rOf st.ref) 1 (min (rOf st.ref 1 + 1) 18446744073709551615))) TSh → Upd (fun q => q = s) wD w6 → ∃ own', Sep w6 (shL hR ⟨s, g, k, gf, gt, cf, ct, .iface T VV⟩ c cnt (Sh.refuse st 1)) own' ∧ Fol wD own w6 own') := Lib.hid (fun w6 h6 u6 => by
  have e2 : rOf (Sh.refuse st 1).ref = rSet (rOf st.ref) 1 (min (rOf st.ref 1 + 1) 18446744073709551615) := rOf_set (by rw [hg.rl]; omega)
  obtain ⟨own', a1, a2⟩ := hSb w6 oS (blkC s (SC g k c.rate c.burst st.tok (.iface T VV) st.now (rSet (rOf st.ref) 1 (min (rOf st.ref 1 + 1) 18446744073709551615))) TSh) ⟨h6, hS.2⟩ ⟨fun _ h => .inl h, u6.mono fun q _ e => (hS.2 q).2 e⟩
  refine ⟨own', ?_, a2⟩
  unfold shL
  rw [e2]
  exact a1)
 have HOB := Lib.hid hOB
 have HUD := Lib.hid hUD
 clear hSb hSs hS hSD hOB hUD hsb hPD HES
 go_upto_region 6 with fail
 go_wp2_with fail
 refine HRef.out.mono ?_
 rintro e w6 ⟨rfl, h6, u6⟩
 obtain ⟨own6, hS6, hF6⟩ := HSb.out w6 h6 u6
 have hO6 := hF6.blk HOB.out HOFF.out.2.1
 have hR6 := hF6.blk HRD.out HOFF.out.1
 have HNO6 : Hid (¬ own6 rb ∧ ¬ own6 ob) := Lib.hid ⟨hF6.off HOFF.out.1 HRD.out.lt, hF6.off HOFF.out.2.1 HOB.out.lt⟩
 have o1 : w6.cell? ⟨ob, 1, none⟩ = some (.int .i64 0) := hO6.cellAt (by rw [← HV1.out]; rfl)
 have z1 := hO6.free 1
 obtain ⟨V2, hV2⟩ : ∃ V2, V1.setIfInBounds 1 (.int .i64 1) = V2 := ⟨_, rfl⟩
 have e2 : V2 = VRe 0 1 0 0 0 0 0 0 0 0 (fun _ => 0) := by rw [← hV2, ← HV1.out]; rfl
 have hO7 : Blk (w6.setCell ⟨ob, 1, none⟩ (.int .i64 1)) ob V2 TRe := by rw [← hV2]; exact hO6.set 1 _
 have HU7 : Hid (Upd (fun q => q = ob) w6 (w6.setCell ⟨ob, 1, none⟩ (.int .i64 1))) := Lib.hid (Upd.setCell (S := fun q => q = ob) (a := ⟨ob, 1, none⟩) (Upd.refl _ _) (fun _ => rfl) _)
 have HO7 := Lib.hid hO7
 have HS6 := Lib.hid hS6
 have HF6 := Lib.hid hF6
 have HR6 := Lib.hid hR6
 have hs2 : V2.size = 42 := by rw [e2]; rfl
 have ha2 : V2.all (·.oneCell') = true := by rw [e2]; exact vre_one ..
 clear hO7 hO6 hV2 h6 u6 hS6 hF6 hR6
 go_upto_region 18 with fail
 generalize w6.setCell ⟨ob, 1, none⟩ (.int .i64 1) = w7 at *
 have hR7 := HR6.out.kept HU7.out (fun e => HON.out.2.1 e.symm)
 obtain ⟨w9, hst, hR9, hu9⟩ := store_all (P := Tryz.prog) (T := TRe) (V := V2) (n := 42) hR7 infoRe rfl hs2 ha2
 refine wp_region_lit ?_
 refine wpList_loadV TRe (.tmp 5) ⟨ob, 0, none⟩ (.agg V2) (load_all (n := 42) HO7.out Tryz.underlying51 rfl infoRe hs2) ?_
 (try simp only [Act.put, List.setIfInBounds_toArray, List.set_cons_zero, List.set_cons_succ])
 refine wpList_storeV TRe (.tmp 4) (.tmp 67) ⟨rb, 0, none⟩ (.agg V2) hst ?_
 refine wpList_nil ?_
 go_wp2_with fail
 refine bodyPost_ret (v := .agg V2) (results_cell (t := TRe) (x := 4) rfl rfl (load_all (n := 42) hR9 Tryz.underlying51 rfl infoRe hs2)) rfl ⟨?_, ?_⟩
 · rw [e2]; unfold vre; dsimp only [Sh.re0]; rw [rOf_z32]
 · exact ⟨own6, cnt, Nat.le_succ _, (HS6.out.kp HU7.out (fun q hq e => HNO6.out.2 (by rw [← e]; exact hq))).kp hu9 (fun q hq e => HNO6.out.1 (by rw [← e]; exact hq)), ((((Fol.refl w own).old HUD.out).trans HF6.out).ret HU7.out HON.out.1).ret hu9 HRN.out.1⟩
end
end Go.Proofs.YtpgpjjkeginbbaaGreatDoor.Shm
namespace Go.Proofs.YtpgpjjkeginbbaaGreatDoor.Shm
open Go.RowKit Go.Proofs BigFrame
open Sh (Fl Cg Pk St)
open Rnk (RkIn)
set_option maxHeartbeats 40000000
set_option maxRecDepth 1000000
set_option linter.unusedSimpArgs false
theorem tick_cap {a b bu : Nat} (h : bu ≤ Sh.mx) : min (min (a + min b Sh.mx) Sh.mx) bu = min (a + b) bu := by unfold Sh.mx at *; omega
section
variable {R : World → Value → (Nat → Prop) → Nat → Nat → Sh.Bk → Prop}
theorem do_stats (hR : Bk.Laws R) {w : World} {own : Nat → Prop} {L : Lay} {c : Cg} {cnt : Nat} {st : St} {x : Sh.Op} (h : (shC hR L c cnt st).P w own)  (hk : Sh.known x.kind = 4) :
 Calls Tryz.prog 10 #[.pointer (some ⟨L.s, 0, none⟩), .agg (VOp x)] w (DoPost hR w own L c cnt st x) := by
 unfold DoPost
 obtain ⟨kind, x0, x1, x2, ticks⟩ := x
 obtain ⟨s, g, k, gf, gt, cf, ct, v⟩ := L
 dsimp only at *
 obtain ⟨ES, hES⟩ : ∃ ES, Sh.doS c st ⟨kind, x0, x1, x2, ticks⟩ = ES := ⟨_, rfl⟩
 rw [hES]
 have HES := Lib.hid hES
 clear hES
 have HKN := fun u => known_any kind u
 rw [hk] at HKN
 have HKN := fun u => Lib.hid (HKN u)
 have HH : Hid (Sep w (shL hR ⟨s, g, k, gf, gt, cf, ct, v⟩ c cnt st) own) := Lib.hid h
 have HLT : Hid (∀ q, own q → q < w.heap.size) := Lib.hid (fun q hq => Sep.lt HH.out hq)
 obtain ⟨T, VV, hv⟩ : ∃ T VV, v = .iface T VV := by
  obtain ⟨oB, hB, _, _⟩ := Sep.foc (bkC hR v c.packets.toNat cnt st.bk) [] [blkC s (SC g k c.rate c.burst st.tok v st.now (rOf st.ref)) TSh, gmC g c st.pk st.by_ c.flows.length st.own, rkC k gf gt c.flows.length cf ct c.rank c.flows st.tags st.virt] HH.out
  obtain ⟨T, VV, fp, fk, fo, hM⟩ := hR.meth hB
  exact ⟨T, VV, hM.eq⟩
 subst hv
 have hnil := iface_nil T VV
 clear h
 have hU0 : Upd Nowhere w ((w.alloc (.cells (VOp ⟨kind, x0, x1, x2, ticks⟩) TOp)).alloc (.cells zRe TRe)) := ((Upd.refl _ _).alloc _).alloc _
 have hP := Blk.alloc (Blk.new w (VOp ⟨kind, x0, x1, x2, ticks⟩) TOp) (.cells zRe TRe)
 have HRb := Lib.hid (Blk.new2 w (.cells (VOp ⟨kind, x0, x1, x2, ticks⟩) TOp) zRe TRe)
 go_enter Tryz.func10, Tryz.ntmps10
 go_upto_region 1 with fail
 have HRN : Hid (w.heap.size ≤ w.heap.size + 1 ∧ w.heap.size ≤ w.heap.size ∧ w.heap.size < w.heap.size + 1) := Lib.hid (by omega)
 generalize w.heap.size + 1 = rb at *
 obtain ⟨pb, hpb⟩ : ∃ pb, w.heap.size = pb := ⟨_, rfl⟩
 have HPN : Hid (w.heap.size ≤ pb ∧ pb ≠ rb) := Lib.hid (by have := HRN.out; omega)
 rw [hpb] at hP
 simp only [hpb]
 clear hpb
 generalize (w.alloc (.cells (VOp ⟨kind, x0, x1, x2, ticks⟩) TOp)).alloc (.cells zRe TRe) = wB at *
 obtain ⟨p0, p1, p2, p3, p4, _, _, _, _, _⟩ := cells5 hP
 obtain ⟨V1, hV1⟩ : ∃ V1, VRe 4 0 0 0 0 0 0 0 0 0 (fun _ => 0) = V1 := ⟨_, rfl⟩
 have HV1 := Lib.hid hV1
 have hs1 : V1.size = 42 := by rw [← hV1]; rfl
 have ha1 : V1.all (·.oneCell') = true := by rw [← hV1]; exact vre_one ..
 have hbuild := build_rek 4 wB
 rw [hV1] at hbuild
 clear hV1
 refine wp_region_lit ?_
 refine wpList_one rfl fun K hK => ?_
 go_simp
 refine hK.out _ _ ?_
 clear hK K
 try simp only [Act.put, List.setIfInBounds_toArray, List.set_cons_zero, List.set_cons_succ]
 refine wpList_one rfl fun K hK => ?_
 go_simp
 refine hK.out _ _ ?_
 clear hK K
 try simp only [Act.put, List.setIfInBounds_toArray, List.set_cons_zero, List.set_cons_succ]
 refine wpList_one rfl fun K hK => ?_
 go_simp
 go_wp2_with (go_at_call 33; refine (HKN _).out.mono ?_; rintro e w3 ⟨rfl, rfl⟩)
 refine hK.out _ _ ?_
 clear hK K
 try simp only [Act.put, List.setIfInBounds_toArray, List.set_cons_zero, List.set_cons_succ]
 refine wpList_buildV (.agg V1) (exec_build hbuild) ?_
 (try simp only [Act.put, List.setIfInBounds_toArray, List.set_cons_zero, List.set_cons_succ])
 clear hbuild
 refine wpList_one rfl fun K hK => ?_
 go_simp
 refine hK.out _ _ ?_
 clear hK K
 try simp only [Act.put, List.setIfInBounds_toArray, List.set_cons_zero, List.set_cons_succ]
 have hUB : Upd Nowhere w (wB.alloc (.cells zRe TRe)) := hU0.alloc _
 have hZ := Blk.new wB zRe TRe
 have HON : Hid (w.heap.size ≤ wB.heap.size ∧ wB.heap.size ≠ rb ∧ wB.heap.size ≠ pb) := Lib.hid (by have := hU0.size; have := HRb.out.lt; have := hP.lt; omega)
 have HRb := Lib.hid (Blk.alloc HRb.out (.cells zRe TRe))
 have hP := Blk.alloc hP (.cells zRe TRe)
 generalize wB.heap.size = ob at *
 clear hU0 p0 p1 p2 p3 p4
 generalize wB.alloc (.cells zRe TRe) = wC at *
 obtain ⟨wD, hst, hOB, huD⟩ := store_all (P := Tryz.prog) (T := TRe) (V := V1) (n := 42) hZ infoRe rfl hs1 ha1
 refine wpList_storeV TRe (.tmp 5) (.tmp 9) ⟨ob, 0, none⟩ (.agg V1) hst ?_
 refine wpList_nil ?_
 have HRD := Lib.hid (HRb.out.kept huD (fun e => HON.out.2.1 e.symm))
 have hPD := hP.kept huD (fun e => HON.out.2.2 e.symm)
 have hUD : Upd Nowhere w wD := hUB.trans huD (fun q hq e => by have := HON.out.1; omega)
 clear hst huD hZ hUB HRb hP
 have hSD := HH.out.old hUD
 have hsb := (sep_blk hSD).1
 have HSS : Hid (own s) := Lib.hid (sep_blk hSD).2
 have HOFF : Hid (¬ own rb ∧ ¬ own ob ∧ ¬ own pb) := Lib.hid ⟨fun h => by have := HLT.out _ h; have := HRN.out; omega, fun h => by have := HLT.out _ h; have := HON.out.1; omega, fun h => by have := HLT.out _ h; have := HPN.out; omega⟩
 have c5 : wD.cell? ⟨s, 5, none⟩ = some (.iface T VV) := hsb.cellAt rfl
 have o0 : wD.cell? ⟨ob, 0, none⟩ = some (.int .i64 4) := hOB.cellAt (by rw [← HV1.out]; rfl)
 obtain rfl : ES = ({ Sh.re0 4 with now := st.now, tok := st.tok, pk := st.pk, by_ := st.by_, ref := st.ref }, st) := by rw [← HES.out]; unfold Sh.doS; rw [if_neg (by rw [hk]; decide), if_neg (by rw [hk]; decide), if_neg (by rw [hk]; decide), if_pos hk]
 obtain ⟨oG, hG, hGs, hGb⟩ := Sep.foc (gmC g c st.pk st.by_ c.flows.length st.own) [rkC k gf gt c.flows.length cf ct c.rank c.flows st.tags st.virt, bkC hR (.iface T VV) c.packets.toNat cnt st.bk] [blkC s (SC g k c.rate c.burst st.tok (.iface T VV) st.now (rOf st.ref)) TSh] hSD
 have HCQ := Lib.hid (stats_any hsb hG)
 obtain ⟨VS, hVS⟩ : ∃ VS, VSt st.now st.tok st.pk st.by_ (rOf st.ref) = VS := ⟨_, rfl⟩
 have hs3 : VS.size = 36 := by rw [← hVS]; rfl
 have ha3 : VS.all (·.oneCell') = true := by rw [← hVS]; kernel_rfl
 rw [hVS] at HCQ
 have HVS := Lib.hid hVS
 have HSD := Lib.hid hSD
 have HOB := Lib.hid hOB
 have HUD := Lib.hid hUD
 clear hVS hGb hGs hG hSD hOB hUD hsb hPD HES
 go_upto_region 15 with fail
 refine wp_region_lit ?_
 refine wpList_one rfl fun K hK => ?_
 go_simp
 refine hK.out _ _ ?_
 clear hK K
 try simp only [Act.put, List.setIfInBounds_toArray, List.set_cons_zero, List.set_cons_succ]
 refine wpList_one rfl fun K hK => ?_
 go_simp
 go_wp2_with (go_at_call 38; refine HCQ.out.mono ?_; rintro e w5 ⟨rfl, u5⟩)
 refine hK.out _ _ ?_
 clear hK K
 (try simp only [Act.put, List.setIfInBounds_toArray, List.set_cons_zero, List.set_cons_succ])
 refine wpList_one rfl fun K hK => ?_
 go_simp
 refine hK.out _ _ ?_
 clear hK K
 try simp only [Act.put, List.setIfInBounds_toArray, List.set_cons_zero, List.set_cons_succ]
 have hO5 := Shm.Blk.old HOB.out u5
 have HU5 := Lib.hid u5
 obtain ⟨w6, hst6, hO6, hu6⟩ := store_mid (P := Tryz.prog) (T := TSt) (V := VS) (o := 6) (n := 36) hO5 (by kernel_rfl) hs3 (by rw [hs1]; omega) ha3
 refine wpList_storeV TSt (.tmp 61) (.tmp 60) ⟨ob, 6, none⟩ (.agg VS) hst6 ?_
 refine wpList_nil ?_
 obtain ⟨V2, hV2⟩ : ∃ V2, putA V1 6 VS.toList = V2 := ⟨_, rfl⟩
 have e2 : V2 = VRe 4 0 0 0 0 0 st.now st.tok st.pk st.by_ (rOf st.ref) := by rw [← hV2, ← HV1.out, ← HVS.out]; kernel_rfl
 rw [hV2] at hO6
 have HO6 := Lib.hid hO6
 have HU6 := Lib.hid hu6
 have hs2 : V2.size = 42 := by rw [e2]; rfl
 have ha2 : V2.all (·.oneCell') = true := by rw [e2]; exact vre_one ..
 clear hO6 hu6 hO5 u5 hst6 hV2
 go_upto_region 18 with fail
 have hR7 := (Shm.Blk.old HRD.out HU5.out).kept HU6.out (fun e => HON.out.2.1 e.symm)
 obtain ⟨w9, hst, hR9, hu9⟩ := store_all (P := Tryz.prog) (T := TRe) (V := V2) (n := 42) hR7 infoRe rfl hs2 ha2
 refine wp_region_lit ?_
 refine wpList_loadV TRe (.tmp 5) ⟨ob, 0, none⟩ (.agg V2) (load_all (n := 42) HO6.out Tryz.underlying51 rfl infoRe hs2) ?_
 (try simp only [Act.put, List.setIfInBounds_toArray, List.set_cons_zero, List.set_cons_succ])
 refine wpList_storeV TRe (.tmp 4) (.tmp 67) ⟨rb, 0, none⟩ (.agg V2) hst ?_
 refine wpList_nil ?_
 go_wp2_with fail
 refine bodyPost_ret (v := .agg V2) (results_cell (t := TRe) (x := 4) rfl rfl (load_all (n := 42) hR9 Tryz.underlying51 rfl infoRe hs2)) rfl ⟨?_, ?_⟩
 · rw [e2]; rfl
 · exact ⟨own, cnt, Nat.le_succ _, ((HSD.out.old HU5.out).kp HU6.out (fun q hq e => HOFF.out.2.1 (by rw [← e]; exact hq))).kp hu9 (fun q hq e => HOFF.out.1 (by rw [← e]; exact hq)), ((((Fol.refl w own).old HUD.out).old HU5.out).ret HU6.out HON.out.1).ret hu9 HRN.out.1⟩
theorem do_tick (hR : Bk.Laws R) {w : World} {own : Nat → Prop} {L : Lay} {c : Cg} {cnt : Nat} {st : St} {x : Sh.Op} (h : (shC hR L c cnt st).P w own) (hg : Sh.Good c st) (hc : Sh.Cok c) (hx : x.Ok) (hk : Sh.known x.kind = 3) :
 Calls Tryz.prog 10 #[.pointer (some ⟨L.s, 0, none⟩), .agg (VOp x)] w (DoPost hR w own L c cnt st x) := by
 unfold DoPost
 obtain ⟨kind, x0, x1, x2, ticks⟩ := x
 obtain ⟨s, g, k, gf, gt, cf, ct, v⟩ := L
 dsimp only at *
 obtain ⟨ES, hES⟩ : ∃ ES, Sh.doS c st ⟨kind, x0, x1, x2, ticks⟩ = ES := ⟨_, rfl⟩
 rw [hES]
 have HES := Lib.hid hES
 clear hES
 have HKN := fun u => known_any kind u
 rw [hk] at HKN
 have HKN := fun u => Lib.hid (HKN u)
 have HH : Hid (Sep w (shL hR ⟨s, g, k, gf, gt, cf, ct, v⟩ c cnt st) own) := Lib.hid h
 have HLT : Hid (∀ q, own q → q < w.heap.size) := Lib.hid (fun q hq => Sep.lt HH.out hq)
 obtain ⟨T, VV, hv⟩ : ∃ T VV, v = .iface T VV := by
  obtain ⟨oB, hB, _, _⟩ := Sep.foc (bkC hR v c.packets.toNat cnt st.bk) [] [blkC s (SC g k c.rate c.burst st.tok v st.now (rOf st.ref)) TSh, gmC g c st.pk st.by_ c.flows.length st.own, rkC k gf gt c.flows.length cf ct c.rank c.flows st.tags st.virt] HH.out
  obtain ⟨T, VV, fp, fk, fo, hM⟩ := hR.meth hB
  exact ⟨T, VV, hM.eq⟩
 subst hv
 have hnil := iface_nil T VV
 clear h
 have hU0 : Upd Nowhere w ((w.alloc (.cells (VOp ⟨kind, x0, x1, x2, ticks⟩) TOp)).alloc (.cells zRe TRe)) := ((Upd.refl _ _).alloc _).alloc _
 have hP := Blk.alloc (Blk.new w (VOp ⟨kind, x0, x1, x2, ticks⟩) TOp) (.cells zRe TRe)
 have HRb := Lib.hid (Blk.new2 w (.cells (VOp ⟨kind, x0, x1, x2, ticks⟩) TOp) zRe TRe)
 go_enter Tryz.func10, Tryz.ntmps10
 go_upto_region 1 with fail
 have HRN : Hid (w.heap.size ≤ w.heap.size + 1 ∧ w.heap.size ≤ w.heap.size ∧ w.heap.size < w.heap.size + 1) := Lib.hid (by omega)
 generalize w.heap.size + 1 = rb at *
 obtain ⟨pb, hpb⟩ : ∃ pb, w.heap.size = pb := ⟨_, rfl⟩
 have HPN : Hid (w.heap.size ≤ pb ∧ pb ≠ rb) := Lib.hid (by have := HRN.out; omega)
 rw [hpb] at hP
 simp only [hpb]
 clear hpb
 generalize (w.alloc (.cells (VOp ⟨kind, x0, x1, x2, ticks⟩) TOp)).alloc (.cells zRe TRe) = wB at *
 obtain ⟨p0, p1, p2, p3, p4, _, _, _, _, _⟩ := cells5 hP
 obtain ⟨V1, hV1⟩ : ∃ V1, VRe 3 0 0 0 0 0 0 0 0 0 (fun _ => 0) = V1 := ⟨_, rfl⟩
 have HV1 := Lib.hid hV1
 have hs1 : V1.size = 42 := by rw [← hV1]; rfl
 have ha1 : V1.all (·.oneCell') = true := by rw [← hV1]; exact vre_one ..
 have hbuild := build_rek 3 wB
 rw [hV1] at hbuild
 clear hV1
 refine wp_region_lit ?_
 refine wpList_one rfl fun K hK => ?_
 go_simp
 refine hK.out _ _ ?_
 clear hK K
 try simp only [Act.put, List.setIfInBounds_toArray, List.set_cons_zero, List.set_cons_succ]
 refine wpList_one rfl fun K hK => ?_
 go_simp
 refine hK.out _ _ ?_
 clear hK K
 try simp only [Act.put, List.setIfInBounds_toArray, List.set_cons_zero, List.set_cons_succ]
 refine wpList_one rfl fun K hK => ?_
 go_simp
 go_wp2_with (go_at_call 33; refine (HKN _).out.mono ?_; rintro e w3 ⟨rfl, rfl⟩)
 refine hK.out _ _ ?_
 clear hK K
 try simp only [Act.put, List.setIfInBounds_toArray, List.set_cons_zero, List.set_cons_succ]
 refine wpList_buildV (.agg V1) (exec_build hbuild) ?_
 (try simp only [Act.put, List.setIfInBounds_toArray, List.set_cons_zero, List.set_cons_succ])
 clear hbuild
 refine wpList_one rfl fun K hK => ?_
 go_simp
 refine hK.out _ _ ?_
 clear hK K
 try simp only [Act.put, List.setIfInBounds_toArray, List.set_cons_zero, List.set_cons_succ]
 have hUB : Upd Nowhere w (wB.alloc (.cells zRe TRe)) := hU0.alloc _
 have hZ := Blk.new wB zRe TRe
 have HON : Hid (w.heap.size ≤ wB.heap.size ∧ wB.heap.size ≠ rb ∧ wB.heap.size ≠ pb) := Lib.hid (by have := hU0.size; have := HRb.out.lt; have := hP.lt; omega)
 have HRb := Lib.hid (Blk.alloc HRb.out (.cells zRe TRe))
 have hP := Blk.alloc hP (.cells zRe TRe)
 generalize wB.heap.size = ob at *
 clear hU0 p0 p1 p2 p3 p4
 generalize wB.alloc (.cells zRe TRe) = wC at *
 obtain ⟨wD, hst, hOB, huD⟩ := store_all (P := Tryz.prog) (T := TRe) (V := V1) (n := 42) hZ infoRe rfl hs1 ha1
 refine wpList_storeV TRe (.tmp 5) (.tmp 9) ⟨ob, 0, none⟩ (.agg V1) hst ?_
 refine wpList_nil ?_
 have HRD := Lib.hid (HRb.out.kept huD (fun e => HON.out.2.1 e.symm))
 have hPD := hP.kept huD (fun e => HON.out.2.2 e.symm)
 have hUD : Upd Nowhere w wD := hUB.trans huD (fun q hq e => by have := HON.out.1; omega)
 clear hst huD hZ hUB HRb hP
 have hSD := HH.out.old hUD
 have hsb := (sep_blk hSD).1
 have HSS : Hid (own s) := Lib.hid (sep_blk hSD).2
 have HOFF : Hid (¬ own rb ∧ ¬ own ob ∧ ¬ own pb) := Lib.hid ⟨fun h => by have := HLT.out _ h; have := HRN.out; omega, fun h => by have := HLT.out _ h; have := HON.out.1; omega, fun h => by have := HLT.out _ h; have := HPN.out; omega⟩
 have c5 : wD.cell? ⟨s, 5, none⟩ = some (.iface T VV) := hsb.cellAt rfl
 have o0 : wD.cell? ⟨ob, 0, none⟩ = some (.int .i64 3) := hOB.cellAt (by rw [← HV1.out]; rfl)
 obtain ⟨NW, hNW⟩ : ∃ NW, min (st.now + ticks) 18446744073709551615 = NW := ⟨_, rfl⟩
 obtain ⟨TK, hTK⟩ : ∃ TK, min (st.tok + c.rate * ticks) c.burst = TK := ⟨_, rfl⟩
 have hcb := hc.burst
 obtain rfl : ES = (Sh.re0 3, { st with now := NW, tok := TK }) := by
  rw [← HES.out]; unfold Sh.doS; rw [if_neg (by rw [hk]; decide), if_neg (by rw [hk]; decide), if_pos hk]
  dsimp only
  rw [hNW, tick_cap hcb, hTK]
 have hsh := Sh.chk_parts hc.k0
 obtain ⟨_, _, _, _, _, _, _, hmt1, _⟩ := Gt.chkA_ok hsh.2.2.2.2.2.2.2.2.2.2.1
 have hA := fun u => Bits.sat_add st.now ticks u hg.nw hx.2.2.2
 rw [hNW] at hA
 have HA := fun u => Lib.hid (hA u)
 have hT := fun u => Bucket.tick_ok c.rate c.burst st.tok ticks hc.rate hc.burst hx.2.2.2 (Bucket.chk_ok.2 ⟨by have := hsh.2.2.2.2.2.2.2.2.2.2.2.1; omega, by have := hsh.2.2.2.2.2.2.2.2.2.2.2.2; omega, hg.tk⟩) u
 rw [hTK] at hT
 have HT := fun u => Lib.hid (hT u)
 obtain ⟨oS, hS, hSs, hSb⟩ := Sep.foc (blkC s (SC g k c.rate c.burst st.tok (.iface T VV) st.now (rOf st.ref)) TSh) [gmC g c st.pk st.by_ c.flows.length st.own, rkC k gf gt c.flows.length cf ct c.rank c.flows st.tags st.virt, bkC hR (.iface T VV) c.packets.toNat cnt st.bk] [] hSD
 have HSb : Hid (∀ w6, Blk w6 s (SC g k c.rate c.burst TK (.iface T VV) NW (rOf st.ref)) TSh → Upd (fun q => q = s) wD w6 → ∃ own', Sep w6 (shL hR ⟨s, g, k, gf, gt, cf, ct, .iface T VV⟩ c cnt { st with now := NW, tok := TK }) own' ∧ Fol wD own w6 own') := Lib.hid (fun w6 h6 u6 => hSb w6 oS (blkC s (SC g k c.rate c.burst TK (.iface T VV) NW (rOf st.ref)) TSh) ⟨h6, hS.2⟩ ⟨fun _ h => .inl h, u6.mono fun q _ e => (hS.2 q).2 e⟩)
 have c6 : wD.cell? ⟨s, 6, none⟩ = some (.int .u64 (st.now : Nat)) := hsb.cellAt rfl
 have z6 := hsb.free 6
 have p4 : wD.cell? ⟨pb, 4, none⟩ = some (.int .u64 ticks) := hPD.cellAt rfl
 have hps : ¬ pb = s := fun e => HOFF.out.2.2 (by rw [e]; exact HSS.out)
 have hB7 : Blk (wD.setCell ⟨s, 6, none⟩ (.int .u64 (NW : Nat))).drew s (SC g k c.rate c.burst st.tok (.iface T VV) NW (rOf st.ref)) TSh := Blk.drew (hsb.set 6 _)
 have hU7 : Upd (fun q => q = s) wD (wD.setCell ⟨s, 6, none⟩ (.int .u64 (NW : Nat))).drew := (Upd.setCell (S := fun q => q = s) (a := ⟨s, 6, none⟩) (Upd.refl _ _) (fun _ => rfl) _).drew
 have hP7 := hPD.kept hU7 hps
 have HB7 := Lib.hid hB7
 have HU7 := Lib.hid hU7
 have HP7 := Lib.hid hP7
 have HOB := Lib.hid hOB
 have HUD := Lib.hid hUD
 clear hB7 hU7 hP7 hNW hTK hA hT hsh hmt1 hSb hSs hS hSD hOB hUD hsb hPD HES hcb
 go_upto_region 12 with fail
 refine wp_region_held_drew (S := fun w' => w'.cell? ⟨pb, 4, none⟩ = some (.int .u64 ticks)) (by kernel_rfl) p4 (fun hHeld => ?_)
 refine tkq 0 ?_
 refine tkq 1 ?_
 refine tkq 2 ?_
 refine tkq 3 ?_
 refine tkq 5 ?_
 refine tkq 6 ?_
 refine rdq 4 fun K hK => ?_
 go_simp
 refine hK.out _ _ (by (try dsimp only); assumption) (fun hHeld => ?_)
 clear hK K
 refine rdq 7 fun K hK => ?_
 go_simp
 go_wp2_with (go_at_call 36; refine (HA _).out.mono ?_; rintro e w2 ⟨rfl, rfl⟩)
 refine hK.out _ _ (by (try dsimp only); assumption) (fun hHeld => ?_)
 clear hK K
 refine tkq 8 ?_
 refine tkq 9 ?_
 refine rdq 10 fun K hK => ?_
 go_simp
 refine hK.out _ _ (by (try dsimp only); exact HP7.out.cellAt rfl) (fun hHeld => ?_)
 clear hK K
 refine wpAnyH_done (by kernel_rfl) ?_ _
 clear hHeld c6 z6 p4
 generalize (wD.setCell ⟨s, 6, none⟩ (.int .u64 (NW : Nat))).drew = w7 at *
 have b2 : w7.cell? ⟨s, 2, none⟩ = some (.int .u64 (c.rate : Nat)) := HB7.out.cellAt rfl
 have b3 : w7.cell? ⟨s, 3, none⟩ = some (.int .u64 (c.burst : Nat)) := HB7.out.cellAt rfl
 have b4 : w7.cell? ⟨s, 4, none⟩ = some (.int .u64 (st.tok : Nat)) := HB7.out.cellAt rfl
 have p4 : w7.cell? ⟨pb, 4, none⟩ = some (.int .u64 ticks) := HP7.out.cellAt rfl
 go_upto_region 13 with fail
 refine wp_region_held_drew (S := fun w' => w'.cell? ⟨pb, 4, none⟩ = some (.int .u64 ticks)) (by kernel_rfl) p4 (fun hHeld => ?_)
 refine tkq 0 ?_
 refine tkq 1 ?_
 refine tkq 2 ?_
 refine tkq 3 ?_
 refine tkq 5 ?_
 refine tkq 6 ?_
 refine rdq 4 fun K hK => ?_
 go_simp
 refine hK.out _ _ (by (try dsimp only); assumption) (fun hHeld => ?_)
 clear hK K
 refine rdq 7 fun K hK => ?_
 go_simp
 go_wp2_with (go_at_call 37; refine (HT _).out.mono ?_; rintro e w8 ⟨rfl, u8⟩)
 refine hK.out _ _ (by (try dsimp only); exact cell_old (((Upd.refl _ w7).drew).trans u8 (fun _ _ h => h)) p4) (fun hHeld => ?_)
 clear hK K
 have hB8 := Shm.Blk.old (Blk.drew HB7.out) u8
 have hP8 := Shm.Blk.old (Blk.drew HP7.out) u8
 have d2 : w8.cell? ⟨s, 2, none⟩ = some (.int .u64 (c.rate : Nat)) := hB8.cellAt rfl
 have d3 : w8.cell? ⟨s, 3, none⟩ = some (.int .u64 (c.burst : Nat)) := hB8.cellAt rfl
 have d4 : w8.cell? ⟨s, 4, none⟩ = some (.int .u64 (st.tok : Nat)) := hB8.cellAt rfl
 have z2 := hB8.free 2
 have z3 := hB8.free 3
 have z4 := hB8.free 4
 have hB9 : Blk (((w8.setCell ⟨s, 2, none⟩ (.int .u64 (c.rate : Nat))).setCell ⟨s, 3, none⟩ (.int .u64 (c.burst : Nat))).setCell ⟨s, 4, none⟩ (.int .u64 (TK : Nat))) s (SC g k c.rate c.burst TK (.iface T VV) NW (rOf st.ref)) TSh := ((hB8.set 2 _).set 3 _).set 4 _
 have hU9 : Upd (fun q => q = s) w8 (((w8.setCell ⟨s, 2, none⟩ (.int .u64 (c.rate : Nat))).setCell ⟨s, 3, none⟩ (.int .u64 (c.burst : Nat))).setCell ⟨s, 4, none⟩ (.int .u64 (TK : Nat))) := Upd.setCell (S := fun q => q = s) (a := ⟨s, 4, none⟩) (Upd.setCell (S := fun q => q = s) (a := ⟨s, 3, none⟩) (Upd.setCell (S := fun q => q = s) (a := ⟨s, 2, none⟩) (Upd.refl _ _) (fun _ => rfl) _) (fun _ => rfl) _) (fun _ => rfl) _
 have hP9 := hP8.kept hU9 hps
 refine tkq 8 ?_
 refine tkq 9 ?_
 refine rdq 10 fun K hK => ?_
 go_simp
 refine hK.out _ _ (by (try dsimp only); exact hP9.cellAt rfl) (fun hHeld => ?_)
 clear hK K
 refine wpAnyH_done (by kernel_rfl) ?_ _
 have HUF : Hid (Upd (fun q => q = s) wD (((w8.setCell ⟨s, 2, none⟩ (.int .u64 (c.rate : Nat))).setCell ⟨s, 3, none⟩ (.int .u64 (c.burst : Nat))).setCell ⟨s, 4, none⟩ (.int .u64 (TK : Nat)))) := Lib.hid ((HU7.out.drew.trans u8 (fun _ _ h => h.elim)).trans hU9 (fun _ _ h => h))
 have H9 := Lib.hid (HSb.out _ hB9 HUF.out)
 clear hHeld b2 b3 b4 p4 d2 d3 d4 z2 z3 z4 hB9 hU9 hP9 hB8 hP8 u8
 generalize ((w8.setCell ⟨s, 2, none⟩ (.int .u64 (c.rate : Nat))).setCell ⟨s, 3, none⟩ (.int .u64 (c.burst : Nat))).setCell ⟨s, 4, none⟩ (.int .u64 (TK : Nat)) = wE at *
 obtain ⟨own6, hS6, hF6⟩ := H9.out
 have hO6 := hF6.blk HOB.out HOFF.out.2.1
 have hR6 := hF6.blk HRD.out HOFF.out.1
 have HNO6 : Hid (¬ own6 rb) := Lib.hid (hF6.off HOFF.out.1 HRD.out.lt)
 have HS6 := Lib.hid hS6
 have HF6 := Lib.hid hF6
 have hs2 := hs1
 have ha2 := ha1
 clear hS6 hF6
 go_upto_region 18 with fail
 obtain ⟨w9, hst, hR9, hu9⟩ := store_all (P := Tryz.prog) (T := TRe) (V := V1) (n := 42) hR6 infoRe rfl hs2 ha2
 refine wp_region_lit ?_
 refine wpList_loadV TRe (.tmp 5) ⟨ob, 0, none⟩ (.agg V1) (load_all (n := 42) hO6 Tryz.underlying51 rfl infoRe hs2) ?_
 (try simp only [Act.put, List.setIfInBounds_toArray, List.set_cons_zero, List.set_cons_succ])
 refine wpList_storeV TRe (.tmp 4) (.tmp 67) ⟨rb, 0, none⟩ (.agg V1) hst ?_
 refine wpList_nil ?_
 go_wp2_with fail
 refine bodyPost_ret (v := .agg V1) (results_cell (t := TRe) (x := 4) rfl rfl (load_all (n := 42) hR9 Tryz.underlying51 rfl infoRe hs2)) rfl ⟨?_, ?_⟩
 · rw [← HV1.out]; unfold vre; dsimp only [Sh.re0]; rw [rOf_z32]
 · exact ⟨own6, cnt, Nat.le_succ _, HS6.out.kp hu9 (fun q hq e => HNO6.out (by rw [← e]; exact hq)), (((Fol.refl w own).old HUD.out).trans HF6.out).ret hu9 HRN.out.1⟩
theorem do_any (hR : Bk.Laws R) {w : World} {own : Nat → Prop} {L : Lay} {c : Cg} {cnt : Nat} {st : St} {x : Sh.Op} (h : (shC hR L c cnt st).P w own) (hg : Sh.Good c st) (hc : Sh.Cok c) (hx : x.Ok) (hcnt : cnt < 18446744073709551615) (hal : Allow hR c st x) (hev : hR.Ev w own) :
 Calls Tryz.prog 10 #[.pointer (some ⟨L.s, 0, none⟩), .agg (VOp x)] w (DoPost hR w own L c cnt st x) := by
 have hkn : Sh.known x.kind = 0 ∨ Sh.known x.kind = 1 ∨ Sh.known x.kind = 2 ∨ Sh.known x.kind = 3 ∨ Sh.known x.kind = 4 ∨ Sh.known x.kind = 5 := by unfold Sh.known; split <;> omega
 rcases hkn with hk | hk | hk | hk | hk | hk
 · exact do_junk hR h hg hk
 · exact do_enq hR h hg hc hx hcnt (hal.1 hk) hk
 · exact do_deq hR h hg hc (hal.2 hk) hev hk
 · exact do_tick hR h hg hc hx hk
 · exact do_stats hR h hk
 · exact do_torn hR h hg hk
end
end Go.Proofs.YtpgpjjkeginbbaaGreatDoor.Shm

