/- ShM5, one behind the other. -/
import Derived.Test.YtpgpjjkeginbbaaGreatDoorMtSh4
import Derived.Test.YtpgpjjkeginbbaaGreatDoorMtA
import Derived.Test.YtpgpjjkeginbbaaGreatDoorMeTk
namespace Go.Proofs.YtpgpjjkeginbbaaGreatDoor.Shm
open Go.RowKit Go.Proofs BigFrame
open Sh (Fl Cg Pk St)
open Rnk (RkIn)
set_option maxHeartbeats 40000000
set_option maxRecDepth 1000000
set_option linter.unusedSimpArgs false
theorem build_re2 (w : World) : (Instr.build TRe #[(0, .int .i64 2)]).run Tryz.prog w = .ok (.agg (VRe 2 0 0 0 0 0 0 0 0 0 (fun _ => 0))) w := by kernel_rfl
/-- Blocks of the call's own. -/
structure Loc (w : World) (own : Nat → Prop) (rb ob kb : Nat) (V : Array Value) (x0 x1 x2 : Nat) : Prop where
 r : Blk w rb zRe TRe
 o : Blk w ob V TRe
 k : Blk w kb #[.int .u32 (x0 : Nat), .int .u32 (x1 : Nat), .int .u64 (x2 : Nat)] TPk
 nr : ¬ own rb
 no : ¬ own ob
 nk : ¬ own kb
theorem Loc.fol {w w' : World} {own own' : Nat → Prop} {rb ob kb x0 x1 x2 : Nat} {V : Array Value} (h : Loc w own rb ob kb V x0 x1 x2) (hf : Fol w own w' own') : Loc w' own' rb ob kb V x0 x1 x2 :=
 ⟨hf.blk h.r h.nr, hf.blk h.o h.no, hf.blk h.k h.nk, hf.off h.nr h.r.lt, hf.off h.no h.o.lt, hf.off h.nk h.k.lt⟩
theorem take_any (rt bu tk n : Nat) (hr : 0 < rt) (hb : 0 < bu) (ht : tk ≤ bu) (hbm : bu ≤ 18446744073709551615) (w : World) : Calls Tryz.prog 66 #[.agg #[.int .u64 rt, .int .u64 bu, .int .u64 tk], .int .u64 n] w fun e w' => e = .returned (.tuple #[.agg #[.int .u64 rt, .int .u64 bu, .int .u64 ((if n ≤ tk then tk - n else tk) : Nat)], .bool (decide (n ≤ tk))]) ∧ Upd Nowhere w w' := by
 by_cases h : n ≤ tk
 · rw [if_pos h, decide_eq_true h]
   exact Bucket.take_yes rt bu tk n (Bucket.chk_ok.2 ⟨hr, hb, ht⟩) (by omega) h w
 · rw [if_neg h, decide_eq_false h]
   exact Bucket.take_less rt bu tk n (Bucket.chk_ok.2 ⟨hr, hb, ht⟩) (by omega) w
section
variable {R : World → Value → (Nat → Prop) → Nat → Nat → Sh.Bk → Prop}
theorem deq_any (hR : Bk.Laws R) {w : World} {own : Nat → Prop} {L : Lay} {c : Cg} {cnt : Nat} {st : St} (h : (shC hR L c cnt st).P w own) (hg : Sh.Good c st) (hc : Sh.Cok c) (has : hR.As st.bk) (hev : hR.Ev w own) :
 Calls Tryz.prog 35 #[.pointer (some ⟨L.s, 0, none⟩)] w fun e w' => e = .returned (.agg (vre (Sh.deq c st).1)) ∧ ∃ own', (shC hR L c cnt (Sh.deq c st).2).P w' own' ∧ Fol w own w' own' := by
 obtain ⟨s, g, k, gf, gt, cf, ct, v⟩ := L
 dsimp only at *
 obtain ⟨ES, hES⟩ : ∃ ES, Sh.deq c st = ES := ⟨_, rfl⟩
 rw [hES]
 have HES := Lib.hid hES
 clear hES
 have HAS := Lib.hid has
 have HEV := Lib.hid hev
 clear hev
 have HH : Hid (Sep w (shL hR ⟨s, g, k, gf, gt, cf, ct, v⟩ c cnt st) own) := Lib.hid h
 have HLT : Hid (∀ q, own q → q < w.heap.size) := Lib.hid (fun q hq => Sep.lt HH.out hq)
 clear h
 have hU0 : Upd Nowhere w (w.alloc (.cells zRe TRe)) := (Upd.refl _ _).alloc _
 have HRb := Lib.hid (Blk.new w zRe TRe)
 go_enter Tryz.func35, Tryz.ntmps35
 go_upto_region 1 with fail
 generalize hrb : w.heap.size = rb at *
 have HRN : Hid (w.heap.size ≤ rb) := Lib.hid (by omega)
 clear hrb
 generalize w.alloc (.cells zRe TRe) = wB at *
 obtain ⟨V1, hV1⟩ : ∃ V1, VRe 2 0 0 0 0 0 0 0 0 0 (fun _ => 0) = V1 := ⟨_, rfl⟩
 have HV1 := Lib.hid hV1
 have hs1 : V1.size = 42 := by rw [← hV1]; rfl
 have ha1 : V1.all (·.oneCell') = true := by rw [← hV1]; exact vre_one ..
 have hbuild := build_re2 wB
 rw [hV1] at hbuild
 clear hV1
 refine wp_region_lit ?_
 refine wpList_buildV (.agg V1) (exec_build hbuild) ?_
 (try simp only [Act.put, List.setIfInBounds_toArray, List.set_cons_zero, List.set_cons_succ])
 clear hbuild
 refine wpList_one rfl fun K hK => ?_
 go_simp
 refine hK.out _ _ ?_
 clear hK K
 try simp only [Act.put, List.setIfInBounds_toArray, List.set_cons_zero, List.set_cons_succ]
 have hUB : Upd Nowhere w (wB.alloc (.cells zRe TRe)) := hU0.alloc _
 have hZ := Blk.new wB zRe TRe
 have HON : Hid (w.heap.size ≤ wB.heap.size ∧ wB.heap.size ≠ rb) := Lib.hid (by have := hU0.size; have := HRb.out.lt; omega)
 have HON2 : Hid (rb < wB.heap.size) := Lib.hid HRb.out.lt
 have HRb := Lib.hid (Blk.alloc HRb.out (.cells zRe TRe))
 generalize wB.heap.size = ob at *
 clear hU0
 generalize wB.alloc (.cells zRe TRe) = wC at *
 obtain ⟨wD, hst, hOB, huD⟩ := store_all (P := Tryz.prog) (T := TRe) (V := V1) (n := 42) hZ infoRe rfl hs1 ha1
 refine wpList_storeV TRe (.tmp 3) (.tmp 8) ⟨ob, 0, none⟩ (.agg V1) hst ?_
 refine wpList_nil ?_
 have HRD := Lib.hid (HRb.out.kept huD (fun e => HON.out.2 e.symm))
 have hUD : Upd Nowhere w wD := hUB.trans huD (fun q hq e => by have := HON.out.1; omega)
 clear hst huD hZ hUB HRb
 have hSD := HH.out.old hUD
 have hsb := (sep_blk hSD).1
 have HSS : Hid (own s) := Lib.hid (sep_blk hSD).2
 have HOFF : Hid (¬ own rb ∧ ¬ own ob) := Lib.hid ⟨fun h => by have := HLT.out _ h; have := HRN.out; omega, fun h => by have := HLT.out _ h; have := HON2.out; omega⟩
 obtain ⟨oB, hB, hBs, hBb⟩ := Sep.foc (bkC hR v c.packets.toNat cnt st.bk) [] [blkC s (SC g k c.rate c.burst st.tok v st.now (rOf st.ref)) TSh, gmC g c st.pk st.by_ c.flows.length st.own, rkC k gf gt c.flows.length cf ct c.rank c.flows st.tags st.virt] hSD
 obtain ⟨T, VV, fp, fk, fo, hM⟩ := hR.meth hB
 have hv := hM.eq
 have hmh := hM.mh
 have heh := hM.eh
 have hmo := hM.mo
 have heo := hM.eo
 subst hv
 have c5 : wD.cell? ⟨s, 5, none⟩ = some (.iface T VV) := hsb.cellAt rfl
 cases hpk : st.bk.peek with
 | none =>
   obtain rfl : ES = ({ Sh.re0 2 with code := 18 }, st) := by rw [← HES.out]; unfold Sh.deq; rw [hpk]
   have HP := Lib.hid (hM.cn hB hpk has)
   have HSD := Lib.hid hSD
   have HOB := Lib.hid hOB
   have HUD := Lib.hid hUD
   clear HES hM hBb hBs hB hsb hSD hOB hUD hpk hmo heo
   go_upto_region 2 with fail
   go_wp2_with fail
   refine HP.out.mono ?_
   rintro e w5 ⟨rfl, u5⟩
   have hO5 := Shm.Blk.old HOB.out u5
   have o1 : w5.cell? ⟨ob, 1, none⟩ = some (.int .i64 0) := hO5.cellAt (by rw [← HV1.out]; rfl)
   have HU5 := Lib.hid u5
   have HO5 := Lib.hid hO5
   clear u5 hO5 c5 HP
   go_upto_region 4 with fail
   have hUx : Upd Nowhere w5 (w5.alloc (.cells #[.int .u32 0, .int .u32 0, .int .u64 0] TPk)) := (Upd.refl _ _).alloc _
   have hO6 := Shm.Blk.old HO5.out hUx
   have HU6 := Lib.hid (HU5.out.trans hUx (fun _ _ h => h))
   generalize w5.alloc (.cells #[.int .u32 0, .int .u32 0, .int .u64 0] TPk) = w6 at *
   have o1 : w6.cell? ⟨ob, 1, none⟩ = some (.int .i64 0) := hO6.cellAt (by rw [← HV1.out]; rfl)
   have z1 := hO6.free 1
   obtain ⟨V2, hV2⟩ : ∃ V2, V1.setIfInBounds 1 (.int .i64 18) = V2 := ⟨_, rfl⟩
   have e2 : V2 = VRe 2 18 0 0 0 0 0 0 0 0 (fun _ => 0) := by rw [← hV2, ← HV1.out]; rfl
   have hO7 : Blk (w6.setCell ⟨ob, 1, none⟩ (.int .i64 18)) ob V2 TRe := by rw [← hV2]; exact hO6.set 1 _
   have HU7 : Hid (Upd (fun q => q = ob) w6 (w6.setCell ⟨ob, 1, none⟩ (.int .i64 18))) := Lib.hid (Upd.setCell (S := fun q => q = ob) (a := ⟨ob, 1, none⟩) (Upd.refl _ _) (fun _ => rfl) _)
   have HO7 := Lib.hid hO7
   have hs2 : V2.size = 42 := by rw [e2]; rfl
   have ha2 : V2.all (·.oneCell') = true := by rw [e2]; exact vre_one ..
   clear hO7 hO6 hV2 hUx
   go_upto_region 5 with fail
   generalize w6.setCell ⟨ob, 1, none⟩ (.int .i64 18) = w7 at *
   have hR7 := (Shm.Blk.old HRD.out HU6.out).kept HU7.out (fun e => HON.out.2 e.symm)
   obtain ⟨w9, hst, hR9, hu9⟩ := store_all (P := Tryz.prog) (T := TRe) (V := V2) (n := 42) hR7 infoRe rfl hs2 ha2
   refine wp_region_lit ?_
   refine wpList_loadV TRe (.tmp 3) ⟨ob, 0, none⟩ (.agg V2) (load_all (n := 42) HO7.out Tryz.underlying51 rfl infoRe hs2) ?_
   (try simp only [Act.put, List.setIfInBounds_toArray, List.set_cons_zero, List.set_cons_succ])
   refine wpList_storeV TRe (.tmp 2) (.tmp 21) ⟨rb, 0, none⟩ (.agg V2) hst ?_
   refine wpList_nil ?_
   go_wp2_with fail
   refine bodyPost_ret (v := .agg V2) (results_cell (t := TRe) (x := 2) rfl rfl (load_all (n := 42) hR9 Tryz.underlying51 rfl infoRe hs2)) rfl ⟨?_, ?_⟩
   · rw [e2]
     unfold vre
     dsimp only [Sh.re0]
     rw [rOf_z32]
   · exact ⟨own, ((HSD.out.old HU6.out).kp HU7.out (fun q hq e => HOFF.out.2 (by rw [← e]; exact hq))).kp hu9 (fun q hq e => HOFF.out.1 (by rw [← e]; exact hq)), ((((Fol.refl w own).old HUD.out).old HU6.out).ret HU7.out HON.out.1).ret hu9 HRN.out⟩
 | some y =>
   obtain ⟨r, x0, x1, x2⟩ := y
   have HEVD := Lib.hid (hR.evf HEV.out ((Fol.refl w own).old hUD))
   have HP := Lib.hid (hM.ch hB hpk has (hR.evs HEVD.out hBs))
   have HBp : Hid (∀ w5 o5, R w5 (.iface T VV) o5 c.packets.toNat cnt st.bk → Fol wD oB w5 o5 → ∃ own5, Sep w5 (shL hR ⟨s, g, k, gf, gt, cf, ct, .iface T VV⟩ c cnt st) own5 ∧ Fol wD own w5 own5) := Lib.hid (fun w5 o5 h5 f5 => hBb w5 o5 (bkC hR (.iface T VV) c.packets.toNat cnt st.bk) h5 f5)
   have hperm := Sh.Bk.peek_flat hpk
   have hmem := hg.mem (r, x0, x1, x2) (hperm.mem_iff.2 (List.mem_cons_self ..))
   have hsh := Sh.chk_parts hc.k0
   obtain ⟨_, _, _, _, _, _, _, hmt1, _⟩ := Gt.chkA_ok hsh.2.2.2.2.2.2.2.2.2.2.1
   have HT := fun u => Lib.hid (take_any c.rate c.burst st.tok x2 (by have := hsh.2.2.2.2.2.2.2.2.2.2.2.1; omega) (by have := hsh.2.2.2.2.2.2.2.2.2.2.2.2; omega) hg.tk hc.burst u)
   have HSD := Lib.hid hSD
   have HOB := Lib.hid hOB
   have HUD := Lib.hid hUD
   clear hBb hBs hB hsb hSD hOB hUD hmt1
   go_upto_region 2 with fail
   go_wp2_with fail
   refine HP.out.mono ?_
   rintro e w5 ⟨rfl, o5, h5, f5⟩
   obtain ⟨own1, hS5, hF5⟩ := HBp.out w5 o5 h5 f5
   have HS5 := Lib.hid hS5
   have HF0 := Lib.hid (((Fol.refl w own).old HUD.out).trans hF5)
   have HEV5 := Lib.hid (hR.evf HEVD.out hF5)
   have HR5 := Lib.hid (hF5.blk HRD.out HOFF.out.1)
   have HO5 := Lib.hid (hF5.blk HOB.out HOFF.out.2)
   have HOFF : Hid (¬ own1 rb ∧ ¬ own1 ob) := Lib.hid ⟨hF5.off HOFF.out.1 HRD.out.lt, hF5.off HOFF.out.2 HOB.out.lt⟩
   have HLT5 : Hid (∀ q, own1 q → q < w5.heap.size) := Lib.hid (fun q hq => Sep.lt HS5.out hq)
   clear h5 f5 hS5 hF5 c5 HP HBp HEVD HEV HLT
   go_upto_region 6 with fail
   have hUx : Upd Nowhere w5 (w5.alloc (.cells #[.int .u32 x0, .int .u32 x1, .int .u64 x2] TPk)) := (Upd.refl _ _).alloc _
   have hK6 : Blk (w5.alloc (.cells #[.int .u32 x0, .int .u32 x1, .int .u64 x2] TPk)) w5.heap.size #[.int .u32 x0, .int .u32 x1, .int .u64 x2] TPk := Blk.new _ _ _
   have HKN : Hid (w.heap.size ≤ w5.heap.size ∧ ob < w5.heap.size ∧ rb < w5.heap.size) := Lib.hid ⟨HF0.out.upd.size, HO5.out.lt, HR5.out.lt⟩
   have HU6 := Lib.hid hUx
   generalize w5.heap.size = kb at *
   generalize w5.alloc (.cells #[.int .u32 x0, .int .u32 x1, .int .u64 x2] TPk) = w6 at *
   have hL6 : Loc w6 own1 rb ob kb V1 x0 x1 x2 := ⟨Shm.Blk.old HR5.out HU6.out, Shm.Blk.old HO5.out HU6.out, hK6, HOFF.out.1, HOFF.out.2, fun h => Nat.lt_irrefl _ (HLT5.out _ h)⟩
   have hS6 := HS5.out.old HU6.out
   have hsb := (sep_blk hS6).1
   have b2 : w6.cell? ⟨s, 2, none⟩ = some (.int .u64 (c.rate : Nat)) := hsb.cellAt rfl
   have b3 : w6.cell? ⟨s, 3, none⟩ = some (.int .u64 (c.burst : Nat)) := hsb.cellAt rfl
   have b4 : w6.cell? ⟨s, 4, none⟩ = some (.int .u64 (st.tok : Nat)) := hsb.cellAt rfl
   have q2 : w6.cell? ⟨kb, 2, none⟩ = some (.int .u64 x2) := hK6.cellAt rfl
   have HF : Hid (∀ u, Upd Nowhere w6 u → u.cell? ⟨s, 2, none⟩ = some (.int .u64 (c.rate : Nat)) ∧ u.cell? ⟨s, 3, none⟩ = some (.int .u64 (c.burst : Nat)) ∧ u.cell? ⟨s, 4, none⟩ = some (.int .u64 (st.tok : Nat)) ∧ u.cell? ⟨kb, 2, none⟩ = some (.int .u64 x2)) := Lib.hid (fun u hu => ⟨cell_old hu b2, cell_old hu b3, cell_old hu b4, cell_old hu q2⟩)
   obtain ⟨TK, hTK⟩ : ∃ TK, (if x2 ≤ st.tok then st.tok - x2 else st.tok) = TK := ⟨_, rfl⟩
   obtain ⟨IS, hIS⟩ : ∃ IS, decide (x2 ≤ st.tok) = IS := ⟨_, rfl⟩
   rw [hTK, hIS] at HT
   have HTK := Lib.hid hTK
   have HIS := Lib.hid hIS
   have HL6 := Lib.hid hL6
   have HS6 := Lib.hid hS6
   have HUw : Hid (Fol w own w6 own1) := Lib.hid (HF0.out.old HU6.out)
   have HEV6 := Lib.hid (hR.evf HEV5.out ((Fol.refl w5 own1).old HU6.out))
   clear hTK hIS hL6 hS6 hsb hK6 hUx HU6 HSD HOB HUD HRD HS5 HF0 HEV5 HR5 HO5 HLT5
   go_cut [6, 7] (fun v6 v7 wc => ∃ nb, v7 = .pointer (some ⟨nb, 0, none⟩) ∧ v6 = .bool IS ∧ Blk wc nb #[.int .u64 (c.rate : Nat), .int .u64 (c.burst : Nat), .int .u64 (TK : Nat)] TBu ∧ Upd Nowhere w6 wc)
   case first =>
    refine wp_region_held_drew (S := fun w' => Upd Nowhere w6 w' ∧ w'.cell? ⟨s, 2, none⟩ = some (.int .u64 (c.rate : Nat)) ∧ w'.cell? ⟨s, 3, none⟩ = some (.int .u64 (c.burst : Nat)) ∧ w'.cell? ⟨s, 4, none⟩ = some (.int .u64 (st.tok : Nat)) ∧ w'.cell? ⟨kb, 2, none⟩ = some (.int .u64 x2)) (by kernel_rfl) ⟨(Upd.refl _ _).drew, HF.out _ ((Upd.refl _ _).drew)⟩ (fun hHeld => ?_)
    refine tkq 0 ?_
    refine tkq 1 ?_
    refine tkq 2 ?_
    refine tkq 3 ?_
    refine tkq 4 ?_
    refine tkq 5 ?_
    refine wpAnyH_ready (rs := [6, 10]) (by kernel_rfl) (by simp) ?_
    refine AllReadyH.cons (by simp only [List.getElem?_toArray, List.getElem?_cons_zero, List.getElem?_cons_succ]; rfl) (fun K hK => ?_) (AllReadyH.cons (by simp only [List.getElem?_toArray, List.getElem?_cons_zero, List.getElem?_cons_succ]; rfl) (fun K hK => ?_) AllReadyH.nil)
    · go_simp
      go_wp2_with (go_at_call 66; refine (HT _).out.mono ?_; rintro e w7 ⟨rfl, u7⟩)
      have HU7 := Lib.hid (((Upd.refl Nowhere w6).drew).trans u7 (fun _ _ h => h))
      refine hK.out _ _ (by (try dsimp only); exact ⟨HU7.out, HF.out _ HU7.out⟩) (fun hHeld => ?_)
      clear hK K
      refine tkq 7 ?_
      refine tkq 8 ?_
      refine tkq 9 ?_
      have hN := Blk.new w7 #[.int .u64 0, .int .u64 0, .int .u64 0] TBu
      obtain ⟨n0, n1, n2, y0, y1, y2⟩ := cells3 hN
      refine rdq 10 fun K hK => ?_
      go_simp
      refine hK.out _ _ (by (try dsimp only); exact ⟨HU7.out.alloc _, HF.out _ (HU7.out.alloc _)⟩) (fun hHeld => ?_)
      clear hK K
      refine rdq 11 fun K hK => ?_
      go_simp
      refine hK.out _ _ (by (try dsimp only); exact ⟨HU7.out.alloc _, HF.out _ (HU7.out.alloc _)⟩) (fun hHeld => ?_)
      clear hK K
      refine tkq 12 ?_
      refine wpAnyH_done (by kernel_rfl) ?_ _
      go_wp2_with fail
      go_meet
      exact ⟨_, rfl, rfl, Blk.new _ _ _, HU7.out.alloc _⟩
    · go_simp
      have HU0 : Hid (Upd Nowhere w6 (w6.alloc (.cells #[.int .u64 0, .int .u64 0, .int .u64 0] TBu)).drew) := Lib.hid (((Upd.refl _ _).alloc _).drew)
      refine hK.out _ _ (by (try dsimp only); exact ⟨HU0.out, HF.out _ HU0.out⟩) (fun hHeld => ?_)
      clear hK K
      have hN0 : Blk (w6.alloc (.cells #[.int .u64 0, .int .u64 0, .int .u64 0] TBu)).drew w6.heap.size #[.int .u64 0, .int .u64 0, .int .u64 0] TBu := (Blk.new _ _ _).drew
      refine rdq 6 fun K hK => ?_
      go_simp
      go_wp2_with (go_at_call 66; refine (HT _).out.mono ?_; rintro e w7 ⟨rfl, u7⟩)
      refine hK.out _ _ (by (try dsimp only); exact ⟨HU0.out.trans u7 (fun _ _ h => h), HF.out _ (HU0.out.trans u7 (fun _ _ h => h))⟩) (fun hHeld => ?_)
      clear hK K
      have hN7 := Shm.Blk.old hN0 u7
      have HU7 := Lib.hid (HU0.out.trans u7 (fun _ _ h => h))
      obtain ⟨n0, n1, n2, y0, y1, y2⟩ := cells3 hN7
      refine tkq 7 ?_
      refine tkq 8 ?_
      refine tkq 9 ?_
      have HU8 : Hid (Upd Nowhere w6 (((w7.setCell ⟨w6.heap.size, 0, none⟩ (.int .u64 (c.rate : Nat))).setCell ⟨w6.heap.size, 1, none⟩ (.int .u64 (c.burst : Nat))).setCell ⟨w6.heap.size, 2, none⟩ (.int .u64 (TK : Nat)))) := Lib.hid (Upd.setNew (Upd.setNew (Upd.setNew HU7.out (Nat.le_refl _) _) (Nat.le_refl _) _) (Nat.le_refl _) _)
      refine rdq 11 fun K hK => ?_
      go_simp
      refine hK.out _ _ (by (try dsimp only); exact ⟨HU8.out, HF.out _ HU8.out⟩) (fun hHeld => ?_)
      clear hK K
      refine tkq 12 ?_
      refine wpAnyH_done (by kernel_rfl) ?_ _
      go_wp2_with fail
      go_meet
      exact ⟨_, rfl, rfl, hN7.put3 _ _ _, HU8.out⟩
   case rest =>
    obtain ⟨nb, rfl, rfl, hN, u7⟩ := hcut
    obtain ⟨w7, rfl⟩ : ∃ x, x = wc := ⟨_, rfl⟩
    have HL7 : Hid (Loc w7 own1 rb ob kb V1 x0 x1 x2) := Lib.hid (HL6.out.fol ((Fol.refl _ _).old u7))
    have HS7 := Lib.hid (HS6.out.old u7)
    have HUw7 := Lib.hid (HUw.out.old u7)
    have HEV7 := Lib.hid (hR.evf HEV6.out ((Fol.refl w6 own1).old u7))
    clear u7 b2 b3 b4 q2
    cases IS with
    | false =>
      have hlt := of_decide_eq_false HIS.out
      obtain rfl : ES = ({ Sh.re0 2 with code := 19 }, st) := by rw [← HES.out]; unfold Sh.deq; rw [hpk]; dsimp only; rw [if_pos (by omega)]
      have hO7 := HL7.out.o
      have o1 : w7.cell? ⟨ob, 1, none⟩ = some (.int .i64 0) := hO7.cellAt (by rw [← HV1.out]; rfl)
      have z1 := hO7.free 1
      obtain ⟨V2, hV2⟩ : ∃ V2, V1.setIfInBounds 1 (.int .i64 19) = V2 := ⟨_, rfl⟩
      have e2 : V2 = VRe 2 19 0 0 0 0 0 0 0 0 (fun _ => 0) := by rw [← hV2, ← HV1.out]; rfl
      have hO8 : Blk (w7.setCell ⟨ob, 1, none⟩ (.int .i64 19)) ob V2 TRe := by rw [← hV2]; exact hO7.set 1 _
      have HU8 : Hid (Upd (fun q => q = ob) w7 (w7.setCell ⟨ob, 1, none⟩ (.int .i64 19))) := Lib.hid (Upd.setCell (S := fun q => q = ob) (a := ⟨ob, 1, none⟩) (Upd.refl _ _) (fun _ => rfl) _)
      have HO8 := Lib.hid hO8
      have hs2 : V2.size = 42 := by rw [e2]; rfl
      have ha2 : V2.all (·.oneCell') = true := by rw [e2]; exact vre_one ..
      clear hO8 hO7 hV2 hN hlt HES HIS hpk hM hmo heo
      go_upto_region 9 with fail
      generalize w7.setCell ⟨ob, 1, none⟩ (.int .i64 19) = w8 at *
      have hR8 := HL7.out.r.kept HU8.out (fun e => HON.out.2 e.symm)
      obtain ⟨w9, hst, hR9, hu9⟩ := store_all (P := Tryz.prog) (T := TRe) (V := V2) (n := 42) hR8 infoRe rfl hs2 ha2
      refine wp_region_lit ?_
      refine wpList_loadV TRe (.tmp 3) ⟨ob, 0, none⟩ (.agg V2) (load_all (n := 42) HO8.out Tryz.underlying51 rfl infoRe hs2) ?_
      (try simp only [Act.put, List.setIfInBounds_toArray, List.set_cons_zero, List.set_cons_succ])
      refine wpList_storeV TRe (.tmp 2) (.tmp 35) ⟨rb, 0, none⟩ (.agg V2) hst ?_
      refine wpList_nil ?_
      go_wp2_with fail
      refine bodyPost_ret (v := .agg V2) (results_cell (t := TRe) (x := 2) rfl rfl (load_all (n := 42) hR9 Tryz.underlying51 rfl infoRe hs2)) rfl ⟨?_, ?_⟩
      · rw [e2]
        unfold vre
        dsimp only [Sh.re0]
        rw [rOf_z32]
      · exact ⟨own1, (HS7.out.kp HU8.out (fun q hq e => HOFF.out.2 (by rw [← e]; exact hq))).kp hu9 (fun q hq e => HOFF.out.1 (by rw [← e]; exact hq)), (HUw7.out.ret HU8.out HON.out.1).ret hu9 HRN.out⟩
    | true =>
      have hle := of_decide_eq_true HIS.out
      have hTK : TK = st.tok - x2 := by rw [← HTK.out, if_pos hle]
      subst hTK
      have hown := hg.own x0
      obtain ⟨f, hf⟩ := Option.isSome_iff_exists.1 hmem.2.2.2.2.2
      (try dsimp only at hf)
      rw [hf] at hown
      obtain ⟨a0, ha0⟩ : ∃ a0, Sh.cntF x0 st.bk.flat = a0 := ⟨_, rfl⟩
      obtain ⟨a1, ha1'⟩ : ∃ a1, Sh.bytF x0 st.bk.flat = a1 := ⟨_, rfl⟩
      have hown2 : st.own x0 = some (a0, a1, f.cap) := by rw [hown, ← ha0, ← ha1']; rfl
      have hb0 : 1 ≤ a0 := by rw [← ha0, Sh.cntF_perm hperm, Sh.cntF_cons, if_pos rfl]; omega
      have hb1 : x2 ≤ a1 := by rw [← ha1', Sh.bytF_perm hperm, Sh.bytF_cons, if_pos rfl]; exact Nat.le_add_left _ _
      have hb2 : a0 ≤ st.pk := by rw [← ha0, hg.pk]; exact List.countP_le_length
      have hb3 : a1 ≤ st.by_ := by rw [← ha1', hg.by1]; exact Sh.bytF_le _ _
      have hb4 := hg.by2
      have hb5 := hc.by_
      have hb6 := hg.pkl
      have hb7 := hc.pk
      obtain ⟨VI, hVI⟩ : ∃ VI, (if c.rank = 1 then r else st.virt) = VI := ⟨_, rfl⟩
      obtain rfl : ES = ({ Sh.re0 2 with pkt := (x0, x1, x2), rank := r }, { st with pk := st.pk - 1, by_ := st.by_ - x2, own := Tab.upm st.own x0 (a0 - 1, a1 - x2, f.cap), virt := VI, tok := st.tok - x2, bk := st.bk.pop }) := by
       rw [← HES.out]; unfold Sh.deq; rw [hpk]; dsimp only; rw [if_neg (by omega), hown2, hVI]; rfl
      obtain ⟨oS, hS, hSs, hSb⟩ := Sep.foc (blkC s (SC g k c.rate c.burst st.tok (.iface T VV) st.now (rOf st.ref)) TSh) [gmC g c st.pk st.by_ c.flows.length st.own, rkC k gf gt c.flows.length cf ct c.rank c.flows st.tags st.virt, bkC hR (.iface T VV) c.packets.toNat cnt st.bk] [] HS7.out
      have hsb := hS.1
      have b2 : w7.cell? ⟨s, 2, none⟩ = some (.int .u64 (c.rate : Nat)) := hsb.cellAt rfl
      have b3 : w7.cell? ⟨s, 3, none⟩ = some (.int .u64 (c.burst : Nat)) := hsb.cellAt rfl
      have b4 : w7.cell? ⟨s, 4, none⟩ = some (.int .u64 (st.tok : Nat)) := hsb.cellAt rfl
      have z2 := hsb.free 2
      have z3 := hsb.free 3
      have z4 := hsb.free 4
      obtain ⟨n0, n1, n2, _, _, _⟩ := cells3 hN
      have hB8 : Blk (((w7.setCell ⟨s, 2, none⟩ (.int .u64 (c.rate : Nat))).setCell ⟨s, 3, none⟩ (.int .u64 (c.burst : Nat))).setCell ⟨s, 4, none⟩ (.int .u64 (st.tok - x2 : Nat))) s (SC g k c.rate c.burst (st.tok - x2) (.iface T VV) st.now (rOf st.ref)) TSh := ((hsb.set 2 _).set 3 _).set 4 _
      have hU8 : Upd (fun q => q = s) w7 (((w7.setCell ⟨s, 2, none⟩ (.int .u64 (c.rate : Nat))).setCell ⟨s, 3, none⟩ (.int .u64 (c.burst : Nat))).setCell ⟨s, 4, none⟩ (.int .u64 (st.tok - x2 : Nat))) := Upd.setCell (S := fun q => q = s) (a := ⟨s, 4, none⟩) (Upd.setCell (S := fun q => q = s) (a := ⟨s, 3, none⟩) (Upd.setCell (S := fun q => q = s) (a := ⟨s, 2, none⟩) (Upd.refl _ _) (fun _ => rfl) _) (fun _ => rfl) _) (fun _ => rfl) _
      have H8 := Lib.hid (hSb _ oS (blkC s (SC g k c.rate c.burst (st.tok - x2) (.iface T VV) st.now (rOf st.ref)) TSh) ⟨hB8, hS.2⟩ ⟨fun _ h => .inl h, hU8.mono fun q _ e => (hS.2 q).2 e⟩)
      have HVI := Lib.hid hVI
      clear hVI hB8 hU8 hSb hSs hS hsb HES HIS HTK
      go_upto_region 11 with fail
      generalize ((w7.setCell ⟨s, 2, none⟩ (.int .u64 (c.rate : Nat))).setCell ⟨s, 3, none⟩ (.int .u64 (c.burst : Nat))).setCell ⟨s, 4, none⟩ (.int .u64 (st.tok - x2 : Nat)) = w8 at *
      obtain ⟨own8, hS8, hF8⟩ := H8.out
      have HL8 := Lib.hid (HL7.out.fol hF8)
      have HEV8 := Lib.hid (hR.evf HEV7.out hF8)
      have HF8 := Lib.hid (HUw7.out.trans hF8)
      clear hF8 H8 b2 b3 b4 z2 z3 z4 n0 n1 n2 hN HL7 HS7
      obtain ⟨oB, hB, hBs, hBb⟩ := Sep.foc (bkC hR (.iface T VV) c.packets.toNat cnt st.bk) [] [blkC s (SC g k c.rate c.burst (st.tok - x2) (.iface T VV) st.now (rOf st.ref)) TSh, gmC g c st.pk st.by_ c.flows.length st.own, rkC k gf gt c.flows.length cf ct c.rank c.flows st.tags st.virt] hS8
      have HP := Lib.hid (hM.co hB hpk HAS.out (hR.evs HEV8.out hBs))
      have HBb : Hid (∀ w9 o9, R w9 (.iface T VV) o9 c.packets.toNat cnt st.bk.pop → Fol w8 oB w9 o9 → ∃ own9, Sep w9 [blkC s (SC g k c.rate c.burst (st.tok - x2) (.iface T VV) st.now (rOf st.ref)) TSh, gmC g c st.pk st.by_ c.flows.length st.own, rkC k gf gt c.flows.length cf ct c.rank c.flows st.tags st.virt, bkC hR (.iface T VV) c.packets.toNat cnt st.bk.pop] own9 ∧ Fol w8 own8 w9 own9) := Lib.hid (fun w9 o9 h9 f9 => hBb w9 o9 (bkC hR (.iface T VV) c.packets.toNat cnt st.bk.pop) h9 f9)
      have c5 : w8.cell? ⟨s, 5, none⟩ = some (.iface T VV) := (sep_blk hS8).1.cellAt rfl
      clear hBb hBs hB hS8 hM
      go_wp2_with fail
      refine HP.out.mono ?_
      rintro e w9 ⟨rfl, o9, h9, f9⟩
      obtain ⟨own9, hS9, hF9⟩ := HBb.out w9 o9 h9 f9
      have HL9 := Lib.hid (HL8.out.fol hF9)
      have HF9 := Lib.hid (HF8.out.trans hF9)
      clear h9 f9 hF9 HBb HP c5 HL8 HF8
      obtain ⟨oG, hG, hGs, hGb⟩ := Sep.foc (gmC g c st.pk st.by_ c.flows.length st.own) [rkC k gf gt c.flows.length cf ct c.rank c.flows st.tags st.virt, bkC hR (.iface T VV) c.packets.toNat cnt st.bk.pop] [blkC s (SC g k c.rate c.burst (st.tok - x2) (.iface T VV) st.now (rOf st.ref)) TSh] hS9
      have HP := Lib.hid (Gt.out_any (len := x2) (Gt.GM.old hG ((Upd.refl Nowhere w9).drew)) hown2 hb0 (by omega) hb1 (by unfold Sh.mx at hb5; omega) (by omega) (by omega) (by omega) (by unfold Sh.mx at hb5; omega))
      have HGb : Hid (∀ w10, Gt.GM w10 g oG c (st.pk - 1) (st.by_ - x2) c.flows.length (Tab.upm st.own x0 (a0 - 1, a1 - x2, f.cap)) → Upd oG w9 w10 → ∃ own10, Sep w10 [blkC s (SC g k c.rate c.burst (st.tok - x2) (.iface T VV) st.now (rOf st.ref)) TSh, gmC g c (st.pk - 1) (st.by_ - x2) c.flows.length (Tab.upm st.own x0 (a0 - 1, a1 - x2, f.cap)), rkC k gf gt c.flows.length cf ct c.rank c.flows st.tags st.virt, bkC hR (.iface T VV) c.packets.toNat cnt st.bk.pop] own10 ∧ Fol w9 own9 w10 own10) := Lib.hid (fun w10 h10 u10 => hGb w10 oG (gmC g c (st.pk - 1) (st.by_ - x2) c.flows.length (Tab.upm st.own x0 (a0 - 1, a1 - x2, f.cap))) h10 ⟨fun _ h => .inl h, u10⟩)
      have c0 : w9.cell? ⟨s, 0, none⟩ = some (.pointer (some ⟨g, 0, none⟩)) := (sep_blk hS9).1.cellAt rfl
      obtain ⟨q0, q1, q2, _, _, _⟩ := cells3 HL9.out.k
      have HS10 : Hid (∀ w10, Gt.GM w10 g oG c (st.pk - 1) (st.by_ - x2) c.flows.length (Tab.upm st.own x0 (a0 - 1, a1 - x2, f.cap)) → Upd oG w9 w10 → w10.cell? ⟨s, 0, none⟩ = some (.pointer (some ⟨g, 0, none⟩)) ∧ w10.cell? ⟨kb, 0, none⟩ = some (.int .u32 x0) ∧ w10.cell? ⟨kb, 2, none⟩ = some (.int .u64 x2)) := Lib.hid (fun w10 h10 u10 => by
       obtain ⟨own10, hs10, hf10⟩ := HGb.out w10 h10 u10
       have hk10 := (HL9.out.fol hf10).k
       exact ⟨(sep_blk hs10).1.cellAt rfl, hk10.cellAt rfl, hk10.cellAt rfl⟩)
      clear hGb hGs hG hS9 hown hown2 hb0 hb1 hb2 hb3 hb4 hb5 hb6 hb7 ha0 ha1' hf hmem hperm hpk hle hmo heo
      go_upto_region 12 with fail
      refine wp_region_held_drew (S := fun w' => w'.cell? ⟨s, 0, none⟩ = some (.pointer (some ⟨g, 0, none⟩)) ∧ w'.cell? ⟨kb, 0, none⟩ = some (.int .u32 x0) ∧ w'.cell? ⟨kb, 2, none⟩ = some (.int .u64 x2)) (by kernel_rfl) ⟨c0, q0, q2⟩ (fun hHeld => ?_)
      refine tkq 0 ?_
      refine tkq 1 ?_
      refine tkq 2 ?_
      refine tkq 3 ?_
      refine tkq 4 ?_
      refine tkq 5 ?_
      refine tkq 6 ?_
      refine tkq 7 ?_
      refine rdq 8 fun K hK => ?_
      go_simp
      go_wp2_with (go_at_call 67; refine HP.out.mono ?_; rintro e w10 ⟨rfl, h10, u10⟩)
      refine hK.out _ _ (by (try dsimp only); exact HS10.out _ h10 (((Upd.refl oG w9).drew).trans u10 (fun _ _ h => h))) (fun hHeld => ?_)
      clear hK K
      refine wpAnyH_done (by kernel_rfl) ?_ _
      obtain ⟨own10, hS10, hF10⟩ := HGb.out w10 h10 (((Upd.refl oG w9).drew).trans u10 (fun _ _ h => h))
      have HL10 := Lib.hid (HL9.out.fol hF10)
      have HF10 := Lib.hid (HF9.out.trans hF10)
      clear h10 u10 hF10 HS10 HGb HP c0 q0 q1 q2 HL9 HF9 hHeld
      obtain ⟨oR, hRk, hRs, hRb⟩ := Sep.foc (rkC k gf gt c.flows.length cf ct c.rank c.flows st.tags st.virt) [bkC hR (.iface T VV) c.packets.toNat cnt st.bk.pop] [blkC s (SC g k c.rate c.burst (st.tok - x2) (.iface T VV) st.now (rOf st.ref)) TSh, gmC g c (st.pk - 1) (st.by_ - x2) c.flows.length (Tab.upm st.own x0 (a0 - 1, a1 - x2, f.cap))] hS10
      have hP := Rnk.sent_any hRk.1 r
      rw [HVI.out] at hP
      have HP := Lib.hid hP
      clear hP
      have HRb : Hid (∀ w11, RkIn w11 k gf gt c.flows.length cf ct c.rank c.flows st.tags VI → Upd (fun q => q = k) w10 w11 → ∃ own11, Sep w11 [blkC s (SC g k c.rate c.burst (st.tok - x2) (.iface T VV) st.now (rOf st.ref)) TSh, gmC g c (st.pk - 1) (st.by_ - x2) c.flows.length (Tab.upm st.own x0 (a0 - 1, a1 - x2, f.cap)), rkC k gf gt c.flows.length cf ct c.rank c.flows st.tags VI, bkC hR (.iface T VV) c.packets.toNat cnt st.bk.pop] own11 ∧ Fol w10 own10 w11 own11) := Lib.hid (fun w11 h11 u11 => hRb w11 oR (rkC k gf gt c.flows.length cf ct c.rank c.flows st.tags VI) ⟨h11, hRk.2⟩ ⟨fun _ h => .inl h, u11.mono fun q _ e => (hRk.2 q).2 (.inl e)⟩)
      have c1 : w10.cell? ⟨s, 1, none⟩ = some (.pointer (some ⟨k, 0, none⟩)) := (sep_blk hS10).1.cellAt rfl
      clear hRb hRs hRk hS10
      go_upto_region 13 with fail
      go_wp2_with fail
      refine HP.out.mono ?_
      rintro e w11 ⟨rfl, h11, u11⟩
      obtain ⟨own11, hS11, hF11⟩ := HRb.out w11 h11 u11
      have HL11 := Lib.hid (HL10.out.fol hF11)
      have HF11 := Lib.hid (HF10.out.trans hF11)
      have HS11 := Lib.hid hS11
      clear h11 u11 hF11 hS11 HRb HP c1 HL10 HF10
      obtain ⟨q0, q1, q2, _, _, _⟩ := cells3 HL11.out.k
      have hO11 := HL11.out.o
      have o2 : w11.cell? ⟨ob, 2, none⟩ = some (.int .u32 0) := hO11.cellAt (by rw [← HV1.out]; rfl)
      have o3 : w11.cell? ⟨ob, 3, none⟩ = some (.int .u32 0) := hO11.cellAt (by rw [← HV1.out]; rfl)
      have o4 : w11.cell? ⟨ob, 4, none⟩ = some (.int .u64 0) := hO11.cellAt (by rw [← HV1.out]; rfl)
      have o5 : w11.cell? ⟨ob, 5, none⟩ = some (.int .u64 0) := hO11.cellAt (by rw [← HV1.out]; rfl)
      have z2 := hO11.free 2
      have z3 := hO11.free 3
      have z4 := hO11.free 4
      have z5 := hO11.free 5
      obtain ⟨V2, hV2⟩ : ∃ V2, (((V1.setIfInBounds 2 (.int .u32 x0)).setIfInBounds 3 (.int .u32 x1)).setIfInBounds 4 (.int .u64 x2)).setIfInBounds 5 (.int .u64 r) = V2 := ⟨_, rfl⟩
      have e2 : V2 = VRe 2 0 x0 x1 x2 r 0 0 0 0 (fun _ => 0) := by rw [← hV2, ← HV1.out]; rfl
      have hO12 : Blk ((((w11.setCell ⟨ob, 2, none⟩ (.int .u32 x0)).setCell ⟨ob, 3, none⟩ (.int .u32 x1)).setCell ⟨ob, 4, none⟩ (.int .u64 x2)).setCell ⟨ob, 5, none⟩ (.int .u64 r)) ob V2 TRe := by rw [← hV2]; exact (((hO11.set 2 _).set 3 _).set 4 _).set 5 _
      have HU12 : Hid (Upd (fun q => q = ob) w11 ((((w11.setCell ⟨ob, 2, none⟩ (.int .u32 x0)).setCell ⟨ob, 3, none⟩ (.int .u32 x1)).setCell ⟨ob, 4, none⟩ (.int .u64 x2)).setCell ⟨ob, 5, none⟩ (.int .u64 r))) := Lib.hid (Upd.setCell (S := fun q => q = ob) (a := ⟨ob, 5, none⟩) (Upd.setCell (S := fun q => q = ob) (a := ⟨ob, 4, none⟩) (Upd.setCell (S := fun q => q = ob) (a := ⟨ob, 3, none⟩) (Upd.setCell (S := fun q => q = ob) (a := ⟨ob, 2, none⟩) (Upd.refl _ _) (fun _ => rfl) _) (fun _ => rfl) _) (fun _ => rfl) _) (fun _ => rfl) _)
      have HO12 := Lib.hid hO12
      have hs2 : V2.size = 42 := by rw [e2]; rfl
      have ha2 : V2.all (·.oneCell') = true := by rw [e2]; exact vre_one ..
      clear hO12 hO11 hV2
      go_upto_region 15 with fail
      generalize (((w11.setCell ⟨ob, 2, none⟩ (.int .u32 x0)).setCell ⟨ob, 3, none⟩ (.int .u32 x1)).setCell ⟨ob, 4, none⟩ (.int .u64 x2)).setCell ⟨ob, 5, none⟩ (.int .u64 r) = w12 at *
      have hR12 := HL11.out.r.kept HU12.out (fun e => HON.out.2 e.symm)
      obtain ⟨w9, hst, hR9, hu9⟩ := store_all (P := Tryz.prog) (T := TRe) (V := V2) (n := 42) hR12 infoRe rfl hs2 ha2
      refine wp_region_lit ?_
      refine wpList_loadV TRe (.tmp 3) ⟨ob, 0, none⟩ (.agg V2) (load_all (n := 42) HO12.out Tryz.underlying51 rfl infoRe hs2) ?_
      (try simp only [Act.put, List.setIfInBounds_toArray, List.set_cons_zero, List.set_cons_succ])
      refine wpList_storeV TRe (.tmp 2) (.tmp 64) ⟨rb, 0, none⟩ (.agg V2) hst ?_
      refine wpList_nil ?_
      go_wp2_with fail
      refine bodyPost_ret (v := .agg V2) (results_cell (t := TRe) (x := 2) rfl rfl (load_all (n := 42) hR9 Tryz.underlying51 rfl infoRe hs2)) rfl ⟨?_, ?_⟩
      · rw [e2]
        unfold vre
        dsimp only [Sh.re0]
        rw [rOf_z32]
      · exact ⟨own11, (HS11.out.kp HU12.out (fun q hq e => HL11.out.no (by rw [← e]; exact hq))).kp hu9 (fun q hq e => HL11.out.nr (by rw [← e]; exact hq)), (HF11.out.ret HU12.out HON.out.1).ret hu9 HRN.out⟩
end
end Go.Proofs.YtpgpjjkeginbbaaGreatDoor.Shm

