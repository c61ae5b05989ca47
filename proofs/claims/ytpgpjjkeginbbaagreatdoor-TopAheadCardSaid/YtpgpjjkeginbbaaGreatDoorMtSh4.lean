/- ShM4, one behind the other. -/
import Derived.Test.YtpgpjjkeginbbaaGreatDoorMtSh
import Derived.Test.YtpgpjjkeginbbaaGreatDoorMeTk
namespace Go.Proofs.YtpgpjjkeginbbaaGreatDoor.Shm
open Go.RowKit Go.Proofs BigFrame
open Sh (Fl Cg Pk St)
open Rnk (RkIn)
set_option maxHeartbeats 40000000
set_option maxRecDepth 1000000
set_option linter.unusedSimpArgs false
/-- A reply at first. -/
abbrev zRe : Array Value := #[.int .i64 0, .int .i64 0, .int .u32 0, .int .u32 0, .int .u64 0, .int .u64 0, .int .u64 0, .int .u64 0, .int .i64 0, .int .u64 0, .int .u64 0, .int .u64 0, .int .u64 0, .int .u64 0, .int .u64 0, .int .u64 0, .int .u64 0, .int .u64 0, .int .u64 0, .int .u64 0, .int .u64 0, .int .u64 0, .int .u64 0, .int .u64 0, .int .u64 0, .int .u64 0, .int .u64 0, .int .u64 0, .int .u64 0, .int .u64 0, .int .u64 0, .int .u64 0, .int .u64 0, .int .u64 0, .int .u64 0, .int .u64 0, .int .u64 0, .int .u64 0, .int .u64 0, .int .u64 0, .int .u64 0, .int .u64 0]
/-- An operation's cells. -/
abbrev VOp (x : Sh.Op) : Array Value := #[.int .i64 x.kind, .int .u32 (x.flow : Nat), .int .u32 (x.id : Nat), .int .u64 (x.len : Nat), .int .u64 (x.ticks : Nat)]
/-- A reply's cells. -/
abbrev vre (x : Sh.Re) : Array Value := VRe x.kind x.code x.pkt.1 x.pkt.2.1 x.pkt.2.2 x.rank x.now x.tok x.pk x.by_ (rOf x.ref)
theorem build_re (x0 x1 x2 : Nat) (w : World) : (Instr.build TRe #[(0, .int .i64 1), (2, .agg #[.int .u32 (x0 : Nat), .int .u32 (x1 : Nat), .int .u64 (x2 : Nat)])]).run Tryz.prog w = .ok (.agg (VRe 1 0 x0 x1 x2 0 0 0 0 0 (fun _ => 0))) w := by kernel_rfl
theorem vre_one (kind : Int) (code x0 x1 x2 rank now tok p b : Nat) (r : Nat → Nat) : (VRe kind code x0 x1 x2 rank now tok p b r).all (·.oneCell') = true := by kernel_rfl
theorem infoRe : (Tryz.prog.info? TRe).map (·.size) = some 42 := by kernel_rfl
theorem rOf_z32 : rOf Sh.z32 = fun _ => 0 := by
 funext k
 unfold rOf Sh.z32
 rw [List.getD_eq_getElem?_getD, List.getElem?_replicate]
 split <;> rfl
/-- What a configuration that may be is. -/
theorem _root_.Go.Proofs.YtpgpjjkeginbbaaGreatDoor.Sh.chk_parts {c : Cg} (h : Sh.chk c = 0) : 0 ≤ c.share ∧ c.share ≤ 16 ∧ 1 ≤ c.rank ∧ c.rank ≤ 3 ∧ 1 ≤ c.back ∧ c.back ≤ 3 ∧ 1 ≤ c.levels ∧ c.levels ≤ 3 ∧ 1 ≤ c.queues ∧ c.queues ≤ 32 ∧ Gt.chkA c = 0 ∧ c.rate ≠ 0 ∧ c.mtu ≤ c.burst := by
 rw [Gt.chk_eq] at h
 split at h
 · cases h
 · split at h
   · cases h
   · split at h
     · cases h
     · split at h
       · rename_i h4; exact absurd h h4
       · split at h
         · cases h
         · split at h
           · cases h
           · rename_i h1 h2 h3 h4 h5 h6
             have hA := Classical.not_not.1 h4
             obtain ⟨_, _, _, _, _, a1, a2, _⟩ := Gt.chkA_ok hA
             exact ⟨a1, a2, by omega, by omega, by omega, by omega, by omega, by omega, by omega, by omega, hA, h5, by omega⟩
theorem bk_len (b : Sh.Bk) : b.len = b.flat.length := by
 cases b with
 | srt M => rfl
 | qs n bs q => exact (Sh.flatQ_len q n).symm
section
variable {R : World → Value → (Nat → Prop) → Nat → Nat → Sh.Bk → Prop}
theorem enq_any (hR : Bk.Laws R) {w : World} {own : Nat → Prop} {L : Lay} {c : Cg} {cnt : Nat} {st : St} {x : Sh.Op} (h : (shC hR L c cnt st).P w own) (hg : Sh.Good c st) (hc : Sh.Cok c) (hx : x.Ok) (hcnt : cnt < 18446744073709551615) (hpu : Sh.mayIn c st x.flow x.len = 0 → hR.Pu st.bk (Sh.rankOf c st x.flow x.len).1) :
 Calls Tryz.prog 34 #[.pointer (some ⟨L.s, 0, none⟩), .agg (VOp x)] w fun e w' => e = .returned (.agg (vre (Sh.enq c st x).1)) ∧ ∃ own' cnt', cnt' ≤ cnt + 1 ∧ (shC hR L c cnt' (Sh.enq c st x).2).P w' own' ∧ Fol w own w' own' := by
 obtain ⟨kind, x0, x1, x2, ticks⟩ := x
 obtain ⟨s, g, k, gf, gt, cf, ct, v⟩ := L
 dsimp only at *
 obtain ⟨ES, hES⟩ : ∃ ES, Sh.enq c st ⟨kind, x0, x1, x2, ticks⟩ = ES := ⟨_, rfl⟩
 rw [hES]
 have HES := Lib.hid hES
 clear hES
 have HPU := Lib.hid hpu
 have HH : Hid (Sep w (shL hR ⟨s, g, k, gf, gt, cf, ct, v⟩ c cnt st) own) := Lib.hid h
 have HLT : Hid (∀ q, own q → q < w.heap.size) := Lib.hid (fun q hq => Sep.lt HH.out hq)
 clear h hpu
 have hU0 : Upd Nowhere w ((w.alloc (.cells (VOp ⟨kind, x0, x1, x2, ticks⟩) TOp)).alloc (.cells zRe TRe)) := ((Upd.refl _ _).alloc _).alloc _
 have hP := Blk.alloc (Blk.new w (VOp ⟨kind, x0, x1, x2, ticks⟩) TOp) (.cells zRe TRe)
 have HRb := Lib.hid (Blk.new2 w (.cells (VOp ⟨kind, x0, x1, x2, ticks⟩) TOp) zRe TRe)
 go_enter Tryz.func34, Tryz.ntmps34
 go_upto_region 1 with fail
 generalize hrb : w.heap.size + 1 = rb at *
 have HRN : Hid (w.heap.size ≤ rb) := Lib.hid (by omega)
 clear hrb
 generalize (w.alloc (.cells (VOp ⟨kind, x0, x1, x2, ticks⟩) TOp)).alloc (.cells zRe TRe) = wA at *
 obtain ⟨p0, p1, p2, p3, p4, _, _, _, _, _⟩ := cells5 hP
 clear hP
 go_upto_region 2 with fail
 have hUA : Upd Nowhere w (wA.alloc (.cells #[.int .u32 x0, .int .u32 x1, .int .u64 x2] TPk)) := hU0.alloc _
 have hK := Blk.new wA #[.int .u32 x0, .int .u32 x1, .int .u64 x2] TPk
 have HKN : Hid (w.heap.size ≤ wA.heap.size ∧ wA.heap.size ≠ rb) := Lib.hid (by have := hU0.size; have := HRb.out.lt; omega)
 have HRb := Lib.hid (Blk.alloc HRb.out (.cells #[.int .u32 x0, .int .u32 x1, .int .u64 x2] TPk))
 generalize wA.heap.size = kb at *
 clear p0 p1 p2 p3 p4 hU0
 generalize wA.alloc (.cells #[.int .u32 x0, .int .u32 x1, .int .u64 x2] TPk) = wB at *
 obtain ⟨q0, q1, q2, _, _, _⟩ := cells3 hK
 obtain ⟨V1, hV1⟩ : ∃ V1, VRe 1 0 x0 x1 x2 0 0 0 0 0 (fun _ => 0) = V1 := ⟨_, rfl⟩
 have HV1 := Lib.hid hV1
 have hs1 : V1.size = 42 := by rw [← hV1]; rfl
 have ha1 : V1.all (·.oneCell') = true := by rw [← hV1]; exact vre_one ..
 have hbuild := build_re x0 x1 x2 wB
 rw [hV1] at hbuild
 clear hV1
 refine wp_region_lit ?_
 refine wpList_one rfl fun K hK => ?_
 go_simp
 refine hK.out _ _ ?_
 clear hK K
 try simp only [Act.put, List.setIfInBounds_toArray, List.set_cons_zero, List.set_cons_succ]
 refine wpList_buildV (.agg V1) (exec_build hbuild) ?_
 (try simp only [Act.put, List.setIfInBounds_toArray, List.set_cons_zero, List.set_cons_succ])
 clear hbuild
 refine wpList_one rfl fun K hK => ?_
 go_simp
 refine hK.out _ _ ?_
 clear hK K
 try simp only [Act.put, List.setIfInBounds_toArray, List.set_cons_zero, List.set_cons_succ]
 have hUB : Upd Nowhere w (wB.alloc (.cells zRe TRe)) := hUA.alloc _
 have hZ := Blk.new wB zRe TRe
 have HON : Hid (w.heap.size ≤ wB.heap.size ∧ wB.heap.size ≠ rb ∧ wB.heap.size ≠ kb) := Lib.hid (by have := hUA.size; have := HRb.out.lt; have := hK.lt; omega)
 have HRb := Lib.hid (Blk.alloc HRb.out (.cells zRe TRe))
 have hK := Blk.alloc hK (.cells zRe TRe)
 generalize wB.heap.size = ob at *
 clear q0 q1 q2 hUA
 generalize wB.alloc (.cells zRe TRe) = wC at *
 obtain ⟨wD, hst, hOB, huD⟩ := store_all (P := Tryz.prog) (T := TRe) (V := V1) (n := 42) hZ infoRe rfl hs1 ha1
 refine wpList_storeV TRe (.tmp 6) (.tmp 16) ⟨ob, 0, none⟩ (.agg V1) hst ?_
 refine wpList_nil ?_
 have hKD := hK.kept huD (fun e => HON.out.2.2 e.symm)
 have HRD := Lib.hid (HRb.out.kept huD (fun e => HON.out.2.1 e.symm))
 have hUD : Upd Nowhere w wD := hUB.trans huD (fun q hq e => by have := HON.out.1; omega)
 clear hst huD hZ hK hUB HRb
 have hSD := HH.out.old hUD
 have hsb := (sep_blk hSD).1
 have c0 : wD.cell? ⟨s, 0, none⟩ = some (.pointer (some ⟨g, 0, none⟩)) := hsb.cellAt rfl
 obtain ⟨q0, q1, q2, _, _, _⟩ := cells3 hKD
 have HOFF : Hid (¬ own rb ∧ ¬ own kb ∧ ¬ own ob) := Lib.hid ⟨fun h => by have := HLT.out _ h; have := HRN.out; omega, fun h => by have := HLT.out _ h; have := HKN.out.1; omega, fun h => by have := HLT.out _ h; have := HON.out.1; omega⟩
 obtain ⟨oG, hG, hGs, hGb⟩ := Sep.foc (gmC g c st.pk st.by_ c.flows.length st.own) [rkC k gf gt c.flows.length cf ct c.rank c.flows st.tags st.virt, bkC hR v c.packets.toNat cnt st.bk] [blkC s (SC g k c.rate c.burst st.tok v st.now (rOf st.ref)) TSh] hSD
 have hsh := (Sh.chk_parts hc.k0)
 have hown2 : ∀ y0 y1 y2, st.own x0 = some (y0, y1, y2) → y2 ≤ 18446744073709551615 ∧ y0 ≤ 4096 ∧ y1 ≤ st.by_ := fun y0 y1 y2 e => by
  have h1 := hg.own x0
  rw [e] at h1
  cases hf : Sh.flow? c x0 with
  | none => rw [hf] at h1; cases h1
  | some f =>
    rw [hf] at h1
    cases h1
    have h2 := hc.fl f (List.mem_of_find?_eq_some hf)
    have h3 := Sh.bytF_le x0 st.bk.flat
    have h4 := hg.by1
    have h5 : Sh.cntF x0 st.bk.flat ≤ st.bk.flat.length := List.countP_le_length
    have h6 := hg.pk
    have h7 := hg.pkl
    have h8 := hc.pk
    exact ⟨h2.2.2.2.2, by omega, by omega⟩
 obtain ⟨y, hyE⟩ : ∃ y, Sh.mayIn c st x0 x2 = y := ⟨_, rfl⟩
 by_cases hw : y ≠ 0
 · obtain rfl : ES = ({ Sh.re0 1 with code := y, pkt := (x0, x1, x2) }, Sh.refuse st y) := by rw [← HES.out]; unfold Sh.enq; dsimp only; rw [hyE, if_pos hw]
   clear HES
   have hlt : y < 32 := by rw [← hyE]; unfold Sh.mayIn; (repeat' split) <;> omega
   have hIn := fun u (hu : Upd Nowhere wD u) => Gt.inn_no (len := x2) (Gt.GM.old hG hu) hg.by2 hc.by_ (fun y0 y1 y2 e => (hown2 y0 y1 y2 e).1) hsh.1 hsh.2.1 (by rw [Gt.mayG_eq, hyE]; exact hw)
   rw [Gt.mayG_eq, hyE] at hIn
   clear hyE
   have HIn := fun u hu => Lib.hid (hIn u hu)
   have d0 : ((y : Int) != 0) = true := by simp; omega
   have d0' : ((y : Int) == 0) = false := by simp; omega
   have HSD := Lib.hid hSD
   have HOB := Lib.hid hOB
   have HKD := Lib.hid hKD
   have HUD := Lib.hid hUD
   clear hIn hGb hGs hG hSD hOB hKD hUD hsb hown2 hw
   go_upto_region 3 with fail
   refine wp_region_held_drew (S := fun w' => w'.cell? ⟨s, 0, none⟩ = some (.pointer (some ⟨g, 0, none⟩)) ∧ w'.cell? ⟨kb, 0, none⟩ = some (.int .u32 x0) ∧ w'.cell? ⟨kb, 2, none⟩ = some (.int .u64 x2)) (by kernel_rfl) ⟨c0, q0, q2⟩ (fun hHeld => ?_)
   refine tkq 0 ?_
   refine tkq 1 ?_
   refine tkq 2 ?_
   refine tkq 3 ?_
   refine tkq 4 ?_
   refine tkq 5 ?_
   refine tkq 6 ?_
   refine tkq 7 ?_
   refine rdq 8 fun K hK => ?_
   go_simp
   go_wp2_with (go_at_call 64; refine (HIn _ ((Upd.refl _ _).drew)).out.mono ?_; rintro e w5 ⟨rfl, u5⟩)
   refine hK.out _ _ (by (try dsimp only); exact ⟨cell_old (((Upd.refl _ _).drew).trans u5 (fun _ _ h => h)) c0, cell_old (((Upd.refl _ _).drew).trans u5 (fun _ _ h => h)) q0, cell_old (((Upd.refl _ _).drew).trans u5 (fun _ _ h => h)) q2⟩) (fun hHeld => ?_)
   clear hK K
   refine tkq 9 ?_
   refine wpAnyH_done (by kernel_rfl) ?_ _
   have HU5 := Lib.hid (((Upd.refl _ wD).drew).trans u5 (fun _ _ h => h))
   have hS5 := HSD.out.old HU5.out
   have hy32 : rOf st.ref y ≤ 18446744073709551615 := Sh.getD_le hg.rb
   obtain ⟨oS, hS, hSs, hSb⟩ := Sep.foc (blkC s (SC g k c.rate c.burst st.tok v st.now (rOf st.ref)) TSh) [gmC g c st.pk st.by_ c.flows.length st.own, rkC k gf gt c.flows.length cf ct c.rank c.flows st.tags st.virt, bkC hR v c.packets.toNat cnt st.bk] [] hS5
   have HRef := Lib.hid (refuse_any hS.1 hlt hy32)
   have HSb : Hid (∀ w6, Blk w6 s (SC g k c.rate c.burst st.tok v st.now (rSet (rOf st.ref) y (min (rOf st.ref y + 1) 18446744073709551615))) TSh → Upd (fun q => q = s) w5 w6 → ∃ own', Sep w6 (shL hR ⟨s, g, k, gf, gt, cf, ct, v⟩ c cnt (Sh.refuse st y)) own' ∧ Fol w5 own w6 own') := Lib.hid (fun w6 h6 u6 => by
    have e2 : rOf (Sh.refuse st y).ref = rSet (rOf st.ref) y (min (rOf st.ref y + 1) 18446744073709551615) := rOf_set (by rw [hg.rl]; exact hlt)
    obtain ⟨own', a1, a2⟩ := hSb w6 oS (blkC s (SC g k c.rate c.burst st.tok v st.now (rSet (rOf st.ref) y (min (rOf st.ref y + 1) 18446744073709551615))) TSh) ⟨h6, hS.2⟩ ⟨fun _ h => .inl h, u6.mono fun q _ e => (hS.2 q).2 e⟩
    refine ⟨own', ?_, a2⟩
    unfold shL
    rw [e2]
    exact a1)
   have hO5 := Shm.Blk.old HOB.out HU5.out
   have hK5 := Shm.Blk.old HKD.out HU5.out
   have HU5w := Lib.hid (HUD.out.trans HU5.out (fun _ _ h => h))
   have HR5 := Lib.hid (Shm.Blk.old HRD.out HU5.out)
   have HO5 := Lib.hid hO5
   have HSS : Hid (own s) := Lib.hid (sep_blk hS5).2
   clear hO5 hK5 hSb hSs hS hS5 u5 c0 q0 q1 q2 hHeld
   go_wp2_with fail
   refine HRef.out.mono ?_
   rintro e w6 ⟨rfl, h6, u6⟩
   have hO6 := HO5.out.kept u6 (fun e => HOFF.out.2.2 (by rw [e]; exact HSS.out))
   have o1 : w6.cell? ⟨ob, 1, none⟩ = some (.int .i64 0) := hO6.cellAt (by rw [← HV1.out]; rfl)
   have z1 := hO6.free 1
   obtain ⟨V2, hV2⟩ : ∃ V2, V1.setIfInBounds 1 (.int .i64 (y : Nat)) = V2 := ⟨_, rfl⟩
   have e2 : V2 = VRe 1 y x0 x1 x2 0 0 0 0 0 (fun _ => 0) := by rw [← hV2, ← HV1.out]; rfl
   have hO7 : Blk (w6.setCell ⟨ob, 1, none⟩ (.int .i64 (y : Nat))) ob V2 TRe := by rw [← hV2]; exact hO6.set 1 _
   have HU7 : Hid (Upd (fun q => q = ob) w6 (w6.setCell ⟨ob, 1, none⟩ (.int .i64 (y : Nat)))) := Lib.hid (Upd.setCell (S := fun q => q = ob) (a := ⟨ob, 1, none⟩) (Upd.refl _ _) (fun _ => rfl) _)
   have HO7 := Lib.hid hO7
   have H6 := Lib.hid (HSb.out w6 h6 u6)
   have HR6 := Lib.hid (HR5.out.kept u6 (fun e => HOFF.out.1 (by rw [e]; exact HSS.out)))
   have hs2 : V2.size = 42 := by rw [e2]; rfl
   have ha2 : V2.all (·.oneCell') = true := by rw [e2]; exact vre_one ..
   clear hO7 hO6 hV2 h6 u6
   go_upto_region 6 with fail
   generalize w6.setCell ⟨ob, 1, none⟩ (.int .i64 (y : Nat)) = w7 at *
   have hR7 := HR6.out.kept HU7.out (fun e => HON.out.2.1 e.symm)
   obtain ⟨w8, hst, hR8, hu8⟩ := store_all (P := Tryz.prog) (T := TRe) (V := V2) (n := 42) hR7 infoRe rfl hs2 ha2
   refine wp_region_lit ?_
   refine wpList_loadV TRe (.tmp 6) ⟨ob, 0, none⟩ (.agg V2) (load_all (n := 42) HO7.out Tryz.underlying51 rfl infoRe hs2) ?_
   (try simp only [Act.put, List.setIfInBounds_toArray, List.set_cons_zero, List.set_cons_succ])
   refine wpList_storeV TRe (.tmp 4) (.tmp 32) ⟨rb, 0, none⟩ (.agg V2) hst ?_
   refine wpList_nil ?_
   go_wp2_with fail
   refine bodyPost_ret (v := .agg V2) (results_cell (t := TRe) (x := 4) rfl rfl (load_all (n := 42) hR8 Tryz.underlying51 rfl infoRe hs2)) rfl ⟨?_, ?_⟩
   · rw [e2]
     unfold vre
     dsimp only [Sh.re0]
     rw [rOf_z32]
   · obtain ⟨own', a1, a2⟩ := H6.out
     have hr6 : ¬ own' rb := fun e => (a2.at_ rb e).elim HOFF.out.1 (fun h => by have := HR5.out.lt; omega)
     have ho6 : ¬ own' ob := fun e => (a2.at_ ob e).elim HOFF.out.2.2 (fun h => by have := HO5.out.lt; omega)
     have f1 : Fol w own w6 own' := (((Fol.refl w own).old HU5w.out).trans a2)
     have f2 := f1.ret HU7.out HON.out.1
     have f3 := f2.ret hu8 HRN.out
     exact ⟨own', cnt, Nat.le_succ _, (a1.kp HU7.out (fun q hq e => ho6 (by rw [← e]; exact hq))).kp hu8 (fun q hq e => hr6 (by rw [← e]; exact hq)), f3⟩
 · have hy0 : y = 0 := Classical.not_not.1 hw
   subst hy0
   clear hw
   obtain ⟨hn0, hnm, a0, a1, a2, ho, hpk, hby⟩ := Sh.mayIn_ok hyE
   obtain ⟨⟨rk, tg'⟩, hRK⟩ : ∃ q, Sh.rankOf c st x0 x2 = q := ⟨_, rfl⟩
   have HPK : Hid (hR.Pu st.bk rk) := Lib.hid (by have h9 := HPU.out hyE; rw [hRK] at h9; exact h9)
   obtain rfl : ES = ({ Sh.re0 1 with pkt := (x0, x1, x2), rank := rk }, { st with pk := st.pk + 1, by_ := st.by_ + x2, own := Tab.upm st.own x0 (a0 + 1, a1 + x2, a2), tags := tg', bk := st.bk.push rk (x0, x1, x2) }) := by
    rw [← HES.out]; unfold Sh.enq; dsimp only; rw [hyE, if_neg (by omega), ho, hRK]; rfl
   clear HES
   obtain ⟨b1, b2, b3⟩ := hown2 _ _ _ ho
   have hb2 := hg.by2
   have hcb := hc.by_
   have hcp := hc.pk
   have hpkl := hg.pkl
   have HIn := fun u (hu : Upd Nowhere wD u) => Lib.hid (Gt.inn_yes (len := x2) (Gt.GM.old hG hu) hg.by2 hc.by_ ho b1 hsh.1 hsh.2.1 (by rw [Gt.mayG_eq]; exact hyE) b2 (by unfold Sh.mx at hcb; omega) (by omega) (by unfold Sh.mx at hcb; omega))
   have HGB : Hid (∀ w5, Gt.GM w5 g oG c (st.pk + 1) (st.by_ + x2) c.flows.length (Tab.upm st.own x0 (a0 + 1, a1 + x2, a2)) → Upd oG wD w5 → ∃ own', Sep w5 (blkC s (SC g k c.rate c.burst st.tok v st.now (rOf st.ref)) TSh :: gmC g c (st.pk + 1) (st.by_ + x2) c.flows.length (Tab.upm st.own x0 (a0 + 1, a1 + x2, a2)) :: rkC k gf gt c.flows.length cf ct c.rank c.flows st.tags st.virt :: [bkC hR v c.packets.toNat cnt st.bk]) own' ∧ Fol wD own w5 own') := Lib.hid (fun w5 h5 u5 => hGb w5 oG (gmC g c (st.pk + 1) (st.by_ + x2) c.flows.length (Tab.upm st.own x0 (a0 + 1, a1 + x2, a2))) h5 ⟨fun _ h => .inl h, u5⟩)
   have HGS := Lib.hid hGs
   have HSS : Hid (own s) := Lib.hid (sep_blk hSD).2
   have HOB := Lib.hid hOB
   have HKD := Lib.hid hKD
   have HUD := Lib.hid hUD
   obtain ⟨fl, hfl⟩ : ∃ fl, c.flows.find? (fun f => f.id == x0) = some fl := by
    have h1 := hg.own x0
    rw [ho] at h1
    cases hf : Sh.flow? c x0 with
    | none => rw [hf] at h1; cases h1
    | some f => exact ⟨f, hf⟩
   have hrk : rk ≤ 18446744073709551615 := by have := (Sh.rankOf_le hg x0 x2).1; rw [hRK] at this; exact this
   have hNX := fun (u : World) (hu : RkIn u k gf gt c.flows.length cf ct c.rank c.flows st.tags st.virt) => (next_any (id := x0) (m := x2) hu ⟨hsh.2.2.1, hsh.2.2.2.1⟩ hfl hc.fl hg.tg hg.vt hg.nw (by unfold Sh.mx; have := hc.mtu; omega))
   rw [hRK] at hNX
   have HNX := fun u hu => Lib.hid (hNX u hu)
   have hlenb : st.bk.len < c.packets.toNat := by rw [bk_len, ← hg.pk]; omega
   have HS5 : Hid (∀ w5, Gt.GM w5 g oG c (st.pk + 1) (st.by_ + x2) c.flows.length (Tab.upm st.own x0 (a0 + 1, a1 + x2, a2)) → Upd oG wD w5 → w5.cell? ⟨s, 0, none⟩ = some (.pointer (some ⟨g, 0, none⟩)) ∧ w5.cell? ⟨kb, 0, none⟩ = some (.int .u32 x0) ∧ w5.cell? ⟨kb, 2, none⟩ = some (.int .u64 x2)) := Lib.hid (fun w5 h5 u5 => by
    obtain ⟨own5, hs5, _⟩ := HGB.out w5 h5 u5
    have hk5 := HKD.out.kept u5 (fun h => HOFF.out.2.1 (HGS.out _ h))
    exact ⟨(sep_blk hs5).1.cellAt rfl, hk5.cellAt rfl, hk5.cellAt rfl⟩)
   clear hGb hGs hG hSD hOB hKD hUD hsb hown2 hyE ho b1 b2 b3 hb2 hcb hcp hpkl hfl hpk hby hn0 hnm hsh hRK hNX
   go_upto_region 3 with fail
   refine wp_region_held_drew (S := fun w' => w'.cell? ⟨s, 0, none⟩ = some (.pointer (some ⟨g, 0, none⟩)) ∧ w'.cell? ⟨kb, 0, none⟩ = some (.int .u32 x0) ∧ w'.cell? ⟨kb, 2, none⟩ = some (.int .u64 x2)) (by kernel_rfl) ⟨c0, q0, q2⟩ (fun hHeld => ?_)
   refine tkq 0 ?_
   refine tkq 1 ?_
   refine tkq 2 ?_
   refine tkq 3 ?_
   refine tkq 4 ?_
   refine tkq 5 ?_
   refine tkq 6 ?_
   refine tkq 7 ?_
   refine rdq 8 fun K hK => ?_
   go_simp
   go_wp2_with (go_at_call 64; refine (HIn _ ((Upd.refl _ _).drew)).out.mono ?_; rintro e w5 ⟨rfl, h5, u5⟩)
   refine hK.out _ _ (by (try dsimp only); exact HS5.out _ h5 (((Upd.refl oG wD).drew).trans u5 (fun _ _ h => h))) (fun hHeld => ?_)
   clear hK K
   refine tkq 9 ?_
   refine wpAnyH_done (by kernel_rfl) ?_ _
   obtain ⟨own5, hs5, hf5⟩ := HGB.out w5 h5 (((Upd.refl oG wD).drew).trans u5 (fun _ _ h => h))
   clear h5 u5 hHeld c0 q0 q1 q2 HS5 HIn HGB HGS
   have HO5 := Lib.hid (hf5.blk HOB.out HOFF.out.2.2)
   have HK5 := Lib.hid (hf5.blk HKD.out HOFF.out.2.1)
   have HR5 := Lib.hid (hf5.blk HRD.out HOFF.out.1)
   have HF5 := Lib.hid hf5
   have HNO5 : Hid (¬ own5 rb ∧ ¬ own5 kb ∧ ¬ own5 ob) := Lib.hid ⟨hf5.off HOFF.out.1 HRD.out.lt, hf5.off HOFF.out.2.1 HKD.out.lt, hf5.off HOFF.out.2.2 HOB.out.lt⟩
   clear hf5
   obtain ⟨oR, hRk, hRs, hRb⟩ := Sep.foc (rkC k gf gt c.flows.length cf ct c.rank c.flows st.tags st.virt) [bkC hR v c.packets.toNat cnt st.bk] [blkC s (SC g k c.rate c.burst st.tok v st.now (rOf st.ref)) TSh, gmC g c (st.pk + 1) (st.by_ + x2) c.flows.length (Tab.upm st.own x0 (a0 + 1, a1 + x2, a2))] hs5
   have HN5 := Lib.hid (HNX w5.drew (hRk.1.old ((Upd.refl _ _).drew)))
   have HB5 : Hid (∀ w6, RkIn w6 k gf gt c.flows.length cf ct c.rank c.flows tg' st.virt → Upd (fun q => q = gt) w5 w6 → ∃ own6, Sep w6 (blkC s (SC g k c.rate c.burst st.tok v st.now (rOf st.ref)) TSh :: gmC g c (st.pk + 1) (st.by_ + x2) c.flows.length (Tab.upm st.own x0 (a0 + 1, a1 + x2, a2)) :: rkC k gf gt c.flows.length cf ct c.rank c.flows tg' st.virt :: [bkC hR v c.packets.toNat cnt st.bk]) own6 ∧ Fol w5 own5 w6 own6) := Lib.hid (fun w6 h6 u6 => hRb w6 oR (rkC k gf gt c.flows.length cf ct c.rank c.flows tg' st.virt) ⟨h6, hRk.2⟩ ⟨fun _ h => .inl h, u6.mono fun q _ e => (hRk.2 q).2 (.inr (.inr e))⟩)
   have hsb := (sep_blk hs5).1
   have c1 : w5.cell? ⟨s, 1, none⟩ = some (.pointer (some ⟨k, 0, none⟩)) := hsb.cellAt rfl
   have c6 : w5.cell? ⟨s, 6, none⟩ = some (.int .u64 (st.now : Nat)) := hsb.cellAt rfl
   obtain ⟨q0, q1, q2, _, _, _⟩ := cells3 HK5.out
   have HS6 : Hid (∀ w6, RkIn w6 k gf gt c.flows.length cf ct c.rank c.flows tg' st.virt → Upd (fun q => q = gt) w5 w6 → w6.cell? ⟨s, 1, none⟩ = some (.pointer (some ⟨k, 0, none⟩)) ∧ w6.cell? ⟨s, 6, none⟩ = some (.int .u64 (st.now : Nat)) ∧ w6.cell? ⟨kb, 0, none⟩ = some (.int .u32 x0) ∧ w6.cell? ⟨kb, 2, none⟩ = some (.int .u64 x2)) := Lib.hid (fun w6 h6 u6 => by
    obtain ⟨own6, hs6, hf6⟩ := HB5.out w6 h6 u6
    have hk6 := hf6.blk HK5.out HNO5.out.2.1
    have hs := (sep_blk hs6).1
    exact ⟨hs.cellAt rfl, hs.cellAt rfl, hk6.cellAt rfl, hk6.cellAt rfl⟩)
   clear hsb hRb hRk hs5 hRs
   go_upto_region 7 with fail
   refine wp_region_held_drew (S := fun w' => w'.cell? ⟨s, 1, none⟩ = some (.pointer (some ⟨k, 0, none⟩)) ∧ w'.cell? ⟨s, 6, none⟩ = some (.int .u64 (st.now : Nat)) ∧ w'.cell? ⟨kb, 0, none⟩ = some (.int .u32 x0) ∧ w'.cell? ⟨kb, 2, none⟩ = some (.int .u64 x2)) (by kernel_rfl) ⟨c1, c6, q0, q2⟩ (fun hHeld => ?_)
   refine tkq 0 ?_
   refine tkq 1 ?_
   refine tkq 2 ?_
   refine tkq 3 ?_
   refine tkq 4 ?_
   refine tkq 5 ?_
   refine tkq 6 ?_
   refine tkq 7 ?_
   refine tkq 8 ?_
   refine tkq 9 ?_
   refine tkq 10 ?_
   refine tkq 11 ?_
   refine rdq 12 fun K hK => ?_
   go_simp
   go_wp2_with (go_at_call 65; refine HN5.out.out.mono ?_; rintro e w6 ⟨rfl, h6, u6⟩)
   refine hK.out _ _ (by (try dsimp only); exact HS6.out _ h6 (((Upd.refl _ w5).drew).trans u6 (fun _ _ h => h))) (fun hHeld => ?_)
   clear hK K
   have HU6 := Lib.hid (((Upd.refl _ w5).drew).trans u6 (fun _ _ h => h))
   obtain ⟨own6, hs6, hf6⟩ := HB5.out w6 h6 HU6.out
   clear u6
   have HO6 := Lib.hid (hf6.blk HO5.out HNO5.out.2.2)
   have HK6 := Lib.hid (hf6.blk HK5.out HNO5.out.2.1)
   have HR6 := Lib.hid (hf6.blk HR5.out HNO5.out.1)
   have HNO6 : Hid (¬ own6 rb ∧ ¬ own6 kb ∧ ¬ own6 ob) := Lib.hid ⟨hf6.off HNO5.out.1 HR5.out.lt, hf6.off HNO5.out.2.1 HK5.out.lt, hf6.off HNO5.out.2.2 HO5.out.lt⟩
   have HF6 := Lib.hid (HF5.out.trans hf6)
   have o5 : w6.cell? ⟨ob, 5, none⟩ = some (.int .u64 0) := HO6.out.cellAt (by rw [← HV1.out]; rfl)
   have z5 := HO6.out.free 5
   have HU7 : Hid (Upd (fun q => q = ob) w6 (w6.setCell ⟨ob, 5, none⟩ (.int .u64 (rk : Nat)))) := Lib.hid (Upd.setCell (S := fun q => q = ob) (a := ⟨ob, 5, none⟩) (Upd.refl _ _) (fun _ => rfl) _)
   have hs7 := hs6.kp HU7.out (fun q hq e => HNO6.out.2.2 (by rw [← e]; exact hq))
   have hK7 := HK6.out.kept HU7.out (fun e => HON.out.2.2 e.symm)
   have hsb := (sep_blk hs7).1
   refine tkq 13 ?_
   refine tkq 14 ?_
   refine tkq 15 ?_
   refine tkq 16 ?_
   refine rdq 17 fun K hK => ?_
   go_simp
   refine hK.out _ _ (by (try dsimp only); exact ⟨hsb.cellAt rfl, hsb.cellAt rfl, hK7.cellAt rfl, hK7.cellAt rfl⟩) (fun hHeld => ?_)
   clear hK K
   refine wpAnyH_done (by kernel_rfl) ?_ _
   have HO7 : Hid (Blk (w6.setCell ⟨ob, 5, none⟩ (.int .u64 (rk : Nat))) ob (V1.setIfInBounds 5 (.int .u64 (rk : Nat))) TRe) := Lib.hid (HO6.out.set 5 _)
   obtain ⟨V2, hV2⟩ : ∃ V2, V1.setIfInBounds 5 (.int .u64 (rk : Nat)) = V2 := ⟨_, rfl⟩
   have e2 : V2 = VRe 1 0 x0 x1 x2 rk 0 0 0 0 (fun _ => 0) := by rw [← hV2, ← HV1.out]; rfl
   rw [hV2] at HO7
   have HE2 := Lib.hid e2
   have hs2 : V2.size = 42 := by rw [e2]; rfl
   have ha2 : V2.all (·.oneCell') = true := by rw [e2]; exact vre_one ..
   have HR7 := Lib.hid (HR6.out.kept HU7.out (fun e => HON.out.2.1 e.symm))
   have HF7 : Hid (Fol wD own (w6.setCell ⟨ob, 5, none⟩ (.int .u64 (rk : Nat))) own6 → True) := Lib.hid (fun _ => trivial)
   have HFw : Hid (Fol w own (w6.setCell ⟨ob, 5, none⟩ (.int .u64 (rk : Nat))) own6) := Lib.hid ((((Fol.refl w own).old HUD.out).trans HF6.out).ret HU7.out HON.out.1)
   have HS7 := Lib.hid hs7
   have HK7 := Lib.hid hK7
   clear HF7 hV2 e2 hs7 hK7 hs6 hf6 h6 o5 z5 hHeld hsb HF6 HF5 HB5 HS6 HN5 c1 c6 q0 q1 q2
   generalize w6.setCell ⟨ob, 5, none⟩ (.int .u64 (rk : Nat)) = w7 at *
   obtain ⟨oB, hB, hBs, hBb⟩ := Sep.foc (bkC hR v c.packets.toNat cnt st.bk) [] [blkC s (SC g k c.rate c.burst st.tok v st.now (rOf st.ref)) TSh, gmC g c (st.pk + 1) (st.by_ + x2) c.flows.length (Tab.upm st.own x0 (a0 + 1, a1 + x2, a2)), rkC k gf gt c.flows.length cf ct c.rank c.flows tg' st.virt] HS7.out
   obtain ⟨T, VV, fp, fk, fo, hM⟩ := hR.meth hB
   have hv := hM.eq
   have hmp := hM.mp
   have hep := hM.ep
   have HP := Lib.hid (hM.cp (hR.kept hB ((Upd.refl Nowhere w7).drew) (fun _ _ h => h)) hlenb hcnt rk (x0, x1, x2) hrk HPK.out)
   subst hv
   have hsb := (sep_blk HS7.out).1
   have c5 : w7.cell? ⟨s, 5, none⟩ = some (.iface T VV) := hsb.cellAt rfl
   have o5 : w7.cell? ⟨ob, 5, none⟩ = some (.int .u64 (rk : Nat)) := HO7.out.cellAt (by rw [HE2.out]; rfl)
   obtain ⟨q0, q1, q2, _, _, _⟩ := cells3 HK7.out
   have HB8 : Hid (∀ w8 o8, R w8 (.iface T VV) o8 c.packets.toNat (cnt + 1) (st.bk.push rk (x0, x1, x2)) → Fol w7 oB w8 o8 → ∃ own8, Sep w8 (shL hR ⟨s, g, k, gf, gt, cf, ct, .iface T VV⟩ c (cnt + 1) { st with pk := st.pk + 1, by_ := st.by_ + x2, own := Tab.upm st.own x0 (a0 + 1, a1 + x2, a2), tags := tg', bk := st.bk.push rk (x0, x1, x2) }) own8 ∧ Fol w7 own6 w8 own8) := Lib.hid (fun w8 o8 h8 f8 => hBb w8 o8 (bkC hR (.iface T VV) c.packets.toNat (cnt + 1) (st.bk.push rk (x0, x1, x2))) h8 f8)
   have HNO7 : Hid (¬ own6 rb ∧ ¬ own6 kb ∧ ¬ own6 ob) := HNO6
   have HS8 : Hid (∀ w8 o8, R w8 (.iface T VV) o8 c.packets.toNat (cnt + 1) (st.bk.push rk (x0, x1, x2)) → Fol w7 oB w8 o8 → w8.cell? ⟨s, 5, none⟩ = some (.iface T VV) ∧ w8.cell? ⟨ob, 5, none⟩ = some (.int .u64 (rk : Nat)) ∧ w8.cell? ⟨kb, 0, none⟩ = some (.int .u32 x0) ∧ w8.cell? ⟨kb, 1, none⟩ = some (.int .u32 x1) ∧ w8.cell? ⟨kb, 2, none⟩ = some (.int .u64 x2)) := Lib.hid (fun w8 o8 h8 f8 => by
    obtain ⟨own8, hs8, hf8⟩ := HB8.out w8 o8 h8 f8
    have hk8 := hf8.blk HK7.out HNO7.out.2.1
    have ho8 := hf8.blk HO7.out HNO7.out.2.2
    exact ⟨(sep_blk hs8).1.cellAt rfl, ho8.cellAt (by rw [HE2.out]; rfl), hk8.cellAt rfl, hk8.cellAt rfl, hk8.cellAt rfl⟩)
   clear hsb hBb hBs hB hM hrk hlenb
   go_upto_region 8 with fail
   refine wp_region_held_drew (S := fun w' => w'.cell? ⟨s, 5, none⟩ = some (.iface T VV) ∧ w'.cell? ⟨ob, 5, none⟩ = some (.int .u64 (rk : Nat)) ∧ w'.cell? ⟨kb, 0, none⟩ = some (.int .u32 x0) ∧ w'.cell? ⟨kb, 1, none⟩ = some (.int .u32 x1) ∧ w'.cell? ⟨kb, 2, none⟩ = some (.int .u64 x2)) (by kernel_rfl) ⟨c5, o5, q0, q1, q2⟩ (fun hHeld => ?_)
   refine tkq 0 ?_
   refine tkq 1 ?_
   refine tkq 2 ?_
   refine tkq 3 ?_
   refine tkq 4 ?_
   refine tkq 5 ?_
   refine tkq 6 ?_
   refine rdq 7 fun K hK => ?_
   go_simp
   go_wp2_with (refine HP.out.mono ?_; rintro e w8 ⟨rfl, o8, h8, f8'⟩; have f8 : Fol w7 oB w8 o8 := ((Fol.refl w7 oB).drewN 1).trans f8')
   refine hK.out _ _ (by (try dsimp only); exact HS8.out _ _ h8 f8) (fun hHeld => ?_)
   clear hK K
   refine wpAnyH_done (by kernel_rfl) ?_ _
   obtain ⟨own8, hs8, hf8⟩ := HB8.out w8 o8 h8 f8
   have hO8 := hf8.blk HO7.out HNO7.out.2.2
   have hR8 := hf8.blk HR7.out HNO7.out.1
   have hno8 := hf8.off HNO7.out.1 HR7.out.lt
   have HF8 := Lib.hid (HFw.out.trans hf8)
   clear h8 f8 f8' hHeld
   obtain ⟨w9, hst, hR9, hu9⟩ := store_all (P := Tryz.prog) (T := TRe) (V := V2) (n := 42) hR8 infoRe rfl hs2 ha2
   go_upto_region 9 with fail
   refine wp_region_lit ?_
   refine wpList_loadV TRe (.tmp 6) ⟨ob, 0, none⟩ (.agg V2) (load_all (n := 42) hO8 Tryz.underlying51 rfl infoRe hs2) ?_
   (try simp only [Act.put, List.setIfInBounds_toArray, List.set_cons_zero, List.set_cons_succ])
   refine wpList_storeV TRe (.tmp 4) (.tmp 58) ⟨rb, 0, none⟩ (.agg V2) hst ?_
   refine wpList_nil ?_
   go_wp2_with fail
   refine bodyPost_ret (v := .agg V2) (results_cell (t := TRe) (x := 4) rfl rfl (load_all (n := 42) hR9 Tryz.underlying51 rfl infoRe hs2)) rfl ⟨?_, ?_⟩
   · rw [HE2.out]
     unfold vre
     dsimp only [Sh.re0]
     rw [rOf_z32]
   · exact ⟨own8, cnt + 1, Nat.le_refl _, hs8.kp hu9 (fun q hq e => hno8 (by rw [← e]; exact hq)), HF8.out.ret hu9 HRN.out⟩
end
end Go.Proofs.YtpgpjjkeginbbaaGreatDoor.Shm

