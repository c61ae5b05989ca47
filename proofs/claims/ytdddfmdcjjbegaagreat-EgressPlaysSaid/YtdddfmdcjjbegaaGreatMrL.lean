/- EgPlays, one behind the other. -/
import Derived.Test.YtdddfmdcjjbegaaGreatMeLaw
import Derived.Test.YtdddfmdcjjbegaaGreatMeP2
import Derived.Test.YtdddfmdcjjbegaaGreatMeA
import Derived.Deep.RegionHeld3
import Derived.Test.YtdddfmdcjjbegaaGreatMrW
import Derived.Test.YtdddfmdcjjbegaaGreatMrS
import Derived.Test.YtdddfmdcjjbegaaGreatMeTk
namespace Go.Proofs.YtdddfmdcjjbegaaGreat.Egs
open Go.RowKit Go.Proofs BigFrame
open RingW (It KI zI ZI VI TE)
open First (Cf VC TCl)
set_option maxHeartbeats 40000000
set_option maxRecDepth 1000000
set_option linter.unusedSimpArgs false
theorem plays_law {v0 v1 va : Value} {cs : List Cf} {pl : List (Nat × Nat)} {pace : Nat} {l : List Act} {W : World} (h0 : RowsAt W v0 cs.length (cs.flatMap fun c => (VC c).toList)) (h1 : RowsAt W v1 pl.length (pl.flatMap slt)) (hb : ∀ x ∈ pl, x.1 < 256 ∧ x.2 < 18446744073709551616) (hpc : pace ≤ 18446744073709551615) (h2 : RowsAt W va l.length (l.flatMap act)) (hl : ∀ a ∈ l, a.Ok) :
 Calls Tryz.prog 7 #[.agg #[v0, v1, .int .u64 pace], va] W fun x w' => x = .returned (.bool true) ∧ Upd Nowhere W w' := by
 obtain ⟨ad, cc, rfl, hC⟩ := cls_of h0
 obtain ⟨ap, cp, rfl, hn, hP⟩ := pln_of hb h1
 obtain ⟨al, cl, rfl, hA⟩ := acts_of h2
 clear h0 h1 h2
 obtain ⟨F, hF⟩ : ∃ F, (decide (12 < cs.length) || (decide (70 < pl.length) || decide (150 < l.length))) = F := ⟨_, rfl⟩
 have HFAR := fun u => Lib.hid (far_any (w := u) (ad := ad) (ap := ap) (al := al) (n := cs.length) (cc := cc) (m := pl.length) (cp := cp) (pace := pace) (k := l.length) (cl := cl))
 rw [hF] at HFAR
 have hM0 := m_box (Made.start W) #[.slice ad cs.length cc, .slice ap pl.length cp, .int .u64 pace] TRc
 cases F with
 | true =>
   clear hF
   obtain ⟨n, hn'⟩ : ∃ n, cs.length = n := ⟨_, rfl⟩
   obtain ⟨m, hm⟩ : ∃ m, pl.length = m := ⟨_, rfl⟩
   obtain ⟨K, hk⟩ : ∃ K, l.length = K := ⟨_, rfl⟩
   rw [hn', hm] at hM0
   rw [hn', hm, hk] at HFAR
   rw [hn', hm, hk]
   clear hC hP hA hn hl hn' hm hk
   obtain ⟨b0, b1, b2, -⟩ := cells3 (mk_off (l1 := []) hM0).1
   have HM0 := Lib.hid hM0
   clear hM0
   go_enter Tryz.func7, Tryz.ntmps7
   go_wp2_with fail
   refine ((HFAR _).out).mono ?_
   rintro x w1 ⟨rfl, u1⟩
   go_wp2_with fail
   refine (lives_any _).mono ?_
   rintro x w2 ⟨rfl, u2⟩
   go_wp2_with fail
   go_ret
   exact ⟨rfl, ((HM0.out.old u1).old u2).upd⟩
 | false =>
 have hbd : cs.length ≤ 12 ∧ pl.length ≤ 70 ∧ l.length ≤ 150 := by simp at hF; omega
 obtain ⟨hb1, hb2, hb3⟩ := hbd
 clear hF
 have HCF := fun u (hu : Upd Nowhere W u) => Lib.hid (conf_any (cc := cc) (ap := ap) (cp := cp) (m := pl.length) (pace := pace) (hC.old hu) hb1)
 have HNEW := fun w0 u L (hM : Made w0 u L) (hu : Upd Nowhere W u) (aq : Option Addr) (cq : Nat) (hq : ClsAt u aq cs) (hch : chkE cs pl pace = 0) => Lib.hid (e_new (cc := cq) (ad := aq) hM hq (hP.old hu) hn hch)
 have HNO := fun u (hu : Upd Nowhere W u) (aq : Option Addr) (cq : Nat) (hq : ClsAt u aq cs) (hch : chkE cs pl pace ≠ 0) => Lib.hid (newE_no (w := u) (cp := cp) (cc := cq) (ad := aq) hq (hP.old hu) hch)
 have HCK := fun u (hu : Upd Nowhere W u) => Lib.hid (R43.check_all (cc := cc) (cp := cp) (pace := pace) (hC.old hu) (hP.old hu) hb2)
 have HCE := fun u (hu : Upd Nowhere W u) (aq : Option Addr) (cq : Nat) (hq : ClsAt u aq cs) => Lib.hid (checkE_any (cc := cq) (cp := cp) (pace := pace) hq (hP.old hu))
 obtain ⟨n, hn'⟩ : ∃ n, cs.length = n := ⟨_, rfl⟩
 obtain ⟨m, hm⟩ : ∃ m, pl.length = m := ⟨_, rfl⟩
 obtain ⟨K, hk⟩ : ∃ K, l.length = K := ⟨_, rfl⟩
 rw [hm] at hb2
 rw [hk] at hb3
 rw [hn', hm] at hM0 HCF HNEW HNO HCK HCE
 rw [hn', hm, hk] at HFAR
 rw [hn', hm, hk]
 rw [hn'] at hb1
 obtain ⟨b0, b1, b2, -⟩ := cells3 (mk_off (l1 := []) hM0).1
 have HM0 := Lib.hid hM0
 have HNN := Lib.hid hn'
 have HMM := Lib.hid hm
 have HKK := Lib.hid hk
 have HA := Lib.hid hA
 have HCA := Lib.hid hC
 have HP := Lib.hid hP
 have HL := Lib.hid hl
 have HPB := Lib.hid hb
 have HPC := Lib.hid hpc
 clear hM0 hC hP hA hn hl hn' hm hk hb hpc
 go_enter Tryz.func7, Tryz.ntmps7
 go_wp2_with fail
 refine ((HFAR _).out).mono ?_
 rintro x w1 ⟨rfl, u1⟩
 have HM1 := Lib.hid (HM0.out.old u1)
 clear HM0 u1 HFAR b0 b1 b2
 obtain ⟨b0, b1, b2, -⟩ := cells3 (mk_off (l1 := []) HM1.out).1
 generalize W.heap.size = BX at *
 go_wp2_with fail
 refine ((HCF _ HM1.out.upd).out).mono ?_
 rintro x w2 ⟨v, rfl, ho, u2⟩
 obtain ⟨aq, cq, rfl, hcq⟩ := cls_row HNN.out ho
 have HM2 := Lib.hid (HM1.out.old u2)
 have HCQ := Lib.hid hcq
 clear ho u2 HM1 hcq b0 b1 b2
 by_cases hch : chkE cs pl pace = 0
 case neg =>
  have H := HNO _ HM2.out.upd aq cq HCQ.out hch
  obtain ⟨r, hr⟩ : ∃ r, chkE cs pl pace = r := ⟨_, rfl⟩
  rw [hr] at H hch
  simp only [hr] at HCK HCE
  have d0 : ((r : Int) != 0) = true := by simp; omega
  have d1 : ((r : Int) == 0) = false := by simp; omega
  have d2 : decide ((r : Int) = 0) = false := decide_eq_false (by omega)
  have d3 : decide (r = 0) = false := decide_eq_false (by omega)
  clear hch hr HNO HNEW
  go_wp2_with fail
  refine (H.out).mono ?_
  rintro x w3 ⟨rfl, u3⟩
  have HM3 := Lib.hid (HM2.out.old u3)
  clear u3 HM2
  obtain ⟨b0, b1, b2, -⟩ := cells3 (mk_off (l1 := []) HM3.out).1
  go_wp2_with fail
  refine ((HCK _ HM3.out.upd).out).mono ?_
  rintro x w4 ⟨rfl, u4⟩
  have HM4 := Lib.hid (HM3.out.old u4)
  clear u4 HM3 b0 b1 b2
  obtain ⟨b0, b1, b2, -⟩ := cells3 (mk_off (l1 := []) HM4.out).1
  go_wp2_with fail
  refine ((HCF _ HM4.out.upd).out).mono ?_
  rintro x w5 ⟨v5, rfl, ho5, u5⟩
  obtain ⟨aq5, cq5, rfl, hcq5⟩ := cls_row HNN.out ho5
  have HM5 := Lib.hid (HM4.out.old u5)
  clear u5 HM4 ho5 b0 b1 b2
  go_wp2_with fail
  refine ((HCE _ HM5.out.upd aq5 cq5 hcq5).out).mono ?_
  rintro x w6 ⟨rfl, u6⟩
  have HM6 := Lib.hid (HM5.out.old u6)
  clear u6 HM5 hcq5
  go_wp2_with fail
  refine (lives_any _).mono ?_
  rintro x w7 ⟨rfl, u7⟩
  go_wp2_with fail
  go_ret
  exact ⟨rfl, (HM6.out.old u7).upd⟩
 case pos =>
 have hof := chkE_ok hch
 go_wp2_with fail
 refine ((HNEW _ _ _ HM2.out HM2.out.upd aq cq HCQ.out hch).out).mono ?_
 rintro x w3 ⟨e, vc, vp, Q, rfl, hM3, hQ⟩
 have HM3 := Lib.hid hM3
 have HOK0 : Hid (OkE ⟨vc, vp, pl, pace, 0, 0, Q⟩ 0) := Lib.hid (okE_new hch HPB.out hQ)
 have HCS0 : Hid (cfs ⟨vc, vp, pl, pace, 0, 0, Q⟩ = cs) := Lib.hid (by
  have : cfs ⟨vc, vp, pl, pace, 0, 0, Q⟩ = (Q.map fun x => x.2).map fun x => x.1 := by unfold cfs; rw [List.map_map]; rfl
  rw [this, hQ, List.map_map]
  simp [Function.comp_def])
 have HQ0 := Lib.hid hQ
 have HOF := Lib.hid hof
 simp only [hch] at HCK HCE
 clear hM3 hQ hch HNEW HNO HM2 hof
 obtain ⟨b0, b1, b2, -⟩ := cells3 (mk_off (l1 := [_]) HM3.out).1
 go_wp2_with fail
 refine ((HCK _ HM3.out.upd).out).mono ?_
 rintro x w4 ⟨rfl, u4⟩
 have HM4 := Lib.hid (HM3.out.old u4)
 clear u4 HM3 b0 b1 b2
 obtain ⟨b0, b1, b2, -⟩ := cells3 (mk_off (l1 := [_]) HM4.out).1
 go_wp2_with fail
 refine ((HCF _ HM4.out.upd).out).mono ?_
 rintro x w5 ⟨v5, rfl, ho5, u5⟩
 obtain ⟨aq5, cq5, rfl, hcq5⟩ := cls_row HNN.out ho5
 have HM5 := Lib.hid (HM4.out.old u5)
 clear u5 HM4 ho5 b0 b1 b2
 go_wp2_with fail
 refine ((HCE _ HM5.out.upd aq5 cq5 hcq5).out).mono ?_
 rintro x w6 ⟨rfl, u6⟩
 have HM6 := Lib.hid (HM5.out.old u6)
 clear u6 HM5 hcq5 HCK HCE HCF
 obtain ⟨b0, b1, b2, -⟩ := cells3 (mk_off (l1 := [_]) HM6.out).1
 have HRN := Lib.hid (R43.rnew_ok (w := w6) (n := n) (cc := cc) (ap := ap) (mm := m) (cp := cp) (pace := pace) (HCA.out.old HM6.out.upd) HNN.out (by have := HOF.out.2.2.1; have := HNN.out; omega) HOF.out.1)
 go_wp2_with fail
 refine (HRN.out).mono ?_
 rintro x w7 ⟨mb, R0, rfl, hM7, hR1, hR2, hR3, hR4, hR5⟩
 have HM7 := Lib.hid ((R43.m_add HM6.out hM7).perm (List.Perm.swap _ _ _))
 have HB0 : Hid (R43.Bth cs pl pace 0 ⟨vc, vp, pl, pace, 0, 0, Q⟩ R0) := Lib.hid ⟨HOK0.out, HCS0.out, rfl, rfl, R43.cor_new HQ0.out hR1 hR2 hR3 hR4 hR5⟩
 have HP0 : Hid (R0.P.length ≤ 0) := Lib.hid (by rw [hR1]; exact Nat.le_refl _)
 clear hM7 hR1 hR2 hR3 hR4 hR5 HM6 HOK0 HCS0 HQ0 HRN b0 b1 b2 HCQ
 go_upto_region 11 with fail
 go_loopg [9, 10, 11, 12, 13, 14, 15, 16, 57] (K + 1) (fun gk _ _ _ _ _ _ _ _ v57 wr => ∃ (i : Nat) (E : Eg) (R : R43.Rf), K - i < gk ∧ i ≤ K ∧ v57 = .int .i64 i ∧ Hid (Made W wr (egC e E :: R43.rfC mb (.slice ad n cc) (.slice ap m cp) pace R :: [blkC BX #[.slice ad n cc, .slice ap m cp, .int .u64 pace] TRc])) ∧ Hid (R43.Bth cs pl pace i E R) ∧ Hid (R.P.length ≤ i))
 case atStart => exact ⟨0, _, R0, by omega, Nat.zero_le _, rfl, HM7, HB0, HP0⟩
 case round =>
  obtain ⟨i, E, R, hgk, hin, rfl, HM, HBT, HPL⟩ := hrel
  obtain ⟨wB, rfl⟩ : ∃ x, x = wr := ⟨_, rfl⟩
  have HGK := Lib.hid hgk
  clear hgk HM7 HB0 HP0
  rcases Nat.lt_or_ge i K with hlt | hge
  · obtain ⟨⟨kd, ca, ra, le, ti⟩, hx⟩ : ∃ x, l[i]? = some x := ⟨l[i]'(by have := HKK.out; omega), by simp⟩
    obtain ⟨o1, o2, o3, o4⟩ := HL.out _ (List.mem_of_getElem? hx)
    have HX := Lib.hid hx
    obtain ⟨ga, oa, rfl, r0, r1, r2, r3, r4⟩ := HA.out.get HM.out.upd hx
    dsimp only at o1 o2 o3 o4 r0 r1 r2 r3 r4
    have hI : (i : Int) < K := by omega
    have hI32 : i < 4294967296 := by omega
    have hi9 : i < 1000000000 := by omega
    have eK : (kd : Int) % 4 = ((kd % 4 : Nat) : Int) := rfl
    have hr4 : kd % 4 < 4 := Nat.mod_lt _ (by omega)
    generalize kd % 4 = k4 at *
    have hM2 := m_box HM.out (actA ⟨kd, ca, ra, le, ti⟩) TAc
    have HM2 := Lib.hid (hM2.perm (List.Perm.swap _ _ _))
    clear hx hM2 HM
    go_upto_block 2 with fail
    obtain ⟨wA, hwA⟩ : ∃ wA, wB.alloc (.cells (actA ⟨kd, ca, ra, le, ti⟩) TAc) = wA := ⟨_, rfl⟩
    obtain ⟨xb, hxb⟩ : ∃ xb, wB.heap.size = xb := ⟨_, rfl⟩
    rw [hwA] at HM2 ⊢
    rw [hxb] at HM2
    try simp only [hxb]
    clear hwA hxb r0 r1 r2 r3 r4
    obtain ⟨j0, j1, j2, j3, j4, -⟩ := cells5 (mk_off (l1 := [_]) HM2.out).1
    go_cut [11, 12, 13, 14, 15, 16, 64] (fun _ _ _ _ _ _ _ wc => ∃ E' R', Made W wc (egC e E' :: R43.rfC mb (.slice ad n cc) (.slice ap m cp) pace R' :: [blkC BX #[.slice ad n cc, .slice ap m cp, .int .u64 pace] TRc]) ∧ R43.Bth cs pl pace (i + 1) E' R' ∧ R'.P.length ≤ i + 1)
    case first =>
     rcases (show k4 = 0 ∨ k4 = 1 ∨ k4 = 2 ∨ k4 = 3 by omega) with rfl | rfl | rfl | rfl
     · as_aux_lemma =>
       have eK4 : (kd : Int) % 4 = 0 := eK
       clear eK hr4
       have hps := pushE_ok (i := ca) (rank := ra) (p := (i, i, le)) HBT.out.ok hI32 hI32
       have hpc := pushE_cfs E ca ra (i, i, le)
       have hsm := pushE_same E ca ra (i, i, le)
       have HEP := fun u (hM : Made W u (egC e E :: blkC xb (actA ⟨kd, ca, ra, le, ti⟩) TAc :: R43.rfC mb (.slice ad n cc) (.slice ap m cp) pace R :: [blkC BX #[.slice ad n cc, .slice ap m cp, .int .u64 pace] TRc])) => Lib.hid (e_push hM HBT.out.ok hi9 ca ra i i le)
       have HRP := fun u l (hM : Made W u (R43.rfC mb (.slice ad n cc) (.slice ap m cp) pace R :: l)) => Lib.hid (R43.r_push hM HCA.out HNN.out HBT.out hi9 (by have := HPL.out; omega) ca ra i i le)
       obtain ⟨⟨pr, E2⟩, hpe⟩ : ∃ r, pushE E ca ra (i, i, le) = r := ⟨_, rfl⟩
       rw [hpe] at hps hpc hsm
       simp only [hpe] at HRP HEP
       have HOK6 := Lib.hid hps
       have HCS6 := Lib.hid (hpc.trans HBT.out.cl)
       have HPL6 := Lib.hid (And.intro (hsm.1.trans HBT.out.pl) (hsm.2.1.trans HBT.out.pc))
       clear hps hpc hsm hpe
       go_wp2_with fail
       refine wp_region_held_drew (S := fun w' => w'.cell? ⟨xb, 0, none⟩ = some (.int .u8 kd) ∧ w'.cell? ⟨xb, 1, none⟩ = some (.int .i64 ca) ∧ w'.cell? ⟨xb, 2, none⟩ = some (.int .u64 ra) ∧ w'.cell? ⟨xb, 3, none⟩ = some (.int .u64 le) ∧ w'.cell? ⟨xb, 4, none⟩ = some (.int .u64 ti)) (by kernel_rfl) ⟨j0, j1, j2, j3, j4⟩ (fun hHeld => ?_)
       refine tkq 0 ?_
       refine tkq 1 ?_
       refine tkq 2 ?_
       refine tkq 3 ?_
       refine tkq 4 ?_
       refine tkq 5 ?_
       refine tkq 6 ?_
       refine tkq 9 ?_
       refine tkq 10 ?_
       refine tkq 11 ?_
       refine tkq 12 ?_
       refine tkq 13 ?_
       refine tkq 14 ?_
       refine tkq 15 ?_
       refine rdq 7 fun K9 hK => ?_
       go_simp
       refine (packet_any (i := i) hI32 ⟨kd, ca, ra, le, ti⟩).mono ?_
       rintro x w5 ⟨rfl, u5⟩
       have HM5 := Lib.hid ((HM2.out.old (Upd.drew (Upd.refl _ _))).old u5)
       clear u5
       obtain ⟨q0, q1, q2, q3, q4, -⟩ := cells5 (mk_off (l1 := [_]) HM5.out).1
       refine hK.out _ _ (by (try dsimp only); exact ⟨q0, q1, q2, q3, q4⟩) (fun hHeld => ?_)
       clear hK K9 q0 q1 q2 q3 q4
       refine rdq 8 fun K9 hK => ?_
       go_simp
       refine (HEP _ HM5.out).out.mono ?_
       rintro x w6 ⟨rfl, hM6⟩
       have HM6 := Lib.hid hM6
       clear hM6
       obtain ⟨q0, q1, q2, q3, q4, -⟩ := cells5 (mk_off (l1 := [_]) HM6.out).1
       refine hK.out _ _ (by (try dsimp only); exact ⟨q0, q1, q2, q3, q4⟩) (fun hHeld => ?_)
       clear hK K9 q0 q1 q2 q3 q4
       refine rdq 16 fun K9 hK => ?_
       go_simp
       refine (packet_any (i := i) hI32 ⟨kd, ca, ra, le, ti⟩).mono ?_
       rintro x w7 ⟨rfl, u7⟩
       have HM7 := Lib.hid ((HM6.out.old u7).perm (List.perm_middle (l₁ := [_, _])))
       clear u7
       obtain ⟨q0, q1, q2, q3, q4, -⟩ := cells5 (mk_off (l1 := [_, _]) HM7.out).1
       refine hK.out _ _ (by (try dsimp only); exact ⟨q0, q1, q2, q3, q4⟩) (fun hHeld => ?_)
       clear hK K9 q0 q1 q2 q3 q4
       refine rdq 17 fun K9 hK => ?_
       go_simp
       refine (HRP _ _ HM7.out).out.mono ?_
       rintro x w8 ⟨rfl, R2, hM8, hc8, hl8⟩
       have HM8 := Lib.hid hM8
       have HC8 := Lib.hid (And.intro hc8 hl8)
       clear hM8 hc8 hl8
       obtain ⟨q0, q1, q2, q3, q4, -⟩ := cells5 (mk_off (l1 := [_, _]) HM8.out).1
       refine hK.out _ _ (by (try dsimp only); exact ⟨q0, q1, q2, q3, q4⟩) (fun hHeld => ?_)
       clear hK K9 q0 q1 q2 q3 q4
       refine tkq 18 ?_
       refine wpAnyH_done (by kernel_rfl) ?_ _
       go_wp2_with fail
       go_meet
       exact ⟨E2, R2, m_drop1 (HM8.out.perm (List.perm_middle (l₁ := [_, _])).symm), ⟨HOK6.out, HCS6.out, HPL6.out.1, HPL6.out.2, HC8.out.1⟩, Nat.le_trans HC8.out.2 (Nat.succ_le_succ HPL.out)⟩
     · as_aux_lemma =>
       have eK4 : (kd : Int) % 4 = 1 := eK
       clear eK hr4
       have hps := pushE_ok (i := ca) (rank := ra) (p := (i, i, le)) HBT.out.ok hI32 hI32
       have hpc := pushE_cfs E ca ra (i, i, le)
       have hsm := pushE_same E ca ra (i, i, le)
       have HEP := fun u (hM : Made W u (egC e E :: blkC xb (actA ⟨kd, ca, ra, le, ti⟩) TAc :: R43.rfC mb (.slice ad n cc) (.slice ap m cp) pace R :: [blkC BX #[.slice ad n cc, .slice ap m cp, .int .u64 pace] TRc])) => Lib.hid (e_push hM HBT.out.ok hi9 ca ra i i le)
       have HRP := fun u l (hM : Made W u (R43.rfC mb (.slice ad n cc) (.slice ap m cp) pace R :: l)) => Lib.hid (R43.r_push hM HCA.out HNN.out HBT.out hi9 (by have := HPL.out; omega) ca ra i i le)
       obtain ⟨⟨pr, E2⟩, hpe⟩ : ∃ r, pushE E ca ra (i, i, le) = r := ⟨_, rfl⟩
       rw [hpe] at hps hpc hsm
       simp only [hpe] at HRP HEP
       have HOK6 := Lib.hid hps
       have HCS6 := Lib.hid (hpc.trans HBT.out.cl)
       have HPL6 := Lib.hid (And.intro (hsm.1.trans HBT.out.pl) (hsm.2.1.trans HBT.out.pc))
       clear hps hpc hsm hpe
       go_wp2_with fail
       refine wp_region_held_drew (S := fun w' => w'.cell? ⟨xb, 0, none⟩ = some (.int .u8 kd) ∧ w'.cell? ⟨xb, 1, none⟩ = some (.int .i64 ca) ∧ w'.cell? ⟨xb, 2, none⟩ = some (.int .u64 ra) ∧ w'.cell? ⟨xb, 3, none⟩ = some (.int .u64 le) ∧ w'.cell? ⟨xb, 4, none⟩ = some (.int .u64 ti)) (by kernel_rfl) ⟨j0, j1, j2, j3, j4⟩ (fun hHeld => ?_)
       refine tkq 0 ?_
       refine tkq 1 ?_
       refine tkq 2 ?_
       refine tkq 3 ?_
       refine tkq 4 ?_
       refine tkq 5 ?_
       refine tkq 6 ?_
       refine tkq 9 ?_
       refine tkq 10 ?_
       refine tkq 11 ?_
       refine tkq 12 ?_
       refine tkq 13 ?_
       refine tkq 14 ?_
       refine tkq 15 ?_
       refine rdq 7 fun K9 hK => ?_
       go_simp
       refine (packet_any (i := i) hI32 ⟨kd, ca, ra, le, ti⟩).mono ?_
       rintro x w5 ⟨rfl, u5⟩
       have HM5 := Lib.hid ((HM2.out.old (Upd.drew (Upd.refl _ _))).old u5)
       clear u5
       obtain ⟨q0, q1, q2, q3, q4, -⟩ := cells5 (mk_off (l1 := [_]) HM5.out).1
       refine hK.out _ _ (by (try dsimp only); exact ⟨q0, q1, q2, q3, q4⟩) (fun hHeld => ?_)
       clear hK K9 q0 q1 q2 q3 q4
       refine rdq 8 fun K9 hK => ?_
       go_simp
       refine (HEP _ HM5.out).out.mono ?_
       rintro x w6 ⟨rfl, hM6⟩
       have HM6 := Lib.hid hM6
       clear hM6
       obtain ⟨q0, q1, q2, q3, q4, -⟩ := cells5 (mk_off (l1 := [_]) HM6.out).1
       refine hK.out _ _ (by (try dsimp only); exact ⟨q0, q1, q2, q3, q4⟩) (fun hHeld => ?_)
       clear hK K9 q0 q1 q2 q3 q4
       refine rdq 16 fun K9 hK => ?_
       go_simp
       refine (packet_any (i := i) hI32 ⟨kd, ca, ra, le, ti⟩).mono ?_
       rintro x w7 ⟨rfl, u7⟩
       have HM7 := Lib.hid ((HM6.out.old u7).perm (List.perm_middle (l₁ := [_, _])))
       clear u7
       obtain ⟨q0, q1, q2, q3, q4, -⟩ := cells5 (mk_off (l1 := [_, _]) HM7.out).1
       refine hK.out _ _ (by (try dsimp only); exact ⟨q0, q1, q2, q3, q4⟩) (fun hHeld => ?_)
       clear hK K9 q0 q1 q2 q3 q4
       refine rdq 17 fun K9 hK => ?_
       go_simp
       refine (HRP _ _ HM7.out).out.mono ?_
       rintro x w8 ⟨rfl, R2, hM8, hc8, hl8⟩
       have HM8 := Lib.hid hM8
       have HC8 := Lib.hid (And.intro hc8 hl8)
       clear hM8 hc8 hl8
       obtain ⟨q0, q1, q2, q3, q4, -⟩ := cells5 (mk_off (l1 := [_, _]) HM8.out).1
       refine hK.out _ _ (by (try dsimp only); exact ⟨q0, q1, q2, q3, q4⟩) (fun hHeld => ?_)
       clear hK K9 q0 q1 q2 q3 q4
       refine tkq 18 ?_
       refine wpAnyH_done (by kernel_rfl) ?_ _
       go_wp2_with fail
       go_meet
       exact ⟨E2, R2, m_drop1 (HM8.out.perm (List.perm_middle (l₁ := [_, _])).symm), ⟨HOK6.out, HCS6.out, HPL6.out.1, HPL6.out.2, HC8.out.1⟩, Nat.le_trans HC8.out.2 (Nat.succ_le_succ HPL.out)⟩
     · as_aux_lemma =>
       have eK4 : (kd : Int) % 4 = 2 := eK
       clear eK hr4
       have hnx := e_next HM2.out HBT.out.ok hi9
       have HRX := fun u l (hM : Made W u (R43.rfC mb (.slice ad n cc) (.slice ap m cp) pace R :: l)) => Lib.hid (R43.r_next hM HCA.out HP.out HMM.out HNN.out HBT.out hi9)
       have hok6 : OkE (nextE E).2 (i + 1) := (nextE_ok HBT.out.ok).more (Nat.le_succ _)
       have hsm := nextE_same E
       have hcf6 := nextE_cfs E
       obtain ⟨⟨⟨kk, ⟨x0, x1, x2⟩, r⟩, E2⟩, hR⟩ : ∃ R, nextE E = R := ⟨_, rfl⟩
       rw [hR] at hnx hok6 hsm hcf6
       simp only [hR] at HRX
       have HNX := Lib.hid hnx
       have HOK6 := Lib.hid hok6
       have HCS6 := Lib.hid (hcf6.trans HBT.out.cl)
       have HPL6 := Lib.hid (And.intro (hsm.1.trans HBT.out.pl) (hsm.2.1.trans HBT.out.pc))
       dsimp only at HNX
       clear hnx hok6 hsm hcf6 hR
       go_wp2_with fail
       refine (HNX.out).mono ?_
       rintro x w6 ⟨rfl, hM6⟩
       go_upto_region 22 with fail
       have HM7 := Lib.hid ((m_box (m_drop1 hM6) #[.int .u32 x0, .int .u32 x1, .int .u64 x2] TP).perm (List.perm_middle (l₁ := [_, _])))
       clear hM6 HNX HM2 j0 j1 j2 j3 j4
       generalize w6.alloc (.cells #[.int .u32 x0, .int .u32 x1, .int .u64 x2] TP) = w7 at *
       generalize w6.heap.size = PB at *
       go_wp2_with fail
       refine ((HRX _ _ HM7.out).out).mono ?_
       rintro x w8 ⟨rfl, R2, hM8, hc8, hl8⟩
       go_upto_region 23 with fail
       have HM8 := Lib.hid ((m_box hM8 #[.int .u32 x0, .int .u32 x1, .int .u64 x2] TP))
       have HC8 := Lib.hid (And.intro hc8 hl8)
       clear hM8 hc8 hl8 HM7 HRX
       generalize w8.alloc (.cells #[.int .u32 x0, .int .u32 x1, .int .u64 x2] TP) = w9 at *
       generalize w8.heap.size = PB2 at *
       obtain ⟨p0, p1, p2, -⟩ := cells3 (mk_off (l1 := []) HM8.out).1
       obtain ⟨r0, r1, r2, -⟩ := cells3 (mk_off (l1 := [_, _]) HM8.out).1
       go_wp2_with fail
       go_meet
       exact ⟨E2, R2, (m_drop1 HM8.out.drop).perm (List.Perm.swap _ _ _), ⟨HOK6.out, HCS6.out, HPL6.out.1, HPL6.out.2, HC8.out.1⟩, by rw [HC8.out.2]; exact Nat.le_succ_of_le HPL.out⟩
     · as_aux_lemma =>
       have eK4 : (kd : Int) % 4 = 3 := eK
       clear eK hr4
       go_wp2_with fail
       refine (e_tick (t := ti) HM2.out HBT.out.ok o4).mono ?_
       rintro x w6 ⟨rfl, hM6⟩
       have HM6 := Lib.hid (hM6.perm (List.perm_middle (l₁ := [_, _])))
       clear hM6 HM2 j0 j1 j2 j3 j4
       obtain ⟨j0, j1, j2, j3, j4, -⟩ := cells5 (mk_off (l1 := [_, _]) HM6.out).1
       go_wp2_with fail
       refine (R43.r_tick (t := ti) HM6.out HCA.out HNN.out HBT.out o4).mono ?_
       rintro x w7 ⟨rfl, R2, hM7, hc7, hl7⟩
       have HM7 := Lib.hid hM7
       have HC7 := Lib.hid (And.intro hc7 hl7)
       clear hM7 hc7 hl7 HM6 j0 j1 j2 j3 j4
       go_wp2_with fail
       go_meet
       exact ⟨tickE E ti, R2, m_drop1 (HM7.out.perm (List.perm_middle (l₁ := [_, _])).symm), ⟨(tickE_ok HBT.out.ok).more (Nat.le_succ _), (tickE_cfs E ti).trans HBT.out.cl, HBT.out.pl, HBT.out.pc, HC7.out.1⟩, by rw [HC7.out.2]; exact Nat.le_succ_of_le HPL.out⟩
    case rest =>
    obtain ⟨E2, R2, hM2, hB2, hP2⟩ := hcut
    have HM2 := Lib.hid hM2
    have HB2 := Lib.hid hB2
    have HP2 := Lib.hid hP2
    clear hM2 hB2 hP2
    go_wp2_with fail
    refine (R43.r_stands HM2.out HB2.out).mono ?_
    rintro x w6 ⟨rfl, hM6⟩
    have HM6 := Lib.hid hM6
    clear hM6 HM2
    go_wp2_with fail
    go_roundg (K - i)
    case rel => exact ⟨i + 1, E2, R2, by omega, by omega, rfl, HM6, HB2, HP2⟩
    case measure => have := HGK.out; omega
  · obtain rfl : i = K := by omega
    have dI : decide ((i : Int) < i) = false := by simp
    have hql : E.q.length = n := by have h4 := cfs_len E; rw [HBT.out.cl, HNN.out] at h4; exact h4.symm
    have H1 := fun u (hu : Upd Nowhere wB u) => Lib.hid (R43.m_out (i := -1) (HM.out.old hu) HBT.out.ok (.inl (by omega)))
    have H2 := fun u (hu : Upd Nowhere wB u) => Lib.hid (R43.m_out (i := (n : Int)) (HM.out.old hu) HBT.out.ok (.inr (by rw [hql]; exact Int.le_refl _)))
    clear hql
    go_wp2_with fail
    refine ((H1 _ (Upd.refl _ _)).out.1).mono ?_
    rintro x w4 ⟨rfl, u4⟩
    have HM4 := Lib.hid (HM.out.old u4)
    obtain ⟨b0, b1, b2, -⟩ := cells3 (mk_off (l1 := [_, _]) HM4.out).1
    go_wp2_with fail
    refine ((H2 _ u4).out.2.1).mono ?_
    rintro x w5 ⟨rfl, u5⟩
    go_upto_region 30 with fail
    have hu6 : Upd Nowhere wB (w5.alloc (.cells #[.int .u32 0, .int .u32 0, .int .u64 0] TP)) := (u4.trans u5 (fun _ _ h => h)).alloc _
    generalize w5.alloc (.cells #[.int .u32 0, .int .u32 0, .int .u64 0] TP) = w6 at *
    have HU6 := Lib.hid hu6
    clear hu6 u4 u5 b0 b1 b2 HM4
    go_wp2_with fail
    refine ((H1 _ HU6.out).out.2.2.1).mono ?_
    rintro x w7 ⟨rfl, u7⟩
    have HU7 := Lib.hid (HU6.out.trans u7 (fun _ _ h => h))
    clear u7 HU6
    obtain ⟨b0, b1, b2, -⟩ := cells3 (mk_off (l1 := [_, _]) (HM.out.old HU7.out)).1
    go_wp2_with fail
    refine ((H2 _ HU7.out).out.2.2.2).mono ?_
    rintro x w8 ⟨rfl, u8⟩
    have HU8 := Lib.hid (HU7.out.trans u8 (fun _ _ h => h))
    clear u8 HU7 b0 b1 b2
    go_wp2_with fail
    refine (lives_any _).mono ?_
    rintro x w9 ⟨rfl, u9⟩
    go_wp2_with fail
    go_ret
    exact ⟨rfl, (HM.out.old (HU8.out.trans u9 (fun _ _ h => h))).upd⟩
end Go.Proofs.YtdddfmdcjjbegaaGreat.Egs

