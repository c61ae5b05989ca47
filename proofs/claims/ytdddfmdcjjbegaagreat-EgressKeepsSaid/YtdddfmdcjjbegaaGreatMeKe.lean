/- EgKeeps, one behind the other. -/
import Derived.Test.YtdddfmdcjjbegaaGreatMeLaw
import Derived.Test.YtdddfmdcjjbegaaGreatMeP2
import Derived.Test.YtdddfmdcjjbegaaGreatMeA
import Derived.Deep.RegionHeld3
import Derived.Test.YtdddfmdcjjbegaaGreatMeRw
import Derived.Test.YtdddfmdcjjbegaaGreatMeKp
import Derived.Deep.DeepCutAuto
namespace Go.Proofs.YtdddfmdcjjbegaaGreat.Egs
open Go.RowKit Go.Proofs BigFrame
open RingW (It KI zI ZI VI TE)
open First (Cf VC TCl)
set_option maxHeartbeats 40000000
set_option maxRecDepth 1000000
set_option linter.unusedSimpArgs false
theorem keeps_law {v0 v1 va : Value} {cs : List Cf} {pl : List (Nat × Nat)} {pace : Nat} {l : List Act} {W : World} (h0 : RowsAt W v0 cs.length (cs.flatMap fun c => (VC c).toList)) (h1 : RowsAt W v1 pl.length (pl.flatMap slt)) (hb : ∀ x ∈ pl, x.1 < 256 ∧ x.2 < 18446744073709551616) (hpc : pace ≤ 18446744073709551615) (h2 : RowsAt W va l.length (l.flatMap act)) (hl : ∀ a ∈ l, a.Ok) :
    Calls Tryz.prog 5 #[.agg #[v0, v1, .int .u64 pace], va] W fun x w' => x = .returned (.bool true) ∧ Upd Nowhere W w' := by
  obtain ⟨ad, cc, rfl, hC⟩ := cls_of h0
  obtain ⟨ap, cp, rfl, hn, hP⟩ := pln_of hb h1
  obtain ⟨al, cl, rfl, hA⟩ := acts_of h2
  clear h0 h1 h2
  obtain ⟨F, hF⟩ : ∃ F, (decide (12 < cs.length) || (decide (70 < pl.length) || decide (150 < l.length))) = F := ⟨_, rfl⟩
  have HFAR := fun u => Lib.hid (far_any (w := u) (ad := ad) (ap := ap) (al := al) (n := cs.length) (cc := cc) (m := pl.length) (cp := cp) (pace := pace) (k := l.length) (cl := cl))
  rw [hF] at HFAR
  have hM0 := m_box (Made.start W) #[.slice ad cs.length cc, .slice ap pl.length cp, .int .u64 pace] TRc
  cases F with
  | true =>
    clear hF
    obtain ⟨n, hn'⟩ : ∃ n, cs.length = n := ⟨_, rfl⟩
    obtain ⟨m, hm⟩ : ∃ m, pl.length = m := ⟨_, rfl⟩
    obtain ⟨K, hk⟩ : ∃ K, l.length = K := ⟨_, rfl⟩
    rw [hn', hm] at hM0
    rw [hn', hm, hk] at HFAR
    rw [hn', hm, hk]
    clear hC hP hA hn hl hn' hm hk
    obtain ⟨b0, b1, b2, -⟩ := cells3 (mk_off (l1 := []) hM0).1
    have HM0 := Lib.hid hM0
    clear hM0
    go_enter Tryz.func5, Tryz.ntmps5
    go_wp2_with fail
    refine ((HFAR _).out).mono ?_
    rintro x w1 ⟨rfl, u1⟩
    go_wp2_with fail
    refine (lives_any _).mono ?_
    rintro x w2 ⟨rfl, u2⟩
    go_wp2_with fail
    go_ret
    exact ⟨rfl, ((HM0.out.old u1).old u2).upd⟩
  | false =>
  have hbd : cs.length ≤ 12 ∧ pl.length ≤ 70 ∧ l.length ≤ 150 := by simp at hF; omega
  obtain ⟨hb1, hb2, hb3⟩ := hbd
  clear hF
  have HCF := fun u (hu : Upd Nowhere W u) => Lib.hid (conf_any (cc := cc) (ap := ap) (cp := cp) (m := pl.length) (pace := pace) (hC.old hu) hb1)
  have HNEW := fun w0 u L (hM : Made w0 u L) (hu : Upd Nowhere W u) (aq : Option Addr) (cq : Nat) (hq : ClsAt u aq cs) (hch : chkE cs pl pace = 0) => Lib.hid (e_new (cc := cq) (ad := aq) hM hq (hP.old hu) hn hch)
  have HNO := fun u (hu : Upd Nowhere W u) (aq : Option Addr) (cq : Nat) (hq : ClsAt u aq cs) (hch : chkE cs pl pace ≠ 0) => Lib.hid (newE_no (w := u) (cp := cp) (cc := cq) (ad := aq) hq (hP.old hu) hch)
  obtain ⟨n, hn'⟩ : ∃ n, cs.length = n := ⟨_, rfl⟩
  obtain ⟨m, hm⟩ : ∃ m, pl.length = m := ⟨_, rfl⟩
  obtain ⟨K, hk⟩ : ∃ K, l.length = K := ⟨_, rfl⟩
  rw [hm] at hb2
  rw [hk] at hb3
  rw [hn', hm] at hM0 HCF HNEW HNO
  rw [hn', hm, hk] at HFAR
  rw [hn', hm, hk]
  rw [hn'] at hb1
  obtain ⟨b0, b1, b2, -⟩ := cells3 (mk_off (l1 := []) hM0).1
  have HM0 := Lib.hid hM0
  have HNN := Lib.hid hn'
  have HMM := Lib.hid hm
  have HKK := Lib.hid hk
  have HA := Lib.hid hA
  have HCA := Lib.hid hC
  have HP := Lib.hid hP
  have HL := Lib.hid hl
  have HPB := Lib.hid hb
  have HPC := Lib.hid hpc
  clear hM0 hC hP hA hn hl hn' hm hk hb hpc
  go_enter Tryz.func5, Tryz.ntmps5
  go_wp2_with fail
  refine ((HFAR _).out).mono ?_
  rintro x w1 ⟨rfl, u1⟩
  have HM1 := Lib.hid (HM0.out.old u1)
  clear HM0 u1 HFAR b0 b1 b2
  obtain ⟨b0, b1, b2, -⟩ := cells3 (mk_off (l1 := []) HM1.out).1
  generalize W.heap.size = BX at *
  go_wp2_with fail
  refine ((HCF _ HM1.out.upd).out).mono ?_
  rintro x w2 ⟨v, rfl, ho, u2⟩
  obtain ⟨aq, cq, rfl, hcq⟩ := cls_row HNN.out ho
  have HM2 := Lib.hid (HM1.out.old u2)
  have HCQ := Lib.hid hcq
  clear ho u2 HM1 HCF hcq b0 b1 b2
  by_cases hch : chkE cs pl pace = 0
  case neg =>
    have H := HNO _ HM2.out.upd aq cq HCQ.out hch
    obtain ⟨r, hr⟩ : ∃ r, chkE cs pl pace = r := ⟨_, rfl⟩
    rw [hr] at H hch
    have d0 : ((r : Int) != 0) = true := by simp; omega
    clear hch hr HNO HNEW
    go_wp2_with fail
    refine (H.out).mono ?_
    rintro x w3 ⟨rfl, u3⟩
    go_wp2_with fail
    refine (lives_any _).mono ?_
    rintro x w4 ⟨rfl, u4⟩
    go_wp2_with fail
    go_ret
    exact ⟨rfl, ((HM2.out.old u3).old u4).upd⟩
  case pos =>
  go_wp2_with fail
  refine ((HNEW _ _ _ HM2.out HM2.out.upd aq cq HCQ.out hch).out).mono ?_
  rintro x w3 ⟨e, vc, vp, Q, rfl, hM3, hQ⟩
  have HM3 := Lib.hid hM3
  have HOK0 : Hid (OkE ⟨vc, vp, pl, pace, 0, 0, Q⟩ 0) := Lib.hid (okE_new hch HPB.out hQ)
  have HCS0 : Hid (cfs ⟨vc, vp, pl, pace, 0, 0, Q⟩ = cs) := Lib.hid (by
    have : cfs ⟨vc, vp, pl, pace, 0, 0, Q⟩ = (Q.map fun x => x.2).map fun x => x.1 := by unfold cfs; rw [List.map_map]; rfl
    rw [this, hQ, List.map_map]
    simp [Function.comp_def])
  have HQ0 := Lib.hid hQ
  have HCH := Lib.hid hch
  clear hM3 hQ hch HNEW HNO HM2
  obtain ⟨i0, hi, hz0, hz1, hz2⟩ := info_parts infoInt
  go_upto_region 7 with (at_make; refine wpList_make_full _ rfl _ _ 59 rfl w3.heap.size TInt i0 (.int .i64 0) 1 Tryz.underlying59 hi hz0 hz1 _ _ _ _ K rfl rfl rfl rfl (by rw [hz2]; omega) (by unfold maxLen; omega) (Nat.le_refl _) ?_; intro w4 ho4 hg4; have H4 := Lib.hid ((r_made HM3.out (Upd.grown (Upd.refl _ _) hg4 (fun _ _ h => by cases h)) ho4).perm (List.Perm.swap _ _ _)); clear ho4 hg4 HM3; obtain ⟨b0, b1, b2, -⟩ := cells3 (mk_off (l1 := [_, _]) H4.out).1)
  obtain ⟨GC, hGC⟩ : ∃ x, w3.heap.size = x := ⟨_, rfl⟩
  rw [hGC] at H4
  try simp only [hGC]
  clear hGC
  go_wp2_with (at_make; go_loud (refine wpList_make_full _ rfl _ _ 59 rfl w4.heap.size TInt i0 (.int .i64 0) 1 Tryz.underlying59 hi hz0 hz1 _ _ _ _ n rfl rfl rfl rfl (by rw [hz2]; omega) (by unfold maxLen; omega) (Nat.le_refl _) ?_; intro w5 ho5 hg5; have H5 := Lib.hid ((r_made H4.out (Upd.grown (Upd.refl _ _) hg5 (fun _ _ h => by cases h)) ho5).perm (List.Perm.swap _ _ _)); clear ho5 hg5))
  obtain ⟨GL, hGL⟩ : ∃ x, w4.heap.size = x := ⟨_, rfl⟩
  rw [hGL] at H5
  try simp only [hGL]
  clear hGL H4 b0 b1 b2 hi hz0 hz1 hz2
  rw [nums_zero, nums_zero] at H5
  have HKP0 : Hid (Kps (l.map (fun a => a.len)) 0 ⟨vc, vp, pl, pace, 0, 0, Q⟩ (List.replicate K 0) (List.replicate n 0)) := Lib.hid (by
    have hem : ∀ (j k : Nat) (cf : Cf) (s : Cs), Q[j]? = some (k, cf, s) → s.l = [] := fun j k cf s h => by
      have hm : (cf, s) ∈ cs.map (fun c => (c, s0 c)) := by rw [← HQ0.out]; exact List.mem_map.2 ⟨_, List.mem_of_getElem? h, rfl⟩
      obtain ⟨y, hy, he⟩ := List.mem_map.1 hm
      cases he
      rfl
    have hql : Q.length = n := by have := congrArg List.length HQ0.out; simpa [HNN.out] using this
    refine ⟨by rw [List.length_replicate, List.length_map, HKK.out], by rw [List.length_replicate]; exact hql.symm, fun j y h => ?_, fun j k cf s h a ha => ?_, fun j k cf s h => ?_, fun j k cf s h _ => ?_⟩
    · rw [List.eq_of_mem_replicate (List.mem_of_getElem? h)]; exact Nat.le_refl _
    · rw [hem j k cf s h] at ha; cases ha
    · rw [hem j k cf s h]; exact List.Pairwise.nil
    · rw [hem j k cf s h]; exact ⟨List.Pairwise.nil, fun _ _ _ ha => by cases ha⟩)
  go_upto_region 9 with fail
  go_loopg [9, 10, 11, 12, 13, 14, 15, 16, 17, 18, 45] (K + 1) (fun gk _ _ _ _ _ _ _ _ _ _ v45 wr => ∃ (i : Nat) (E : Eg) (came last : List Nat), K - i < gk ∧ i ≤ K ∧ v45 = .int .i64 i ∧ Hid (Made W wr (egC e E :: rowC1 TInt GL n (nums last) :: rowC1 TInt GC K (nums came) :: [blkC BX #[.slice ad n cc, .slice ap m cp, .int .u64 pace] TRc])) ∧ Hid (OkE E i) ∧ Hid (cfs E = cs) ∧ Hid (Kps (l.map (fun a => a.len)) i E came last))
  case atStart => exact ⟨0, _, _, _, by omega, Nat.zero_le _, rfl, H5, HOK0, HCS0, HKP0⟩
  case round =>
    obtain ⟨i, E, came, last, hgk, hin, rfl, HM, HOK, HCS, HKP⟩ := hrel
    obtain ⟨wB, rfl⟩ : ∃ x, x = wr := ⟨_, rfl⟩
    have HGK := Lib.hid hgk
    clear hgk H5 HOK0 HCS0 HKP0
    rcases Nat.lt_or_ge i K with hlt | hge
    · obtain ⟨⟨kd, ca, ra, le, ti⟩, hx⟩ : ∃ x, l[i]? = some x := ⟨l[i]'(by have := HKK.out; omega), by simp⟩
      obtain ⟨o1, o2, o3, o4⟩ := HL.out _ (List.mem_of_getElem? hx)
      have HX := Lib.hid hx
      obtain ⟨ga, oa, rfl, r0, r1, r2, r3, r4⟩ := HA.out.get HM.out.upd hx
      dsimp only at o1 o2 o3 o4 r0 r1 r2 r3 r4
      have hI : (i : Int) < K := by omega
      have hI32 : i < 4294967296 := by omega
      have hi9 : i < 1000000000 := by omega
      have eK : (kd : Int) % 4 = ((kd % 4 : Nat) : Int) := rfl
      have hr4 : kd % 4 < 4 := Nat.mod_lt _ (by omega)
      generalize kd % 4 = k4 at *
      have hM2 := m_box HM.out (actA ⟨kd, ca, ra, le, ti⟩) TAc
      have HM2 := Lib.hid (hM2.perm (List.Perm.swap _ _ _))
      have HLS : Hid ((l.map (fun a => a.len))[i]? = some le) := Lib.hid (by rw [List.getElem?_map, hx]; rfl)
      clear hx hM2 HM
      go_upto_block 2 with fail
      obtain ⟨wA, hwA⟩ : ∃ wA, wB.alloc (.cells (actA ⟨kd, ca, ra, le, ti⟩) TAc) = wA := ⟨_, rfl⟩
      obtain ⟨xb, hxb⟩ : ∃ xb, wB.heap.size = xb := ⟨_, rfl⟩
      rw [hwA] at HM2 ⊢
      rw [hxb] at HM2
      try simp only [hxb]
      clear hwA hxb r0 r1 r2 r3 r4
      obtain ⟨j0, j1, j2, j3, j4, -⟩ := cells5 (mk_off (l1 := [_]) HM2.out).1
      go_cut [11, 12, 13, 14, 52] (fun _ _ _ _ _ wc => ∃ E' came last, Made W wc (egC e E' :: rowC1 TInt GL n (nums last) :: rowC1 TInt GC K (nums came) :: [blkC BX #[.slice ad n cc, .slice ap m cp, .int .u64 pace] TRc]) ∧ OkE E' (i + 1) ∧ cfs E' = cs ∧ Kps (l.map (fun a => a.len)) (i + 1) E' came last)
      case first =>
        have hcl : i < came.length := by rw [HKP.out.cl, List.length_map, HKK.out]; exact hlt
        have HCL := Lib.hid hcl
        clear hcl
        rcases (show k4 = 0 ∨ k4 = 1 ∨ k4 = 2 ∨ k4 = 3 by omega) with rfl | rfl | rfl | rfl
        · as_aux_lemma =>
          have eK4 : (kd : Int) % 4 = 0 := eK
          clear eK hr4
          have hcf6 := (pushE_cfs E ca ra (i, i, le)).trans HCS.out
          have hkp6 := HKP.out.push (len := le) (rank := ra) (cls := ca) HOK.out HLS.out
          have HCF6 := Lib.hid hcf6
          obtain ⟨c0, hc0⟩ : ∃ y, came[i]? = some y := ⟨came[i]'HCL.out, by simp⟩
          have HC0 := Lib.hid hc0
          clear hcf6 hc0
          by_cases hp0 : (pushE E ca ra (i, i, le)).1 = 0
          · have d0 : (((pushE E ca ra (i, i, le)).1 : Int) == 0) = true := by simp; omega
            have hin := pushE_in hp0
            rw [if_pos hp0] at hkp6
            have HKP6 := Lib.hid hkp6
            have hn2 := HOK.out.n2
            have e1 : IntKind.i64.wrap (ca + 1) = (((ca + 1).toNat : Nat) : Int) := by rw [IntKind.wrap_i64]; omega
            generalize (ca + 1).toNat = cn at *
            clear hp0 hkp6 hin hn2
            go_wp2_with fail
            refine wp_region_held_drew (S := fun w' => w'.cell? ⟨xb, 0, none⟩ = some (.int .u8 kd) ∧ w'.cell? ⟨xb, 1, none⟩ = some (.int .i64 ca) ∧ w'.cell? ⟨xb, 2, none⟩ = some (.int .u64 ra) ∧ w'.cell? ⟨xb, 3, none⟩ = some (.int .u64 le) ∧ w'.cell? ⟨xb, 4, none⟩ = some (.int .u64 ti)) (by kernel_rfl) ⟨j0, j1, j2, j3, j4⟩ (fun hHeld => ?_)
            refine wpAnyH_take (i := 0) (v := ?_) (by simp only [List.getElem?_toArray, List.getElem?_cons_zero, List.getElem?_cons_succ]; rfl) (by kernel_rfl) (by kernel_rfl) (by kernel_rfl) (by intro _ _ _ h; exact h) (Or.inl ⟨by rfl, ?_⟩) (by assumption) ?_
            rotate_left 1
            · intro w hSw; (try dsimp only at hSw); go_simp; try with_reducible rfl
            try simp only [Act.put, List.setIfInBounds_toArray, List.set_cons_zero, List.set_cons_succ]
            refine wpAnyH_take (i := 1) (v := ?_) (by simp only [List.getElem?_toArray, List.getElem?_cons_zero, List.getElem?_cons_succ]; rfl) (by kernel_rfl) (by kernel_rfl) (by kernel_rfl) (by intro _ _ _ h; exact h) (Or.inl ⟨by rfl, ?_⟩) (by assumption) ?_
            rotate_left 1
            · intro w hSw; (try dsimp only at hSw); go_simp; try with_reducible rfl
            try simp only [Act.put, List.setIfInBounds_toArray, List.set_cons_zero, List.set_cons_succ]
            refine wpAnyH_take (i := 2) (v := ?_) (by simp only [List.getElem?_toArray, List.getElem?_cons_zero, List.getElem?_cons_succ]; rfl) (by kernel_rfl) (by kernel_rfl) (by kernel_rfl) (by intro _ _ _ h; exact h) (Or.inl ⟨by rfl, ?_⟩) (by assumption) ?_
            rotate_left 1
            · intro w hSw; (try dsimp only at hSw); go_simp; try with_reducible rfl
            try simp only [Act.put, List.setIfInBounds_toArray, List.set_cons_zero, List.set_cons_succ]
            refine wpAnyH_take (i := 3) (v := ?_) (by simp only [List.getElem?_toArray, List.getElem?_cons_zero, List.getElem?_cons_succ]; rfl) (by kernel_rfl) (by kernel_rfl) (by kernel_rfl) (by intro _ _ _ h; exact h) (Or.inl ⟨by rfl, ?_⟩) (by assumption) ?_
            rotate_left 1
            · intro w hSw; (try dsimp only at hSw); go_simp; try with_reducible rfl
            try simp only [Act.put, List.setIfInBounds_toArray, List.set_cons_zero, List.set_cons_succ]
            refine wpAnyH_take (i := 4) (v := ?_) (by simp only [List.getElem?_toArray, List.getElem?_cons_zero, List.getElem?_cons_succ]; rfl) (by kernel_rfl) (by kernel_rfl) (by kernel_rfl) (by intro _ _ _ h; exact h) (Or.inl ⟨by rfl, ?_⟩) (by assumption) ?_
            rotate_left 1
            · intro w hSw; (try dsimp only at hSw); go_simp; try with_reducible rfl
            try simp only [Act.put, List.setIfInBounds_toArray, List.set_cons_zero, List.set_cons_succ]
            refine wpAnyH_take (i := 5) (v := ?_) (by simp only [List.getElem?_toArray, List.getElem?_cons_zero, List.getElem?_cons_succ]; rfl) (by kernel_rfl) (by kernel_rfl) (by kernel_rfl) (by intro _ _ _ h; exact h) (Or.inl ⟨by rfl, ?_⟩) (by assumption) ?_
            rotate_left 1
            · intro w hSw; (try dsimp only at hSw); go_simp; try with_reducible rfl
            try simp only [Act.put, List.setIfInBounds_toArray, List.set_cons_zero, List.set_cons_succ]
            refine wpAnyH_take (i := 6) (v := ?_) (by simp only [List.getElem?_toArray, List.getElem?_cons_zero, List.getElem?_cons_succ]; rfl) (by kernel_rfl) (by kernel_rfl) (by kernel_rfl) (by intro _ _ _ h; exact h) (Or.inl ⟨by rfl, ?_⟩) (by assumption) ?_
            rotate_left 1
            · intro w hSw; (try dsimp only at hSw); go_simp; try with_reducible rfl
            try simp only [Act.put, List.setIfInBounds_toArray, List.set_cons_zero, List.set_cons_succ]
            refine wpAnyH_ready (rs := [7]) (by kernel_rfl) (by simp) ?_
            refine AllReadyH.cons (by simp only [List.getElem?_toArray, List.getElem?_cons_zero, List.getElem?_cons_succ]; rfl) (fun K9 hK => ?_) AllReadyH.nil
            go_simp
            refine (packet_any (i := i) hI32 ⟨kd, ca, ra, le, ti⟩).mono ?_
            rintro x w5 ⟨rfl, u5⟩
            have HM5 := Lib.hid ((HM2.out.old (Upd.drew (Upd.refl _ _))).old u5)
            obtain ⟨q0, q1, q2, q3, q4, -⟩ := cells5 (mk_off (l1 := [_]) HM5.out).1
            refine hK.out _ _ (by (try dsimp only); exact ⟨q0, q1, q2, q3, q4⟩) (fun hHeld => ?_)
            clear hK K9 u5 q0 q1 q2 q3 q4
            refine wpAnyH_ready (rs := [8]) (by kernel_rfl) (by simp) ?_
            refine AllReadyH.cons (by simp only [List.getElem?_toArray, List.getElem?_cons_zero, List.getElem?_cons_succ]; rfl) (fun K9 hK => ?_) AllReadyH.nil
            go_simp
            refine (e_push HM5.out HOK.out hi9 ca ra i i le).mono ?_
            rintro x w6 ⟨rfl, hM6⟩
            obtain ⟨q0, q1, q2, q3, q4, -⟩ := cells5 (mk_off (l1 := [_]) hM6).1
            refine hK.out _ _ (by (try dsimp only); exact ⟨q0, q1, q2, q3, q4⟩) (fun hHeld => ?_)
            have HMX := Lib.hid hM6
            have HM6 := Lib.hid (m_drop1 hM6)
            have HOK6 : Hid (OkE (pushE E ca ra (i, i, le)).2 (i + 1)) := Lib.hid (pushE_ok HOK.out hI32 hI32)
            clear hK K9 q0 q1 q2 q3 q4 hM6 HM5 HM2
            refine wpAnyH_take (i := 9) (v := ?_) (by simp only [List.getElem?_toArray, List.getElem?_cons_zero, List.getElem?_cons_succ]; rfl) (by kernel_rfl) (by kernel_rfl) (by kernel_rfl) (by intro _ _ _ h; exact h) (Or.inl ⟨by rfl, ?_⟩) (by assumption) ?_
            rotate_left 1
            · intro w hSw; (try dsimp only at hSw); go_simp; try with_reducible rfl
            try simp only [Act.put, List.setIfInBounds_toArray, List.set_cons_zero, List.set_cons_succ]
            refine wpAnyH_done (by kernel_rfl) ?_ _
            obtain ⟨z0, z1⟩ := r_at [_, _] _ HM6.out (nums_at HC0.out)
            obtain ⟨j0, j1, j2, j3, j4, -⟩ := cells5 (mk_off (l1 := [_]) HMX.out).1
            go_wp2_with fail
            go_meet
            exact ⟨_, _, _, by rw [← nums_set]; exact r_set [_, _] _ HM6.out i _, HOK6.out, HCF6.out, HKP6.out⟩
          · have d0 : (((pushE E ca ra (i, i, le)).1 : Int) == 0) = false := by simp; omega
            rw [if_neg hp0] at hkp6
            have HKP6 := Lib.hid hkp6
            clear hp0 hkp6
            go_wp2_with fail
            refine wp_region_held_drew (S := fun w' => w'.cell? ⟨xb, 0, none⟩ = some (.int .u8 kd) ∧ w'.cell? ⟨xb, 1, none⟩ = some (.int .i64 ca) ∧ w'.cell? ⟨xb, 2, none⟩ = some (.int .u64 ra) ∧ w'.cell? ⟨xb, 3, none⟩ = some (.int .u64 le) ∧ w'.cell? ⟨xb, 4, none⟩ = some (.int .u64 ti)) (by kernel_rfl) ⟨j0, j1, j2, j3, j4⟩ (fun hHeld => ?_)
            refine wpAnyH_take (i := 0) (v := ?_) (by simp only [List.getElem?_toArray, List.getElem?_cons_zero, List.getElem?_cons_succ]; rfl) (by kernel_rfl) (by kernel_rfl) (by kernel_rfl) (by intro _ _ _ h; exact h) (Or.inl ⟨by rfl, ?_⟩) (by assumption) ?_
            rotate_left 1
            · intro w hSw; (try dsimp only at hSw); go_simp; try with_reducible rfl
            try simp only [Act.put, List.setIfInBounds_toArray, List.set_cons_zero, List.set_cons_succ]
            refine wpAnyH_take (i := 1) (v := ?_) (by simp only [List.getElem?_toArray, List.getElem?_cons_zero, List.getElem?_cons_succ]; rfl) (by kernel_rfl) (by kernel_rfl) (by kernel_rfl) (by intro _ _ _ h; exact h) (Or.inl ⟨by rfl, ?_⟩) (by assumption) ?_
            rotate_left 1
            · intro w hSw; (try dsimp only at hSw); go_simp; try with_reducible rfl
            try simp only [Act.put, List.setIfInBounds_toArray, List.set_cons_zero, List.set_cons_succ]
            refine wpAnyH_take (i := 2) (v := ?_) (by simp only [List.getElem?_toArray, List.getElem?_cons_zero, List.getElem?_cons_succ]; rfl) (by kernel_rfl) (by kernel_rfl) (by kernel_rfl) (by intro _ _ _ h; exact h) (Or.inl ⟨by rfl, ?_⟩) (by assumption) ?_
            rotate_left 1
            · intro w hSw; (try dsimp only at hSw); go_simp; try with_reducible rfl
            try simp only [Act.put, List.setIfInBounds_toArray, List.set_cons_zero, List.set_cons_succ]
            refine wpAnyH_take (i := 3) (v := ?_) (by simp only [List.getElem?_toArray, List.getElem?_cons_zero, List.getElem?_cons_succ]; rfl) (by kernel_rfl) (by kernel_rfl) (by kernel_rfl) (by intro _ _ _ h; exact h) (Or.inl ⟨by rfl, ?_⟩) (by assumption) ?_
            rotate_left 1
            · intro w hSw; (try dsimp only at hSw); go_simp; try with_reducible rfl
            try simp only [Act.put, List.setIfInBounds_toArray, List.set_cons_zero, List.set_cons_succ]
            refine wpAnyH_take (i := 4) (v := ?_) (by simp only [List.getElem?_toArray, List.getElem?_cons_zero, List.getElem?_cons_succ]; rfl) (by kernel_rfl) (by kernel_rfl) (by kernel_rfl) (by intro _ _ _ h; exact h) (Or.inl ⟨by rfl, ?_⟩) (by assumption) ?_
            rotate_left 1
            · intro w hSw; (try dsimp only at hSw); go_simp; try with_reducible rfl
            try simp only [Act.put, List.setIfInBounds_toArray, List.set_cons_zero, List.set_cons_succ]
            refine wpAnyH_take (i := 5) (v := ?_) (by simp only [List.getElem?_toArray, List.getElem?_cons_zero, List.getElem?_cons_succ]; rfl) (by kernel_rfl) (by kernel_rfl) (by kernel_rfl) (by intro _ _ _ h; exact h) (Or.inl ⟨by rfl, ?_⟩) (by assumption) ?_
            rotate_left 1
            · intro w hSw; (try dsimp only at hSw); go_simp; try with_reducible rfl
            try simp only [Act.put, List.setIfInBounds_toArray, List.set_cons_zero, List.set_cons_succ]
            refine wpAnyH_take (i := 6) (v := ?_) (by simp only [List.getElem?_toArray, List.getElem?_cons_zero, List.getElem?_cons_succ]; rfl) (by kernel_rfl) (by kernel_rfl) (by kernel_rfl) (by intro _ _ _ h; exact h) (Or.inl ⟨by rfl, ?_⟩) (by assumption) ?_
            rotate_left 1
            · intro w hSw; (try dsimp only at hSw); go_simp; try with_reducible rfl
            try simp only [Act.put, List.setIfInBounds_toArray, List.set_cons_zero, List.set_cons_succ]
            refine wpAnyH_ready (rs := [7]) (by kernel_rfl) (by simp) ?_
            refine AllReadyH.cons (by simp only [List.getElem?_toArray, List.getElem?_cons_zero, List.getElem?_cons_succ]; rfl) (fun K9 hK => ?_) AllReadyH.nil
            go_simp
            refine (packet_any (i := i) hI32 ⟨kd, ca, ra, le, ti⟩).mono ?_
            rintro x w5 ⟨rfl, u5⟩
            have HM5 := Lib.hid ((HM2.out.old (Upd.drew (Upd.refl _ _))).old u5)
            obtain ⟨q0, q1, q2, q3, q4, -⟩ := cells5 (mk_off (l1 := [_]) HM5.out).1
            refine hK.out _ _ (by (try dsimp only); exact ⟨q0, q1, q2, q3, q4⟩) (fun hHeld => ?_)
            clear hK K9 u5 q0 q1 q2 q3 q4
            refine wpAnyH_ready (rs := [8]) (by kernel_rfl) (by simp) ?_
            refine AllReadyH.cons (by simp only [List.getElem?_toArray, List.getElem?_cons_zero, List.getElem?_cons_succ]; rfl) (fun K9 hK => ?_) AllReadyH.nil
            go_simp
            refine (e_push HM5.out HOK.out hi9 ca ra i i le).mono ?_
            rintro x w6 ⟨rfl, hM6⟩
            obtain ⟨q0, q1, q2, q3, q4, -⟩ := cells5 (mk_off (l1 := [_]) hM6).1
            refine hK.out _ _ (by (try dsimp only); exact ⟨q0, q1, q2, q3, q4⟩) (fun hHeld => ?_)
            have HMX := Lib.hid hM6
            have HM6 := Lib.hid (m_drop1 hM6)
            have HOK6 : Hid (OkE (pushE E ca ra (i, i, le)).2 (i + 1)) := Lib.hid (pushE_ok HOK.out hI32 hI32)
            clear hK K9 q0 q1 q2 q3 q4 hM6 HM5 HM2
            refine wpAnyH_take (i := 9) (v := ?_) (by simp only [List.getElem?_toArray, List.getElem?_cons_zero, List.getElem?_cons_succ]; rfl) (by kernel_rfl) (by kernel_rfl) (by kernel_rfl) (by intro _ _ _ h; exact h) (Or.inl ⟨by rfl, ?_⟩) (by assumption) ?_
            rotate_left 1
            · intro w hSw; (try dsimp only at hSw); go_simp; try with_reducible rfl
            try simp only [Act.put, List.setIfInBounds_toArray, List.set_cons_zero, List.set_cons_succ]
            refine wpAnyH_done (by kernel_rfl) ?_ _
            clear HMX
            go_wp2_with fail
            go_meet
            exact ⟨_, _, _, HM6.out, HOK6.out, HCF6.out, HKP6.out⟩
        · as_aux_lemma =>
          have eK4 : (kd : Int) % 4 = 1 := eK
          clear eK hr4
          have hcf6 := (pushE_cfs E ca ra (i, i, le)).trans HCS.out
          have hkp6 := HKP.out.push (len := le) (rank := ra) (cls := ca) HOK.out HLS.out
          have HCF6 := Lib.hid hcf6
          obtain ⟨c0, hc0⟩ : ∃ y, came[i]? = some y := ⟨came[i]'HCL.out, by simp⟩
          have HC0 := Lib.hid hc0
          clear hcf6 hc0
          by_cases hp0 : (pushE E ca ra (i, i, le)).1 = 0
          · have d0 : (((pushE E ca ra (i, i, le)).1 : Int) == 0) = true := by simp; omega
            have hin := pushE_in hp0
            rw [if_pos hp0] at hkp6
            have HKP6 := Lib.hid hkp6
            have hn2 := HOK.out.n2
            have e1 : IntKind.i64.wrap (ca + 1) = (((ca + 1).toNat : Nat) : Int) := by rw [IntKind.wrap_i64]; omega
            generalize (ca + 1).toNat = cn at *
            clear hp0 hkp6 hin hn2
            go_wp2_with fail
            refine wp_region_held_drew (S := fun w' => w'.cell? ⟨xb, 0, none⟩ = some (.int .u8 kd) ∧ w'.cell? ⟨xb, 1, none⟩ = some (.int .i64 ca) ∧ w'.cell? ⟨xb, 2, none⟩ = some (.int .u64 ra) ∧ w'.cell? ⟨xb, 3, none⟩ = some (.int .u64 le) ∧ w'.cell? ⟨xb, 4, none⟩ = some (.int .u64 ti)) (by kernel_rfl) ⟨j0, j1, j2, j3, j4⟩ (fun hHeld => ?_)
            refine wpAnyH_take (i := 0) (v := ?_) (by simp only [List.getElem?_toArray, List.getElem?_cons_zero, List.getElem?_cons_succ]; rfl) (by kernel_rfl) (by kernel_rfl) (by kernel_rfl) (by intro _ _ _ h; exact h) (Or.inl ⟨by rfl, ?_⟩) (by assumption) ?_
            rotate_left 1
            · intro w hSw; (try dsimp only at hSw); go_simp; try with_reducible rfl
            try simp only [Act.put, List.setIfInBounds_toArray, List.set_cons_zero, List.set_cons_succ]
            refine wpAnyH_take (i := 1) (v := ?_) (by simp only [List.getElem?_toArray, List.getElem?_cons_zero, List.getElem?_cons_succ]; rfl) (by kernel_rfl) (by kernel_rfl) (by kernel_rfl) (by intro _ _ _ h; exact h) (Or.inl ⟨by rfl, ?_⟩) (by assumption) ?_
            rotate_left 1
            · intro w hSw; (try dsimp only at hSw); go_simp; try with_reducible rfl
            try simp only [Act.put, List.setIfInBounds_toArray, List.set_cons_zero, List.set_cons_succ]
            refine wpAnyH_take (i := 2) (v := ?_) (by simp only [List.getElem?_toArray, List.getElem?_cons_zero, List.getElem?_cons_succ]; rfl) (by kernel_rfl) (by kernel_rfl) (by kernel_rfl) (by intro _ _ _ h; exact h) (Or.inl ⟨by rfl, ?_⟩) (by assumption) ?_
            rotate_left 1
            · intro w hSw; (try dsimp only at hSw); go_simp; try with_reducible rfl
            try simp only [Act.put, List.setIfInBounds_toArray, List.set_cons_zero, List.set_cons_succ]
            refine wpAnyH_take (i := 3) (v := ?_) (by simp only [List.getElem?_toArray, List.getElem?_cons_zero, List.getElem?_cons_succ]; rfl) (by kernel_rfl) (by kernel_rfl) (by kernel_rfl) (by intro _ _ _ h; exact h) (Or.inl ⟨by rfl, ?_⟩) (by assumption) ?_
            rotate_left 1
            · intro w hSw; (try dsimp only at hSw); go_simp; try with_reducible rfl
            try simp only [Act.put, List.setIfInBounds_toArray, List.set_cons_zero, List.set_cons_succ]
            refine wpAnyH_take (i := 4) (v := ?_) (by simp only [List.getElem?_toArray, List.getElem?_cons_zero, List.getElem?_cons_succ]; rfl) (by kernel_rfl) (by kernel_rfl) (by kernel_rfl) (by intro _ _ _ h; exact h) (Or.inl ⟨by rfl, ?_⟩) (by assumption) ?_
            rotate_left 1
            · intro w hSw; (try dsimp only at hSw); go_simp; try with_reducible rfl
            try simp only [Act.put, List.setIfInBounds_toArray, List.set_cons_zero, List.set_cons_succ]
            refine wpAnyH_take (i := 5) (v := ?_) (by simp only [List.getElem?_toArray, List.getElem?_cons_zero, List.getElem?_cons_succ]; rfl) (by kernel_rfl) (by kernel_rfl) (by kernel_rfl) (by intro _ _ _ h; exact h) (Or.inl ⟨by rfl, ?_⟩) (by assumption) ?_
            rotate_left 1
            · intro w hSw; (try dsimp only at hSw); go_simp; try with_reducible rfl
            try simp only [Act.put, List.setIfInBounds_toArray, List.set_cons_zero, List.set_cons_succ]
            refine wpAnyH_take (i := 6) (v := ?_) (by simp only [List.getElem?_toArray, List.getElem?_cons_zero, List.getElem?_cons_succ]; rfl) (by kernel_rfl) (by kernel_rfl) (by kernel_rfl) (by intro _ _ _ h; exact h) (Or.inl ⟨by rfl, ?_⟩) (by assumption) ?_
            rotate_left 1
            · intro w hSw; (try dsimp only at hSw); go_simp; try with_reducible rfl
            try simp only [Act.put, List.setIfInBounds_toArray, List.set_cons_zero, List.set_cons_succ]
            refine wpAnyH_ready (rs := [7]) (by kernel_rfl) (by simp) ?_
            refine AllReadyH.cons (by simp only [List.getElem?_toArray, List.getElem?_cons_zero, List.getElem?_cons_succ]; rfl) (fun K9 hK => ?_) AllReadyH.nil
            go_simp
            refine (packet_any (i := i) hI32 ⟨kd, ca, ra, le, ti⟩).mono ?_
            rintro x w5 ⟨rfl, u5⟩
            have HM5 := Lib.hid ((HM2.out.old (Upd.drew (Upd.refl _ _))).old u5)
            obtain ⟨q0, q1, q2, q3, q4, -⟩ := cells5 (mk_off (l1 := [_]) HM5.out).1
            refine hK.out _ _ (by (try dsimp only); exact ⟨q0, q1, q2, q3, q4⟩) (fun hHeld => ?_)
            clear hK K9 u5 q0 q1 q2 q3 q4
            refine wpAnyH_ready (rs := [8]) (by kernel_rfl) (by simp) ?_
            refine AllReadyH.cons (by simp only [List.getElem?_toArray, List.getElem?_cons_zero, List.getElem?_cons_succ]; rfl) (fun K9 hK => ?_) AllReadyH.nil
            go_simp
            refine (e_push HM5.out HOK.out hi9 ca ra i i le).mono ?_
            rintro x w6 ⟨rfl, hM6⟩
            obtain ⟨q0, q1, q2, q3, q4, -⟩ := cells5 (mk_off (l1 := [_]) hM6).1
            refine hK.out _ _ (by (try dsimp only); exact ⟨q0, q1, q2, q3, q4⟩) (fun hHeld => ?_)
            have HMX := Lib.hid hM6
            have HM6 := Lib.hid (m_drop1 hM6)
            have HOK6 : Hid (OkE (pushE E ca ra (i, i, le)).2 (i + 1)) := Lib.hid (pushE_ok HOK.out hI32 hI32)
            clear hK K9 q0 q1 q2 q3 q4 hM6 HM5 HM2
            refine wpAnyH_take (i := 9) (v := ?_) (by simp only [List.getElem?_toArray, List.getElem?_cons_zero, List.getElem?_cons_succ]; rfl) (by kernel_rfl) (by kernel_rfl) (by kernel_rfl) (by intro _ _ _ h; exact h) (Or.inl ⟨by rfl, ?_⟩) (by assumption) ?_
            rotate_left 1
            · intro w hSw; (try dsimp only at hSw); go_simp; try with_reducible rfl
            try simp only [Act.put, List.setIfInBounds_toArray, List.set_cons_zero, List.set_cons_succ]
            refine wpAnyH_done (by kernel_rfl) ?_ _
            obtain ⟨z0, z1⟩ := r_at [_, _] _ HM6.out (nums_at HC0.out)
            obtain ⟨j0, j1, j2, j3, j4, -⟩ := cells5 (mk_off (l1 := [_]) HMX.out).1
            go_wp2_with fail
            go_meet
            exact ⟨_, _, _, by rw [← nums_set]; exact r_set [_, _] _ HM6.out i _, HOK6.out, HCF6.out, HKP6.out⟩
          · have d0 : (((pushE E ca ra (i, i, le)).1 : Int) == 0) = false := by simp; omega
            rw [if_neg hp0] at hkp6
            have HKP6 := Lib.hid hkp6
            clear hp0 hkp6
            go_wp2_with fail
            refine wp_region_held_drew (S := fun w' => w'.cell? ⟨xb, 0, none⟩ = some (.int .u8 kd) ∧ w'.cell? ⟨xb, 1, none⟩ = some (.int .i64 ca) ∧ w'.cell? ⟨xb, 2, none⟩ = some (.int .u64 ra) ∧ w'.cell? ⟨xb, 3, none⟩ = some (.int .u64 le) ∧ w'.cell? ⟨xb, 4, none⟩ = some (.int .u64 ti)) (by kernel_rfl) ⟨j0, j1, j2, j3, j4⟩ (fun hHeld => ?_)
            refine wpAnyH_take (i := 0) (v := ?_) (by simp only [List.getElem?_toArray, List.getElem?_cons_zero, List.getElem?_cons_succ]; rfl) (by kernel_rfl) (by kernel_rfl) (by kernel_rfl) (by intro _ _ _ h; exact h) (Or.inl ⟨by rfl, ?_⟩) (by assumption) ?_
            rotate_left 1
            · intro w hSw; (try dsimp only at hSw); go_simp; try with_reducible rfl
            try simp only [Act.put, List.setIfInBounds_toArray, List.set_cons_zero, List.set_cons_succ]
            refine wpAnyH_take (i := 1) (v := ?_) (by simp only [List.getElem?_toArray, List.getElem?_cons_zero, List.getElem?_cons_succ]; rfl) (by kernel_rfl) (by kernel_rfl) (by kernel_rfl) (by intro _ _ _ h; exact h) (Or.inl ⟨by rfl, ?_⟩) (by assumption) ?_
            rotate_left 1
            · intro w hSw; (try dsimp only at hSw); go_simp; try with_reducible rfl
            try simp only [Act.put, List.setIfInBounds_toArray, List.set_cons_zero, List.set_cons_succ]
            refine wpAnyH_take (i := 2) (v := ?_) (by simp only [List.getElem?_toArray, List.getElem?_cons_zero, List.getElem?_cons_succ]; rfl) (by kernel_rfl) (by kernel_rfl) (by kernel_rfl) (by intro _ _ _ h; exact h) (Or.inl ⟨by rfl, ?_⟩) (by assumption) ?_
            rotate_left 1
            · intro w hSw; (try dsimp only at hSw); go_simp; try with_reducible rfl
            try simp only [Act.put, List.setIfInBounds_toArray, List.set_cons_zero, List.set_cons_succ]
            refine wpAnyH_take (i := 3) (v := ?_) (by simp only [List.getElem?_toArray, List.getElem?_cons_zero, List.getElem?_cons_succ]; rfl) (by kernel_rfl) (by kernel_rfl) (by kernel_rfl) (by intro _ _ _ h; exact h) (Or.inl ⟨by rfl, ?_⟩) (by assumption) ?_
            rotate_left 1
            · intro w hSw; (try dsimp only at hSw); go_simp; try with_reducible rfl
            try simp only [Act.put, List.setIfInBounds_toArray, List.set_cons_zero, List.set_cons_succ]
            refine wpAnyH_take (i := 4) (v := ?_) (by simp only [List.getElem?_toArray, List.getElem?_cons_zero, List.getElem?_cons_succ]; rfl) (by kernel_rfl) (by kernel_rfl) (by kernel_rfl) (by intro _ _ _ h; exact h) (Or.inl ⟨by rfl, ?_⟩) (by assumption) ?_
            rotate_left 1
            · intro w hSw; (try dsimp only at hSw); go_simp; try with_reducible rfl
            try simp only [Act.put, List.setIfInBounds_toArray, List.set_cons_zero, List.set_cons_succ]
            refine wpAnyH_take (i := 5) (v := ?_) (by simp only [List.getElem?_toArray, List.getElem?_cons_zero, List.getElem?_cons_succ]; rfl) (by kernel_rfl) (by kernel_rfl) (by kernel_rfl) (by intro _ _ _ h; exact h) (Or.inl ⟨by rfl, ?_⟩) (by assumption) ?_
            rotate_left 1
            · intro w hSw; (try dsimp only at hSw); go_simp; try with_reducible rfl
            try simp only [Act.put, List.setIfInBounds_toArray, List.set_cons_zero, List.set_cons_succ]
            refine wpAnyH_take (i := 6) (v := ?_) (by simp only [List.getElem?_toArray, List.getElem?_cons_zero, List.getElem?_cons_succ]; rfl) (by kernel_rfl) (by kernel_rfl) (by kernel_rfl) (by intro _ _ _ h; exact h) (Or.inl ⟨by rfl, ?_⟩) (by assumption) ?_
            rotate_left 1
            · intro w hSw; (try dsimp only at hSw); go_simp; try with_reducible rfl
            try simp only [Act.put, List.setIfInBounds_toArray, List.set_cons_zero, List.set_cons_succ]
            refine wpAnyH_ready (rs := [7]) (by kernel_rfl) (by simp) ?_
            refine AllReadyH.cons (by simp only [List.getElem?_toArray, List.getElem?_cons_zero, List.getElem?_cons_succ]; rfl) (fun K9 hK => ?_) AllReadyH.nil
            go_simp
            refine (packet_any (i := i) hI32 ⟨kd, ca, ra, le, ti⟩).mono ?_
            rintro x w5 ⟨rfl, u5⟩
            have HM5 := Lib.hid ((HM2.out.old (Upd.drew (Upd.refl _ _))).old u5)
            obtain ⟨q0, q1, q2, q3, q4, -⟩ := cells5 (mk_off (l1 := [_]) HM5.out).1
            refine hK.out _ _ (by (try dsimp only); exact ⟨q0, q1, q2, q3, q4⟩) (fun hHeld => ?_)
            clear hK K9 u5 q0 q1 q2 q3 q4
            refine wpAnyH_ready (rs := [8]) (by kernel_rfl) (by simp) ?_
            refine AllReadyH.cons (by simp only [List.getElem?_toArray, List.getElem?_cons_zero, List.getElem?_cons_succ]; rfl) (fun K9 hK => ?_) AllReadyH.nil
            go_simp
            refine (e_push HM5.out HOK.out hi9 ca ra i i le).mono ?_
            rintro x w6 ⟨rfl, hM6⟩
            obtain ⟨q0, q1, q2, q3, q4, -⟩ := cells5 (mk_off (l1 := [_]) hM6).1
            refine hK.out _ _ (by (try dsimp only); exact ⟨q0, q1, q2, q3, q4⟩) (fun hHeld => ?_)
            have HMX := Lib.hid hM6
            have HM6 := Lib.hid (m_drop1 hM6)
            have HOK6 : Hid (OkE (pushE E ca ra (i, i, le)).2 (i + 1)) := Lib.hid (pushE_ok HOK.out hI32 hI32)
            clear hK K9 q0 q1 q2 q3 q4 hM6 HM5 HM2
            refine wpAnyH_take (i := 9) (v := ?_) (by simp only [List.getElem?_toArray, List.getElem?_cons_zero, List.getElem?_cons_succ]; rfl) (by kernel_rfl) (by kernel_rfl) (by kernel_rfl) (by intro _ _ _ h; exact h) (Or.inl ⟨by rfl, ?_⟩) (by assumption) ?_
            rotate_left 1
            · intro w hSw; (try dsimp only at hSw); go_simp; try with_reducible rfl
            try simp only [Act.put, List.setIfInBounds_toArray, List.set_cons_zero, List.set_cons_succ]
            refine wpAnyH_done (by kernel_rfl) ?_ _
            clear HMX
            go_wp2_with fail
            go_meet
            exact ⟨_, _, _, HM6.out, HOK6.out, HCF6.out, HKP6.out⟩
        · as_aux_lemma =>
          have eK4 : (kd : Int) % 4 = 2 := eK
          clear eK hr4
          have hnx := e_next HM2.out HOK.out hi9
          have hok6 : OkE (nextE E).2 (i + 1) := (nextE_ok HOK.out).more (Nat.le_succ _)
          have hcf6 := (nextE_cfs E).trans HCS.out
          have hkp0 := fun h0 => HKP.out.none (E := E) h0
          have hkp1 := fun h0 => HKP.out.next (E := E) h0
          have hkl : (nextE E).1.2.2 = 0 → ∃ cf, cs[(nextE E).1.1]? = some cf ∧ (cfs E)[(nextE E).1.1]? = some cf := fun h0 => by
            obtain ⟨_, cf, _, _, hq, _⟩ := nextE_who h0
            exact ⟨cf, by rw [← HCS.out]; exact cfs_at hq, cfs_at hq⟩
          obtain ⟨⟨kk, ⟨x0, x1, x2⟩, r⟩, hR⟩ : ∃ R, (nextE E).1 = R := ⟨_, rfl⟩
          obtain ⟨E2, hE2⟩ : ∃ E2, (nextE E).2 = E2 := ⟨_, rfl⟩
          rw [hR, hE2] at hnx
          rw [hE2] at hok6 hcf6
          simp only [hR, hE2] at hkp0 hkp1 hkl
          have HNX := Lib.hid hnx
          have HOK6 := Lib.hid hok6
          have HCF6 := Lib.hid hcf6
          clear hnx hok6 hcf6 hR hE2
          dsimp only at HNX
          by_cases hr0 : r = 0
          · obtain ⟨cf, hcf, hcf'⟩ := hkl hr0
            obtain ⟨a1, a2, a3, a4, a5⟩ := hkp1 hr0
            have hkkn : kk < n := by
              rcases Nat.lt_or_ge kk n with h' | h'
              · exact h'
              · rw [List.getElem?_eq_none (by rw [HNN.out]; exact h')] at hcf; cases hcf
            obtain ⟨y, hy⟩ : ∃ y, last[kk]? = some y := ⟨last[kk]'(by rw [HKP.out.ll, ← cfs_len, HCS.out, HNN.out]; exact hkkn), by simp⟩
            have hay := fun hp => a4 cf y hcf' hp hy
            obtain ⟨⟨kd2, ca2, ra2, le2, ti2⟩, hx2⟩ : ∃ a, l[x1]? = some a := ⟨l[x1]'(by have := HKK.out; omega), by simp⟩
            have hle : le2 = x2 := by
              rw [List.getElem?_map, hx2] at a3
              injection a3
            have HKP6 := Lib.hid a5
            have HA2 := Lib.hid a2
            have HY := Lib.hid hy
            have HX2 := Lib.hid hx2
            have HLE := Lib.hid hle
            have HCFQ := Lib.hid hcf
            clear hkp0 hkp1 hkl hcf hcf' a2 a3 a4 a5 hy hx2 hle
            subst hr0
            go_wp2_with fail
            refine (HNX.out).mono ?_
            rintro x w6 ⟨rfl, hM6⟩
            go_upto_region 19 with fail
            have H7 := Lib.hid ((m_box hM6 #[.int .u32 x0, .int .u32 x1, .int .u64 x2] TP).perm (List.Perm.swap _ _ _))
            clear hM6 HNX HM2 j0 j1 j2 j3 j4
            generalize w6.alloc (.cells #[.int .u32 x0, .int .u32 x1, .int .u64 x2] TP) = w7 at *
            generalize w6.heap.size = PB at *
            obtain ⟨ga', oa', hga, r0, r1, r2, r3, r4⟩ := HA.out.get H7.out.upd HX2.out
            cases hga
            dsimp only at r3
            rw [HLE.out] at r3
            obtain ⟨g, o, rfl, -, m1, -⟩ := (HCA.out.old H7.out.upd).cells HCFQ.out
            obtain ⟨p0, p1, p2, -⟩ := cells3 (mk_off (l1 := [_]) H7.out).1
            obtain ⟨b0, b1, b2, -⟩ := cells3 (mk_off (l1 := [_, _, _, _, _]) H7.out).1
            obtain ⟨y0, y1⟩ := r_at [_, _, _] _ H7.out (nums_at HY.out)
            obtain ⟨z0, z1⟩ := r_at [_, _, _, _] _ H7.out (nums_at HA2.out)
            obtain ⟨k1, hk1⟩ : ∃ k1, kk + 1 = k1 := ⟨_, rfl⟩
            rw [hk1] at z0
            have e1 : IntKind.i64.wrap ((kk : Int) + 1) = (k1 : Int) := by rw [IntKind.wrap_i64]; omega
            have e2 : IntKind.i64.wrap (x1 : Int) = (x1 : Int) := by rw [IntKind.wrap_i64]; omega
            have d1 : decide ((x1 : Int) ≥ (i : Int)) = false := decide_eq_false (by omega)
            have d2 : decide (i ≤ x1) = false := decide_eq_false (by omega)
            have hx1K : (x1 : Int) < (K : Int) := by omega
            have hkk' : (kk : Int) < (n : Int) := by omega
            obtain ⟨po, hpo⟩ : ∃ po, cf.policy = po := ⟨_, rfl⟩
            rw [hpo] at m1
            clear r0 r1 r2 r4 b1 b2 hk1
            go_upto_region 21 with fail
            have hst : Hid (∀ w8 : World, Upd Nowhere w7 w8 → Made W w8 (egC e E2 :: blkC PB #[.int .u32 x0, .int .u32 x1, .int .u64 x2] TP :: blkC xb (actA ⟨kd, ca, ra, le, ti⟩) TAc :: rowC1 TInt GL n (nums last) :: rowC1 TInt GC K (nums came) :: [blkC BX #[.slice (some ⟨g, o, none⟩) n cc, .slice ap m cp, .int .u64 pace] TRc])) := Lib.hid (fun w8 hu => H7.out.old hu)
            have hne : ¬ GL = GC := r_ne H7.out.drop.drop
            have hne2 : ¬ GC = GL := fun h => hne h.symm
            have HPO := Lib.hid hpo
            by_cases hp : po = 4
            · have d3 : (po != 4) = false := by simp [hp]
              clear hp hpo hay H7
              refine wp_region_held_drew (S := fun w' => w'.cell? ⟨GC, x1, none⟩ = some (.int .i64 k1) ∧ w'.cell? ⟨PB, 2, none⟩ = some (.int .u64 x2) ∧ w'.cell? ⟨ga, oa + x1 * 5 + 3, none⟩ = some (.int .u64 x2) ∧ w'.cell? ⟨BX, 0, none⟩ = some (.slice (some ⟨g, o, none⟩) n cc) ∧ w'.cell? ⟨g, o + kk * 16 + 1, none⟩ = some (.int .i64 po) ∧ w'.cell? ⟨GL, kk, none⟩ = some (.int .i64 y)) (by kernel_rfl) (six_old ⟨z0, p2, r3, b0, m1, y0⟩ ((Upd.refl _ _).drew)) (fun hHeld => ?_)
              refine wpAnyH_take (i := 0) (v := ?_) (by simp only [List.getElem?_toArray, List.getElem?_cons_zero, List.getElem?_cons_succ]; rfl) (by kernel_rfl) (by kernel_rfl) (by kernel_rfl) (by intro _ _ _ h; exact h) (Or.inl ⟨by rfl, ?_⟩) (by assumption) ?_
              rotate_left 1
              · intro w hSw; (try dsimp only at hSw); go_simp; try with_reducible rfl
              try simp only [Act.put, List.setIfInBounds_toArray, List.set_cons_zero, List.set_cons_succ]
              refine wpAnyH_take (i := 1) (v := ?_) (by simp only [List.getElem?_toArray, List.getElem?_cons_zero, List.getElem?_cons_succ]; rfl) (by kernel_rfl) (by kernel_rfl) (by kernel_rfl) (by intro _ _ _ h; exact h) (Or.inl ⟨by rfl, ?_⟩) (by assumption) ?_
              rotate_left 1
              · intro w hSw; (try dsimp only at hSw); go_simp; try with_reducible rfl
              try simp only [Act.put, List.setIfInBounds_toArray, List.set_cons_zero, List.set_cons_succ]
              refine wpAnyH_take (i := 2) (v := ?_) (by simp only [List.getElem?_toArray, List.getElem?_cons_zero, List.getElem?_cons_succ]; rfl) (by kernel_rfl) (by kernel_rfl) (by kernel_rfl) (by intro _ _ _ h; exact h) (Or.inl ⟨by rfl, ?_⟩) (by assumption) ?_
              rotate_left 1
              · intro w hSw; (try dsimp only at hSw); go_simp; try with_reducible rfl
              try simp only [Act.put, List.setIfInBounds_toArray, List.set_cons_zero, List.set_cons_succ]
              refine wpAnyH_take (i := 3) (v := ?_) (by simp only [List.getElem?_toArray, List.getElem?_cons_zero, List.getElem?_cons_succ]; rfl) (by kernel_rfl) (by kernel_rfl) (by kernel_rfl) (by intro _ _ _ h; exact h) (Or.inl ⟨by rfl, ?_⟩) (by assumption) ?_
              rotate_left 1
              · intro w hSw; (try dsimp only at hSw); go_simp; try with_reducible rfl
              try simp only [Act.put, List.setIfInBounds_toArray, List.set_cons_zero, List.set_cons_succ]
              refine wpAnyH_take (i := 4) (v := ?_) (by simp only [List.getElem?_toArray, List.getElem?_cons_zero, List.getElem?_cons_succ]; rfl) (by kernel_rfl) (by kernel_rfl) (by kernel_rfl) (by intro _ _ _ h; exact h) (Or.inl ⟨by rfl, ?_⟩) (by assumption) ?_
              rotate_left 1
              · intro w hSw; (try dsimp only at hSw); go_simp; try with_reducible rfl
              try simp only [Act.put, List.setIfInBounds_toArray, List.set_cons_zero, List.set_cons_succ]
              refine wpAnyH_take (i := 5) (v := ?_) (by simp only [List.getElem?_toArray, List.getElem?_cons_zero, List.getElem?_cons_succ]; rfl) (by kernel_rfl) (by kernel_rfl) (by kernel_rfl) (by intro _ _ _ h; exact h) (Or.inl ⟨by rfl, ?_⟩) (by assumption) ?_
              rotate_left 1
              · intro w hSw; (try dsimp only at hSw); go_simp; try with_reducible rfl
              try simp only [Act.put, List.setIfInBounds_toArray, List.set_cons_zero, List.set_cons_succ]
              refine wpAnyH_take (i := 6) (v := ?_) (by simp only [List.getElem?_toArray, List.getElem?_cons_zero, List.getElem?_cons_succ]; rfl) (by kernel_rfl) (by kernel_rfl) (by kernel_rfl) (by intro _ _ _ h; exact h) (Or.inl ⟨by rfl, ?_⟩) (by assumption) ?_
              rotate_left 1
              · intro w hSw; (try dsimp only at hSw); go_simp; try with_reducible rfl
              try simp only [Act.put, List.setIfInBounds_toArray, List.set_cons_zero, List.set_cons_succ]
              refine wpAnyH_take (i := 7) (v := ?_) (by simp only [List.getElem?_toArray, List.getElem?_cons_zero, List.getElem?_cons_succ]; rfl) (by kernel_rfl) (by kernel_rfl) (by kernel_rfl) (by intro _ _ _ h; exact h) (Or.inl ⟨by rfl, ?_⟩) (by assumption) ?_
              rotate_left 1
              · intro w hSw; (try dsimp only at hSw); go_simp; try with_reducible rfl
              try simp only [Act.put, List.setIfInBounds_toArray, List.set_cons_zero, List.set_cons_succ]
              refine wpAnyH_take (i := 8) (v := ?_) (by simp only [List.getElem?_toArray, List.getElem?_cons_zero, List.getElem?_cons_succ]; rfl) (by kernel_rfl) (by kernel_rfl) (by kernel_rfl) (by intro _ _ _ h; exact h) (Or.inl ⟨by rfl, ?_⟩) (by assumption) ?_
              rotate_left 1
              · intro w hSw; (try dsimp only at hSw); go_simp; try with_reducible rfl
              try simp only [Act.put, List.setIfInBounds_toArray, List.set_cons_zero, List.set_cons_succ]
              refine wpAnyH_take (i := 9) (v := ?_) (by simp only [List.getElem?_toArray, List.getElem?_cons_zero, List.getElem?_cons_succ]; rfl) (by kernel_rfl) (by kernel_rfl) (by kernel_rfl) (by intro _ _ _ h; exact h) (Or.inl ⟨by rfl, ?_⟩) (by assumption) ?_
              rotate_left 1
              · intro w hSw; (try dsimp only at hSw); go_simp; try with_reducible rfl
              try simp only [Act.put, List.setIfInBounds_toArray, List.set_cons_zero, List.set_cons_succ]
              refine wpAnyH_take (i := 10) (v := ?_) (by simp only [List.getElem?_toArray, List.getElem?_cons_zero, List.getElem?_cons_succ]; rfl) (by kernel_rfl) (by kernel_rfl) (by kernel_rfl) (by intro _ _ _ h; exact h) (Or.inl ⟨by rfl, ?_⟩) (by assumption) ?_
              rotate_left 1
              · intro w hSw; (try dsimp only at hSw); go_simp; try with_reducible rfl
              try simp only [Act.put, List.setIfInBounds_toArray, List.set_cons_zero, List.set_cons_succ]
              refine wpAnyH_take (i := 11) (v := ?_) (by simp only [List.getElem?_toArray, List.getElem?_cons_zero, List.getElem?_cons_succ]; rfl) (by kernel_rfl) (by kernel_rfl) (by kernel_rfl) (by intro _ _ _ h; exact h) (Or.inl ⟨by rfl, ?_⟩) (by assumption) ?_
              rotate_left 1
              · intro w hSw; (try dsimp only at hSw); go_simp; try with_reducible rfl
              try simp only [Act.put, List.setIfInBounds_toArray, List.set_cons_zero, List.set_cons_succ]
              refine wpAnyH_take (i := 12) (v := ?_) (by simp only [List.getElem?_toArray, List.getElem?_cons_zero, List.getElem?_cons_succ]; rfl) (by kernel_rfl) (by kernel_rfl) (by kernel_rfl) (by intro _ _ _ h; exact h) (Or.inl ⟨by rfl, ?_⟩) (by assumption) ?_
              rotate_left 1
              · intro w hSw; (try dsimp only at hSw); go_simp; try with_reducible rfl
              try simp only [Act.put, List.setIfInBounds_toArray, List.set_cons_zero, List.set_cons_succ]
              refine wpAnyH_take (i := 13) (v := ?_) (by simp only [List.getElem?_toArray, List.getElem?_cons_zero, List.getElem?_cons_succ]; rfl) (by kernel_rfl) (by kernel_rfl) (by kernel_rfl) (by intro _ _ _ h; exact h) (Or.inl ⟨by rfl, ?_⟩) (by assumption) ?_
              rotate_left 1
              · intro w hSw; (try dsimp only at hSw); go_simp; try with_reducible rfl
              try simp only [Act.put, List.setIfInBounds_toArray, List.set_cons_zero, List.set_cons_succ]
              refine wpAnyH_take (i := 14) (v := ?_) (by simp only [List.getElem?_toArray, List.getElem?_cons_zero, List.getElem?_cons_succ]; rfl) (by kernel_rfl) (by kernel_rfl) (by kernel_rfl) (by intro _ _ _ h; exact h) (Or.inl ⟨by rfl, ?_⟩) (by assumption) ?_
              rotate_left 1
              · intro w hSw; (try dsimp only at hSw); go_simp; try with_reducible rfl
              try simp only [Act.put, List.setIfInBounds_toArray, List.set_cons_zero, List.set_cons_succ]
              refine wpAnyH_take (i := 15) (v := ?_) (by simp only [List.getElem?_toArray, List.getElem?_cons_zero, List.getElem?_cons_succ]; rfl) (by kernel_rfl) (by kernel_rfl) (by kernel_rfl) (by intro _ _ _ h; exact h) (Or.inl ⟨by rfl, ?_⟩) (by assumption) ?_
              rotate_left 1
              · intro w hSw; (try dsimp only at hSw); go_simp; try with_reducible rfl
              try simp only [Act.put, List.setIfInBounds_toArray, List.set_cons_zero, List.set_cons_succ]
              refine wpAnyH_take (i := 16) (v := ?_) (by simp only [List.getElem?_toArray, List.getElem?_cons_zero, List.getElem?_cons_succ]; rfl) (by kernel_rfl) (by kernel_rfl) (by kernel_rfl) (by intro _ _ _ h; exact h) (Or.inl ⟨by rfl, ?_⟩) (by assumption) ?_
              rotate_left 1
              · intro w hSw; (try dsimp only at hSw); go_simp; try with_reducible rfl
              try simp only [Act.put, List.setIfInBounds_toArray, List.set_cons_zero, List.set_cons_succ]
              refine wpAnyH_take (i := 17) (v := ?_) (by simp only [List.getElem?_toArray, List.getElem?_cons_zero, List.getElem?_cons_succ]; rfl) (by kernel_rfl) (by kernel_rfl) (by kernel_rfl) (by intro _ _ _ h; exact h) (Or.inl ⟨by rfl, ?_⟩) (by assumption) ?_
              rotate_left 1
              · intro w hSw; (try dsimp only at hSw); go_simp; try with_reducible rfl
              try simp only [Act.put, List.setIfInBounds_toArray, List.set_cons_zero, List.set_cons_succ]
              refine wpAnyH_take (i := 18) (v := ?_) (by simp only [List.getElem?_toArray, List.getElem?_cons_zero, List.getElem?_cons_succ]; rfl) (by kernel_rfl) (by kernel_rfl) (by kernel_rfl) (by intro _ _ _ h; exact h) (Or.inl ⟨by rfl, ?_⟩) (by assumption) ?_
              rotate_left 1
              · intro w hSw; (try dsimp only at hSw); go_simp; try with_reducible rfl
              try simp only [Act.put, List.setIfInBounds_toArray, List.set_cons_zero, List.set_cons_succ]
              refine wpAnyH_take (i := 19) (v := ?_) (by simp only [List.getElem?_toArray, List.getElem?_cons_zero, List.getElem?_cons_succ]; rfl) (by kernel_rfl) (by kernel_rfl) (by kernel_rfl) (by intro _ _ _ h; exact h) (Or.inl ⟨by rfl, ?_⟩) (by assumption) ?_
              rotate_left 1
              · intro w hSw; (try dsimp only at hSw); go_simp; try with_reducible rfl
              try simp only [Act.put, List.setIfInBounds_toArray, List.set_cons_zero, List.set_cons_succ]
              refine wpAnyH_take (i := 20) (v := ?_) (by simp only [List.getElem?_toArray, List.getElem?_cons_zero, List.getElem?_cons_succ]; rfl) (by kernel_rfl) (by kernel_rfl) (by kernel_rfl) (by intro _ _ _ h; exact h) (Or.inl ⟨by rfl, ?_⟩) (by assumption) ?_
              rotate_left 1
              · intro w hSw; (try dsimp only at hSw); go_simp; try with_reducible rfl
              try simp only [Act.put, List.setIfInBounds_toArray, List.set_cons_zero, List.set_cons_succ]
              refine wpAnyH_take (i := 21) (v := ?_) (by simp only [List.getElem?_toArray, List.getElem?_cons_zero, List.getElem?_cons_succ]; rfl) (by kernel_rfl) (by kernel_rfl) (by kernel_rfl) (by intro _ _ _ h; exact h) (Or.inl ⟨by rfl, ?_⟩) (by assumption) ?_
              rotate_left 1
              · intro w hSw; (try dsimp only at hSw); go_simp; try with_reducible rfl
              try simp only [Act.put, List.setIfInBounds_toArray, List.set_cons_zero, List.set_cons_succ]
              refine wpAnyH_take (i := 22) (v := ?_) (by simp only [List.getElem?_toArray, List.getElem?_cons_zero, List.getElem?_cons_succ]; rfl) (by kernel_rfl) (by kernel_rfl) (by kernel_rfl) (by intro _ _ _ h; exact h) (Or.inl ⟨by rfl, ?_⟩) (by assumption) ?_
              rotate_left 1
              · intro w hSw; (try dsimp only at hSw); go_simp; try with_reducible rfl
              try simp only [Act.put, List.setIfInBounds_toArray, List.set_cons_zero, List.set_cons_succ]
              refine wpAnyH_take (i := 23) (v := ?_) (by simp only [List.getElem?_toArray, List.getElem?_cons_zero, List.getElem?_cons_succ]; rfl) (by kernel_rfl) (by kernel_rfl) (by kernel_rfl) (by intro _ _ _ h; exact h) (Or.inl ⟨by rfl, ?_⟩) (by assumption) ?_
              rotate_left 1
              · intro w hSw; (try dsimp only at hSw); go_simp; try with_reducible rfl
              try simp only [Act.put, List.setIfInBounds_toArray, List.set_cons_zero, List.set_cons_succ]
              refine wpAnyH_take (i := 24) (v := ?_) (by simp only [List.getElem?_toArray, List.getElem?_cons_zero, List.getElem?_cons_succ]; rfl) (by kernel_rfl) (by kernel_rfl) (by kernel_rfl) (by intro _ _ _ h; exact h) (Or.inl ⟨by rfl, ?_⟩) (by assumption) ?_
              rotate_left 1
              · intro w hSw; (try dsimp only at hSw); go_simp; try with_reducible rfl
              try simp only [Act.put, List.setIfInBounds_toArray, List.set_cons_zero, List.set_cons_succ]
              refine wpAnyH_take (i := 25) (v := ?_) (by simp only [List.getElem?_toArray, List.getElem?_cons_zero, List.getElem?_cons_succ]; rfl) (by kernel_rfl) (by kernel_rfl) (by kernel_rfl) (by intro _ _ _ h; exact h) (Or.inl ⟨by rfl, ?_⟩) (by assumption) ?_
              rotate_left 1
              · intro w hSw; (try dsimp only at hSw); go_simp; try with_reducible rfl
              try simp only [Act.put, List.setIfInBounds_toArray, List.set_cons_zero, List.set_cons_succ]
              refine wpAnyH_take (i := 26) (v := ?_) (by simp only [List.getElem?_toArray, List.getElem?_cons_zero, List.getElem?_cons_succ]; rfl) (by kernel_rfl) (by kernel_rfl) (by kernel_rfl) (by intro _ _ _ h; exact h) (Or.inl ⟨by rfl, ?_⟩) (by assumption) ?_
              rotate_left 1
              · intro w hSw; (try dsimp only at hSw); go_simp; try with_reducible rfl
              try simp only [Act.put, List.setIfInBounds_toArray, List.set_cons_zero, List.set_cons_succ]
              refine wpAnyH_take (i := 27) (v := ?_) (by simp only [List.getElem?_toArray, List.getElem?_cons_zero, List.getElem?_cons_succ]; rfl) (by kernel_rfl) (by kernel_rfl) (by kernel_rfl) (by intro _ _ _ h; exact h) (Or.inl ⟨by rfl, ?_⟩) (by assumption) ?_
              rotate_left 1
              · intro w hSw; (try dsimp only at hSw); go_simp; try with_reducible rfl
              try simp only [Act.put, List.setIfInBounds_toArray, List.set_cons_zero, List.set_cons_succ]
              refine wpAnyH_take (i := 28) (v := ?_) (by simp only [List.getElem?_toArray, List.getElem?_cons_zero, List.getElem?_cons_succ]; rfl) (by kernel_rfl) (by kernel_rfl) (by kernel_rfl) (by intro _ _ _ h; exact h) (Or.inl ⟨by rfl, ?_⟩) (by assumption) ?_
              rotate_left 1
              · intro w hSw; (try dsimp only at hSw); go_simp; try with_reducible rfl
              try simp only [Act.put, List.setIfInBounds_toArray, List.set_cons_zero, List.set_cons_succ]
              refine wpAnyH_take (i := 29) (v := ?_) (by simp only [List.getElem?_toArray, List.getElem?_cons_zero, List.getElem?_cons_succ]; rfl) (by kernel_rfl) (by kernel_rfl) (by kernel_rfl) (by intro _ _ _ h; exact h) (Or.inl ⟨by rfl, ?_⟩) (by assumption) ?_
              rotate_left 1
              · intro w hSw; (try dsimp only at hSw); go_simp; try with_reducible rfl
              try simp only [Act.put, List.setIfInBounds_toArray, List.set_cons_zero, List.set_cons_succ]
              refine wpAnyH_take (i := 30) (v := ?_) (by simp only [List.getElem?_toArray, List.getElem?_cons_zero, List.getElem?_cons_succ]; rfl) (by kernel_rfl) (by kernel_rfl) (by kernel_rfl) (by intro _ _ _ h; exact h) (Or.inl ⟨by rfl, ?_⟩) (by assumption) ?_
              rotate_left 1
              · intro w hSw; (try dsimp only at hSw); go_simp; try with_reducible rfl
              try simp only [Act.put, List.setIfInBounds_toArray, List.set_cons_zero, List.set_cons_succ]
              refine wpAnyH_take (i := 31) (v := undef) (by simp only [List.getElem?_toArray, List.getElem?_cons_zero, List.getElem?_cons_succ]; rfl) (by kernel_rfl) (by kernel_rfl) (by kernel_rfl) (by intro _ _ _ h; exact h) (Or.inr ⟨by rfl, rfl⟩) (by assumption) ?_
              try simp only [Act.put, List.setIfInBounds_toArray, List.set_cons_zero, List.set_cons_succ]
              refine wpAnyH_take (i := 32) (v := undef) (by simp only [List.getElem?_toArray, List.getElem?_cons_zero, List.getElem?_cons_succ]; rfl) (by kernel_rfl) (by kernel_rfl) (by kernel_rfl) (by intro _ _ _ h; exact h) (Or.inr ⟨by rfl, rfl⟩) (by assumption) ?_
              try simp only [Act.put, List.setIfInBounds_toArray, List.set_cons_zero, List.set_cons_succ]
              refine wpAnyH_take (i := 33) (v := undef) (by simp only [List.getElem?_toArray, List.getElem?_cons_zero, List.getElem?_cons_succ]; rfl) (by kernel_rfl) (by kernel_rfl) (by kernel_rfl) (by intro _ _ _ h; exact h) (Or.inr ⟨by rfl, rfl⟩) (by assumption) ?_
              try simp only [Act.put, List.setIfInBounds_toArray, List.set_cons_zero, List.set_cons_succ]
              refine wpAnyH_take (i := 34) (v := undef) (by simp only [List.getElem?_toArray, List.getElem?_cons_zero, List.getElem?_cons_succ]; rfl) (by kernel_rfl) (by kernel_rfl) (by kernel_rfl) (by intro _ _ _ h; exact h) (Or.inr ⟨by rfl, rfl⟩) (by assumption) ?_
              try simp only [Act.put, List.setIfInBounds_toArray, List.set_cons_zero, List.set_cons_succ]
              refine wpAnyH_take (i := 35) (v := undef) (by simp only [List.getElem?_toArray, List.getElem?_cons_zero, List.getElem?_cons_succ]; rfl) (by kernel_rfl) (by kernel_rfl) (by kernel_rfl) (by intro _ _ _ h; exact h) (Or.inr ⟨by rfl, rfl⟩) (by assumption) ?_
              try simp only [Act.put, List.setIfInBounds_toArray, List.set_cons_zero, List.set_cons_succ]
              refine wpAnyH_take (i := 36) (v := undef) (by simp only [List.getElem?_toArray, List.getElem?_cons_zero, List.getElem?_cons_succ]; rfl) (by kernel_rfl) (by kernel_rfl) (by kernel_rfl) (by intro _ _ _ h; exact h) (Or.inr ⟨by rfl, rfl⟩) (by assumption) ?_
              try simp only [Act.put, List.setIfInBounds_toArray, List.set_cons_zero, List.set_cons_succ]
              refine wpAnyH_take (i := 37) (v := ?_) (by simp only [List.getElem?_toArray, List.getElem?_cons_zero, List.getElem?_cons_succ]; rfl) (by kernel_rfl) (by kernel_rfl) (by kernel_rfl) (by intro _ _ _ h; exact h) (Or.inl ⟨by rfl, ?_⟩) (by assumption) ?_
              rotate_left 1
              · intro w hSw; (try dsimp only at hSw); go_simp; try with_reducible rfl
              try simp only [Act.put, List.setIfInBounds_toArray, List.set_cons_zero, List.set_cons_succ]
              refine wpAnyH_take (i := 38) (v := ?_) (by simp only [List.getElem?_toArray, List.getElem?_cons_zero, List.getElem?_cons_succ]; rfl) (by kernel_rfl) (by kernel_rfl) (by kernel_rfl) (by intro _ _ _ h; exact h) (Or.inl ⟨by rfl, ?_⟩) (by assumption) ?_
              rotate_left 1
              · intro w hSw; (try dsimp only at hSw); go_simp; try with_reducible rfl
              try simp only [Act.put, List.setIfInBounds_toArray, List.set_cons_zero, List.set_cons_succ]
              refine wpAnyH_done (by kernel_rfl) ?_ _
              obtain ⟨w8, hw8⟩ : ∃ x, x = w7.drew := ⟨_, rfl⟩
              rw [← hw8]
              have H8 := Lib.hid (hst.out w8 (by rw [hw8]; exact (Upd.refl _ _).drew))
              clear hst hHeld hw8 y0 y1 z0 z1 p0 p1 p2 b0 m1 r3
              obtain ⟨y0, y1⟩ := r_at [_, _, _] _ H8.out (nums_at HY.out)
              obtain ⟨z0, z1⟩ := r_at [_, _, _, _] _ H8.out (nums_at HA2.out)
              go_wp2_with fail
              go_meet
              exact ⟨_, _, _, m_drop1 (m_drop1 (by rw [← nums_set, ← nums_set]; exact r_set [_, _, _] _ (r_set [_, _, _, _] _ H8.out x1 (.int .i64 0)) kk (.int .i64 x1))), HOK6.out, HCF6.out, HKP6.out⟩
            · have d3 : (po != 4) = true := by simp [hp]
              have hyx := hay (by rw [hpo]; exact hp)
              have d4 : decide (x1 < y) = false := decide_eq_false (by omega)
              have d5 : decide ((x1 : Int) < (y : Int)) = false := decide_eq_false (by omega)
              clear hp hpo hay hyx H7
              refine wp_region_held_drew (S := fun w' => w'.cell? ⟨GC, x1, none⟩ = some (.int .i64 k1) ∧ w'.cell? ⟨PB, 2, none⟩ = some (.int .u64 x2) ∧ w'.cell? ⟨ga, oa + x1 * 5 + 3, none⟩ = some (.int .u64 x2) ∧ w'.cell? ⟨BX, 0, none⟩ = some (.slice (some ⟨g, o, none⟩) n cc) ∧ w'.cell? ⟨g, o + kk * 16 + 1, none⟩ = some (.int .i64 po) ∧ w'.cell? ⟨GL, kk, none⟩ = some (.int .i64 y)) (by kernel_rfl) (six_old ⟨z0, p2, r3, b0, m1, y0⟩ ((Upd.refl _ _).drew)) (fun hHeld => ?_)
              refine wpAnyH_take (i := 0) (v := ?_) (by simp only [List.getElem?_toArray, List.getElem?_cons_zero, List.getElem?_cons_succ]; rfl) (by kernel_rfl) (by kernel_rfl) (by kernel_rfl) (by intro _ _ _ h; exact h) (Or.inl ⟨by rfl, ?_⟩) (by assumption) ?_
              rotate_left 1
              · intro w hSw; (try dsimp only at hSw); go_simp; try with_reducible rfl
              try simp only [Act.put, List.setIfInBounds_toArray, List.set_cons_zero, List.set_cons_succ]
              refine wpAnyH_take (i := 1) (v := ?_) (by simp only [List.getElem?_toArray, List.getElem?_cons_zero, List.getElem?_cons_succ]; rfl) (by kernel_rfl) (by kernel_rfl) (by kernel_rfl) (by intro _ _ _ h; exact h) (Or.inl ⟨by rfl, ?_⟩) (by assumption) ?_
              rotate_left 1
              · intro w hSw; (try dsimp only at hSw); go_simp; try with_reducible rfl
              try simp only [Act.put, List.setIfInBounds_toArray, List.set_cons_zero, List.set_cons_succ]
              refine wpAnyH_take (i := 2) (v := ?_) (by simp only [List.getElem?_toArray, List.getElem?_cons_zero, List.getElem?_cons_succ]; rfl) (by kernel_rfl) (by kernel_rfl) (by kernel_rfl) (by intro _ _ _ h; exact h) (Or.inl ⟨by rfl, ?_⟩) (by assumption) ?_
              rotate_left 1
              · intro w hSw; (try dsimp only at hSw); go_simp; try with_reducible rfl
              try simp only [Act.put, List.setIfInBounds_toArray, List.set_cons_zero, List.set_cons_succ]
              refine wpAnyH_take (i := 3) (v := ?_) (by simp only [List.getElem?_toArray, List.getElem?_cons_zero, List.getElem?_cons_succ]; rfl) (by kernel_rfl) (by kernel_rfl) (by kernel_rfl) (by intro _ _ _ h; exact h) (Or.inl ⟨by rfl, ?_⟩) (by assumption) ?_
              rotate_left 1
              · intro w hSw; (try dsimp only at hSw); go_simp; try with_reducible rfl
              try simp only [Act.put, List.setIfInBounds_toArray, List.set_cons_zero, List.set_cons_succ]
              refine wpAnyH_take (i := 4) (v := ?_) (by simp only [List.getElem?_toArray, List.getElem?_cons_zero, List.getElem?_cons_succ]; rfl) (by kernel_rfl) (by kernel_rfl) (by kernel_rfl) (by intro _ _ _ h; exact h) (Or.inl ⟨by rfl, ?_⟩) (by assumption) ?_
              rotate_left 1
              · intro w hSw; (try dsimp only at hSw); go_simp; try with_reducible rfl
              try simp only [Act.put, List.setIfInBounds_toArray, List.set_cons_zero, List.set_cons_succ]
              refine wpAnyH_take (i := 5) (v := ?_) (by simp only [List.getElem?_toArray, List.getElem?_cons_zero, List.getElem?_cons_succ]; rfl) (by kernel_rfl) (by kernel_rfl) (by kernel_rfl) (by intro _ _ _ h; exact h) (Or.inl ⟨by rfl, ?_⟩) (by assumption) ?_
              rotate_left 1
              · intro w hSw; (try dsimp only at hSw); go_simp; try with_reducible rfl
              try simp only [Act.put, List.setIfInBounds_toArray, List.set_cons_zero, List.set_cons_succ]
              refine wpAnyH_take (i := 6) (v := ?_) (by simp only [List.getElem?_toArray, List.getElem?_cons_zero, List.getElem?_cons_succ]; rfl) (by kernel_rfl) (by kernel_rfl) (by kernel_rfl) (by intro _ _ _ h; exact h) (Or.inl ⟨by rfl, ?_⟩) (by assumption) ?_
              rotate_left 1
              · intro w hSw; (try dsimp only at hSw); go_simp; try with_reducible rfl
              try simp only [Act.put, List.setIfInBounds_toArray, List.set_cons_zero, List.set_cons_succ]
              refine wpAnyH_take (i := 7) (v := ?_) (by simp only [List.getElem?_toArray, List.getElem?_cons_zero, List.getElem?_cons_succ]; rfl) (by kernel_rfl) (by kernel_rfl) (by kernel_rfl) (by intro _ _ _ h; exact h) (Or.inl ⟨by rfl, ?_⟩) (by assumption) ?_
              rotate_left 1
              · intro w hSw; (try dsimp only at hSw); go_simp; try with_reducible rfl
              try simp only [Act.put, List.setIfInBounds_toArray, List.set_cons_zero, List.set_cons_succ]
              refine wpAnyH_take (i := 8) (v := ?_) (by simp only [List.getElem?_toArray, List.getElem?_cons_zero, List.getElem?_cons_succ]; rfl) (by kernel_rfl) (by kernel_rfl) (by kernel_rfl) (by intro _ _ _ h; exact h) (Or.inl ⟨by rfl, ?_⟩) (by assumption) ?_
              rotate_left 1
              · intro w hSw; (try dsimp only at hSw); go_simp; try with_reducible rfl
              try simp only [Act.put, List.setIfInBounds_toArray, List.set_cons_zero, List.set_cons_succ]
              refine wpAnyH_take (i := 9) (v := ?_) (by simp only [List.getElem?_toArray, List.getElem?_cons_zero, List.getElem?_cons_succ]; rfl) (by kernel_rfl) (by kernel_rfl) (by kernel_rfl) (by intro _ _ _ h; exact h) (Or.inl ⟨by rfl, ?_⟩) (by assumption) ?_
              rotate_left 1
              · intro w hSw; (try dsimp only at hSw); go_simp; try with_reducible rfl
              try simp only [Act.put, List.setIfInBounds_toArray, List.set_cons_zero, List.set_cons_succ]
              refine wpAnyH_take (i := 10) (v := ?_) (by simp only [List.getElem?_toArray, List.getElem?_cons_zero, List.getElem?_cons_succ]; rfl) (by kernel_rfl) (by kernel_rfl) (by kernel_rfl) (by intro _ _ _ h; exact h) (Or.inl ⟨by rfl, ?_⟩) (by assumption) ?_
              rotate_left 1
              · intro w hSw; (try dsimp only at hSw); go_simp; try with_reducible rfl
              try simp only [Act.put, List.setIfInBounds_toArray, List.set_cons_zero, List.set_cons_succ]
              refine wpAnyH_take (i := 11) (v := ?_) (by simp only [List.getElem?_toArray, List.getElem?_cons_zero, List.getElem?_cons_succ]; rfl) (by kernel_rfl) (by kernel_rfl) (by kernel_rfl) (by intro _ _ _ h; exact h) (Or.inl ⟨by rfl, ?_⟩) (by assumption) ?_
              rotate_left 1
              · intro w hSw; (try dsimp only at hSw); go_simp; try with_reducible rfl
              try simp only [Act.put, List.setIfInBounds_toArray, List.set_cons_zero, List.set_cons_succ]
              refine wpAnyH_take (i := 12) (v := ?_) (by simp only [List.getElem?_toArray, List.getElem?_cons_zero, List.getElem?_cons_succ]; rfl) (by kernel_rfl) (by kernel_rfl) (by kernel_rfl) (by intro _ _ _ h; exact h) (Or.inl ⟨by rfl, ?_⟩) (by assumption) ?_
              rotate_left 1
              · intro w hSw; (try dsimp only at hSw); go_simp; try with_reducible rfl
              try simp only [Act.put, List.setIfInBounds_toArray, List.set_cons_zero, List.set_cons_succ]
              refine wpAnyH_take (i := 13) (v := ?_) (by simp only [List.getElem?_toArray, List.getElem?_cons_zero, List.getElem?_cons_succ]; rfl) (by kernel_rfl) (by kernel_rfl) (by kernel_rfl) (by intro _ _ _ h; exact h) (Or.inl ⟨by rfl, ?_⟩) (by assumption) ?_
              rotate_left 1
              · intro w hSw; (try dsimp only at hSw); go_simp; try with_reducible rfl
              try simp only [Act.put, List.setIfInBounds_toArray, List.set_cons_zero, List.set_cons_succ]
              refine wpAnyH_take (i := 14) (v := ?_) (by simp only [List.getElem?_toArray, List.getElem?_cons_zero, List.getElem?_cons_succ]; rfl) (by kernel_rfl) (by kernel_rfl) (by kernel_rfl) (by intro _ _ _ h; exact h) (Or.inl ⟨by rfl, ?_⟩) (by assumption) ?_
              rotate_left 1
              · intro w hSw; (try dsimp only at hSw); go_simp; try with_reducible rfl
              try simp only [Act.put, List.setIfInBounds_toArray, List.set_cons_zero, List.set_cons_succ]
              refine wpAnyH_take (i := 15) (v := ?_) (by simp only [List.getElem?_toArray, List.getElem?_cons_zero, List.getElem?_cons_succ]; rfl) (by kernel_rfl) (by kernel_rfl) (by kernel_rfl) (by intro _ _ _ h; exact h) (Or.inl ⟨by rfl, ?_⟩) (by assumption) ?_
              rotate_left 1
              · intro w hSw; (try dsimp only at hSw); go_simp; try with_reducible rfl
              try simp only [Act.put, List.setIfInBounds_toArray, List.set_cons_zero, List.set_cons_succ]
              refine wpAnyH_take (i := 16) (v := ?_) (by simp only [List.getElem?_toArray, List.getElem?_cons_zero, List.getElem?_cons_succ]; rfl) (by kernel_rfl) (by kernel_rfl) (by kernel_rfl) (by intro _ _ _ h; exact h) (Or.inl ⟨by rfl, ?_⟩) (by assumption) ?_
              rotate_left 1
              · intro w hSw; (try dsimp only at hSw); go_simp; try with_reducible rfl
              try simp only [Act.put, List.setIfInBounds_toArray, List.set_cons_zero, List.set_cons_succ]
              refine wpAnyH_take (i := 17) (v := ?_) (by simp only [List.getElem?_toArray, List.getElem?_cons_zero, List.getElem?_cons_succ]; rfl) (by kernel_rfl) (by kernel_rfl) (by kernel_rfl) (by intro _ _ _ h; exact h) (Or.inl ⟨by rfl, ?_⟩) (by assumption) ?_
              rotate_left 1
              · intro w hSw; (try dsimp only at hSw); go_simp; try with_reducible rfl
              try simp only [Act.put, List.setIfInBounds_toArray, List.set_cons_zero, List.set_cons_succ]
              refine wpAnyH_take (i := 18) (v := ?_) (by simp only [List.getElem?_toArray, List.getElem?_cons_zero, List.getElem?_cons_succ]; rfl) (by kernel_rfl) (by kernel_rfl) (by kernel_rfl) (by intro _ _ _ h; exact h) (Or.inl ⟨by rfl, ?_⟩) (by assumption) ?_
              rotate_left 1
              · intro w hSw; (try dsimp only at hSw); go_simp; try with_reducible rfl
              try simp only [Act.put, List.setIfInBounds_toArray, List.set_cons_zero, List.set_cons_succ]
              refine wpAnyH_take (i := 19) (v := ?_) (by simp only [List.getElem?_toArray, List.getElem?_cons_zero, List.getElem?_cons_succ]; rfl) (by kernel_rfl) (by kernel_rfl) (by kernel_rfl) (by intro _ _ _ h; exact h) (Or.inl ⟨by rfl, ?_⟩) (by assumption) ?_
              rotate_left 1
              · intro w hSw; (try dsimp only at hSw); go_simp; try with_reducible rfl
              try simp only [Act.put, List.setIfInBounds_toArray, List.set_cons_zero, List.set_cons_succ]
              refine wpAnyH_take (i := 20) (v := ?_) (by simp only [List.getElem?_toArray, List.getElem?_cons_zero, List.getElem?_cons_succ]; rfl) (by kernel_rfl) (by kernel_rfl) (by kernel_rfl) (by intro _ _ _ h; exact h) (Or.inl ⟨by rfl, ?_⟩) (by assumption) ?_
              rotate_left 1
              · intro w hSw; (try dsimp only at hSw); go_simp; try with_reducible rfl
              try simp only [Act.put, List.setIfInBounds_toArray, List.set_cons_zero, List.set_cons_succ]
              refine wpAnyH_take (i := 21) (v := ?_) (by simp only [List.getElem?_toArray, List.getElem?_cons_zero, List.getElem?_cons_succ]; rfl) (by kernel_rfl) (by kernel_rfl) (by kernel_rfl) (by intro _ _ _ h; exact h) (Or.inl ⟨by rfl, ?_⟩) (by assumption) ?_
              rotate_left 1
              · intro w hSw; (try dsimp only at hSw); go_simp; try with_reducible rfl
              try simp only [Act.put, List.setIfInBounds_toArray, List.set_cons_zero, List.set_cons_succ]
              refine wpAnyH_take (i := 22) (v := ?_) (by simp only [List.getElem?_toArray, List.getElem?_cons_zero, List.getElem?_cons_succ]; rfl) (by kernel_rfl) (by kernel_rfl) (by kernel_rfl) (by intro _ _ _ h; exact h) (Or.inl ⟨by rfl, ?_⟩) (by assumption) ?_
              rotate_left 1
              · intro w hSw; (try dsimp only at hSw); go_simp; try with_reducible rfl
              try simp only [Act.put, List.setIfInBounds_toArray, List.set_cons_zero, List.set_cons_succ]
              refine wpAnyH_take (i := 23) (v := ?_) (by simp only [List.getElem?_toArray, List.getElem?_cons_zero, List.getElem?_cons_succ]; rfl) (by kernel_rfl) (by kernel_rfl) (by kernel_rfl) (by intro _ _ _ h; exact h) (Or.inl ⟨by rfl, ?_⟩) (by assumption) ?_
              rotate_left 1
              · intro w hSw; (try dsimp only at hSw); go_simp; try with_reducible rfl
              try simp only [Act.put, List.setIfInBounds_toArray, List.set_cons_zero, List.set_cons_succ]
              refine wpAnyH_take (i := 24) (v := ?_) (by simp only [List.getElem?_toArray, List.getElem?_cons_zero, List.getElem?_cons_succ]; rfl) (by kernel_rfl) (by kernel_rfl) (by kernel_rfl) (by intro _ _ _ h; exact h) (Or.inl ⟨by rfl, ?_⟩) (by assumption) ?_
              rotate_left 1
              · intro w hSw; (try dsimp only at hSw); go_simp; try with_reducible rfl
              try simp only [Act.put, List.setIfInBounds_toArray, List.set_cons_zero, List.set_cons_succ]
              refine wpAnyH_take (i := 25) (v := ?_) (by simp only [List.getElem?_toArray, List.getElem?_cons_zero, List.getElem?_cons_succ]; rfl) (by kernel_rfl) (by kernel_rfl) (by kernel_rfl) (by intro _ _ _ h; exact h) (Or.inl ⟨by rfl, ?_⟩) (by assumption) ?_
              rotate_left 1
              · intro w hSw; (try dsimp only at hSw); go_simp; try with_reducible rfl
              try simp only [Act.put, List.setIfInBounds_toArray, List.set_cons_zero, List.set_cons_succ]
              refine wpAnyH_take (i := 26) (v := ?_) (by simp only [List.getElem?_toArray, List.getElem?_cons_zero, List.getElem?_cons_succ]; rfl) (by kernel_rfl) (by kernel_rfl) (by kernel_rfl) (by intro _ _ _ h; exact h) (Or.inl ⟨by rfl, ?_⟩) (by assumption) ?_
              rotate_left 1
              · intro w hSw; (try dsimp only at hSw); go_simp; try with_reducible rfl
              try simp only [Act.put, List.setIfInBounds_toArray, List.set_cons_zero, List.set_cons_succ]
              refine wpAnyH_take (i := 27) (v := ?_) (by simp only [List.getElem?_toArray, List.getElem?_cons_zero, List.getElem?_cons_succ]; rfl) (by kernel_rfl) (by kernel_rfl) (by kernel_rfl) (by intro _ _ _ h; exact h) (Or.inl ⟨by rfl, ?_⟩) (by assumption) ?_
              rotate_left 1
              · intro w hSw; (try dsimp only at hSw); go_simp; try with_reducible rfl
              try simp only [Act.put, List.setIfInBounds_toArray, List.set_cons_zero, List.set_cons_succ]
              refine wpAnyH_take (i := 28) (v := ?_) (by simp only [List.getElem?_toArray, List.getElem?_cons_zero, List.getElem?_cons_succ]; rfl) (by kernel_rfl) (by kernel_rfl) (by kernel_rfl) (by intro _ _ _ h; exact h) (Or.inl ⟨by rfl, ?_⟩) (by assumption) ?_
              rotate_left 1
              · intro w hSw; (try dsimp only at hSw); go_simp; try with_reducible rfl
              try simp only [Act.put, List.setIfInBounds_toArray, List.set_cons_zero, List.set_cons_succ]
              refine wpAnyH_take (i := 29) (v := ?_) (by simp only [List.getElem?_toArray, List.getElem?_cons_zero, List.getElem?_cons_succ]; rfl) (by kernel_rfl) (by kernel_rfl) (by kernel_rfl) (by intro _ _ _ h; exact h) (Or.inl ⟨by rfl, ?_⟩) (by assumption) ?_
              rotate_left 1
              · intro w hSw; (try dsimp only at hSw); go_simp; try with_reducible rfl
              try simp only [Act.put, List.setIfInBounds_toArray, List.set_cons_zero, List.set_cons_succ]
              refine wpAnyH_take (i := 30) (v := ?_) (by simp only [List.getElem?_toArray, List.getElem?_cons_zero, List.getElem?_cons_succ]; rfl) (by kernel_rfl) (by kernel_rfl) (by kernel_rfl) (by intro _ _ _ h; exact h) (Or.inl ⟨by rfl, ?_⟩) (by assumption) ?_
              rotate_left 1
              · intro w hSw; (try dsimp only at hSw); go_simp; try with_reducible rfl
              try simp only [Act.put, List.setIfInBounds_toArray, List.set_cons_zero, List.set_cons_succ]
              refine wpAnyH_take (i := 31) (v := ?_) (by simp only [List.getElem?_toArray, List.getElem?_cons_zero, List.getElem?_cons_succ]; rfl) (by kernel_rfl) (by kernel_rfl) (by kernel_rfl) (by intro _ _ _ h; exact h) (Or.inl ⟨by rfl, ?_⟩) (by assumption) ?_
              rotate_left 1
              · intro w hSw; (try dsimp only at hSw); go_simp; try with_reducible rfl
              try simp only [Act.put, List.setIfInBounds_toArray, List.set_cons_zero, List.set_cons_succ]
              refine wpAnyH_take (i := 32) (v := ?_) (by simp only [List.getElem?_toArray, List.getElem?_cons_zero, List.getElem?_cons_succ]; rfl) (by kernel_rfl) (by kernel_rfl) (by kernel_rfl) (by intro _ _ _ h; exact h) (Or.inl ⟨by rfl, ?_⟩) (by assumption) ?_
              rotate_left 1
              · intro w hSw; (try dsimp only at hSw); go_simp; try with_reducible rfl
              try simp only [Act.put, List.setIfInBounds_toArray, List.set_cons_zero, List.set_cons_succ]
              refine wpAnyH_take (i := 33) (v := ?_) (by simp only [List.getElem?_toArray, List.getElem?_cons_zero, List.getElem?_cons_succ]; rfl) (by kernel_rfl) (by kernel_rfl) (by kernel_rfl) (by intro _ _ _ h; exact h) (Or.inl ⟨by rfl, ?_⟩) (by assumption) ?_
              rotate_left 1
              · intro w hSw; (try dsimp only at hSw); go_simp; try with_reducible rfl
              try simp only [Act.put, List.setIfInBounds_toArray, List.set_cons_zero, List.set_cons_succ]
              refine wpAnyH_take (i := 34) (v := ?_) (by simp only [List.getElem?_toArray, List.getElem?_cons_zero, List.getElem?_cons_succ]; rfl) (by kernel_rfl) (by kernel_rfl) (by kernel_rfl) (by intro _ _ _ h; exact h) (Or.inl ⟨by rfl, ?_⟩) (by assumption) ?_
              rotate_left 1
              · intro w hSw; (try dsimp only at hSw); go_simp; try with_reducible rfl
              try simp only [Act.put, List.setIfInBounds_toArray, List.set_cons_zero, List.set_cons_succ]
              refine wpAnyH_take (i := 35) (v := ?_) (by simp only [List.getElem?_toArray, List.getElem?_cons_zero, List.getElem?_cons_succ]; rfl) (by kernel_rfl) (by kernel_rfl) (by kernel_rfl) (by intro _ _ _ h; exact h) (Or.inl ⟨by rfl, ?_⟩) (by assumption) ?_
              rotate_left 1
              · intro w hSw; (try dsimp only at hSw); go_simp; try with_reducible rfl
              try simp only [Act.put, List.setIfInBounds_toArray, List.set_cons_zero, List.set_cons_succ]
              refine wpAnyH_take (i := 36) (v := ?_) (by simp only [List.getElem?_toArray, List.getElem?_cons_zero, List.getElem?_cons_succ]; rfl) (by kernel_rfl) (by kernel_rfl) (by kernel_rfl) (by intro _ _ _ h; exact h) (Or.inl ⟨by rfl, ?_⟩) (by assumption) ?_
              rotate_left 1
              · intro w hSw; (try dsimp only at hSw); go_simp; try with_reducible rfl
              try simp only [Act.put, List.setIfInBounds_toArray, List.set_cons_zero, List.set_cons_succ]
              refine wpAnyH_take (i := 37) (v := ?_) (by simp only [List.getElem?_toArray, List.getElem?_cons_zero, List.getElem?_cons_succ]; rfl) (by kernel_rfl) (by kernel_rfl) (by kernel_rfl) (by intro _ _ _ h; exact h) (Or.inl ⟨by rfl, ?_⟩) (by assumption) ?_
              rotate_left 1
              · intro w hSw; (try dsimp only at hSw); go_simp; try with_reducible rfl
              try simp only [Act.put, List.setIfInBounds_toArray, List.set_cons_zero, List.set_cons_succ]
              refine wpAnyH_take (i := 38) (v := ?_) (by simp only [List.getElem?_toArray, List.getElem?_cons_zero, List.getElem?_cons_succ]; rfl) (by kernel_rfl) (by kernel_rfl) (by kernel_rfl) (by intro _ _ _ h; exact h) (Or.inl ⟨by rfl, ?_⟩) (by assumption) ?_
              rotate_left 1
              · intro w hSw; (try dsimp only at hSw); go_simp; try with_reducible rfl
              try simp only [Act.put, List.setIfInBounds_toArray, List.set_cons_zero, List.set_cons_succ]
              refine wpAnyH_done (by kernel_rfl) ?_ _
              obtain ⟨w8, hw8⟩ : ∃ x, x = w7.drew := ⟨_, rfl⟩
              rw [← hw8]
              have H8 := Lib.hid (hst.out w8 (by rw [hw8]; exact (Upd.refl _ _).drew))
              clear hst hHeld hw8 y0 y1 z0 z1 p0 p1 p2 b0 m1 r3
              obtain ⟨y0, y1⟩ := r_at [_, _, _] _ H8.out (nums_at HY.out)
              obtain ⟨z0, z1⟩ := r_at [_, _, _, _] _ H8.out (nums_at HA2.out)
              go_wp2_with fail
              go_meet
              exact ⟨_, _, _, m_drop1 (m_drop1 (by rw [← nums_set, ← nums_set]; exact r_set [_, _, _] _ (r_set [_, _, _, _] _ H8.out x1 (.int .i64 0)) kk (.int .i64 x1))), HOK6.out, HCF6.out, HKP6.out⟩
          · have HKP6 := Lib.hid (hkp0 hr0)
            clear hkp0 hkp1 hkl
            have d0 : ((r : Int) != 0) = true := by simp; omega
            clear hr0
            go_wp2_with fail
            refine (HNX.out).mono ?_
            rintro x w6 ⟨rfl, hM6⟩
            go_upto_region 19 with fail
            have H7 := Lib.hid (m_drop1 (m_box hM6 #[.int .u32 x0, .int .u32 x1, .int .u64 x2] TP).drop)
            clear hM6 HNX HM2 j0 j1 j2 j3 j4
            generalize w6.alloc (.cells #[.int .u32 x0, .int .u32 x1, .int .u64 x2] TP) = w7 at *
            generalize w6.heap.size = PB at *
            go_wp2_with fail
            go_roundg (K - i)
            case rel => exact ⟨i + 1, E2, _, _, by omega, by omega, rfl, H7, HOK6, HCF6, HKP6⟩
            case measure => have := HGK.out; omega
        · as_aux_lemma =>
          have eK4 : (kd : Int) % 4 = 3 := eK
          clear eK hr4
          go_wp2_with fail
          refine (e_tick (t := ti) HM2.out HOK.out o4).mono ?_
          rintro x w6 ⟨rfl, hM6⟩
          have HM6 := Lib.hid (m_drop1 hM6)
          have HOK6 : Hid (OkE (tickE E ti) (i + 1)) := Lib.hid ((tickE_ok HOK.out).more (Nat.le_succ _))
          clear hM6 HM2 j0 j1 j2 j3 j4
          go_wp2_with fail
          go_meet
          exact ⟨_, _, _, HM6.out, HOK6.out, (tickE_cfs _ _).trans HCS.out, HKP.out.tick⟩
      case rest =>
        obtain ⟨E2, came2, last2, hM6, hOK6, hCS6, hKP6⟩ := hcut
        obtain ⟨wC, rfl⟩ : ∃ x, x = wc := ⟨_, rfl⟩
        have H6 := Lib.hid hM6
        have HOK6 := Lib.hid hOK6
        have HCS6 := Lib.hid hCS6
        have HKP6 := Lib.hid hKP6
        have hqn : E2.q.length = n := by have h1 := cfs_len E2; rw [hCS6, HNN.out] at h1; exact h1.symm
        have HQN := Lib.hid hqn
        clear hM6 hOK6 hCS6 hKP6 hqn HM2 j0 j1 j2 j3 j4
        obtain ⟨b0, b1, b2, -⟩ := cells3 (mk_off (l1 := [_, _, _]) H6.out).1
        go_upto_region 25 with fail
        clear b0 b1 b2
        go_loopg [15, 16, 17, 18, 138] (n + 1) (fun hk2 _ _ _ _ v138 wr => ∃ (j : Nat), n - j < hk2 ∧ j ≤ n ∧ v138 = .int .i64 j ∧ Hid (Made W wr (egC e E2 :: rowC1 TInt GL n (nums last2) :: rowC1 TInt GC K (nums came2) :: [blkC BX #[.slice ad n cc, .slice ap m cp, .int .u64 pace] TRc])))
        case atStart => exact ⟨0, by omega, Nat.zero_le _, rfl, H6⟩
        case round =>
          obtain ⟨j, hhk, hjn, rfl, H7⟩ := hrel
          obtain ⟨wD, rfl⟩ : ∃ x, x = wr := ⟨_, rfl⟩
          have HHK := Lib.hid hhk
          clear hhk H6
          rcases Nat.lt_or_ge j n with hjlt | hjge
          · obtain ⟨⟨kb, cf, s⟩, hq⟩ : ∃ x, E2.q[j]? = some x := ⟨E2.q[j]'(by have := HQN.out; omega), by simp⟩
            have hJ : (j : Int) < n := by omega
            obtain ⟨hf, hs⟩ := HOK6.out.q _ (List.mem_of_getElem? hq)
            dsimp only at hf hs
            have hle := hs.le1
            have hin1 := hs.in1
            have HQ := Lib.hid hq
            have HWT := Lib.hid (e_waits H7.out HOK6.out hq)
            have HCN := fun u hM => Lib.hid (e_counts (w0 := W) (w := u) (e := e) (E := E2) (l := rowC1 TInt GL n (nums last2) :: rowC1 TInt GC K (nums came2) :: [blkC BX #[.slice ad n cc, .slice ap m cp, .int .u64 pace] TRc]) hM HOK6.out hq)
            obtain ⟨ln, hln⟩ : ∃ x, s.l.length = x := ⟨_, rfl⟩
            obtain ⟨lf, hlf⟩ : ∃ x, s.left = x := ⟨_, rfl⟩
            obtain ⟨dp, hdp⟩ : ∃ x, s.drp = x := ⟨_, rfl⟩
            obtain ⟨nn, hnn⟩ : ∃ x, s.inn = x := ⟨_, rfl⟩
            obtain ⟨s1, hs1⟩ : ∃ x, ln + lf = x := ⟨_, rfl⟩
            rw [hln, hlf, hdp, hnn] at hle
            rw [hnn] at hin1
            rw [hln] at HWT
            rw [hlf, hdp, hnn] at HCN
            have e1 : IntKind.i64.wrap ((ln : Int) + (lf : Int)) = (s1 : Int) := by rw [IntKind.wrap_i64]; omega
            have e2 : IntKind.i64.wrap ((s1 : Int) + (dp : Int)) = (nn : Int) := by rw [IntKind.wrap_i64]; omega
            have f1 : decide ((lf : Int) < 0) = false := decide_eq_false (by omega)
            have f2 : decide ((dp : Int) < 0) = false := decide_eq_false (by omega)
            clear hq hf hs hle hin1 hln hlf hdp hnn hs1
            go_wp2_with fail
            refine (HWT.out).mono ?_
            rintro x w6 ⟨rfl, u6⟩
            have H8 := Lib.hid (H7.out.old u6)
            clear u6 H7 HWT
            go_wp2_with fail
            refine ((HCN _ H8.out).out).mono ?_
            rintro x w7 ⟨rfl, u7⟩
            go_upto_region 29 with fail
            have H9 := Lib.hid (m_box (H8.out.old u7) #[.int .i64 (nn : Nat), .int .i64 (lf : Nat), .int .i64 (dp : Nat)] TCn)
            clear u7 H8 HCN
            generalize w7.alloc (.cells #[.int .i64 (nn : Nat), .int .i64 (lf : Nat), .int .i64 (dp : Nat)] TCn) = w8 at *
            generalize w7.heap.size = PC at *
            obtain ⟨p0, p1, p2, -⟩ := cells3 (mk_off (l1 := []) H9.out).1
            go_wp2_with fail
            go_roundg (n - j)
            case rel => exact ⟨j + 1, by omega, by omega, rfl, Lib.hid H9.out.drop⟩
            case measure => have := HHK.out; omega
          · obtain rfl : j = n := by omega
            have dJ : decide ((j : Int) < j) = false := by simp
            go_wp2_with fail
            go_roundg (K - i)
            case rel => exact ⟨i + 1, _, _, _, by omega, by omega, rfl, H7, HOK6, HCS6, HKP6⟩
            case measure => have := HGK.out; omega
    · obtain rfl : i = K := by omega
      have dI : decide ((i : Int) < i) = false := by simp
      go_wp2_with fail
      refine (lives_any _).mono ?_
      rintro x w4 ⟨rfl, u4⟩
      go_wp2_with fail
      go_ret
      exact ⟨rfl, (HM.out.old u4).upd⟩
end Go.Proofs.YtdddfmdcjjbegaaGreat.Egs
