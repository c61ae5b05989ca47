/- EgFirst, one behind the other. -/
import Derived.Test.YtdddfmdcjjbegaaGreatMeLaw
import Derived.Test.YtdddfmdcjjbegaaGreatMeP2
import Derived.Test.YtdddfmdcjjbegaaGreatMeA
import Derived.Deep.RegionHeld3
import Derived.Deep.DeepCutAuto
namespace Go.Proofs.YtdddfmdcjjbegaaGreat.Egs
open Go.RowKit Go.Proofs BigFrame
open RingW (It KI zI ZI VI TE)
open First (Cf VC TCl)
set_option maxHeartbeats 40000000
set_option maxRecDepth 1000000
set_option linter.unusedSimpArgs false
theorem first_law {v0 v1 va : Value} {cs : List Cf} {pl : List (Nat × Nat)} {pace : Nat} {l : List Act} {W : World} (h0 : RowsAt W v0 cs.length (cs.flatMap fun c => (VC c).toList)) (h1 : RowsAt W v1 pl.length (pl.flatMap slt)) (hb : ∀ x ∈ pl, x.1 < 256 ∧ x.2 < 18446744073709551616) (hpc : pace ≤ 18446744073709551615) (h2 : RowsAt W va l.length (l.flatMap act)) (hl : ∀ a ∈ l, a.Ok) :
    Calls Tryz.prog 6 #[.agg #[v0, v1, .int .u64 pace], va] W fun x w' => x = .returned (.bool true) ∧ Upd Nowhere W w' := by
  obtain ⟨ad, cc, rfl, hC⟩ := cls_of h0
  obtain ⟨ap, cp, rfl, hn, hP⟩ := pln_of hb h1
  obtain ⟨al, cl, rfl, hA⟩ := acts_of h2
  clear h0 h1 h2
  obtain ⟨F, hF⟩ : ∃ F, (decide (12 < cs.length) || (decide (70 < pl.length) || decide (150 < l.length))) = F := ⟨_, rfl⟩
  have HFAR := fun u => Lib.hid (far_any (w := u) (ad := ad) (ap := ap) (al := al) (n := cs.length) (cc := cc) (m := pl.length) (cp := cp) (pace := pace) (k := l.length) (cl := cl))
  rw [hF] at HFAR
  have hM0 := m_box (Made.start W) #[.slice ad cs.length cc, .slice ap pl.length cp, .int .u64 pace] TRc
  cases F with
  | true =>
    clear hF
    obtain ⟨n, hn'⟩ : ∃ n, cs.length = n := ⟨_, rfl⟩
    obtain ⟨m, hm⟩ : ∃ m, pl.length = m := ⟨_, rfl⟩
    obtain ⟨K, hk⟩ : ∃ K, l.length = K := ⟨_, rfl⟩
    rw [hn', hm] at hM0
    rw [hn', hm, hk] at HFAR
    rw [hn', hm, hk]
    clear hC hP hA hn hl hn' hm hk
    obtain ⟨b0, b1, b2, -⟩ := cells3 (mk_off (l1 := []) hM0).1
    have HM0 := Lib.hid hM0
    clear hM0
    go_enter Tryz.func6, Tryz.ntmps6
    go_wp2_with fail
    refine ((HFAR _).out).mono ?_
    rintro x w1 ⟨rfl, u1⟩
    go_wp2_with fail
    refine (lives_any _).mono ?_
    rintro x w2 ⟨rfl, u2⟩
    go_wp2_with fail
    go_ret
    exact ⟨rfl, ((HM0.out.old u1).old u2).upd⟩
  | false =>
  have hbd : cs.length ≤ 12 ∧ pl.length ≤ 70 ∧ l.length ≤ 150 := by simp at hF; omega
  obtain ⟨hb1, hb2, hb3⟩ := hbd
  clear hF
  have HCF := fun u (hu : Upd Nowhere W u) => Lib.hid (conf_any (cc := cc) (ap := ap) (cp := cp) (m := pl.length) (pace := pace) (hC.old hu) hb1)
  have HNEW := fun w0 u L (hM : Made w0 u L) (hu : Upd Nowhere W u) (aq : Option Addr) (cq : Nat) (hq : ClsAt u aq cs) (hch : chkE cs pl pace = 0) => Lib.hid (e_new (cc := cq) (ad := aq) hM hq (hP.old hu) hn hch)
  have HNO := fun u (hu : Upd Nowhere W u) (aq : Option Addr) (cq : Nat) (hq : ClsAt u aq cs) (hch : chkE cs pl pace ≠ 0) => Lib.hid (newE_no (w := u) (cp := cp) (cc := cq) (ad := aq) hq (hP.old hu) hch)
  obtain ⟨n, hn'⟩ : ∃ n, cs.length = n := ⟨_, rfl⟩
  obtain ⟨m, hm⟩ : ∃ m, pl.length = m := ⟨_, rfl⟩
  obtain ⟨K, hk⟩ : ∃ K, l.length = K := ⟨_, rfl⟩
  rw [hm] at hb2
  rw [hk] at hb3
  rw [hn', hm] at hM0 HCF HNEW HNO
  rw [hn', hm, hk] at HFAR
  rw [hn', hm, hk]
  rw [hn'] at hb1
  obtain ⟨b0, b1, b2, -⟩ := cells3 (mk_off (l1 := []) hM0).1
  have HM0 := Lib.hid hM0
  have HNN := Lib.hid hn'
  have HMM := Lib.hid hm
  have HKK := Lib.hid hk
  have HA := Lib.hid hA
  have HCA := Lib.hid hC
  have HP := Lib.hid hP
  have HL := Lib.hid hl
  have HPB := Lib.hid hb
  have HPC := Lib.hid hpc
  clear hM0 hC hP hA hn hl hn' hm hk hb hpc
  go_enter Tryz.func6, Tryz.ntmps6
  go_wp2_with fail
  refine ((HFAR _).out).mono ?_
  rintro x w1 ⟨rfl, u1⟩
  have HM1 := Lib.hid (HM0.out.old u1)
  clear HM0 u1 HFAR b0 b1 b2
  obtain ⟨b0, b1, b2, -⟩ := cells3 (mk_off (l1 := []) HM1.out).1
  generalize W.heap.size = BX at *
  go_wp2_with fail
  refine ((HCF _ HM1.out.upd).out).mono ?_
  rintro x w2 ⟨v, rfl, ho, u2⟩
  obtain ⟨aq, cq, rfl, hcq⟩ := cls_row HNN.out ho
  have HM2 := Lib.hid (HM1.out.old u2)
  have HCQ := Lib.hid hcq
  clear ho u2 HM1 HCF hcq b0 b1 b2
  by_cases hch : chkE cs pl pace = 0
  case neg =>
    have H := HNO _ HM2.out.upd aq cq HCQ.out hch
    obtain ⟨r, hr⟩ : ∃ r, chkE cs pl pace = r := ⟨_, rfl⟩
    rw [hr] at H hch
    have d0 : ((r : Int) != 0) = true := by simp; omega
    clear hch hr HNO HNEW
    go_wp2_with fail
    refine (H.out).mono ?_
    rintro x w3 ⟨rfl, u3⟩
    go_wp2_with fail
    refine (lives_any _).mono ?_
    rintro x w4 ⟨rfl, u4⟩
    go_wp2_with fail
    go_ret
    exact ⟨rfl, ((HM2.out.old u3).old u4).upd⟩
  case pos =>
  go_wp2_with fail
  refine ((HNEW _ _ _ HM2.out HM2.out.upd aq cq HCQ.out hch).out).mono ?_
  rintro x w3 ⟨e, vc, vp, Q, rfl, hM3, hQ⟩
  have HM3 := Lib.hid hM3
  have HOK0 : Hid (OkE ⟨vc, vp, pl, pace, 0, 0, Q⟩ 0) := Lib.hid (okE_new hch HPB.out hQ)
  have HCS0 : Hid (cfs ⟨vc, vp, pl, pace, 0, 0, Q⟩ = cs) := Lib.hid (by
    have : cfs ⟨vc, vp, pl, pace, 0, 0, Q⟩ = (Q.map fun x => x.2).map fun x => x.1 := by unfold cfs; rw [List.map_map]; rfl
    rw [this, hQ, List.map_map]
    simp [Function.comp_def])
  have HQ0 := Lib.hid hQ
  have HCH := Lib.hid hch
  clear hM3 hQ hch HNEW HNO HM2
  go_upto_region 7 with fail
  go_loopg [7, 8, 9, 10, 11, 12, 13, 14, 34] (K + 1) (fun gk _ _ _ _ _ _ _ _ v34 wr => ∃ (i : Nat) (E : Eg), K - i < gk ∧ i ≤ K ∧ v34 = .int .i64 i ∧ Hid (Made W wr (egC e E :: [blkC BX #[.slice ad n cc, .slice ap m cp, .int .u64 pace] TRc])) ∧ Hid (OkE E i) ∧ Hid (cfs E = cs) ∧ Hid (E.pl = pl ∧ E.pace = pace))
  case atStart => exact ⟨0, _, by omega, Nat.zero_le _, rfl, HM3, HOK0, HCS0, Lib.hid ⟨rfl, rfl⟩⟩
  case round =>
    obtain ⟨i, E, hgk, hin, rfl, HM, HOK, HCS, HPL⟩ := hrel
    obtain ⟨wB, rfl⟩ : ∃ x, x = wr := ⟨_, rfl⟩
    have HGK := Lib.hid hgk
    clear hgk HM3 HOK0 HCS0
    rcases Nat.lt_or_ge i K with hlt | hge
    · obtain ⟨⟨kd, ca, ra, le, ti⟩, hx⟩ : ∃ x, l[i]? = some x := ⟨l[i]'(by have := HKK.out; omega), by simp⟩
      obtain ⟨o1, o2, o3, o4⟩ := HL.out _ (List.mem_of_getElem? hx)
      have HX := Lib.hid hx
      obtain ⟨ga, oa, rfl, r0, r1, r2, r3, r4⟩ := HA.out.get HM.out.upd hx
      dsimp only at o1 o2 o3 o4 r0 r1 r2 r3 r4
      have hI : (i : Int) < K := by omega
      have hI32 : i < 4294967296 := by omega
      have hi9 : i < 1000000000 := by omega
      have eK : (kd : Int) % 4 = ((kd % 4 : Nat) : Int) := rfl
      have hr4 : kd % 4 < 4 := Nat.mod_lt _ (by omega)
      generalize kd % 4 = k4 at *
      have hM2 := m_box HM.out (actA ⟨kd, ca, ra, le, ti⟩) TAc
      have HM2 := Lib.hid (hM2.perm (List.Perm.swap _ _ _))
      clear hx hM2 HM
      go_upto_region 9 with fail
      obtain ⟨wA, hwA⟩ : ∃ wA, wB.alloc (.cells (actA ⟨kd, ca, ra, le, ti⟩) TAc) = wA := ⟨_, rfl⟩
      obtain ⟨xb, hxb⟩ : ∃ xb, wB.heap.size = xb := ⟨_, rfl⟩
      rw [hwA] at HM2 ⊢
      rw [hxb] at HM2
      try simp only [hxb]
      clear hwA hxb r0 r1 r2 r3 r4
      obtain ⟨j0, j1, j2, j3, j4, -⟩ := cells5 (mk_off (l1 := [_]) HM2.out).1
      rcases (show k4 = 0 ∨ k4 = 1 ∨ k4 = 2 ∨ k4 = 3 by omega) with rfl | rfl | rfl | rfl
      · as_aux_lemma =>
        have eK4 : (kd : Int) % 4 = 0 := eK
        clear eK hr4
        go_wp2_with fail
        refine wp_region_held_drew (S := fun w' => w'.cell? ⟨xb, 0, none⟩ = some (.int .u8 kd) ∧ w'.cell? ⟨xb, 1, none⟩ = some (.int .i64 ca) ∧ w'.cell? ⟨xb, 2, none⟩ = some (.int .u64 ra) ∧ w'.cell? ⟨xb, 3, none⟩ = some (.int .u64 le) ∧ w'.cell? ⟨xb, 4, none⟩ = some (.int .u64 ti)) (by kernel_rfl) ⟨j0, j1, j2, j3, j4⟩ (fun hHeld => ?_)
        refine wpAnyH_take (i := 0) (v := ?_) (by simp only [List.getElem?_toArray, List.getElem?_cons_zero, List.getElem?_cons_succ]; rfl) (by kernel_rfl) (by kernel_rfl) (by kernel_rfl) (by intro _ _ _ h; exact h) (Or.inl ⟨by rfl, ?_⟩) (by assumption) ?_
        rotate_left 1
        · intro w hSw; (try dsimp only at hSw); go_simp; try with_reducible rfl
        try simp only [Act.put, List.setIfInBounds_toArray, List.set_cons_zero, List.set_cons_succ]
        refine wpAnyH_take (i := 1) (v := ?_) (by simp only [List.getElem?_toArray, List.getElem?_cons_zero, List.getElem?_cons_succ]; rfl) (by kernel_rfl) (by kernel_rfl) (by kernel_rfl) (by intro _ _ _ h; exact h) (Or.inl ⟨by rfl, ?_⟩) (by assumption) ?_
        rotate_left 1
        · intro w hSw; (try dsimp only at hSw); go_simp; try with_reducible rfl
        try simp only [Act.put, List.setIfInBounds_toArray, List.set_cons_zero, List.set_cons_succ]
        refine wpAnyH_take (i := 2) (v := ?_) (by simp only [List.getElem?_toArray, List.getElem?_cons_zero, List.getElem?_cons_succ]; rfl) (by kernel_rfl) (by kernel_rfl) (by kernel_rfl) (by intro _ _ _ h; exact h) (Or.inl ⟨by rfl, ?_⟩) (by assumption) ?_
        rotate_left 1
        · intro w hSw; (try dsimp only at hSw); go_simp; try with_reducible rfl
        try simp only [Act.put, List.setIfInBounds_toArray, List.set_cons_zero, List.set_cons_succ]
        refine wpAnyH_take (i := 3) (v := ?_) (by simp only [List.getElem?_toArray, List.getElem?_cons_zero, List.getElem?_cons_succ]; rfl) (by kernel_rfl) (by kernel_rfl) (by kernel_rfl) (by intro _ _ _ h; exact h) (Or.inl ⟨by rfl, ?_⟩) (by assumption) ?_
        rotate_left 1
        · intro w hSw; (try dsimp only at hSw); go_simp; try with_reducible rfl
        try simp only [Act.put, List.setIfInBounds_toArray, List.set_cons_zero, List.set_cons_succ]
        refine wpAnyH_take (i := 4) (v := ?_) (by simp only [List.getElem?_toArray, List.getElem?_cons_zero, List.getElem?_cons_succ]; rfl) (by kernel_rfl) (by kernel_rfl) (by kernel_rfl) (by intro _ _ _ h; exact h) (Or.inl ⟨by rfl, ?_⟩) (by assumption) ?_
        rotate_left 1
        · intro w hSw; (try dsimp only at hSw); go_simp; try with_reducible rfl
        try simp only [Act.put, List.setIfInBounds_toArray, List.set_cons_zero, List.set_cons_succ]
        refine wpAnyH_take (i := 5) (v := ?_) (by simp only [List.getElem?_toArray, List.getElem?_cons_zero, List.getElem?_cons_succ]; rfl) (by kernel_rfl) (by kernel_rfl) (by kernel_rfl) (by intro _ _ _ h; exact h) (Or.inl ⟨by rfl, ?_⟩) (by assumption) ?_
        rotate_left 1
        · intro w hSw; (try dsimp only at hSw); go_simp; try with_reducible rfl
        try simp only [Act.put, List.setIfInBounds_toArray, List.set_cons_zero, List.set_cons_succ]
        refine wpAnyH_take (i := 6) (v := ?_) (by simp only [List.getElem?_toArray, List.getElem?_cons_zero, List.getElem?_cons_succ]; rfl) (by kernel_rfl) (by kernel_rfl) (by kernel_rfl) (by intro _ _ _ h; exact h) (Or.inl ⟨by rfl, ?_⟩) (by assumption) ?_
        rotate_left 1
        · intro w hSw; (try dsimp only at hSw); go_simp; try with_reducible rfl
        try simp only [Act.put, List.setIfInBounds_toArray, List.set_cons_zero, List.set_cons_succ]
        refine wpAnyH_ready (rs := [7]) (by kernel_rfl) (by simp) ?_
        refine AllReadyH.cons (by simp only [List.getElem?_toArray, List.getElem?_cons_zero, List.getElem?_cons_succ]; rfl) (fun K9 hK => ?_) AllReadyH.nil
        go_simp
        refine (packet_any (i := i) hI32 ⟨kd, ca, ra, le, ti⟩).mono ?_
        rintro x w5 ⟨rfl, u5⟩
        have HM5 := Lib.hid ((HM2.out.old (Upd.drew (Upd.refl _ _))).old u5)
        obtain ⟨q0, q1, q2, q3, q4, -⟩ := cells5 (mk_off (l1 := [_]) HM5.out).1
        refine hK.out _ _ (by (try dsimp only); exact ⟨q0, q1, q2, q3, q4⟩) (fun hHeld => ?_)
        clear hK K9 u5 q0 q1 q2 q3 q4
        refine wpAnyH_ready (rs := [8]) (by kernel_rfl) (by simp) ?_
        refine AllReadyH.cons (by simp only [List.getElem?_toArray, List.getElem?_cons_zero, List.getElem?_cons_succ]; rfl) (fun K9 hK => ?_) AllReadyH.nil
        go_simp
        refine (e_push HM5.out HOK.out hi9 ca ra i i le).mono ?_
        rintro x w6 ⟨rfl, hM6⟩
        obtain ⟨q0, q1, q2, q3, q4, -⟩ := cells5 (mk_off (l1 := [_]) hM6).1
        refine hK.out _ _ (by (try dsimp only); exact ⟨q0, q1, q2, q3, q4⟩) (fun hHeld => ?_)
        have HM6 := Lib.hid (m_drop1 hM6)
        have HOK6 : Hid (OkE (pushE E ca ra (i, i, le)).2 (i + 1)) := Lib.hid (pushE_ok HOK.out hI32 hI32)
        clear hK K9 q0 q1 q2 q3 q4 hM6 HM5 HM2 hHeld
        refine wpAnyH_done (by kernel_rfl) ?_ _
        go_wp2_with fail
        go_roundg (K - i)
        case rel => exact ⟨i + 1, _, by omega, by omega, rfl, HM6, HOK6, Lib.hid ((pushE_cfs _ _ _ _).trans HCS.out), Lib.hid ⟨(pushE_same E ca ra (i, i, le)).1.trans HPL.out.1, (pushE_same E ca ra (i, i, le)).2.1.trans HPL.out.2⟩⟩
        case measure => have := HGK.out; omega
      · as_aux_lemma =>
        have eK4 : (kd : Int) % 4 = 1 := eK
        clear eK hr4
        go_wp2_with fail
        refine wp_region_held_drew (S := fun w' => w'.cell? ⟨xb, 0, none⟩ = some (.int .u8 kd) ∧ w'.cell? ⟨xb, 1, none⟩ = some (.int .i64 ca) ∧ w'.cell? ⟨xb, 2, none⟩ = some (.int .u64 ra) ∧ w'.cell? ⟨xb, 3, none⟩ = some (.int .u64 le) ∧ w'.cell? ⟨xb, 4, none⟩ = some (.int .u64 ti)) (by kernel_rfl) ⟨j0, j1, j2, j3, j4⟩ (fun hHeld => ?_)
        refine wpAnyH_take (i := 0) (v := ?_) (by simp only [List.getElem?_toArray, List.getElem?_cons_zero, List.getElem?_cons_succ]; rfl) (by kernel_rfl) (by kernel_rfl) (by kernel_rfl) (by intro _ _ _ h; exact h) (Or.inl ⟨by rfl, ?_⟩) (by assumption) ?_
        rotate_left 1
        · intro w hSw; (try dsimp only at hSw); go_simp; try with_reducible rfl
        try simp only [Act.put, List.setIfInBounds_toArray, List.set_cons_zero, List.set_cons_succ]
        refine wpAnyH_take (i := 1) (v := ?_) (by simp only [List.getElem?_toArray, List.getElem?_cons_zero, List.getElem?_cons_succ]; rfl) (by kernel_rfl) (by kernel_rfl) (by kernel_rfl) (by intro _ _ _ h; exact h) (Or.inl ⟨by rfl, ?_⟩) (by assumption) ?_
        rotate_left 1
        · intro w hSw; (try dsimp only at hSw); go_simp; try with_reducible rfl
        try simp only [Act.put, List.setIfInBounds_toArray, List.set_cons_zero, List.set_cons_succ]
        refine wpAnyH_take (i := 2) (v := ?_) (by simp only [List.getElem?_toArray, List.getElem?_cons_zero, List.getElem?_cons_succ]; rfl) (by kernel_rfl) (by kernel_rfl) (by kernel_rfl) (by intro _ _ _ h; exact h) (Or.inl ⟨by rfl, ?_⟩) (by assumption) ?_
        rotate_left 1
        · intro w hSw; (try dsimp only at hSw); go_simp; try with_reducible rfl
        try simp only [Act.put, List.setIfInBounds_toArray, List.set_cons_zero, List.set_cons_succ]
        refine wpAnyH_take (i := 3) (v := ?_) (by simp only [List.getElem?_toArray, List.getElem?_cons_zero, List.getElem?_cons_succ]; rfl) (by kernel_rfl) (by kernel_rfl) (by kernel_rfl) (by intro _ _ _ h; exact h) (Or.inl ⟨by rfl, ?_⟩) (by assumption) ?_
        rotate_left 1
        · intro w hSw; (try dsimp only at hSw); go_simp; try with_reducible rfl
        try simp only [Act.put, List.setIfInBounds_toArray, List.set_cons_zero, List.set_cons_succ]
        refine wpAnyH_take (i := 4) (v := ?_) (by simp only [List.getElem?_toArray, List.getElem?_cons_zero, List.getElem?_cons_succ]; rfl) (by kernel_rfl) (by kernel_rfl) (by kernel_rfl) (by intro _ _ _ h; exact h) (Or.inl ⟨by rfl, ?_⟩) (by assumption) ?_
        rotate_left 1
        · intro w hSw; (try dsimp only at hSw); go_simp; try with_reducible rfl
        try simp only [Act.put, List.setIfInBounds_toArray, List.set_cons_zero, List.set_cons_succ]
        refine wpAnyH_take (i := 5) (v := ?_) (by simp only [List.getElem?_toArray, List.getElem?_cons_zero, List.getElem?_cons_succ]; rfl) (by kernel_rfl) (by kernel_rfl) (by kernel_rfl) (by intro _ _ _ h; exact h) (Or.inl ⟨by rfl, ?_⟩) (by assumption) ?_
        rotate_left 1
        · intro w hSw; (try dsimp only at hSw); go_simp; try with_reducible rfl
        try simp only [Act.put, List.setIfInBounds_toArray, List.set_cons_zero, List.set_cons_succ]
        refine wpAnyH_take (i := 6) (v := ?_) (by simp only [List.getElem?_toArray, List.getElem?_cons_zero, List.getElem?_cons_succ]; rfl) (by kernel_rfl) (by kernel_rfl) (by kernel_rfl) (by intro _ _ _ h; exact h) (Or.inl ⟨by rfl, ?_⟩) (by assumption) ?_
        rotate_left 1
        · intro w hSw; (try dsimp only at hSw); go_simp; try with_reducible rfl
        try simp only [Act.put, List.setIfInBounds_toArray, List.set_cons_zero, List.set_cons_succ]
        refine wpAnyH_ready (rs := [7]) (by kernel_rfl) (by simp) ?_
        refine AllReadyH.cons (by simp only [List.getElem?_toArray, List.getElem?_cons_zero, List.getElem?_cons_succ]; rfl) (fun K9 hK => ?_) AllReadyH.nil
        go_simp
        refine (packet_any (i := i) hI32 ⟨kd, ca, ra, le, ti⟩).mono ?_
        rintro x w5 ⟨rfl, u5⟩
        have HM5 := Lib.hid ((HM2.out.old (Upd.drew (Upd.refl _ _))).old u5)
        obtain ⟨q0, q1, q2, q3, q4, -⟩ := cells5 (mk_off (l1 := [_]) HM5.out).1
        refine hK.out _ _ (by (try dsimp only); exact ⟨q0, q1, q2, q3, q4⟩) (fun hHeld => ?_)
        clear hK K9 u5 q0 q1 q2 q3 q4
        refine wpAnyH_ready (rs := [8]) (by kernel_rfl) (by simp) ?_
        refine AllReadyH.cons (by simp only [List.getElem?_toArray, List.getElem?_cons_zero, List.getElem?_cons_succ]; rfl) (fun K9 hK => ?_) AllReadyH.nil
        go_simp
        refine (e_push HM5.out HOK.out hi9 ca ra i i le).mono ?_
        rintro x w6 ⟨rfl, hM6⟩
        obtain ⟨q0, q1, q2, q3, q4, -⟩ := cells5 (mk_off (l1 := [_]) hM6).1
        refine hK.out _ _ (by (try dsimp only); exact ⟨q0, q1, q2, q3, q4⟩) (fun hHeld => ?_)
        have HM6 := Lib.hid (m_drop1 hM6)
        have HOK6 : Hid (OkE (pushE E ca ra (i, i, le)).2 (i + 1)) := Lib.hid (pushE_ok HOK.out hI32 hI32)
        clear hK K9 q0 q1 q2 q3 q4 hM6 HM5 HM2 hHeld
        refine wpAnyH_done (by kernel_rfl) ?_ _
        go_wp2_with fail
        go_roundg (K - i)
        case rel => exact ⟨i + 1, _, by omega, by omega, rfl, HM6, HOK6, Lib.hid ((pushE_cfs _ _ _ _).trans HCS.out), Lib.hid ⟨(pushE_same E ca ra (i, i, le)).1.trans HPL.out.1, (pushE_same E ca ra (i, i, le)).2.1.trans HPL.out.2⟩⟩
        case measure => have := HGK.out; omega
      · as_aux_lemma =>
        have eK4 : (kd : Int) % 4 = 2 := eK
        clear eK hr4
        have hqn : E.q.length = n := by have h1 := cfs_len E; rw [HCS.out, HNN.out] at h1; exact h1.symm
        have hsame := nextE_same E
        have hnow := HOK.out.now
        have HE := Lib.hid (e_now HM2.out HOK.out)
        have HB := Lib.hid (e_busy HM2.out HOK.out)
        obtain ⟨now, hnw⟩ : ∃ now, E.now = now := ⟨_, rfl⟩
        obtain ⟨bs, hbs⟩ : ∃ bs, E.busy = bs := ⟨_, rfl⟩
        rw [hnw] at HE hnow
        rw [hbs] at HB
        have HNW := Lib.hid hnw
        have HBS := Lib.hid hbs
        have HQN := Lib.hid hqn
        have HSA := Lib.hid hsame
        clear hqn hsame hnw hbs
        go_wp2_with fail
        refine (HE.out).mono ?_
        rintro x w5 ⟨rfl, rfl⟩
        go_wp2_with fail
        refine (HB.out).mono ?_
        rintro x w5 ⟨rfl, rfl⟩
        clear HE HB j0 j1 j2 j3 j4
        by_cases hb : now < bs
        · have d1 : decide (now < bs) = true := decide_eq_true hb
          have d2 : decide ((now : Int) < (bs : Int)) = true := decide_eq_true (by omega)
          clear hb
          go_wp2_with fail
          go_roundg (K - i)
          case rel => exact ⟨i + 1, E, by omega, by omega, rfl, Lib.hid (m_drop1 HM2.out), Lib.hid (HOK.out.more (Nat.le_succ _)), HCS, HPL⟩
          case measure => have := HGK.out; omega
        have d1 : decide (now < bs) = false := decide_eq_false hb
        have d2 : decide ((now : Int) < (bs : Int)) = false := decide_eq_false (by omega)
        have hnx := e_next HM2.out HOK.out hi9
        have hok6 : OkE (nextE E).2 (i + 1) := (nextE_ok HOK.out).more (Nat.le_succ _)
        have hff := fun (j k : Nat) (cf : Cf) (s' : Cs) h hj => nextE_first (E := E) (by rw [HNW.out, HBS.out]; exact hb) (j := j) (k := k) (cf := cf) (s' := s') h hj
        have hkl : (nextE E).1.2.2 = 0 → (nextE E).1.1 ≤ n := fun h0 => by
          obtain ⟨_, _, _, _, hq, _⟩ := nextE_who h0
          rcases Nat.lt_or_ge (nextE E).1.1 E.q.length with h' | h'
          · have := HQN.out; omega
          · rw [List.getElem?_eq_none h'] at hq; cases hq
        obtain ⟨⟨kk, ⟨x0, x1, x2⟩, r⟩, hR⟩ : ∃ R, (nextE E).1 = R := ⟨_, rfl⟩
        obtain ⟨E2, hE2⟩ : ∃ E2, (nextE E).2 = E2 := ⟨_, rfl⟩
        have hcf6 := nextE_cfs E
        have hsa := HSA.out
        rw [hR, hE2] at hnx
        rw [hE2] at hok6 hcf6 hsa
        simp only [hR, hE2] at hff hkl
        rw [HPL.out.1, HPL.out.2, HNW.out] at hff
        rw [HPL.out.1, HPL.out.2, HNW.out] at hsa
        obtain ⟨kq, hkq⟩ : ∃ kq, (if r = 0 then kk else n) = kq := ⟨_, rfl⟩
        have hkqn : kq ≤ n := by
          rw [← hkq]
          split
          · rename_i h0; exact hkl h0
          · exact Nat.le_refl _
        have hff2 : ∀ (j k : Nat) (cf : Cf) (s' : Cs), j < kq → E2.q[j]? = some (k, cf, s') → goesB pl pace now j cf s' = false := fun j k cf s' hj h => hff j k cf s' h (fun h0 => by rw [if_pos h0] at hkq; rw [hkq]; exact hj)
        have HNX := Lib.hid hnx
        have HOK6 := Lib.hid hok6
        have HCS6 := Lib.hid (hcf6.trans HCS.out)
        have HSA6 := Lib.hid hsa
        have HKQ := Lib.hid hkq
        have HFF := Lib.hid hff2
        clear hb hnx hok6 hff hkl hR hE2 hcf6 hsa hkq hff2
        dsimp only at HNX
        go_wp2_with fail
        refine (HNX.out).mono ?_
        rintro x w6 ⟨rfl, hM6⟩
        go_upto_region 17 with fail
        have H7 := Lib.hid ((m_box hM6 #[.int .u32 x0, .int .u32 x1, .int .u64 x2] TP).perm (List.Perm.swap _ _ _))
        clear hM6 HNX d1 d2
        generalize w6.alloc (.cells #[.int .u32 x0, .int .u32 x1, .int .u64 x2] TP) = w7 at *
        generalize w6.heap.size = PB at *
        obtain ⟨rb, hrb⟩ : ∃ b, ((r : Int) != 0) = b := ⟨_, rfl⟩
        have HRB := Lib.hid hrb
        go_upto_if 72 with fail
        clear hrb
        go_cut [9] (fun v9 wc => v9 = .int .i64 kq ∧ Made W wc (egC e E2 :: blkC PB #[.int .u32 x0, .int .u32 x1, .int .u64 x2] TP :: blkC xb (actA ⟨kd, ca, ra, le, ti⟩) TAc :: [blkC BX #[.slice ad n cc, .slice ap m cp, .int .u64 pace] TRc]))
        case first =>
          cases rb with
          | true =>
            have hr0 : r ≠ 0 := by have := HRB.out; simp at this; omega
            have hk := HKQ.out
            rw [if_neg hr0] at hk
            obtain ⟨b0, b1, b2, -⟩ := cells3 (mk_off (l1 := [_, _, _]) H7.out).1
            clear hr0
            subst hk
            go_wp2_with fail
            go_meet
            exact ⟨rfl, H7.out⟩
          | false =>
            have hr0 : r = 0 := by have := HRB.out; simp at this; omega
            have hk := HKQ.out
            rw [if_pos hr0] at hk
            clear hr0
            subst hk
            go_wp2_with fail
            go_meet
            exact ⟨rfl, H7.out⟩
        case rest =>
          obtain ⟨rfl, hM8⟩ := hcut
          obtain ⟨w8, rfl⟩ : ∃ x, x = wc := ⟨_, rfl⟩
          have H8 := Lib.hid hM8
          clear hM8 H7
          go_upto_region 20 with fail
          go_loopg [12, 13, 14, 77] (kq + 1) (fun hk2 _ _ _ v77 wr => ∃ (j : Nat), kq - j < hk2 ∧ j ≤ kq ∧ v77 = .int .i64 j ∧ Hid (Made W wr (egC e E2 :: blkC PB #[.int .u32 x0, .int .u32 x1, .int .u64 x2] TP :: blkC xb (actA ⟨kd, ca, ra, le, ti⟩) TAc :: [blkC BX #[.slice ad n cc, .slice ap m cp, .int .u64 pace] TRc])))
          case atStart => exact ⟨0, by omega, Nat.zero_le _, rfl, H8⟩
          case round =>
            obtain ⟨j, hhk, hjn, rfl, H9⟩ := hrel
            obtain ⟨wD, rfl⟩ : ∃ x, x = wr := ⟨_, rfl⟩
            have HHK := Lib.hid hhk
            clear hhk H8
            rcases Nat.lt_or_ge j kq with hjlt | hjge
            · have hj8 : j < 8 := by have h1 := HOK6.out.n2; have h2 := HSA6.out.2.2.2; have h3 := HQN.out; omega
              obtain ⟨⟨kb, cf, s⟩, hq⟩ : ∃ x, E2.q[j]? = some x := ⟨E2.q[j]'(by have h2 := HSA6.out.2.2.2; have h3 := HQN.out; omega), by simp⟩
              have hJ : (j : Int) < kq := by omega
              have hgo := HFF.out j kb cf s hjlt hq
              have hcsq : cs[j]? = some cf := by rw [← HCS6.out]; exact cfs_at hq
              obtain ⟨hf, hs⟩ := HOK6.out.q _ (List.mem_of_getElem? hq)
              dsimp only at hf hs
              have HHD := Lib.hid (e_head H9.out HOK6.out hq)
              obtain ⟨sl, hsl⟩ : ∃ sl, s.l = sl := ⟨_, rfl⟩
              rw [hsl] at HHD
              cases sl with
              | nil =>
                clear hgo hcsq hf hs hq hsl
                dsimp only [hdI, zeroI] at HHD
                go_wp2_with fail
                refine (HHD.out).mono ?_
                rintro x w10 ⟨rfl, u10⟩
                go_upto_region 23 with fail
                have HA9 := Lib.hid ((m_box (H9.out.old u10) #[.int .u32 0, .int .u32 0, .int .u64 0] TP).drop)
                clear u10 H9 HHD
                generalize w10.alloc (.cells #[.int .u32 0, .int .u32 0, .int .u64 0] TP) = w11 at *
                generalize w10.heap.size = PH at *
                refine wp_region_held_drew (S := fun _ => True) (by kernel_rfl) trivial (fun hHeld => ?_)
                refine wpAnyH_take (i := 0) (v := ?_) (by simp only [List.getElem?_toArray, List.getElem?_cons_zero, List.getElem?_cons_succ]; rfl) (by kernel_rfl) (by kernel_rfl) (by kernel_rfl) (by intro _ _ _ h; exact h) (Or.inl ⟨by rfl, ?_⟩) (by assumption) ?_
                rotate_left 1
                · intro w hSw; (try dsimp only at hSw); go_simp; try with_reducible rfl
                try simp only [Act.put, List.setIfInBounds_toArray, List.set_cons_zero, List.set_cons_succ]
                refine wpAnyH_take (i := 1) (v := ?_) (by simp only [List.getElem?_toArray, List.getElem?_cons_zero, List.getElem?_cons_succ]; rfl) (by kernel_rfl) (by kernel_rfl) (by kernel_rfl) (by intro _ _ _ h; exact h) (Or.inl ⟨by rfl, ?_⟩) (by assumption) ?_
                rotate_left 1
                · intro w hSw; (try dsimp only at hSw); go_simp; try with_reducible rfl
                try simp only [Act.put, List.setIfInBounds_toArray, List.set_cons_zero, List.set_cons_succ]
                refine wpAnyH_take (i := 2) (v := undef) (by simp only [List.getElem?_toArray, List.getElem?_cons_zero, List.getElem?_cons_succ]; rfl) (by kernel_rfl) (by kernel_rfl) (by kernel_rfl) (by intro _ _ _ h; exact h) (Or.inr ⟨by rfl, rfl⟩) (by assumption) ?_
                try simp only [Act.put, List.setIfInBounds_toArray, List.set_cons_zero, List.set_cons_succ]
                refine wpAnyH_take (i := 3) (v := undef) (by simp only [List.getElem?_toArray, List.getElem?_cons_zero, List.getElem?_cons_succ]; rfl) (by kernel_rfl) (by kernel_rfl) (by kernel_rfl) (by intro _ _ _ h; exact h) (Or.inr ⟨by rfl, rfl⟩) (by assumption) ?_
                try simp only [Act.put, List.setIfInBounds_toArray, List.set_cons_zero, List.set_cons_succ]
                refine wpAnyH_take (i := 4) (v := undef) (by simp only [List.getElem?_toArray, List.getElem?_cons_zero, List.getElem?_cons_succ]; rfl) (by kernel_rfl) (by kernel_rfl) (by kernel_rfl) (by intro _ _ _ h; exact h) (Or.inr ⟨by rfl, rfl⟩) (by assumption) ?_
                try simp only [Act.put, List.setIfInBounds_toArray, List.set_cons_zero, List.set_cons_succ]
                refine wpAnyH_take (i := 5) (v := undef) (by simp only [List.getElem?_toArray, List.getElem?_cons_zero, List.getElem?_cons_succ]; rfl) (by kernel_rfl) (by kernel_rfl) (by kernel_rfl) (by intro _ _ _ h; exact h) (Or.inr ⟨by rfl, rfl⟩) (by assumption) ?_
                try simp only [Act.put, List.setIfInBounds_toArray, List.set_cons_zero, List.set_cons_succ]
                refine wpAnyH_take (i := 6) (v := undef) (by simp only [List.getElem?_toArray, List.getElem?_cons_zero, List.getElem?_cons_succ]; rfl) (by kernel_rfl) (by kernel_rfl) (by kernel_rfl) (by intro _ _ _ h; exact h) (Or.inr ⟨by rfl, rfl⟩) (by assumption) ?_
                try simp only [Act.put, List.setIfInBounds_toArray, List.set_cons_zero, List.set_cons_succ]
                refine wpAnyH_take (i := 7) (v := undef) (by simp only [List.getElem?_toArray, List.getElem?_cons_zero, List.getElem?_cons_succ]; rfl) (by kernel_rfl) (by kernel_rfl) (by kernel_rfl) (by intro _ _ _ h; exact h) (Or.inr ⟨by rfl, rfl⟩) (by assumption) ?_
                try simp only [Act.put, List.setIfInBounds_toArray, List.set_cons_zero, List.set_cons_succ]
                refine wpAnyH_take (i := 8) (v := undef) (by simp only [List.getElem?_toArray, List.getElem?_cons_zero, List.getElem?_cons_succ]; rfl) (by kernel_rfl) (by kernel_rfl) (by kernel_rfl) (by intro _ _ _ h; exact h) (Or.inr ⟨by rfl, rfl⟩) (by assumption) ?_
                try simp only [Act.put, List.setIfInBounds_toArray, List.set_cons_zero, List.set_cons_succ]
                refine wpAnyH_take (i := 9) (v := undef) (by simp only [List.getElem?_toArray, List.getElem?_cons_zero, List.getElem?_cons_succ]; rfl) (by kernel_rfl) (by kernel_rfl) (by kernel_rfl) (by intro _ _ _ h; exact h) (Or.inr ⟨by rfl, rfl⟩) (by assumption) ?_
                try simp only [Act.put, List.setIfInBounds_toArray, List.set_cons_zero, List.set_cons_succ]
                refine wpAnyH_take (i := 10) (v := undef) (by simp only [List.getElem?_toArray, List.getElem?_cons_zero, List.getElem?_cons_succ]; rfl) (by kernel_rfl) (by kernel_rfl) (by kernel_rfl) (by intro _ _ _ h; exact h) (Or.inr ⟨by rfl, rfl⟩) (by assumption) ?_
                try simp only [Act.put, List.setIfInBounds_toArray, List.set_cons_zero, List.set_cons_succ]
                refine wpAnyH_take (i := 11) (v := undef) (by simp only [List.getElem?_toArray, List.getElem?_cons_zero, List.getElem?_cons_succ]; rfl) (by kernel_rfl) (by kernel_rfl) (by kernel_rfl) (by intro _ _ _ h; exact h) (Or.inr ⟨by rfl, rfl⟩) (by assumption) ?_
                try simp only [Act.put, List.setIfInBounds_toArray, List.set_cons_zero, List.set_cons_succ]
                refine wpAnyH_take (i := 12) (v := ?_) (by simp only [List.getElem?_toArray, List.getElem?_cons_zero, List.getElem?_cons_succ]; rfl) (by kernel_rfl) (by kernel_rfl) (by kernel_rfl) (by intro _ _ _ h; exact h) (Or.inl ⟨by rfl, ?_⟩) (by assumption) ?_
                rotate_left 1
                · intro w hSw; (try dsimp only at hSw); go_simp; try with_reducible rfl
                try simp only [Act.put, List.setIfInBounds_toArray, List.set_cons_zero, List.set_cons_succ]
                refine wpAnyH_take (i := 13) (v := ?_) (by simp only [List.getElem?_toArray, List.getElem?_cons_zero, List.getElem?_cons_succ]; rfl) (by kernel_rfl) (by kernel_rfl) (by kernel_rfl) (by intro _ _ _ h; exact h) (Or.inl ⟨by rfl, ?_⟩) (by assumption) ?_
                rotate_left 1
                · intro w hSw; (try dsimp only at hSw); go_simp; try with_reducible rfl
                try simp only [Act.put, List.setIfInBounds_toArray, List.set_cons_zero, List.set_cons_succ]
                refine wpAnyH_take (i := 14) (v := undef) (by simp only [List.getElem?_toArray, List.getElem?_cons_zero, List.getElem?_cons_succ]; rfl) (by kernel_rfl) (by kernel_rfl) (by kernel_rfl) (by intro _ _ _ h; exact h) (Or.inr ⟨by rfl, rfl⟩) (by assumption) ?_
                try simp only [Act.put, List.setIfInBounds_toArray, List.set_cons_zero, List.set_cons_succ]
                refine wpAnyH_take (i := 15) (v := undef) (by simp only [List.getElem?_toArray, List.getElem?_cons_zero, List.getElem?_cons_succ]; rfl) (by kernel_rfl) (by kernel_rfl) (by kernel_rfl) (by intro _ _ _ h; exact h) (Or.inr ⟨by rfl, rfl⟩) (by assumption) ?_
                try simp only [Act.put, List.setIfInBounds_toArray, List.set_cons_zero, List.set_cons_succ]
                refine wpAnyH_take (i := 16) (v := undef) (by simp only [List.getElem?_toArray, List.getElem?_cons_zero, List.getElem?_cons_succ]; rfl) (by kernel_rfl) (by kernel_rfl) (by kernel_rfl) (by intro _ _ _ h; exact h) (Or.inr ⟨by rfl, rfl⟩) (by assumption) ?_
                try simp only [Act.put, List.setIfInBounds_toArray, List.set_cons_zero, List.set_cons_succ]
                refine wpAnyH_take (i := 17) (v := undef) (by simp only [List.getElem?_toArray, List.getElem?_cons_zero, List.getElem?_cons_succ]; rfl) (by kernel_rfl) (by kernel_rfl) (by kernel_rfl) (by intro _ _ _ h; exact h) (Or.inr ⟨by rfl, rfl⟩) (by assumption) ?_
                try simp only [Act.put, List.setIfInBounds_toArray, List.set_cons_zero, List.set_cons_succ]
                refine wpAnyH_take (i := 18) (v := undef) (by simp only [List.getElem?_toArray, List.getElem?_cons_zero, List.getElem?_cons_succ]; rfl) (by kernel_rfl) (by kernel_rfl) (by kernel_rfl) (by intro _ _ _ h; exact h) (Or.inr ⟨by rfl, rfl⟩) (by assumption) ?_
                try simp only [Act.put, List.setIfInBounds_toArray, List.set_cons_zero, List.set_cons_succ]
                refine wpAnyH_take (i := 19) (v := undef) (by simp only [List.getElem?_toArray, List.getElem?_cons_zero, List.getElem?_cons_succ]; rfl) (by kernel_rfl) (by kernel_rfl) (by kernel_rfl) (by intro _ _ _ h; exact h) (Or.inr ⟨by rfl, rfl⟩) (by assumption) ?_
                try simp only [Act.put, List.setIfInBounds_toArray, List.set_cons_zero, List.set_cons_succ]
                refine wpAnyH_take (i := 20) (v := undef) (by simp only [List.getElem?_toArray, List.getElem?_cons_zero, List.getElem?_cons_succ]; rfl) (by kernel_rfl) (by kernel_rfl) (by kernel_rfl) (by intro _ _ _ h; exact h) (Or.inr ⟨by rfl, rfl⟩) (by assumption) ?_
                try simp only [Act.put, List.setIfInBounds_toArray, List.set_cons_zero, List.set_cons_succ]
                refine wpAnyH_take (i := 21) (v := undef) (by simp only [List.getElem?_toArray, List.getElem?_cons_zero, List.getElem?_cons_succ]; rfl) (by kernel_rfl) (by kernel_rfl) (by kernel_rfl) (by intro _ _ _ h; exact h) (Or.inr ⟨by rfl, rfl⟩) (by assumption) ?_
                try simp only [Act.put, List.setIfInBounds_toArray, List.set_cons_zero, List.set_cons_succ]
                refine wpAnyH_take (i := 22) (v := undef) (by simp only [List.getElem?_toArray, List.getElem?_cons_zero, List.getElem?_cons_succ]; rfl) (by kernel_rfl) (by kernel_rfl) (by kernel_rfl) (by intro _ _ _ h; exact h) (Or.inr ⟨by rfl, rfl⟩) (by assumption) ?_
                try simp only [Act.put, List.setIfInBounds_toArray, List.set_cons_zero, List.set_cons_succ]
                refine wpAnyH_take (i := 23) (v := undef) (by simp only [List.getElem?_toArray, List.getElem?_cons_zero, List.getElem?_cons_succ]; rfl) (by kernel_rfl) (by kernel_rfl) (by kernel_rfl) (by intro _ _ _ h; exact h) (Or.inr ⟨by rfl, rfl⟩) (by assumption) ?_
                try simp only [Act.put, List.setIfInBounds_toArray, List.set_cons_zero, List.set_cons_succ]
                refine wpAnyH_take (i := 24) (v := undef) (by simp only [List.getElem?_toArray, List.getElem?_cons_zero, List.getElem?_cons_succ]; rfl) (by kernel_rfl) (by kernel_rfl) (by kernel_rfl) (by intro _ _ _ h; exact h) (Or.inr ⟨by rfl, rfl⟩) (by assumption) ?_
                try simp only [Act.put, List.setIfInBounds_toArray, List.set_cons_zero, List.set_cons_succ]
                refine wpAnyH_take (i := 25) (v := undef) (by simp only [List.getElem?_toArray, List.getElem?_cons_zero, List.getElem?_cons_succ]; rfl) (by kernel_rfl) (by kernel_rfl) (by kernel_rfl) (by intro _ _ _ h; exact h) (Or.inr ⟨by rfl, rfl⟩) (by assumption) ?_
                try simp only [Act.put, List.setIfInBounds_toArray, List.set_cons_zero, List.set_cons_succ]
                refine wpAnyH_take (i := 26) (v := undef) (by simp only [List.getElem?_toArray, List.getElem?_cons_zero, List.getElem?_cons_succ]; rfl) (by kernel_rfl) (by kernel_rfl) (by kernel_rfl) (by intro _ _ _ h; exact h) (Or.inr ⟨by rfl, rfl⟩) (by assumption) ?_
                try simp only [Act.put, List.setIfInBounds_toArray, List.set_cons_zero, List.set_cons_succ]
                refine wpAnyH_take (i := 27) (v := ?_) (by simp only [List.getElem?_toArray, List.getElem?_cons_zero, List.getElem?_cons_succ]; rfl) (by kernel_rfl) (by kernel_rfl) (by kernel_rfl) (by intro _ _ _ h; exact h) (Or.inl ⟨by rfl, ?_⟩) (by assumption) ?_
                rotate_left 1
                · intro w hSw; (try dsimp only at hSw); go_simp; try with_reducible rfl
                try simp only [Act.put, List.setIfInBounds_toArray, List.set_cons_zero, List.set_cons_succ]
                refine wpAnyH_done (by kernel_rfl) ?_ _
                go_wp2_with fail
                go_roundg (kq - j)
                case rel => exact ⟨j + 1, by omega, by omega, rfl, Lib.hid (HA9.out.old ((Upd.refl _ _).drew))⟩
                case measure => have := HHK.out; omega
              | cons a t =>
                obtain ⟨rk, ⟨y0, y1, y2, y3, y4⟩⟩ := a
                have hit := hs.its (rk, (y0, y1, y2, y3, y4)) (by rw [hsl]; exact List.mem_cons_self ..)
                dsimp only at hit
                have hor := goes_no hgo hsl
                obtain ⟨tk, htk⟩ : ∃ tk, tks pace y2 = tk := ⟨_, rfl⟩
                have htk1 : 1 ≤ tk := by
                  rw [← htk]
                  unfold tks
                  have h1 := HOK6.out.pc1
                  rw [HSA6.out.2.1] at h1
                  have : 1 * 1 ≤ y2 * pace := Nat.mul_le_mul hit.1 h1
                  omega
                dsimp only at hor
                rw [htk] at hor
                have HMUL := fun u => Lib.hid (Sat.ref_mul y2 pace (by omega) HPC.out u)
                rw [show min (y2 * pace) 18446744073709551615 = tk from htk] at HMUL
                obtain ⟨g, o, rfl, -, -, m2, -⟩ := (HCA.out.old H9.out.upd).cells hcsq
                have HNOW := fun u hM => Lib.hid (e_now (w0 := W) (w := u) (e := e) (E := E2) (l := blkC PB #[.int .u32 x0, .int .u32 x1, .int .u64 x2] TP :: blkC xb (actA ⟨kd, ca, ra, le, ti⟩) TAc :: [blkC BX #[.slice (some ⟨g, o, none⟩) n cc, .slice ap m cp, .int .u64 pace] TRc]) hM HOK6.out)
                rw [HSA6.out.2.2.1] at HNOW
                have HCT := fun u hM => Lib.hid (e_credit (w0 := W) (w := u) (e := e) (E := E2) (l := blkC PB #[.int .u32 x0, .int .u32 x1, .int .u64 x2] TP :: blkC xb (actA ⟨kd, ca, ra, le, ti⟩) TAc :: [blkC BX #[.slice (some ⟨g, o, none⟩) n cc, .slice ap m cp, .int .u64 pace] TRc]) hM HOK6.out hq)
                have HOPN := fun u (hu : Upd Nowhere W u) => Lib.hid (open_law (ad := some ⟨g, o, none⟩) (n := n) (cc := cc) (cp := cp) (pace := pace) (HP.out.old hu) (by rw [← HSA6.out.1]; exact HOK6.out.pl2) tk hj8 (Nat.lt_succ_of_le hnow))
                rw [HMM.out] at HOPN
                have HOR := Lib.hid hor
                have HTK1 := Lib.hid htk1
                have HQ := Lib.hid hq
                clear hgo hcsq hf hs hq hsl hit htk htk1 hor
                have hjn2 : (j : Int) < (n : Int) := by omega
                dsimp only [hdI] at HHD
                go_wp2_with fail
                refine (HHD.out).mono ?_
                rintro x w10 ⟨rfl, u10⟩
                go_upto_region 23 with fail
                have HA9 := Lib.hid ((m_box (H9.out.old u10) #[.int .u32 y0, .int .u32 y1, .int .u64 y2] TP))
                have k2 := cell_old (Upd.refl Nowhere _ |>.alloc (.cells #[.int .u32 y0, .int .u32 y1, .int .u64 y2] TP)) (cell_old u10 m2)
                clear u10 H9 HHD m2
                generalize w10.alloc (.cells #[.int .u32 y0, .int .u32 y1, .int .u64 y2] TP) = w11 at *
                generalize w10.heap.size = PH at *
                obtain ⟨p0, p1, p2, -⟩ := cells3 (mk_off (l1 := []) HA9.out).1
                obtain ⟨b0, b1, b2, -⟩ := cells3 (mk_off (l1 := [_, _, _, _]) HA9.out).1
                have HB9 := Lib.hid HA9.out.drop
                clear HA9
                rcases HOR.out with ho | ⟨ho, hcr, hvn⟩
                · have hol := openL_no HTK1.out ho
                  rw [hol] at HOPN
                  clear ho hol
                  refine wp_region_held_drew (S := fun w' => w'.cell? ⟨BX, 0, none⟩ = some (.slice (some ⟨g, o, none⟩) n cc) ∧ w'.cell? ⟨BX, 1, none⟩ = some (.slice ap m cp) ∧ w'.cell? ⟨BX, 2, none⟩ = some (.int .u64 pace) ∧ w'.cell? ⟨PH, 2, none⟩ = some (.int .u64 y2) ∧ w'.cell? ⟨g, o + j * 16 + 2, none⟩ = some (.bool cf.credit) ∧ w'.cell? ⟨PH, 0, none⟩ = some (.int .u32 y0)) (by kernel_rfl) (six_old ⟨b0, b1, b2, p2, k2, p0⟩ ((Upd.refl _ _).drew)) (fun hHeld => ?_)
                  refine wpAnyH_take (i := 0) (v := ?_) (by simp only [List.getElem?_toArray, List.getElem?_cons_zero, List.getElem?_cons_succ]; rfl) (by kernel_rfl) (by kernel_rfl) (by kernel_rfl) (by intro _ _ _ h; exact h) (Or.inl ⟨by rfl, ?_⟩) (by assumption) ?_
                  rotate_left 1
                  · intro w hSw; (try dsimp only at hSw); go_simp; try with_reducible rfl
                  try simp only [Act.put, List.setIfInBounds_toArray, List.set_cons_zero, List.set_cons_succ]
                  refine wpAnyH_take (i := 1) (v := ?_) (by simp only [List.getElem?_toArray, List.getElem?_cons_zero, List.getElem?_cons_succ]; rfl) (by kernel_rfl) (by kernel_rfl) (by kernel_rfl) (by intro _ _ _ h; exact h) (Or.inl ⟨by rfl, ?_⟩) (by assumption) ?_
                  rotate_left 1
                  · intro w hSw; (try dsimp only at hSw); go_simp; try with_reducible rfl
                  try simp only [Act.put, List.setIfInBounds_toArray, List.set_cons_zero, List.set_cons_succ]
                  refine wpAnyH_take (i := 2) (v := ?_) (by simp only [List.getElem?_toArray, List.getElem?_cons_zero, List.getElem?_cons_succ]; rfl) (by kernel_rfl) (by kernel_rfl) (by kernel_rfl) (by intro _ _ _ h; exact h) (Or.inl ⟨by rfl, ?_⟩) (by assumption) ?_
                  rotate_left 1
                  · intro w hSw; (try dsimp only at hSw); go_simp; try with_reducible rfl
                  try simp only [Act.put, List.setIfInBounds_toArray, List.set_cons_zero, List.set_cons_succ]
                  refine wpAnyH_take (i := 3) (v := ?_) (by simp only [List.getElem?_toArray, List.getElem?_cons_zero, List.getElem?_cons_succ]; rfl) (by kernel_rfl) (by kernel_rfl) (by kernel_rfl) (by intro _ _ _ h; exact h) (Or.inl ⟨by rfl, ?_⟩) (by assumption) ?_
                  rotate_left 1
                  · intro w hSw; (try dsimp only at hSw); go_simp; try with_reducible rfl
                  try simp only [Act.put, List.setIfInBounds_toArray, List.set_cons_zero, List.set_cons_succ]
                  refine wpAnyH_take (i := 4) (v := ?_) (by simp only [List.getElem?_toArray, List.getElem?_cons_zero, List.getElem?_cons_succ]; rfl) (by kernel_rfl) (by kernel_rfl) (by kernel_rfl) (by intro _ _ _ h; exact h) (Or.inl ⟨by rfl, ?_⟩) (by assumption) ?_
                  rotate_left 1
                  · intro w hSw; (try dsimp only at hSw); go_simp; try with_reducible rfl
                  try simp only [Act.put, List.setIfInBounds_toArray, List.set_cons_zero, List.set_cons_succ]
                  refine wpAnyH_take (i := 6) (v := ?_) (by simp only [List.getElem?_toArray, List.getElem?_cons_zero, List.getElem?_cons_succ]; rfl) (by kernel_rfl) (by kernel_rfl) (by kernel_rfl) (by intro _ _ _ h; exact h) (Or.inl ⟨by rfl, ?_⟩) (by assumption) ?_
                  rotate_left 1
                  · intro w hSw; (try dsimp only at hSw); go_simp; try with_reducible rfl
                  try simp only [Act.put, List.setIfInBounds_toArray, List.set_cons_zero, List.set_cons_succ]
                  refine wpAnyH_take (i := 7) (v := ?_) (by simp only [List.getElem?_toArray, List.getElem?_cons_zero, List.getElem?_cons_succ]; rfl) (by kernel_rfl) (by kernel_rfl) (by kernel_rfl) (by intro _ _ _ h; exact h) (Or.inl ⟨by rfl, ?_⟩) (by assumption) ?_
                  rotate_left 1
                  · intro w hSw; (try dsimp only at hSw); go_simp; try with_reducible rfl
                  try simp only [Act.put, List.setIfInBounds_toArray, List.set_cons_zero, List.set_cons_succ]
                  refine wpAnyH_take (i := 8) (v := ?_) (by simp only [List.getElem?_toArray, List.getElem?_cons_zero, List.getElem?_cons_succ]; rfl) (by kernel_rfl) (by kernel_rfl) (by kernel_rfl) (by intro _ _ _ h; exact h) (Or.inl ⟨by rfl, ?_⟩) (by assumption) ?_
                  rotate_left 1
                  · intro w hSw; (try dsimp only at hSw); go_simp; try with_reducible rfl
                  try simp only [Act.put, List.setIfInBounds_toArray, List.set_cons_zero, List.set_cons_succ]
                  refine wpAnyH_take (i := 9) (v := ?_) (by simp only [List.getElem?_toArray, List.getElem?_cons_zero, List.getElem?_cons_succ]; rfl) (by kernel_rfl) (by kernel_rfl) (by kernel_rfl) (by intro _ _ _ h; exact h) (Or.inl ⟨by rfl, ?_⟩) (by assumption) ?_
                  rotate_left 1
                  · intro w hSw; (try dsimp only at hSw); go_simp; try with_reducible rfl
                  try simp only [Act.put, List.setIfInBounds_toArray, List.set_cons_zero, List.set_cons_succ]
                  have HC9 := Lib.hid (HB9.out.old ((Upd.refl _ _).drew))
                  clear HB9
                  refine wpAnyH_ready (rs := [5]) (by kernel_rfl) (by simp) ?_
                  refine AllReadyH.cons (by simp only [List.getElem?_toArray, List.getElem?_cons_zero, List.getElem?_cons_succ]; rfl) (fun K9 hK => ?_) AllReadyH.nil
                  go_simp
                  refine ((HNOW _ HC9.out).out).mono ?_
                  rintro x w12 ⟨rfl, rfl⟩
                  refine hK.out _ _ (by (try dsimp only); exact hHeld) (fun hHeld => ?_)
                  clear hK K9
                  refine wpAnyH_ready (rs := [10]) (by kernel_rfl) (by simp) ?_
                  refine AllReadyH.cons (by simp only [List.getElem?_toArray, List.getElem?_cons_zero, List.getElem?_cons_succ]; rfl) (fun K9 hK => ?_) AllReadyH.nil
                  go_simp
                  refine ((HMUL _).out).mono ?_
                  rintro x w13 ⟨rfl, u13⟩
                  have HD9 := Lib.hid (HC9.out.old u13)
                  refine hK.out _ _ (by (try dsimp only); exact six_old hHeld u13) (fun hHeld => ?_)
                  clear hK K9
                  refine wpAnyH_ready (rs := [11]) (by kernel_rfl) (by simp) ?_
                  refine AllReadyH.cons (by simp only [List.getElem?_toArray, List.getElem?_cons_zero, List.getElem?_cons_succ]; rfl) (fun K9 hK => ?_) AllReadyH.nil
                  go_simp
                  refine ((HOPN _ HD9.out.upd).out).mono ?_
                  rintro x w14 ⟨rfl, u14⟩
                  have HE9 := Lib.hid (HD9.out.old u14)
                  refine hK.out _ _ (by (try dsimp only); exact six_old hHeld u14) (fun hHeld => ?_)
                  clear hK K9
                  refine wpAnyH_take (i := 12) (v := ?_) (by simp only [List.getElem?_toArray, List.getElem?_cons_zero, List.getElem?_cons_succ]; rfl) (by kernel_rfl) (by kernel_rfl) (by kernel_rfl) (by intro _ _ _ h; exact h) (Or.inl ⟨by rfl, ?_⟩) (by assumption) ?_
                  rotate_left 1
                  · intro w hSw; (try dsimp only at hSw); go_simp; try with_reducible rfl
                  try simp only [Act.put, List.setIfInBounds_toArray, List.set_cons_zero, List.set_cons_succ]
                  refine wpAnyH_take (i := 13) (v := ?_) (by simp only [List.getElem?_toArray, List.getElem?_cons_zero, List.getElem?_cons_succ]; rfl) (by kernel_rfl) (by kernel_rfl) (by kernel_rfl) (by intro _ _ _ h; exact h) (Or.inl ⟨by rfl, ?_⟩) (by assumption) ?_
                  rotate_left 1
                  · intro w hSw; (try dsimp only at hSw); go_simp; try with_reducible rfl
                  try simp only [Act.put, List.setIfInBounds_toArray, List.set_cons_zero, List.set_cons_succ]
                  refine wpAnyH_take (i := 14) (v := undef) (by simp only [List.getElem?_toArray, List.getElem?_cons_zero, List.getElem?_cons_succ]; rfl) (by kernel_rfl) (by kernel_rfl) (by kernel_rfl) (by intro _ _ _ h; exact h) (Or.inr ⟨by rfl, rfl⟩) (by assumption) ?_
                  try simp only [Act.put, List.setIfInBounds_toArray, List.set_cons_zero, List.set_cons_succ]
                  refine wpAnyH_take (i := 15) (v := undef) (by simp only [List.getElem?_toArray, List.getElem?_cons_zero, List.getElem?_cons_succ]; rfl) (by kernel_rfl) (by kernel_rfl) (by kernel_rfl) (by intro _ _ _ h; exact h) (Or.inr ⟨by rfl, rfl⟩) (by assumption) ?_
                  try simp only [Act.put, List.setIfInBounds_toArray, List.set_cons_zero, List.set_cons_succ]
                  refine wpAnyH_take (i := 16) (v := undef) (by simp only [List.getElem?_toArray, List.getElem?_cons_zero, List.getElem?_cons_succ]; rfl) (by kernel_rfl) (by kernel_rfl) (by kernel_rfl) (by intro _ _ _ h; exact h) (Or.inr ⟨by rfl, rfl⟩) (by assumption) ?_
                  try simp only [Act.put, List.setIfInBounds_toArray, List.set_cons_zero, List.set_cons_succ]
                  refine wpAnyH_take (i := 17) (v := undef) (by simp only [List.getElem?_toArray, List.getElem?_cons_zero, List.getElem?_cons_succ]; rfl) (by kernel_rfl) (by kernel_rfl) (by kernel_rfl) (by intro _ _ _ h; exact h) (Or.inr ⟨by rfl, rfl⟩) (by assumption) ?_
                  try simp only [Act.put, List.setIfInBounds_toArray, List.set_cons_zero, List.set_cons_succ]
                  refine wpAnyH_take (i := 18) (v := undef) (by simp only [List.getElem?_toArray, List.getElem?_cons_zero, List.getElem?_cons_succ]; rfl) (by kernel_rfl) (by kernel_rfl) (by kernel_rfl) (by intro _ _ _ h; exact h) (Or.inr ⟨by rfl, rfl⟩) (by assumption) ?_
                  try simp only [Act.put, List.setIfInBounds_toArray, List.set_cons_zero, List.set_cons_succ]
                  refine wpAnyH_take (i := 19) (v := undef) (by simp only [List.getElem?_toArray, List.getElem?_cons_zero, List.getElem?_cons_succ]; rfl) (by kernel_rfl) (by kernel_rfl) (by kernel_rfl) (by intro _ _ _ h; exact h) (Or.inr ⟨by rfl, rfl⟩) (by assumption) ?_
                  try simp only [Act.put, List.setIfInBounds_toArray, List.set_cons_zero, List.set_cons_succ]
                  refine wpAnyH_take (i := 20) (v := undef) (by simp only [List.getElem?_toArray, List.getElem?_cons_zero, List.getElem?_cons_succ]; rfl) (by kernel_rfl) (by kernel_rfl) (by kernel_rfl) (by intro _ _ _ h; exact h) (Or.inr ⟨by rfl, rfl⟩) (by assumption) ?_
                  try simp only [Act.put, List.setIfInBounds_toArray, List.set_cons_zero, List.set_cons_succ]
                  refine wpAnyH_take (i := 21) (v := undef) (by simp only [List.getElem?_toArray, List.getElem?_cons_zero, List.getElem?_cons_succ]; rfl) (by kernel_rfl) (by kernel_rfl) (by kernel_rfl) (by intro _ _ _ h; exact h) (Or.inr ⟨by rfl, rfl⟩) (by assumption) ?_
                  try simp only [Act.put, List.setIfInBounds_toArray, List.set_cons_zero, List.set_cons_succ]
                  refine wpAnyH_take (i := 22) (v := undef) (by simp only [List.getElem?_toArray, List.getElem?_cons_zero, List.getElem?_cons_succ]; rfl) (by kernel_rfl) (by kernel_rfl) (by kernel_rfl) (by intro _ _ _ h; exact h) (Or.inr ⟨by rfl, rfl⟩) (by assumption) ?_
                  try simp only [Act.put, List.setIfInBounds_toArray, List.set_cons_zero, List.set_cons_succ]
                  refine wpAnyH_take (i := 23) (v := undef) (by simp only [List.getElem?_toArray, List.getElem?_cons_zero, List.getElem?_cons_succ]; rfl) (by kernel_rfl) (by kernel_rfl) (by kernel_rfl) (by intro _ _ _ h; exact h) (Or.inr ⟨by rfl, rfl⟩) (by assumption) ?_
                  try simp only [Act.put, List.setIfInBounds_toArray, List.set_cons_zero, List.set_cons_succ]
                  refine wpAnyH_take (i := 24) (v := undef) (by simp only [List.getElem?_toArray, List.getElem?_cons_zero, List.getElem?_cons_succ]; rfl) (by kernel_rfl) (by kernel_rfl) (by kernel_rfl) (by intro _ _ _ h; exact h) (Or.inr ⟨by rfl, rfl⟩) (by assumption) ?_
                  try simp only [Act.put, List.setIfInBounds_toArray, List.set_cons_zero, List.set_cons_succ]
                  refine wpAnyH_take (i := 25) (v := undef) (by simp only [List.getElem?_toArray, List.getElem?_cons_zero, List.getElem?_cons_succ]; rfl) (by kernel_rfl) (by kernel_rfl) (by kernel_rfl) (by intro _ _ _ h; exact h) (Or.inr ⟨by rfl, rfl⟩) (by assumption) ?_
                  try simp only [Act.put, List.setIfInBounds_toArray, List.set_cons_zero, List.set_cons_succ]
                  refine wpAnyH_take (i := 26) (v := undef) (by simp only [List.getElem?_toArray, List.getElem?_cons_zero, List.getElem?_cons_succ]; rfl) (by kernel_rfl) (by kernel_rfl) (by kernel_rfl) (by intro _ _ _ h; exact h) (Or.inr ⟨by rfl, rfl⟩) (by assumption) ?_
                  try simp only [Act.put, List.setIfInBounds_toArray, List.set_cons_zero, List.set_cons_succ]
                  refine wpAnyH_take (i := 27) (v := ?_) (by simp only [List.getElem?_toArray, List.getElem?_cons_zero, List.getElem?_cons_succ]; rfl) (by kernel_rfl) (by kernel_rfl) (by kernel_rfl) (by intro _ _ _ h; exact h) (Or.inl ⟨by rfl, ?_⟩) (by assumption) ?_
                  rotate_left 1
                  · intro w hSw; (try dsimp only at hSw); go_simp; try with_reducible rfl
                  try simp only [Act.put, List.setIfInBounds_toArray, List.set_cons_zero, List.set_cons_succ]
                  refine wpAnyH_done (by kernel_rfl) ?_ _
                  go_wp2_with fail
                  go_roundg (kq - j)
                  case rel => exact ⟨j + 1, by omega, by omega, rfl, HE9⟩
                  case measure => have := HHK.out; omega
                · have hol := openL_of ho
                  rw [hol] at HOPN
                  rw [hcr] at k2
                  obtain ⟨hv, hhv⟩ : ∃ x, s.hv = x := ⟨_, rfl⟩
                  rw [hhv] at hvn
                  simp only [hhv] at HCT
                  have f1 : decide (hv ≥ 0) = false := decide_eq_false (by omega)
                  have f2 : decide (0 ≤ hv) = false := decide_eq_false (by omega)
                  clear ho hol hcr hhv hvn
                  refine wp_region_held_drew (S := fun w' => w'.cell? ⟨BX, 0, none⟩ = some (.slice (some ⟨g, o, none⟩) n cc) ∧ w'.cell? ⟨BX, 1, none⟩ = some (.slice ap m cp) ∧ w'.cell? ⟨BX, 2, none⟩ = some (.int .u64 pace) ∧ w'.cell? ⟨PH, 2, none⟩ = some (.int .u64 y2) ∧ w'.cell? ⟨g, o + j * 16 + 2, none⟩ = some (.bool true) ∧ w'.cell? ⟨PH, 0, none⟩ = some (.int .u32 y0)) (by kernel_rfl) (six_old ⟨b0, b1, b2, p2, k2, p0⟩ ((Upd.refl _ _).drew)) (fun hHeld => ?_)
                  refine wpAnyH_take (i := 0) (v := ?_) (by simp only [List.getElem?_toArray, List.getElem?_cons_zero, List.getElem?_cons_succ]; rfl) (by kernel_rfl) (by kernel_rfl) (by kernel_rfl) (by intro _ _ _ h; exact h) (Or.inl ⟨by rfl, ?_⟩) (by assumption) ?_
                  rotate_left 1
                  · intro w hSw; (try dsimp only at hSw); go_simp; try with_reducible rfl
                  try simp only [Act.put, List.setIfInBounds_toArray, List.set_cons_zero, List.set_cons_succ]
                  refine wpAnyH_take (i := 1) (v := ?_) (by simp only [List.getElem?_toArray, List.getElem?_cons_zero, List.getElem?_cons_succ]; rfl) (by kernel_rfl) (by kernel_rfl) (by kernel_rfl) (by intro _ _ _ h; exact h) (Or.inl ⟨by rfl, ?_⟩) (by assumption) ?_
                  rotate_left 1
                  · intro w hSw; (try dsimp only at hSw); go_simp; try with_reducible rfl
                  try simp only [Act.put, List.setIfInBounds_toArray, List.set_cons_zero, List.set_cons_succ]
                  refine wpAnyH_take (i := 2) (v := ?_) (by simp only [List.getElem?_toArray, List.getElem?_cons_zero, List.getElem?_cons_succ]; rfl) (by kernel_rfl) (by kernel_rfl) (by kernel_rfl) (by intro _ _ _ h; exact h) (Or.inl ⟨by rfl, ?_⟩) (by assumption) ?_
                  rotate_left 1
                  · intro w hSw; (try dsimp only at hSw); go_simp; try with_reducible rfl
                  try simp only [Act.put, List.setIfInBounds_toArray, List.set_cons_zero, List.set_cons_succ]
                  refine wpAnyH_take (i := 3) (v := ?_) (by simp only [List.getElem?_toArray, List.getElem?_cons_zero, List.getElem?_cons_succ]; rfl) (by kernel_rfl) (by kernel_rfl) (by kernel_rfl) (by intro _ _ _ h; exact h) (Or.inl ⟨by rfl, ?_⟩) (by assumption) ?_
                  rotate_left 1
                  · intro w hSw; (try dsimp only at hSw); go_simp; try with_reducible rfl
                  try simp only [Act.put, List.setIfInBounds_toArray, List.set_cons_zero, List.set_cons_succ]
                  refine wpAnyH_take (i := 4) (v := ?_) (by simp only [List.getElem?_toArray, List.getElem?_cons_zero, List.getElem?_cons_succ]; rfl) (by kernel_rfl) (by kernel_rfl) (by kernel_rfl) (by intro _ _ _ h; exact h) (Or.inl ⟨by rfl, ?_⟩) (by assumption) ?_
                  rotate_left 1
                  · intro w hSw; (try dsimp only at hSw); go_simp; try with_reducible rfl
                  try simp only [Act.put, List.setIfInBounds_toArray, List.set_cons_zero, List.set_cons_succ]
                  refine wpAnyH_take (i := 6) (v := ?_) (by simp only [List.getElem?_toArray, List.getElem?_cons_zero, List.getElem?_cons_succ]; rfl) (by kernel_rfl) (by kernel_rfl) (by kernel_rfl) (by intro _ _ _ h; exact h) (Or.inl ⟨by rfl, ?_⟩) (by assumption) ?_
                  rotate_left 1
                  · intro w hSw; (try dsimp only at hSw); go_simp; try with_reducible rfl
                  try simp only [Act.put, List.setIfInBounds_toArray, List.set_cons_zero, List.set_cons_succ]
                  refine wpAnyH_take (i := 7) (v := ?_) (by simp only [List.getElem?_toArray, List.getElem?_cons_zero, List.getElem?_cons_succ]; rfl) (by kernel_rfl) (by kernel_rfl) (by kernel_rfl) (by intro _ _ _ h; exact h) (Or.inl ⟨by rfl, ?_⟩) (by assumption) ?_
                  rotate_left 1
                  · intro w hSw; (try dsimp only at hSw); go_simp; try with_reducible rfl
                  try simp only [Act.put, List.setIfInBounds_toArray, List.set_cons_zero, List.set_cons_succ]
                  refine wpAnyH_take (i := 8) (v := ?_) (by simp only [List.getElem?_toArray, List.getElem?_cons_zero, List.getElem?_cons_succ]; rfl) (by kernel_rfl) (by kernel_rfl) (by kernel_rfl) (by intro _ _ _ h; exact h) (Or.inl ⟨by rfl, ?_⟩) (by assumption) ?_
                  rotate_left 1
                  · intro w hSw; (try dsimp only at hSw); go_simp; try with_reducible rfl
                  try simp only [Act.put, List.setIfInBounds_toArray, List.set_cons_zero, List.set_cons_succ]
                  refine wpAnyH_take (i := 9) (v := ?_) (by simp only [List.getElem?_toArray, List.getElem?_cons_zero, List.getElem?_cons_succ]; rfl) (by kernel_rfl) (by kernel_rfl) (by kernel_rfl) (by intro _ _ _ h; exact h) (Or.inl ⟨by rfl, ?_⟩) (by assumption) ?_
                  rotate_left 1
                  · intro w hSw; (try dsimp only at hSw); go_simp; try with_reducible rfl
                  try simp only [Act.put, List.setIfInBounds_toArray, List.set_cons_zero, List.set_cons_succ]
                  have HC9 := Lib.hid (HB9.out.old ((Upd.refl _ _).drew))
                  clear HB9
                  refine wpAnyH_ready (rs := [5]) (by kernel_rfl) (by simp) ?_
                  refine AllReadyH.cons (by simp only [List.getElem?_toArray, List.getElem?_cons_zero, List.getElem?_cons_succ]; rfl) (fun K9 hK => ?_) AllReadyH.nil
                  go_simp
                  refine ((HNOW _ HC9.out).out).mono ?_
                  rintro x w12 ⟨rfl, rfl⟩
                  refine hK.out _ _ (by (try dsimp only); exact hHeld) (fun hHeld => ?_)
                  clear hK K9
                  refine wpAnyH_ready (rs := [10]) (by kernel_rfl) (by simp) ?_
                  refine AllReadyH.cons (by simp only [List.getElem?_toArray, List.getElem?_cons_zero, List.getElem?_cons_succ]; rfl) (fun K9 hK => ?_) AllReadyH.nil
                  go_simp
                  refine ((HMUL _).out).mono ?_
                  rintro x w13 ⟨rfl, u13⟩
                  have HD9 := Lib.hid (HC9.out.old u13)
                  refine hK.out _ _ (by (try dsimp only); exact six_old hHeld u13) (fun hHeld => ?_)
                  clear hK K9
                  refine wpAnyH_ready (rs := [11]) (by kernel_rfl) (by simp) ?_
                  refine AllReadyH.cons (by simp only [List.getElem?_toArray, List.getElem?_cons_zero, List.getElem?_cons_succ]; rfl) (fun K9 hK => ?_) AllReadyH.nil
                  go_simp
                  refine ((HOPN _ HD9.out.upd).out).mono ?_
                  rintro x w14 ⟨rfl, u14⟩
                  have HE9 := Lib.hid (HD9.out.old u14)
                  refine hK.out _ _ (by (try dsimp only); exact six_old hHeld u14) (fun hHeld => ?_)
                  clear hK K9
                  refine wpAnyH_take (i := 12) (v := ?_) (by simp only [List.getElem?_toArray, List.getElem?_cons_zero, List.getElem?_cons_succ]; rfl) (by kernel_rfl) (by kernel_rfl) (by kernel_rfl) (by intro _ _ _ h; exact h) (Or.inl ⟨by rfl, ?_⟩) (by assumption) ?_
                  rotate_left 1
                  · intro w hSw; (try dsimp only at hSw); go_simp; try with_reducible rfl
                  try simp only [Act.put, List.setIfInBounds_toArray, List.set_cons_zero, List.set_cons_succ]
                  refine wpAnyH_take (i := 13) (v := ?_) (by simp only [List.getElem?_toArray, List.getElem?_cons_zero, List.getElem?_cons_succ]; rfl) (by kernel_rfl) (by kernel_rfl) (by kernel_rfl) (by intro _ _ _ h; exact h) (Or.inl ⟨by rfl, ?_⟩) (by assumption) ?_
                  rotate_left 1
                  · intro w hSw; (try dsimp only at hSw); go_simp; try with_reducible rfl
                  try simp only [Act.put, List.setIfInBounds_toArray, List.set_cons_zero, List.set_cons_succ]
                  refine wpAnyH_take (i := 14) (v := ?_) (by simp only [List.getElem?_toArray, List.getElem?_cons_zero, List.getElem?_cons_succ]; rfl) (by kernel_rfl) (by kernel_rfl) (by kernel_rfl) (by intro _ _ _ h; exact h) (Or.inl ⟨by rfl, ?_⟩) (by assumption) ?_
                  rotate_left 1
                  · intro w hSw; (try dsimp only at hSw); go_simp; try with_reducible rfl
                  try simp only [Act.put, List.setIfInBounds_toArray, List.set_cons_zero, List.set_cons_succ]
                  refine wpAnyH_take (i := 15) (v := ?_) (by simp only [List.getElem?_toArray, List.getElem?_cons_zero, List.getElem?_cons_succ]; rfl) (by kernel_rfl) (by kernel_rfl) (by kernel_rfl) (by intro _ _ _ h; exact h) (Or.inl ⟨by rfl, ?_⟩) (by assumption) ?_
                  rotate_left 1
                  · intro w hSw; (try dsimp only at hSw); go_simp; try with_reducible rfl
                  try simp only [Act.put, List.setIfInBounds_toArray, List.set_cons_zero, List.set_cons_succ]
                  refine wpAnyH_take (i := 16) (v := ?_) (by simp only [List.getElem?_toArray, List.getElem?_cons_zero, List.getElem?_cons_succ]; rfl) (by kernel_rfl) (by kernel_rfl) (by kernel_rfl) (by intro _ _ _ h; exact h) (Or.inl ⟨by rfl, ?_⟩) (by assumption) ?_
                  rotate_left 1
                  · intro w hSw; (try dsimp only at hSw); go_simp; try with_reducible rfl
                  try simp only [Act.put, List.setIfInBounds_toArray, List.set_cons_zero, List.set_cons_succ]
                  refine wpAnyH_take (i := 17) (v := ?_) (by simp only [List.getElem?_toArray, List.getElem?_cons_zero, List.getElem?_cons_succ]; rfl) (by kernel_rfl) (by kernel_rfl) (by kernel_rfl) (by intro _ _ _ h; exact h) (Or.inl ⟨by rfl, ?_⟩) (by assumption) ?_
                  rotate_left 1
                  · intro w hSw; (try dsimp only at hSw); go_simp; try with_reducible rfl
                  try simp only [Act.put, List.setIfInBounds_toArray, List.set_cons_zero, List.set_cons_succ]
                  refine wpAnyH_take (i := 18) (v := ?_) (by simp only [List.getElem?_toArray, List.getElem?_cons_zero, List.getElem?_cons_succ]; rfl) (by kernel_rfl) (by kernel_rfl) (by kernel_rfl) (by intro _ _ _ h; exact h) (Or.inl ⟨by rfl, ?_⟩) (by assumption) ?_
                  rotate_left 1
                  · intro w hSw; (try dsimp only at hSw); go_simp; try with_reducible rfl
                  try simp only [Act.put, List.setIfInBounds_toArray, List.set_cons_zero, List.set_cons_succ]
                  refine wpAnyH_take (i := 19) (v := ?_) (by simp only [List.getElem?_toArray, List.getElem?_cons_zero, List.getElem?_cons_succ]; rfl) (by kernel_rfl) (by kernel_rfl) (by kernel_rfl) (by intro _ _ _ h; exact h) (Or.inl ⟨by rfl, ?_⟩) (by assumption) ?_
                  rotate_left 1
                  · intro w hSw; (try dsimp only at hSw); go_simp; try with_reducible rfl
                  try simp only [Act.put, List.setIfInBounds_toArray, List.set_cons_zero, List.set_cons_succ]
                  refine wpAnyH_take (i := 20) (v := ?_) (by simp only [List.getElem?_toArray, List.getElem?_cons_zero, List.getElem?_cons_succ]; rfl) (by kernel_rfl) (by kernel_rfl) (by kernel_rfl) (by intro _ _ _ h; exact h) (Or.inl ⟨by rfl, ?_⟩) (by assumption) ?_
                  rotate_left 1
                  · intro w hSw; (try dsimp only at hSw); go_simp; try with_reducible rfl
                  try simp only [Act.put, List.setIfInBounds_toArray, List.set_cons_zero, List.set_cons_succ]
                  refine wpAnyH_take (i := 21) (v := ?_) (by simp only [List.getElem?_toArray, List.getElem?_cons_zero, List.getElem?_cons_succ]; rfl) (by kernel_rfl) (by kernel_rfl) (by kernel_rfl) (by intro _ _ _ h; exact h) (Or.inl ⟨by rfl, ?_⟩) (by assumption) ?_
                  rotate_left 1
                  · intro w hSw; (try dsimp only at hSw); go_simp; try with_reducible rfl
                  try simp only [Act.put, List.setIfInBounds_toArray, List.set_cons_zero, List.set_cons_succ]
                  refine wpAnyH_take (i := 22) (v := ?_) (by simp only [List.getElem?_toArray, List.getElem?_cons_zero, List.getElem?_cons_succ]; rfl) (by kernel_rfl) (by kernel_rfl) (by kernel_rfl) (by intro _ _ _ h; exact h) (Or.inl ⟨by rfl, ?_⟩) (by assumption) ?_
                  rotate_left 1
                  · intro w hSw; (try dsimp only at hSw); go_simp; try with_reducible rfl
                  try simp only [Act.put, List.setIfInBounds_toArray, List.set_cons_zero, List.set_cons_succ]
                  refine wpAnyH_take (i := 23) (v := ?_) (by simp only [List.getElem?_toArray, List.getElem?_cons_zero, List.getElem?_cons_succ]; rfl) (by kernel_rfl) (by kernel_rfl) (by kernel_rfl) (by intro _ _ _ h; exact h) (Or.inl ⟨by rfl, ?_⟩) (by assumption) ?_
                  rotate_left 1
                  · intro w hSw; (try dsimp only at hSw); go_simp; try with_reducible rfl
                  try simp only [Act.put, List.setIfInBounds_toArray, List.set_cons_zero, List.set_cons_succ]
                  refine wpAnyH_ready (rs := [24]) (by kernel_rfl) (by simp) ?_
                  refine AllReadyH.cons (by simp only [List.getElem?_toArray, List.getElem?_cons_zero, List.getElem?_cons_succ]; rfl) (fun K9 hK => ?_) AllReadyH.nil
                  go_simp
                  refine ((HCT _ HE9.out).out).mono ?_
                  rintro x w15 ⟨rfl, u15⟩
                  have HF9 := Lib.hid (HE9.out.old u15)
                  refine hK.out _ _ (by (try dsimp only); exact six_old hHeld u15) (fun hHeld => ?_)
                  clear hK K9
                  refine wpAnyH_take (i := 25) (v := ?_) (by simp only [List.getElem?_toArray, List.getElem?_cons_zero, List.getElem?_cons_succ]; rfl) (by kernel_rfl) (by kernel_rfl) (by kernel_rfl) (by intro _ _ _ h; exact h) (Or.inl ⟨by rfl, ?_⟩) (by assumption) ?_
                  rotate_left 1
                  · intro w hSw; (try dsimp only at hSw); go_simp; try with_reducible rfl
                  try simp only [Act.put, List.setIfInBounds_toArray, List.set_cons_zero, List.set_cons_succ]
                  refine wpAnyH_take (i := 26) (v := ?_) (by simp only [List.getElem?_toArray, List.getElem?_cons_zero, List.getElem?_cons_succ]; rfl) (by kernel_rfl) (by kernel_rfl) (by kernel_rfl) (by intro _ _ _ h; exact h) (Or.inl ⟨by rfl, ?_⟩) (by assumption) ?_
                  rotate_left 1
                  · intro w hSw; (try dsimp only at hSw); go_simp; try with_reducible rfl
                  try simp only [Act.put, List.setIfInBounds_toArray, List.set_cons_zero, List.set_cons_succ]
                  refine wpAnyH_take (i := 27) (v := ?_) (by simp only [List.getElem?_toArray, List.getElem?_cons_zero, List.getElem?_cons_succ]; rfl) (by kernel_rfl) (by kernel_rfl) (by kernel_rfl) (by intro _ _ _ h; exact h) (Or.inl ⟨by rfl, ?_⟩) (by assumption) ?_
                  rotate_left 1
                  · intro w hSw; (try dsimp only at hSw); go_simp; try with_reducible rfl
                  try simp only [Act.put, List.setIfInBounds_toArray, List.set_cons_zero, List.set_cons_succ]
                  refine wpAnyH_done (by kernel_rfl) ?_ _
                  go_wp2_with fail
                  go_roundg (kq - j)
                  case rel => exact ⟨j + 1, by omega, by omega, rfl, HF9⟩
                  case measure => have := HHK.out; omega
            · obtain rfl : j = kq := by omega
              have dJ : decide ((j : Int) < j) = false := by simp
              go_wp2_with fail
              go_roundg (K - i)
              case rel => exact ⟨i + 1, E2, by omega, by omega, rfl, Lib.hid (m_drop1 (m_drop1 H9.out)), HOK6, HCS6, Lib.hid ⟨HSA6.out.1, HSA6.out.2.1⟩⟩
              case measure => have := HHK.out; have := HGK.out; omega
      · as_aux_lemma =>
        have eK4 : (kd : Int) % 4 = 3 := eK
        clear eK hr4
        go_wp2_with fail
        refine (e_tick (t := ti) HM2.out HOK.out o4).mono ?_
        rintro x w6 ⟨rfl, hM6⟩
        have HM6 := Lib.hid (m_drop1 hM6)
        have HOK6 : Hid (OkE (tickE E ti) (i + 1)) := Lib.hid ((tickE_ok HOK.out).more (Nat.le_succ _))
        clear hM6 HM2 j0 j1 j2 j3 j4
        go_wp2_with fail
        go_roundg (K - i)
        case rel => exact ⟨i + 1, _, by omega, by omega, rfl, HM6, HOK6, Lib.hid ((tickE_cfs _ _).trans HCS.out), Lib.hid ⟨((show (tickE E ti).pl = E.pl ∧ (tickE E ti).pace = E.pace ∧ True from ⟨rfl, rfl, trivial⟩)).1.trans HPL.out.1, ((show (tickE E ti).pl = E.pl ∧ (tickE E ti).pace = E.pace ∧ True from ⟨rfl, rfl, trivial⟩)).2.1.trans HPL.out.2⟩⟩
        case measure => have := HGK.out; omega
    · obtain rfl : i = K := by omega
      have dI : decide ((i : Int) < i) = false := by simp
      go_wp2_with fail
      refine (lives_any _).mono ?_
      rintro x w4 ⟨rfl, u4⟩
      go_wp2_with fail
      go_ret
      exact ⟨rfl, (HM.out.old u4).upd⟩
end Go.Proofs.YtdddfmdcjjbegaaGreat.Egs
