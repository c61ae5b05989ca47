/- EgGates, one behind the other. -/
import Derived.Test.YtdddfmdcjjbegaaGreatMeLaw
import Derived.Test.YtdddfmdcjjbegaaGreatMeP2
import Derived.Test.YtdddfmdcjjbegaaGreatMeA
import Derived.Deep.RegionHeld3
namespace Go.Proofs.YtdddfmdcjjbegaaGreat.Egs
open Go.RowKit Go.Proofs BigFrame
open RingW (It KI zI ZI VI TE)
open First (Cf VC TCl)
set_option maxHeartbeats 40000000
set_option maxRecDepth 1000000
set_option linter.unusedSimpArgs false
theorem gates_law {v0 v1 va : Value} {cs : List Cf} {pl : List (Nat × Nat)} {pace : Nat} {l : List Act} {W : World} (h0 : RowsAt W v0 cs.length (cs.flatMap fun c => (VC c).toList)) (h1 : RowsAt W v1 pl.length (pl.flatMap slt)) (hb : ∀ x ∈ pl, x.1 < 256 ∧ x.2 < 18446744073709551616) (hpc : pace ≤ 18446744073709551615) (h2 : RowsAt W va l.length (l.flatMap act)) (hl : ∀ a ∈ l, a.Ok) :
    Calls Tryz.prog 3 #[.agg #[v0, v1, .int .u64 pace], va] W fun x w' => x = .returned (.bool true) ∧ Upd Nowhere W w' := by
  obtain ⟨ad, cc, rfl, hC⟩ := cls_of h0
  obtain ⟨ap, cp, rfl, hn, hP⟩ := pln_of hb h1
  obtain ⟨al, cl, rfl, hA⟩ := acts_of h2
  clear h0 h1 h2
  obtain ⟨F, hF⟩ : ∃ F, (decide (12 < cs.length) || (decide (70 < pl.length) || decide (150 < l.length))) = F := ⟨_, rfl⟩
  have HFAR := fun u => Lib.hid (far_any (w := u) (ad := ad) (ap := ap) (al := al) (n := cs.length) (cc := cc) (m := pl.length) (cp := cp) (pace := pace) (k := l.length) (cl := cl))
  rw [hF] at HFAR
  have hM0 := m_box (Made.start W) #[.slice ad cs.length cc, .slice ap pl.length cp, .int .u64 pace] TRc
  cases F with
  | true =>
    clear hF
    obtain ⟨n, hn'⟩ : ∃ n, cs.length = n := ⟨_, rfl⟩
    obtain ⟨m, hm⟩ : ∃ m, pl.length = m := ⟨_, rfl⟩
    obtain ⟨K, hk⟩ : ∃ K, l.length = K := ⟨_, rfl⟩
    rw [hn', hm] at hM0
    rw [hn', hm, hk] at HFAR
    rw [hn', hm, hk]
    clear hC hP hA hn hl hn' hm hk
    obtain ⟨b0, b1, b2, -⟩ := cells3 (mk_off (l1 := []) hM0).1
    have HM0 := Lib.hid hM0
    clear hM0
    go_enter Tryz.func3, Tryz.ntmps3
    go_wp2_with fail
    refine ((HFAR _).out).mono ?_
    rintro x w1 ⟨rfl, u1⟩
    go_wp2_with fail
    refine (lives_any _).mono ?_
    rintro x w2 ⟨rfl, u2⟩
    go_wp2_with fail
    go_ret
    exact ⟨rfl, ((HM0.out.old u1).old u2).upd⟩
  | false =>
  have hbd : cs.length ≤ 12 ∧ pl.length ≤ 70 ∧ l.length ≤ 150 := by simp at hF; omega
  obtain ⟨hb1, hb2, hb3⟩ := hbd
  clear hF
  have HCF := fun u (hu : Upd Nowhere W u) => Lib.hid (conf_any (cc := cc) (ap := ap) (cp := cp) (m := pl.length) (pace := pace) (hC.old hu) hb1)
  have HNEW := fun w0 u L (hM : Made w0 u L) (hu : Upd Nowhere W u) (aq : Option Addr) (cq : Nat) (hq : ClsAt u aq cs) (hch : chkE cs pl pace = 0) => Lib.hid (e_new (cc := cq) (ad := aq) hM hq (hP.old hu) hn hch)
  have HNO := fun u (hu : Upd Nowhere W u) (aq : Option Addr) (cq : Nat) (hq : ClsAt u aq cs) (hch : chkE cs pl pace ≠ 0) => Lib.hid (newE_no (w := u) (cp := cp) (cc := cq) (ad := aq) hq (hP.old hu) hch)
  obtain ⟨n, hn'⟩ : ∃ n, cs.length = n := ⟨_, rfl⟩
  obtain ⟨m, hm⟩ : ∃ m, pl.length = m := ⟨_, rfl⟩
  obtain ⟨K, hk⟩ : ∃ K, l.length = K := ⟨_, rfl⟩
  rw [hm] at hb2
  rw [hk] at hb3
  rw [hn', hm] at hM0 HCF HNEW HNO
  rw [hn', hm, hk] at HFAR
  rw [hn', hm, hk]
  rw [hn'] at hb1
  obtain ⟨b0, b1, b2, -⟩ := cells3 (mk_off (l1 := []) hM0).1
  have HM0 := Lib.hid hM0
  have HNN := Lib.hid hn'
  have HMM := Lib.hid hm
  have HKK := Lib.hid hk
  have HA := Lib.hid hA
  have HP := Lib.hid hP
  have HL := Lib.hid hl
  have HPB := Lib.hid hb
  have HPC := Lib.hid hpc
  clear hM0 hC hP hA hn hl hn' hm hk hb hpc
  go_enter Tryz.func3, Tryz.ntmps3
  go_wp2_with fail
  refine ((HFAR _).out).mono ?_
  rintro x w1 ⟨rfl, u1⟩
  have HM1 := Lib.hid (HM0.out.old u1)
  clear HM0 u1 HFAR b0 b1 b2
  obtain ⟨b0, b1, b2, -⟩ := cells3 (mk_off (l1 := []) HM1.out).1
  generalize W.heap.size = BX at *
  go_wp2_with fail
  refine ((HCF _ HM1.out.upd).out).mono ?_
  rintro x w2 ⟨v, rfl, ho, u2⟩
  obtain ⟨aq, cq, rfl, hcq⟩ := cls_row HNN.out ho
  have HM2 := Lib.hid (HM1.out.old u2)
  have HCQ := Lib.hid hcq
  clear ho u2 HM1 HCF hcq b0 b1 b2
  by_cases hch : chkE cs pl pace = 0
  case neg =>
    have H := HNO _ HM2.out.upd aq cq HCQ.out hch
    obtain ⟨r, hr⟩ : ∃ r, chkE cs pl pace = r := ⟨_, rfl⟩
    rw [hr] at H hch
    have d0 : ((r : Int) != 0) = true := by simp; omega
    clear hch hr HNO HNEW
    go_wp2_with fail
    refine (H.out).mono ?_
    rintro x w3 ⟨rfl, u3⟩
    go_wp2_with fail
    refine (lives_any _).mono ?_
    rintro x w4 ⟨rfl, u4⟩
    go_wp2_with fail
    go_ret
    exact ⟨rfl, ((HM2.out.old u3).old u4).upd⟩
  case pos =>
  go_wp2_with fail
  refine ((HNEW _ _ _ HM2.out HM2.out.upd aq cq HCQ.out hch).out).mono ?_
  rintro x w3 ⟨e, vc, vp, Q, rfl, hM3, hQ⟩
  have HM3 := Lib.hid hM3
  have HOK0 : Hid (OkE ⟨vc, vp, pl, pace, 0, 0, Q⟩ 0) := Lib.hid (okE_new hch HPB.out hQ)
  have HCS0 : Hid (cfs ⟨vc, vp, pl, pace, 0, 0, Q⟩ = cs) := Lib.hid (by
    have : cfs ⟨vc, vp, pl, pace, 0, 0, Q⟩ = (Q.map fun x => x.2).map fun x => x.1 := by unfold cfs; rw [List.map_map]; rfl
    rw [this, hQ, List.map_map]
    simp [Function.comp_def])
  have HQ0 := Lib.hid hQ
  have HCH := Lib.hid hch
  clear hM3 hQ hch HNEW HNO HM2
  go_upto_region 8 with fail
  go_loopg [7, 8, 9, 10, 11, 12, 13, 33] (K + 1) (fun gk v7 _ _ _ _ _ _ v33 wr => ∃ (i : Nat) (E : Eg), K - i < gk ∧ i ≤ K ∧ v7 = .int .u64 E.busy ∧ v33 = .int .i64 i ∧ Hid (Made W wr (egC e E :: [blkC BX #[.slice ad n cc, .slice ap m cp, .int .u64 pace] TRc])) ∧ Hid (OkE E i) ∧ Hid (E.pl = pl ∧ E.pace = pace))
  case atStart => exact ⟨0, _, by omega, Nat.zero_le _, rfl, rfl, HM3, HOK0, Lib.hid ⟨rfl, rfl⟩⟩
  case round =>
    obtain ⟨i, E, hgk, hin, rfl, rfl, HM, HOK, HPL⟩ := hrel
    obtain ⟨wB, rfl⟩ : ∃ x, x = wr := ⟨_, rfl⟩
    have HGK := Lib.hid hgk
    clear hgk HM3 HOK0
    rcases Nat.lt_or_ge i K with hlt | hge
    · obtain ⟨⟨kd, ca, ra, le, ti⟩, hx⟩ : ∃ x, l[i]? = some x := ⟨l[i]'(by have := HKK.out; omega), by simp⟩
      obtain ⟨o1, o2, o3, o4⟩ := HL.out _ (List.mem_of_getElem? hx)
      have HX := Lib.hid hx
      obtain ⟨ga, oa, rfl, r0, r1, r2, r3, r4⟩ := HA.out.get HM.out.upd hx
      dsimp only at o1 o2 o3 o4 r0 r1 r2 r3 r4
      have hI : (i : Int) < K := by omega
      have hI32 : i < 4294967296 := by omega
      have hi9 : i < 1000000000 := by omega
      have eK : (kd : Int) % 4 = ((kd % 4 : Nat) : Int) := rfl
      have hr4 : kd % 4 < 4 := Nat.mod_lt _ (by omega)
      generalize kd % 4 = k4 at *
      have hM2 := m_box HM.out (actA ⟨kd, ca, ra, le, ti⟩) TAc
      have HM2 := Lib.hid (hM2.perm (List.Perm.swap _ _ _))
      clear hx hM2 HM
      go_upto_region 10 with fail
      obtain ⟨wA, hwA⟩ : ∃ wA, wB.alloc (.cells (actA ⟨kd, ca, ra, le, ti⟩) TAc) = wA := ⟨_, rfl⟩
      obtain ⟨xb, hxb⟩ : ∃ xb, wB.heap.size = xb := ⟨_, rfl⟩
      rw [hwA] at HM2 ⊢
      rw [hxb] at HM2
      try simp only [hxb]
      clear hwA hxb r0 r1 r2 r3 r4
      obtain ⟨j0, j1, j2, j3, j4, -⟩ := cells5 (mk_off (l1 := [_]) HM2.out).1
      rcases (show k4 = 0 ∨ k4 = 1 ∨ k4 = 2 ∨ k4 = 3 by omega) with rfl | rfl | rfl | rfl
      · as_aux_lemma =>
        have eK4 : (kd : Int) % 4 = 0 := eK
        clear eK hr4
        go_wp2_with fail
        refine wp_region_held_drew (S := fun w' => w'.cell? ⟨xb, 0, none⟩ = some (.int .u8 kd) ∧ w'.cell? ⟨xb, 1, none⟩ = some (.int .i64 ca) ∧ w'.cell? ⟨xb, 2, none⟩ = some (.int .u64 ra) ∧ w'.cell? ⟨xb, 3, none⟩ = some (.int .u64 le) ∧ w'.cell? ⟨xb, 4, none⟩ = some (.int .u64 ti)) (by kernel_rfl) ⟨j0, j1, j2, j3, j4⟩ (fun hHeld => ?_)
        refine wpAnyH_take (i := 0) (v := ?_) (by simp only [List.getElem?_toArray, List.getElem?_cons_zero, List.getElem?_cons_succ]; rfl) (by kernel_rfl) (by kernel_rfl) (by kernel_rfl) (by intro _ _ _ h; exact h) (Or.inl ⟨by rfl, ?_⟩) (by assumption) ?_
        rotate_left 1
        · intro w hSw; (try dsimp only at hSw); go_simp; try with_reducible rfl
        try simp only [Act.put, List.setIfInBounds_toArray, List.set_cons_zero, List.set_cons_succ]
        refine wpAnyH_take (i := 1) (v := ?_) (by simp only [List.getElem?_toArray, List.getElem?_cons_zero, List.getElem?_cons_succ]; rfl) (by kernel_rfl) (by kernel_rfl) (by kernel_rfl) (by intro _ _ _ h; exact h) (Or.inl ⟨by rfl, ?_⟩) (by assumption) ?_
        rotate_left 1
        · intro w hSw; (try dsimp only at hSw); go_simp; try with_reducible rfl
        try simp only [Act.put, List.setIfInBounds_toArray, List.set_cons_zero, List.set_cons_succ]
        refine wpAnyH_take (i := 2) (v := ?_) (by simp only [List.getElem?_toArray, List.getElem?_cons_zero, List.getElem?_cons_succ]; rfl) (by kernel_rfl) (by kernel_rfl) (by kernel_rfl) (by intro _ _ _ h; exact h) (Or.inl ⟨by rfl, ?_⟩) (by assumption) ?_
        rotate_left 1
        · intro w hSw; (try dsimp only at hSw); go_simp; try with_reducible rfl
        try simp only [Act.put, List.setIfInBounds_toArray, List.set_cons_zero, List.set_cons_succ]
        refine wpAnyH_take (i := 3) (v := ?_) (by simp only [List.getElem?_toArray, List.getElem?_cons_zero, List.getElem?_cons_succ]; rfl) (by kernel_rfl) (by kernel_rfl) (by kernel_rfl) (by intro _ _ _ h; exact h) (Or.inl ⟨by rfl, ?_⟩) (by assumption) ?_
        rotate_left 1
        · intro w hSw; (try dsimp only at hSw); go_simp; try with_reducible rfl
        try simp only [Act.put, List.setIfInBounds_toArray, List.set_cons_zero, List.set_cons_succ]
        refine wpAnyH_take (i := 4) (v := ?_) (by simp only [List.getElem?_toArray, List.getElem?_cons_zero, List.getElem?_cons_succ]; rfl) (by kernel_rfl) (by kernel_rfl) (by kernel_rfl) (by intro _ _ _ h; exact h) (Or.inl ⟨by rfl, ?_⟩) (by assumption) ?_
        rotate_left 1
        · intro w hSw; (try dsimp only at hSw); go_simp; try with_reducible rfl
        try simp only [Act.put, List.setIfInBounds_toArray, List.set_cons_zero, List.set_cons_succ]
        refine wpAnyH_take (i := 5) (v := ?_) (by simp only [List.getElem?_toArray, List.getElem?_cons_zero, List.getElem?_cons_succ]; rfl) (by kernel_rfl) (by kernel_rfl) (by kernel_rfl) (by intro _ _ _ h; exact h) (Or.inl ⟨by rfl, ?_⟩) (by assumption) ?_
        rotate_left 1
        · intro w hSw; (try dsimp only at hSw); go_simp; try with_reducible rfl
        try simp only [Act.put, List.setIfInBounds_toArray, List.set_cons_zero, List.set_cons_succ]
        refine wpAnyH_take (i := 6) (v := ?_) (by simp only [List.getElem?_toArray, List.getElem?_cons_zero, List.getElem?_cons_succ]; rfl) (by kernel_rfl) (by kernel_rfl) (by kernel_rfl) (by intro _ _ _ h; exact h) (Or.inl ⟨by rfl, ?_⟩) (by assumption) ?_
        rotate_left 1
        · intro w hSw; (try dsimp only at hSw); go_simp; try with_reducible rfl
        try simp only [Act.put, List.setIfInBounds_toArray, List.set_cons_zero, List.set_cons_succ]
        refine wpAnyH_ready (rs := [7]) (by kernel_rfl) (by simp) ?_
        refine AllReadyH.cons (by simp only [List.getElem?_toArray, List.getElem?_cons_zero, List.getElem?_cons_succ]; rfl) (fun K9 hK => ?_) AllReadyH.nil
        go_simp
        refine (packet_any (i := i) hI32 ⟨kd, ca, ra, le, ti⟩).mono ?_
        rintro x w5 ⟨rfl, u5⟩
        have HM5 := Lib.hid ((HM2.out.old (Upd.drew (Upd.refl _ _))).old u5)
        obtain ⟨q0, q1, q2, q3, q4, -⟩ := cells5 (mk_off (l1 := [_]) HM5.out).1
        refine hK.out _ _ (by (try dsimp only); exact ⟨q0, q1, q2, q3, q4⟩) (fun hHeld => ?_)
        clear hK K9 u5 q0 q1 q2 q3 q4
        refine wpAnyH_ready (rs := [8]) (by kernel_rfl) (by simp) ?_
        refine AllReadyH.cons (by simp only [List.getElem?_toArray, List.getElem?_cons_zero, List.getElem?_cons_succ]; rfl) (fun K9 hK => ?_) AllReadyH.nil
        go_simp
        refine (e_push HM5.out HOK.out hi9 ca ra i i le).mono ?_
        rintro x w6 ⟨rfl, hM6⟩
        obtain ⟨q0, q1, q2, q3, q4, -⟩ := cells5 (mk_off (l1 := [_]) hM6).1
        refine hK.out _ _ (by (try dsimp only); exact ⟨q0, q1, q2, q3, q4⟩) (fun hHeld => ?_)
        have HM6 := Lib.hid (m_drop1 hM6)
        have HOK6 : Hid (OkE (pushE E ca ra (i, i, le)).2 (i + 1)) := Lib.hid (pushE_ok HOK.out hI32 hI32)
        clear hK K9 q0 q1 q2 q3 q4 hM6 HM5 HM2 hHeld
        refine wpAnyH_done (by kernel_rfl) ?_ _
        go_wp2_with fail
        go_roundg (K - i)
        case rel => exact ⟨i + 1, _, by omega, by omega, by rw [(pushE_same E ca ra (i, i, le)).2.2.2.1], rfl, HM6, HOK6, Lib.hid ⟨(pushE_same E ca ra (i, i, le)).1.trans HPL.out.1, (pushE_same E ca ra (i, i, le)).2.1.trans HPL.out.2⟩⟩
        case measure => have := HGK.out; omega
      · as_aux_lemma =>
        have eK4 : (kd : Int) % 4 = 1 := eK
        clear eK hr4
        go_wp2_with fail
        refine wp_region_held_drew (S := fun w' => w'.cell? ⟨xb, 0, none⟩ = some (.int .u8 kd) ∧ w'.cell? ⟨xb, 1, none⟩ = some (.int .i64 ca) ∧ w'.cell? ⟨xb, 2, none⟩ = some (.int .u64 ra) ∧ w'.cell? ⟨xb, 3, none⟩ = some (.int .u64 le) ∧ w'.cell? ⟨xb, 4, none⟩ = some (.int .u64 ti)) (by kernel_rfl) ⟨j0, j1, j2, j3, j4⟩ (fun hHeld => ?_)
        refine wpAnyH_take (i := 0) (v := ?_) (by simp only [List.getElem?_toArray, List.getElem?_cons_zero, List.getElem?_cons_succ]; rfl) (by kernel_rfl) (by kernel_rfl) (by kernel_rfl) (by intro _ _ _ h; exact h) (Or.inl ⟨by rfl, ?_⟩) (by assumption) ?_
        rotate_left 1
        · intro w hSw; (try dsimp only at hSw); go_simp; try with_reducible rfl
        try simp only [Act.put, List.setIfInBounds_toArray, List.set_cons_zero, List.set_cons_succ]
        refine wpAnyH_take (i := 1) (v := ?_) (by simp only [List.getElem?_toArray, List.getElem?_cons_zero, List.getElem?_cons_succ]; rfl) (by kernel_rfl) (by kernel_rfl) (by kernel_rfl) (by intro _ _ _ h; exact h) (Or.inl ⟨by rfl, ?_⟩) (by assumption) ?_
        rotate_left 1
        · intro w hSw; (try dsimp only at hSw); go_simp; try with_reducible rfl
        try simp only [Act.put, List.setIfInBounds_toArray, List.set_cons_zero, List.set_cons_succ]
        refine wpAnyH_take (i := 2) (v := ?_) (by simp only [List.getElem?_toArray, List.getElem?_cons_zero, List.getElem?_cons_succ]; rfl) (by kernel_rfl) (by kernel_rfl) (by kernel_rfl) (by intro _ _ _ h; exact h) (Or.inl ⟨by rfl, ?_⟩) (by assumption) ?_
        rotate_left 1
        · intro w hSw; (try dsimp only at hSw); go_simp; try with_reducible rfl
        try simp only [Act.put, List.setIfInBounds_toArray, List.set_cons_zero, List.set_cons_succ]
        refine wpAnyH_take (i := 3) (v := ?_) (by simp only [List.getElem?_toArray, List.getElem?_cons_zero, List.getElem?_cons_succ]; rfl) (by kernel_rfl) (by kernel_rfl) (by kernel_rfl) (by intro _ _ _ h; exact h) (Or.inl ⟨by rfl, ?_⟩) (by assumption) ?_
        rotate_left 1
        · intro w hSw; (try dsimp only at hSw); go_simp; try with_reducible rfl
        try simp only [Act.put, List.setIfInBounds_toArray, List.set_cons_zero, List.set_cons_succ]
        refine wpAnyH_take (i := 4) (v := ?_) (by simp only [List.getElem?_toArray, List.getElem?_cons_zero, List.getElem?_cons_succ]; rfl) (by kernel_rfl) (by kernel_rfl) (by kernel_rfl) (by intro _ _ _ h; exact h) (Or.inl ⟨by rfl, ?_⟩) (by assumption) ?_
        rotate_left 1
        · intro w hSw; (try dsimp only at hSw); go_simp; try with_reducible rfl
        try simp only [Act.put, List.setIfInBounds_toArray, List.set_cons_zero, List.set_cons_succ]
        refine wpAnyH_take (i := 5) (v := ?_) (by simp only [List.getElem?_toArray, List.getElem?_cons_zero, List.getElem?_cons_succ]; rfl) (by kernel_rfl) (by kernel_rfl) (by kernel_rfl) (by intro _ _ _ h; exact h) (Or.inl ⟨by rfl, ?_⟩) (by assumption) ?_
        rotate_left 1
        · intro w hSw; (try dsimp only at hSw); go_simp; try with_reducible rfl
        try simp only [Act.put, List.setIfInBounds_toArray, List.set_cons_zero, List.set_cons_succ]
        refine wpAnyH_take (i := 6) (v := ?_) (by simp only [List.getElem?_toArray, List.getElem?_cons_zero, List.getElem?_cons_succ]; rfl) (by kernel_rfl) (by kernel_rfl) (by kernel_rfl) (by intro _ _ _ h; exact h) (Or.inl ⟨by rfl, ?_⟩) (by assumption) ?_
        rotate_left 1
        · intro w hSw; (try dsimp only at hSw); go_simp; try with_reducible rfl
        try simp only [Act.put, List.setIfInBounds_toArray, List.set_cons_zero, List.set_cons_succ]
        refine wpAnyH_ready (rs := [7]) (by kernel_rfl) (by simp) ?_
        refine AllReadyH.cons (by simp only [List.getElem?_toArray, List.getElem?_cons_zero, List.getElem?_cons_succ]; rfl) (fun K9 hK => ?_) AllReadyH.nil
        go_simp
        refine (packet_any (i := i) hI32 ⟨kd, ca, ra, le, ti⟩).mono ?_
        rintro x w5 ⟨rfl, u5⟩
        have HM5 := Lib.hid ((HM2.out.old (Upd.drew (Upd.refl _ _))).old u5)
        obtain ⟨q0, q1, q2, q3, q4, -⟩ := cells5 (mk_off (l1 := [_]) HM5.out).1
        refine hK.out _ _ (by (try dsimp only); exact ⟨q0, q1, q2, q3, q4⟩) (fun hHeld => ?_)
        clear hK K9 u5 q0 q1 q2 q3 q4
        refine wpAnyH_ready (rs := [8]) (by kernel_rfl) (by simp) ?_
        refine AllReadyH.cons (by simp only [List.getElem?_toArray, List.getElem?_cons_zero, List.getElem?_cons_succ]; rfl) (fun K9 hK => ?_) AllReadyH.nil
        go_simp
        refine (e_push HM5.out HOK.out hi9 ca ra i i le).mono ?_
        rintro x w6 ⟨rfl, hM6⟩
        obtain ⟨q0, q1, q2, q3, q4, -⟩ := cells5 (mk_off (l1 := [_]) hM6).1
        refine hK.out _ _ (by (try dsimp only); exact ⟨q0, q1, q2, q3, q4⟩) (fun hHeld => ?_)
        have HM6 := Lib.hid (m_drop1 hM6)
        have HOK6 : Hid (OkE (pushE E ca ra (i, i, le)).2 (i + 1)) := Lib.hid (pushE_ok HOK.out hI32 hI32)
        clear hK K9 q0 q1 q2 q3 q4 hM6 HM5 HM2 hHeld
        refine wpAnyH_done (by kernel_rfl) ?_ _
        go_wp2_with fail
        go_roundg (K - i)
        case rel => exact ⟨i + 1, _, by omega, by omega, by rw [(pushE_same E ca ra (i, i, le)).2.2.2.1], rfl, HM6, HOK6, Lib.hid ⟨(pushE_same E ca ra (i, i, le)).1.trans HPL.out.1, (pushE_same E ca ra (i, i, le)).2.1.trans HPL.out.2⟩⟩
        case measure => have := HGK.out; omega
      · as_aux_lemma =>
        have eK4 : (kd : Int) % 4 = 2 := eK
        clear eK hr4
        have hnx := e_next HM2.out HOK.out hi9
        have hsame := nextE_same E
        have hok6 : OkE (nextE E).2 (i + 1) := (nextE_ok HOK.out).more (Nat.le_succ _)
        by_cases h0 : (nextE E).1.2.2 = 0
        · obtain ⟨k', cf, s, x, hq, hr, hx0, _⟩ := nextE_who h0
          obtain ⟨i', x', hr', he', hby⟩ := nextE_left h0
          have hk8 : (nextE E).1.1 < 8 := by
            have : (nextE E).1.1 < E.q.length := by
              rcases Nat.lt_or_ge (nextE E).1.1 E.q.length with h' | h'
              · exact h'
              · rw [List.getElem?_eq_none h'] at hq; cases hq
            have := HOK.out.n2
            omega
          obtain ⟨q1, _⟩ := runC_spec (pl := E.pl) (pace := E.pace) (now := E.now) (i := (nextE E).1.1) (cf := cf) s.l s rfl
          obtain ⟨⟨d, r, hsl⟩, hop, _⟩ := q1 x hr
          have hxl : x.2.2.1 ≤ 65535 := ((HOK.out.q _ (List.mem_of_getElem? hq)).2.its (r, x) (by show (r, x) ∈ s.l; rw [hsl]; simp)).2.1
          have hbusy : (nextE E).2.busy = bsy E x.2.2.1 := by
            have e1 : (nextE E).1.2.1 = (x'.1, x'.2.1, x'.2.2.1) := by rw [he']
            rw [hx0] at e1
            have e2 : x.2.2.1 = x'.2.2.1 := by injection e1 with _ e1; injection e1
            rw [he', e2]
          rw [h0, hx0] at hnx
          have hopl := openL_of hop
          obtain ⟨kk, hkk⟩ : ∃ kk, (nextE E).1.1 = kk := ⟨_, rfl⟩
          rw [hkk] at hnx hk8 hopl
          obtain ⟨x0, x1, x2, x3, x4⟩ := x
          dsimp only at hnx hopl hxl hbusy
          obtain ⟨now, hnow⟩ : ∃ now, E.now = now := ⟨_, rfl⟩
          obtain ⟨by0, hby0⟩ : ∃ b, E.busy = b := ⟨_, rfl⟩
          obtain ⟨tk, htk⟩ : ∃ tk, tks E.pace x2 = tk := ⟨_, rfl⟩
          have hby2 : bsy E x2 = min (now + tk) 18446744073709551615 := by unfold bsy; rw [htk, hnow]
          have htk2 : min (x2 * pace) 18446744073709551615 = tk := by rw [← htk, HPL.out.2]; rfl
          have hnowl := HOK.out.now
          rw [hnow, hby0] at hby
          rw [hnow] at hopl hnowl
          rw [htk] at hopl
          rw [HPL.out.1] at hopl
          rw [hby0]
          have HE6 := fun u hM => Lib.hid (e_now (w0 := W) (w := u) (e := e) (E := (nextE E).2) (l := [blkC BX #[.slice ad n cc, .slice ap m cp, .int .u64 pace] TRc]) hM hok6)
          have HB6 := fun u hM => Lib.hid (e_busy (w0 := W) (w := u) (e := e) (E := (nextE E).2) (l := [blkC BX #[.slice ad n cc, .slice ap m cp, .int .u64 pace] TRc]) hM hok6)
          rw [hsame.2.2.1, hnow] at HE6
          rw [hbusy, hby2] at HB6
          have HMUL := fun u => Lib.hid (Sat.ref_mul x2 pace (by omega) HPC.out u)
          rw [htk2] at HMUL
          have htkl : tk ≤ 18446744073709551615 := by rw [← htk2]; exact Nat.min_le_right _ _
          have HADD := fun u => Lib.hid (Sat.ref_add now tk hnowl htkl u)
          obtain ⟨by1, hby1⟩ : ∃ b, min (now + tk) 18446744073709551615 = b := ⟨_, rfl⟩
          rw [hby1] at hby2 HB6 HADD
          have HOPN := fun u (hu : Upd Nowhere W u) => Lib.hid (open_law (ad := ad) (n := n) (cc := cc) (cp := cp) (pace := pace) (HP.out.old hu) (by rw [← HPL.out.1]; exact HOK.out.pl2) tk hk8 (Nat.lt_succ_of_le hnowl))
          rw [hopl, HMM.out] at HOPN
          have HPL6 := Lib.hid (And.intro (hsame.1.trans HPL.out.1) (hsame.2.1.trans HPL.out.2))
          have HBY := Lib.hid (hbusy.trans hby2)
          have HOK6 := Lib.hid hok6
          have HNX := Lib.hid hnx
          have dn : decide (now < by0) = false := decide_eq_false (by omega)
          have dn2 : decide ((now : Int) < (by0 : Int)) = false := decide_eq_false (by omega)
          clear hnx hsame hok6 h0 hq hr hx0 hr' he' hby hk8 q1 hsl hop hxl hbusy hopl hkk hnow hby0 htk hby2 htk2 hnowl htkl hby1
          go_wp2_with fail
          refine (HNX.out).mono ?_
          rintro x w6 ⟨rfl, hM6⟩
          go_upto_region 17 with fail
          have HM6 := Lib.hid ((m_box (m_drop1 hM6) #[.int .u32 x0, .int .u32 x1, .int .u64 x2] TP).perm (List.Perm.swap _ _ _))
          clear hM6 HNX HM2 j0 j1 j2 j3 j4
          generalize w6.alloc (.cells #[.int .u32 x0, .int .u32 x1, .int .u64 x2] TP) = w7 at *
          generalize w6.heap.size = PB at *
          obtain ⟨p0, p1, p2, -⟩ := cells3 (mk_off (l1 := [_]) HM6.out).1
          obtain ⟨b0, b1, b2, -⟩ := cells3 (mk_off (l1 := [_, _]) HM6.out).1
          go_wp2_with fail
          refine ((HMUL _).out).mono ?_
          rintro x w8 ⟨rfl, u8⟩
          have HM8 := Lib.hid (m_drop1 (HM6.out.old u8))
          clear HM6 u8 p0 p1 p2 b0 b1 b2 HMUL
          go_upto_region 19 with fail
          obtain ⟨b0, b1, b2, -⟩ := cells3 (mk_off (l1 := [_]) HM8.out).1
          have HF : ∀ u, Upd Nowhere w8 u → u.cell? ⟨BX, 0, none⟩ = some (.slice ad n cc) ∧ u.cell? ⟨BX, 1, none⟩ = some (.slice ap m cp) ∧ u.cell? ⟨BX, 2, none⟩ = some (.int .u64 pace) := fun u hu => ⟨cell_old hu b0, cell_old hu b1, cell_old hu b2⟩
          have HE7 := fun u (hu : Upd Nowhere w8 u) => HE6 u (HM8.out.old hu)
          have HO7 := fun u (hu : Upd Nowhere w8 u) => HOPN u (HM8.out.upd.trans hu (fun _ _ h => h))
          clear HOPN
          go_region_held3 (fun w' => Upd Nowhere w8 w' ∧ w'.cell? ⟨BX, 0, none⟩ = some (.slice ad n cc) ∧ w'.cell? ⟨BX, 1, none⟩ = some (.slice ap m cp) ∧ w'.cell? ⟨BX, 2, none⟩ = some (.int .u64 pace)) (first | exact gk_start HF ((Upd.refl _ _).drew) | assumption) (first
            | (go_at_call 17; refine (gk_same HF (HE7 _ (by have h9 := ‹Upd Nowhere w8 _ ∧ _›; exact h9.1)).out (by assumption)).mono ?_; rintro y w9 ⟨rfl, _, _⟩)
            | (go_at_call 18; refine (gk_call HF (HO7 _ (by have h9 := ‹Upd Nowhere w8 _ ∧ _›; exact h9.1)).out (by assumption)).mono ?_; rintro y w9 ⟨rfl, _, _⟩))
          rename_i hSF
          obtain ⟨hu9, -⟩ := hSF
          have HM9 := Lib.hid (HM8.out.old hu9)
          clear hu9 HM8 HF HE7 HO7 b0 b1 b2
          go_wp2_with fail
          refine ((HE6 _ HM9.out).out).mono ?_
          rintro x w10 ⟨rfl, rfl⟩
          go_wp2_with fail
          refine ((HADD _).out).mono ?_
          rintro x w10 ⟨rfl, u10⟩
          have HM10 := Lib.hid (HM9.out.old u10)
          clear HM9 u10 HADD
          go_wp2_with fail
          refine ((HB6 _ HM10.out).out).mono ?_
          rintro x w11 ⟨rfl, rfl⟩
          have HM10 := HM10
          clear HE6 HB6
          go_wp2_with fail
          go_roundg (K - i)
          case rel => exact ⟨i + 1, (nextE E).2, by omega, by omega, by rw [HBY.out], rfl, HM10, HOK6, HPL6⟩
          case measure => have := HGK.out; omega
        · have hby := nextE_busy h0
          obtain ⟨r, hr⟩ : ∃ r, (nextE E).1.2.2 = r := ⟨_, rfl⟩
          rw [hr] at hnx h0
          obtain ⟨kk, hkk⟩ : ∃ kk, (nextE E).1.1 = kk := ⟨_, rfl⟩
          obtain ⟨⟨x0, x1, x2⟩, hpp⟩ : ∃ p, (nextE E).1.2.1 = p := ⟨_, rfl⟩
          rw [hkk, hpp] at hnx
          dsimp only at hnx
          have HPL6 := Lib.hid (And.intro (hsame.1.trans HPL.out.1) (hsame.2.1.trans HPL.out.2))
          have HBY := Lib.hid hby
          have HOK6 := Lib.hid hok6
          have HNX := Lib.hid hnx
          have d0 : ((r : Int) != 0) = true := by simp; omega
          clear hnx hsame hok6 h0 hby hr hkk hpp
          go_wp2_with fail
          refine (HNX.out).mono ?_
          rintro x w6 ⟨rfl, hM6⟩
          go_upto_region 17 with fail
          have HM6 := Lib.hid (m_box (m_drop1 hM6) #[.int .u32 x0, .int .u32 x1, .int .u64 x2] TP).drop
          clear hM6 HNX HM2 j0 j1 j2 j3 j4
          generalize w6.alloc (.cells #[.int .u32 x0, .int .u32 x1, .int .u64 x2] TP) = w7 at *
          generalize w6.heap.size = PB at *
          go_wp2_with fail
          go_roundg (K - i)
          case rel => exact ⟨i + 1, (nextE E).2, by omega, by omega, by rw [HBY.out], rfl, HM6, HOK6, HPL6⟩
          case measure => have := HGK.out; omega
      · as_aux_lemma =>
        have eK4 : (kd : Int) % 4 = 3 := eK
        clear eK hr4
        go_wp2_with fail
        refine (e_tick (t := ti) HM2.out HOK.out o4).mono ?_
        rintro x w6 ⟨rfl, hM6⟩
        have HM6 := Lib.hid (m_drop1 hM6)
        have HOK6 : Hid (OkE (tickE E ti) (i + 1)) := Lib.hid ((tickE_ok HOK.out).more (Nat.le_succ _))
        clear hM6 HM2 j0 j1 j2 j3 j4
        go_wp2_with fail
        go_roundg (K - i)
        case rel => exact ⟨i + 1, _, by omega, by omega, by rw [((show (tickE E ti).pl = E.pl ∧ (tickE E ti).pace = E.pace ∧ True ∧ (tickE E ti).busy = E.busy ∧ True from ⟨rfl, rfl, trivial, rfl, trivial⟩)).2.2.2.1], rfl, HM6, HOK6, Lib.hid ⟨((show (tickE E ti).pl = E.pl ∧ (tickE E ti).pace = E.pace ∧ True ∧ (tickE E ti).busy = E.busy ∧ True from ⟨rfl, rfl, trivial, rfl, trivial⟩)).1.trans HPL.out.1, ((show (tickE E ti).pl = E.pl ∧ (tickE E ti).pace = E.pace ∧ True ∧ (tickE E ti).busy = E.busy ∧ True from ⟨rfl, rfl, trivial, rfl, trivial⟩)).2.1.trans HPL.out.2⟩⟩
        case measure => have := HGK.out; omega
    · obtain rfl : i = K := by omega
      have dI : decide ((i : Int) < i) = false := by simp
      go_wp2_with fail
      refine (lives_any _).mono ?_
      rintro x w4 ⟨rfl, u4⟩
      go_wp2_with fail
      go_ret
      exact ⟨rfl, (HM.out.old u4).upd⟩
end Go.Proofs.YtdddfmdcjjbegaaGreat.Egs
