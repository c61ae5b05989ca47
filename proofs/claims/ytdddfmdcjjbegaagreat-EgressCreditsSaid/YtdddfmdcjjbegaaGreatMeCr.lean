/- EgCredits, one behind the other. -/
import Derived.Test.YtdddfmdcjjbegaaGreatMeLaw
import Derived.Test.YtdddfmdcjjbegaaGreatMeP2
import Derived.Test.YtdddfmdcjjbegaaGreatMeA
import Derived.Deep.RegionHeld3
import Derived.Test.YtdddfmdcjjbegaaGreatMeRw
import Derived.Deep.DeepCutAuto
namespace Go.Proofs.YtdddfmdcjjbegaaGreat.Egs
open Go.RowKit Go.Proofs BigFrame
open RingW (It KI zI ZI VI TE)
open First (Cf VC TCl)
set_option maxHeartbeats 40000000
set_option maxRecDepth 1000000
set_option linter.unusedSimpArgs false
theorem credits_law {v0 v1 va : Value} {cs : List Cf} {pl : List (Nat × Nat)} {pace : Nat} {l : List Act} {W : World} (h0 : RowsAt W v0 cs.length (cs.flatMap fun c => (VC c).toList)) (h1 : RowsAt W v1 pl.length (pl.flatMap slt)) (hb : ∀ x ∈ pl, x.1 < 256 ∧ x.2 < 18446744073709551616) (hpc : pace ≤ 18446744073709551615) (h2 : RowsAt W va l.length (l.flatMap act)) (hl : ∀ a ∈ l, a.Ok) :
    Calls Tryz.prog 4 #[.agg #[v0, v1, .int .u64 pace], va] W fun x w' => x = .returned (.bool true) ∧ Upd Nowhere W w' := by
  obtain ⟨ad, cc, rfl, hC⟩ := cls_of h0
  obtain ⟨ap, cp, rfl, hn, hP⟩ := pln_of hb h1
  obtain ⟨al, cl, rfl, hA⟩ := acts_of h2
  clear h0 h1 h2
  obtain ⟨F, hF⟩ : ∃ F, (decide (12 < cs.length) || (decide (70 < pl.length) || decide (150 < l.length))) = F := ⟨_, rfl⟩
  have HFAR := fun u => Lib.hid (far_any (w := u) (ad := ad) (ap := ap) (al := al) (n := cs.length) (cc := cc) (m := pl.length) (cp := cp) (pace := pace) (k := l.length) (cl := cl))
  rw [hF] at HFAR
  have hM0 := m_box (Made.start W) #[.slice ad cs.length cc, .slice ap pl.length cp, .int .u64 pace] TRc
  cases F with
  | true =>
    clear hF
    obtain ⟨n, hn'⟩ : ∃ n, cs.length = n := ⟨_, rfl⟩
    obtain ⟨m, hm⟩ : ∃ m, pl.length = m := ⟨_, rfl⟩
    obtain ⟨K, hk⟩ : ∃ K, l.length = K := ⟨_, rfl⟩
    rw [hn', hm] at hM0
    rw [hn', hm, hk] at HFAR
    rw [hn', hm, hk]
    clear hC hP hA hn hl hn' hm hk
    obtain ⟨b0, b1, b2, -⟩ := cells3 (mk_off (l1 := []) hM0).1
    have HM0 := Lib.hid hM0
    clear hM0
    go_enter Tryz.func4, Tryz.ntmps4
    go_wp2_with fail
    refine ((HFAR _).out).mono ?_
    rintro x w1 ⟨rfl, u1⟩
    go_wp2_with fail
    refine (lives_any _).mono ?_
    rintro x w2 ⟨rfl, u2⟩
    go_wp2_with fail
    go_ret
    exact ⟨rfl, ((HM0.out.old u1).old u2).upd⟩
  | false =>
  have hbd : cs.length ≤ 12 ∧ pl.length ≤ 70 ∧ l.length ≤ 150 := by simp at hF; omega
  obtain ⟨hb1, hb2, hb3⟩ := hbd
  clear hF
  have HCF := fun u (hu : Upd Nowhere W u) => Lib.hid (conf_any (cc := cc) (ap := ap) (cp := cp) (m := pl.length) (pace := pace) (hC.old hu) hb1)
  have HNEW := fun w0 u L (hM : Made w0 u L) (hu : Upd Nowhere W u) (aq : Option Addr) (cq : Nat) (hq : ClsAt u aq cs) (hch : chkE cs pl pace = 0) => Lib.hid (e_new (cc := cq) (ad := aq) hM hq (hP.old hu) hn hch)
  have HNO := fun u (hu : Upd Nowhere W u) (aq : Option Addr) (cq : Nat) (hq : ClsAt u aq cs) (hch : chkE cs pl pace ≠ 0) => Lib.hid (newE_no (w := u) (cp := cp) (cc := cq) (ad := aq) hq (hP.old hu) hch)
  obtain ⟨n, hn'⟩ : ∃ n, cs.length = n := ⟨_, rfl⟩
  obtain ⟨m, hm⟩ : ∃ m, pl.length = m := ⟨_, rfl⟩
  obtain ⟨K, hk⟩ : ∃ K, l.length = K := ⟨_, rfl⟩
  rw [hm] at hb2
  rw [hk] at hb3
  rw [hn', hm] at hM0 HCF HNEW HNO
  rw [hn', hm, hk] at HFAR
  rw [hn', hm, hk]
  rw [hn'] at hb1
  obtain ⟨b0, b1, b2, -⟩ := cells3 (mk_off (l1 := []) hM0).1
  have HM0 := Lib.hid hM0
  have HNN := Lib.hid hn'
  have HMM := Lib.hid hm
  have HKK := Lib.hid hk
  have HA := Lib.hid hA
  have HCA := Lib.hid hC
  have HP := Lib.hid hP
  have HL := Lib.hid hl
  have HPB := Lib.hid hb
  have HPC := Lib.hid hpc
  clear hM0 hC hP hA hn hl hn' hm hk hb hpc
  go_enter Tryz.func4, Tryz.ntmps4
  go_wp2_with fail
  refine ((HFAR _).out).mono ?_
  rintro x w1 ⟨rfl, u1⟩
  have HM1 := Lib.hid (HM0.out.old u1)
  clear HM0 u1 HFAR b0 b1 b2
  obtain ⟨b0, b1, b2, -⟩ := cells3 (mk_off (l1 := []) HM1.out).1
  generalize W.heap.size = BX at *
  go_wp2_with fail
  refine ((HCF _ HM1.out.upd).out).mono ?_
  rintro x w2 ⟨v, rfl, ho, u2⟩
  obtain ⟨aq, cq, rfl, hcq⟩ := cls_row HNN.out ho
  have HM2 := Lib.hid (HM1.out.old u2)
  have HCQ := Lib.hid hcq
  clear ho u2 HM1 HCF hcq b0 b1 b2
  by_cases hch : chkE cs pl pace = 0
  case neg =>
    have H := HNO _ HM2.out.upd aq cq HCQ.out hch
    obtain ⟨r, hr⟩ : ∃ r, chkE cs pl pace = r := ⟨_, rfl⟩
    rw [hr] at H hch
    have d0 : ((r : Int) != 0) = true := by simp; omega
    clear hch hr HNO HNEW
    go_wp2_with fail
    refine (H.out).mono ?_
    rintro x w3 ⟨rfl, u3⟩
    go_wp2_with fail
    refine (lives_any _).mono ?_
    rintro x w4 ⟨rfl, u4⟩
    go_wp2_with fail
    go_ret
    exact ⟨rfl, ((HM2.out.old u3).old u4).upd⟩
  case pos =>
  go_wp2_with fail
  refine ((HNEW _ _ _ HM2.out HM2.out.upd aq cq HCQ.out hch).out).mono ?_
  rintro x w3 ⟨e, vc, vp, Q, rfl, hM3, hQ⟩
  have HM3 := Lib.hid hM3
  have HOK0 : Hid (OkE ⟨vc, vp, pl, pace, 0, 0, Q⟩ 0) := Lib.hid (okE_new hch HPB.out hQ)
  have HCS0 : Hid (cfs ⟨vc, vp, pl, pace, 0, 0, Q⟩ = cs) := Lib.hid (by
    have : cfs ⟨vc, vp, pl, pace, 0, 0, Q⟩ = (Q.map fun x => x.2).map fun x => x.1 := by unfold cfs; rw [List.map_map]; rfl
    rw [this, hQ, List.map_map]
    simp [Function.comp_def])
  have HQ0 := Lib.hid hQ
  have HCH := Lib.hid hch
  clear hM3 hQ hch HNEW HNO HM2
  go_upto_region 7 with fail
  have HCR0 : Hid (Crd ⟨vc, vp, pl, pace, 0, 0, Q⟩) := Lib.hid (by
    intro x hx hc
    have hm : x.2 ∈ cs.map (fun c => (c, s0 c)) := by rw [← HQ0.out]; exact List.mem_map.2 ⟨x, hx, rfl⟩
    obtain ⟨y, hy, he⟩ := List.mem_map.1 hm
    have hk := (HOK0.out.q x hx).1.cr hc
    have h0 : x.2.2.hv = 0 := by rw [← he]; rfl
    rw [h0]
    have := Int.mul_nonneg (show 0 ≤ x.2.1.send by have := hk.2.1; omega) (show (0 : Int) ≤ 65535 by omega)
    omega)
  go_loopg [7, 8, 9, 10, 11, 12, 13, 14, 15, 16, 17, 18, 38] (K + 1) (fun gk _ _ _ _ _ _ _ _ _ _ _ _ v38 wr => ∃ (i : Nat) (E : Eg), K - i < gk ∧ i ≤ K ∧ v38 = .int .i64 i ∧ Hid (Made W wr (egC e E :: [blkC BX #[.slice ad n cc, .slice ap m cp, .int .u64 pace] TRc])) ∧ Hid (OkE E i) ∧ Hid (cfs E = cs) ∧ Hid (Crd E))
  case atStart => exact ⟨0, _, by omega, Nat.zero_le _, rfl, HM3, HOK0, HCS0, HCR0⟩
  case round =>
    obtain ⟨i, E, hgk, hin, rfl, HM, HOK, HCS, HCR⟩ := hrel
    obtain ⟨wB, rfl⟩ : ∃ x, x = wr := ⟨_, rfl⟩
    have HGK := Lib.hid hgk
    clear hgk HM3 HOK0 HCS0 HCR0
    rcases Nat.lt_or_ge i K with hlt | hge
    · obtain ⟨⟨kd, ca, ra, le, ti⟩, hx⟩ : ∃ x, l[i]? = some x := ⟨l[i]'(by have := HKK.out; omega), by simp⟩
      obtain ⟨o1, o2, o3, o4⟩ := HL.out _ (List.mem_of_getElem? hx)
      have HX := Lib.hid hx
      obtain ⟨ga, oa, rfl, r0, r1, r2, r3, r4⟩ := HA.out.get HM.out.upd hx
      dsimp only at o1 o2 o3 o4 r0 r1 r2 r3 r4
      have hI : (i : Int) < K := by omega
      have hI32 : i < 4294967296 := by omega
      have hi9 : i < 1000000000 := by omega
      have eK : (kd : Int) % 4 = ((kd % 4 : Nat) : Int) := rfl
      have hr4 : kd % 4 < 4 := Nat.mod_lt _ (by omega)
      generalize kd % 4 = k4 at *
      have hM2 := m_box HM.out (actA ⟨kd, ca, ra, le, ti⟩) TAc
      have HM2 := Lib.hid (hM2.perm (List.Perm.swap _ _ _))
      clear hx hM2 HM
      go_upto_block 2 with fail
      obtain ⟨wA, hwA⟩ : ∃ wA, wB.alloc (.cells (actA ⟨kd, ca, ra, le, ti⟩) TAc) = wA := ⟨_, rfl⟩
      obtain ⟨xb, hxb⟩ : ∃ xb, wB.heap.size = xb := ⟨_, rfl⟩
      rw [hwA] at HM2 ⊢
      rw [hxb] at HM2
      try simp only [hxb]
      clear hwA hxb r0 r1 r2 r3 r4
      obtain ⟨j0, j1, j2, j3, j4, -⟩ := cells5 (mk_off (l1 := [_]) HM2.out).1
      go_cut [9, 10, 11, 12, 13, 14, 15, 45] (fun _ _ _ _ _ _ _ _ wc => ∃ E', Made W wc (egC e E' :: [blkC BX #[.slice ad n cc, .slice ap m cp, .int .u64 pace] TRc]) ∧ OkE E' (i + 1) ∧ cfs E' = cs ∧ Crd E')
      case first =>
        rcases (show k4 = 0 ∨ k4 = 1 ∨ k4 = 2 ∨ k4 = 3 by omega) with rfl | rfl | rfl | rfl
        · as_aux_lemma =>
          have eK4 : (kd : Int) % 4 = 0 := eK
          clear eK hr4
          go_wp2_with fail
          refine wp_region_held_drew (S := fun w' => w'.cell? ⟨xb, 0, none⟩ = some (.int .u8 kd) ∧ w'.cell? ⟨xb, 1, none⟩ = some (.int .i64 ca) ∧ w'.cell? ⟨xb, 2, none⟩ = some (.int .u64 ra) ∧ w'.cell? ⟨xb, 3, none⟩ = some (.int .u64 le) ∧ w'.cell? ⟨xb, 4, none⟩ = some (.int .u64 ti)) (by kernel_rfl) ⟨j0, j1, j2, j3, j4⟩ (fun hHeld => ?_)
          refine wpAnyH_take (i := 0) (v := ?_) (by simp only [List.getElem?_toArray, List.getElem?_cons_zero, List.getElem?_cons_succ]; rfl) (by kernel_rfl) (by kernel_rfl) (by kernel_rfl) (by intro _ _ _ h; exact h) (Or.inl ⟨by rfl, ?_⟩) (by assumption) ?_
          rotate_left 1
          · intro w hSw; (try dsimp only at hSw); go_simp; try with_reducible rfl
          try simp only [Act.put, List.setIfInBounds_toArray, List.set_cons_zero, List.set_cons_succ]
          refine wpAnyH_take (i := 1) (v := ?_) (by simp only [List.getElem?_toArray, List.getElem?_cons_zero, List.getElem?_cons_succ]; rfl) (by kernel_rfl) (by kernel_rfl) (by kernel_rfl) (by intro _ _ _ h; exact h) (Or.inl ⟨by rfl, ?_⟩) (by assumption) ?_
          rotate_left 1
          · intro w hSw; (try dsimp only at hSw); go_simp; try with_reducible rfl
          try simp only [Act.put, List.setIfInBounds_toArray, List.set_cons_zero, List.set_cons_succ]
          refine wpAnyH_take (i := 2) (v := ?_) (by simp only [List.getElem?_toArray, List.getElem?_cons_zero, List.getElem?_cons_succ]; rfl) (by kernel_rfl) (by kernel_rfl) (by kernel_rfl) (by intro _ _ _ h; exact h) (Or.inl ⟨by rfl, ?_⟩) (by assumption) ?_
          rotate_left 1
          · intro w hSw; (try dsimp only at hSw); go_simp; try with_reducible rfl
          try simp only [Act.put, List.setIfInBounds_toArray, List.set_cons_zero, List.set_cons_succ]
          refine wpAnyH_take (i := 3) (v := ?_) (by simp only [List.getElem?_toArray, List.getElem?_cons_zero, List.getElem?_cons_succ]; rfl) (by kernel_rfl) (by kernel_rfl) (by kernel_rfl) (by intro _ _ _ h; exact h) (Or.inl ⟨by rfl, ?_⟩) (by assumption) ?_
          rotate_left 1
          · intro w hSw; (try dsimp only at hSw); go_simp; try with_reducible rfl
          try simp only [Act.put, List.setIfInBounds_toArray, List.set_cons_zero, List.set_cons_succ]
          refine wpAnyH_take (i := 4) (v := ?_) (by simp only [List.getElem?_toArray, List.getElem?_cons_zero, List.getElem?_cons_succ]; rfl) (by kernel_rfl) (by kernel_rfl) (by kernel_rfl) (by intro _ _ _ h; exact h) (Or.inl ⟨by rfl, ?_⟩) (by assumption) ?_
          rotate_left 1
          · intro w hSw; (try dsimp only at hSw); go_simp; try with_reducible rfl
          try simp only [Act.put, List.setIfInBounds_toArray, List.set_cons_zero, List.set_cons_succ]
          refine wpAnyH_take (i := 5) (v := ?_) (by simp only [List.getElem?_toArray, List.getElem?_cons_zero, List.getElem?_cons_succ]; rfl) (by kernel_rfl) (by kernel_rfl) (by kernel_rfl) (by intro _ _ _ h; exact h) (Or.inl ⟨by rfl, ?_⟩) (by assumption) ?_
          rotate_left 1
          · intro w hSw; (try dsimp only at hSw); go_simp; try with_reducible rfl
          try simp only [Act.put, List.setIfInBounds_toArray, List.set_cons_zero, List.set_cons_succ]
          refine wpAnyH_take (i := 6) (v := ?_) (by simp only [List.getElem?_toArray, List.getElem?_cons_zero, List.getElem?_cons_succ]; rfl) (by kernel_rfl) (by kernel_rfl) (by kernel_rfl) (by intro _ _ _ h; exact h) (Or.inl ⟨by rfl, ?_⟩) (by assumption) ?_
          rotate_left 1
          · intro w hSw; (try dsimp only at hSw); go_simp; try with_reducible rfl
          try simp only [Act.put, List.setIfInBounds_toArray, List.set_cons_zero, List.set_cons_succ]
          refine wpAnyH_ready (rs := [7]) (by kernel_rfl) (by simp) ?_
          refine AllReadyH.cons (by simp only [List.getElem?_toArray, List.getElem?_cons_zero, List.getElem?_cons_succ]; rfl) (fun K9 hK => ?_) AllReadyH.nil
          go_simp
          refine (packet_any (i := i) hI32 ⟨kd, ca, ra, le, ti⟩).mono ?_
          rintro x w5 ⟨rfl, u5⟩
          have HM5 := Lib.hid ((HM2.out.old (Upd.drew (Upd.refl _ _))).old u5)
          obtain ⟨q0, q1, q2, q3, q4, -⟩ := cells5 (mk_off (l1 := [_]) HM5.out).1
          refine hK.out _ _ (by (try dsimp only); exact ⟨q0, q1, q2, q3, q4⟩) (fun hHeld => ?_)
          clear hK K9 u5 q0 q1 q2 q3 q4
          refine wpAnyH_ready (rs := [8]) (by kernel_rfl) (by simp) ?_
          refine AllReadyH.cons (by simp only [List.getElem?_toArray, List.getElem?_cons_zero, List.getElem?_cons_succ]; rfl) (fun K9 hK => ?_) AllReadyH.nil
          go_simp
          refine (e_push HM5.out HOK.out hi9 ca ra i i le).mono ?_
          rintro x w6 ⟨rfl, hM6⟩
          obtain ⟨q0, q1, q2, q3, q4, -⟩ := cells5 (mk_off (l1 := [_]) hM6).1
          refine hK.out _ _ (by (try dsimp only); exact ⟨q0, q1, q2, q3, q4⟩) (fun hHeld => ?_)
          have HM6 := Lib.hid (m_drop1 hM6)
          have HOK6 : Hid (OkE (pushE E ca ra (i, i, le)).2 (i + 1)) := Lib.hid (pushE_ok HOK.out hI32 hI32)
          clear hK K9 q0 q1 q2 q3 q4 hM6 HM5 HM2 hHeld
          refine wpAnyH_done (by kernel_rfl) ?_ _
          go_wp2_with fail
          go_meet
          exact ⟨_, HM6.out, HOK6.out, (pushE_cfs _ _ _ _).trans HCS.out, HCR.out.push _ _ _⟩
        · as_aux_lemma =>
          have eK4 : (kd : Int) % 4 = 1 := eK
          clear eK hr4
          go_wp2_with fail
          refine wp_region_held_drew (S := fun w' => w'.cell? ⟨xb, 0, none⟩ = some (.int .u8 kd) ∧ w'.cell? ⟨xb, 1, none⟩ = some (.int .i64 ca) ∧ w'.cell? ⟨xb, 2, none⟩ = some (.int .u64 ra) ∧ w'.cell? ⟨xb, 3, none⟩ = some (.int .u64 le) ∧ w'.cell? ⟨xb, 4, none⟩ = some (.int .u64 ti)) (by kernel_rfl) ⟨j0, j1, j2, j3, j4⟩ (fun hHeld => ?_)
          refine wpAnyH_take (i := 0) (v := ?_) (by simp only [List.getElem?_toArray, List.getElem?_cons_zero, List.getElem?_cons_succ]; rfl) (by kernel_rfl) (by kernel_rfl) (by kernel_rfl) (by intro _ _ _ h; exact h) (Or.inl ⟨by rfl, ?_⟩) (by assumption) ?_
          rotate_left 1
          · intro w hSw; (try dsimp only at hSw); go_simp; try with_reducible rfl
          try simp only [Act.put, List.setIfInBounds_toArray, List.set_cons_zero, List.set_cons_succ]
          refine wpAnyH_take (i := 1) (v := ?_) (by simp only [List.getElem?_toArray, List.getElem?_cons_zero, List.getElem?_cons_succ]; rfl) (by kernel_rfl) (by kernel_rfl) (by kernel_rfl) (by intro _ _ _ h; exact h) (Or.inl ⟨by rfl, ?_⟩) (by assumption) ?_
          rotate_left 1
          · intro w hSw; (try dsimp only at hSw); go_simp; try with_reducible rfl
          try simp only [Act.put, List.setIfInBounds_toArray, List.set_cons_zero, List.set_cons_succ]
          refine wpAnyH_take (i := 2) (v := ?_) (by simp only [List.getElem?_toArray, List.getElem?_cons_zero, List.getElem?_cons_succ]; rfl) (by kernel_rfl) (by kernel_rfl) (by kernel_rfl) (by intro _ _ _ h; exact h) (Or.inl ⟨by rfl, ?_⟩) (by assumption) ?_
          rotate_left 1
          · intro w hSw; (try dsimp only at hSw); go_simp; try with_reducible rfl
          try simp only [Act.put, List.setIfInBounds_toArray, List.set_cons_zero, List.set_cons_succ]
          refine wpAnyH_take (i := 3) (v := ?_) (by simp only [List.getElem?_toArray, List.getElem?_cons_zero, List.getElem?_cons_succ]; rfl) (by kernel_rfl) (by kernel_rfl) (by kernel_rfl) (by intro _ _ _ h; exact h) (Or.inl ⟨by rfl, ?_⟩) (by assumption) ?_
          rotate_left 1
          · intro w hSw; (try dsimp only at hSw); go_simp; try with_reducible rfl
          try simp only [Act.put, List.setIfInBounds_toArray, List.set_cons_zero, List.set_cons_succ]
          refine wpAnyH_take (i := 4) (v := ?_) (by simp only [List.getElem?_toArray, List.getElem?_cons_zero, List.getElem?_cons_succ]; rfl) (by kernel_rfl) (by kernel_rfl) (by kernel_rfl) (by intro _ _ _ h; exact h) (Or.inl ⟨by rfl, ?_⟩) (by assumption) ?_
          rotate_left 1
          · intro w hSw; (try dsimp only at hSw); go_simp; try with_reducible rfl
          try simp only [Act.put, List.setIfInBounds_toArray, List.set_cons_zero, List.set_cons_succ]
          refine wpAnyH_take (i := 5) (v := ?_) (by simp only [List.getElem?_toArray, List.getElem?_cons_zero, List.getElem?_cons_succ]; rfl) (by kernel_rfl) (by kernel_rfl) (by kernel_rfl) (by intro _ _ _ h; exact h) (Or.inl ⟨by rfl, ?_⟩) (by assumption) ?_
          rotate_left 1
          · intro w hSw; (try dsimp only at hSw); go_simp; try with_reducible rfl
          try simp only [Act.put, List.setIfInBounds_toArray, List.set_cons_zero, List.set_cons_succ]
          refine wpAnyH_take (i := 6) (v := ?_) (by simp only [List.getElem?_toArray, List.getElem?_cons_zero, List.getElem?_cons_succ]; rfl) (by kernel_rfl) (by kernel_rfl) (by kernel_rfl) (by intro _ _ _ h; exact h) (Or.inl ⟨by rfl, ?_⟩) (by assumption) ?_
          rotate_left 1
          · intro w hSw; (try dsimp only at hSw); go_simp; try with_reducible rfl
          try simp only [Act.put, List.setIfInBounds_toArray, List.set_cons_zero, List.set_cons_succ]
          refine wpAnyH_ready (rs := [7]) (by kernel_rfl) (by simp) ?_
          refine AllReadyH.cons (by simp only [List.getElem?_toArray, List.getElem?_cons_zero, List.getElem?_cons_succ]; rfl) (fun K9 hK => ?_) AllReadyH.nil
          go_simp
          refine (packet_any (i := i) hI32 ⟨kd, ca, ra, le, ti⟩).mono ?_
          rintro x w5 ⟨rfl, u5⟩
          have HM5 := Lib.hid ((HM2.out.old (Upd.drew (Upd.refl _ _))).old u5)
          obtain ⟨q0, q1, q2, q3, q4, -⟩ := cells5 (mk_off (l1 := [_]) HM5.out).1
          refine hK.out _ _ (by (try dsimp only); exact ⟨q0, q1, q2, q3, q4⟩) (fun hHeld => ?_)
          clear hK K9 u5 q0 q1 q2 q3 q4
          refine wpAnyH_ready (rs := [8]) (by kernel_rfl) (by simp) ?_
          refine AllReadyH.cons (by simp only [List.getElem?_toArray, List.getElem?_cons_zero, List.getElem?_cons_succ]; rfl) (fun K9 hK => ?_) AllReadyH.nil
          go_simp
          refine (e_push HM5.out HOK.out hi9 ca ra i i le).mono ?_
          rintro x w6 ⟨rfl, hM6⟩
          obtain ⟨q0, q1, q2, q3, q4, -⟩ := cells5 (mk_off (l1 := [_]) hM6).1
          refine hK.out _ _ (by (try dsimp only); exact ⟨q0, q1, q2, q3, q4⟩) (fun hHeld => ?_)
          have HM6 := Lib.hid (m_drop1 hM6)
          have HOK6 : Hid (OkE (pushE E ca ra (i, i, le)).2 (i + 1)) := Lib.hid (pushE_ok HOK.out hI32 hI32)
          clear hK K9 q0 q1 q2 q3 q4 hM6 HM5 HM2 hHeld
          refine wpAnyH_done (by kernel_rfl) ?_ _
          go_wp2_with fail
          go_meet
          exact ⟨_, HM6.out, HOK6.out, (pushE_cfs _ _ _ _).trans HCS.out, HCR.out.push _ _ _⟩
        · as_aux_lemma =>
          have eK4 : (kd : Int) % 4 = 2 := eK
          clear eK hr4
          obtain ⟨i0, hi, hz0, hz1, hz2⟩ := info_parts infoI64
          obtain ⟨b0, b1, b2, -⟩ := cells3 (mk_off (l1 := [_, _]) HM2.out).1
          have hqn : E.q.length = n := by have h1 := cfs_len E; rw [HCS.out, HNN.out] at h1; exact h1.symm
          have HQN := Lib.hid hqn
          clear hqn
          go_wp2_with (at_make; go_loud (refine wpList_make_full _ rfl _ _ 51 rfl wA.heap.size TI64 i0 (.int .i64 0) 1 Tryz.underlying51 hi hz0 hz1 _ _ _ _ n rfl rfl rfl rfl (by rw [hz2]; omega) (by unfold maxLen; omega) (Nat.le_refl _) ?_; intro w5 ho5 hg5; have H5 := Lib.hid ((r_made HM2.out (Upd.grown (Upd.refl _ _) hg5 (fun _ _ h => by cases h)) ho5).perm (List.Perm.swap _ _ _)); clear ho5 hg5))
          obtain ⟨G, hG⟩ : ∃ G, wA.heap.size = G := ⟨_, rfl⟩
          rw [hG] at H5
          try simp only [hG]
          clear hG hi hz0 hz1 hz2 b0 b1 b2 HM2 j0 j1 j2 j3 j4
          go_loopg [10, 70] (n + 1) (fun hk2 _ v70 wr => ∃ (j : Nat) (xs : List Value), n - j < hk2 ∧ j ≤ n ∧ v70 = .int .i64 j ∧ Hid (Made W wr (egC e E :: rowC1 TI64 G n xs :: blkC xb (actA ⟨kd, ca, ra, le, ti⟩) TAc :: [blkC BX #[.slice ad n cc, .slice ap m cp, .int .u64 pace] TRc])) ∧ Hid (Hv E n j xs))
          case atStart => exact ⟨0, _, by omega, Nat.zero_le _, rfl, H5, Lib.hid (Hv.start E n)⟩
          case round =>
            obtain ⟨j, xs, hhk, hjn, rfl, H5, HV⟩ := hrel
            obtain ⟨wC, rfl⟩ : ∃ x, x = wr := ⟨_, rfl⟩
            have HHK := Lib.hid hhk
            clear hhk
            rcases Nat.lt_or_ge j n with hjlt | hjge
            · obtain ⟨⟨kb, cf, s⟩, hq⟩ : ∃ x, E.q[j]? = some x := ⟨E.q[j]'(by have := HQN.out; omega), by simp⟩
              have hJ : (j : Int) < n := by omega
              have HQ := Lib.hid hq
              obtain ⟨y, hy⟩ : ∃ y, xs[j]? = some y := ⟨xs[j]'(by rw [HV.out.1]; exact hjlt), by simp⟩
              have HY := Lib.hid hy
              clear hq hy
              go_wp2_with fail
              refine (e_credit H5.out HOK.out HQ.out).mono ?_
              rintro x w6 ⟨rfl, u6⟩
              have H6 := Lib.hid (H5.out.old u6)
              obtain ⟨y0, y1⟩ := r_at [_] _ H6.out HY.out
              clear u6 H5
              go_wp2_with fail
              go_roundg (n - j)
              case rel => exact ⟨j + 1, _, by omega, by omega, rfl, Lib.hid (r_set [_] _ H6.out j _), Lib.hid (HV.out.step hjlt HQ.out)⟩
              case measure => have := HHK.out; omega
            · obtain rfl : j = n := by omega
              have dJ : decide ((j : Int) < j) = false := by simp
              have hnx := e_next H5.out HOK.out hi9
              have hok6 : OkE (nextE E).2 (i + 1) := (nextE_ok HOK.out).more (Nat.le_succ _)
              have hhv := fun (q kb : Nat) (cf : Cf) (s : Cs) (h : E.q[q]? = some (kb, cf, s)) => nextE_hv HOK.out h
              obtain ⟨⟨kk, ⟨x0, x1, x2⟩, r⟩, hR⟩ : ∃ R, (nextE E).1 = R := ⟨_, rfl⟩
              obtain ⟨E2, hE2⟩ : ∃ E2, (nextE E).2 = E2 := ⟨_, rfl⟩
              rw [hR, hE2] at hnx
              have hcf6 := nextE_cfs E
              have hcr6 := HCR.out.next HOK.out
              rw [hE2] at hok6 hcf6 hcr6
              simp only [hR, hE2] at hhv
              have HNX := Lib.hid hnx
              have HOK6 := Lib.hid hok6
              have HCS6 := Lib.hid (hcf6.trans HCS.out)
              have HCR6 := Lib.hid hcr6
              have HHV := Lib.hid hhv
              clear hnx hok6 hhv hR hE2 hcf6 hcr6 H5
              dsimp only at HNX
              go_wp2_with fail
              refine (HNX.out).mono ?_
              rintro x w6 ⟨rfl, hM6⟩
              go_upto_region 22 with fail
              have H7 := Lib.hid ((m_box hM6 #[.int .u32 x0, .int .u32 x1, .int .u64 x2] TP).perm (List.Perm.swap _ _ _))
              clear hM6 HNX
              generalize w6.alloc (.cells #[.int .u32 x0, .int .u32 x1, .int .u64 x2] TP) = w7 at *
              generalize w6.heap.size = PB at *
              go_upto_region 23 with fail
              go_loopg [14, 15, 88] (j + 1) (fun hk3 _ _ v88 wr => ∃ (q : Nat), j - q < hk3 ∧ q ≤ j ∧ v88 = .int .i64 q ∧ Hid (Made W wr (egC e E2 :: blkC PB #[.int .u32 x0, .int .u32 x1, .int .u64 x2] TP :: rowC1 TI64 G j xs :: blkC xb (actA ⟨kd, ca, ra, le, ti⟩) TAc :: [blkC BX #[.slice ad j cc, .slice ap m cp, .int .u64 pace] TRc])))
              case atStart => exact ⟨0, by omega, Nat.zero_le _, rfl, H7⟩
              case round =>
                obtain ⟨q, hhk3, hqn, rfl, H8⟩ := hrel
                obtain ⟨wD, rfl⟩ : ∃ x, x = wr := ⟨_, rfl⟩
                have HHK3 := Lib.hid hhk3
                clear hhk3 H7
                rcases Nat.lt_or_ge q j with hqlt | hqge
                · obtain ⟨⟨kb, cf, s⟩, hq⟩ : ∃ x, E.q[q]? = some x := ⟨E.q[q]'(by have := HQN.out; omega), by simp⟩
                  have hQ : (q : Int) < j := by omega
                  have hcsq : cs[q]? = some cf := by rw [← HCS.out]; exact cfs_at hq
                  obtain ⟨s', hq', hhv', hbd'⟩ := HHV.out q kb cf s hq
                  have hyy := HV.out.2 q kb cf s hqlt hq
                  obtain ⟨hf, hs⟩ := HOK.out.q _ (List.mem_of_getElem? hq)
                  obtain ⟨hf6, hs6⟩ := HOK6.out.q _ (List.mem_of_getElem? hq')
                  dsimp only at hf hs hf6 hs6
                  obtain ⟨B, hB⟩ : ∃ B : Bool, decide (r = 0 ∧ q = kk ∧ cf.credit = true) = B := ⟨_, rfl⟩
                  have hhvr : -1099511627776 ≤ s.hv ∧ s.hv ≤ 1048576 ∧ -1099511627776 ≤ s'.hv ∧ s'.hv ≤ 1048576 := by
                    cases hcc : cf.credit with
                    | true => have h1 := hs.hv1 hcc; have h2 := hs6.hv1 hcc; have := h1.2.2.1; have := h1.2.2.2; have := h2.2.2.2; omega
                    | false => have h1 := hs.hv0 hcc; have h2 := hs6.hv0 hcc; omega
                  have HB := Lib.hid hB
                  have HHVR := Lib.hid hhvr
                  have HBD := Lib.hid hbd'
                  have HHV' := Lib.hid hhv'
                  have HQ' := Lib.hid hq'
                  have HYY := Lib.hid hyy
                  have HF := Lib.hid hf
                  have HCSQ := Lib.hid hcsq
                  clear hq hcsq hq' hhv' hbd' hyy hf hs hf6 hs6 hB hhvr
                  go_upto_region 26 with fail
                  go_cut [105] (fun v105 wc => v105 = .bool B ∧ Made W wc (egC e E2 :: blkC PB #[.int .u32 x0, .int .u32 x1, .int .u64 x2] TP :: rowC1 TI64 G j xs :: blkC xb (actA ⟨kd, ca, ra, le, ti⟩) TAc :: [blkC BX #[.slice ad j cc, .slice ap m cp, .int .u64 pace] TRc]))
                  case first =>
                    obtain ⟨b0, b1, b2, -⟩ := cells3 (mk_off (l1 := [_, _, _, _]) H8.out).1
                    by_cases hr0 : r = 0
                    · by_cases hqk : q = kk
                      · obtain ⟨g, o, rfl, -, -, m2, -⟩ := (HCA.out.old H8.out.upd).cells HCSQ.out
                        obtain ⟨cr, hcr⟩ : ∃ cr, cf.credit = cr := ⟨_, rfl⟩
                        have hBc : B = cr := by rw [← HB.out, hcr]; cases cr <;> simp [hr0, hqk]
                        rw [hcr] at m2
                        subst hBc
                        subst hqk
                        subst hr0
                        have hkl : (q : Int) < (j : Int) := by omega
                        go_wp2_with fail
                        go_meet
                        exact ⟨rfl, H8.out⟩
                      · have hBc : B = false := by rw [← HB.out]; exact decide_eq_false (fun h => hqk h.2.1)
                        subst hBc
                        subst hr0
                        have dq : ((q : Int) == (kk : Int)) = false := by simp; omega
                        go_wp2_with fail
                        go_meet
                        exact ⟨rfl, H8.out⟩
                    · have hBc : B = false := by rw [← HB.out]; exact decide_eq_false (fun h => hr0 h.1)
                      subst hBc
                      have dr : ((r : Int) == 0) = false := by simp; omega
                      go_wp2_with fail
                      go_meet
                      exact ⟨rfl, H8.out⟩
                  case rest =>
                    obtain ⟨rfl, hM9⟩ := hcut
                    obtain ⟨wE, rfl⟩ : ∃ x, x = wc := ⟨_, rfl⟩
                    have H9 := Lib.hid hM9
                    clear hM9 H8
                    obtain ⟨cost, hcost⟩ : ∃ c : Int, (if B = true then cf.send * (x2 : Int) else 0) = c := ⟨_, rfl⟩
                    have HCO := Lib.hid hcost
                    clear hcost
                    go_upto_if 105 with fail
                    go_cut [15] (fun v15 wc => v15 = .int .i64 cost ∧ Made W wc (egC e E2 :: blkC PB #[.int .u32 x0, .int .u32 x1, .int .u64 x2] TP :: rowC1 TI64 G j xs :: blkC xb (actA ⟨kd, ca, ra, le, ti⟩) TAc :: [blkC BX #[.slice ad j cc, .slice ap m cp, .int .u64 pace] TRc]))
                    case first =>
                      cases B with
                      | true =>
                        obtain ⟨hr0, hqk, hcr⟩ : r = 0 ∧ q = kk ∧ cf.credit = true := of_decide_eq_true HB.out
                        obtain ⟨g, o, rfl, -, -, -, -, m4, -⟩ := (HCA.out.old H9.out.upd).cells HCSQ.out
                        obtain ⟨b0, b1, b2, -⟩ := cells3 (mk_off (l1 := [_, _, _, _]) H9.out).1
                        obtain ⟨p0, p1, p2, -⟩ := cells3 (mk_off (l1 := [_]) H9.out).1
                        have hx2 := (HBD.out hr0 hqk).1
                        have hsn := (HF.out.cr hcr).2.1
                        have hco := HCO.out
                        rw [if_pos rfl] at hco
                        obtain ⟨sn, hsne⟩ : ∃ sn, cf.send = sn := ⟨_, rfl⟩
                        rw [hsne] at m4 hco hsn
                        subst hqk
                        have e1 : IntKind.i64.wrap (x2 : Int) = (x2 : Int) := by rw [IntKind.wrap_i64]; omega
                        have hpl : 0 ≤ sn * (x2 : Int) := Int.mul_nonneg (by omega) (by omega)
                        have hpu : sn * (x2 : Int) ≤ 1048576 * 65535 := Int.le_trans (Int.mul_le_mul_of_nonneg_right hsn.2 (by omega)) (Int.mul_le_mul_of_nonneg_left (by omega) (by omega))
                        have e2 : IntKind.i64.wrap (sn * (x2 : Int)) = cost := by rw [hco] at hpl hpu ⊢; rw [IntKind.wrap_i64]; omega
                        have hkl : (q : Int) < (j : Int) := by omega
                        clear hr0 hcr hx2 hsn hco hsne hpl hpu b1 p0 p1
                        go_wp2_with fail
                        go_quiet (fail)
                        go_wp2_with fail
                        go_meet
                        exact ⟨rfl, H9.out.old ((Upd.refl _ _).drewN nq)⟩
                      | false =>
                        have hco := HCO.out
                        rw [if_neg (by simp)] at hco
                        subst hco
                        go_wp2_with fail
                        go_meet
                        exact ⟨rfl, H9.out⟩
                    case rest =>
                      obtain ⟨rfl, hMA⟩ := hcut
                      obtain ⟨wF, rfl⟩ : ∃ x, x = wc := ⟨_, rfl⟩
                      have HA9 := Lib.hid hMA
                      clear hMA H9
                      have hz : s'.hv = s.hv - cost := by
                        rw [HHV'.out, ← HCO.out, ← HB.out]
                        simp only [decide_eq_true_eq]
                      have e3 : IntKind.i64.wrap (s.hv - cost) = s'.hv := by rw [← hz, IntKind.wrap_i64]; have := HHVR.out; omega
                      have hpz : 0 < cost → 0 ≤ s.hv := fun hp0 => by
                        rw [← HCO.out] at hp0
                        by_cases hBt : B = true
                        · have h9 := HB.out
                          rw [hBt] at h9
                          have h9 := of_decide_eq_true h9
                          exact (HBD.out h9.1 h9.2.1).2 h9.2.2
                        · rw [if_neg hBt] at hp0; omega
                      obtain ⟨yq, -⟩ := r_at [_, _] _ HA9.out HYY.out
                      obtain ⟨ha, hha⟩ : ∃ x, s.hv = x := ⟨_, rfl⟩
                      obtain ⟨hb, hhb⟩ : ∃ x, s'.hv = x := ⟨_, rfl⟩
                      have HCT := fun u (hu : Upd Nowhere wF u) => Lib.hid (e_credit (HA9.out.old hu) HOK6.out HQ'.out)
                      rw [hha] at yq e3 hpz
                      rw [hhb] at e3
                      simp only [hhb] at HCT
                      have hFF : ∀ u, Upd Nowhere wF u → u.cell? ⟨G, q, none⟩ = some (.int .i64 ha) := fun u hu => cell_old hu yq
                      have HHA := Lib.hid hha
                      clear hz hha hhb yq
                      by_cases hpos : 0 < cost
                      · have f1 : decide (cost > 0) = true := decide_eq_true hpos
                        have f2 : decide (0 < cost) = true := decide_eq_true hpos
                        have f3 : decide (ha < 0) = false := decide_eq_false (by have := hpz hpos; omega)
                        clear hpos hpz
                        go_wp2_with fail
                        refine wp_region_held_drew (S := fun w' => w'.cell? ⟨G, q, none⟩ = some (.int .i64 ha)) (by kernel_rfl) (hFF _ ((Upd.refl _ _).drew)) (fun hHeld => ?_)
                        refine wpAnyH_take (i := 0) (v := ?_) (by simp only [List.getElem?_toArray, List.getElem?_cons_zero, List.getElem?_cons_succ]; rfl) (by kernel_rfl) (by kernel_rfl) (by kernel_rfl) (by intro _ _ _ h; exact h) (Or.inl ⟨by rfl, ?_⟩) (by assumption) ?_
                        rotate_left 1
                        · intro w hSw; (try dsimp only at hSw); go_simp; try with_reducible rfl
                        try simp only [Act.put, List.setIfInBounds_toArray, List.set_cons_zero, List.set_cons_succ]
                        refine wpAnyH_take (i := 1) (v := ?_) (by simp only [List.getElem?_toArray, List.getElem?_cons_zero, List.getElem?_cons_succ]; rfl) (by kernel_rfl) (by kernel_rfl) (by kernel_rfl) (by intro _ _ _ h; exact h) (Or.inl ⟨by rfl, ?_⟩) (by assumption) ?_
                        rotate_left 1
                        · intro w hSw; (try dsimp only at hSw); go_simp; try with_reducible rfl
                        try simp only [Act.put, List.setIfInBounds_toArray, List.set_cons_zero, List.set_cons_succ]
                        refine wpAnyH_take (i := 3) (v := ?_) (by simp only [List.getElem?_toArray, List.getElem?_cons_zero, List.getElem?_cons_succ]; rfl) (by kernel_rfl) (by kernel_rfl) (by kernel_rfl) (by intro _ _ _ h; exact h) (Or.inl ⟨by rfl, ?_⟩) (by assumption) ?_
                        rotate_left 1
                        · intro w hSw; (try dsimp only at hSw); go_simp; try with_reducible rfl
                        try simp only [Act.put, List.setIfInBounds_toArray, List.set_cons_zero, List.set_cons_succ]
                        refine wpAnyH_take (i := 4) (v := ?_) (by simp only [List.getElem?_toArray, List.getElem?_cons_zero, List.getElem?_cons_succ]; rfl) (by kernel_rfl) (by kernel_rfl) (by kernel_rfl) (by intro _ _ _ h; exact h) (Or.inl ⟨by rfl, ?_⟩) (by assumption) ?_
                        rotate_left 1
                        · intro w hSw; (try dsimp only at hSw); go_simp; try with_reducible rfl
                        try simp only [Act.put, List.setIfInBounds_toArray, List.set_cons_zero, List.set_cons_succ]
                        refine wpAnyH_take (i := 5) (v := ?_) (by simp only [List.getElem?_toArray, List.getElem?_cons_zero, List.getElem?_cons_succ]; rfl) (by kernel_rfl) (by kernel_rfl) (by kernel_rfl) (by intro _ _ _ h; exact h) (Or.inl ⟨by rfl, ?_⟩) (by assumption) ?_
                        rotate_left 1
                        · intro w hSw; (try dsimp only at hSw); go_simp; try with_reducible rfl
                        try simp only [Act.put, List.setIfInBounds_toArray, List.set_cons_zero, List.set_cons_succ]
                        refine wpAnyH_take (i := 6) (v := ?_) (by simp only [List.getElem?_toArray, List.getElem?_cons_zero, List.getElem?_cons_succ]; rfl) (by kernel_rfl) (by kernel_rfl) (by kernel_rfl) (by intro _ _ _ h; exact h) (Or.inl ⟨by rfl, ?_⟩) (by assumption) ?_
                        rotate_left 1
                        · intro w hSw; (try dsimp only at hSw); go_simp; try with_reducible rfl
                        try simp only [Act.put, List.setIfInBounds_toArray, List.set_cons_zero, List.set_cons_succ]
                        refine wpAnyH_take (i := 7) (v := ?_) (by simp only [List.getElem?_toArray, List.getElem?_cons_zero, List.getElem?_cons_succ]; rfl) (by kernel_rfl) (by kernel_rfl) (by kernel_rfl) (by intro _ _ _ h; exact h) (Or.inl ⟨by rfl, ?_⟩) (by assumption) ?_
                        rotate_left 1
                        · intro w hSw; (try dsimp only at hSw); go_simp; try with_reducible rfl
                        try simp only [Act.put, List.setIfInBounds_toArray, List.set_cons_zero, List.set_cons_succ]
                        refine wpAnyH_take (i := 8) (v := ?_) (by simp only [List.getElem?_toArray, List.getElem?_cons_zero, List.getElem?_cons_succ]; rfl) (by kernel_rfl) (by kernel_rfl) (by kernel_rfl) (by intro _ _ _ h; exact h) (Or.inl ⟨by rfl, ?_⟩) (by assumption) ?_
                        rotate_left 1
                        · intro w hSw; (try dsimp only at hSw); go_simp; try with_reducible rfl
                        try simp only [Act.put, List.setIfInBounds_toArray, List.set_cons_zero, List.set_cons_succ]
                        refine wpAnyH_ready (rs := [2]) (by kernel_rfl) (by simp) ?_
                        refine AllReadyH.cons (by simp only [List.getElem?_toArray, List.getElem?_cons_zero, List.getElem?_cons_succ]; rfl) (fun K9 hK => ?_) AllReadyH.nil
                        go_simp
                        refine (HCT _ ((Upd.refl _ _).drew)).out.mono ?_
                        rintro x w9 ⟨rfl, u9⟩
                        have HB9 := Lib.hid ((HA9.out.old ((Upd.refl _ _).drew)).old u9)
                        refine hK.out _ _ (by (try dsimp only); exact cell_old u9 hHeld) (fun hHeld => ?_)
                        clear hK K9 u9 HA9 hFF HCT
                        refine wpAnyH_take (i := 9) (v := ?_) (by simp only [List.getElem?_toArray, List.getElem?_cons_zero, List.getElem?_cons_succ]; rfl) (by kernel_rfl) (by kernel_rfl) (by kernel_rfl) (by intro _ _ _ h; exact h) (Or.inl ⟨by rfl, ?_⟩) (by assumption) ?_
                        rotate_left 1
                        · intro w hSw; (try dsimp only at hSw); go_simp; try with_reducible rfl
                        try simp only [Act.put, List.setIfInBounds_toArray, List.set_cons_zero, List.set_cons_succ]
                        refine wpAnyH_take (i := 10) (v := ?_) (by simp only [List.getElem?_toArray, List.getElem?_cons_zero, List.getElem?_cons_succ]; rfl) (by kernel_rfl) (by kernel_rfl) (by kernel_rfl) (by intro _ _ _ h; exact h) (Or.inl ⟨by rfl, ?_⟩) (by assumption) ?_
                        rotate_left 1
                        · intro w hSw; (try dsimp only at hSw); go_simp; try with_reducible rfl
                        try simp only [Act.put, List.setIfInBounds_toArray, List.set_cons_zero, List.set_cons_succ]
                        refine wpAnyH_take (i := 11) (v := ?_) (by simp only [List.getElem?_toArray, List.getElem?_cons_zero, List.getElem?_cons_succ]; rfl) (by kernel_rfl) (by kernel_rfl) (by kernel_rfl) (by intro _ _ _ h; exact h) (Or.inl ⟨by rfl, ?_⟩) (by assumption) ?_
                        rotate_left 1
                        · intro w hSw; (try dsimp only at hSw); go_simp; try with_reducible rfl
                        try simp only [Act.put, List.setIfInBounds_toArray, List.set_cons_zero, List.set_cons_succ]
                        refine wpAnyH_take (i := 12) (v := ?_) (by simp only [List.getElem?_toArray, List.getElem?_cons_zero, List.getElem?_cons_succ]; rfl) (by kernel_rfl) (by kernel_rfl) (by kernel_rfl) (by intro _ _ _ h; exact h) (Or.inl ⟨by rfl, ?_⟩) (by assumption) ?_
                        rotate_left 1
                        · intro w hSw; (try dsimp only at hSw); go_simp; try with_reducible rfl
                        try simp only [Act.put, List.setIfInBounds_toArray, List.set_cons_zero, List.set_cons_succ]
                        refine wpAnyH_take (i := 13) (v := ?_) (by simp only [List.getElem?_toArray, List.getElem?_cons_zero, List.getElem?_cons_succ]; rfl) (by kernel_rfl) (by kernel_rfl) (by kernel_rfl) (by intro _ _ _ h; exact h) (Or.inl ⟨by rfl, ?_⟩) (by assumption) ?_
                        rotate_left 1
                        · intro w hSw; (try dsimp only at hSw); go_simp; try with_reducible rfl
                        try simp only [Act.put, List.setIfInBounds_toArray, List.set_cons_zero, List.set_cons_succ]
                        refine wpAnyH_take (i := 14) (v := ?_) (by simp only [List.getElem?_toArray, List.getElem?_cons_zero, List.getElem?_cons_succ]; rfl) (by kernel_rfl) (by kernel_rfl) (by kernel_rfl) (by intro _ _ _ h; exact h) (Or.inl ⟨by rfl, ?_⟩) (by assumption) ?_
                        rotate_left 1
                        · intro w hSw; (try dsimp only at hSw); go_simp; try with_reducible rfl
                        try simp only [Act.put, List.setIfInBounds_toArray, List.set_cons_zero, List.set_cons_succ]
                        refine wpAnyH_take (i := 15) (v := ?_) (by simp only [List.getElem?_toArray, List.getElem?_cons_zero, List.getElem?_cons_succ]; rfl) (by kernel_rfl) (by kernel_rfl) (by kernel_rfl) (by intro _ _ _ h; exact h) (Or.inl ⟨by rfl, ?_⟩) (by assumption) ?_
                        rotate_left 1
                        · intro w hSw; (try dsimp only at hSw); go_simp; try with_reducible rfl
                        try simp only [Act.put, List.setIfInBounds_toArray, List.set_cons_zero, List.set_cons_succ]
                        refine wpAnyH_take (i := 16) (v := ?_) (by simp only [List.getElem?_toArray, List.getElem?_cons_zero, List.getElem?_cons_succ]; rfl) (by kernel_rfl) (by kernel_rfl) (by kernel_rfl) (by intro _ _ _ h; exact h) (Or.inl ⟨by rfl, ?_⟩) (by assumption) ?_
                        rotate_left 1
                        · intro w hSw; (try dsimp only at hSw); go_simp; try with_reducible rfl
                        try simp only [Act.put, List.setIfInBounds_toArray, List.set_cons_zero, List.set_cons_succ]
                        refine wpAnyH_take (i := 17) (v := ?_) (by simp only [List.getElem?_toArray, List.getElem?_cons_zero, List.getElem?_cons_succ]; rfl) (by kernel_rfl) (by kernel_rfl) (by kernel_rfl) (by intro _ _ _ h; exact h) (Or.inl ⟨by rfl, ?_⟩) (by assumption) ?_
                        rotate_left 1
                        · intro w hSw; (try dsimp only at hSw); go_simp; try with_reducible rfl
                        try simp only [Act.put, List.setIfInBounds_toArray, List.set_cons_zero, List.set_cons_succ]
                        refine wpAnyH_take (i := 18) (v := ?_) (by simp only [List.getElem?_toArray, List.getElem?_cons_zero, List.getElem?_cons_succ]; rfl) (by kernel_rfl) (by kernel_rfl) (by kernel_rfl) (by intro _ _ _ h; exact h) (Or.inl ⟨by rfl, ?_⟩) (by assumption) ?_
                        rotate_left 1
                        · intro w hSw; (try dsimp only at hSw); go_simp; try with_reducible rfl
                        try simp only [Act.put, List.setIfInBounds_toArray, List.set_cons_zero, List.set_cons_succ]
                        refine wpAnyH_take (i := 19) (v := ?_) (by simp only [List.getElem?_toArray, List.getElem?_cons_zero, List.getElem?_cons_succ]; rfl) (by kernel_rfl) (by kernel_rfl) (by kernel_rfl) (by intro _ _ _ h; exact h) (Or.inl ⟨by rfl, ?_⟩) (by assumption) ?_
                        rotate_left 1
                        · intro w hSw; (try dsimp only at hSw); go_simp; try with_reducible rfl
                        try simp only [Act.put, List.setIfInBounds_toArray, List.set_cons_zero, List.set_cons_succ]
                        refine wpAnyH_take (i := 20) (v := ?_) (by simp only [List.getElem?_toArray, List.getElem?_cons_zero, List.getElem?_cons_succ]; rfl) (by kernel_rfl) (by kernel_rfl) (by kernel_rfl) (by intro _ _ _ h; exact h) (Or.inl ⟨by rfl, ?_⟩) (by assumption) ?_
                        rotate_left 1
                        · intro w hSw; (try dsimp only at hSw); go_simp; try with_reducible rfl
                        try simp only [Act.put, List.setIfInBounds_toArray, List.set_cons_zero, List.set_cons_succ]
                        refine wpAnyH_done (by kernel_rfl) ?_ _
                        go_wp2_with fail
                        go_roundg (j - q)
                        case rel => exact ⟨q + 1, by omega, by omega, rfl, HB9⟩
                        case measure => have := HHK3.out; omega
                      · have f1 : decide (cost > 0) = false := decide_eq_false hpos
                        have f2 : decide (0 < cost) = false := decide_eq_false hpos
                        clear hpos hpz
                        go_wp2_with fail
                        refine wp_region_held_drew (S := fun w' => w'.cell? ⟨G, q, none⟩ = some (.int .i64 ha)) (by kernel_rfl) (hFF _ ((Upd.refl _ _).drew)) (fun hHeld => ?_)
                        refine wpAnyH_take (i := 0) (v := ?_) (by simp only [List.getElem?_toArray, List.getElem?_cons_zero, List.getElem?_cons_succ]; rfl) (by kernel_rfl) (by kernel_rfl) (by kernel_rfl) (by intro _ _ _ h; exact h) (Or.inl ⟨by rfl, ?_⟩) (by assumption) ?_
                        rotate_left 1
                        · intro w hSw; (try dsimp only at hSw); go_simp; try with_reducible rfl
                        try simp only [Act.put, List.setIfInBounds_toArray, List.set_cons_zero, List.set_cons_succ]
                        refine wpAnyH_take (i := 1) (v := ?_) (by simp only [List.getElem?_toArray, List.getElem?_cons_zero, List.getElem?_cons_succ]; rfl) (by kernel_rfl) (by kernel_rfl) (by kernel_rfl) (by intro _ _ _ h; exact h) (Or.inl ⟨by rfl, ?_⟩) (by assumption) ?_
                        rotate_left 1
                        · intro w hSw; (try dsimp only at hSw); go_simp; try with_reducible rfl
                        try simp only [Act.put, List.setIfInBounds_toArray, List.set_cons_zero, List.set_cons_succ]
                        refine wpAnyH_take (i := 3) (v := ?_) (by simp only [List.getElem?_toArray, List.getElem?_cons_zero, List.getElem?_cons_succ]; rfl) (by kernel_rfl) (by kernel_rfl) (by kernel_rfl) (by intro _ _ _ h; exact h) (Or.inl ⟨by rfl, ?_⟩) (by assumption) ?_
                        rotate_left 1
                        · intro w hSw; (try dsimp only at hSw); go_simp; try with_reducible rfl
                        try simp only [Act.put, List.setIfInBounds_toArray, List.set_cons_zero, List.set_cons_succ]
                        refine wpAnyH_take (i := 4) (v := ?_) (by simp only [List.getElem?_toArray, List.getElem?_cons_zero, List.getElem?_cons_succ]; rfl) (by kernel_rfl) (by kernel_rfl) (by kernel_rfl) (by intro _ _ _ h; exact h) (Or.inl ⟨by rfl, ?_⟩) (by assumption) ?_
                        rotate_left 1
                        · intro w hSw; (try dsimp only at hSw); go_simp; try with_reducible rfl
                        try simp only [Act.put, List.setIfInBounds_toArray, List.set_cons_zero, List.set_cons_succ]
                        refine wpAnyH_take (i := 5) (v := ?_) (by simp only [List.getElem?_toArray, List.getElem?_cons_zero, List.getElem?_cons_succ]; rfl) (by kernel_rfl) (by kernel_rfl) (by kernel_rfl) (by intro _ _ _ h; exact h) (Or.inl ⟨by rfl, ?_⟩) (by assumption) ?_
                        rotate_left 1
                        · intro w hSw; (try dsimp only at hSw); go_simp; try with_reducible rfl
                        try simp only [Act.put, List.setIfInBounds_toArray, List.set_cons_zero, List.set_cons_succ]
                        refine wpAnyH_take (i := 6) (v := ?_) (by simp only [List.getElem?_toArray, List.getElem?_cons_zero, List.getElem?_cons_succ]; rfl) (by kernel_rfl) (by kernel_rfl) (by kernel_rfl) (by intro _ _ _ h; exact h) (Or.inl ⟨by rfl, ?_⟩) (by assumption) ?_
                        rotate_left 1
                        · intro w hSw; (try dsimp only at hSw); go_simp; try with_reducible rfl
                        try simp only [Act.put, List.setIfInBounds_toArray, List.set_cons_zero, List.set_cons_succ]
                        refine wpAnyH_take (i := 7) (v := ?_) (by simp only [List.getElem?_toArray, List.getElem?_cons_zero, List.getElem?_cons_succ]; rfl) (by kernel_rfl) (by kernel_rfl) (by kernel_rfl) (by intro _ _ _ h; exact h) (Or.inl ⟨by rfl, ?_⟩) (by assumption) ?_
                        rotate_left 1
                        · intro w hSw; (try dsimp only at hSw); go_simp; try with_reducible rfl
                        try simp only [Act.put, List.setIfInBounds_toArray, List.set_cons_zero, List.set_cons_succ]
                        refine wpAnyH_take (i := 8) (v := ?_) (by simp only [List.getElem?_toArray, List.getElem?_cons_zero, List.getElem?_cons_succ]; rfl) (by kernel_rfl) (by kernel_rfl) (by kernel_rfl) (by intro _ _ _ h; exact h) (Or.inl ⟨by rfl, ?_⟩) (by assumption) ?_
                        rotate_left 1
                        · intro w hSw; (try dsimp only at hSw); go_simp; try with_reducible rfl
                        try simp only [Act.put, List.setIfInBounds_toArray, List.set_cons_zero, List.set_cons_succ]
                        refine wpAnyH_ready (rs := [2]) (by kernel_rfl) (by simp) ?_
                        refine AllReadyH.cons (by simp only [List.getElem?_toArray, List.getElem?_cons_zero, List.getElem?_cons_succ]; rfl) (fun K9 hK => ?_) AllReadyH.nil
                        go_simp
                        refine (HCT _ ((Upd.refl _ _).drew)).out.mono ?_
                        rintro x w9 ⟨rfl, u9⟩
                        have HB9 := Lib.hid ((HA9.out.old ((Upd.refl _ _).drew)).old u9)
                        refine hK.out _ _ (by (try dsimp only); exact cell_old u9 hHeld) (fun hHeld => ?_)
                        clear hK K9 u9 HA9 hFF HCT
                        refine wpAnyH_take (i := 9) (v := ?_) (by simp only [List.getElem?_toArray, List.getElem?_cons_zero, List.getElem?_cons_succ]; rfl) (by kernel_rfl) (by kernel_rfl) (by kernel_rfl) (by intro _ _ _ h; exact h) (Or.inl ⟨by rfl, ?_⟩) (by assumption) ?_
                        rotate_left 1
                        · intro w hSw; (try dsimp only at hSw); go_simp; try with_reducible rfl
                        try simp only [Act.put, List.setIfInBounds_toArray, List.set_cons_zero, List.set_cons_succ]
                        refine wpAnyH_take (i := 10) (v := ?_) (by simp only [List.getElem?_toArray, List.getElem?_cons_zero, List.getElem?_cons_succ]; rfl) (by kernel_rfl) (by kernel_rfl) (by kernel_rfl) (by intro _ _ _ h; exact h) (Or.inl ⟨by rfl, ?_⟩) (by assumption) ?_
                        rotate_left 1
                        · intro w hSw; (try dsimp only at hSw); go_simp; try with_reducible rfl
                        try simp only [Act.put, List.setIfInBounds_toArray, List.set_cons_zero, List.set_cons_succ]
                        refine wpAnyH_take (i := 11) (v := ?_) (by simp only [List.getElem?_toArray, List.getElem?_cons_zero, List.getElem?_cons_succ]; rfl) (by kernel_rfl) (by kernel_rfl) (by kernel_rfl) (by intro _ _ _ h; exact h) (Or.inl ⟨by rfl, ?_⟩) (by assumption) ?_
                        rotate_left 1
                        · intro w hSw; (try dsimp only at hSw); go_simp; try with_reducible rfl
                        try simp only [Act.put, List.setIfInBounds_toArray, List.set_cons_zero, List.set_cons_succ]
                        refine wpAnyH_take (i := 12) (v := ?_) (by simp only [List.getElem?_toArray, List.getElem?_cons_zero, List.getElem?_cons_succ]; rfl) (by kernel_rfl) (by kernel_rfl) (by kernel_rfl) (by intro _ _ _ h; exact h) (Or.inl ⟨by rfl, ?_⟩) (by assumption) ?_
                        rotate_left 1
                        · intro w hSw; (try dsimp only at hSw); go_simp; try with_reducible rfl
                        try simp only [Act.put, List.setIfInBounds_toArray, List.set_cons_zero, List.set_cons_succ]
                        refine wpAnyH_take (i := 13) (v := ?_) (by simp only [List.getElem?_toArray, List.getElem?_cons_zero, List.getElem?_cons_succ]; rfl) (by kernel_rfl) (by kernel_rfl) (by kernel_rfl) (by intro _ _ _ h; exact h) (Or.inl ⟨by rfl, ?_⟩) (by assumption) ?_
                        rotate_left 1
                        · intro w hSw; (try dsimp only at hSw); go_simp; try with_reducible rfl
                        try simp only [Act.put, List.setIfInBounds_toArray, List.set_cons_zero, List.set_cons_succ]
                        refine wpAnyH_take (i := 14) (v := undef) (by simp only [List.getElem?_toArray, List.getElem?_cons_zero, List.getElem?_cons_succ]; rfl) (by kernel_rfl) (by kernel_rfl) (by kernel_rfl) (by intro _ _ _ h; exact h) (Or.inr ⟨by rfl, rfl⟩) (by assumption) ?_
                        try simp only [Act.put, List.setIfInBounds_toArray, List.set_cons_zero, List.set_cons_succ]
                        refine wpAnyH_take (i := 15) (v := undef) (by simp only [List.getElem?_toArray, List.getElem?_cons_zero, List.getElem?_cons_succ]; rfl) (by kernel_rfl) (by kernel_rfl) (by kernel_rfl) (by intro _ _ _ h; exact h) (Or.inr ⟨by rfl, rfl⟩) (by assumption) ?_
                        try simp only [Act.put, List.setIfInBounds_toArray, List.set_cons_zero, List.set_cons_succ]
                        refine wpAnyH_take (i := 16) (v := undef) (by simp only [List.getElem?_toArray, List.getElem?_cons_zero, List.getElem?_cons_succ]; rfl) (by kernel_rfl) (by kernel_rfl) (by kernel_rfl) (by intro _ _ _ h; exact h) (Or.inr ⟨by rfl, rfl⟩) (by assumption) ?_
                        try simp only [Act.put, List.setIfInBounds_toArray, List.set_cons_zero, List.set_cons_succ]
                        refine wpAnyH_take (i := 17) (v := undef) (by simp only [List.getElem?_toArray, List.getElem?_cons_zero, List.getElem?_cons_succ]; rfl) (by kernel_rfl) (by kernel_rfl) (by kernel_rfl) (by intro _ _ _ h; exact h) (Or.inr ⟨by rfl, rfl⟩) (by assumption) ?_
                        try simp only [Act.put, List.setIfInBounds_toArray, List.set_cons_zero, List.set_cons_succ]
                        refine wpAnyH_take (i := 18) (v := undef) (by simp only [List.getElem?_toArray, List.getElem?_cons_zero, List.getElem?_cons_succ]; rfl) (by kernel_rfl) (by kernel_rfl) (by kernel_rfl) (by intro _ _ _ h; exact h) (Or.inr ⟨by rfl, rfl⟩) (by assumption) ?_
                        try simp only [Act.put, List.setIfInBounds_toArray, List.set_cons_zero, List.set_cons_succ]
                        refine wpAnyH_take (i := 19) (v := ?_) (by simp only [List.getElem?_toArray, List.getElem?_cons_zero, List.getElem?_cons_succ]; rfl) (by kernel_rfl) (by kernel_rfl) (by kernel_rfl) (by intro _ _ _ h; exact h) (Or.inl ⟨by rfl, ?_⟩) (by assumption) ?_
                        rotate_left 1
                        · intro w hSw; (try dsimp only at hSw); go_simp; try with_reducible rfl
                        try simp only [Act.put, List.setIfInBounds_toArray, List.set_cons_zero, List.set_cons_succ]
                        refine wpAnyH_take (i := 20) (v := ?_) (by simp only [List.getElem?_toArray, List.getElem?_cons_zero, List.getElem?_cons_succ]; rfl) (by kernel_rfl) (by kernel_rfl) (by kernel_rfl) (by intro _ _ _ h; exact h) (Or.inl ⟨by rfl, ?_⟩) (by assumption) ?_
                        rotate_left 1
                        · intro w hSw; (try dsimp only at hSw); go_simp; try with_reducible rfl
                        try simp only [Act.put, List.setIfInBounds_toArray, List.set_cons_zero, List.set_cons_succ]
                        refine wpAnyH_done (by kernel_rfl) ?_ _
                        go_wp2_with fail
                        go_roundg (j - q)
                        case rel => exact ⟨q + 1, by omega, by omega, rfl, HB9⟩
                        case measure => have := HHK3.out; omega
                · obtain rfl : q = j := by omega
                  have dQ : decide ((q : Int) < q) = false := by simp
                  go_wp2_with fail
                  go_meet
                  exact ⟨_, m_drop1 (m_drop1 (m_drop1 H8.out)), HOK6.out, HCS6.out, HCR6.out⟩
        · as_aux_lemma =>
          have eK4 : (kd : Int) % 4 = 3 := eK
          clear eK hr4
          go_wp2_with fail
          refine (e_tick (t := ti) HM2.out HOK.out o4).mono ?_
          rintro x w6 ⟨rfl, hM6⟩
          have HM6 := Lib.hid (m_drop1 hM6)
          have HOK6 : Hid (OkE (tickE E ti) (i + 1)) := Lib.hid ((tickE_ok HOK.out).more (Nat.le_succ _))
          clear hM6 HM2 j0 j1 j2 j3 j4
          go_wp2_with fail
          go_meet
          exact ⟨_, HM6.out, HOK6.out, (tickE_cfs _ _).trans HCS.out, HCR.out.tick HOK.out⟩
      case rest =>
        obtain ⟨E2, hM6, hOK6, hCS6, hCR6⟩ := hcut
        obtain ⟨wC, rfl⟩ : ∃ x, x = wc := ⟨_, rfl⟩
        have H6 := Lib.hid hM6
        have HOK6 := Lib.hid hOK6
        have HCS6 := Lib.hid hCS6
        have HCR6 := Lib.hid hCR6
        have hqn : E2.q.length = n := by have h1 := cfs_len E2; rw [hCS6, HNN.out] at h1; exact h1.symm
        have HQN := Lib.hid hqn
        clear hM6 hOK6 hCS6 hCR6 hqn HM2 j0 j1 j2 j3 j4
        obtain ⟨b0, b1, b2, -⟩ := cells3 (mk_off (l1 := [_]) H6.out).1
        go_upto_region 32 with fail
        clear b0 b1 b2
        go_loopg [16, 17, 18, 141] (n + 1) (fun hk2 _ _ _ v141 wr => ∃ (j : Nat), n - j < hk2 ∧ j ≤ n ∧ v141 = .int .i64 j ∧ Hid (Made W wr (egC e E2 :: [blkC BX #[.slice ad n cc, .slice ap m cp, .int .u64 pace] TRc])))
        case atStart => exact ⟨0, by omega, Nat.zero_le _, rfl, H6⟩
        case round =>
          obtain ⟨j, hhk, hjn, rfl, H7⟩ := hrel
          obtain ⟨wD, rfl⟩ : ∃ x, x = wr := ⟨_, rfl⟩
          have HHK := Lib.hid hhk
          clear hhk H6
          rcases Nat.lt_or_ge j n with hjlt | hjge
          · obtain ⟨⟨kb, cf, s⟩, hq⟩ : ∃ x, E2.q[j]? = some x := ⟨E2.q[j]'(by have := HQN.out; omega), by simp⟩
            have hJ : (j : Int) < n := by omega
            have hcsq : cs[j]? = some cf := by rw [← HCS6.out]; exact cfs_at hq
            have hcrd := HCR6.out _ (List.mem_of_getElem? hq)
            obtain ⟨hf, hs⟩ := HOK6.out.q _ (List.mem_of_getElem? hq)
            dsimp only at hf hs hcrd
            obtain ⟨g, o, rfl, m0, m1, m2, m3, m4, m5, m6, m7, m8, m9, m10, m11, m12, m13, m14, m15⟩ := (HCA.out.old H7.out.upd).cells hcsq
            have HQ := Lib.hid hq
            have HF := Lib.hid hf
            have HS := Lib.hid hs
            have HCRD := Lib.hid hcrd
            clear hq hcsq hf hs hcrd
            go_upto_region 34 with fail
            have H8 := Lib.hid ((m_box H7.out (VC cf) TRk).perm (List.Perm.swap _ _ _))
            clear H7 m0 m1 m2 m3 m4 m5 m6 m7 m8 m9 m10 m11 m12 m13 m14 m15
            generalize wD.alloc (.cells (VC cf) TRk) = wX at *
            generalize wD.heap.size = X at *
            go_wp2_with fail
            refine (e_credit H8.out HOK6.out HQ.out).mono ?_
            rintro x w6 ⟨rfl, u6⟩
            have H9 := Lib.hid (H8.out.old u6)
            clear u6 H8
            have hX := (mk_off (l1 := [_]) H9.out).1
            have k2 : w6.cell? ⟨X, 2, none⟩ = some (.bool cf.credit) := hX.cellAt rfl
            have k4 : w6.cell? ⟨X, 4, none⟩ = some (.int .i64 cf.send) := hX.cellAt rfl
            have k5 : w6.cell? ⟨X, 5, none⟩ = some (.int .i64 cf.high) := hX.cellAt rfl
            clear hX
            obtain ⟨hv, hhv⟩ : ∃ x, s.hv = x := ⟨_, rfl⟩
            obtain ⟨sn, hsn⟩ : ∃ x, cf.send = x := ⟨_, rfl⟩
            obtain ⟨hg, hhg⟩ : ∃ x, cf.high = x := ⟨_, rfl⟩
            cases hcr : cf.credit with
            | true =>
              rw [hcr] at k2
              have a1 := HCRD.out hcr
              have a2 := (HF.out.cr hcr).2.1
              have a3 := HS.out.hv1 hcr
              have a4 := a3.2.2.2.2
              rw [hhv, hsn] at a1
              rw [hsn] at a2 k4
              rw [hhv, hhg] at a4
              rw [hhg] at k5
              rw [hhv]
              have e1 : IntKind.i64.wrap (-sn) = -sn := by rw [IntKind.wrap_i64]; omega
              have e1' : IntKind.i64.wrap (0 - sn) = -sn := by rw [IntKind.wrap_i64]; omega
              obtain ⟨lo, hlo⟩ : ∃ lo : Int, -(sn * 65535) = lo := ⟨_, rfl⟩
              have e2 : IntKind.i64.wrap (-sn * 65535) = lo := by rw [IntKind.wrap_i64]; omega
              have f1 : decide (hv < lo) = false := decide_eq_false (by omega)
              have f2 : decide (hv > hg) = false := decide_eq_false (by omega)
              have f3 : decide (hg < hv) = false := decide_eq_false (by omega)
              clear a1 a2 a3 a4 hhv hsn hhg hlo hcr
              go_wp2_with fail
              go_roundg (n - j)
              case rel => exact ⟨j + 1, by omega, by omega, rfl, Lib.hid (m_drop1 H9.out)⟩
              case measure => have := HHK.out; omega
            | false =>
              rw [hcr] at k2
              have a1 := HS.out.hv0 hcr
              rw [a1]
              clear hhv hsn hhg hcr a1
              go_wp2_with fail
              go_roundg (n - j)
              case rel => exact ⟨j + 1, by omega, by omega, rfl, Lib.hid (m_drop1 H9.out)⟩
              case measure => have := HHK.out; omega
          · obtain rfl : j = n := by omega
            have dJ : decide ((j : Int) < j) = false := by simp
            go_wp2_with fail
            go_roundg (K - i)
            case rel => exact ⟨i + 1, _, by omega, by omega, rfl, H7, HOK6, HCS6, HCR6⟩
            case measure => have := HGK.out; omega
    · obtain rfl : i = K := by omega
      have dI : decide ((i : Int) < i) = false := by simp
      go_wp2_with fail
      refine (lives_any _).mono ?_
      rintro x w4 ⟨rfl, u4⟩
      go_wp2_with fail
      go_ret
      exact ⟨rfl, (HM.out.old u4).upd⟩
end Go.Proofs.YtdddfmdcjjbegaaGreat.Egs
