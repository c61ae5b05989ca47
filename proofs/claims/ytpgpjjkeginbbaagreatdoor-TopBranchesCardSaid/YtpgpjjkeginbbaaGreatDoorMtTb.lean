/- TopBranches, TopBranches2, one behind the other. -/
import Derived.Test.YtpgpjjkeginbbaaGreatDoorMtBr2
import Derived.Test.YtpgpjjkeginbbaaGreatDoorMtSh11
import Derived.Test.YtpgpjjkeginbbaaGreatDoorMtCk
namespace Go.Proofs.YtpgpjjkeginbbaaGreatDoor.Br
open Go.RowKit Go.Proofs BigFrame
open Rnk (FlsIn)
open Gt (VC TCg cgs)
open Shm (shC new_ok do_any Allow vre TOp)
open Tree (flatN flatN_len nd NodesAt row_nodes treeC m_new m_push m_pop Env)
set_option maxHeartbeats 40000000
set_option maxRecDepth 1000000
set_option linter.unusedSimpArgs false
abbrev TNo : TypeId := 27
abbrev TSp : TypeId := 41
abbrev TPk : TypeId := 44
section
variable {R : World → Value → (Nat → Prop) → Nat → Nat → Sh.Bk → Prop}
theorem branches_walk (hR : Bk.Laws R) (hPu : ∀ b r, hR.Pu b r) (hAs : ∀ b, hR.As b) {w : World} {ws : List Nat} {n cp nl cp2 : Nat} {ad ad2 : Option Addr} {l : List Stp} {back : Bool} {kd : Int}
 (hEv : ∀ u o, Upd Nowhere w u → (∀ k, o k → w.heap.size ≤ k) → hR.Ev u o) (hkd : kd = if back = true then 2 else 1) (HMd : ∀ u fv, Shm.MadeOk R (wide ws kd) fv u) (E : Env w)
 (hn : ws.length = n) (h1 : 1 ≤ n) (h12 : n ≤ 12) (hc : CostsIn w ad ws) (hw : ∀ x ∈ ws, x ≤ 18446744073709551615) (hln : l.length = nl) (h150 : nl ≤ 150) (hst : StpsIn w ad2 l) (hlen : ∀ x ∈ l, x.len ≤ 18446744073709551615) :
 Calls Tryz.prog 3 #[.slice ad n cp, .slice ad2 nl cp2, .bool back] w fun e w' => e = .returned (.bool true) ∧ Upd Nowhere w w' := by
 obtain ⟨i0, hi, hz0, hz1, hz2⟩ := info_parts Tree.infoNo
 have hO := Tree.own_one w #[.int .i64 0, .int .i64 3, .int .u64 0, .int .u64 0] TNo 4 rfl
 have hu1 : Upd Nowhere w (w.alloc (.cells #[.int .i64 0, .int .i64 3, .int .u64 0, .int .u64 0] TNo)) := (Upd.refl _ _).alloc _
 have HC := Lib.hid hc
 have HN := Lib.hid hn
 have HW := Lib.hid hw
 have HLN := Lib.hid hln
 have HST := Lib.hid hst
 have HLE := Lib.hid hlen
 have HE := Lib.hid E
 have HKD := Lib.hid hkd
 have HPU := Lib.hid hPu
 have HAS := Lib.hid hAs
 have HEV := Lib.hid hEv
 have HMD := Lib.hid HMd
 have d1 : decide ((n : Int) < 1) = false := decide_eq_false (by omega)
 have d2 : decide (n < 1) = false := decide_eq_false (by omega)
 have d3 : decide ((n : Int) > 12) = false := decide_eq_false (by omega)
 have d4 : decide (12 < n) = false := decide_eq_false (by omega)
 have d5 : decide ((nl : Int) > 150) = false := decide_eq_false (by omega)
 have d6 : decide (150 < nl) = false := decide_eq_false (by omega)
 clear hc hn hw hln hst hlen E hkd hPu hAs hEv HMd
 go_enter Tryz.func3, Tryz.ntmps3
 go_upto_region 4 with fail
 generalize w.alloc (.cells #[.int .i64 0, .int .i64 3, .int .u64 0, .int .u64 0] TNo) = w1 at *
 go_wp2_with fail
 go_loopw [7, 9, 42] (fun v _ i wr => ∃ k : Nat, ∃ av cv, v = .slice av (k + 1) cv ∧ i = .int .i64 k ∧ k ≤ n ∧ wr.ownsRow w.heap.size TNo 4 (.slice av (k + 1) cv) (k + 1) ((flatN 3 (ws.take k) 0).flatMap nd) ∧ Upd Nowhere w wr) (fun _ _ i _ => n - (intOf i).toNat)
 case atStart => exact ⟨0, _, _, rfl, rfl, Nat.zero_le _, hO, hu1⟩
 case round =>
  obtain ⟨k, av, cv, rfl, rfl, hk, hown, hu⟩ := hrel
  obtain ⟨wB, rfl⟩ : ∃ x, x = wr := ⟨_, rfl⟩
  clear hO hu1
  by_cases hlt : k < n
  · have hI : (k : Int) < n := by omega
    obtain ⟨x, hx⟩ : ∃ x, ws[k]? = some x := ⟨ws[k]'(by rw [HN.out]; exact hlt), by simp⟩
    obtain ⟨ga, oa, rfl, r0⟩ := (HC.out.old hu) k x hx
    have hfl : (flatN 3 (ws.take k) 0).flatMap nd ++ [.int .i64 0, .int .i64 1, .int .u64 (x : Nat), .int .u64 0] = (flatN 3 (ws.take (k + 1)) 0).flatMap nd := by
     rw [List.take_add_one, hx]
     simp [flatN, nd]
    have HO := Lib.hid hown
    have HU := Lib.hid hu
    have HF := Lib.hid hfl
    have hkk : k + 1 ≤ 999999999 := by omega
    clear hown hu hfl hx
    go_wp2_with (at_builtin; go_loud (refine wpList_push rfl _ _ 28 rfl w.heap.size TNo i0 Tree.ZNo 4 32 Tryz.underlying28 hi hz0 hz1 hz2 rfl (by decide) (by decide) (.slice av (k + 1) cv) (k + 1) _ rfl (ownsRow_upd HO.out ((Upd.refl Nowhere wB).alloc _) (fun _ _ h => h)) wB.heap.size 1 [.int .i64 0, .int .i64 1, .int .u64 (x : Nat), .int .u64 0] rfl rfl (new_cells wB #[.int .i64 0, .int .i64 1, .int .u64 (x : Nat), .int .u64 0] _) (by simp [Value.oneCell']) hkk (Nat.le_trans HU.out.size (Upd.size ((Upd.refl Nowhere wB).alloc _))) ?_; intro v4 w4 hown4 hu4 hn4; rw [HF.out] at hown4; obtain ⟨a4, c4, rfl⟩ : ∃ a4 c4, v4 = .slice a4 (k + 1 + 1) c4 := (by rcases hown4.2 with ⟨_, h9⟩ | ⟨g, c, cur, rfl, _⟩; (exact absurd h9 (Nat.succ_ne_zero _)); (exact ⟨_, _, rfl⟩)); have hu5 := (HU.out.alloc (.cells #[.int .i64 0, .int .i64 1, .int .u64 (x : Nat), .int .u64 0] TNo)).trans hu4 (fun b hb hk => absurd (HO.out.lt b hk).1 (Nat.not_le.2 hb))))
    go_wp2_with fail
    go_roundw
    case rel => exact ⟨k + 1, _, _, rfl, by first | rfl | go_num, by omega, hown4, hu5⟩
    case measure => simp [intOf]; omega
  · obtain rfl : k = n := by omega
    have hI : ¬ (k : Int) < k := by omega
    rw [List.take_of_length_le (by rw [HN.out]; exact Nat.le_refl _)] at hown
    obtain ⟨ad', c', he, hnd⟩ := row_nodes hown (by rw [flatN_len, HN.out])
    rw [flatN_len, HN.out] at he
    injection he with he1 he2 he3
    subst he1 he3
    have HND := Lib.hid hnd
    have HU := Lib.hid hu
    clear hown hnd hu he2
    go_upto_if 52 with fail
    go_cut [10] (fun v10 wc => v10 = .int .i64 kd ∧ wc = wB)
    case first =>
     cases back with
     | true =>
       have hk2 : kd = 2 := by rw [HKD.out]; rfl
       subst hk2
       go_wp2_with fail
       go_meet
       exact ⟨rfl, rfl⟩
     | false =>
       have hk2 : kd = 1 := by rw [HKD.out]; rfl
       subst hk2
       go_wp2_with fail
       go_meet
       exact ⟨rfl, rfl⟩
    case rest =>
     obtain ⟨rfl, rfl⟩ := hcut
     have hfc := HC.out.old HU.out
     have HWI : Hid (Calls Tryz.prog 7 #[.slice ad k cp, .int .i64 kd] wc fun e w' => ∃ fg fcp V, VC (wide ws kd) (.slice (some ⟨fg, 0, none⟩) k fcp) = V ∧ e = .returned (.agg V) ∧ FlsIn w' (some ⟨fg, 0, none⟩) (wfl ws) ∧ Upd Nowhere wc w') := Lib.hid ((wide_any (cp := cp) (kd := kd) HN.out h1 h12 hfc).mono (fun e w' ⟨fg, fcp, e1, e2, e3⟩ => ⟨fg, fcp, _, rfl, e1, e2, e3⟩))
     have hCok := wide_ok (back := kd) (by rw [HN.out]; exact h1) (by rw [HN.out]; exact h12) (by rw [HKD.out]; cases back <;> simp) HW.out
     have HCok := Lib.hid hCok
     have HRB := fun u fg fcp (hf : FlsIn u (some ⟨fg, 0, none⟩) (wfl ws)) => Lib.hid (new_ok hR (cp := fcp) (n := k) (c := wide ws kd) (by show (wfl ws).length = _; rw [wfl_len]; exact HN.out) hCok hf (fun u _ => HMD.out u _))
     obtain ⟨C, hC⟩ : ∃ C, wide ws kd = C := ⟨_, rfl⟩
     rw [hC] at HRB HWI HCok
     have HCE := Lib.hid hC
     clear hfc hCok hC
     have HN1 := Lib.hid h1
     have HN12 := Lib.hid h12
     clear hI d1 d2 d3 d4 d5 d6 hi hz0 hz1 hz2 h1 h12 hlt hk
     go_upto_region 12 with fail
     refine wp_region_lit ?_
     refine wpList_one rfl fun K hK => ?_
     go_simp
     refine hK.out _ _ ?_
     clear hK K
     try simp only [Act.put, List.setIfInBounds_toArray, List.set_cons_zero, List.set_cons_succ]
     refine wpList_one rfl fun K hK => ?_
     go_simp
     refine hK.out _ _ ?_
     clear hK K
     try simp only [Act.put, List.setIfInBounds_toArray, List.set_cons_zero, List.set_cons_succ]
     refine wpList_one rfl fun K hK => ?_
     go_simp
     go_wp2_with (go_at_call 7; refine HWI.out.mono ?_; rintro e w2 ⟨fg, fcp, V, hV, rfl, hfl, u2⟩)
     refine hK.out _ _ ?_
     clear hK K
     try simp only [Act.put, List.setIfInBounds_toArray, List.set_cons_zero, List.set_cons_succ]
     have HNW := HRB w2 fg fcp hfl
     rw [hV] at HNW
     have HU2 := Lib.hid (HU.out.trans u2 (fun _ _ h => h))
     have HND2 := Lib.hid (Tree.NodesAt.old HND.out u2)
     clear hfl u2 HWI hV HRB
     refine wpList_one rfl fun K hK => ?_
     go_simp
     go_wp2_with (go_at_call 6; refine HNW.out.mono ?_; rintro e w3 ⟨LS, own, rfl, h3, hge3, u3⟩)
     refine hK.out _ _ ?_
     clear hK K
     try simp only [Act.put, List.setIfInBounds_toArray, List.set_cons_zero, List.set_cons_succ]
     refine wpList_one rfl fun K hK => ?_
     go_simp
     refine hK.out _ _ ?_
     clear hK K
     try simp only [Act.put, List.setIfInBounds_toArray, List.set_cons_zero, List.set_cons_succ]
     refine wpList_one rfl fun K hK => ?_
     go_simp
     refine hK.out _ _ ?_
     clear hK K
     try simp only [Act.put, List.setIfInBounds_toArray, List.set_cons_zero, List.set_cons_succ]
     refine wpList_one rfl fun K hK => ?_
     go_simp
     refine hK.out _ _ ?_
     clear hK K
     try simp only [Act.put, List.setIfInBounds_toArray, List.set_cons_zero, List.set_cons_succ]
     refine wpList_one rfl fun K hK => ?_
     go_simp
     refine hK.out _ _ ?_
     clear hK K
     try simp only [Act.put, List.setIfInBounds_toArray, List.set_cons_zero, List.set_cons_succ]
     refine wpList_one rfl fun K hK => ?_
     go_simp
     refine hK.out _ _ ?_
     clear hK K
     try simp only [Act.put, List.setIfInBounds_toArray, List.set_cons_zero, List.set_cons_succ]
     refine wpList_nil ?_
     have hM3 : Made w2 w3 [shC hR LS C 0 (Sh.st0 C)] := (Made.start w2).more (C := shC hR LS C 0 (Sh.st0 C)) h3 hge3 u3
     have hMN := m_new (room := 4096) (cp := cv) hM3 (HE.out.old HU2.out) (Tree.NodesAt.old HND2.out u3) (by rw [flatN_len]; omega) (by rw [flatN_len, HN.out]; have := HN12.out; omega) (Tree.flatN_ok (by omega) (by omega)) (by omega) (by omega)
     rw [flatN_len, HN.out] at hMN
     have HSH := Lib.hid (sh_ok (ws := ws) (by rw [HN.out]; exact HN12.out) HW.out)
     have HB0 := Lib.hid (br0 (ws := ws) (back := kd) (by rw [HKD.out]; cases back <;> simp))
     have HG0 : Hid (Sh.Good C (Sh.st0 C)) := Lib.hid (by rw [← HCE.out]; exact wide_good (by rw [HCE.out]; exact HCok.out))
     rw [HCE.out] at HB0
     have HEV2 : Hid (∀ u, Upd Nowhere w2 u → ∀ o, (∀ q, o q → w2.heap.size ≤ q) → hR.Ev u o) := Lib.hid (fun u hu o ho => HEV.out u o (HU2.out.trans hu (fun _ _ h => h)) (fun q hq => Nat.le_trans HU2.out.size (ho q hq)))
     have HE2 := Lib.hid (HE.out.old HU2.out)
     obtain ⟨sh, hsh⟩ : ∃ sh, Tree.shOf (flatN 3 ws 0) = sh := ⟨_, rfl⟩
     rw [hsh] at hMN HSH
     have HMN := Lib.hid hMN
     have HSHE := Lib.hid hsh
     clear hM3 h3 hge3 u3 hMN hsh HNW HND HND2 HEV HMD HKD HE
     go_wp2_with fail
     refine HMN.out.mono ?_
     rintro e w4 ⟨L2, rfl, h4⟩
     have H4 := Lib.hid h4
     clear h4 HMN
     go_wp2_with fail
     go_loopg [15, 16, 17, 18, 19, 20, 21, 22, 23, 81] (nl + 1) (fun gk _ _ _ _ _ _ _ _ _ v81 wr => ∃ (j : Nat) (st : Sh.St) (s : Tree.TS) (M : List (Nat × Sh.Pk)) (cnt : Nat), nl - j < gk ∧ j ≤ nl ∧ v81 = .int .i64 j ∧ cnt ≤ j ∧ Hid (Br ws j st s M) ∧ Hid (Sh.Good C st) ∧ Hid (Made w2 wr [treeC L2 sh 4096 s (j * 10000000), shC hR LS C cnt st]))
     case atStart => exact ⟨0, _, _, _, 0, by omega, Nat.zero_le _, rfl, Nat.zero_le _, HB0, HG0, H4⟩
     case round =>
      obtain ⟨j, st, s, M, cnt, hgk, hin, rfl, hcn, HB, HG, HM⟩ := hrel
      obtain ⟨wD, rfl⟩ : ∃ x, x = wr := ⟨_, rfl⟩
      have HGK := Lib.hid hgk
      clear hgk HB0 HG0 H4
      rcases Nat.lt_or_ge j nl with hlt | hge
      · obtain ⟨x, hx⟩ : ∃ x, l[j]? = some x := ⟨l[j]'(by rw [HLN.out]; exact hlt), by simp⟩
        have hxl := HLE.out x (List.mem_of_getElem? hx)
        obtain ⟨ga, oa, rfl, r0, r1, r2⟩ := (HST.out.old (HU2.out.trans HM.out.upd (fun _ _ h => h))) j x hx
        obtain ⟨lv, fl, len⟩ := x
        dsimp only at r0 r1 r2 hxl
        have hI : (j : Int) < nl := by omega
        have hgt := (Tree.m_tree [] [shC hR LS C cnt st] HM.out)
        obtain ⟨_, _, hgt⟩ := hgt
        have HGT := Lib.hid hgt
        have hkk : j * 10000000 + 20000000 < 18446744073709551615 := by omega
        have hkk2 : (j + 1) * 10000000 = j * 10000000 + 10000000 := Nat.succ_mul j _
        have HXL := Lib.hid hxl
        clear hx hgt hxl
        go_upto_region 19 with fail
        have hMX := Tree.m_blk HM.out #[.bool lv, .int .i64 fl, .int .u64 (len : Nat)] TSp
        obtain ⟨XB, hXB⟩ : ∃ XB, wD.heap.size = XB := ⟨_, rfl⟩
        rw [hXB] at hMX
        try simp only [hXB]
        have HMX := Lib.hid hMX
        clear hMX hXB r0 r1 r2 HM
        generalize wD.alloc (.cells #[.bool lv, .int .i64 fl, .int .u64 (len : Nat)] TSp) = wE at *
        obtain ⟨x0, x1, x2, -⟩ := cells3 (Shm.made_blk (l1 := []) HMX.out)
        cases lv with
        | true =>
          obtain ⟨r, st', p0, p1, p2, v, s', M', hd, hp, hr1, hr2, hb', hg'⟩ := step_pop HCE.out HSHE.out HSH.out (by have := HN1.out; rw [HN.out]; omega) HGT.out HB.out HG.out HCok.out (by omega)
          have HB' := Lib.hid hb'
          have HG' := Lib.hid hg'
          have HD := Lib.hid hd
          have HP := Lib.hid (m_pop (t := 0) [blkC XB _ TSp] [shC hR LS C cnt st] HMX.out HE2.out HSH.out (by omega) hkk (by omega) hp)
          obtain ⟨V, hV⟩ : ∃ V, vre r = V := ⟨_, rfl⟩
          have hs1 : V.size = 42 := by rw [← hV]; rfl
          have ha1 : V.all (·.oneCell') = true := by rw [← hV]; exact Shm.vre_one ..
          have v1 : V[1]? = some (.int .i64 (v : Nat)) := by rw [← hV, ← hr2]; rfl
          have v2 : V[2]? = some (.int .u32 (p0 : Nat)) := by rw [← hV, show p0 = r.pkt.1 by rw [hr1]]; rfl
          have v3 : V[3]? = some (.int .u32 (p1 : Nat)) := by rw [← hV, show p1 = r.pkt.2.1 by rw [hr1]]; rfl
          have v4 : V[4]? = some (.int .u64 (p2 : Nat)) := by rw [← hV, show p2 = r.pkt.2.2 by rw [hr1]]; rfl
          have HV := Lib.hid (And.intro hV (And.intro hs1 ha1))
          have HVC := Lib.hid (And.intro v1 (And.intro v2 (And.intro v3 v4)))
          clear hd hp hr1 hr2 hb' hg' hV hs1 ha1 v1 v2 v3 v4
          go_wp2_with fail
          refine HP.out.mono ?_
          rintro e w5 ⟨rfl, h5⟩
          have h6 := Tree.m_blk h5 #[.int .u32 (p0 : Nat), .int .u32 (p1 : Nat), .int .u64 (p2 : Nat)] TPk
          obtain ⟨PB, hPB⟩ : ∃ PB, w5.heap.size = PB := ⟨_, rfl⟩
          rw [hPB] at h6
          have H6 := Lib.hid h6
          clear h5 h6 HP HMX x0 x1 x2
          go_upto_region 21 with fail
          try simp only [hPB]
          clear hPB
          generalize w5.alloc (.cells #[.int .u32 (p0 : Nat), .int .u32 (p1 : Nat), .int .u64 (p2 : Nat)] TPk) = w6 at *
          have hDO := m_do (x := ⟨2, 0, 0, 0, 0⟩) hR (l1 := [blkC PB _ TPk, blkC XB _ TSp, treeC L2 sh 4096 s' (j * 10000000 + 10000000)]) (l2 := []) H6.out HG.out HCok.out (by unfold Sh.Op.Ok Sh.mx; decide) (by omega) ⟨fun _ _ => HPU.out _ _, fun _ => HAS.out _⟩ (HEV2.out _ H6.out.upd) HD.out
          rw [HV.out.1] at hDO
          have HDO := Lib.hid hDO
          clear hDO
          refine wp_region_lit ?_
          refine wpList_one rfl fun K hK => ?_
          go_simp
          refine hK.out _ _ ?_
          clear hK K
          try simp only [Act.put, List.setIfInBounds_toArray, List.set_cons_zero, List.set_cons_succ]
          refine wpList_one rfl fun K hK => ?_
          go_simp
          refine hK.out _ _ ?_
          clear hK K
          try simp only [Act.put, List.setIfInBounds_toArray, List.set_cons_zero, List.set_cons_succ]
          refine wpList_one rfl fun K hK => ?_
          go_simp
          go_wp2_with (go_at_call 10; refine HDO.out.mono ?_; rintro e w7 ⟨rfl, cnt', hcn', h7⟩)
          refine hK.out _ _ ?_
          clear hK K
          try simp only [Act.put, List.setIfInBounds_toArray, List.set_cons_zero, List.set_cons_succ]
          refine wpList_one rfl fun K hK => ?_
          go_simp
          refine hK.out _ _ ?_
          clear hK K
          try simp only [Act.put, List.setIfInBounds_toArray, List.set_cons_zero, List.set_cons_succ]
          obtain ⟨hV, hs1, ha1⟩ := HV.out
          have h8 := Tree.m_blk h7 Shm.zRe Shm.TRe
          have hZ := Shm.made_blk (l1 := []) h8
          obtain ⟨w9, hst, hB9, hu9⟩ := store_all (P := Tryz.prog) (T := Shm.TRe) (V := V) (n := 42) hZ Shm.infoRe rfl hs1 ha1
          have h9 := made_sto h8 hB9 hu9
          obtain ⟨RB, hRB⟩ : ∃ RB, w7.heap.size = RB := ⟨_, rfl⟩
          rw [hRB] at hst hB9 h9
          try simp only [hRB]
          have H9 := Lib.hid h9
          have HB9 := Lib.hid hB9
          refine wpList_storeV Shm.TRe (.tmp 19) (.tmp 95) ⟨RB, 0, none⟩ (.agg V) hst ?_
          refine wpList_nil ?_
          have hP9 := Shm.made_blk (l1 := [blkC RB V Shm.TRe]) H9.out
          obtain ⟨y0, y1, y2, -⟩ := cells3 hP9
          obtain ⟨v1, v2, v3, v4⟩ := HVC.out
          have z1 := hB9.cellAt v1
          have z2 := hB9.cellAt v2
          have z3 := hB9.cellAt v3
          have z4 := hB9.cellAt v4
          clear hV hs1 ha1 h7 h8 hZ hst hB9 hu9 h9 hRB hP9 v1 v2 v3 v4 HDO HVC HV
          go_wp2_with fail
          go_roundg (nl - j)
          case rel => exact ⟨j + 1, st', s', M', cnt', by omega, by omega, by first | rfl | go_num, by omega, HB', HG', Lib.hid (by rw [hkk2]; exact H9.out.drop.drop.drop)⟩
          case measure => have := HGK.out; omega
        | false =>
          obtain ⟨U, hU⟩ : ∃ U : Nat, IntKind.u64.wrap fl = (U : Int) := ⟨(IntKind.u64.wrap fl).toNat, by rw [IntKind.wrap_u64]; omega⟩
          obtain ⟨i, hi⟩ : ∃ i, U % k = i := ⟨_, rfl⟩
          have hk1 := HN1.out
          have hk12 := HN12.out
          have hik : i < k := by rw [← hi]; exact Nat.mod_lt _ (by omega)
          have e1 : IntKind.u64.wrap (k : Int) = (k : Int) := by rw [IntKind.wrap_u64]; omega
          have e2 : (U : Int).tmod (k : Int) = (i : Int) := by rw [Int.tmod_eq_emod_of_nonneg (by omega)]; omega
          have e2' : (U : Int) % (k : Int) = (i : Int) := by omega
          have hK0 : ¬ (k : Int) = 0 := by omega
          have hK1 : ¬ k = 0 := by omega
          clear hi
          obtain ⟨i1, hi1⟩ : ∃ i1, i + 1 = i1 := ⟨_, rfl⟩
          have e3 : IntKind.u32.wrap (i : Int) = (i : Int) := by rw [IntKind.wrap_u32]; omega
          have e5 : IntKind.u32.wrap (j : Int) = (j : Int) := by rw [IntKind.wrap_u32]; omega
          have e6 : IntKind.i64.wrap (i : Int) = (i : Int) := by rw [IntKind.wrap_i64]; omega
          have e4 : (i : Int) + 1 = (i1 : Int) := by omega
          obtain ⟨r, st', v, s', M', hd, hp, hr2, hb', hg'⟩ := step_push HCE.out HSHE.out HB.out HG.out HCok.out (by omega) (by rw [HN.out]; exact hik) (by omega) j len (by omega) HXL.out
          rw [hi1] at hp
          have HB' := Lib.hid hb'
          have HG' := Lib.hid hg'
          have HD := Lib.hid hd
          have hj32 : j < 4294967296 := by omega
          have HI1 := Lib.hid hi1
          obtain ⟨V, hV⟩ : ∃ V, vre r = V := ⟨_, rfl⟩
          have hs1 : V.size = 42 := by rw [← hV]; rfl
          have ha1 : V.all (·.oneCell') = true := by rw [← hV]; exact Shm.vre_one ..
          have v1 : V[1]? = some (.int .i64 (v : Nat)) := by rw [← hV, ← hr2]; rfl
          have HV := Lib.hid (And.intro hV (And.intro hs1 ha1))
          have HVC := Lib.hid v1
          clear hd hr2 hb' hg' hV hs1 ha1 v1 hi1
          have HPP := Lib.hid hp
          clear hp
          go_upto_region 26 with fail
          have h6 := Tree.m_blk HMX.out #[.int .u32 (i : Nat), .int .u32 (j : Nat), .int .u64 (len : Nat)] TPk
          obtain ⟨PB, hPB⟩ : ∃ PB, wE.heap.size = PB := ⟨_, rfl⟩
          rw [hPB] at h6
          try simp only [hPB]
          have HP := Lib.hid (m_push (t := 0) [blkC PB _ TPk, blkC XB _ TSp] [shC hR LS C cnt st] h6 HE2.out HSH.out (by omega) hkk (by omega) i1 i j len (by omega) (by omega) HXL.out HPP.out)
          obtain ⟨y0, y1, y2, -⟩ := cells3 (Shm.made_blk (l1 := []) h6)
          clear h6 hPB HMX x0 x1 x2
          generalize wE.alloc (.cells #[.int .u32 (i : Nat), .int .u32 (j : Nat), .int .u64 (len : Nat)] TPk) = w6 at *
          go_wp2_with fail
          refine HP.out.mono ?_
          rintro e w7 ⟨rfl, h7⟩
          have H7 := Lib.hid h7
          obtain ⟨t0, t1, t2, -⟩ := cells3 (Shm.made_blk (l1 := []) h7)
          have hDO := m_do (x := ⟨1, i, j, len, 0⟩) hR (l1 := [blkC PB _ TPk, blkC XB _ TSp, treeC L2 sh 4096 s' (j * 10000000 + 10000000)]) (l2 := []) h7 HG.out HCok.out (by have := HXL.out; unfold Sh.Op.Ok Sh.mx; dsimp only; omega) (by omega) ⟨fun _ _ => HPU.out _ _, fun _ => HAS.out _⟩ (HEV2.out _ h7.upd) HD.out
          rw [HV.out.1] at hDO
          have HDO := Lib.hid hDO
          clear hDO h7 HP y0 y1 y2
          go_upto_region 27 with fail
          refine wp_region_lit ?_
          refine wpList_one rfl fun K hK => ?_
          go_simp
          refine hK.out _ _ ?_
          clear hK K
          try simp only [Act.put, List.setIfInBounds_toArray, List.set_cons_zero, List.set_cons_succ]
          refine wpList_one rfl fun K hK => ?_
          go_simp
          refine hK.out _ _ ?_
          clear hK K
          try simp only [Act.put, List.setIfInBounds_toArray, List.set_cons_zero, List.set_cons_succ]
          refine wpList_one rfl fun K hK => ?_
          go_simp
          refine hK.out _ _ ?_
          clear hK K
          try simp only [Act.put, List.setIfInBounds_toArray, List.set_cons_zero, List.set_cons_succ]
          refine wpList_one rfl fun K hK => ?_
          go_simp
          refine hK.out _ _ ?_
          clear hK K
          try simp only [Act.put, List.setIfInBounds_toArray, List.set_cons_zero, List.set_cons_succ]
          refine wpList_one rfl fun K hK => ?_
          go_simp
          refine hK.out _ _ ?_
          clear hK K
          try simp only [Act.put, List.setIfInBounds_toArray, List.set_cons_zero, List.set_cons_succ]
          refine wpList_one rfl fun K hK => ?_
          go_simp
          refine hK.out _ _ ?_
          clear hK K
          try simp only [Act.put, List.setIfInBounds_toArray, List.set_cons_zero, List.set_cons_succ]
          refine wpList_one rfl fun K hK => ?_
          go_simp
          refine hK.out _ _ ?_
          clear hK K
          try simp only [Act.put, List.setIfInBounds_toArray, List.set_cons_zero, List.set_cons_succ]
          refine wpList_one rfl fun K hK => ?_
          go_simp
          refine hK.out _ _ ?_
          clear hK K
          try simp only [Act.put, List.setIfInBounds_toArray, List.set_cons_zero, List.set_cons_succ]
          refine wpList_one rfl fun K hK => ?_
          go_simp
          go_wp2_with (go_at_call 10; refine HDO.out.mono ?_; rintro e w8 ⟨rfl, cnt', hcn', h8'⟩)
          refine hK.out _ _ ?_
          clear hK K
          try simp only [Act.put, List.setIfInBounds_toArray, List.set_cons_zero, List.set_cons_succ]
          refine wpList_one rfl fun K hK => ?_
          go_simp
          refine hK.out _ _ ?_
          clear hK K
          try simp only [Act.put, List.setIfInBounds_toArray, List.set_cons_zero, List.set_cons_succ]
          obtain ⟨hV, hs1, ha1⟩ := HV.out
          have h8 := Tree.m_blk h8' Shm.zRe Shm.TRe
          have hZ := Shm.made_blk (l1 := []) h8
          obtain ⟨w9, hst, hB9, hu9⟩ := store_all (P := Tryz.prog) (T := Shm.TRe) (V := V) (n := 42) hZ Shm.infoRe rfl hs1 ha1
          have h9 := made_sto h8 hB9 hu9
          obtain ⟨RB, hRB⟩ : ∃ RB, w8.heap.size = RB := ⟨_, rfl⟩
          rw [hRB] at hst hB9 h9
          try simp only [hRB]
          have H9 := Lib.hid h9
          refine wpList_storeV Shm.TRe (.tmp 23) (.tmp 134) ⟨RB, 0, none⟩ (.agg V) hst ?_
          refine wpList_nil ?_
          have v1 := HVC.out
          have z1 := hB9.cellAt v1
          clear hV hs1 ha1 h8 h8' hZ hst hB9 hu9 h9 hRB v1 HDO HVC HV t0 t1 t2
          go_wp2_with fail
          go_roundg (nl - j)
          case rel => exact ⟨j + 1, st', s', M', cnt', by omega, by omega, by first | rfl | go_num, by omega, HB', HG', Lib.hid (by rw [hkk2]; exact H9.out.drop.drop.drop)⟩
          case measure => have := HGK.out; omega
      · obtain rfl : j = nl := by omega
        have dI : decide ((j : Int) < j) = false := by simp
        obtain ⟨r, hd, hpk⟩ := step_stats HB.out HG.out
        have HDO := Lib.hid (m_do (x := ⟨4, 0, 0, 0, 0⟩) hR (l1 := [treeC L2 sh 4096 s (j * 10000000)]) (l2 := []) HM.out HG.out HCok.out (by unfold Sh.Op.Ok Sh.mx; decide) (by omega) ⟨fun _ _ => HPU.out _ _, fun _ => HAS.out _⟩ (HEV2.out _ HM.out.upd) hd)
        obtain ⟨VS, hf1, hf2⟩ := fld_any r
        obtain ⟨V, hV⟩ : ∃ V, vre r = V := ⟨_, rfl⟩
        rw [hV] at HDO hf1
        obtain ⟨m, hm⟩ : ∃ m, s.m = m := ⟨_, rfl⟩
        rw [hpk, hm] at hf2
        have HLN := fun u cnt' (h : Made w2 u [treeC L2 sh 4096 s (j * 10000000), shC hR LS C cnt' st]) => Lib.hid (by
         obtain ⟨o, hP, _, _⟩ := Made.foc (treeC L2 sh 4096 s (j * 10000000)) _ [] h
         have h9 := Tree.len_ok hP.1
         rw [hm] at h9
         exact h9 : Calls Tryz.prog 12 #[.pointer (some ⟨L2.b, 0, none⟩)] u fun e w' => e = .returned (.int .i64 (m : Nat)) ∧ u = w')
        have HLV := fun u => Lib.hid (Shm.lives_any u)
        have HU3 := Lib.hid HU2.out
        clear hd hpk hV hm HM
        go_wp2_with fail
        refine HDO.out.mono ?_
        rintro e w7 ⟨rfl, cnt', hcn', h7⟩
        have HLE := HLN w7 cnt' h7
        have HU7 := Lib.hid (HU3.out.trans h7.upd (fun _ _ h => h))
        clear h7 HLN HDO
        go_wp2_with fail
        refine HLE.out.mono ?_
        rintro e w8 ⟨rfl, rfl⟩
        go_wp2_with fail
        refine (HLV _).out.mono ?_
        rintro e w9 ⟨rfl, u9⟩
        have HU9 := Lib.hid (HU7.out.trans u9 (fun _ _ h => h))
        clear u9
        go_wp2_with fail
        go_ret
        exact ⟨rfl, HU9.out⟩
end
end Go.Proofs.YtpgpjjkeginbbaaGreatDoor.Br
namespace Go.Proofs.YtpgpjjkeginbbaaGreatDoor.Br
open Go.RowKit Go.Proofs BigFrame
open Tree (Env)
set_option maxHeartbeats 4000000
set_option maxRecDepth 100000
set_option linter.unusedSimpArgs false
theorem branches_big (ad : Option Addr) (n cp : Nat) (ad2 : Option Addr) (nl cp2 : Nat) (back : Bool) (w : World) (h : n < 1 ∨ 12 < n ∨ 150 < nl) :
 Calls Tryz.prog 3 #[.slice ad n cp, .slice ad2 nl cp2, .bool back] w fun e w' => e = .returned (.bool true) ∧ Upd Nowhere w w' := by
 have HLV := fun u => Lib.hid (Shm.lives_any u)
 by_cases h1 : n < 1
 · have d1 : decide ((n : Int) < 1) = true := decide_eq_true (by omega)
   have d2 : decide (n < 1) = true := decide_eq_true h1
   clear h h1
   go_enter Tryz.func3, Tryz.ntmps3
   go_wp2_with fail
   refine (HLV _).out.mono ?_
   rintro e w9 ⟨rfl, u9⟩
   go_wp2_with fail
   go_ret
   exact ⟨rfl, u9⟩
 · have d1 : decide ((n : Int) < 1) = false := decide_eq_false (by omega)
   have d2 : decide (n < 1) = false := decide_eq_false h1
   by_cases h2 : 12 < n
   · have d3 : decide ((n : Int) > 12) = true := decide_eq_true (by omega)
     have d4 : decide (12 < n) = true := decide_eq_true h2
     clear h h1 h2
     go_enter Tryz.func3, Tryz.ntmps3
     go_wp2_with fail
     refine (HLV _).out.mono ?_
     rintro e w9 ⟨rfl, u9⟩
     go_wp2_with fail
     go_ret
     exact ⟨rfl, u9⟩
   · have d3 : decide ((n : Int) > 12) = false := decide_eq_false (by omega)
     have d4 : decide (12 < n) = false := decide_eq_false h2
     have d5 : decide ((nl : Int) > 150) = true := decide_eq_true (by omega)
     have d6 : decide (150 < nl) = true := decide_eq_true (by omega)
     clear h h1 h2
     go_enter Tryz.func3, Tryz.ntmps3
     go_wp2_with fail
     refine (HLV _).out.mono ?_
     rintro e w9 ⟨rfl, u9⟩
     go_wp2_with fail
     go_ret
     exact ⟨rfl, u9⟩
theorem branches_law (v0 : Value) (li : List Int) (v1 : Value) (l : List Stp) (back : Bool) (w : World) (hr : RowAt w v0 (li.map (.int .u64))) (hwf : ∀ n ∈ li, (Lit.int .u64 n).wf = true) (hv1 : RowsAt w v1 l.length (l.flatMap stL)) (hl : ∀ x ∈ l, x.len ≤ 18446744073709551615) (E : Env w) :
 Calls Tryz.prog 3 #[v0, v1, .bool back] w fun e w' => e = .returned (.bool true) ∧ Upd Nowhere w w' := by
 obtain ⟨ad, c, rfl, hc, hw⟩ := costs_of hr hwf
 obtain ⟨ad2, c2, rfl, hst⟩ := stps_of hv1
 by_cases h : (li.map Int.toNat).length < 1 ∨ 12 < (li.map Int.toNat).length ∨ 150 < l.length
 · exact branches_big ad _ c ad2 l.length c2 back w h
 · cases back with
   | false =>
     exact branches_walk (R := Bk.Bq) Bk.bq_laws (fun _ _ => trivial) (fun _ => trivial) (kd := 1) (fun _ _ _ _ => trivial) rfl (fun u fv => Shm.made_heap rfl (by show (1 : Int) ≤ 4096 ∧ (4096 : Int) ≤ 4096; omega) u) E rfl (by omega) (by omega) hc hw rfl (by omega) hst hl
   | true =>
     refine branches_walk (R := Ck.Cw) Ck.cw_laws (fun _ _ => trivial) (fun _ => trivial) (kd := 2) (fun u o hu ho => ?_) rfl (fun u fv => Ck.made_cw rfl (by show (1 : Int) ≤ 4096 ∧ (4096 : Int) ≤ 4096; omega) (by show (1 : Int) ≤ 2 ∧ (2 : Int) ≤ 3; omega) u) E rfl (by omega) (by omega) hc hw rfl (by omega) hst hl
     have E2 := E.old hu
     exact ⟨E2.tab, fun h9 => absurd (ho _ h9) (Nat.not_le.2 E.low), E2.low⟩
end Go.Proofs.YtpgpjjkeginbbaaGreatDoor.Br

