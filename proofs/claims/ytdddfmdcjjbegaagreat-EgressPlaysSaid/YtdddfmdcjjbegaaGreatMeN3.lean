/- EgN3, one behind the other. -/
import Derived.Test.YtdddfmdcjjbegaaGreatMeN
namespace Go.Proofs.YtdddfmdcjjbegaaGreat.Egs
open Go.RowKit Go.Proofs BigFrame
open RingW (It KI zI ZI VI TE)
open First (Cf VC TCl)
set_option maxHeartbeats 40000000
set_option maxRecDepth 1000000
set_option linter.unusedSimpArgs false
theorem infoK : (Tryz.prog.info? TKp).map (fun i => (i.zero, i.size, i.bytes)) = some (some (.pointer none), 1, 8) := by kernel_rfl
theorem infoS : (Tryz.prog.info? Plan.TS).map (fun i => (i.zero, i.size, i.bytes)) = some (some (.agg #[.int .u8 0, .int .u64 0]), 2, 16) := by kernel_rfl
theorem form0 {w : World} {T : TypeId} {W m : Nat} {v : Value} {xs : List Value} (h : w.ownsRow 0 T W v (0 + m) xs) : ∃ ad c, v = .slice ad m c := by
 rw [Nat.zero_add] at h
 exact row_form h
theorem slc_one (l : List (Nat × Nat)) : ∀ u ∈ slc l, u.oneCell' = true := by
 intro u hu
 unfold slc at hu
 obtain ⟨x, _, hx⟩ := List.mem_flatMap.1 hu
 rcases List.mem_cons.1 hx with rfl | hx
 · rfl
 · rcases List.mem_cons.1 hx with rfl | hx
   · rfl
   · cases hx
theorem slc_len (l : List (Nat × Nat)) : (slc l).length = l.length * 2 := by
 unfold slc
 induction l with
 | nil => rfl
 | cons a t ih => rw [List.flatMap_cons, List.length_append, ih, List.length_cons]; simp; omega
theorem plan_src {w : World} {ap : Option Addr} {cp m : Nat} {pl : List (Nat × Nat)} (h : PlnAt w ap pl) (hn : ap = none → cp = 0) (hm : pl.length = m) : (ap = none → m = 0 ∧ cp = 0) ∧ ∀ b, ap = some b → ∀ j u, (slc pl)[j]? = some u → w.cell? (b.add j) = some u := by
 rcases Nat.eq_zero_or_pos pl.length with h0 | h0
 · refine ⟨fun he => ⟨by omega, hn he⟩, fun b hb j u hu => ?_⟩
   rw [List.eq_nil_of_length_eq_zero h0] at hu
   cases hu
 · obtain ⟨g, o, rfl, _, hA⟩ := h h0
   refine ⟨(fun he => nomatch he), fun b hb j u hu => ?_⟩
   cases hb
   rw [add_at]
   exact slc_at hA j u hu
theorem cls_cells {w : World} {X : Nat} {x : Cf} (h : Blk w X (VC x) TCl) : ∀ u, Upd Nowhere w u → u.cell? ⟨X, 0, none⟩ = some (.int .i64 x.room) ∧ u.cell? ⟨X, 1, none⟩ = some (.int .i64 x.policy) ∧ u.cell? ⟨X, 2, none⟩ = some (.bool x.credit) ∧ u.cell? ⟨X, 3, none⟩ = some (.int .i64 x.idle) ∧ u.cell? ⟨X, 4, none⟩ = some (.int .i64 x.send) ∧ u.cell? ⟨X, 5, none⟩ = some (.int .i64 x.high) ∧ u.cell? ⟨X, 6, none⟩ = some (.int .u64 (x.el : Nat)) ∧ u.cell? ⟨X, 7, none⟩ = some (.int .u64 (x.eh : Nat)) ∧ u.cell? ⟨X, 8, none⟩ = some (.int .u64 (x.em : Nat)) ∧ u.cell? ⟨X, 9, none⟩ = some (.int .i64 x.es) ∧ u.cell? ⟨X, 10, none⟩ = some (.int .u64 (x.lt : Nat)) ∧ u.cell? ⟨X, 11, none⟩ = some (.int .u64 (x.li : Nat)) ∧ u.cell? ⟨X, 12, none⟩ = some (.int .u64 (x.lm : Nat)) ∧ u.cell? ⟨X, 13, none⟩ = some (.int .i64 x.window) ∧ u.cell? ⟨X, 14, none⟩ = some (.int .u64 (x.num : Nat)) ∧ u.cell? ⟨X, 15, none⟩ = some (.int .u64 (x.den : Nat)) := fun _ hu =>
 ⟨cell_old hu (h.cellAt (i := 0) rfl), cell_old hu (h.cellAt (i := 1) rfl), cell_old hu (h.cellAt (i := 2) rfl), cell_old hu (h.cellAt (i := 3) rfl), cell_old hu (h.cellAt (i := 4) rfl), cell_old hu (h.cellAt (i := 5) rfl), cell_old hu (h.cellAt (i := 6) rfl), cell_old hu (h.cellAt (i := 7) rfl), cell_old hu (h.cellAt (i := 8) rfl), cell_old hu (h.cellAt (i := 9) rfl), cell_old hu (h.cellAt (i := 10) rfl), cell_old hu (h.cellAt (i := 11) rfl), cell_old hu (h.cellAt (i := 12) rfl), cell_old hu (h.cellAt (i := 13) rfl), cell_old hu (h.cellAt (i := 14) rfl), cell_old hu (h.cellAt (i := 15) rfl)⟩
theorem newE_ok {w : World} {cs : List Cf} {ad ap : Option Addr} {cc cp pace : Nat} {pl : List (Nat × Nat)} (hC : ClsAt w ad cs) (hP : PlnAt w ap pl) (hn : ap = none → cp = 0) (h : chkE cs pl pace = 0) :
 Calls Tryz.prog 11 #[.agg #[.slice ad cs.length cc, .slice ap pl.length cp, .int .u64 pace]] w fun x w' =>
  ∃ e own vc vp Q, x = .returned (.tuple #[.pointer (some ⟨e, 0, none⟩), .int .i64 0]) ∧ EgP w' own e ⟨vc, vp, pl, pace, 0, 0, Q⟩ ∧ Q.map (fun x => x.2) = cs.map (fun c => (c, s0 c)) ∧ (∀ k, own k → w.heap.size ≤ k) ∧ Upd Nowhere w w' := by
 obtain ⟨i0, hi, hz0, hz1, hz2⟩ := info_parts infoS
 obtain ⟨j0, gj, jz0, jz1, jz2⟩ := info_parts infoK
 have hU : Upd Nowhere w (w.alloc (.cells #[.slice ad cs.length cc, .slice ap pl.length cp, .int .u64 pace] TCo)) := (Upd.refl _ _).alloc _
 have hB : Blk (w.alloc (.cells #[.slice ad cs.length cc, .slice ap pl.length cp, .int .u64 pace] TCo)) w.heap.size #[.slice ad cs.length cc, .slice ap pl.length cp, .int .u64 pace] TCo := Blk.new _ _ _
 have HK := Lib.hid (checkE_any (cc := cc) (cp := cp) (pace := pace) (hC.old hU) (hP.old hU))
 rw [h] at HK
 obtain ⟨n, hn'⟩ : ∃ n, cs.length = n := ⟨_, rfl⟩
 obtain ⟨m, hm⟩ : ∃ m, pl.length = m := ⟨_, rfl⟩
 have HN := Lib.hid hn'
 have HM := Lib.hid hm
 have hm64 : m ≤ 64 := by
  rcases Nat.eq_zero_or_pos m with h0 | h0
  · omega
  · have := (Plan.ok_len ((chkE_ok h).2.2.2.2.2 (by omega))).2; omega
 have HM64 := Lib.hid hm64
 have hn8 : n ≤ 8 := by have := (chkE_ok h).2.2.1; omega
 clear hm64
 rw [hn', hm] at HK hU hB ⊢
 have HU := Lib.hid hU
 have HB := Lib.hid hB
 have HC := Lib.hid hC
 have HP := Lib.hid hP
 have HNO := Lib.hid hn
 have HH := Lib.hid h
 clear hC hP h hn hm hn' hU hB
 go_enter Tryz.func11, Tryz.ntmps11
 go_wp2_with fail
 refine (HK.out).mono ?_
 rintro x w2 ⟨rfl, u2⟩
 have HU2 := Lib.hid (HU.out.trans u2 (fun _ _ h => h))
 have HB2 := Lib.hid (HB.out.kept u2 id)
 have hg : w.heap.size < w2.heap.size := HB2.out.lt
 clear u2 HU HB HK
 obtain ⟨k0, k1, k2, -⟩ := cells3 HB2.out
 generalize w.heap.size = g0 at *
 go_upto_region 5 with fail
 have hE : Blk (w2.alloc (.cells #[.slice none 0 0, .slice none 0 0, .int .u64 pace, .int .u64 0, .int .u64 0] TEg)) w2.heap.size #[.slice none 0 0, .slice none 0 0, .int .u64 pace, .int .u64 0, .int .u64 0] TEg := Blk.new _ _ _
 have hM0 : Made w2 (w2.alloc (.cells #[.slice none 0 0, .slice none 0 0, .int .u64 pace, .int .u64 0, .int .u64 0] TEg)) (MkL w2.heap.size pace (.slice none 0 0) (.slice none 0 0) [] []) :=
  (rowW_start TKp 1 (rowW_start Plan.TS 2 ((Made.start w2).more (C := blkC w2.heap.size #[.slice none 0 0, .slice none 0 0, .int .u64 pace, .int .u64 0, .int .u64 0] TEg) (o := fun q => q = w2.heap.size) ⟨hE, fun _ => Iff.rfl⟩ (fun q hq => by rw [hq]; exact Nat.le_refl _) ((Upd.refl _ _).alloc _)))).perm ((List.reverse_perm [_, _, _]).symm.trans (List.Perm.refl _) |>.trans ((List.Perm.swap _ _ _).cons _))
 have HM0 := Lib.hid hM0
 have hA1 : Upd Nowhere w (w2.alloc (.cells #[.slice none 0 0, .slice none 0 0, .int .u64 pace, .int .u64 0, .int .u64 0] TEg)) := HU2.out.alloc _
 have hsrc : Hid ((ap = none → m = 0 ∧ cp = 0) ∧ ∀ b, ap = some b → ∀ j u, (slc pl)[j]? = some u → (w2.alloc (.cells #[.slice none 0 0, .slice none 0 0, .int .u64 pace, .int .u64 0, .int .u64 0] TEg)).cell? (b.add j) = some u) := Lib.hid (plan_src (HP.out.old hA1) HNO.out HM.out)
 have HE := Lib.hid hE
 clear hE hM0 hA1
 have k1' : (w2.alloc (.cells #[.slice none 0 0, .slice none 0 0, .int .u64 pace, .int .u64 0, .int .u64 0] TEg)).cell? ⟨g0, 1, none⟩ = some (.slice ap m cp) := cell_old ((Upd.refl _ _).alloc _) k1
 generalize w2.alloc (.cells #[.slice none 0 0, .slice none 0 0, .int .u64 pace, .int .u64 0, .int .u64 0] TEg) = wE at *
 obtain ⟨x0, x1, x2, x3, x4, y0, y1, y2, y3, y4⟩ := cells5 HE.out
 obtain ⟨vp0, hv0⟩ : ∃ x, x = Value.slice none 0 0 := ⟨_, rfl⟩
 have HOW0 : Hid (∀ u : World, u.ownsRow 0 Plan.TS 2 vp0 0 []) := Lib.hid (by rw [hv0]; exact fun u => ownsRow_nil _ _ _ _)
 rw [← hv0] at x1 x0 HM0
 have HV0 : Hid (vp0 = Value.slice none 0 0) := Lib.hid hv0
 clear hv0 HE
 go_cut [] (fun wc => ∃ a6 c6, Made w2 wc (MkL w2.heap.size pace vp0 (.slice a6 m c6) pl []))
 · go_region_law (refine step_app rfl _ _ 23 rfl 0 Plan.TS i0 (.agg #[.int .u8 0, .int .u64 0]) 2 16 Tryz.underlying23 hi hz0 hz1 hz2 rfl (by decide) (by decide) vp0 0 [] rfl (HOW0.out _) ap m cp (slc pl) rfl hsrc.out.1 (by rw [slc_len, HM.out]) (fun b hb j u hu => cell_old (by repeat (first | with_reducible exact Upd.refl _ _ | with_reducible refine Upd.drew ?_)) (hsrc.out.2 b hb j u hu)) (slc_one _) (by have := HM64.out; omega) (Nat.zero_le _) ?_; intro v6 w6 hown6 hu6 hn6; have H6 := Lib.hid (mk_plan HM0.out (by repeat (first | with_reducible exact Upd.refl _ _ | with_reducible refine Upd.drew ?_)) HM.out hown6 hu6 hn6); obtain ⟨ad6, c6, rfl⟩ := form0 hown6; obtain ⟨z0, z1, z2, z3, z4, y0, y1, y2, y3, y4⟩ := cells5 H6.out.1; clear hown6 hu6 hn6)
   all_goals
    go_wp2_with fail
    go_meet
    exact ⟨_, _, H6.out.2⟩
 case rest =>
 obtain ⟨a6, c6, hm6⟩ := hcut
 have HM6 := Lib.hid hm6
 have HGC := Lib.hid (fun (u : World) (hu : Upd Nowhere w2 u) => (show u.cell? ⟨g0, 0, none⟩ = some (.slice ad n cc) from cell_old hu k0))
 clear hm6 HM0 HOW0 x0 x1 x2 x3 x4 y0 y1 y2 y3 y4 hsrc k1' k0 k1 k2
 have kq := HGC.out _ HM6.out.upd
 go_upto_region 7 with fail
 clear kq
 go_loopg [7, 8, 31] (n + 1) (fun gk _ _ v31 wr => ∃ (i : Nat) (vc : Value) (Q : List (Nat × Cf × Cs)), n - i < gk ∧ i ≤ n ∧ v31 = .int .i64 i ∧ Hid (Made w2 wr (MkL w2.heap.size pace vc (.slice a6 m c6) pl Q)) ∧ Hid (Q.map (fun x => x.2) = (cs.take i).map (fun c => (c, s0 c))) ∧ Hid (Q.length = i))
 case atStart => exact ⟨0, vp0, [], by omega, Nat.zero_le _, rfl, HM6, Lib.hid rfl, Lib.hid rfl⟩
 case round =>
  obtain ⟨i, vc, Q, hgk, hin, rfl, HMk, HQ, HQl⟩ := hrel
  obtain ⟨wB, rfl⟩ : ∃ x, x = wr := ⟨_, rfl⟩
  have HGK := Lib.hid hgk
  clear hgk HM6
  rcases Nat.lt_or_ge i n with hlt | hge
  · obtain ⟨x, hx⟩ : ∃ x, cs[i]? = some x := ⟨cs[i]'(by have := HN.out; omega), by simp⟩
    have HX := Lib.hid hx
    obtain ⟨g, o, rfl, m0, m1, m2, m3, m4, m5, m6, m7, m8, m9, m10, m11, m12, m13, m14, m15⟩ := (HC.out.old (HU2.out.trans HMk.out.upd (fun _ _ h => h))).cells hx
    have hI : (i : Int) < n := by omega
    clear hx
    go_upto_region 9 with fail
    clear m0 m1 m2 m3 m4 m5 m6 m7 m8 m9 m10 m11 m12 m13 m14 m15
    have hX : Blk (wB.alloc (.cells (VC x) TCl)) wB.heap.size (VC x) TCl := Blk.new _ _ _
    have hMX : Made w2 (wB.alloc (.cells (VC x) TCl)) (blkC wB.heap.size (VC x) TCl :: MkL w2.heap.size pace vc (.slice a6 m c6) pl Q) :=
     HMk.out.more (C := blkC wB.heap.size (VC x) TCl) (o := fun q => q = wB.heap.size) ⟨hX, fun _ => Iff.rfl⟩ (fun q hq => by rw [hq]; exact Nat.le_refl _) ((Upd.refl _ _).alloc _)
    have HMX := Lib.hid hMX
    have HF := Lib.hid (cls_cells hX)
    clear hX hMX HMk
    generalize wB.heap.size = X at *
    generalize wB.alloc (.cells (VC x) TCl) = wX at *
    go_cut [8] (fun v8 wc => ∃ k v, v8 = .pointer (some ⟨k, 0, none⟩) ∧ Made w2 wc (blkC X (VC x) TCl :: blkC k (K0 x v (.pointer none) 0 0 0) TK :: rowZ x v :: MkL w2.heap.size pace vc (.slice a6 m c6) pl Q))
    case first =>
     obtain ⟨m0, m1, m2, m3, m4, m5, m6, m7, m8, m9, m10, m11, m12, m13, m14, m15⟩ := HF.out _ (Upd.refl _ _)
     have hOx := (chkE_ok HH.out).1 x (List.mem_of_getElem? HX.out)
     have HMD := fun u => Lib.hid (made_any (w := u) (c := x) (wst := wst x) rfl hOx.r1 hOx.r2)
     clear hOx
     go_region_with (go_at_call 33; refine (HMD _).out.mono ?_; rintro y w3 ⟨v, o3, rfl, hR, ho, u3⟩; obtain ⟨T, V, fl, fh, fp, ft, M⟩ := hR.meth; have ev := M.eq; subst ev; clear M; have HR := Lib.hid hR; have HO := Lib.hid ho; have HU3 := Lib.hid u3; obtain ⟨p0, p1, p2, p3, p4, p5, p6, p7, p8, p9, p10, p11, p12, p13, p14, p15⟩ := HF.out _ (Upd.trans (by repeat (first | with_reducible exact Upd.refl _ _ | with_reducible refine Upd.drew ?_)) u3 (fun _ _ h => h)); clear hR ho u3)
     all_goals
      go_wp2_with fail
      go_meet
      refine ⟨_, .iface T V, rfl, ?_⟩
      exact mk_box HMX.out (by repeat (first | with_reducible exact Upd.refl _ _ | with_reducible refine Upd.drew ?_)) HU3.out HR.out HO.out ((Upd.refl _ _).alloc _) (Blk.new _ _ _) (Nat.le_refl _)
    case rest =>
     obtain ⟨k, v, rfl, hMK⟩ := hcut
     have HMK := Lib.hid hMK
     clear hMK HF HMX
     have hOx := (chkE_ok HH.out).1 x (List.mem_of_getElem? HX.out)
     have HOx := Lib.hid hOx
     clear hOx
     obtain ⟨m0, m1, m2, m3, m4, m5, m6, m7, m8, m9, m10, m11, m12, m13, m14, m15⟩ := cls_cells (mk_off (l1 := []) HMK.out).1 _ (Upd.refl _ _)
     obtain ⟨b3, hb3⟩ : ∃ b, (x.policy == 3) = b := ⟨_, rfl⟩
     have HB3 := Lib.hid hb3
     go_upto_if 42 with fail
     clear hb3 m0 m1 m2 m3 m4 m5 m6 m7 m8 m9 m10 m11 m12 m13 m14 m15
     go_cut [] (fun wc => ∃ gv, Made w2 wc (blkC X (VC x) TCl :: blkC k (K0 x v gv 0 0 0) TK :: rowZ x v :: gateC x gv 0 [] :: MkL w2.heap.size pace vc (.slice a6 m c6) pl Q))
     case first =>
      obtain ⟨m0, m1, m2, m3, m4, m5, m6, m7, m8, m9, m10, m11, m12, m13, m14, m15⟩ := cls_cells (mk_off (l1 := []) HMK.out).1 _ (Upd.refl _ _)
      cases b3 with
      | true =>
        have hp : x.policy = 3 := by simpa using HB3.out
        obtain ⟨r, hr⟩ : ∃ r : Nat, x.room = r := ⟨x.room.toNat, by have := HOx.out.r1; omega⟩
        obtain ⟨wn, hwn⟩ : ∃ wn : Nat, x.window = wn := ⟨x.window.toNat, by have := HOx.out.ga hp; omega⟩
        have hg := HOx.out.ga hp
        have hA := fun u => Lib.hid (Aifo.new_ok u r wn x.num x.den (by have := HOx.out.r1; omega) (by have := HOx.out.r2; omega) (by omega) (by omega) hg.2.2.1 hg.2.2.2)
        rw [hp] at m1
        rw [hr] at m0
        rw [hwn] at m13
        have HE := Lib.hid (And.intro hp (And.intro hr hwn))
        clear hp hr hwn hg
        go_wp2_with fail
        refine ((hA _).out).mono ?_
        rintro y w6 ⟨b, rfl, hG, u6⟩
        have hBk := (mk_off (l1 := [blkC X (VC x) TCl]) HMK.out).1.kept u6 id
        have z25 := hBk.free 25
        have c25 : w6.cell? ⟨k, 25, none⟩ = some (.pointer none) := hBk.cellAt rfl
        have HG := Lib.hid hG
        have HU6 := Lib.hid u6
        clear hG u6 hBk hA
        go_wp2_with fail
        go_meet
        exact ⟨_, mk_gate3 HMK.out HE.out.1 HG.out HU6.out HE.out.2.1 HE.out.2.2 rfl rfl⟩
      | false =>
        have hp : x.policy ≠ 3 := by simpa using HB3.out
        have HP3 := Lib.hid hp
        clear hp
        go_wp2_with fail
        go_meet
        exact ⟨_, mk_gate0 HMK.out HP3.out⟩
     case rest =>
      obtain ⟨gv, hMG⟩ := hcut
      have HMG := Lib.hid hMG
      clear hMG HMK
      obtain ⟨m0, m1, m2, m3, m4, m5, m6, m7, m8, m9, m10, m11, m12, m13, m14, m15⟩ := cls_cells (mk_off (l1 := []) HMG.out).1 _ (Upd.refl _ _)
      obtain ⟨bc, hbc⟩ : ∃ b, x.credit = b := ⟨_, rfl⟩
      rw [hbc] at m2
      have HBC := Lib.hid hbc
      clear hbc
      go_upto_if 59 with fail
      clear m0 m1 m2 m3 m4 m5 m6 m7 m8 m9 m10 m11 m12 m13 m14 m15
      go_cut [] (fun wc => Made w2 wc (blkC X (VC x) TCl :: blkC k (K0 x v gv (cri x) (crs x) (crh x)) TK :: rowZ x v :: gateC x gv 0 [] :: MkL w2.heap.size pace vc (.slice a6 m c6) pl Q))
      case first =>
       obtain ⟨m0, m1, m2, m3, m4, m5, m6, m7, m8, m9, m10, m11, m12, m13, m14, m15⟩ := cls_cells (mk_off (l1 := []) HMG.out).1 _ (Upd.refl _ _)
       cases bc with
       | false =>
         have hcd := HBC.out
         rw [hcd] at m2
         have e1 : cri x = 0 := by unfold cri; rw [hcd]; rfl
         have e2 : crs x = 0 := by unfold crs; rw [hcd]; rfl
         have e3 : crh x = 0 := by unfold crh; rw [hcd]; rfl
         have HE := Lib.hid (And.intro e1 (And.intro e2 e3))
         clear e1 e2 e3 hcd
         go_wp2_with fail
         go_meet
         rw [HE.out.1, HE.out.2.1, HE.out.2.2]
         exact HMG.out
       | true =>
         have hcd := HBC.out
         rw [hcd] at m2
         have hok := HOx.out.cr hcd
         have hA := fun u => Lib.hid (Credit.new_ok u hok)
         have e1 : cri x = x.idle := by unfold cri; rw [hcd]; rfl
         have e2 : crs x = x.send := by unfold crs; rw [hcd]; rfl
         have e3 : crh x = x.high := by unfold crh; rw [hcd]; rfl
         have HE := Lib.hid (And.intro e1 (And.intro e2 e3))
         clear e1 e2 e3 hok hcd
         go_wp2_with fail
         refine ((hA _).out).mono ?_
         rintro y w6 ⟨rfl, u6⟩
         have hBk := (mk_off (l1 := [blkC X (VC x) TCl]) HMG.out).1.kept u6 id
         have z26 := hBk.free 26
         have z27 := hBk.free 27
         have z28 := hBk.free 28
         have z29 := hBk.free 29
         have c26 : w6.cell? ⟨k, 26, none⟩ = some (.int .i64 0) := hBk.cellAt rfl
         have c27 : w6.cell? ⟨k, 27, none⟩ = some (.int .i64 0) := hBk.cellAt rfl
         have c28 : w6.cell? ⟨k, 28, none⟩ = some (.int .i64 0) := hBk.cellAt rfl
         have c29 : w6.cell? ⟨k, 29, none⟩ = some (.int .i64 0) := hBk.cellAt rfl
         have HU6 := Lib.hid u6
         clear u6 hBk hA
         go_wp2_with fail
         go_meet
         rw [HE.out.1, HE.out.2.1, HE.out.2.2]
         exact mk_cred (HMG.out.old HU6.out) _ _ _
      case rest =>
       have HMJ := Lib.hid (mk_join hcut)
       obtain ⟨w5, rfl⟩ : ∃ y, y = wc := ⟨_, rfl⟩
       clear hcut HMG
       have hown := m_own HMJ.out (mem2 : rowW TKp 1 vc Q.length (ptrs Q) ∈ _)
       obtain ⟨a9, c9, hvc⟩ := row_form hown
       rw [HQl.out] at hown hvc
       subst hvc
       obtain ⟨x0, x1, x2, x3, x4, y0, y1, y2, y3, y4⟩ := cells5 (mk_off (l1 := [clsC k x (s0 x)]) HMJ.out).1
       have HO := Lib.hid hown
       clear hown x1 x2 x3 x4 y0 y1 y2 y3 y4
       go_wp2_with (at_builtin; go_loud (refine wpList_push rfl _ _ 82 rfl 0 TKp j0 (.pointer none) 1 8 Tryz.underlying82 gj jz0 jz1 jz2 rfl (by decide) (by decide) (.slice a9 i c9) i (ptrs Q) rfl (ownsRow_upd HO.out ((Upd.refl Nowhere w5).alloc _) (fun _ _ h => h)) w5.heap.size 1 [.pointer (some ⟨k, 0, none⟩)] rfl rfl (new_cells w5 #[.pointer (some ⟨k, 0, none⟩)] _) (by simp [Value.oneCell']) (by omega) (Nat.zero_le _) ?_; intro v9 w9 ho9 hu9 hn9; have HP9 := Lib.hid (mk_push HMJ.out HQl.out ((Upd.refl _ _).alloc _) ho9 hu9 hn9); obtain ⟨x0, x1, x2, x3, x4, y0, y1, y2, y3, y4⟩ := cells5 (mk_off (l1 := [clsC k x (s0 x)]) (m_row [clsC k x (s0 x), blkC w2.heap.size _ TEg] _ HMJ.out ((Upd.refl _ _).alloc _) ho9 hu9 hn9)).1; obtain ⟨a8, c8, rfl⟩ := row_form ho9; clear x1 x2 x3 x4 y1 y2 y3 y4 ho9 hu9 hn9))
       go_roundg (n - i)
       case rel =>
        have hQ1 : (Q ++ [(k, x, s0 x)]).map (fun x => x.2) = (cs.take (i + 1)).map (fun c => (c, s0 c)) := by
         rw [List.map_append, HQ.out, List.take_add_one, HX.out, List.map_append]; rfl
        have hQ2 : (Q ++ [(k, x, s0 x)]).length = i + 1 := by rw [List.length_append, HQl.out]; rfl
        exact ⟨i + 1, _, Q ++ [(k, x, s0 x)], by omega, by omega, rfl, HP9, Lib.hid hQ1, Lib.hid hQ2⟩
       case measure => have := HGK.out; omega
  · obtain rfl : i = n := by omega
    have dI : decide ((i : Int) < i) = false := by simp
    have HQ1 : Hid (Q.map (fun x => x.2) = cs.map (fun c => (c, s0 c))) := Lib.hid (by rw [HQ.out, List.take_of_length_le (by rw [HN.out]; exact Nat.le_refl _)])
    go_wp2_with fail
    go_ret2
    obtain ⟨own, hs, ho, hu⟩ := HMk.out
    exact ⟨w2.heap.size, own, vc, _, Q, rfl, hs, HQ1.out, fun k hk => Nat.le_trans HU2.out.size (ho k hk), HU2.out.trans hu (fun _ _ h => h)⟩
end Go.Proofs.YtdddfmdcjjbegaaGreat.Egs

