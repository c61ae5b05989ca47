/- Eg4, one behind the other. -/
import Derived.Test.YtdddfmdcjjbegaaGreatMeEg3
import Derived.Test.YtdddfmdcjjbegaaGreatMeTk
namespace Go.Proofs.YtdddfmdcjjbegaaGreat.Egs
open Go.RowKit Go.Proofs BigFrame
open RingW (It KI zI ZI VI TE)
open First (Cf VC)
set_option maxHeartbeats 4000000
set_option maxRecDepth 1000000
set_option linter.unusedSimpArgs false
/-- Whether a packet that was taken out is let go. -/
def dropS (cf : Cf) (s : Cs) (now at_ behind : Nat) : Bool × Cs :=
 if cf.policy = 2 then
  ((Codel.stp cf.lt cf.li cf.lm s.cF s.cN s.cK s.cL s.cD now (now - at_) behind).2, { s with
    cF := (Codel.stp cf.lt cf.li cf.lm s.cF s.cN s.cK s.cL s.cD now (now - at_) behind).1.1
    cN := (Codel.stp cf.lt cf.li cf.lm s.cF s.cN s.cK s.cL s.cD now (now - at_) behind).1.2.1
    cK := (Codel.stp cf.lt cf.li cf.lm s.cF s.cN s.cK s.cL s.cD now (now - at_) behind).1.2.2.1
    cL := (Codel.stp cf.lt cf.li cf.lm s.cF s.cN s.cK s.cL s.cD now (now - at_) behind).1.2.2.2.1
    cD := (Codel.stp cf.lt cf.li cf.lm s.cF s.cN s.cK s.cL s.cD now (now - at_) behind).1.2.2.2.2 })
 else (false, s)
theorem drops_no {w : World} {own : Nat → Prop} {k : Nat} {cf : Cf} {s : Cs} (h : ClsP w own k cf s) (hp : ¬ cf.policy = 2) (x : It) (now bh : Nat) :
 Calls Tryz.prog 39 #[.pointer (some ⟨k, 0, none⟩), VI x, .int .u64 now, .int .u64 bh] w fun e w' => e = .returned (.bool false) ∧ Upd Nowhere w w' := by
 obtain ⟨x0, x1, x2, x3, x4⟩ := x
 obtain ⟨_, v, gv, o1, hB, -⟩ := h.blk
 have hU : Upd Nowhere w (w.alloc (.cells #[.int .u32 x0, .int .u32 x1, .int .u64 x2, .int .u64 x3, .int .i64 x4] TE)) := (Upd.refl _ _).alloc _
 have c1 := cell_old hU (kc1 hB)
 obtain ⟨pl, hpl⟩ : ∃ pl : Int, cf.policy = pl := ⟨_, rfl⟩
 rw [hpl] at c1 hp
 have d1 : (pl != 2) = true := by simp; omega
 clear h hp hB hpl
 go_enter Tryz.func39, Tryz.ntmps39
 go_wp2_with fail
 go_ret
 exact ⟨rfl, hU⟩
theorem drops_late {w : World} {own : Nat → Prop} {k : Nat} {cf : Cf} {s : Cs} (h : ClsP w own k cf s) (hp : cf.policy = 2) (x0 x1 x2 x3 x4 now bh : Nat) (hn : now ≤ 18446744073709551615) (hat : x3 ≤ now) (hN : s.cN ≤ 18446744073709551615) (hK : s.cK ≤ 18446744073709551615) (hL : s.cL ≤ 18446744073709551615) :
 Calls Tryz.prog 39 #[.pointer (some ⟨k, 0, none⟩), VI (x0, x1, x2, x3, x4), .int .u64 now, .int .u64 bh] w fun e w' => e = .returned (.bool (dropS cf s now x3 bh).1) ∧ ∃ own', ClsP w' own' k cf (dropS cf s now x3 bh).2 ∧ Fol w own w' own' := by
 obtain ⟨v, gv, hS⟩ := h
 obtain ⟨o1, o2, ⟨hB, _⟩, _⟩ := id hS
 have hU : Upd Nowhere w (w.alloc (.cells #[.int .u32 x0, .int .u32 x1, .int .u64 x2, .int .u64 x3, .int .i64 x4] TE)) := (Upd.refl _ _).alloc _
 obtain ⟨wt, hwt⟩ : ∃ wt, now - x3 = wt := ⟨_, rfl⟩
 have HST := fun u => Lib.hid (Codel.step_any cf.lt cf.li cf.lm s.cF s.cN s.cK s.cL s.cD now wt bh hN hK hL hn u)
 unfold Wide.Gives Codel.out at HST
 have hdr : dropS cf s now x3 bh = ((Codel.stp cf.lt cf.li cf.lm s.cF s.cN s.cK s.cL s.cD now wt bh).2, { s with cF := (Codel.stp cf.lt cf.li cf.lm s.cF s.cN s.cK s.cL s.cD now wt bh).1.1, cN := (Codel.stp cf.lt cf.li cf.lm s.cF s.cN s.cK s.cL s.cD now wt bh).1.2.1, cK := (Codel.stp cf.lt cf.li cf.lm s.cF s.cN s.cK s.cL s.cD now wt bh).1.2.2.1, cL := (Codel.stp cf.lt cf.li cf.lm s.cF s.cN s.cK s.cL s.cD now wt bh).1.2.2.2.1, cD := (Codel.stp cf.lt cf.li cf.lm s.cF s.cN s.cK s.cL s.cD now wt bh).1.2.2.2.2 }) := by
  unfold dropS; rw [if_pos hp, hwt]
 rw [hdr]
 obtain ⟨⟨⟨M1, M2, M3, M4, M5⟩, G⟩, hrs⟩ : ∃ x, Codel.stp cf.lt cf.li cf.lm s.cF s.cN s.cK s.cL s.cD now wt bh = x := ⟨_, rfl⟩
 rw [hrs] at HST ⊢
 dsimp only at HST ⊢
 have esub : IntKind.u64.wrap ((now : Int) - x3) = (wt : Int) := by rw [IntKind.wrap_u64]; omega
 have c1 := kc1 hB
 rw [hp] at c1
 have c10 := kc10 hB
 have c11 := kc11 hB
 have c12 := kc12 hB
 have c20 := kc20 hB
 have c21 := kc21 hB
 have c22 := kc22 hB
 have c23 := kc23 hB
 have c24 := kc24 hB
 have hlt : k < w.heap.size := Blk.lt hB
 have HX := Lib.hid (Blk.new w #[.int .u32 x0, .int .u32 x1, .int .u64 x2, .int .u64 x3, .int .i64 x4] TE)
 have HF2 : ∀ u, Upd Nowhere (w.alloc (.cells #[.int .u32 x0, .int .u32 x1, .int .u64 x2, .int .u64 x3, .int .i64 x4] TE)) u → u.cell? ⟨k, 10, none⟩ = some (.int .u64 cf.lt) ∧ u.cell? ⟨k, 11, none⟩ = some (.int .u64 cf.li) ∧ u.cell? ⟨k, 12, none⟩ = some (.int .u64 cf.lm) ∧ u.cell? ⟨k, 20, none⟩ = some (.int .u64 s.cF) ∧ u.cell? ⟨k, 21, none⟩ = some (.int .u64 s.cN) ∧ u.cell? ⟨k, 22, none⟩ = some (.int .u64 s.cK) ∧ u.cell? ⟨k, 23, none⟩ = some (.int .u64 s.cL) ∧ u.cell? ⟨k, 24, none⟩ = some (.bool s.cD) ∧ u.cell? ⟨w.heap.size, 3, none⟩ = some (.int .u64 x3) := fun u hu => ⟨cell_old hu (cell_old hU c10), cell_old hu (cell_old hU c11), cell_old hu (cell_old hU c12), cell_old hu (cell_old hU c20), cell_old hu (cell_old hU c21), cell_old hu (cell_old hU c22), cell_old hu (cell_old hU c23), cell_old hu (cell_old hU c24), cell_old hu (HX.out.cellAt rfl)⟩
 have HHF2 := Lib.hid HF2
 have HB := Lib.hid hB
 have HS := Lib.hid hS
 have c1' := cell_old hU c1
 obtain ⟨XB, hXB⟩ : ∃ XB, w.heap.size = XB := ⟨_, rfl⟩
 rw [hXB] at HHF2
 have HU := Lib.hid hU
 have HXB := Lib.hid hXB
 clear hB hS hp c1 c10 c11 c12 c20 c21 c22 c23 c24 HF2 hrs hdr HX hU hat hwt
 go_enter Tryz.func39, Tryz.ntmps39
 go_upto_region 1 with fail
 generalize w.alloc (.cells #[.int .u32 x0, .int .u32 x1, .int .u64 x2, .int .u64 x3, .int .i64 x4] TE) = w1 at *
 try simp only [hXB]
 clear hXB
 go_upto_region 3 with fail
 have ls := HU.out.size
 go_cut [9, 10] (fun v9 v10 wc => ∃ p, v9 = .pointer (some ⟨p, 0, none⟩) ∧ v10 = .bool G ∧ w1.heap.size ≤ p ∧ Upd Nowhere w1 wc ∧ Blk wc p #[.int .u64 (M1 : Nat), .int .u64 (M2 : Nat), .int .u64 (M3 : Nat), .int .u64 (M4 : Nat), .bool M5] 92)
 case first =>
  refine wp_region_held_drew (S := fun w' => Upd Nowhere w1 w' ∧ w'.cell? ⟨k, 10, none⟩ = some (.int .u64 cf.lt) ∧ w'.cell? ⟨k, 11, none⟩ = some (.int .u64 cf.li) ∧ w'.cell? ⟨k, 12, none⟩ = some (.int .u64 cf.lm) ∧ w'.cell? ⟨k, 20, none⟩ = some (.int .u64 s.cF) ∧ w'.cell? ⟨k, 21, none⟩ = some (.int .u64 s.cN) ∧ w'.cell? ⟨k, 22, none⟩ = some (.int .u64 s.cK) ∧ w'.cell? ⟨k, 23, none⟩ = some (.int .u64 s.cL) ∧ w'.cell? ⟨k, 24, none⟩ = some (.bool s.cD) ∧ w'.cell? ⟨XB, 3, none⟩ = some (.int .u64 x3)) (by kernel_rfl) (gk_start HHF2.out (Upd.refl _ _).drew) (fun hHeld => ?_)
  refine tkq 0 ?_
  refine tkq 1 ?_
  refine tkq 2 ?_
  refine tkq 3 ?_
  refine tkq 4 ?_
  refine tkq 5 ?_
  refine tkq 6 ?_
  refine tkq 7 ?_
  refine tkq 8 ?_
  refine tkq 9 ?_
  refine tkq 10 ?_
  refine tkq 11 ?_
  refine tkq 12 ?_
  refine tkq 13 ?_
  refine tkq 14 ?_
  refine wpAnyH_ready (rs := [15, 19]) (by kernel_rfl) (by simp) ?_
  refine AllReadyH.cons (by simp only [List.getElem?_toArray, List.getElem?_cons_zero, List.getElem?_cons_succ]; rfl) (fun K hK => ?_) (AllReadyH.cons (by simp only [List.getElem?_toArray, List.getElem?_cons_zero, List.getElem?_cons_succ]; rfl) (fun K hK => ?_) AllReadyH.nil)
  · go_simp
    refine (HST _).out.mono ?_
    rintro e w11 ⟨rfl, u11⟩
    have hS5 := gk_old HHF2.out u11 hHeld
    refine hK.out _ _ (by (try dsimp only); exact hS5) (fun hHeld => ?_)
    clear hK K
    refine tkq 16 ?_
    refine tkq 17 ?_
    refine tkq 18 ?_
    refine rdq 19 fun K hK => ?_
    go_simp
    refine hK.out _ _ (by (try dsimp only); exact gk_old HHF2.out ((Upd.refl _ _).alloc _) hHeld) (fun hHeld => ?_)
    clear hK K
    refine rdq 20 fun K hK => ?_
    go_simp
    have hS6 := gk_old HHF2.out ((Upd.refl _ _).alloc (.cells #[.int .u64 (M1 : Nat), .int .u64 (M2 : Nat), .int .u64 (M3 : Nat), .int .u64 (M4 : Nat), .bool M5] 92)) hS5
    refine hK.out _ _ (by with_reducible exact hS6) (fun hHeld => ?_)
    clear hK K
    refine tkq 21 ?_
    refine wpAnyH_done (by kernel_rfl) ?_ _
    go_wp2_with fail
    go_meet
    exact ⟨_, rfl, rfl, hS5.1.size, hS6.1, Blk.new _ _ _⟩
  · go_simp
    refine hK.out _ _ (by (try dsimp only); exact gk_start HHF2.out (((Upd.refl _ _).alloc _).drew)) (fun hHeld => ?_)
    clear hK K
    refine rdq 15 fun K hK => ?_
    go_simp
    refine (HST _).out.mono ?_
    rintro e w11 ⟨rfl, u11⟩
    have hS5 := gk_old HHF2.out u11 hHeld
    have hX11 := Blk.kept ((Blk.new w1 #[.int .u64 0, .int .u64 0, .int .u64 0, .int .u64 0, .bool false] 92).drew) u11 id
    obtain ⟨q0, q1, q2, q3, q4, q5, q6, q7, q8, q9⟩ := cells5 hX11
    refine hK.out _ _ (by (try dsimp only); exact hS5) (fun hHeld => ?_)
    clear hK K
    refine tkq 16 ?_
    refine tkq 17 ?_
    refine tkq 18 ?_
    refine rdq 20 fun K hK => ?_
    go_simp
    have hU9 := ((((hS5.1.setNew (a := ⟨w1.heap.size, 0, none⟩) (Nat.le_refl _) (.int .u64 (M1 : Nat))).setNew (a := ⟨w1.heap.size, 1, none⟩) (Nat.le_refl _) (.int .u64 (M2 : Nat))).setNew (a := ⟨w1.heap.size, 2, none⟩) (Nat.le_refl _) (.int .u64 (M3 : Nat))).setNew (a := ⟨w1.heap.size, 3, none⟩) (Nat.le_refl _) (.int .u64 (M4 : Nat))).setNew (a := ⟨w1.heap.size, 4, none⟩) (Nat.le_refl _) (.bool M5)
    have hS6 := gk_start HHF2.out hU9
    refine hK.out _ _ (by with_reducible exact hS6) (fun hHeld => ?_)
    clear hK K
    refine tkq 21 ?_
    refine wpAnyH_done (by kernel_rfl) ?_ _
    go_wp2_with fail
    go_meet
    exact ⟨_, rfl, rfl, Nat.le_refl _, hU9, put_blk5 hX11⟩
 case rest =>
  obtain ⟨p, rfl, rfl, hp0, hUc, hX⟩ := hcut
  obtain ⟨w2, rfl⟩ : ∃ x, x = wc := ⟨_, rfl⟩
  have hUc2 := HU.out.trans hUc (fun _ _ h => h)
  obtain ⟨q0, q1, q2, q3, q4, -⟩ := cells5 hX
  have hB2 := HB.out.kept hUc2 id
  have f20 := hB2.free 20
  have f21 := hB2.free 21
  have f22 := hB2.free 22
  have f23 := hB2.free 23
  have f24 := hB2.free 24
  have c20 := kc20 hB2
  have c21 := kc21 hB2
  have c22 := kc22 hB2
  have c23 := kc23 hB2
  have c24 := kc24 hB2
  have HB3 : Hid (Blk (((((w2.setCell ⟨k, 20, none⟩ (.int .u64 (M1 : Nat))).setCell ⟨k, 21, none⟩ (.int .u64 (M2 : Nat))).setCell ⟨k, 22, none⟩ (.int .u64 (M3 : Nat))).setCell ⟨k, 23, none⟩ (.int .u64 (M4 : Nat))).setCell ⟨k, 24, none⟩ (.bool M5)) k (KC cf { s with cF := M1, cN := M2, cK := M3, cL := M4, cD := M5 } v gv) TK) := Lib.hid (by simpa using ((((hB2.set 20 (.int .u64 (M1 : Nat))).set 21 (.int .u64 (M2 : Nat))).set 22 (.int .u64 (M3 : Nat))).set 23 (.int .u64 (M4 : Nat))).set 24 (.bool M5))
  have HU3 : Hid (Upd (fun q => q = k) w2 (((((w2.setCell ⟨k, 20, none⟩ (.int .u64 (M1 : Nat))).setCell ⟨k, 21, none⟩ (.int .u64 (M2 : Nat))).setCell ⟨k, 22, none⟩ (.int .u64 (M3 : Nat))).setCell ⟨k, 23, none⟩ (.int .u64 (M4 : Nat))).setCell ⟨k, 24, none⟩ (.bool M5))) := Lib.hid ((((((Upd.refl _ _).setOne 20 _).setOne 21 _).setOne 22 _).setOne 23 _).setOne 24 _)
  have HUC := Lib.hid hUc2
  have hpk : ¬ p = k := by omega
  clear hB2 hX hUc hUc2
  go_wp2_with fail
  go_ret
  obtain ⟨own', h1, h2⟩ := sep_blk HS.out HUC.out HU3.out HB3.out
  exact ⟨rfl, own', ⟨_, _, h1⟩, h2⟩
theorem drops_any {w : World} {own : Nat → Prop} {k : Nat} {cf : Cf} {s : Cs} (h : ClsP w own k cf s) (x : It) (now bh : Nat) (hn : now ≤ 18446744073709551615) (hat : x.2.2.2.1 ≤ now) (hN : s.cN ≤ 18446744073709551615) (hK : s.cK ≤ 18446744073709551615) (hL : s.cL ≤ 18446744073709551615) :
 Calls Tryz.prog 39 #[.pointer (some ⟨k, 0, none⟩), VI x, .int .u64 now, .int .u64 bh] w fun e w' => e = .returned (.bool (dropS cf s now x.2.2.2.1 bh).1) ∧ ∃ own', ClsP w' own' k cf (dropS cf s now x.2.2.2.1 bh).2 ∧ Fol w own w' own' := by
 by_cases hp : cf.policy = 2
 · obtain ⟨x0, x1, x2, x3, x4⟩ := x
   exact drops_late h hp x0 x1 x2 x3 x4 now bh hn hat hN hK hL
 · have e : dropS cf s now x.2.2.2.1 bh = (false, s) := by unfold dropS; rw [if_neg hp]
   rw [e]
   exact (drops_no h hp x now bh).mono fun e w' ⟨e1, e2⟩ => ⟨e1, own, (clsC k cf s).kp h e2 (fun _ _ h => h), (Fol.refl _ _).old e2⟩
end Go.Proofs.YtdddfmdcjjbegaaGreat.Egs

