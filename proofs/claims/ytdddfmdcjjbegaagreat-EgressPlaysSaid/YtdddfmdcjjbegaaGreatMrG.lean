/- R43G, R43T, one behind the other. -/
import Derived.Test.YtdddfmdcjjbegaaGreatMrD
import Derived.Test.YtdddfmdcjjbegaaGreatMeP
import Derived.Test.YtdddfmdcjjbegaaGreatMeTk
namespace Go.Proofs.YtdddfmdcjjbegaaGreat.R43
open Go.RowKit Go.Proofs BigFrame
open RingW (It)
open First (Cf VC)
open Egs (Cs Eg OkE OkS OkF cri crs crh TRk TRc TP tks goesB opens ClsAt PlnAt dropS m_box mk_off mk_set)
open Aifo (RefIn)
set_option maxHeartbeats 40000000
set_option maxRecDepth 1000000
set_option linter.unusedSimpArgs false
theorem st_blk {w w1 w' : World} {own : Nat → Prop} {b : Nat} {cf : Cf} {s s' : Cs} {L : List (Nat × Int)} (h : StP w own b cf s L) (h0 : Upd Nowhere w w1) (hu : Upd (fun q => q = b) w1 w') (e2 : s'.gw = s.gw) (e3 : s'.win = s.win)
 (hB : ∀ lv gb, Blk w b (SC cf s lv gb) TSt → Blk w' b (SC cf s' lv gb) TSt) : ∃ own', StP w' own' b cf s' L ∧ Fol w own w' own' := by
 obtain ⟨lv, gb, hS⟩ := h
 obtain ⟨oa, ob, ⟨hBk, _⟩, _⟩ := id hS
 obtain ⟨o', h1, h2⟩ := Egs.sep_blk hS h0 hu (hB lv gb hBk)
 exact ⟨o', ⟨lv, gb, by rw [e2, e3]; exact h1⟩, h2⟩
section
variable {w : World} {own : Nat → Prop} {m pace i b n cc : Nat} {ad : Option Addr} {pv : Value} {R : Rf} {cf : Cf} {s : Cs} {L : List (Nat × Int)} {cs : List Cf}
theorem gone_any (h : RfP w own m (.slice ad n cc) pv pace R) (hC : ClsAt w ad cs) (hn : cs.length = n) (hcs : cs[i]? = some cf) (hq : R.q[i]? = some (b, cf, s, L)) {X at_ bh : Nat} (hX : R.A[X]? = some at_) (hat : at_ ≤ R.now) (hnow : R.now ≤ 18446744073709551615) (hN1 : s.cN ≤ 18446744073709551615) (hK1 : s.cK ≤ 18446744073709551615) (hL1 : s.cL ≤ 18446744073709551615) :
 Calls Tryz.prog 59 #[.pointer (some ⟨m, 0, none⟩), .int .i64 i, .int .i64 (X : Nat), .int .u64 bh] w fun x w' => x = .returned (.bool (dropS cf s R.now at_ bh).1) ∧ ∃ own', RfP w' own' m (.slice ad n cc) pv pace { R with q := R.q.set i (b, cf, (dropS cf s R.now at_ bh).2, L) } ∧ Fol w own w' own' := by
 obtain ⟨o, hSt, hno, hso, hom, hKK⟩ := h.st hq
 obtain ⟨hob, lv, gb, hB, hPR⟩ := hSt.blk
 obtain ⟨_, hM, _, _, ⟨aa, ca, hav⟩, hS, hPk, hAk⟩ := h.blk
 obtain ⟨gs, css, hsv, hcell⟩ := hS i _ hq
 have hin : i < n := by
  rcases Nat.lt_or_ge i n with h' | h'
  · exact h'
  · rw [List.getElem?_eq_none (by rw [hn]; exact h')] at hcs; cases hcs
 have hiN : i < R.q.length := by
  rcases Nat.lt_or_ge i R.q.length with h' | h'
  · exact h'
  · rw [List.getElem?_eq_none h'] at hq; cases hq
 have k0 : w.cell? ⟨m, 0, none⟩ = some (.slice ad n cc) := hM.cellAt rfl
 have k3 : w.cell? ⟨m, 3, none⟩ = some R.sv := hM.cellAt rfl
 obtain ⟨g, o', rfl, m0, m1, m2, m3, m4, m5, m6, m7, m8, m9, m10, m11, m12, m13, m14, m15⟩ := hC.cells hcs
 obtain ⟨N, hN⟩ : ∃ N, R.q.length = N := ⟨_, rfl⟩
 rw [hN] at hsv hiN
 rw [hsv] at k3
 have hI : (i : Int) < N := by omega
 have hIn : (i : Int) < n := by omega
 obtain ⟨ga, ca2, hav2, cA⟩ := hAk X _ hX
 have hXl : X < R.A.length := by
  rcases Nat.lt_or_ge X R.A.length with h' | h'
  · exact h'
  · rw [List.getElem?_eq_none h'] at hX; cases hX
 have k5 : w.cell? ⟨m, 5, none⟩ = some R.av := hM.cellAt rfl
 have k6 : w.cell? ⟨m, 6, none⟩ = some (.int .u64 (R.now : Nat)) := hM.cellAt rfl
 obtain ⟨an, han⟩ : ∃ an, R.A.length = an := ⟨_, rfl⟩
 rw [han] at hXl hav2
 rw [hav2] at k5
 have hX2 : (X : Int) < an := by omega
 have hbm : ¬ b = m := fun h9 => hno (by rw [← h9]; exact hob)
 have HKK := Lib.hid hKK
 have HST := Lib.hid hSt
 have HMB := Lib.hid hM
 have hbl := hB.lt
 obtain ⟨now, hnw⟩ : ∃ now, R.now = now := ⟨_, rfl⟩
 rw [hnw] at k6 hat hnow HKK ⊢
 have K5 : Hid (∀ u, Upd Nowhere w u → u.cell? ⟨m, 5, none⟩ = some (.slice (some ⟨ga, 0, none⟩) an ca2) ∧ u.cell? ⟨m, 6, none⟩ = some (.int .u64 (now : Nat)) ∧ u.cell? ⟨ga, X, none⟩ = some (.int .u64 (at_ : Nat))) := Lib.hid (fun u hu => ⟨cell_old hu k5, cell_old hu k6, cell_old hu cA⟩)
 have KB : Hid (Blk w b (SC cf s lv gb) TSt) := Lib.hid hB
 obtain ⟨x0, x1, x2, x3, x4, x5, x6, x7, x8, x9, x10, x11, x12, x13, x14, x15⟩ := cf
 dsimp only at m0 m1 m2 m3 m4 m5 m6 m7 m8 m9 m10 m11 m12 m13 m14 m15 HKK HST KB hcs hq ⊢
 have HF : ∀ u, Upd Nowhere w u → u.cell? ⟨m, 0, none⟩ = some (.slice (some ⟨g, o', none⟩) n cc) ∧ u.cell? ⟨m, 3, none⟩ = some (.slice (some ⟨gs, 0, none⟩) N css) ∧ u.cell? ⟨gs, i, none⟩ = some (.pointer (some ⟨b, 0, none⟩)) ∧ u.cell? ⟨g, o' + i * 16, none⟩ = some (.int .i64 x0) ∧ u.cell? ⟨g, o' + i * 16 + 1, none⟩ = some (.int .i64 x1) ∧ u.cell? ⟨g, o' + i * 16 + 2, none⟩ = some (.bool x2) ∧ u.cell? ⟨g, o' + i * 16 + 3, none⟩ = some (.int .i64 x3) ∧ u.cell? ⟨g, o' + i * 16 + 4, none⟩ = some (.int .i64 x4) ∧ u.cell? ⟨g, o' + i * 16 + 5, none⟩ = some (.int .i64 x5) ∧ u.cell? ⟨g, o' + i * 16 + 6, none⟩ = some (.int .u64 (x6 : Nat)) ∧ u.cell? ⟨g, o' + i * 16 + 7, none⟩ = some (.int .u64 (x7 : Nat)) ∧ u.cell? ⟨g, o' + i * 16 + 8, none⟩ = some (.int .u64 (x8 : Nat)) ∧ u.cell? ⟨g, o' + i * 16 + 9, none⟩ = some (.int .i64 x9) ∧ u.cell? ⟨g, o' + i * 16 + 10, none⟩ = some (.int .u64 (x10 : Nat)) ∧ u.cell? ⟨g, o' + i * 16 + 11, none⟩ = some (.int .u64 (x11 : Nat)) ∧ u.cell? ⟨g, o' + i * 16 + 12, none⟩ = some (.int .u64 (x12 : Nat)) ∧ u.cell? ⟨g, o' + i * 16 + 13, none⟩ = some (.int .i64 x13) ∧ u.cell? ⟨g, o' + i * 16 + 14, none⟩ = some (.int .u64 (x14 : Nat)) ∧ u.cell? ⟨g, o' + i * 16 + 15, none⟩ = some (.int .u64 (x15 : Nat)) := fun u hu => ⟨cell_old hu k0, cell_old hu k3, cell_old hu hcell, cell_old hu m0, cell_old hu m1, cell_old hu m2, cell_old hu m3, cell_old hu m4, cell_old hu m5, cell_old hu m6, cell_old hu m7, cell_old hu m8, cell_old hu m9, cell_old hu m10, cell_old hu m11, cell_old hu m12, cell_old hu m13, cell_old hu m14, cell_old hu m15⟩
 clear h hC hn hcs hq hX hSt hno hso hom hKK hob hB hPR hM hav hS hPk hAk hsv k0 k3 k5 k6 cA hcell hXl hiN hin hN han hav2 hnw m0 m1 m2 m3 m4 m5 m6 m7 m8 m9 m10 m11 m12 m13 m14 m15
 obtain ⟨⟨db, ds⟩, hDD⟩ : ∃ DD, dropS ⟨x0, x1, x2, x3, x4, x5, x6, x7, x8, x9, x10, x11, x12, x13, x14, x15⟩ s now at_ bh = DD := ⟨_, rfl⟩
 have HDD := Lib.hid hDD
 rw [hDD]
 dsimp only
 clear hDD
 go_enter Tryz.func59, Tryz.ntmps59
 go_upto_region 1 with fail
 go_region_held3 (fun w' => Upd Nowhere w w' ∧ w'.cell? ⟨m, 0, none⟩ = some (.slice (some ⟨g, o', none⟩) n cc) ∧ w'.cell? ⟨m, 3, none⟩ = some (.slice (some ⟨gs, 0, none⟩) N css) ∧ w'.cell? ⟨gs, i, none⟩ = some (.pointer (some ⟨b, 0, none⟩)) ∧ w'.cell? ⟨g, o' + i * 16, none⟩ = some (.int .i64 x0) ∧ w'.cell? ⟨g, o' + i * 16 + 1, none⟩ = some (.int .i64 x1) ∧ w'.cell? ⟨g, o' + i * 16 + 2, none⟩ = some (.bool x2) ∧ w'.cell? ⟨g, o' + i * 16 + 3, none⟩ = some (.int .i64 x3) ∧ w'.cell? ⟨g, o' + i * 16 + 4, none⟩ = some (.int .i64 x4) ∧ w'.cell? ⟨g, o' + i * 16 + 5, none⟩ = some (.int .i64 x5) ∧ w'.cell? ⟨g, o' + i * 16 + 6, none⟩ = some (.int .u64 (x6 : Nat)) ∧ w'.cell? ⟨g, o' + i * 16 + 7, none⟩ = some (.int .u64 (x7 : Nat)) ∧ w'.cell? ⟨g, o' + i * 16 + 8, none⟩ = some (.int .u64 (x8 : Nat)) ∧ w'.cell? ⟨g, o' + i * 16 + 9, none⟩ = some (.int .i64 x9) ∧ w'.cell? ⟨g, o' + i * 16 + 10, none⟩ = some (.int .u64 (x10 : Nat)) ∧ w'.cell? ⟨g, o' + i * 16 + 11, none⟩ = some (.int .u64 (x11 : Nat)) ∧ w'.cell? ⟨g, o' + i * 16 + 12, none⟩ = some (.int .u64 (x12 : Nat)) ∧ w'.cell? ⟨g, o' + i * 16 + 13, none⟩ = some (.int .i64 x13) ∧ w'.cell? ⟨g, o' + i * 16 + 14, none⟩ = some (.int .u64 (x14 : Nat)) ∧ w'.cell? ⟨g, o' + i * 16 + 15, none⟩ = some (.int .u64 (x15 : Nat))) (first | exact gk_start HF ((Upd.refl _ _).drew) | assumption | exact gk_old HF ((Upd.refl _ _).alloc _) (by assumption) | exact gk_start HF (((Upd.refl _ _).drew).alloc _)) (fail)
 rename_i hSF
 clear hSF
 have hXB : Blk ((w.alloc (.cells #[.int .i64 x0, .int .i64 x1, .bool x2, .int .i64 x3, .int .i64 x4, .int .i64 x5, .int .u64 (x6 : Nat), .int .u64 (x7 : Nat), .int .u64 (x8 : Nat), .int .i64 x9, .int .u64 (x10 : Nat), .int .u64 (x11 : Nat), .int .u64 (x12 : Nat), .int .i64 x13, .int .u64 (x14 : Nat), .int .u64 (x15 : Nat)] TRk)).drew) w.heap.size #[.int .i64 x0, .int .i64 x1, .bool x2, .int .i64 x3, .int .i64 x4, .int .i64 x5, .int .u64 (x6 : Nat), .int .u64 (x7 : Nat), .int .u64 (x8 : Nat), .int .i64 x9, .int .u64 (x10 : Nat), .int .u64 (x11 : Nat), .int .u64 (x12 : Nat), .int .i64 x13, .int .u64 (x14 : Nat), .int .u64 (x15 : Nat)] TRk := (Blk.new _ _ _).drew
 have hU1 : Upd Nowhere w ((w.alloc (.cells #[.int .i64 x0, .int .i64 x1, .bool x2, .int .i64 x3, .int .i64 x4, .int .i64 x5, .int .u64 (x6 : Nat), .int .u64 (x7 : Nat), .int .u64 (x8 : Nat), .int .i64 x9, .int .u64 (x10 : Nat), .int .u64 (x11 : Nat), .int .u64 (x12 : Nat), .int .i64 x13, .int .u64 (x14 : Nat), .int .u64 (x15 : Nat)] TRk)).drew) := ((Upd.refl _ _).alloc _).drew
 generalize (w.alloc (.cells #[.int .i64 x0, .int .i64 x1, .bool x2, .int .i64 x3, .int .i64 x4, .int .i64 x5, .int .u64 (x6 : Nat), .int .u64 (x7 : Nat), .int .u64 (x8 : Nat), .int .i64 x9, .int .u64 (x10 : Nat), .int .u64 (x11 : Nat), .int .u64 (x12 : Nat), .int .i64 x13, .int .u64 (x14 : Nat), .int .u64 (x15 : Nat)] TRk)).drew = w1 at *
 obtain ⟨PC, hPC⟩ : ∃ PC, w.heap.size = PC := ⟨_, rfl⟩
 rw [hPC] at hXB hbl
 try simp only [hPC]
 have HX := Lib.hid (vc_cells (x := ⟨x0, x1, x2, x3, x4, x5, x6, x7, x8, x9, x10, x11, x12, x13, x14, x15⟩) hXB)
 have HU1 := Lib.hid hU1
 have HPC := Lib.hid hPC
 clear hXB hU1 HF hPC
 obtain ⟨-, c1, -⟩ := HX.out _ (Upd.refl _ _)
 dsimp only at c1
 by_cases hp : x1 = 2
 · subst hp
   have e : dropS ⟨x0, 2, x2, x3, x4, x5, x6, x7, x8, x9, x10, x11, x12, x13, x14, x15⟩ s now at_ bh = ((Codel.stp x10 x11 x12 s.cF s.cN s.cK s.cL s.cD now (now - at_) bh).2, { s with
    cF := (Codel.stp x10 x11 x12 s.cF s.cN s.cK s.cL s.cD now (now - at_) bh).1.1
    cN := (Codel.stp x10 x11 x12 s.cF s.cN s.cK s.cL s.cD now (now - at_) bh).1.2.1
    cK := (Codel.stp x10 x11 x12 s.cF s.cN s.cK s.cL s.cD now (now - at_) bh).1.2.2.1
    cL := (Codel.stp x10 x11 x12 s.cF s.cN s.cK s.cL s.cD now (now - at_) bh).1.2.2.2.1
    cD := (Codel.stp x10 x11 x12 s.cF s.cN s.cK s.cL s.cD now (now - at_) bh).1.2.2.2.2 }) := by unfold dropS; rw [if_pos rfl]
   have HSTP := fun u => Lib.hid (Codel.rstep_any x10 x11 x12 s.cF s.cN s.cK s.cL s.cD now (now - at_) bh hN1 hK1 hL1 hnow u)
   unfold Wide.Gives Codel.out at HSTP
   obtain ⟨⟨⟨F1, N1, K1, L1, D1⟩, G⟩, hst⟩ : ∃ x, Codel.stp x10 x11 x12 s.cF s.cN s.cK s.cL s.cD now (now - at_) bh = x := ⟨_, rfl⟩
   rw [hst] at HSTP e
   dsimp only at HSTP e
   have hdd := HDD.out
   rw [e] at hdd
   cases hdd
   clear e HDD
   obtain ⟨wt, hwt⟩ : ∃ wt, now - at_ = wt := ⟨_, rfl⟩
   rw [hwt] at HSTP
   have e5 : IntKind.u64.wrap ((now : Int) - (at_ : Int)) = (wt : Int) := by rw [IntKind.wrap_u64]; omega
   have HF2 : ∀ u, Upd Nowhere w1 u → u.cell? ⟨PC, 10, none⟩ = some (.int .u64 (x10 : Nat)) ∧ u.cell? ⟨PC, 11, none⟩ = some (.int .u64 (x11 : Nat)) ∧ u.cell? ⟨PC, 12, none⟩ = some (.int .u64 (x12 : Nat)) ∧ u.cell? ⟨b, 3, none⟩ = some (.int .u64 (s.cF : Nat)) ∧ u.cell? ⟨b, 4, none⟩ = some (.int .u64 (s.cN : Nat)) ∧ u.cell? ⟨b, 5, none⟩ = some (.int .u64 (s.cK : Nat)) ∧ u.cell? ⟨b, 6, none⟩ = some (.int .u64 (s.cL : Nat)) ∧ u.cell? ⟨b, 7, none⟩ = some (.bool s.cD) ∧ u.cell? ⟨m, 5, none⟩ = some (.slice (some ⟨ga, 0, none⟩) an ca2) ∧ u.cell? ⟨m, 6, none⟩ = some (.int .u64 (now : Nat)) ∧ u.cell? ⟨ga, X, none⟩ = some (.int .u64 (at_ : Nat)) := fun u hu => by
    obtain ⟨-, -, -, -, -, -, -, -, -, -, q10, q11, q12, -⟩ := HX.out u hu
    obtain ⟨q5, q6, qA⟩ := K5.out u (HU1.out.trans hu (fun _ _ h => h))
    have hb := KB.out.kept (HU1.out.trans hu (fun _ _ h => h)) id
    exact ⟨q10, q11, q12, hb.cellAt rfl, hb.cellAt rfl, hb.cellAt rfl, hb.cellAt rfl, hb.cellAt rfl, q5, q6, qA⟩
   have hw1 : w.heap.size ≤ w1.heap.size := HU1.out.size
   have hsz : PC < w1.heap.size := by
    obtain ⟨q0, -⟩ := HX.out _ (Upd.refl _ _)
    exact cell_lt q0
   clear hst hN1 hK1 hL1 hnow hat hwt
   go_upto_region 4 with fail
   clear c1
   have HFF := Lib.hid HF2
   go_cut [11, 12] (fun v11 v12 wc => ∃ p, v11 = .pointer (some ⟨p, 0, none⟩) ∧ v12 = .bool db ∧ w1.heap.size ≤ p ∧ Upd Nowhere w1 wc ∧ Blk wc p #[.int .u64 (F1 : Nat), .int .u64 (N1 : Nat), .int .u64 (K1 : Nat), .int .u64 (L1 : Nat), .bool D1] 139)
   case first =>
    refine wp_region_held_drew (S := fun w' => Upd Nowhere w1 w' ∧ w'.cell? ⟨PC, 10, none⟩ = some (.int .u64 (x10 : Nat)) ∧ w'.cell? ⟨PC, 11, none⟩ = some (.int .u64 (x11 : Nat)) ∧ w'.cell? ⟨PC, 12, none⟩ = some (.int .u64 (x12 : Nat)) ∧ w'.cell? ⟨b, 3, none⟩ = some (.int .u64 (s.cF : Nat)) ∧ w'.cell? ⟨b, 4, none⟩ = some (.int .u64 (s.cN : Nat)) ∧ w'.cell? ⟨b, 5, none⟩ = some (.int .u64 (s.cK : Nat)) ∧ w'.cell? ⟨b, 6, none⟩ = some (.int .u64 (s.cL : Nat)) ∧ w'.cell? ⟨b, 7, none⟩ = some (.bool s.cD) ∧ w'.cell? ⟨m, 5, none⟩ = some (.slice (some ⟨ga, 0, none⟩) an ca2) ∧ w'.cell? ⟨m, 6, none⟩ = some (.int .u64 (now : Nat)) ∧ w'.cell? ⟨ga, X, none⟩ = some (.int .u64 (at_ : Nat))) (by kernel_rfl) (gk_start HFF.out ((Upd.refl _ _).drew)) (fun hHeld => ?_)
    refine tkq 0 ?_
    refine tkq 1 ?_
    refine tkq 2 ?_
    refine tkq 3 ?_
    refine tkq 4 ?_
    refine tkq 5 ?_
    refine tkq 6 ?_
    refine tkq 7 ?_
    refine tkq 8 ?_
    refine tkq 9 ?_
    refine tkq 10 ?_
    refine tkq 11 ?_
    refine tkq 12 ?_
    refine tkq 13 ?_
    refine tkq 14 ?_
    refine tkq 15 ?_
    refine tkq 16 ?_
    refine tkq 17 ?_
    refine tkq 18 ?_
    refine tkq 19 ?_
    refine tkq 20 ?_
    refine tkq 21 ?_
    refine tkq 22 ?_
    refine wpAnyH_ready (rs := [23, 27]) (by kernel_rfl) (by simp) ?_
    refine AllReadyH.cons (by simp only [List.getElem?_toArray, List.getElem?_cons_zero, List.getElem?_cons_succ]; rfl) (fun K9 hK => ?_) (AllReadyH.cons (by simp only [List.getElem?_toArray, List.getElem?_cons_zero, List.getElem?_cons_succ]; rfl) (fun K9 hK => ?_) AllReadyH.nil)
    · go_simp
      refine (HSTP _).out.mono ?_
      rintro x w3 ⟨rfl, u3⟩
      refine hK.out _ _ (by (try dsimp only); exact gk_old HFF.out u3 hHeld) (fun hHeld => ?_)
      clear hK K9
      have HH3 := Lib.hid hHeld
      refine tkq 24 ?_
      refine tkq 25 ?_
      refine tkq 26 ?_
      refine rdq 27 fun K9 hK => ?_
      go_simp
      refine hK.out _ _ (by (try dsimp only); exact gk_old HFF.out ((Upd.refl _ _).alloc _) hHeld) (fun hHeld => ?_)
      clear hK K9
      refine rdq 28 fun K9 hK => ?_
      go_simp
      refine hK.out _ _ (by (try dsimp only); exact gk_old HFF.out ((Upd.refl _ _).alloc _) HH3.out) (fun hHeld => ?_)
      clear hK K9
      refine tkq 29 ?_
      refine wpAnyH_done (by kernel_rfl) ?_ _
      go_wp2_with fail
      go_meet
      exact ⟨_, rfl, rfl, HH3.out.1.size, HH3.out.1.alloc _, Blk.new _ _ _⟩
    · go_simp
      refine hK.out _ _ (by (try dsimp only); exact gk_old HFF.out ((Upd.refl _ _).alloc _) hHeld) (fun hHeld => ?_)
      clear hK K9
      refine rdq 23 fun K9 hK => ?_
      go_simp
      refine (HSTP _).out.mono ?_
      rintro x w3 ⟨rfl, u3⟩
      have HX3 := Lib.hid (show Blk w3 w1.heap.size #[.int .u64 0, .int .u64 0, .int .u64 0, .int .u64 0, .bool false] 139 from Blk.kept (Blk.new w1.drew #[.int .u64 0, .int .u64 0, .int .u64 0, .int .u64 0, .bool false] 139) u3 id)
      refine hK.out _ _ (by (try dsimp only); exact gk_old HFF.out u3 hHeld) (fun hHeld => ?_)
      clear hK K9
      refine tkq 24 ?_
      refine tkq 25 ?_
      refine tkq 26 ?_
      obtain ⟨q0, q1, q2, q3, q4, q5, q6, q7, q8, q9⟩ := cells5 HX3.out
      have hU9 := (((((hHeld.1.setNew (a := ⟨w1.heap.size, 0, none⟩) (Nat.le_refl _) (.int .u64 (F1 : Nat))).setNew (a := ⟨w1.heap.size, 1, none⟩) (Nat.le_refl _) (.int .u64 (N1 : Nat))).setNew (a := ⟨w1.heap.size, 2, none⟩) (Nat.le_refl _) (.int .u64 (K1 : Nat))).setNew (a := ⟨w1.heap.size, 3, none⟩) (Nat.le_refl _) (.int .u64 (L1 : Nat))).setNew (a := ⟨w1.heap.size, 4, none⟩) (Nat.le_refl _) (.bool D1))
      have hS6 := gk_start HFF.out hU9
      refine rdq 28 fun K9 hK => ?_
      go_simp
      refine hK.out _ _ (by with_reducible exact hS6) (fun hHeld => ?_)
      clear hK K9
      refine tkq 29 ?_
      refine wpAnyH_done (by kernel_rfl) ?_ _
      go_wp2_with fail
      go_meet
      exact ⟨_, rfl, rfl, Nat.le_refl _, hU9, Egs.put_blk5 HX3.out⟩
   case rest =>
    obtain ⟨p, rfl, rfl, hp0, hUc, hX9⟩ := hcut
    obtain ⟨w2, rfl⟩ : ∃ x, x = wc := ⟨_, rfl⟩
    obtain ⟨q0, q1, q2, q3, q4, -⟩ := cells5 hX9
    have HU2 := Lib.hid (HU1.out.trans hUc (fun _ _ h => h))
    have hB2 := KB.out.kept HU2.out id
    have f3 := hB2.free 3
    have f4 := hB2.free 4
    have f5 := hB2.free 5
    have f6 := hB2.free 6
    have f7 := hB2.free 7
    have g3 : w2.cell? ⟨b, 3, none⟩ = some (.int .u64 (s.cF : Nat)) := hB2.cellAt rfl
    have g4 : w2.cell? ⟨b, 4, none⟩ = some (.int .u64 (s.cN : Nat)) := hB2.cellAt rfl
    have g5 : w2.cell? ⟨b, 5, none⟩ = some (.int .u64 (s.cK : Nat)) := hB2.cellAt rfl
    have g6 : w2.cell? ⟨b, 6, none⟩ = some (.int .u64 (s.cL : Nat)) := hB2.cellAt rfl
    have g7 : w2.cell? ⟨b, 7, none⟩ = some (.bool s.cD) := hB2.cellAt rfl
    clear hUc hX9 HX hB2
    go_wp2_with fail
    go_ret
    obtain ⟨own', t1, t2⟩ := st_blk (s' := { s with cF := F1, cN := N1, cK := K1, cL := L1, cD := D1 }) HST.out HU2.out (((((((Upd.refl _ _).setOne 3 (.int .u64 (F1 : Nat))).setOne 4 (.int .u64 (N1 : Nat))).setOne 5 (.int .u64 (K1 : Nat))).setOne 6 (.int .u64 (L1 : Nat))).setOne 7 (.bool D1))) rfl rfl (fun lv gb hB => by simpa using ((((((hB.kept HU2.out id).set 3 (.int .u64 (F1 : Nat))).set 4 (.int .u64 (N1 : Nat))).set 5 (.int .u64 (K1 : Nat))).set 6 (.int .u64 (L1 : Nat))).set 7 (.bool D1)))
    exact ⟨rfl, HKK.out _ own' _ L t1 t2⟩
 · have e : dropS ⟨x0, x1, x2, x3, x4, x5, x6, x7, x8, x9, x10, x11, x12, x13, x14, x15⟩ s now at_ bh = (false, s) := by unfold dropS; rw [if_neg hp]
   have hdd := HDD.out
   rw [e] at hdd
   cases hdd
   clear e HDD
   have d1 : (x1 != 2) = true := by simpa using hp
   clear hp
   go_wp2_with fail
   go_ret
   exact ⟨rfl, HKK.out w1 o s L ((stC b _ s L).kp HST.out HU1.out (fun _ _ h => h)) ((Fol.refl _ _).old HU1.out)⟩
end
end Go.Proofs.YtdddfmdcjjbegaaGreat.R43
namespace Go.Proofs.YtdddfmdcjjbegaaGreat.R43
open Go.RowKit Go.Proofs BigFrame
open RingW (It)
open First (Cf VC)
open Egs (Cs Eg OkE OkS OkF cri crs crh TRk TRc TP tks goesB opens ClsAt PlnAt dropS m_box mk_off mk_set)
open Aifo (RefIn)
set_option maxHeartbeats 40000000
set_option maxRecDepth 1000000
set_option linter.unusedSimpArgs false
theorem RfP.setNow {w : World} {own : Nat → Prop} {m pace : Nat} {cv pv : Value} {R : Rf} (h : RfP w own m cv pv pace R) (b : Nat) : RfP (w.setCell ⟨m, 6, none⟩ (.int .u64 (b : Nat))) own m cv pv pace { R with now := b } ∧ Fol w own (w.setCell ⟨m, 6, none⟩ (.int .u64 (b : Nat))) own := by
 obtain ⟨o1, o2, ⟨hB, ho1⟩, h2, h3, h4⟩ := h
 have hu : Upd (fun q => q = m) w (w.setCell ⟨m, 6, none⟩ (.int .u64 (b : Nat))) := (Upd.refl _ _).setOne 6 _
 have hne : ∀ q, o2 q → ¬ q = m := fun q hq he => h3 m ((ho1 m).2 rfl) (by rw [← he]; exact hq)
 exact ⟨⟨o1, o2, ⟨by simpa using hB.set 6 (.int .u64 (b : Nat)), ho1⟩, Sep.kp hu h2 hne, h3, h4⟩, fun q hq => .inl hq, hu.mono fun q _ hq => (h4 q).2 (.inl ((ho1 q).2 hq))⟩
theorem RfP.setBusy {w : World} {own : Nat → Prop} {m pace : Nat} {cv pv : Value} {R : Rf} (h : RfP w own m cv pv pace R) (b : Nat) : RfP (w.setCell ⟨m, 7, none⟩ (.int .u64 (b : Nat))) own m cv pv pace { R with busy := b } ∧ Fol w own (w.setCell ⟨m, 7, none⟩ (.int .u64 (b : Nat))) own := by
 obtain ⟨o1, o2, ⟨hB, ho1⟩, h2, h3, h4⟩ := h
 have hu : Upd (fun q => q = m) w (w.setCell ⟨m, 7, none⟩ (.int .u64 (b : Nat))) := (Upd.refl _ _).setOne 7 _
 have hne : ∀ q, o2 q → ¬ q = m := fun q hq he => h3 m ((ho1 m).2 rfl) (by rw [← he]; exact hq)
 exact ⟨⟨o1, o2, ⟨by simpa using hB.set 7 (.int .u64 (b : Nat)), ho1⟩, Sep.kp hu h2 hne, h3, h4⟩, fun q hq => .inl hq, hu.mono fun q _ hq => (h4 q).2 (.inl ((ho1 q).2 hq))⟩
theorem RfP.sOff {w : World} {own : Nat → Prop} {m pace : Nat} {cv pv : Value} {R : Rf} (h : RfP w own m cv pv pace R) {i b : Nat} {cf : Cf} {s : Cs} {L : List (Nat × Int)} (hi : R.q[i]? = some (b, cf, s, L)) {g n c : Nat} (hsv : R.sv = .slice (some ⟨g, 0, none⟩) n c) : ¬ g = b := by
 have hc : (sts R.q)[i]? = some (stC b cf s L) := by unfold sts; rw [List.getElem?_map, hi]; rfl
 obtain ⟨o1, o2, _, ⟨o3, o4, hr1, ⟨o5, o6, hr2, ⟨o7, o8, hr3, hst, hd3, he3⟩, hd2, he2⟩, hd1, he1⟩, hd, he⟩ := h
 obtain ⟨o9, hC, hs9, _⟩ := Egs.Sep.at (l1 := []) hst hc
 obtain ⟨hob, -⟩ := StP.blk hC
 rintro rfl
 refine hd1 g ((hr1.2 g).2 (by rw [hsv]; rfl)) ((he2 g).2 (.inr ((he3 g).2 (.inr (hs9 g hob)))))
theorem mp_step {α : Type} {f : α → α} {q : List α} {i : Nat} {x : α} (h : q[i]? = some x) : (((q.take i).map f ++ q.drop i).set i (f x)) = (q.take (i + 1)).map f ++ q.drop (i + 1) := by
 have hlt : i < q.length := by
  rcases Nat.lt_or_ge i q.length with h' | h'
  · exact h'
  · rw [List.getElem?_eq_none h'] at h; cases h
 have e : q[i] = x := by rw [List.getElem?_eq_getElem hlt] at h; exact Option.some.inj h
 have hl : ((q.take i).map f).length = i := by rw [List.length_map, List.length_take]; omega
 rw [List.drop_eq_getElem_cons hlt, e, List.set_append_right _ _ (by omega), hl, Nat.sub_self, List.set_cons_zero, List.take_add_one, h, Option.toList_some, List.map_append]
 simp
theorem mp_at {α : Type} {f : α → α} {q : List α} {i : Nat} {x : α} (h : q[i]? = some x) : ((q.take i).map f ++ q.drop i)[i]? = some x := by
 have hlt : i < q.length := by
  rcases Nat.lt_or_ge i q.length with h' | h'
  · exact h'
  · rw [List.getElem?_eq_none h'] at h; cases h
 have hl : ((q.take i).map f).length = i := by rw [List.length_map, List.length_take]; omega
 rw [List.getElem?_append_right (by omega), hl, Nat.sub_self, List.getElem?_drop]
 exact h
theorem set_self {α : Type} {q : List α} {i : Nat} {x : α} (h : q[i]? = some x) : q.set i x = q := by
 apply List.ext_getElem?
 intro j
 rw [List.getElem?_set]
 split
 · rename_i e
   subst e
   split
   · exact h.symm
   · rename_i h1
     rw [List.getElem?_eq_none (by omega)] at h; cases h
 · rfl
/-- A state as time goes on. -/
def tkR (t : Nat) (x : Nat × Cf × Cs × List (Nat × Int)) : Nat × Cf × Cs × List (Nat × Int) :=
 (x.1, x.2.1, { x.2.2.1 with hv := if x.2.1.credit = true then Credit.tck x.2.1.idle x.2.1.high x.2.2.1.hv t (decide (0 < x.2.2.2.length)) else x.2.2.1.hv }, x.2.2.2)
theorem tk_old {B w w' : World} {b : Nat} {a1 a2 a3 : Addr} {v1 v2 v3 : Value} (h : Upd (fun q => q = b) B w ∧ w.cell? a1 = some v1 ∧ w.cell? a2 = some v2 ∧ w.cell? a3 = some v3) (hu : Upd Nowhere w w') :
 Upd (fun q => q = b) B w' ∧ w'.cell? a1 = some v1 ∧ w'.cell? a2 = some v2 ∧ w'.cell? a3 = some v3 :=
 ⟨h.1.trans (hu.mono fun _ _ h => h.elim) (fun _ _ h => h), cell_old hu h.2.1, cell_old hu h.2.2.1, cell_old hu h.2.2.2⟩
section
variable {w : World} {own : Nat → Prop} {m pace n cc t : Nat} {ad : Option Addr} {pv : Value} {R : Rf} {cs : List Cf}
theorem rtick_any (h : RfP w own m (.slice ad n cc) pv pace R) (hCK : ∀ u, Upd own w u → ClsAt u ad cs) (_hn : cs.length = n) (hqn : R.q.length = n) (hcs : ∀ (i : Nat) x, R.q[i]? = some x → cs[i]? = some x.2.1) (hn8 : n ≤ 8)
 (hcr : ∀ (i : Nat) x, R.q[i]? = some x → x.2.1.credit = true → Credit.okc x.2.1.idle x.2.1.send x.2.1.high x.2.2.1.hv) (hnow : R.now ≤ 18446744073709551615) (ht : t ≤ 18446744073709551615) :
 Calls Tryz.prog 31 #[.pointer (some ⟨m, 0, none⟩), .int .u64 t] w fun x w' => x = .returned (.tuple #[]) ∧ ∃ own', RfP w' own' m (.slice ad n cc) pv pace { R with now := min (R.now + t) 18446744073709551615, q := R.q.map (tkR t) } ∧ Fol w own w' own' := by
 obtain ⟨_, hM, -⟩ := h.blk
 have k6 : w.cell? ⟨m, 6, none⟩ = some (.int .u64 (R.now : Nat)) := hM.cellAt rfl
 have z6 := hM.free 6
 have HAD := fun u => Lib.hid (Sat.ref_add R.now t hnow ht u)
 obtain ⟨nw, hnw⟩ : ∃ nw, min (R.now + t) 18446744073709551615 = nw := ⟨_, rfl⟩
 rw [hnw] at HAD ⊢
 obtain ⟨now, hnow'⟩ : ∃ now, R.now = now := ⟨_, rfl⟩
 rw [hnow'] at HAD k6
 obtain ⟨sv, Pv, av, q, P, A, nu, busy⟩ := R
 dsimp only at *
 have HOLD := fun u (hu : Upd Nowhere w u) => Lib.hid (h.kp hu (fun _ _ h => h))
 have HCK := Lib.hid hCK
 have HCS := Lib.hid hcs
 have HCR := Lib.hid hcr
 have HN := Lib.hid hqn
 have HT := Lib.hid ht
 have HMB : ∀ u, Upd Nowhere w u → u.cell? ⟨m, 6, none⟩ = some (.int .u64 (now : Nat)) ∧ u.frozen? ⟨m, 6, none⟩ = false := fun u hu => ⟨cell_old hu k6, (hM.kept hu id).free 6⟩
 have HMB := Lib.hid HMB
 clear h hCK hqn hcs hcr hnow ht hM hnw
 go_enter Tryz.func31, Tryz.ntmps31
 go_wp2_with fail
 refine ((HAD _).out).mono ?_
 rintro x w0 ⟨rfl, u0⟩
 obtain ⟨h1, f1⟩ := RfP.setNow (HOLD _ u0).out nw
 have H1 := Lib.hid h1
 have F1 := Lib.hid (Fol.trans ((Fol.refl w own).old u0) f1)
 obtain ⟨k6', z6'⟩ := HMB.out _ u0
 clear h1 f1 k6 z6
 go_upto_region 2 with fail
 generalize w0.setCell ⟨m, 6, none⟩ (.int .u64 (nw : Nat)) = w1 at *
 obtain ⟨_, hM1, ⟨asx, css, hsv⟩, -⟩ := H1.out.blk
 dsimp only at hsv hM1
 rw [HN.out] at hsv
 subst hsv
 clear hM1 k6' z6'
 go_wp2_with fail
 go_loopg [4] (n + 1) (fun gk v4 wr => ∃ (i : Nat) (own' : Nat → Prop), n - i < gk ∧ i ≤ n ∧ v4 = .int .i64 i ∧ RfP wr own' m (.slice ad n cc) pv pace ⟨.slice asx n css, Pv, av, (q.take i).map (tkR t) ++ q.drop i, P, A, nw, busy⟩ ∧ Fol w own wr own')
 case atStart => exact ⟨0, own, by omega, Nat.zero_le _, rfl, H1.out, F1.out⟩
 case round =>
  obtain ⟨i, own1, hgk, hin, rfl, h2, f2⟩ := hrel
  obtain ⟨wB, rfl⟩ : ∃ x, x = wr := ⟨_, rfl⟩
  have HGK := Lib.hid hgk
  have H2 := Lib.hid h2
  have F2 := Lib.hid f2
  obtain ⟨_, hM2, -, -, -, hS2, -⟩ := h2.blk
  dsimp only at hS2 hM2
  have k0 : wB.cell? ⟨m, 0, none⟩ = some (.slice ad n cc) := hM2.cellAt rfl
  have k3 : wB.cell? ⟨m, 3, none⟩ = some (.slice asx n css) := hM2.cellAt rfl
  clear hgk h2 f2 H1 F1 hM2
  rcases Nat.lt_or_ge i n with hlt | hge
  · obtain ⟨⟨b, cf, s, L⟩, hx⟩ : ∃ x, q[i]? = some x := ⟨q[i]'(by have := HN.out; omega), by simp⟩
    have hxi := mp_at (f := tkR t) hx
    have hst := mp_step (f := tkR t) hx
    have hcx := HCS.out i _ hx
    have hcrx := HCR.out i _ hx
    dsimp only at hcx hcrx
    obtain ⟨g, o', rfl, -, -, c2, -⟩ := (HCK.out _ F2.out.upd).cells hcx
    obtain ⟨gs, css2, hsv2, hcell⟩ := hS2 i _ hxi
    have hqlen : ((q.take i).map (tkR t) ++ q.drop i).length = n := by rw [List.length_append, List.length_map, List.length_take, List.length_drop]; have := HN.out; omega
    rw [hqlen] at hsv2
    injection hsv2 with e1 _ e3
    subst e1
    subst e3
    dsimp only at hcell
    obtain ⟨o, hSt, hno, hso, hom, hKK⟩ := H2.out.st hxi
    obtain ⟨hob, lv, gb, hB, hPR⟩ := hSt.blk
    obtain ⟨al, cl, rfl⟩ := hPR.form
    have hbm : ¬ m = b := fun h9 => hno (by rw [h9]; exact hob)
    have hgb : ¬ gs = b := H2.out.sOff hxi rfl
    have hI : (i : Int) < n := by omega
    have HST := Lib.hid hst
    have HXI := Lib.hid hxi
    have HKK := Lib.hid hKK
    have HSS := Lib.hid hSt
    have HBK := Lib.hid hB
    obtain ⟨ln, hln⟩ : ∃ ln, L.length = ln := ⟨_, rfl⟩
    have kb : wB.cell? ⟨b, 0, none⟩ = some (.slice al ln cl) := by rw [← hln]; exact hB.cellAt rfl
    have HLN := Lib.hid hln
    clear hx hxi hst hcx hqlen hS2 hKK hSt hno hso hom hob hB hPR hln
    cases hcd : cf.credit with
    | false =>
      rw [hcd] at c2
      have HCD := Lib.hid hcd
      clear hcd hcrx
      go_wp2_with fail
      go_roundg (n - i)
      case rel =>
       have e9 : tkR t (b, cf, s, L) = (b, cf, s, L) := by unfold tkR; dsimp only; rw [HCD.out, if_neg (by simp)]
       have h9 := HST.out
       rw [e9, set_self HXI.out] at h9
       exact ⟨i + 1, own1, by omega, by omega, rfl, by rw [← h9]; exact H2.out, F2.out⟩
      case measure => have := HGK.out; omega
    | true =>
      rw [hcd] at c2
      have hok := hcrx hcd
      obtain ⟨wt, hwt⟩ : ∃ wt, decide (0 < ln) = wt := ⟨_, rfl⟩
      have HTC := fun u => Lib.hid (Ref23.tick_any (wt := wt) u hok HT.out)
      obtain ⟨nh, hnh⟩ : ∃ nh, Credit.tck cf.idle cf.high s.hv t wt = nh := ⟨_, rfl⟩
      rw [hnh] at HTC
      have dm : decide ((ln : Int) > 0) = wt := by rw [← hwt]; exact decide_eq_decide.2 (by omega)
      have dm2 : decide ((0 : Int) < (ln : Int)) = wt := by rw [← hwt]; exact decide_eq_decide.2 (by omega)
      have dm3 : decide (0 < ln) = wt := hwt
      have e1 : cri cf = cf.idle := by unfold cri; rw [if_pos hcd]
      have e2 : crs cf = cf.send := by unfold crs; rw [if_pos hcd]
      have e3 : crh cf = cf.high := by unfold crh; rw [if_pos hcd]
      have hB := HBK.out.drew
      have k9 : wB.drew.cell? ⟨b, 9, none⟩ = some (.int .i64 (cri cf)) := hB.cellAt rfl
      have k10 : wB.drew.cell? ⟨b, 10, none⟩ = some (.int .i64 (crs cf)) := hB.cellAt rfl
      have k11 : wB.drew.cell? ⟨b, 11, none⟩ = some (.int .i64 (crh cf)) := hB.cellAt rfl
      have k12 : wB.drew.cell? ⟨b, 12, none⟩ = some (.int .i64 s.hv) := hB.cellAt rfl
      rw [e1] at k9
      rw [e2] at k10
      rw [e3] at k11
      have HE1 := Lib.hid e1
      have HE2 := Lib.hid e2
      have HE3 := Lib.hid e3
      have HNH := Lib.hid hnh
      have HCD := Lib.hid hcd
      have HWT := Lib.hid hwt
      clear e1 e2 e3 hnh hcd hok hwt hB hcrx
      go_upto_region 5 with fail
      refine wp_region_held_drew (S := fun w' => Upd (fun q => q = b) wB w' ∧ w'.cell? ⟨m, 3, none⟩ = some (.slice (some ⟨gs, 0, none⟩) n css) ∧ w'.cell? ⟨gs, i, none⟩ = some (.pointer (some ⟨b, 0, none⟩)) ∧ w'.cell? ⟨b, 0, none⟩ = some (.slice al ln cl)) (by kernel_rfl) (tk_old ⟨Upd.refl _ _, k3, hcell, kb⟩ ((Upd.refl _ _).drew)) (fun hHeld => ?_)
      refine tkq 0 ?_
      refine tkq 1 ?_
      refine tkq 2 ?_
      refine tkq 3 ?_
      refine tkq 4 ?_
      refine tkq 5 ?_
      refine tkq 6 ?_
      refine tkq 7 ?_
      refine tkq 8 ?_
      refine tkq 9 ?_
      refine tkq 10 ?_
      refine tkq 11 ?_
      refine tkq 12 ?_
      refine tkq 13 ?_
      refine tkq 14 ?_
      refine tkq 15 ?_
      refine tkq 17 ?_
      refine tkq 18 ?_
      refine tkq 19 ?_
      refine tkq 20 ?_
      refine tkq 21 ?_
      refine tkq 22 ?_
      refine tkq 23 ?_
      refine tkq 24 ?_
      refine tkq 25 ?_
      refine tkq 26 ?_
      refine tkq 27 ?_
      refine tkq 28 ?_
      refine tkq 29 ?_
      refine rdq 16 fun K9 hK => ?_
      go_simp
      refine hK.out _ _ (by (try dsimp only); exact hHeld) (fun hHeld => ?_)
      clear hK K9
      refine rdq 30 fun K9 hK => ?_
      go_simp
      refine (HTC _).out.mono ?_
      rintro x w3 ⟨rfl, u3⟩
      refine hK.out _ _ (by (try dsimp only); exact tk_old hHeld u3) (fun hHeld => ?_)
      clear hK K9
      refine tkq 31 ?_
      refine tkq 32 ?_
      have HU3 : Hid (Upd Nowhere wB w3) := Lib.hid (((Upd.refl _ _).drew).trans u3 (fun _ _ h => h))
      have hB5 := HBK.out.kept HU3.out id
      have f9 := hB5.free 9
      have f10 := hB5.free 10
      have f11 := hB5.free 11
      have f12 := hB5.free 12
      have g9 : w3.cell? ⟨b, 9, none⟩ = some (.int .i64 (cri cf)) := hB5.cellAt rfl
      have g10 : w3.cell? ⟨b, 10, none⟩ = some (.int .i64 (crs cf)) := hB5.cellAt rfl
      have g11 : w3.cell? ⟨b, 11, none⟩ = some (.int .i64 (crh cf)) := hB5.cellAt rfl
      have g12 : w3.cell? ⟨b, 12, none⟩ = some (.int .i64 s.hv) := hB5.cellAt rfl
      have hB9 := ((((hB5.set 9 (.int .i64 cf.idle)).set 10 (.int .i64 cf.send)).set 11 (.int .i64 cf.high)).set 12 (.int .i64 nh))
      have hS9 : Upd (fun q => q = b) wB ((((w3.setCell ⟨b, 9, none⟩ (.int .i64 cf.idle)).setCell ⟨b, 10, none⟩ (.int .i64 cf.send)).setCell ⟨b, 11, none⟩ (.int .i64 cf.high)).setCell ⟨b, 12, none⟩ (.int .i64 nh)) ∧ ((((w3.setCell ⟨b, 9, none⟩ (.int .i64 cf.idle)).setCell ⟨b, 10, none⟩ (.int .i64 cf.send)).setCell ⟨b, 11, none⟩ (.int .i64 cf.high)).setCell ⟨b, 12, none⟩ (.int .i64 nh)).cell? ⟨m, 3, none⟩ = some (.slice (some ⟨gs, 0, none⟩) n css) ∧ ((((w3.setCell ⟨b, 9, none⟩ (.int .i64 cf.idle)).setCell ⟨b, 10, none⟩ (.int .i64 cf.send)).setCell ⟨b, 11, none⟩ (.int .i64 cf.high)).setCell ⟨b, 12, none⟩ (.int .i64 nh)).cell? ⟨gs, i, none⟩ = some (.pointer (some ⟨b, 0, none⟩)) ∧ ((((w3.setCell ⟨b, 9, none⟩ (.int .i64 cf.idle)).setCell ⟨b, 10, none⟩ (.int .i64 cf.send)).setCell ⟨b, 11, none⟩ (.int .i64 cf.high)).setCell ⟨b, 12, none⟩ (.int .i64 nh)).cell? ⟨b, 0, none⟩ = some (.slice al ln cl) := by
       obtain ⟨q1, q2, q3, q4⟩ := hHeld
       have n1 : b ≠ m := fun h => hbm h.symm
       have n2 : b ≠ gs := fun h => hgb h.symm
       refine ⟨((((q1.setOne 9 _).setOne 10 _).setOne 11 _).setOne 12 _), ?_, ?_, ?_⟩
       · rw [World.cell?_setCell_far _ _ _ _ n1, World.cell?_setCell_far _ _ _ _ n1, World.cell?_setCell_far _ _ _ _ n1, World.cell?_setCell_far _ _ _ _ n1]; exact q2
       · rw [World.cell?_setCell_far _ _ _ _ n2, World.cell?_setCell_far _ _ _ _ n2, World.cell?_setCell_far _ _ _ _ n2, World.cell?_setCell_far _ _ _ _ n2]; exact q3
       · rw [← HLN.out]; exact hB9.cellAt rfl
      clear hB5 hB9
      refine rdq 33 fun K9 hK => ?_
      go_simp
      refine hK.out _ _ (by with_reducible exact hS9) (fun hHeld => ?_)
      clear hK K9
      refine wpAnyH_done (by kernel_rfl) ?_ _
      go_wp2_with fail
      go_roundg (n - i)
      case rel =>
       obtain ⟨own', t1, t2⟩ := st_blk (s' := { s with hv := nh }) HSS.out HU3.out ((((((Upd.refl _ _).setOne 9 (.int .i64 cf.idle)).setOne 10 (.int .i64 cf.send)).setOne 11 (.int .i64 cf.high)).setOne 12 (.int .i64 nh))) rfl rfl (fun lv gb hB => by
        have h9 := ((((hB.kept HU3.out id).set 9 (.int .i64 cf.idle)).set 10 (.int .i64 cf.send)).set 11 (.int .i64 cf.high)).set 12 (.int .i64 nh)
        simp only [SC, HE1.out, HE2.out, HE3.out] at h9 ⊢
        simpa using h9)
       obtain ⟨own3, t3, t4⟩ := HKK.out _ own' _ L t1 t2
       have e9 : tkR t (b, cf, s, L) = (b, cf, { s with hv := nh }, L) := by unfold tkR; dsimp only; rw [HCD.out, if_pos rfl, HLN.out, HWT.out, HNH.out]
       have h9 := HST.out
       rw [e9] at h9
       rw [h9] at t3
       exact ⟨i + 1, own3, by omega, by omega, rfl, t3, F2.out.trans t4⟩
      case measure => have := HGK.out; omega
  · obtain rfl : i = n := by omega
    have dI : decide ((i : Int) < i) = false := by simp
    have e9 : (q.take i).map (tkR t) ++ q.drop i = q.map (tkR t) := by
     rw [List.take_of_length_le (by have := HN.out; omega), List.drop_eq_nil_of_le (by have := HN.out; omega), List.append_nil]
    have H9 : Hid (RfP wB own1 m (.slice ad i cc) pv pace ⟨.slice asx i css, Pv, av, q.map (tkR t), P, A, nw, busy⟩) := Lib.hid (by
     have h9 := H2.out
     rw [e9] at h9
     exact h9)
    clear e9 hS2
    go_wp2_with fail
    go_end0
    exact ⟨rfl, own1, H9.out, F2.out⟩
end
end Go.Proofs.YtdddfmdcjjbegaaGreat.R43

