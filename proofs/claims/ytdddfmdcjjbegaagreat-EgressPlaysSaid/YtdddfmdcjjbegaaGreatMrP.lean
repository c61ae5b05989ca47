/- R43P, R43P2, one behind the other. -/
import Derived.Test.YtdddfmdcjjbegaaGreatMrN3
import Derived.Test.YtdddfmdcjjbegaaGreatMeA
import Derived.Test.YtdddfmdcjjbegaaGreatMeTk
namespace Go.Proofs.YtdddfmdcjjbegaaGreat.R43
open Go.RowKit Go.Proofs BigFrame
open RingW (It)
open First (Cf VC)
open Egs (Cs Eg OkE OkS OkF cri crs crh TRk TRc TP tks goesB opens ClsAt PlnAt dropS m_box mk_off mk_set)
open Aifo (RefIn)
set_option maxHeartbeats 40000000
set_option maxRecDepth 1000000
set_option linter.unusedSimpArgs false
open Egs (wst pushS mayS psh zeroI VP)
open Cal (ins)
open RingW (It)
variable {w : World} {own : Nat → Prop} {m pace i b n cc c k : Nat} {ad : Option Addr} {pv : Value} {E : Eg} {R : Rf} {cf : Cf} {s : Cs} {cs : List Cf}
theorem rpush_ok (h : RfP w own m (.slice ad n cc) pv E.pace R) (hC : ClsAt w ad cs) (hn : cs.length = n) (hcs : cs[i]? = some cf) (hco : Cor E R) (hE : OkE E c) (hx : E.q[i]? = some (k, cf, s)) (hc : c < 1000000000) (hPc : R.P.length ≤ 999999999) (rank p0 p1 p2 : Nat) (hp1 : 1 ≤ p2) (hp2 : p2 ≤ 65535) :
 Calls Tryz.prog 29 #[.pointer (some ⟨m, 0, none⟩), .int .i64 i, .int .u64 rank, VP p0 p1 p2] w fun x w' => x = .returned (.int .i64 ((pushS cf s E.now rank (p0, p1, p2)).1 : Nat)) ∧ ∃ own' R', RfP w' own' m (.slice ad n cc) pv E.pace R' ∧ Fol w own w' own' ∧ Cor { E with q := E.q.set i (k, cf, (pushS cf s E.now rank (p0, p1, p2)).2) } R' ∧
  R'.P = (if (pushS cf s E.now rank (p0, p1, p2)).1 = 0 then R.P ++ [(p0, p1, p2)] else R.P) ∧ R'.A = (if (pushS cf s E.now rank (p0, p1, p2)).1 = 0 then R.A ++ [E.now] else R.A) := by
 obtain ⟨hf, hs⟩ := hE.q _ (List.mem_of_getElem? hx)
 dsimp only at hf hs
 obtain ⟨b, L, hq, hmat⟩ := hco.mat hx
 obtain ⟨⟨pc, ps⟩, hps⟩ : ∃ d, pushS cf s E.now rank (p0, p1, p2) = d := ⟨_, rfl⟩
 have HPS := Lib.hid hps
 rw [hps]
 dsimp only
 clear hps
 obtain ⟨PP, hPP⟩ : ∃ P, (if pc = 0 then R.P ++ [(p0, p1, p2)] else R.P) = P := ⟨_, rfl⟩
 obtain ⟨AA, hAA⟩ : ∃ A, (if pc = 0 then R.A ++ [E.now] else R.A) = A := ⟨_, rfl⟩
 rw [hPP, hAA]
 have HPP := Lib.hid hPP
 have HAA := Lib.hid hAA
 clear hPP hAA
 obtain ⟨o, hSt, hno, hso, hom, hKK⟩ := h.st hq
 obtain ⟨hob, lv, gb, hB, hPR⟩ := hSt.blk
 obtain ⟨_, hM, _, _, ⟨aa, ca, hav⟩, hS, hPk, hAk⟩ := h.blk
 obtain ⟨gs, css, hsv, hcell⟩ := hS i _ hq
 have hin : i < n := by
  rcases Nat.lt_or_ge i n with h' | h'
  · exact h'
  · rw [List.getElem?_eq_none (by rw [hn]; exact h')] at hcs; cases hcs
 have hiN : i < R.q.length := by
  rcases Nat.lt_or_ge i R.q.length with h' | h'
  · exact h'
  · rw [List.getElem?_eq_none h'] at hq; cases hq
 have k0 : w.cell? ⟨m, 0, none⟩ = some (.slice ad n cc) := hM.cellAt rfl
 have k3 : w.cell? ⟨m, 3, none⟩ = some R.sv := hM.cellAt rfl
 obtain ⟨g, o', rfl, m0, m1, m2, m3, m4, m5, m6, m7, m8, m9, m10, m11, m12, m13, m14, m15⟩ := hC.cells hcs
 obtain ⟨N, hN⟩ : ∃ N, R.q.length = N := ⟨_, rfl⟩
 rw [hN] at hsv hiN
 rw [hsv] at k3
 have hI : (i : Int) < N := by omega
 have hIn : (i : Int) < n := by omega
 have hbm : ¬ b = m := fun h9 => hno (by rw [← h9]; exact hob)
 have hIN : decide ((i : Int) < 0) = false := decide_eq_false (by omega)
 have hGE : decide ((i : Int) ≥ (N : Int)) = false := decide_eq_false (by omega)
 have hGE2 : decide ((N : Int) ≤ (i : Int)) = false := decide_eq_false (by omega)
 have hGE3 : decide (N ≤ i) = false := decide_eq_false (by omega)
 have hl1 : decide (p2 < 1) = false := decide_eq_false (by omega)
 have hl2 : decide (65535 < p2) = false := decide_eq_false (by omega)
 have hl3 : decide (p2 > 65535) = false := decide_eq_false (by omega)
 have hl4 : decide ((p2 : Int) < 1) = false := decide_eq_false (by omega)
 have hl5 : decide ((65535 : Int) < (p2 : Int)) = false := decide_eq_false (by omega)
 have hl6 : decide ((p2 : Int) > 65535) = false := decide_eq_false (by omega)
 have HRF := Lib.hid h
 have HCO := Lib.hid hco
 have HX := Lib.hid hx
 have HQ := Lib.hid hq
 have HMT := Lib.hid hmat
 have HEE := Lib.hid hE
 have HF1 := Lib.hid hf
 have HS1 := Lib.hid hs
 have HC := Lib.hid hC
 have HBK := Lib.hid hB
 have HPR := Lib.hid hPR
 have HCC := Lib.hid hc
 have HPC := Lib.hid hPc
 have HP1 := Lib.hid (And.intro hp1 hp2)
 obtain ⟨x0, x1, x2, x3, x4, x5, x6, x7, x8, x9, x10, x11, x12, x13, x14, x15⟩ := cf
 dsimp only at m0 m1 m2 m3 m4 m5 m6 m7 m8 m9 m10 m11 m12 m13 m14 m15
 have HF : ∀ u, Upd Nowhere w u → u.cell? ⟨m, 0, none⟩ = some (.slice (some ⟨g, o', none⟩) n cc) ∧ u.cell? ⟨m, 3, none⟩ = some (.slice (some ⟨gs, 0, none⟩) N css) ∧ u.cell? ⟨gs, i, none⟩ = some (.pointer (some ⟨b, 0, none⟩)) ∧ u.cell? ⟨g, o' + i * 16, none⟩ = some (.int .i64 x0) ∧ u.cell? ⟨g, o' + i * 16 + 1, none⟩ = some (.int .i64 x1) ∧ u.cell? ⟨g, o' + i * 16 + 2, none⟩ = some (.bool x2) ∧ u.cell? ⟨g, o' + i * 16 + 3, none⟩ = some (.int .i64 x3) ∧ u.cell? ⟨g, o' + i * 16 + 4, none⟩ = some (.int .i64 x4) ∧ u.cell? ⟨g, o' + i * 16 + 5, none⟩ = some (.int .i64 x5) ∧ u.cell? ⟨g, o' + i * 16 + 6, none⟩ = some (.int .u64 (x6 : Nat)) ∧ u.cell? ⟨g, o' + i * 16 + 7, none⟩ = some (.int .u64 (x7 : Nat)) ∧ u.cell? ⟨g, o' + i * 16 + 8, none⟩ = some (.int .u64 (x8 : Nat)) ∧ u.cell? ⟨g, o' + i * 16 + 9, none⟩ = some (.int .i64 x9) ∧ u.cell? ⟨g, o' + i * 16 + 10, none⟩ = some (.int .u64 (x10 : Nat)) ∧ u.cell? ⟨g, o' + i * 16 + 11, none⟩ = some (.int .u64 (x11 : Nat)) ∧ u.cell? ⟨g, o' + i * 16 + 12, none⟩ = some (.int .u64 (x12 : Nat)) ∧ u.cell? ⟨g, o' + i * 16 + 13, none⟩ = some (.int .i64 x13) ∧ u.cell? ⟨g, o' + i * 16 + 14, none⟩ = some (.int .u64 (x14 : Nat)) ∧ u.cell? ⟨g, o' + i * 16 + 15, none⟩ = some (.int .u64 (x15 : Nat)) := fun u hu => ⟨cell_old hu k0, cell_old hu k3, cell_old hu hcell, cell_old hu m0, cell_old hu m1, cell_old hu m2, cell_old hu m3, cell_old hu m4, cell_old hu m5, cell_old hu m6, cell_old hu m7, cell_old hu m8, cell_old hu m9, cell_old hu m10, cell_old hu m11, cell_old hu m12, cell_old hu m13, cell_old hu m14, cell_old hu m15⟩
 have HFH := Lib.hid HF
 clear h hC hn hcs hq hSt hno hso hom hKK hob hB hPR hM hav hS hPk hAk hsv k0 hcell hiN hin hN hco hE hx hc hPc hp1 hp2 hf hs hmat m0 m1 m2 m3 m4 m5 m6 m7 m8 m9 m10 m11 m12 m13 m14 m15
 clear HF
 go_enter Tryz.func29, Tryz.ntmps29
 go_upto_region 1 with fail
 have hPB : Blk (w.alloc (.cells #[.int .u32 p0, .int .u32 p1, .int .u64 p2] TP)) w.heap.size #[.int .u32 p0, .int .u32 p1, .int .u64 p2] TP := Blk.new _ _ _
 have hUA : Upd Nowhere w (w.alloc (.cells #[.int .u32 p0, .int .u32 p1, .int .u64 p2] TP)) := (Upd.refl _ _).alloc _
 have k3' := cell_old hUA k3
 obtain ⟨PB, hPBe⟩ : ∃ PB, w.heap.size = PB := ⟨_, rfl⟩
 have HNP : Hid (¬ own PB) := Lib.hid (fun h => by have := Sep.lt HRF.out h; omega)
 rw [hPBe] at hPB
 generalize w.alloc (.cells #[.int .u32 p0, .int .u32 p1, .int .u64 p2] TP) = wA at *
 try simp only [hPBe]
 obtain ⟨q0, q1, q2, -⟩ := cells3 hPB
 have HF : ∀ u, Upd Nowhere wA u → u.cell? ⟨m, 0, none⟩ = some (.slice (some ⟨g, o', none⟩) n cc) ∧ u.cell? ⟨m, 3, none⟩ = some (.slice (some ⟨gs, 0, none⟩) N css) ∧ u.cell? ⟨gs, i, none⟩ = some (.pointer (some ⟨b, 0, none⟩)) ∧ u.cell? ⟨g, o' + i * 16, none⟩ = some (.int .i64 x0) ∧ u.cell? ⟨g, o' + i * 16 + 1, none⟩ = some (.int .i64 x1) ∧ u.cell? ⟨g, o' + i * 16 + 2, none⟩ = some (.bool x2) ∧ u.cell? ⟨g, o' + i * 16 + 3, none⟩ = some (.int .i64 x3) ∧ u.cell? ⟨g, o' + i * 16 + 4, none⟩ = some (.int .i64 x4) ∧ u.cell? ⟨g, o' + i * 16 + 5, none⟩ = some (.int .i64 x5) ∧ u.cell? ⟨g, o' + i * 16 + 6, none⟩ = some (.int .u64 (x6 : Nat)) ∧ u.cell? ⟨g, o' + i * 16 + 7, none⟩ = some (.int .u64 (x7 : Nat)) ∧ u.cell? ⟨g, o' + i * 16 + 8, none⟩ = some (.int .u64 (x8 : Nat)) ∧ u.cell? ⟨g, o' + i * 16 + 9, none⟩ = some (.int .i64 x9) ∧ u.cell? ⟨g, o' + i * 16 + 10, none⟩ = some (.int .u64 (x10 : Nat)) ∧ u.cell? ⟨g, o' + i * 16 + 11, none⟩ = some (.int .u64 (x11 : Nat)) ∧ u.cell? ⟨g, o' + i * 16 + 12, none⟩ = some (.int .u64 (x12 : Nat)) ∧ u.cell? ⟨g, o' + i * 16 + 13, none⟩ = some (.int .i64 x13) ∧ u.cell? ⟨g, o' + i * 16 + 14, none⟩ = some (.int .u64 (x14 : Nat)) ∧ u.cell? ⟨g, o' + i * 16 + 15, none⟩ = some (.int .u64 (x15 : Nat)) := fun u hu => HFH.out u (hUA.trans hu (fun _ _ h => h))
 have HUA := Lib.hid hUA
 have HPB := Lib.hid hPB
 have hbp : w.heap.size ≤ wA.heap.size := hUA.size
 clear hUA hPB k3 HFH hPBe
 go_upto_region 5 with fail
 clear k3' q0 q1 q2 hl1 hl2 hl3 hl4 hl5 hl6 hIN hGE hGE2 hGE3
 go_region_held3 (fun w' => Upd Nowhere wA w' ∧ w'.cell? ⟨m, 0, none⟩ = some (.slice (some ⟨g, o', none⟩) n cc) ∧ w'.cell? ⟨m, 3, none⟩ = some (.slice (some ⟨gs, 0, none⟩) N css) ∧ w'.cell? ⟨gs, i, none⟩ = some (.pointer (some ⟨b, 0, none⟩)) ∧ w'.cell? ⟨g, o' + i * 16, none⟩ = some (.int .i64 x0) ∧ w'.cell? ⟨g, o' + i * 16 + 1, none⟩ = some (.int .i64 x1) ∧ w'.cell? ⟨g, o' + i * 16 + 2, none⟩ = some (.bool x2) ∧ w'.cell? ⟨g, o' + i * 16 + 3, none⟩ = some (.int .i64 x3) ∧ w'.cell? ⟨g, o' + i * 16 + 4, none⟩ = some (.int .i64 x4) ∧ w'.cell? ⟨g, o' + i * 16 + 5, none⟩ = some (.int .i64 x5) ∧ w'.cell? ⟨g, o' + i * 16 + 6, none⟩ = some (.int .u64 (x6 : Nat)) ∧ w'.cell? ⟨g, o' + i * 16 + 7, none⟩ = some (.int .u64 (x7 : Nat)) ∧ w'.cell? ⟨g, o' + i * 16 + 8, none⟩ = some (.int .u64 (x8 : Nat)) ∧ w'.cell? ⟨g, o' + i * 16 + 9, none⟩ = some (.int .i64 x9) ∧ w'.cell? ⟨g, o' + i * 16 + 10, none⟩ = some (.int .u64 (x10 : Nat)) ∧ w'.cell? ⟨g, o' + i * 16 + 11, none⟩ = some (.int .u64 (x11 : Nat)) ∧ w'.cell? ⟨g, o' + i * 16 + 12, none⟩ = some (.int .u64 (x12 : Nat)) ∧ w'.cell? ⟨g, o' + i * 16 + 13, none⟩ = some (.int .i64 x13) ∧ w'.cell? ⟨g, o' + i * 16 + 14, none⟩ = some (.int .u64 (x14 : Nat)) ∧ w'.cell? ⟨g, o' + i * 16 + 15, none⟩ = some (.int .u64 (x15 : Nat))) (first | exact gk_start HF ((Upd.refl _ _).drew) | assumption | exact gk_old HF ((Upd.refl _ _).alloc _) (by assumption) | exact gk_start HF (((Upd.refl _ _).drew).alloc _)) (fail)
 rename_i hSF
 clear hSF
 have hXB : Blk ((wA.alloc (.cells #[.int .i64 x0, .int .i64 x1, .bool x2, .int .i64 x3, .int .i64 x4, .int .i64 x5, .int .u64 (x6 : Nat), .int .u64 (x7 : Nat), .int .u64 (x8 : Nat), .int .i64 x9, .int .u64 (x10 : Nat), .int .u64 (x11 : Nat), .int .u64 (x12 : Nat), .int .i64 x13, .int .u64 (x14 : Nat), .int .u64 (x15 : Nat)] TRk)).drew) wA.heap.size #[.int .i64 x0, .int .i64 x1, .bool x2, .int .i64 x3, .int .i64 x4, .int .i64 x5, .int .u64 (x6 : Nat), .int .u64 (x7 : Nat), .int .u64 (x8 : Nat), .int .i64 x9, .int .u64 (x10 : Nat), .int .u64 (x11 : Nat), .int .u64 (x12 : Nat), .int .i64 x13, .int .u64 (x14 : Nat), .int .u64 (x15 : Nat)] TRk := (Blk.new _ _ _).drew
 have hU1 : Upd Nowhere wA ((wA.alloc (.cells #[.int .i64 x0, .int .i64 x1, .bool x2, .int .i64 x3, .int .i64 x4, .int .i64 x5, .int .u64 (x6 : Nat), .int .u64 (x7 : Nat), .int .u64 (x8 : Nat), .int .i64 x9, .int .u64 (x10 : Nat), .int .u64 (x11 : Nat), .int .u64 (x12 : Nat), .int .i64 x13, .int .u64 (x14 : Nat), .int .u64 (x15 : Nat)] TRk)).drew) := ((Upd.refl _ _).alloc _).drew
 generalize (wA.alloc (.cells #[.int .i64 x0, .int .i64 x1, .bool x2, .int .i64 x3, .int .i64 x4, .int .i64 x5, .int .u64 (x6 : Nat), .int .u64 (x7 : Nat), .int .u64 (x8 : Nat), .int .i64 x9, .int .u64 (x10 : Nat), .int .u64 (x11 : Nat), .int .u64 (x12 : Nat), .int .i64 x13, .int .u64 (x14 : Nat), .int .u64 (x15 : Nat)] TRk)).drew = w1 at *
 obtain ⟨PC, hPC⟩ : ∃ PC, wA.heap.size = PC := ⟨_, rfl⟩
 rw [hPC] at hXB hbp
 try simp only [hPC]
 have HX1 := Lib.hid (vc_cells (x := ⟨x0, x1, x2, x3, x4, x5, x6, x7, x8, x9, x10, x11, x12, x13, x14, x15⟩) hXB)
 have HU1 := Lib.hid (HUA.out.trans hU1 (fun _ _ h => h))
 have HPB1 := Lib.hid (Blk.kept HPB.out hU1 id)
 have HNC : Hid (¬ own PC) := Lib.hid (fun h => by have := Sep.lt HRF.out h; omega)
 clear hXB hU1 HF hPC hbp HPB
 obtain ⟨lv, hlv⟩ : ∃ v, lv = v := ⟨_, rfl⟩
 obtain ⟨al, cl, hal⟩ := HPR.out.form
 obtain ⟨ln, hln⟩ : ∃ ln, L.length = ln := ⟨_, rfl⟩
 have HLN := Lib.hid hln
 rw [hln] at hal
 have HB1 := Lib.hid (HBK.out.kept HU1.out id)
 have kb : w1.cell? ⟨b, 0, none⟩ = some (.slice al ln cl) := by rw [← hal]; exact HB1.out.cellAt rfl
 have HAL := Lib.hid hal
 obtain ⟨y0, y1, -⟩ := HX1.out _ (Upd.refl _ _)
 dsimp only at y0 y1
 obtain ⟨B0, hB0⟩ : ∃ B0, decide (x1 < 3 ∧ x0 ≤ (ln : Int)) = B0 := ⟨_, rfl⟩
 have HB0 := Lib.hid hB0
 clear hln hal hlv hB0
 go_upto_region 6 with fail
 go_cut [64] (fun v64 wc => v64 = .bool B0 ∧ wc = w1.drew)
 case first =>
  refine wp_region_held_drew (S := fun w' => w'.cell? ⟨PC, 0, none⟩ = some (.int .i64 x0) ∧ w'.cell? ⟨PC, 1, none⟩ = some (.int .i64 x1) ∧ w'.cell? ⟨b, 0, none⟩ = some (.slice al ln cl)) (by kernel_rfl) ⟨y0, y1, kb⟩ (fun hHeld => ?_)
  by_cases h3 : x1 < 3
  · have d1 : decide (x1 < 3) = true := decide_eq_true h3
    obtain ⟨B, hB⟩ : ∃ B, decide (x0 ≤ (ln : Int)) = B := ⟨_, rfl⟩
    have d2 : decide ((ln : Int) ≥ x0) = B := hB
    obtain rfl : B0 = B := by rw [← hB, ← HB0.out]; exact decide_eq_decide.2 ⟨fun h => h.2, fun h => ⟨h3, h⟩⟩
    clear h3
    refine tkq 0 ?_
    refine tkq 1 ?_
    refine tkq 2 ?_
    refine tkq 3 ?_
    refine tkq 4 ?_
    refine tkq 5 ?_
    refine tkq 6 ?_
    refine tkq 7 ?_
    refine tkq 8 ?_
    refine tkq 9 ?_
    refine tkq 10 ?_
    refine tkq 11 ?_
    refine tkq 12 ?_
    refine wpAnyH_done (by kernel_rfl) ?_ _
    go_wp2_with fail
    go_meet
    exact ⟨rfl, rfl⟩
  · have d1 : decide (x1 < 3) = false := decide_eq_false h3
    obtain rfl : B0 = false := by rw [← HB0.out]; exact decide_eq_false (fun h => h3 h.1)
    clear h3
    refine tkq 0 ?_
    refine tkq 1 ?_
    refine tkq 2 ?_
    refine tkq 3 ?_
    refine skq 4 ?_
    refine skq 5 ?_
    refine skq 6 ?_
    refine skq 7 ?_
    refine skq 8 ?_
    refine skq 9 ?_
    refine skq 10 ?_
    refine skq 11 ?_
    refine tkq 12 ?_
    refine wpAnyH_done (by kernel_rfl) ?_ _
    go_wp2_with fail
    go_meet
    exact ⟨rfl, rfl⟩
 case rest =>
  obtain ⟨rfl, rfl⟩ := hcut
  have hU0 : Upd Nowhere w1 w1.drew := (Upd.refl _ _).drew
  have HU2 := Lib.hid (HU1.out.trans hU0 (fun _ _ h => h))
  have HPB2 := Lib.hid (HPB1.out.kept hU0 id)
  have HX2 := Lib.hid (fun u hu => HX1.out u (hU0.trans hu (fun _ _ h => h)))
  obtain ⟨y0, y1, -⟩ := HX1.out _ hU0
  dsimp only at y0 y1
  generalize w1.drew = w2 at *
  clear kb hU0 HX1 HPB1 HU1 HB1
  cases B0 with
  | true =>
    obtain ⟨h3, h4⟩ := of_decide_eq_true HB0.out
    have h9 := HPS.out
    rw [push_no (may20 (cf := ⟨x0, x1, x2, x3, x4, x5, x6, x7, x8, x9, x10, x11, x12, x13, x14, x15⟩) h3 (by have h8 := HMT.out.1; have h7 := HLN.out; dsimp only; omega)) (by decide)] at h9
    obtain ⟨rfl, rfl⟩ := Prod.mk.inj h9
    clear h3 h4 h9 y0 y1
    go_wp2_with fail
    go_ret
    exact ⟨rfl, own, R, HRF.out.old HU2.out, (Fol.refl _ _).old HU2.out, HCO.out.same HX.out, by simpa using HPP.out, by simpa using HAA.out⟩
  | false =>
    have HR2 := Lib.hid (HRF.out.old HU2.out)
    have HNL : Hid (x1 < 3 → ¬ x0.toNat ≤ s.l.length) := Lib.hid (fun a h => of_decide_eq_false HB0.out ⟨a, by have h8 := HMT.out.1; have h7 := HLN.out; have h6 := HF1.out.r1; dsimp only at h6; omega⟩)
    obtain ⟨B1, hB1⟩ : ∃ B, decide (x1 = 1) = B := ⟨_, rfl⟩
    have hB1' : (x1 == 1) = B1 := by rw [← hB1]; rfl
    have HB1 := Lib.hid hB1
    go_upto_if 67 with fail
    clear hB1 hB1'
    go_cut [11, 12, 13] (fun _ _ _ wc => ∃ s1 own1, RfP wc own1 m (.slice (some ⟨g, o', none⟩) n cc) pv E.pace { R with q := R.q.set i (b, ⟨x0, x1, x2, x3, x4, x5, x6, x7, x8, x9, x10, x11, x12, x13, x14, x15⟩, s1, L) } ∧ Fol w2 own wc own1 ∧ (x1 ≠ 3 → mayS ⟨x0, x1, x2, x3, x4, x5, x6, x7, x8, x9, x10, x11, x12, x13, x14, x15⟩ s rank = (0, s1)) ∧ (x1 = 3 → s1 = s))
    case first =>
     as_aux_lemma =>
     cases B1 with
     | true =>
       have hp1 : x1 = 1 := of_decide_eq_true HB1.out
       have HP1 := Lib.hid hp1
       have hby : s.bys ≤ 18446744073709551615 := by have := HS1.out.by2 HF1.out; omega
       have HSTP := fun u => Lib.hid (Red.rstep_any x6 x7 x8 s.mean s.cnt s.bys x9 HS1.out.mn hby HS1.out.ct u)
       unfold Wide.Gives at HSTP
       obtain ⟨⟨⟨M1, C1⟩, G1⟩, hst⟩ : ∃ x, Red.rs x6 x7 x8 x9 s.mean s.cnt s.bys = x := ⟨_, rfl⟩
       rw [hst] at HSTP
       dsimp only at HSTP
       have HMAY := Lib.hid (may1 (cf := ⟨x0, x1, x2, x3, x4, x5, x6, x7, x8, x9, x10, x11, x12, x13, x14, x15⟩) (rank := rank) hp1 (HNL.out (by omega)) hst)
       have HBY := fun u (hu : Upd Nowhere w2 u) => Lib.hid (bytes_any (HR2.out.old hu) HCO.out HEE.out HX.out)
       have HB2 := Lib.hid (HBK.out.kept HU2.out id)
       have HF2 : ∀ u, Upd Nowhere w2 u → u.cell? ⟨PC, 6, none⟩ = some (.int .u64 (x6 : Nat)) ∧ u.cell? ⟨PC, 7, none⟩ = some (.int .u64 (x7 : Nat)) ∧ u.cell? ⟨PC, 8, none⟩ = some (.int .u64 (x8 : Nat)) ∧ u.cell? ⟨PC, 9, none⟩ = some (.int .i64 x9) ∧ u.cell? ⟨b, 1, none⟩ = some (.int .u64 (s.mean : Nat)) ∧ u.cell? ⟨b, 2, none⟩ = some (.int .u64 (s.cnt : Nat)) := fun u hu => by
        obtain ⟨-, -, -, -, -, -, q6, q7, q8, q9, -⟩ := HX2.out u hu
        have hb := HB2.out.kept hu id
        exact ⟨q6, q7, q8, q9, hb.cellAt rfl, hb.cellAt rfl⟩
       have HFF := Lib.hid HF2
       clear hby hst y0 y1 HF2 hp1
       go_upto_region 9 with fail
       refine wp_region_held_drew (S := fun w' => Upd Nowhere w2 w' ∧ w'.cell? ⟨PC, 6, none⟩ = some (.int .u64 (x6 : Nat)) ∧ w'.cell? ⟨PC, 7, none⟩ = some (.int .u64 (x7 : Nat)) ∧ w'.cell? ⟨PC, 8, none⟩ = some (.int .u64 (x8 : Nat)) ∧ w'.cell? ⟨PC, 9, none⟩ = some (.int .i64 x9) ∧ w'.cell? ⟨b, 1, none⟩ = some (.int .u64 (s.mean : Nat)) ∧ w'.cell? ⟨b, 2, none⟩ = some (.int .u64 (s.cnt : Nat))) (by kernel_rfl) (gk_start HFF.out ((Upd.refl _ _).drew)) (fun hHeld => ?_)
       refine tkq 0 ?_
       refine tkq 1 ?_
       refine tkq 2 ?_
       refine tkq 3 ?_
       refine tkq 4 ?_
       refine tkq 5 ?_
       refine tkq 6 ?_
       refine tkq 7 ?_
       refine tkq 8 ?_
       refine tkq 9 ?_
       refine tkq 10 ?_
       refine tkq 11 ?_
       refine rdq 12 fun K9 hK => ?_
       go_simp
       refine (HBY _ hHeld.1).out.mono ?_
       rintro x w3 ⟨rfl, u3⟩
       refine hK.out _ _ (by (try dsimp only); exact gk_old HFF.out u3 hHeld) (fun hHeld => ?_)
       clear hK K9
       refine rdq 13 fun K9 hK => ?_
       go_simp
       refine (HSTP _).out.mono ?_
       rintro x w4 ⟨rfl, u4⟩
       refine hK.out _ _ (by (try dsimp only); exact gk_old HFF.out u4 hHeld) (fun hHeld => ?_)
       clear hK K9
       refine tkq 14 ?_
       refine tkq 15 ?_
       refine tkq 16 ?_
       refine tkq 17 ?_
       refine tkq 18 ?_
       refine tkq 19 ?_
       refine tkq 20 ?_
       refine wpAnyH_done (by kernel_rfl) ?_ _
       have HU4 := Lib.hid hHeld.1
       have hB4 := HB2.out.kept HU4.out id
       have f1 := hB4.free 1
       have f2 := hB4.free 2
       have g1 : w4.cell? ⟨b, 1, none⟩ = some (.int .u64 (s.mean : Nat)) := hB4.cellAt rfl
       have g2 : w4.cell? ⟨b, 2, none⟩ = some (.int .u64 (s.cnt : Nat)) := hB4.cellAt rfl
       obtain ⟨own', t1, t2⟩ := HR2.out.setB (s' := { s with mean := M1, cnt := C1 }) HQ.out HU4.out (((Upd.refl _ _).setOne 1 (.int .u64 (M1 : Nat))).setOne 2 (.int .u64 (C1 : Nat))) rfl rfl (fun lv gb hB => by simpa using (((hB.kept HU4.out id).set 1 (.int .u64 (M1 : Nat))).set 2 (.int .u64 (C1 : Nat))))
       have T1 := Lib.hid t1
       have T2 := Lib.hid t2
       clear hB4 t1 t2 hHeld
       cases G1 with
       | true =>
         have h9 := HPS.out
         rw [push_no (HMAY.out) (by decide)] at h9
         obtain ⟨rfl, rfl⟩ := Prod.mk.inj h9
         clear h9
         go_wp2_with fail
         go_ret
         exact ⟨rfl, own', _, T1.out, ((Fol.refl _ _).old HU2.out).trans T2.out, HCO.out.set HX.out HQ.out HMT.out, by simpa using HPP.out, by simpa using HAA.out⟩
       | false =>
         go_wp2_with fail
         go_meet
         exact ⟨_, own', T1.out, T2.out, fun _ => HMAY.out, fun h => by have := HP1.out; omega⟩
     | false =>
       have hn1 : ¬ x1 = 1 := of_decide_eq_false HB1.out
       have HN1 := Lib.hid hn1
       clear hn1
       go_wp2_with fail
       go_meet
       exact ⟨s, own, HR2.out.same HQ.out, Fol.refl _ _, fun h3 => may0 (cf := ⟨x0, x1, x2, x3, x4, x5, x6, x7, x8, x9, x10, x11, x12, x13, x14, x15⟩) HN1.out h3 (fun h4 => HNL.out (by have a1 := HF1.out.p1; have a2 := HF1.out.p2; dsimp only at a1 a2 h3 h4; omega)), fun _ => rfl⟩
    case rest =>
    obtain ⟨s1, own1, hR, hFo, hm1, hm3⟩ := hcut
    obtain ⟨w3, rfl⟩ : ∃ x, x = wc := ⟨_, rfl⟩
    have HR3 := Lib.hid hR
    have HF3 := Lib.hid hFo
    have HM1 := Lib.hid hm1
    have HM3 := Lib.hid hm3
    have z0 := hFo.cell y0 HNC.out
    have z1 := hFo.cell y1 HNC.out
    clear hR hFo hm1 hm3
    go_upto_region 14 with fail
    go_cut [106] (fun v106 wc => ∃ B2 s2 own2, v106 = .bool B2 ∧ RfP wc own2 m (.slice (some ⟨g, o', none⟩) n cc) pv E.pace { R with q := R.q.set i (b, ⟨x0, x1, x2, x3, x4, x5, x6, x7, x8, x9, x10, x11, x12, x13, x14, x15⟩, s2, L) } ∧ Fol w2 own wc own2 ∧ mayS ⟨x0, x1, x2, x3, x4, x5, x6, x7, x8, x9, x10, x11, x12, x13, x14, x15⟩ s rank = (if B2 = true then 21 else 0, s2))
    case first =>
     as_aux_lemma =>
     by_cases h3 : x1 = 3
     · obtain rfl := HM3.out h3
       obtain ⟨lv3, gb3, wv, hB3, hRI, hK3⟩ := HR3.out.gate2 HQ.out h3
       have g8 : w3.cell? ⟨b, 8, none⟩ = some (.pointer (some ⟨gb3, 0, none⟩)) := hB3.cellAt rfl
       have HOF := Lib.hid (Aifo.roffer_any hRI rank)
       have HK3 := Lib.hid hK3
       have HMAY := Lib.hid (may3 (cf := ⟨x0, x1, x2, x3, x4, x5, x6, x7, x8, x9, x10, x11, x12, x13, x14, x15⟩) (s := s1) (rank := rank) h3)
       dsimp only at HMAY HOF HK3
       obtain ⟨mb, hmb⟩ : ∃ mb, Aifo.mayB x0.toNat s1.gw x14 x15 s1.win rank = mb := ⟨_, rfl⟩
       rw [hmb] at HMAY HOF
       have d1 : decide (x1 = 3) = true := decide_eq_true h3
       have d2 : (x1 == 3) = true := by rw [← d1]; rfl
       clear hB3 hRI hK3 h3 hmb
       go_wp2_with fail
       refine (HOF.out).mono ?_
       rintro x w5 ⟨rfl, wv', h5, h6, h7⟩
       have H5 := Lib.hid h5
       have H6 := Lib.hid h6
       have H7 := Lib.hid h7
       clear h5 h6 h7
       go_wp2_with fail
       go_meet
       obtain ⟨own', t1, t2⟩ := HK3.out w5 { s1 with gw := if mb = true then s1.gw + 1 else s1.gw, win := Aifo.slid x13.toNat s1.win ++ [(rank : Int)] } wv' H5.out (H7.out.mono fun _ _ h => .inl h) (fun k hk => .inr (H6.out k hk)) (fun _ _ => rfl)
       refine ⟨!mb, _, own', rfl, t1, HF3.out.trans t2, ?_⟩
       rw [HMAY.out]
       cases mb <;> rfl
     · have d1 : decide (x1 = 3) = false := decide_eq_false h3
       have d2 : (x1 == 3) = false := by rw [← d1]; rfl
       have H3 := Lib.hid h3
       clear h3
       go_wp2_with fail
       go_meet
       exact ⟨false, s1, own1, rfl, HR3.out, HF3.out, HM1.out H3.out⟩
    case rest =>
    obtain ⟨B2, s2, own2, rfl, hR, hFo, hmay⟩ := hcut
    obtain ⟨w4, rfl⟩ : ∃ x, x = wc := ⟨_, rfl⟩
    have HR4 := Lib.hid hR
    have HF4 := Lib.hid hFo
    have HMAY := Lib.hid hmay
    have v0 := hFo.cell y0 HNC.out
    have v1 := hFo.cell y1 HNC.out
    clear hR hFo hmay z0 z1 HR3 HF3 HM1 HM3 y0 y1
    cases B2 with
    | true =>
      have h9 := HPS.out
      rw [push_no HMAY.out (by decide)] at h9
      obtain ⟨rfl, rfl⟩ := Prod.mk.inj h9
      have hsl := (mayS_l HMAY.out).1
      have HSL := Lib.hid hsl
      clear h9 hsl
      go_wp2_with fail
      go_ret
      exact ⟨rfl, own2, _, HR4.out, ((Fol.refl _ _).old HU2.out).trans HF4.out, HCO.out.set HX.out HQ.out (by rw [HSL.out]; exact HMT.out), by simpa using HPP.out, by simpa using HAA.out⟩
    | false =>
      obtain ⟨lv4, gb4, hB4, hPR4, hM4, hbm4, hob4, hom4⟩ := HR4.out.cls (gset HQ.out)
      obtain ⟨_, _, _, ⟨ap, cp, hpv⟩, _⟩ := HR4.out.blk
      obtain ⟨pn, hpn⟩ : ∃ pn, R.P.length = pn := ⟨_, rfl⟩
      dsimp only at hpv
      rw [hpn] at hpv
      have HPN := Lib.hid hpn
      have HPV := Lib.hid hpv
      have x4' : w4.cell? ⟨m, 4, none⟩ = some (.slice ap pn cp) := by rw [← hpv]; exact hM4.cellAt rfl
      obtain ⟨al4, cl4, hal4⟩ := hPR4.form
      rw [HLN.out] at hal4
      have b4 : w4.cell? ⟨b, 0, none⟩ = some (.slice al4 ln cl4) := by rw [← hal4]; exact hB4.cellAt rfl
      have HB4 := Lib.hid hB4
      have HPR4 := Lib.hid hPR4
      have HAL4 := Lib.hid hal4
      obtain ⟨B3, hB3⟩ : ∃ B, decide (x1 = 4) = B := ⟨_, rfl⟩
      have hB3' : (x1 == 4) = B3 := by rw [← hB3]; rfl
      have HB3 := Lib.hid hB3
      have HMTG := Lib.hid ((mt_iff.1 HMT.out).grow [(p0, p1, p2)] [E.now])
      have HEN : Hid (∀ wb, Ent (R.P ++ [(p0, p1, p2)]) (R.A ++ [E.now]) wb (rank, (p0, p1, p2, E.now, s.inn)) (if wb = true then rank else 0, (pn : Int))) := Lib.hid (fun wb => by rw [← HPN.out]; exact ent_new (p := (p0, p1, p2)) HCO.out.pa)
      clear hpn hpv hal4 hB4 hPR4 hM4 hbm4 hob4 hom4
      go_upto_if 114 with fail
      clear hB3 hB3' x4'
      go_cut [15, 16, 17] (fun _ _ _ wc => ∃ L' s3 own3, RfP wc own3 m (.slice (some ⟨g, o', none⟩) n cc) pv E.pace { R with q := R.q.set i (b, ⟨x0, x1, x2, x3, x4, x5, x6, x7, x8, x9, x10, x11, x12, x13, x14, x15⟩, s3, L') } ∧ Fol w2 own wc own3 ∧ pushS ⟨x0, x1, x2, x3, x4, x5, x6, x7, x8, x9, x10, x11, x12, x13, x14, x15⟩ s E.now rank (p0, p1, p2) = (0, { s3 with inn := s.inn + 1 }) ∧ s3.inn = s.inn ∧ Mt (R.P ++ [(p0, p1, p2)]) (R.A ++ [E.now]) (wst ⟨x0, x1, x2, x3, x4, x5, x6, x7, x8, x9, x10, x11, x12, x13, x14, x15⟩) s3.l L')
      case first =>
       as_aux_lemma =>
       cases B3 with
       | true =>
         have hp4 : x1 = 4 := of_decide_eq_true HB3.out
         have HP4 := Lib.hid hp4
         have HW := Lib.hid (show wst ⟨x0, x1, x2, x3, x4, x5, x6, x7, x8, x9, x10, x11, x12, x13, x14, x15⟩ = true from decide_eq_true hp4)
         obtain ⟨rm, hrm⟩ : ∃ rm : Nat, x0 = rm := ⟨x0.toNat, by have h6 := HF1.out.r1; dsimp only at h6; omega⟩
         have HRM := Lib.hid hrm
         have v0' : w4.cell? ⟨PC, 0, none⟩ = some (.int .i64 (rm : Nat)) := by rw [← hrm]; exact v0
         clear v0
         obtain rfl : s = s2 := by
          have h9 := HMAY.out
          rw [may4 (cf := ⟨x0, x1, x2, x3, x4, x5, x6, x7, x8, x9, x10, x11, x12, x13, x14, x15⟩) hp4] at h9
          injection h9
         have hr4 : rm ≤ 4096 := by have h6 := HF1.out.r2; dsimp only at h6; omega
         have hLl := HMT.out.1
         have hsl : s.l.length ≤ rm := by have h6 := HS1.out.len; dsimp only at h6; omega
         have hrm1 : 1 ≤ rm := by have h6 := HF1.out.r1; dsimp only at h6; omega
         clear hp4 hrm
         by_cases hl : s.l.length < rm
         · have HSQ := fun u (hu : Upd Nowhere w4 u) => Lib.hid (Ref10.sq_room (room := rm) (ownsRow_upd HPR4.out hu (fun _ _ h => h)) (by omega) hr4 rank (pn : Int))
           rw [HAL4.out] at HSQ
           have HPO := Lib.hid (push_room (cf := ⟨x0, x1, x2, x3, x4, x5, x6, x7, x8, x9, x10, x11, x12, x13, x14, x15⟩) (s := s) (now := E.now) (rank := rank) (p0 := p0) (p1 := p1) (p2 := p2) HP4.out (by show _ < Int.toNat x0; rw [HRM.out, Int.toNat_natCast]; exact hl))
           clear hr4 hLl hsl hrm1 hl
           go_upto_region 18 with fail
           refine wp_region_held_drew (S := fun w' => Upd Nowhere w4 w' ∧ w'.cell? ⟨b, 0, none⟩ = some (.slice al4 ln cl4) ∧ w'.cell? ⟨PC, 0, none⟩ = some (.int .i64 (rm : Nat))) (by kernel_rfl) ⟨(Upd.refl _ _).drew, b4, v0'⟩ (fun hHeld => ?_)
           refine tkq 0 ?_
           refine tkq 1 ?_
           refine tkq 2 ?_
           refine tkq 3 ?_
           refine tkq 4 ?_
           refine tkq 5 ?_
           refine tkq 6 ?_
           refine tkq 7 ?_
           refine rdq 8 fun K9 hK => ?_
           go_simp
           refine (HSQ _ hHeld.1).out.mono ?_
           rintro x w5 ⟨v5, rfl, hMd⟩
           refine hK.out _ _ (by (try dsimp only); exact ⟨hHeld.1.trans hMd.2 (fun _ _ h => h), cell_old hMd.2 hHeld.2.1, cell_old hMd.2 hHeld.2.2⟩) (fun hHeld => ?_)
           clear hK K9
           refine tkq 9 ?_
           refine tkq 10 ?_
           refine tkq 11 ?_
           refine tkq 12 ?_
           refine tkq 13 ?_
           refine tkq 14 ?_
           refine tkq 15 ?_
           refine wpAnyH_done (by kernel_rfl) ?_ _
           have HU5 := Lib.hid hHeld.1
           have hB5 := HB4.out.kept HU5.out id
           have f0 := hB5.free 0
           have g0 : w5.cell? ⟨b, 0, none⟩ = some lv4 := hB5.cellAt rfl
           obtain ⟨a5, c5, rfl⟩ := hMd.1.form
           obtain ⟨own', t1, t2⟩ := HR4.out.setLB (s' := { s with l := ins rank (p0, p1, p2, E.now, s.inn) s.l, bys := s.bys + p2 }) HQ.out ((Upd.refl _ _).drew) hMd ((Upd.refl _ _).setOne 0 _) rfl rfl (fun lv gb hB => by simpa using hB.set 0 _)
           have T1 := Lib.hid t1
           have T2 := Lib.hid t2
           clear hB5 t1 t2 hHeld hMd
           go_wp2_with fail
           go_meet
           exact ⟨_, _, own', T1.out, HF4.out.trans T2.out, HPO.out, rfl, by rw [HW.out]; have h1 := HMTG.out; rw [HW.out] at h1; exact h1.insw (HEN.out true)⟩
         · obtain ⟨t, ⟨r, y⟩, ht⟩ := last_of (l := s.l) (by omega)
           have hmt := HMT.out
           obtain ⟨T, e, hT, hMT, X, he, hXP, hXA⟩ := Mt.last (by rw [← ht]; exact mt_iff.1 hmt)
           obtain rfl : e = (r, (X : Int)) := by rw [HW.out] at he; exact he
           have hTl : T.length + 1 = ln := by have h6 := HLN.out; rw [hT] at h6; simpa using h6
           have hXn : X < pn := by
            rw [← HPN.out]
            rcases Nat.lt_or_ge X R.P.length with h' | h'
            · exact h'
            · rw [List.getElem?_eq_none h'] at hXP; cases hXP
           have hln := HLN.out
           have hpr := HPR4.out
           rw [hT] at hpr
           by_cases hr : r ≤ rank
           · have HSQ := fun u (hu : Upd Nowhere w4 u) => Lib.hid (Ref10.sq_self (room := rm) (ownsRow_upd hpr hu (fun _ _ h => h)) (by omega) (by omega) rank (pn : Int) hr)
             rw [HAL4.out] at HSQ
             have h9 := HPS.out
             rw [push_self (cf := ⟨x0, x1, x2, x3, x4, x5, x6, x7, x8, x9, x10, x11, x12, x13, x14, x15⟩) HP4.out (by show ¬ _ < Int.toNat _; rw [HRM.out, Int.toNat_natCast]; exact hl) ht hr] at h9
             obtain ⟨rfl, rfl⟩ := Prod.mk.inj h9
             clear h9 hr4 hLl hsl hrm1 hl ht hmt hT hMT hXP hXA hTl hXn hln hpr hr
             go_upto_region 18 with fail
             refine wp_region_held_drew (S := fun w' => Upd Nowhere w4 w' ∧ w'.cell? ⟨b, 0, none⟩ = some (.slice al4 ln cl4) ∧ w'.cell? ⟨PC, 0, none⟩ = some (.int .i64 (rm : Nat))) (by kernel_rfl) ⟨(Upd.refl _ _).drew, b4, v0'⟩ (fun hHeld => ?_)
             refine tkq 0 ?_
             refine tkq 1 ?_
             refine tkq 2 ?_
             refine tkq 3 ?_
             refine tkq 4 ?_
             refine tkq 5 ?_
             refine tkq 6 ?_
             refine tkq 7 ?_
             refine rdq 8 fun K9 hK => ?_
             go_simp
             refine (HSQ _ hHeld.1).out.mono ?_
             rintro x w5 ⟨rfl, u5⟩
             refine hK.out _ _ (by (try dsimp only); exact ⟨hHeld.1.trans u5 (fun _ _ h => h), cell_old u5 hHeld.2.1, cell_old u5 hHeld.2.2⟩) (fun hHeld => ?_)
             clear hK K9
             refine tkq 9 ?_
             refine tkq 10 ?_
             refine tkq 11 ?_
             refine tkq 12 ?_
             refine tkq 13 ?_
             refine tkq 14 ?_
             refine tkq 15 ?_
             refine wpAnyH_done (by kernel_rfl) ?_ _
             have HU5 := Lib.hid hHeld.1
             clear hHeld
             go_wp2_with fail
             go_ret
             exact ⟨rfl, own2, _, HR4.out.old HU5.out, (((Fol.refl _ _).old HU2.out).trans HF4.out).old HU5.out, HCO.out.set HX.out HQ.out HMT.out, by simpa using HPP.out, by simpa using HAA.out⟩
           · have HSQ := fun u (hu : Upd Nowhere w4 u) => Lib.hid (Ref10.sq_out (room := rm) (ownsRow_upd hpr hu (fun _ _ h => h)) (by omega) (by omega) rank (pn : Int) (by omega))
             rw [HAL4.out] at HSQ
             have hyi : y.2.2.2.2 < s.inn := (HS1.out.its _ (by rw [ht]; exact List.mem_append_right _ (List.mem_singleton.2 rfl))).2.2.2.1
             have HPO := Lib.hid (push_out (cf := ⟨x0, x1, x2, x3, x4, x5, x6, x7, x8, x9, x10, x11, x12, x13, x14, x15⟩) (now := E.now) (p0 := p0) (p1 := p1) (p2 := p2) HP4.out (by show ¬ _ < Int.toNat _; rw [HRM.out, Int.toNat_natCast]; exact hl) ht hr hyi)
             have HM5 := Lib.hid (hMT.grow [(p0, p1, p2)] [E.now])
             have dX1 : ((X : Int) == (pn : Int)) = false := by simp; omega
             have dX2 : decide ((X : Int) = (pn : Int)) = false := decide_eq_false (by omega)
             have dX3 : decide (X = pn) = false := decide_eq_false (by omega)
             have dX4 : (X == pn) = false := by simp; omega
             obtain ⟨dn, hdn⟩ : ∃ dn, s.drp + 1 = dn := ⟨_, rfl⟩
             have e1 : IntKind.i64.wrap ((s.drp : Int) + 1) = (dn : Int) := by rw [IntKind.wrap_i64]; have := HS1.out.le1; have := HS1.out.in1; have := HCC.out; omega
             have HDN := Lib.hid hdn
             clear hr4 hLl hsl hrm1 hl ht hmt hT hMT hXP hXA hTl hXn hln hpr hr hyi hdn
             go_upto_region 18 with fail
             refine wp_region_held_drew (S := fun w' => Upd Nowhere w4 w' ∧ w'.cell? ⟨b, 0, none⟩ = some (.slice al4 ln cl4) ∧ w'.cell? ⟨PC, 0, none⟩ = some (.int .i64 (rm : Nat))) (by kernel_rfl) ⟨(Upd.refl _ _).drew, b4, v0'⟩ (fun hHeld => ?_)
             refine tkq 0 ?_
             refine tkq 1 ?_
             refine tkq 2 ?_
             refine tkq 3 ?_
             refine tkq 4 ?_
             refine tkq 5 ?_
             refine tkq 6 ?_
             refine tkq 7 ?_
             refine rdq 8 fun K9 hK => ?_
             go_simp
             refine (HSQ _ hHeld.1).out.mono ?_
             rintro x w5 ⟨v5, rfl, w6, u6, hMd⟩
             refine hK.out _ _ (by (try dsimp only); exact ⟨hHeld.1.trans (u6.trans hMd.2 (fun _ _ h => h)) (fun _ _ h => h), cell_old (u6.trans hMd.2 (fun _ _ h => h)) hHeld.2.1, cell_old (u6.trans hMd.2 (fun _ _ h => h)) hHeld.2.2⟩) (fun hHeld => ?_)
             clear hK K9
             refine tkq 9 ?_
             refine tkq 10 ?_
             refine tkq 11 ?_
             refine tkq 12 ?_
             refine tkq 13 ?_
             refine tkq 14 ?_
             refine tkq 15 ?_
             refine wpAnyH_done (by kernel_rfl) ?_ _
             have HU5 := Lib.hid hHeld.1
             have hB5 := HB4.out.kept HU5.out id
             have f0 := hB5.free 0
             have f15 := hB5.free 15
             have g0 : w5.cell? ⟨b, 0, none⟩ = some lv4 := hB5.cellAt rfl
             have g15 : w5.cell? ⟨b, 15, none⟩ = some (.int .i64 (s.drp : Nat)) := hB5.cellAt rfl
             obtain ⟨a5, c5, rfl⟩ := hMd.1.form
             obtain ⟨own', t1, t2⟩ := HR4.out.setLB (s' := { s with l := ins rank (p0, p1, p2, E.now, s.inn) t, bys := s.bys - y.2.2.1 + p2, drp := s.drp + 1 }) HQ.out (((Upd.refl _ _).drew).trans u6 (fun _ _ h => h)) hMd (((Upd.refl _ _).setOne 15 (.int .i64 (dn : Nat))).setOne 0 _) rfl rfl (fun lv gb hB => by simpa [HDN.out] using (hB.set 15 (.int .i64 (dn : Nat))).set 0 _)
             have T1 := Lib.hid t1
             have T2 := Lib.hid t2
             clear hB5 t1 t2 hHeld hMd u6
             go_wp2_with fail
             go_meet
             exact ⟨_, _, own', T1.out, HF4.out.trans T2.out, HPO.out, rfl, by rw [HW.out]; have h1 := HM5.out; rw [HW.out] at h1; exact h1.insw (HEN.out true)⟩
       | false =>
         have hn4 : ¬ x1 = 4 := of_decide_eq_false HB3.out
         have HPU := Lib.hid (Ref09.push_any HPR4.out (by have h1 := HMT.out.1; have h2 := HS1.out.len; have h3 := HF1.out.r2; dsimp only at h2 h3; omega) 0 (pn : Int))
         have HPA := Lib.hid (push_any_ (cf := ⟨x0, x1, x2, x3, x4, x5, x6, x7, x8, x9, x10, x11, x12, x13, x14, x15⟩) (now := E.now) (p0 := p0) (p1 := p1) (p2 := p2) HMAY.out hn4)
         have hw : wst ⟨x0, x1, x2, x3, x4, x5, x6, x7, x8, x9, x10, x11, x12, x13, x14, x15⟩ = false := decide_eq_false hn4
         have HW := Lib.hid hw
         have HL := Lib.hid (mayS_l HMAY.out)
         rw [HAL4.out] at HPU
         clear hn4 hw
         go_wp2_with fail
         refine (HPU.out).mono ?_
         rintro x w5 ⟨v5, rfl, hMd⟩
         have HU5 := Lib.hid hMd.2
         have hB5 := HB4.out.kept HU5.out id
         have f0 := hB5.free 0
         have g0 : w5.cell? ⟨b, 0, none⟩ = some lv4 := hB5.cellAt rfl
         obtain ⟨a5, c5, rfl⟩ := hMd.1.form
         obtain ⟨own', t1, t2⟩ := HR4.out.setLB (s' := { s2 with l := s.l ++ [(rank, (p0, p1, p2, E.now, s.inn))], bys := s.bys + p2, drp := s.drp }) HQ.out (Upd.refl _ _) hMd ((Upd.refl _ _).setOne 0 _) rfl rfl (fun lv gb hB => by rw [← HL.out.2.2.2]; simpa using hB.set 0 _)
         have T1 := Lib.hid t1
         have T2 := Lib.hid t2
         clear hB5 t1 t2 hMd
         go_wp2_with fail
         go_meet
         exact ⟨_, _, own', T1.out, HF4.out.trans T2.out, HPA.out, HL.out.2.1, by rw [HW.out]; have h1 := HMTG.out; rw [HW.out] at h1; exact h1.ins0 (HEN.out false)⟩
      case rest =>
      obtain ⟨L', s3, own3, hR, hFo, hps, hin, hmt⟩ := hcut
      obtain ⟨w5, rfl⟩ : ∃ x, x = wc := ⟨_, rfl⟩
      have h9 := HPS.out
      rw [hps] at h9
      obtain ⟨rfl, rfl⟩ := Prod.mk.inj h9
      obtain rfl : R.P ++ [(p0, p1, p2)] = PP := by simpa using HPP.out
      obtain rfl : R.A ++ [E.now] = AA := by simpa using HAA.out
      have HR5 := Lib.hid hR
      have HF5 := Lib.hid hFo
      have HIN := Lib.hid hin
      have HMT5 := Lib.hid hmt
      have HPB5 := Lib.hid (hFo.blk HPB2.out HNP.out)
      obtain ⟨q0, q1, q2, -⟩ := cells3 HPB5.out
      have HNE : Hid ((Value.slice ap pn cp).ownBlock ≠ some m ∧ (Value.slice ap pn cp).ownBlock ≠ some PB) := Lib.hid (by have h8 := hR.offs; dsimp only at h8; rw [HPV.out] at h8; exact ⟨h8.1, fun e9 => hFo.off HNP.out HPB2.out.lt (h8.2.2.1 _ e9)⟩)
      obtain ⟨-, hM5, -⟩ := hR.blk
      have d4 : w5.cell? ⟨m, 4, none⟩ = some (.slice ap pn cp) := by rw [← HPV.out]; exact hM5.cellAt rfl
      have z4 := hM5.free 4
      have hne : ¬ PB = m := fun e9 => HNP.out (by rw [e9]; exact HRF.out.blk.1)
      have HROW : Hid (w5.ownsRow 0 TP 3 (.slice ap pn cp) pn (pks R.P)) := Lib.hid (by have h8 := hR.rows.1; dsimp only at h8; rw [HPV.out, HPN.out] at h8; exact h8)
      obtain ⟨i0, hi0, hz0, hz1, hz2⟩ := info_parts infoP
      obtain ⟨i1, hi1, hy0, hy1, hy2⟩ := info_parts infoU
      have hpn9 : pn ≤ 999999999 := by rw [← HPN.out]; exact HPC.out
      clear hR hFo hin hmt h9 hps hM5 v0 v1 b4
      go_upto_region 25 with fail
      go_cut [] (fun wc => ∃ pv5 own5, RfP wc own5 m (.slice (some ⟨g, o', none⟩) n cc) pv E.pace { R with q := R.q.set i (b, ⟨x0, x1, x2, x3, x4, x5, x6, x7, x8, x9, x10, x11, x12, x13, x14, x15⟩, s3, L'), pv := pv5, P := R.P ++ [(p0, p1, p2)] } ∧ Fol w2 own wc own5)
      case first =>
       as_aux_lemma =>
       refine wp_region_held_drew (S := fun w' => w'.cell? ⟨PB, 0, none⟩ = some (.int .u32 p0) ∧ w'.cell? ⟨PB, 1, none⟩ = some (.int .u32 p1) ∧ w'.cell? ⟨PB, 2, none⟩ = some (.int .u64 p2)) (by kernel_rfl) ⟨q0, q1, q2⟩ (fun hHeld => ?_)
       have ny0 : ∀ j v, [Value.int .u32 p0, .int .u32 p1, .int .u64 p2][j]? = some v → (w5.alloc (.cells #[.int .u32 p0, .int .u32 p1, .int .u64 p2] TP)).cell? ⟨w5.heap.size, j, none⟩ = some v := new_cells w5 #[.int .u32 p0, .int .u32 p1, .int .u64 p2] TP
       have ny1 : ∀ j v, [Value.int .u32 p0, .int .u32 p1, .int .u64 p2][j]? = some v → (w5.alloc (.cells #[.int .u32 p0, .int .u32 p1, .int .u64 p2] TP)).drew.cell? ⟨w5.heap.size, j, none⟩ = some v := ny0
       have ny2 : ∀ j v, [Value.int .u32 p0, .int .u32 p1, .int .u64 p2][j]? = some v → (w5.drew.alloc (.cells #[.int .u32 p0, .int .u32 p1, .int .u64 p2] TP)).cell? ⟨w5.heap.size, j, none⟩ = some v := ny0
       have d4a : (w5.alloc (.cells #[.int .u32 p0, .int .u32 p1, .int .u64 p2] TP)).cell? ⟨m, 4, none⟩ = some (.slice ap pn cp) := cell_old ((Upd.refl Nowhere w5).alloc _) d4
       refine tkq 0 ?_
       refine tkq 1 ?_
       refine tkq 2 ?_
       refine tkq 3 ?_
       refine tkq 5 ?_
       refine wpAnyH_ready (rs := [4, 6]) (by kernel_rfl) (by simp) ?_
       refine AllReadyH.cons (by simp only [List.getElem?_toArray, List.getElem?_cons_zero, List.getElem?_cons_succ]; rfl) (fun K hK => ?_) (AllReadyH.cons (by simp only [List.getElem?_toArray, List.getElem?_cons_zero, List.getElem?_cons_succ]; rfl) (fun K hK => ?_) AllReadyH.nil)
       focus
        go_simp
        refine hK.out _ _ (by (try dsimp only); exact hHeld) (fun hHeld => ?_)
        clear hK K
        refine rdq 6 fun K hK => ?_
        go_simp
        refine hK.out _ _ (by (try dsimp only); exact ka3 hHeld ((Upd.refl _ _).alloc _)) (fun hHeld => ?_)
        clear hK K
       rotate_left 1
       focus
        go_simp
        refine hK.out _ _ (by (try dsimp only); exact ka3 hHeld ((Upd.refl _ _).alloc _)) (fun hHeld => ?_)
        clear hK K
        refine rdq 4 fun K hK => ?_
        go_simp
        refine hK.out _ _ (by (try dsimp only); exact hHeld) (fun hHeld => ?_)
        clear hK K
       all_goals
        refine rdq 7 fun K hK => ?_
        (refine step_push rfl _ _ 130 rfl 0 TP i0 (.agg #[.int .u32 0, .int .u32 0, .int .u64 0]) 3 16 Tryz.underlying130 hi0 hz0 hz1 hz2 rfl (by decide) (by decide) (.slice ap pn cp) pn (pks R.P) rfl (ownsRow_upd HROW.out (S := Nowhere) (by repeat (first | with_reducible exact Upd.refl _ _ | with_reducible refine Upd.drew ?_ | with_reducible refine Upd.alloc ?_ _)) (fun _ _ h => h)) w5.heap.size 1 [.int .u32 p0, .int .u32 p1, .int .u64 p2] rfl rfl (by with_reducible first | exact ny0 | exact ny1 | exact ny2) (by simp [Value.oneCell']) hpn9 (Nat.zero_le _) ?_; intro v6 w6 ho6 hu6 hn6; obtain ⟨a6, c6, rfl⟩ := row_form ho6; obtain ⟨own6, t1, t2⟩ := HR5.out.setP (p := (p0, p1, p2)) HPV.out HPN.out ho6 hu6 hn6 (by repeat (first | with_reducible exact Upd.refl _ _ | with_reducible refine Upd.drew ?_ | with_reducible refine Upd.alloc ?_ _)); have T1 := Lib.hid t1; have T2 := Lib.hid t2; obtain ⟨y6, f6⟩ := coff (S := fun k => (Value.slice ap pn cp).ownBlock = some k) (w := w5) (b := m) (j := 4) (by repeat (first | with_reducible exact Upd.refl _ _ | with_reducible refine Upd.drew ?_ | with_reducible refine Upd.alloc ?_ _)) hu6 HNE.out.1 d4 z4; have HS6 : Hid (w6.cell? ⟨PB, 0, none⟩ = some (.int .u32 p0) ∧ w6.cell? ⟨PB, 1, none⟩ = some (.int .u32 p1) ∧ w6.cell? ⟨PB, 2, none⟩ = some (.int .u64 p2)) := Lib.hid ⟨(coff (w := w5) (b := PB) (by repeat (first | with_reducible exact Upd.refl _ _ | with_reducible refine Upd.drew ?_ | with_reducible refine Upd.alloc ?_ _)) hu6 HNE.out.2 q0 (HPB5.out.free 0)).1, (coff (w := w5) (b := PB) (by repeat (first | with_reducible exact Upd.refl _ _ | with_reducible refine Upd.drew ?_ | with_reducible refine Upd.alloc ?_ _)) hu6 HNE.out.2 q1 (HPB5.out.free 1)).1, (coff (w := w5) (b := PB) (by repeat (first | with_reducible exact Upd.refl _ _ | with_reducible refine Upd.drew ?_ | with_reducible refine Upd.alloc ?_ _)) hu6 HNE.out.2 q2 (HPB5.out.free 2)).1⟩; clear ho6 hu6 hn6 t1 t2)
        refine hK.out _ _ (by (try dsimp only); exact HS6.out) (fun hHeld => ?_)
        clear hK K
        refine tkq 8 ?_
        refine tkq 9 ?_
        refine rdq 10 fun K hK => ?_
        go_simp
        refine hK.out _ _ (by (try dsimp only); exact ks3 hHeld hne hne hne) (fun hHeld => ?_)
        clear hK K
        refine wpAnyH_done (by kernel_rfl) ?_ _
       all_goals
        go_wp2_with fail
        go_meet
        first
         | exact ⟨_, _, by with_reducible exact T1.out, HF5.out.trans T2.out⟩
         | exact ⟨_, _, by with_reducible exact T1.out.old (Upd.refl _ _).drew, (HF5.out.trans T2.out).old (Upd.refl _ _).drew⟩
      case rest =>
      obtain ⟨pv5, own5, hR, hFo⟩ := hcut
      obtain ⟨w6, rfl⟩ : ∃ x, x = wc := ⟨_, rfl⟩
      have HR6 := Lib.hid hR
      have HF6 := Lib.hid hFo
      obtain ⟨-, hM6, -, -, ⟨aa, ca, hav⟩, -⟩ := hR.blk
      have han : R.A.length = pn := by rw [← HCO.out.pa]; exact HPN.out
      dsimp only at hav
      rw [han] at hav
      have HAN := Lib.hid han
      have HAV := Lib.hid hav
      have d5 : w6.cell? ⟨m, 5, none⟩ = some (.slice aa pn ca) := by rw [← hav]; exact hM6.cellAt rfl
      have z5 := hM6.free 5
      have d6 : w6.cell? ⟨m, 6, none⟩ = some (.int .u64 (E.now : Nat)) := by rw [← HCO.out.now]; exact hM6.cellAt rfl
      have z6 := hM6.free 6
      have HROW2 : Hid (w6.ownsRow 0 TU 1 (.slice aa pn ca) pn (n64 R.A)) := Lib.hid (by have h8 := hR.rows.2; dsimp only at h8; rw [hav, han] at h8; exact h8)
      have HNE2 : Hid ((Value.slice aa pn ca).ownBlock ≠ some m) := Lib.hid (by have h8 := hR.offs; dsimp only at h8; rw [hav] at h8; exact h8.2.1)
      have hn56 : (⟨m, 5, none⟩ : Addr) ≠ ⟨m, 6, none⟩ := by simp
      clear hR hFo hM6 hav han q0 q1 q2 d4 z4 hne hi0 hz0 hz1 hz2 HROW HNE HPB5
      go_upto_region 26 with fail
      go_cut [] (fun wc => ∃ av5 own5, RfP wc own5 m (.slice (some ⟨g, o', none⟩) n cc) pv E.pace { R with q := R.q.set i (b, ⟨x0, x1, x2, x3, x4, x5, x6, x7, x8, x9, x10, x11, x12, x13, x14, x15⟩, s3, L'), pv := pv5, P := R.P ++ [(p0, p1, p2)], av := av5, A := R.A ++ [E.now] } ∧ Fol w2 own wc own5)
      case first =>
       as_aux_lemma =>
       refine wp_region_held_drew (S := fun w' => w'.cell? ⟨m, 6, none⟩ = some (.int .u64 (E.now : Nat))) (by kernel_rfl) d6 (fun hHeld => ?_)
       have ny0 : ∀ j v, [Value.int .u64 (E.now : Nat)][j]? = some v → (w6.alloc (.cells #[.int .u64 (E.now : Nat)] TU)).cell? ⟨w6.heap.size, j, none⟩ = some v := new_cells w6 #[.int .u64 (E.now : Nat)] TU
       have ny1 : ∀ j v, [Value.int .u64 (E.now : Nat)][j]? = some v → (w6.alloc (.cells #[.int .u64 (E.now : Nat)] TU)).drew.cell? ⟨w6.heap.size, j, none⟩ = some v := ny0
       have ny2 : ∀ j v, [Value.int .u64 (E.now : Nat)][j]? = some v → (w6.drew.alloc (.cells #[.int .u64 (E.now : Nat)] TU)).cell? ⟨w6.heap.size, j, none⟩ = some v := ny0
       have d5a : (w6.alloc (.cells #[.int .u64 (E.now : Nat)] TU)).cell? ⟨m, 5, none⟩ = some (.slice aa pn ca) := cell_old ((Upd.refl Nowhere w6).alloc _) d5
       refine tkq 0 ?_
       refine tkq 1 ?_
       refine tkq 2 ?_
       refine tkq 3 ?_
       refine tkq 5 ?_
       refine tkq 6 ?_
       refine tkq 7 ?_
       refine tkq 8 ?_
       refine wpAnyH_ready (rs := [4, 9]) (by kernel_rfl) (by simp) ?_
       refine AllReadyH.cons (by simp only [List.getElem?_toArray, List.getElem?_cons_zero, List.getElem?_cons_succ]; rfl) (fun K hK => ?_) (AllReadyH.cons (by simp only [List.getElem?_toArray, List.getElem?_cons_zero, List.getElem?_cons_succ]; rfl) (fun K hK => ?_) AllReadyH.nil)
       focus
        go_simp
        refine hK.out _ _ (by (try dsimp only); exact hHeld) (fun hHeld => ?_)
        clear hK K
        refine rdq 9 fun K hK => ?_
        go_simp
        refine hK.out _ _ (by (try dsimp only); exact cell_old ((Upd.refl _ _).alloc _) hHeld) (fun hHeld => ?_)
        clear hK K
       rotate_left 1
       focus
        go_simp
        refine hK.out _ _ (by (try dsimp only); exact cell_old ((Upd.refl _ _).alloc _) hHeld) (fun hHeld => ?_)
        clear hK K
        refine rdq 4 fun K hK => ?_
        go_simp
        refine hK.out _ _ (by (try dsimp only); exact hHeld) (fun hHeld => ?_)
        clear hK K
       all_goals
        refine rdq 10 fun K hK => ?_
        (refine step_push rfl _ _ 131 rfl 0 TU i1 (.int .u64 0) 1 8 Tryz.underlying131 hi1 hy0 hy1 hy2 rfl (by decide) (by decide) (.slice aa pn ca) pn (n64 R.A) rfl (ownsRow_upd HROW2.out (S := Nowhere) (by repeat (first | with_reducible exact Upd.refl _ _ | with_reducible refine Upd.drew ?_ | with_reducible refine Upd.alloc ?_ _)) (fun _ _ h => h)) w6.heap.size 1 [.int .u64 (E.now : Nat)] rfl rfl (by with_reducible first | exact ny0 | exact ny1 | exact ny2) (by simp [Value.oneCell']) hpn9 (Nat.zero_le _) ?_; intro v6 w7 ho6 hu6 hn6; obtain ⟨a6, c6, rfl⟩ := row_form ho6; obtain ⟨own6, t1, t2⟩ := HR6.out.setA (t := E.now) HAV.out HAN.out ho6 hu6 hn6 (by repeat (first | with_reducible exact Upd.refl _ _ | with_reducible refine Upd.drew ?_ | with_reducible refine Upd.alloc ?_ _)); have T1 := Lib.hid t1; have T2 := Lib.hid t2; obtain ⟨y6, f6⟩ := coff (S := fun k => (Value.slice aa pn ca).ownBlock = some k) (w := w6) (b := m) (j := 5) (by repeat (first | with_reducible exact Upd.refl _ _ | with_reducible refine Upd.drew ?_ | with_reducible refine Upd.alloc ?_ _)) hu6 HNE2.out d5 z5; have HS6 : Hid (w7.cell? ⟨m, 6, none⟩ = some (.int .u64 (E.now : Nat))) := Lib.hid (coff (S := fun k => (Value.slice aa pn ca).ownBlock = some k) (w := w6) (b := m) (j := 6) (by repeat (first | with_reducible exact Upd.refl _ _ | with_reducible refine Upd.drew ?_ | with_reducible refine Upd.alloc ?_ _)) hu6 HNE2.out d6 z6).1; clear ho6 hu6 hn6 t1 t2)
        refine hK.out _ _ (by (try dsimp only); exact HS6.out) (fun hHeld => ?_)
        clear hK K
        refine tkq 11 ?_
        refine tkq 12 ?_
        refine rdq 13 fun K hK => ?_
        go_simp
        refine hK.out _ _ (by (try dsimp only); rw [World.cell?_setCell_other _ _ _ _ hn56]; exact hHeld) (fun hHeld => ?_)
        clear hK K
        refine wpAnyH_done (by kernel_rfl) ?_ _
       all_goals
        go_wp2_with fail
        go_meet
        first
         | exact ⟨_, _, by with_reducible exact T1.out, HF6.out.trans T2.out⟩
         | exact ⟨_, _, by with_reducible exact T1.out.old (Upd.refl _ _).drew, (HF6.out.trans T2.out).old (Upd.refl _ _).drew⟩
      case rest =>
      obtain ⟨av5, own6, hR, hFo⟩ := hcut
      obtain ⟨w7, rfl⟩ : ∃ x, x = wc := ⟨_, rfl⟩
      obtain ⟨lv7, gb7, hB7, -⟩ := RfP.cls hR (gset HQ.out)
      have g13 : w7.cell? ⟨b, 13, none⟩ = some (.int .i64 (s3.inn : Nat)) := hB7.cellAt rfl
      have f13 := hB7.free 13
      obtain ⟨jn, hjn⟩ : ∃ jn, s.inn + 1 = jn := ⟨_, rfl⟩
      have e1 : IntKind.i64.wrap ((s3.inn : Int) + 1) = (jn : Int) := by rw [IntKind.wrap_i64]; have := HIN.out; have := HS1.out.in1; have := HCC.out; omega
      obtain ⟨own7, t1, t2⟩ := RfP.setB2 (R := { R with pv := pv5, P := R.P ++ [(p0, p1, p2)], av := av5, A := R.A ++ [E.now] }) (s' := { s3 with inn := s.inn + 1 }) hR HQ.out (Upd.refl _ _) ((Upd.refl _ _).setOne 13 (.int .i64 (jn : Nat))) rfl rfl (fun lv gb hB => by simpa [hjn] using hB.set 13 (.int .i64 (jn : Nat)))
      have T1 := Lib.hid t1
      have T2 := Lib.hid t2
      have HF7 := Lib.hid hFo
      clear hR hFo hB7 t1 t2 hjn hn56 d5 d6 z5 z6
      go_wp2_with fail
      go_ret
      exact ⟨rfl, own7, _, T1.out, (((Fol.refl _ _).old HU2.out).trans HF7.out).trans T2.out, HCO.out.came HX.out HQ.out HMT5.out, rfl, rfl⟩
end Go.Proofs.YtdddfmdcjjbegaaGreat.R43
namespace Go.Proofs.YtdddfmdcjjbegaaGreat.R43
open Go.RowKit Go.Proofs BigFrame
open RingW (It)
open First (Cf VC)
open Egs (Cs Eg OkE OkS OkF TRk TRc TP ClsAt PlnAt pushE cfs cfs_at VP)
set_option maxHeartbeats 4000000
set_option maxRecDepth 1000000
set_option linter.unusedSimpArgs false
section
variable {w : World} {own : Nat → Prop} {m pace : Nat} {cv pv : Value} {R : Rf} {E : Eg}
theorem rpush_none (h : RfP w own m cv pv pace R) {i : Int} (hi : i < 0 ∨ (R.q.length : Int) ≤ i) (rank p0 p1 p2 : Nat) :
 Calls Tryz.prog 29 #[.pointer (some ⟨m, 0, none⟩), .int .i64 i, .int .u64 rank, VP p0 p1 p2] w fun x w' => x = .returned (.int .i64 7) ∧ Upd Nowhere w w' := by
 obtain ⟨_, hM, ⟨ac, cc, hsv⟩, _⟩ := h.blk
 have k3 : w.cell? ⟨m, 3, none⟩ = some R.sv := hM.cellAt rfl
 obtain ⟨N, hN⟩ : ∃ N, R.q.length = N := ⟨_, rfl⟩
 rw [hN] at hsv hi
 rw [hsv] at k3
 have k3' := cell_old ((Upd.refl Nowhere w).alloc (.cells #[.int .u32 p0, .int .u32 p1, .int .u64 p2] TP)) k3
 have hU := Lib.hid ((Upd.refl Nowhere w).alloc (.cells #[.int .u32 p0, .int .u32 p1, .int .u64 p2] TP))
 clear h hM hsv hN k3
 rcases Classical.em (i < 0) with h0 | h0
 · have d1 : decide (i < 0) = true := decide_eq_true h0
   clear h0 hi
   go_enter Tryz.func29, Tryz.ntmps29
   go_upto_region 1 with fail
   generalize w.alloc (.cells #[.int .u32 p0, .int .u32 p1, .int .u64 p2] TP) = wA at *
   go_wp2_with fail
   go_ret
   exact ⟨rfl, hU.out⟩
 · obtain ⟨n, rfl⟩ : ∃ n : Nat, i = n := ⟨i.toNat, by omega⟩
   have d1 : decide ((n : Int) < 0) = false := decide_eq_false (by omega)
   have d2 : decide ((n : Int) ≥ (N : Int)) = true := decide_eq_true (by omega)
   have d3 : decide ((N : Int) ≤ (n : Int)) = true := decide_eq_true (by omega)
   have d4 : decide (N ≤ n) = true := decide_eq_true (by omega)
   clear h0 hi
   go_enter Tryz.func29, Tryz.ntmps29
   go_upto_region 1 with fail
   generalize w.alloc (.cells #[.int .u32 p0, .int .u32 p1, .int .u64 p2] TP) = wA at *
   go_wp2_with fail
   go_ret
   exact ⟨rfl, hU.out⟩
theorem rpush_len (h : RfP w own m cv pv pace R) {i : Nat} (hi : i < R.q.length) (rank p0 p1 : Nat) {p2 : Nat} (hp : p2 = 0 ∨ 65535 < p2) :
 Calls Tryz.prog 29 #[.pointer (some ⟨m, 0, none⟩), .int .i64 i, .int .u64 rank, VP p0 p1 p2] w fun x w' => x = .returned (.int .i64 12) ∧ Upd Nowhere w w' := by
 obtain ⟨_, hM, ⟨ac, cc, hsv⟩, _⟩ := h.blk
 have k3 : w.cell? ⟨m, 3, none⟩ = some R.sv := hM.cellAt rfl
 obtain ⟨N, hN⟩ : ∃ N, R.q.length = N := ⟨_, rfl⟩
 rw [hN] at hsv hi
 rw [hsv] at k3
 have k3' := cell_old ((Upd.refl Nowhere w).alloc (.cells #[.int .u32 p0, .int .u32 p1, .int .u64 p2] TP)) k3
 have hU := Lib.hid ((Upd.refl Nowhere w).alloc (.cells #[.int .u32 p0, .int .u32 p1, .int .u64 p2] TP))
 have hPB : Blk (w.alloc (.cells #[.int .u32 p0, .int .u32 p1, .int .u64 p2] TP)) w.heap.size #[.int .u32 p0, .int .u32 p1, .int .u64 p2] TP := Blk.new _ _ _
 have d1 : decide ((i : Int) < 0) = false := decide_eq_false (by omega)
 have d2 : decide ((i : Int) ≥ (N : Int)) = false := decide_eq_false (by omega)
 have d3 : decide ((N : Int) ≤ (i : Int)) = false := decide_eq_false (by omega)
 have d4 : decide (N ≤ i) = false := decide_eq_false (by omega)
 clear h hM hsv hN k3 hi
 go_enter Tryz.func29, Tryz.ntmps29
 go_upto_region 1 with fail
 obtain ⟨PB, hPBe⟩ : ∃ PB, w.heap.size = PB := ⟨_, rfl⟩
 rw [hPBe] at hPB
 generalize w.alloc (.cells #[.int .u32 p0, .int .u32 p1, .int .u64 p2] TP) = wA at *
 try simp only [hPBe]
 obtain ⟨q0, q1, q2, -⟩ := cells3 hPB
 clear hPBe
 by_cases h0 : p2 = 0
 · subst h0
   clear hp
   go_wp2_with fail
   go_ret
   exact ⟨rfl, hU.out⟩
 · have h1 : 65535 < p2 := hp.resolve_left h0
   have e1 : decide (p2 < 1) = false := decide_eq_false (by omega)
   have e2 : decide (65535 < p2) = true := decide_eq_true h1
   have e3 : decide (p2 > 65535) = true := decide_eq_true h1
   have e4 : decide ((p2 : Int) < 1) = false := decide_eq_false (by omega)
   have e5 : decide ((65535 : Int) < (p2 : Int)) = true := decide_eq_true (by omega)
   have e6 : decide ((p2 : Int) > 65535) = true := decide_eq_true (by omega)
   clear h0 h1 hp
   go_wp2_with fail
   go_ret
   exact ⟨rfl, hU.out⟩
/-- Whatever comes. -/
theorem rpush_all {ad : Option Addr} {n cc c : Nat} {cs : List Cf} (h : RfP w own m (.slice ad n cc) pv E.pace R) (hC : ClsAt w ad cs) (hcs : cfs E = cs) (hn : cs.length = n) (hco : Cor E R) (hE : OkE E c) (hc : c < 1000000000) (hPc : R.P.length ≤ 999999999) (i : Int) (rank p0 p1 p2 : Nat) :
 Calls Tryz.prog 29 #[.pointer (some ⟨m, 0, none⟩), .int .i64 i, .int .u64 rank, VP p0 p1 p2] w fun x w' => x = .returned (.int .i64 ((pushE E i rank (p0, p1, p2)).1 : Nat)) ∧ ∃ own' R', RfP w' own' m (.slice ad n cc) pv E.pace R' ∧ Fol w own w' own' ∧ Cor (pushE E i rank (p0, p1, p2)).2 R' ∧
  R'.P = (if (pushE E i rank (p0, p1, p2)).1 = 0 then R.P ++ [(p0, p1, p2)] else R.P) ∧ R'.A = (if (pushE E i rank (p0, p1, p2)).1 = 0 then R.A ++ [E.now] else R.A) := by
 unfold pushE
 by_cases h1 : i < 0 ∨ (E.q.length : Int) ≤ i
 · rw [if_pos h1]
   refine (rpush_none h (by rw [hco.len]; exact h1) rank p0 p1 p2).mono ?_
   rintro x w' ⟨rfl, hu⟩
   exact ⟨rfl, own, R, h.old hu, (Fol.refl _ _).old hu, hco, rfl, rfl⟩
 · rw [if_neg h1]
   obtain ⟨j, rfl⟩ : ∃ j : Nat, i = j := ⟨i.toNat, by omega⟩
   have hj : j < E.q.length := by omega
   by_cases h2 : p2 = 0 ∨ 65535 < p2
   · rw [if_pos h2]
     refine (rpush_len h (i := j) (by rw [hco.len]; exact hj) rank p0 p1 h2).mono ?_
     rintro x w' ⟨rfl, hu⟩
     exact ⟨rfl, own, R, h.old hu, (Fol.refl _ _).old hu, hco, rfl, rfl⟩
   · rw [if_neg h2]
     obtain ⟨⟨k, cf, s⟩, hx⟩ : ∃ x, E.q[j]? = some x := ⟨E.q[j], by simp [hj]⟩
     rw [Int.toNat_natCast, hx]
     dsimp only
     exact rpush_ok h hC hn (by rw [← hcs]; exact cfs_at hx) hco hE hx hc hPc rank p0 p1 p2 (by omega) (by omega)
end
end Go.Proofs.YtdddfmdcjjbegaaGreat.R43

