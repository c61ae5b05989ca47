/- R43S, R43M, one behind the other. -/
import Derived.Test.YtdddfmdcjjbegaaGreatMrN3
import Derived.Test.YtdddfmdcjjbegaaGreatMeP
import Derived.Deep.LoopGhost
import Derived.Test.YtdddfmdcjjbegaaGreatMrP
import Derived.Test.YtdddfmdcjjbegaaGreatMeTk
namespace Go.Proofs.YtdddfmdcjjbegaaGreat.R43
open Go.RowKit Go.Proofs BigFrame
open RingW (It)
open First (Cf VC)
open Egs (Cs Eg OkE OkS OkF TRk TRc TP EgP egC VP hdI VN)
set_option maxHeartbeats 40000000
set_option maxRecDepth 1000000
set_option linter.unusedSimpArgs false
theorem stands_any {w : World} {o1 o2 : Nat → Prop} {e m c : Nat} {cv pv : Value} {E : Eg} {R : Rf} (h : EgP w o1 e E) (hR : RfP w o2 m cv pv E.pace R) (hco : Cor E R) (hE : OkE E c) :
 Calls Tryz.prog 32 #[.pointer (some ⟨e, 0, none⟩), .pointer (some ⟨m, 0, none⟩)] w fun x w' => x = .returned (.bool true) ∧ Upd Nowhere w w' := by
 have HWA := fun u (hu : Upd Nowhere w u) (i k : Nat) (cf : Cf) (s : Cs) (hx : E.q[i]? = some (k, cf, s)) => Lib.hid (Egs.waits_at ((egC e E).kp h hu (fun _ _ h => h)) hE.pl1 hx)
 have HHD := fun u (hu : Upd Nowhere w u) (i k : Nat) (cf : Cf) (s : Cs) (hx : E.q[i]? = some (k, cf, s)) => Lib.hid (Egs.head_at ((egC e E).kp h hu (fun _ _ h => h)) hE.pl1 hx)
 have HCT := fun u (hu : Upd Nowhere w u) (i k : Nat) (cf : Cf) (s : Cs) (hx : E.q[i]? = some (k, cf, s)) => Lib.hid (Egs.counts_at ((egC e E).kp h hu (fun _ _ h => h)) hE.pl1 hx)
 have HCR := fun u (hu : Upd Nowhere w u) (i k : Nat) (cf : Cf) (s : Cs) (hx : E.q[i]? = some (k, cf, s)) => Lib.hid (Egs.credit_at ((egC e E).kp h hu (fun _ _ h => h)) hE.pl1 hx)
 have HNW := fun u (hu : Upd Nowhere w u) => Lib.hid (Egs.now_at ((egC e E).kp h hu (fun _ _ h => h)) hE.pl1)
 have HBS := fun u (hu : Upd Nowhere w u) => Lib.hid (Egs.busy_at ((egC e E).kp h hu (fun _ _ h => h)) hE.pl1)
 have HBY := fun u (hu : Upd Nowhere w u) (i k : Nat) (cf : Cf) (s : Cs) (hx : E.q[i]? = some (k, cf, s)) => Lib.hid (bytes_any (hR.old hu) hco hE hx)
 obtain ⟨_, hM, ⟨ac, cc, hsv⟩, _⟩ := hR.blk
 obtain ⟨N, hN⟩ : ∃ N, R.q.length = N := ⟨_, rfl⟩
 rw [hN] at hsv
 have k3 : w.cell? ⟨m, 3, none⟩ = some (.slice ac N cc) := by rw [← hsv]; exact hM.cellAt rfl
 have hNE : E.q.length = N := by rw [← hco.len]; exact hN
 have hN8 : N ≤ 8 := by rw [← hNE]; exact hE.n2
 have HNE := Lib.hid hNE
 have HSV := Lib.hid hsv
 have HN := Lib.hid hN
 have HRF := Lib.hid hR
 have HCO := Lib.hid hco
 have HEE := Lib.hid hE
 have HMB := Lib.hid hM
 clear h hR hco hE hM hsv hN hNE
 go_enter Tryz.func32, Tryz.ntmps32
 go_upto_region 2 with fail
 clear k3
 go_loopg [5, 6, 7, 8, 9, 10, 16] (N + 1) (fun gk _ _ _ _ _ _ v16 wr => ∃ i : Nat, N - i < gk ∧ i ≤ N ∧ v16 = .int .i64 i ∧ Hid (Upd Nowhere w wr))
 case atStart => exact ⟨0, by omega, Nat.zero_le _, rfl, Lib.hid (Upd.refl _ _)⟩
 case round =>
  obtain ⟨i, hgk, hin, rfl, HU⟩ := hrel
  obtain ⟨wB, rfl⟩ : ∃ x, x = wr := ⟨_, rfl⟩
  have HGK := Lib.hid hgk
  clear hgk
  rcases Nat.lt_or_ge i N with hlt | hge
  · obtain ⟨⟨k, cf, s⟩, hx⟩ : ∃ x, E.q[i]? = some x := ⟨E.q[i]'(by have := HNE.out; omega), by simp⟩
    have hs := (HEE.out.q _ (List.mem_of_getElem? hx)).2
    dsimp only at hs
    obtain ⟨b, L, hq, hLl, hL⟩ := HCO.out.q i k cf s hx
    obtain ⟨lv, gb, hB, hPR, _⟩ := HRF.out.cls hq
    obtain ⟨_, _, _, ⟨pa, pc, hpv⟩, _, hS, hPk, _⟩ := HRF.out.blk
    obtain ⟨gs, css, hsv, hcell⟩ := hS i _ hq
    rw [HN.out, HSV.out] at hsv
    injection hsv with e1 e2 e3
    subst e1
    subst e3
    clear e2
    obtain ⟨al, cl, hlv⟩ := hPR.form
    have hcell' := cell_old HU.out hcell
    have hI : (i : Int) < N := by omega
    have HWA1 := fun u (hu : Upd Nowhere wB u) => HWA u (HU.out.trans hu (fun _ _ h => h)) i k cf s hx
    have HHD1 := fun u (hu : Upd Nowhere wB u) => HHD u (HU.out.trans hu (fun _ _ h => h)) i k cf s hx
    have HCT1 := fun u (hu : Upd Nowhere wB u) => HCT u (HU.out.trans hu (fun _ _ h => h)) i k cf s hx
    have HCR1 := fun u (hu : Upd Nowhere wB u) => HCR u (HU.out.trans hu (fun _ _ h => h)) i k cf s hx
    have HBY1 := fun u (hu : Upd Nowhere wB u) => HBY u (HU.out.trans hu (fun _ _ h => h)) i k cf s hx
    obtain ⟨ln, hln⟩ : ∃ ln, s.l.length = ln := ⟨_, rfl⟩
    obtain ⟨⟨h0, h1, h2, h3, h4⟩, hhd⟩ : ∃ y, hdI s.l = y := ⟨_, rfl⟩
    obtain ⟨ib, hib⟩ : ∃ ib, (!s.l.isEmpty) = ib := ⟨_, rfl⟩
    obtain ⟨by_, hby⟩ : ∃ x, s.bys = x := ⟨_, rfl⟩
    rw [hln] at HWA1
    rw [hhd, hib] at HHD1
    rw [hby] at HWA1 HBY1
    dsimp only at HHD1
    rw [hlv, hLl, hln] at hB
    have HBB := Lib.hid hB
    clear hcell hB hin hs
    go_upto_region 4 with fail
    go_wp2_with fail
    refine ((HWA1 _ (Upd.refl _ _)).out).mono ?_
    rintro x w3 ⟨rfl, u3⟩
    go_wp2_with fail
    refine ((HHD1 _ u3).out).mono ?_
    rintro x w4 ⟨rfl, u4⟩
    go_upto_region 6 with fail
    have hPX : Blk (w4.alloc (.cells #[.int .u32 h0, .int .u32 h1, .int .u64 h2] TP)) w4.heap.size #[.int .u32 h0, .int .u32 h1, .int .u64 h2] TP := Blk.new _ _ _
    have HU5 : Hid (Upd Nowhere wB (w4.alloc (.cells #[.int .u32 h0, .int .u32 h1, .int .u64 h2] TP))) := Lib.hid ((u3.trans u4 (fun _ _ h => h)).alloc _)
    generalize w4.alloc (.cells #[.int .u32 h0, .int .u32 h1, .int .u64 h2] TP) = w5 at *
    generalize w4.heap.size = PX at *
    have HPX := Lib.hid hPX
    have HUW := Lib.hid (HU.out.trans HU5.out (fun _ _ h => h))
    clear hPX u3 u4 hcell' HWA1 HHD1
    go_cut [81] (fun v81 wc => v81 = .bool false ∧ Upd Nowhere w5 wc)
    case first =>
     cases hl : s.l with
     | nil =>
       rw [hl] at hln hib hhd
       obtain rfl : ib = false := by rw [← hib]; rfl
       obtain ⟨rfl, rfl, rfl, -, -⟩ : h0 = 0 ∧ h1 = 0 ∧ h2 = 0 ∧ h3 = 0 ∧ h4 = 0 := by cases hhd; exact ⟨rfl, rfl, rfl, rfl, rfl⟩
       obtain rfl : ln = 0 := by rw [← hln]; rfl
       have HF : ∀ u, Upd Nowhere w5 u → u.cell? ⟨b, 0, none⟩ = some (.slice al (0 : Nat) cl) ∧ u.cell? ⟨PX, 0, none⟩ = some (.int .u32 0) ∧ u.cell? ⟨PX, 1, none⟩ = some (.int .u32 0) ∧ u.cell? ⟨PX, 2, none⟩ = some (.int .u64 0) := fun u hu => by
        obtain ⟨q0, q1, q2, -⟩ := cells3 (HPX.out.kept hu id)
        exact ⟨(HBB.out.kept (HUW.out.trans hu (fun _ _ h => h)) id).cellAt rfl, q0, q1, q2⟩
       have HFF := Lib.hid HF
       clear HF hl hhd hln hib
       refine wp_region_held_drew (S := fun w' => Upd Nowhere w5 w' ∧ w'.cell? ⟨b, 0, none⟩ = some (.slice al (0 : Nat) cl) ∧ w'.cell? ⟨PX, 0, none⟩ = some (.int .u32 0) ∧ w'.cell? ⟨PX, 1, none⟩ = some (.int .u32 0) ∧ w'.cell? ⟨PX, 2, none⟩ = some (.int .u64 0)) (by kernel_rfl) (gk_start HFF.out ((Upd.refl _ _).drew)) (fun hHeld => ?_)
       refine tkq 0 ?_
       refine tkq 1 ?_
       refine tkq 2 ?_
       refine tkq 3 ?_
       refine tkq 4 ?_
       refine tkq 5 ?_
       refine tkq 6 ?_
       refine tkq 7 ?_
       refine tkq 8 ?_
       refine tkq 9 ?_
       refine tkq 10 ?_
       refine rdq 11 fun K9 hK => ?_
       go_simp
       refine (HBY1 _ (HU5.out.trans hHeld.1 (fun _ _ h => h))).out.mono ?_
       rintro x w6 ⟨rfl, u6⟩
       refine hK.out _ _ (by (try dsimp only); exact gk_old HFF.out u6 hHeld) (fun hHeld => ?_)
       clear hK K9
       refine tkq 12 ?_
       refine tkq 13 ?_
       refine tkq 14 ?_
       refine tkq 15 ?_
       refine tkq 16 ?_
       refine tkq 17 ?_
       refine tkq 18 ?_
       refine tkq 19 ?_
       refine tkq 20 ?_
       refine tkq 21 ?_
       refine tkq 22 ?_
       refine skq 23 ?_
       refine skq 24 ?_
       refine skq 25 ?_
       refine skq 26 ?_
       refine skq 27 ?_
       refine skq 28 ?_
       refine skq 29 ?_
       refine skq 30 ?_
       refine skq 31 ?_
       refine skq 32 ?_
       refine skq 33 ?_
       refine skq 34 ?_
       refine skq 35 ?_
       refine skq 36 ?_
       refine skq 37 ?_
       refine tkq 38 ?_
       refine tkq 39 ?_
       refine tkq 40 ?_
       refine tkq 41 ?_
       refine tkq 42 ?_
       refine tkq 43 ?_
       refine tkq 44 ?_
       refine tkq 45 ?_
       refine tkq 46 ?_
       refine tkq 47 ?_
       refine tkq 48 ?_
       refine wpAnyH_done (by kernel_rfl) ?_ _
       go_wp2_with fail
       go_meet
       exact ⟨rfl, hHeld.1⟩
     | cons a t =>
       obtain ⟨r, ⟨y0, y1, y2, y3, y4⟩⟩ := a
       rw [hl] at hln hib hhd
       obtain rfl : ib = true := by rw [← hib]; rfl
       obtain ⟨rfl, rfl, rfl, -, -⟩ : y0 = h0 ∧ y1 = h1 ∧ y2 = h2 ∧ y3 = h3 ∧ y4 = h4 := by cases hhd; exact ⟨rfl, rfl, rfl, rfl, rfl⟩
       obtain ⟨X, e1, e2, _⟩ := hL 0 r (y0, y1, y2, y3, y4) (by rw [hl]; rfl)
       dsimp only at e2
       obtain ⟨gl, cc2, he, _, _, c1⟩ := hPR.cell e1
       rw [hlv] at he
       injection he with he1 he2 he3
       subst he1
       obtain ⟨gp, pc2, hpv2, p0, p1, p2⟩ := hPk X _ _ _ e2
       have hXl : X < R.P.length := by
        rcases Nat.lt_or_ge X R.P.length with h' | h'
        · exact h'
        · rw [List.getElem?_eq_none h'] at e2; cases e2
       obtain ⟨pn, hpn⟩ : ∃ pn, R.P.length = pn := ⟨_, rfl⟩
       rw [hpn] at hpv2 hXl
       have hX2 : (X : Int) < pn := by omega
       have hLp : 0 < ln := by rw [← hln, List.length_cons]; omega
       have hln0 : (0 : Int) < ln := by omega
       have d0 : decide ((ln : Int) > 0) = true := decide_eq_true hln0
       have d1 : decide ((0 : Int) < ln) = true := decide_eq_true hln0
       have d2 : decide (0 < ln) = true := decide_eq_true hLp
       rw [show 0 * 2 + 1 = 1 from rfl] at c1
       have hM4 : w.cell? ⟨m, 4, none⟩ = some R.pv := HMB.out.cellAt rfl
       rw [hpv2] at hM4
       have HF : ∀ u, Upd Nowhere w5 u → u.cell? ⟨b, 0, none⟩ = some (.slice (some ⟨gl, 0, none⟩) ln cl) ∧ u.cell? ⟨PX, 0, none⟩ = some (.int .u32 (y0 : Nat)) ∧ u.cell? ⟨PX, 1, none⟩ = some (.int .u32 (y1 : Nat)) ∧ u.cell? ⟨PX, 2, none⟩ = some (.int .u64 (y2 : Nat)) ∧ u.cell? ⟨m, 4, none⟩ = some (.slice (some ⟨gp, 0, none⟩) pn pc2) ∧ u.cell? ⟨gl, 1, none⟩ = some (.int .i64 (X : Nat)) ∧ u.cell? ⟨gp, X * 3, none⟩ = some (.int .u32 (y0 : Nat)) ∧ u.cell? ⟨gp, X * 3 + 1, none⟩ = some (.int .u32 (y1 : Nat)) ∧ u.cell? ⟨gp, X * 3 + 2, none⟩ = some (.int .u64 (y2 : Nat)) := fun u hu => by
        obtain ⟨q0, q1, q2, -⟩ := cells3 (HPX.out.kept hu id)
        have hu2 := HUW.out.trans hu (fun _ _ h => h)
        exact ⟨(HBB.out.kept hu2 id).cellAt rfl, q0, q1, q2, cell_old hu2 hM4, cell_old hu2 c1, cell_old hu2 p0, cell_old hu2 p1, cell_old hu2 p2⟩
       have HFF := Lib.hid HF
       clear HF hl hhd hln hib hL hPk hpv2 hpn hXl c1 p0 p1 p2 hM4 e1 e2
       refine wp_region_held_drew (S := fun w' => Upd Nowhere w5 w' ∧ w'.cell? ⟨b, 0, none⟩ = some (.slice (some ⟨gl, 0, none⟩) ln cl) ∧ w'.cell? ⟨PX, 0, none⟩ = some (.int .u32 (y0 : Nat)) ∧ w'.cell? ⟨PX, 1, none⟩ = some (.int .u32 (y1 : Nat)) ∧ w'.cell? ⟨PX, 2, none⟩ = some (.int .u64 (y2 : Nat)) ∧ w'.cell? ⟨m, 4, none⟩ = some (.slice (some ⟨gp, 0, none⟩) pn pc2) ∧ w'.cell? ⟨gl, 1, none⟩ = some (.int .i64 (X : Nat)) ∧ w'.cell? ⟨gp, X * 3, none⟩ = some (.int .u32 (y0 : Nat)) ∧ w'.cell? ⟨gp, X * 3 + 1, none⟩ = some (.int .u32 (y1 : Nat)) ∧ w'.cell? ⟨gp, X * 3 + 2, none⟩ = some (.int .u64 (y2 : Nat))) (by kernel_rfl) (gk_start HFF.out ((Upd.refl _ _).drew)) (fun hHeld => ?_)
       refine tkq 0 ?_
       refine tkq 1 ?_
       refine tkq 2 ?_
       refine tkq 3 ?_
       refine tkq 4 ?_
       refine tkq 5 ?_
       refine tkq 6 ?_
       refine tkq 7 ?_
       refine tkq 8 ?_
       refine tkq 9 ?_
       refine tkq 10 ?_
       refine rdq 11 fun K9 hK => ?_
       go_simp
       refine (HBY1 _ (HU5.out.trans hHeld.1 (fun _ _ h => h))).out.mono ?_
       rintro x w6 ⟨rfl, u6⟩
       refine hK.out _ _ (by (try dsimp only); exact gk_old HFF.out u6 hHeld) (fun hHeld => ?_)
       clear hK K9
       refine tkq 12 ?_
       refine tkq 13 ?_
       refine tkq 14 ?_
       refine tkq 15 ?_
       refine tkq 16 ?_
       refine tkq 17 ?_
       refine tkq 18 ?_
       refine tkq 19 ?_
       refine tkq 20 ?_
       refine tkq 21 ?_
       refine tkq 22 ?_
       refine tkq 23 ?_
       refine tkq 24 ?_
       refine tkq 25 ?_
       refine tkq 26 ?_
       refine tkq 27 ?_
       refine tkq 28 ?_
       refine tkq 29 ?_
       refine tkq 30 ?_
       refine tkq 31 ?_
       refine tkq 32 ?_
       refine tkq 33 ?_
       refine tkq 34 ?_
       refine tkq 35 ?_
       refine tkq 36 ?_
       refine tkq 37 ?_
       refine tkq 38 ?_
       refine tkq 39 ?_
       refine tkq 40 ?_
       refine tkq 41 ?_
       refine tkq 42 ?_
       refine tkq 43 ?_
       refine skq 44 ?_
       refine skq 45 ?_
       refine skq 46 ?_
       refine tkq 47 ?_
       refine tkq 48 ?_
       refine wpAnyH_done (by kernel_rfl) ?_ _
       go_wp2_with fail
       go_meet
       exact ⟨rfl, hHeld.1⟩
    case rest =>
    obtain ⟨rfl, hu6⟩ := hcut
    obtain ⟨w6, rfl⟩ : ∃ x, x = wc := ⟨_, rfl⟩
    have HU6 := Lib.hid (HU5.out.trans hu6 (fun _ _ h => h))
    have HF : ∀ u, Upd Nowhere w6 u → u.cell? ⟨b, 12, none⟩ = some (.int .i64 s.hv) ∧ u.cell? ⟨b, 13, none⟩ = some (.int .i64 (s.inn : Nat)) ∧ u.cell? ⟨b, 14, none⟩ = some (.int .i64 (s.left : Nat)) ∧ u.cell? ⟨b, 15, none⟩ = some (.int .i64 (s.drp : Nat)) := fun u hu => by
     have hb := HBB.out.kept ((HU.out.trans HU6.out (fun _ _ h => h)).trans hu (fun _ _ h => h)) id
     exact ⟨hb.cellAt rfl, hb.cellAt rfl, hb.cellAt rfl, hb.cellAt rfl⟩
    have HFF := Lib.hid HF
    clear HF hu6 HBY1 hL hPk
    go_upto_region 8 with fail
    go_cut [109] (fun v109 wc => v109 = .bool false ∧ Upd Nowhere w6 wc)
    case first =>
     refine wp_region_held_drew (S := fun w' => Upd Nowhere w6 w' ∧ w'.cell? ⟨b, 12, none⟩ = some (.int .i64 s.hv) ∧ w'.cell? ⟨b, 13, none⟩ = some (.int .i64 (s.inn : Nat)) ∧ w'.cell? ⟨b, 14, none⟩ = some (.int .i64 (s.left : Nat)) ∧ w'.cell? ⟨b, 15, none⟩ = some (.int .i64 (s.drp : Nat))) (by kernel_rfl) (gk_start HFF.out ((Upd.refl _ _).drew)) (fun hHeld => ?_)
     refine tkq 0 ?_
     refine tkq 1 ?_
     refine tkq 3 ?_
     refine tkq 4 ?_
     refine tkq 5 ?_
     refine tkq 6 ?_
     refine tkq 7 ?_
     refine tkq 8 ?_
     refine tkq 9 ?_
     refine tkq 10 ?_
     refine tkq 11 ?_
     refine tkq 12 ?_
     refine tkq 13 ?_
     refine tkq 14 ?_
     refine tkq 15 ?_
     refine rdq 2 fun K9 hK => ?_
     go_simp
     refine (HCT1 _ (HU6.out.trans hHeld.1 (fun _ _ h => h))).out.mono ?_
     rintro x w7 ⟨rfl, u7⟩
     refine hK.out _ _ (by (try dsimp only); exact gk_old HFF.out u7 hHeld) (fun hHeld => ?_)
     clear hK K9
     refine tkq 16 ?_
     refine tkq 17 ?_
     refine tkq 18 ?_
     refine tkq 19 ?_
     refine tkq 21 ?_
     refine tkq 22 ?_
     refine tkq 23 ?_
     refine tkq 24 ?_
     refine tkq 25 ?_
     refine rdq 20 fun K9 hK => ?_
     go_simp
     refine (HCR1 _ (HU6.out.trans hHeld.1 (fun _ _ h => h))).out.mono ?_
     rintro x w8 ⟨rfl, u8⟩
     refine hK.out _ _ (by (try dsimp only); exact gk_old HFF.out u8 hHeld) (fun hHeld => ?_)
     clear hK K9
     refine tkq 26 ?_
     refine tkq 27 ?_
     refine wpAnyH_done (by kernel_rfl) ?_ _
     go_wp2_with fail
     go_meet
     exact ⟨rfl, hHeld.1⟩
    case rest =>
    obtain ⟨rfl, hu7⟩ := hcut
    have HU7 := Lib.hid (HU.out.trans (HU6.out.trans hu7 (fun _ _ h => h)) (fun _ _ h => h))
    clear hu7
    go_wp2_with fail
    go_roundg (N - i)
    case rel => exact ⟨i + 1, by omega, by omega, rfl, HU7⟩
    case measure => have := HGK.out; omega
  · obtain rfl : i = N := by omega
    have dI : decide ((i : Int) < i) = false := by simp
    have HNW1 := fun u (hu : Upd Nowhere wB u) => HNW u (HU.out.trans hu (fun _ _ h => h))
    have HBS1 := fun u (hu : Upd Nowhere wB u) => HBS u (HU.out.trans hu (fun _ _ h => h))
    have HF : ∀ u, Upd Nowhere wB u → u.cell? ⟨m, 6, none⟩ = some (.int .u64 (E.now : Nat)) ∧ u.cell? ⟨m, 7, none⟩ = some (.int .u64 (E.busy : Nat)) := fun u hu => by
     have hb := HMB.out.kept (HU.out.trans hu (fun _ _ h => h)) id
     exact ⟨by rw [← HCO.out.now]; exact hb.cellAt rfl, by rw [← HCO.out.busy]; exact hb.cellAt rfl⟩
    have HFF := Lib.hid HF
    clear HF hin
    go_upto_region 11 with fail
    refine wp_region_held_drew (S := fun w' => Upd Nowhere wB w' ∧ w'.cell? ⟨m, 6, none⟩ = some (.int .u64 (E.now : Nat)) ∧ w'.cell? ⟨m, 7, none⟩ = some (.int .u64 (E.busy : Nat))) (by kernel_rfl) (gk_start HFF.out ((Upd.refl _ _).drew)) (fun hHeld => ?_)
    refine tkq 0 ?_
    refine tkq 2 ?_
    refine tkq 3 ?_
    refine tkq 4 ?_
    refine tkq 5 ?_
    refine rdq 1 fun K9 hK => ?_
    go_simp
    refine (HNW1 _ hHeld.1).out.mono ?_
    rintro x w6 ⟨rfl, rfl⟩
    refine hK.out _ _ (by (try dsimp only); exact hHeld) (fun hHeld => ?_)
    clear hK K9
    refine tkq 6 ?_
    refine tkq 7 ?_
    refine tkq 8 ?_
    refine tkq 10 ?_
    refine tkq 11 ?_
    refine tkq 12 ?_
    refine tkq 13 ?_
    refine rdq 9 fun K9 hK => ?_
    go_simp
    refine (HBS1 _ hHeld.1).out.mono ?_
    rintro x w7 ⟨rfl, rfl⟩
    refine hK.out _ _ (by (try dsimp only); exact hHeld) (fun hHeld => ?_)
    clear hK K9
    refine tkq 14 ?_
    refine tkq 15 ?_
    refine tkq 16 ?_
    refine wpAnyH_done (by kernel_rfl) ?_ _
    go_wp2_with fail
    go_ret
    exact ⟨rfl, HU.out.trans hHeld.1 (fun _ _ h => h)⟩
end Go.Proofs.YtdddfmdcjjbegaaGreat.R43
namespace Go.Proofs.YtdddfmdcjjbegaaGreat.R43
open Go.RowKit Go.Proofs BigFrame
open RingW (It)
open First (Cf VC)
open Egs (Cs Eg OkE OkS OkF TRk TRc TP ClsAt PlnAt pushE nextE tickE tickS cfs cfs_at cfs_len VP egC EgP)
set_option maxHeartbeats 4000000
set_option maxRecDepth 1000000
set_option linter.unusedSimpArgs false
section
variable {w0 w : World} {m e n cc pm cp pace c : Nat} {ad ap : Option Addr} {cv pv : Value} {R : Rf} {E : Eg} {l : List Comp} {cs : List Cf} {pl : List (Nat × Nat)}
theorem m_rf (h : Made w0 w (rfC m cv pv pace R :: l)) : ∃ o, RfP w o m cv pv pace R ∧ (∀ k, o k → w0.heap.size ≤ k) ∧ ∀ (w' : World) (o' : Nat → Prop) (R' : Rf), RfP w' o' m cv pv pace R' → Fol w o w' o' → Made w0 w' (rfC m cv pv pace R' :: l) := by
 obtain ⟨o, h1, h2, h3⟩ := Made.foc (rfC m cv pv pace R) l [] h
 exact ⟨o, h1, h2, fun w' o' R' hP hF => h3 w' o' (rfC m cv pv pace R') hP hF⟩
theorem up_new {o : Nat → Prop} {u : World} (h0 : Upd Nowhere w0 w) (ho : ∀ k, o k → w0.heap.size ≤ k) (hu : Upd o w u) : Upd Nowhere w0 u := h0.trans hu (fun k hk h9 => absurd hk (Nat.not_lt.2 (ho k h9)))
/-- The two of them at one time. -/
structure Bth (cs : List Cf) (pl : List (Nat × Nat)) (pace c : Nat) (E : Eg) (R : Rf) : Prop where
 ok : OkE E c
 cl : cfs E = cs
 pl : E.pl = pl
 pc : E.pace = pace
 co : Cor E R
theorem r_push (h : Made w0 w (rfC m (.slice ad n cc) (.slice ap pm cp) pace R :: l)) (hC : ClsAt w0 ad cs) (hn : cs.length = n) (hB : Bth cs pl pace c E R) (hc : c < 1000000000) (hPc : R.P.length ≤ 999999999) (i : Int) (rank p0 p1 p2 : Nat) :
 Calls Tryz.prog 29 #[.pointer (some ⟨m, 0, none⟩), .int .i64 i, .int .u64 rank, VP p0 p1 p2] w fun x w' => x = .returned (.int .i64 ((pushE E i rank (p0, p1, p2)).1 : Nat)) ∧ ∃ R', Made w0 w' (rfC m (.slice ad n cc) (.slice ap pm cp) pace R' :: l) ∧ Cor (pushE E i rank (p0, p1, p2)).2 R' ∧ R'.P.length ≤ R.P.length + 1 := by
 obtain ⟨o, h1, ho, h3⟩ := m_rf h
 have hpc := hB.pc
 subst hpc
 refine (rpush_all h1 (hC.old h.upd) hB.cl hn hB.co hB.ok hc hPc i rank p0 p1 p2).mono ?_
 rintro x w' ⟨rfl, own', R', h4, h5, h6, h7, _⟩
 refine ⟨rfl, R', h3 _ _ _ h4 h5, h6, ?_⟩
 rw [h7]
 split
 · rw [List.length_append]; exact Nat.le_refl _
 · exact Nat.le_succ _
theorem r_next (h : Made w0 w (rfC m (.slice ad n cc) (.slice ap pm cp) pace R :: l)) (hC : ClsAt w0 ad cs) (hP : PlnAt w0 ap pl) (hm : pl.length = pm) (hn : cs.length = n) (hB : Bth cs pl pace c E R) (hc : c < 1000000000) :
 Calls Tryz.prog 30 #[.pointer (some ⟨m, 0, none⟩)] w fun x w' => x = .returned (.tuple #[.int .i64 ((nextE E).1.1 : Nat), VP (nextE E).1.2.1.1 (nextE E).1.2.1.2.1 (nextE E).1.2.1.2.2, .int .i64 ((nextE E).1.2.2 : Nat)]) ∧ ∃ R', Made w0 w' (rfC m (.slice ad n cc) (.slice ap pm cp) pace R' :: l) ∧ Cor (nextE E).2 R' ∧ R'.P.length = R.P.length := by
 obtain ⟨o, h1, ho, h3⟩ := m_rf h
 obtain ⟨ok, cl, epl, epc, co⟩ := hB
 subst epc epl hm
 refine (rnext_any h1 (fun u hu => ⟨hC.old (up_new h.upd ho hu), hP.old (up_new h.upd ho hu)⟩) cl hn co ok hc).mono ?_
 rintro x w' ⟨rfl, own', q', b', h4, h5, h6⟩
 exact ⟨rfl, _, h3 _ _ _ h4 h5, h6, rfl⟩
theorem Cor.tick {t : Nat} (h : Cor E R) : Cor (tickE E t) { R with now := min (R.now + t) 18446744073709551615, q := R.q.map (tkR t) } := by
 refine ⟨by show min (R.now + t) _ = min (E.now + t) _; rw [h.now], h.busy, by show (R.q.map _).length = (E.q.map _).length; rw [List.length_map, List.length_map]; exact h.len, fun i k cf s' hx => ?_, h.pa⟩
 have hx' : (E.q.map _)[i]? = some (k, cf, s') := hx
 rw [List.getElem?_map] at hx'
 cases hq : E.q[i]? with
 | none => rw [hq] at hx'; cases hx'
 | some y =>
   obtain ⟨k2, cf2, s⟩ := y
   obtain ⟨b, L, h1, h2, h3⟩ := h.q i k2 cf2 s hq
   have hy := Egs.tickE_at (t := t) hq
   have hy' : (tickE E t).q[i]? = some (k, cf, s') := hx
   rw [hy] at hy'
   cases hy'
   refine ⟨b, L, ?_, h2, h3⟩
   show (R.q.map (tkR t))[i]? = _
   rw [List.getElem?_map, h1]
   show some (b, cf, _, L) = _
   unfold tickS
   rw [h2]
theorem r_tick {t : Nat} (h : Made w0 w (rfC m (.slice ad n cc) pv pace R :: l)) (hC : ClsAt w0 ad cs) (hn : cs.length = n) (hB : Bth cs pl pace c E R) (ht : t ≤ 18446744073709551615) :
 Calls Tryz.prog 31 #[.pointer (some ⟨m, 0, none⟩), .int .u64 t] w fun x w' => x = .returned (.tuple #[]) ∧ ∃ R', Made w0 w' (rfC m (.slice ad n cc) pv pace R' :: l) ∧ Cor (tickE E t) R' ∧ R'.P.length = R.P.length := by
 obtain ⟨o, h1, ho, h3⟩ := m_rf h
 have hEq : ∀ (i : Nat) x, R.q[i]? = some x → ∃ k s, E.q[i]? = some (k, x.2.1, s) ∧ x.2.2.1 = s := fun i x hx => by
  have hlt : i < E.q.length := by
   rw [← hB.co.len]
   rcases Nat.lt_or_ge i R.q.length with h' | h'
   · exact h'
   · rw [List.getElem?_eq_none h'] at hx; cases hx
  obtain ⟨⟨k, cf, s⟩, hq⟩ : ∃ y, E.q[i]? = some y := ⟨E.q[i], by simp [hlt]⟩
  obtain ⟨b, L, h4, _⟩ := hB.co.q i k cf s hq
  rw [hx] at h4
  cases h4
  exact ⟨k, s, hq, rfl⟩
 have hql : E.q.length = n := by have h4 := cfs_len E; rw [hB.cl, hn] at h4; exact h4.symm
 refine (rtick_any h1 (fun u hu => hC.old (up_new h.upd ho hu)) hn (by rw [hB.co.len]; exact hql) (fun i x hx => by
  obtain ⟨k, s, hq, _⟩ := hEq i x hx
  rw [← hB.cl]
  exact cfs_at hq) (by rw [← hql]; exact hB.ok.n2) (fun i x hx hcr => by
  obtain ⟨k, s, hq, e⟩ := hEq i x hx
  rw [e]
  exact (hB.ok.q _ (List.mem_of_getElem? hq)).2.hv1 hcr) (by rw [hB.co.now]; exact hB.ok.now) ht).mono ?_
 rintro x w' ⟨rfl, own', h4, h5⟩
 exact ⟨rfl, _, h3 _ _ _ h4 h5, hB.co.tick, rfl⟩
theorem r_stands (h : Made w0 w (egC e E :: rfC m cv pv pace R :: l)) (hB : Bth cs pl pace c E R) :
 Calls Tryz.prog 32 #[.pointer (some ⟨e, 0, none⟩), .pointer (some ⟨m, 0, none⟩)] w fun x w' => x = .returned (.bool true) ∧ Made w0 w' (egC e E :: rfC m cv pv pace R :: l) := by
 obtain ⟨o1, h1, _⟩ := Egs.m_eg h
 obtain ⟨o2, h2, _⟩ := m_rf (h.perm (List.Perm.swap _ _ _))
 have hpc := hB.pc
 subst hpc
 refine (stands_any h1 h2 hB.co hB.ok).mono ?_
 rintro x w' ⟨rfl, hu⟩
 exact ⟨rfl, h.old hu⟩
theorem cor_new {vc vp : Value} {Q : List (Nat × Cf × Cs)} (hQ : Q.map (fun x => x.2) = cs.map (fun c => (c, Egs.s0 c))) (hP : R.P = []) (hA : R.A = []) (hn : R.now = 0) (hb : R.busy = 0) (hq : R.q.map (fun x => x.2) = cs.map (fun c => (c, Egs.s0 c, []))) : Cor ⟨vc, vp, pl, pace, 0, 0, Q⟩ R := by
 refine ⟨hn, hb, ?_, fun i k cf s hx => ?_, by rw [hP, hA]; rfl⟩
 · have h1 := congrArg List.length hQ
   have h2 := congrArg List.length hq
   simp only [List.length_map] at h1 h2
   show R.q.length = Q.length
   rw [h1, h2]
 · have hx' : Q[i]? = some (k, cf, s) := hx
   have h1 : (Q.map (fun x => x.2))[i]? = some (cf, s) := by rw [List.getElem?_map, hx']; rfl
   rw [hQ, List.getElem?_map] at h1
   cases hc : cs[i]? with
   | none => rw [hc] at h1; cases h1
   | some c0 =>
     rw [hc] at h1
     cases h1
     have h2 : (R.q.map (fun x => x.2))[i]? = some (cf, Egs.s0 cf, []) := by rw [hq, List.getElem?_map, hc]; rfl
     rw [List.getElem?_map] at h2
     cases hr : R.q[i]? with
     | none => rw [hr] at h2; cases h2
     | some y =>
       obtain ⟨b, z⟩ := y
       rw [hr] at h2
       have h3 : z = (cf, Egs.s0 cf, []) := by injection h2
       subst h3
       exact ⟨b, [], rfl, rfl, fun t r x h => by cases h⟩
theorem m_add {w' : World} {C : Comp} (h : Made w0 w l) (h' : Made w w' [C]) : Made w0 w' (C :: l) := by
 obtain ⟨own, ⟨o, o', hC, _, _, he⟩, hk, hu⟩ := h'
 exact h.more hC (fun k hk' => hk k ((he k).2 (.inl hk'))) hu
theorem m_out (h : Made w0 w (egC e E :: l)) (hE : OkE E c) {i : Int} (hi : i < 0 ∨ (E.q.length : Int) ≤ i) :
 (Calls Tryz.prog 23 #[.pointer (some ⟨e, 0, none⟩), .int .i64 i] w fun x w' => x = .returned (.tuple #[.int .i64 0, .int .u64 0]) ∧ Upd Nowhere w w') ∧
 (Calls Tryz.prog 25 #[.pointer (some ⟨e, 0, none⟩), .int .i64 i] w fun x w' => x = .returned (.tuple #[VP 0 0 0, .bool false]) ∧ Upd Nowhere w w') ∧
 (Calls Tryz.prog 24 #[.pointer (some ⟨e, 0, none⟩), .int .i64 i] w fun x w' => x = .returned (Egs.VN 0 0 0) ∧ Upd Nowhere w w') ∧
 (Calls Tryz.prog 22 #[.pointer (some ⟨e, 0, none⟩), .int .i64 i] w fun x w' => x = .returned (.int .i64 0) ∧ Upd Nowhere w w') := by
 obtain ⟨o1, h1, _⟩ := Egs.m_eg h
 have HC := fun u (hu : Upd Nowhere w u) => Lib.hid (Egs.class_out h1 hE.pl1 hi u hu)
 exact ⟨Egs.waits_none HC, Egs.head_none HC, Egs.counts_none HC, Egs.credit_none HC⟩
end
end Go.Proofs.YtdddfmdcjjbegaaGreat.R43

