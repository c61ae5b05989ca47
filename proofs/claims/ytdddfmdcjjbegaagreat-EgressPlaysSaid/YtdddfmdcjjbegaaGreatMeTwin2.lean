/- Twin4, Twin5, Twin6, Twin7, one behind the other. -/
import Derived.Test.YtdddfmdcjjbegaaGreatMeTwin
import Derived.Deep.DeepCutAuto
import Derived.Deep.LoopGhost
import Derived.Test.YtdddfmdcjjbegaaGreatMeRing
import Derived.Deep.RegionLaw
namespace Go.Proofs.YtdddfmdcjjbegaaGreat.TwinW
open Go.RowKit Go.Proofs BigFrame Heap HeapW TwinL
open RingW (It KI)
set_option maxHeartbeats 4000000
set_option maxRecDepth 1000000
theorem sinkHigh_any {w : World} {b g n c came room : Nat} {l : List En} (h : HI w b (.slice (some ⟨g, 0, none⟩) n c) came room l) (h0 : 0 < n) :
 Calls Tryz.prog 156 #[.pointer (some ⟨b, 0, none⟩)] w fun e w' => e = .returned (.tuple #[]) ∧ HI w' b (.slice (some ⟨g, 0, none⟩) n c) came room (snkH l 0) ∧ Upd (fun q => q = g) w w' := by
 obtain ⟨R, hR⟩ : ∃ R, snkH l 0 = R := ⟨_, rfl⟩
 rw [hR]
 have hr2 := h.r2
 have hn : n ≤ 4096 := by have := h.le; have := h.len; omega
 have HR := Lib.hid hR
 have H0 := Lib.hid h
 clear hR h
 go_enter Tryz.func156, Tryz.ntmps156
 go_wp2_with fail
 go_loopg [2, 3, 4] (n + 1) (fun gk v2 _ _ wr => ∃ (p : Nat) (m : List En), n - p < gk ∧ v2 = .int .i64 p ∧ 2 * p < n ∧ Hid (snkH m p = R) ∧ HI wr b (.slice (some ⟨g, 0, none⟩) n c) came room m ∧ Upd (fun q => q = g) w wr)
 case atStart => exact ⟨0, l, by omega, rfl, by omega, HR, H0.out, Upd.refl _ _⟩
 case round =>
  obtain ⟨p, m, hgk, rfl, hp, HRi, hH, hu⟩ := hrel
  obtain ⟨wB, rfl⟩ : ∃ x, x = wr := ⟨_, rfl⟩
  have HGK := Lib.hid hgk
  have H1 := Lib.hid hH
  have HU := Lib.hid hu
  obtain ⟨c0, c1, c2, z0, z1, z2⟩ := cells3 hH.blk
  have hlen := hH.len
  have HLN := Lib.hid hlen
  clear hgk hH hu H0 HR
  obtain ⟨a, ha⟩ : ∃ a, 2 * p = a := ⟨_, rfl⟩
  obtain ⟨bb, hbb⟩ : ∃ bb, hi n p = bb := ⟨_, rfl⟩
  have t1 : a < n := by omega
  have t2 : bb < n := by rw [← hbb]; unfold hi; omega
  have HLA := fun u => Lib.hid (low_any ha (by omega) u)
  have HHB := fun (u : World) (hu : u.cell? ⟨b, 0, none⟩ = some (.slice (some ⟨g, 0, none⟩) n c)) => Lib.hid (high_any hu (by omega) hn hbb (by omega))
  obtain ⟨x, hx⟩ : ∃ x, m[bb]? = some x := ⟨m[bb]'(by omega), by simp⟩
  obtain ⟨y, hy⟩ : ∃ y, m[a]? = some y := ⟨m[a]'(by omega), by simp⟩
  obtain ⟨B, hB⟩ : ∃ B, ahdAt m bb a = B := ⟨_, rfl⟩
  have hxy : ahd x y = B := by rw [← hB, ahdAt_eq hx hy]
  have hne : B = true → bb ≠ a := fun hb e => by
   subst e
   rw [hx] at hy
   obtain rfl := Option.some.inj hy
   rw [ahd_self] at hxy
   rw [hb] at hxy; cases hxy
  have hpair : pairT m p = if B = true then swp m bb a else m := by unfold pairT; rw [← hlen, hbb, ha, hB]
  obtain ⟨m1, hm1⟩ : ∃ m1, pairT m p = m1 := ⟨_, rfl⟩
  rw [hm1] at hpair
  have HM1 := Lib.hid hm1
  have HPR := Lib.hid hpair
  have HNE := Lib.hid hne
  obtain ⟨x0, x1, xa, xb, xc, xd, xe⟩ := x
  obtain ⟨y0, y1, ya, yb, yc, yd, ye⟩ := y
  have HA := fun u => Lib.hid (ahead_any (x0, x1, xa, xb, xc, xd, xe) (y0, y1, ya, yb, yc, yd, ye) u)
  rw [hxy] at HA
  obtain ⟨k0, k1, k2, k3, k4, k5, k6⟩ := at7 (H1.out) hx
  obtain ⟨j0, j1, j2, j3, j4, j5, j6⟩ := at7 (H1.out) hy
  have s1 : (a : Int) < n := by omega
  have s2 : (bb : Int) < n := by omega
  have HAE := Lib.hid ha
  have HBE := Lib.hid hbb
  clear hx hy hlen ha hbb hB hxy hne hm1 hpair
  go_wp2_with fail
  refine ((HHB _ (by exact c0)).out).mono ?_
  rintro e w' ⟨rfl, rfl⟩
  go_wp2_with fail
  refine wp_region_tail 15 (by kernel_rfl) (by kernel_rfl) ?_
  simp only [List.take_succ_cons, List.take_zero, List.drop_succ_cons, List.drop_zero]
  repeat (go_big_quiet_step ((go_at_call 174; exact quiet_same (HLA _).out)))
  refine wpQuiet_nil ?_
  rintro _ ⟨nq, rfl⟩
  go_wp2_with fail
  refine ((HA _).out).mono ?_
  rintro e wC ⟨rfl, hC⟩
  have huC : Upd Nowhere wB wC := ((Upd.refl _ _).drewN nq).trans hC (fun _ _ h => h)
  have H2 := Lib.hid (H1.out.old huC)
  have HU2 := Lib.hid (HU.out.trans huC (fun _ _ h => h.elim))
  clear hC huC HA c0 c1 c2 z0 z1 z2 k0 k1 k2 k3 k4 k5 k6 j0 j1 j2 j3 j4 j5 j6 H1 HU
  go_wp2_with fail
  refine Stage.out ?_
  go_upto_if 23 with fail
  go_cut [] (fun wx => HI wx b (.slice (some ⟨g, 0, none⟩) n c) came room m1 ∧ Upd (fun q => q = g) w wx)
  case first =>
   have hpr := HPR.out
   cases B with
   | false =>
     rw [if_neg (by simp)] at hpr
     subst hpr
     go_wp2_with fail
     go_meet
     exact ⟨H2.out, HU2.out⟩
   | true =>
     rw [if_pos rfl] at hpr
     subst hpr
     have HS := Lib.hid (swap_any H2.out (HNE.out rfl) t2 t1)
     go_wp2_with fail
     refine ((HLA _).out).mono ?_
     rintro e w' ⟨rfl, rfl⟩
     go_wp2_with fail
     refine (HS.out).mono ?_
     rintro e wD ⟨rfl, hD, hD2⟩
     go_wp2_with fail
     go_meet
     exact ⟨hD, HU2.out.trans hD2 (fun _ _ h => h)⟩
  case rest =>
   obtain ⟨hH, hu⟩ := hcut
   obtain ⟨w3, rfl⟩ : ∃ x, x = wc := ⟨_, rfl⟩
   have H3 := Lib.hid hH
   have HU3 := Lib.hid hu
   obtain ⟨c0, c1, c2, z0, z1, z2⟩ := cells3 hH.blk
   have hlen3 := hH.len
   have HLN3 := Lib.hid hlen3
   clear hH hu H2 HU2 HNE HPR hlen3
   obtain ⟨q, hq⟩ : ∃ q, 2 * p + 1 = q := ⟨_, rfl⟩
   have e1 : 2 * (p : Int) = (a : Int) := by have := HAE.out; omega
   have e1' : (a : Int) + 1 = (q : Int) := by have := HAE.out; omega
   obtain ⟨f, hf⟩ : ∃ f, 2 * q = f := ⟨_, rfl⟩
   have HLF := fun u => Lib.hid (low_any hf (by omega) u)
   have HQE := Lib.hid hq
   have HFE := Lib.hid hf
   rcases Nat.lt_or_ge f n with hlt | hge
   · have d0 : decide (n ≤ f) = false := by simp; omega
     obtain ⟨r, hr⟩ : ∃ r, q + 1 = r := ⟨_, rfl⟩
     have e2 : (q : Int) + 1 = (r : Int) := by omega
     obtain ⟨f2, hf2⟩ : ∃ f2, 2 * r = f2 := ⟨_, rfl⟩
     have HLF2 := fun u => Lib.hid (low_any hf2 (by omega) u)
     have HRE := Lib.hid hr
     have HF2E := Lib.hid hf2
     clear hr hq hf hf2
     go_upto_region 5 with fail
     go_quiet ((go_at_call 174; exact quiet_same (HLF _).out))
     have hu4 : Upd Nowhere w3 (w3.drewN nq) := (Upd.refl _ _).drewN nq
     generalize w3.drewN nq = w4 at *
     have H4 := Lib.hid (H3.out.old hu4)
     have HU4 := Lib.hid (HU3.out.trans hu4 (fun _ _ h => h.elim))
     clear hu4 c0 c1 c2 z0 z1 z2 H3 HU3
     obtain ⟨c0, c1, c2, z0, z1, z2⟩ := cells3 H4.out.blk
     go_upto_region 6 with fail
     obtain ⟨B2, hB2⟩ : ∃ B2, (decide (f2 < n) && ahdAt m1 (hi n q) (hi n r)) = B2 := ⟨_, rfl⟩
     have HB2 := Lib.hid hB2
     clear hB2
     go_cut [70] (fun tv wx => tv = .bool B2 ∧ HI wx b (.slice (some ⟨g, 0, none⟩) n c) came room m1 ∧ Upd (fun q => q = g) w wx)
     case first =>
      rcases Nat.lt_or_ge f2 n with hl2 | hg2
      · have d1 : decide (f2 < n) = true := decide_eq_true hl2
        have d2 : decide ((f2 : Int) < n) = true := decide_eq_true (by omega)
        obtain ⟨h1, hh1⟩ : ∃ h1, hi n q = h1 := ⟨_, rfl⟩
        obtain ⟨h2, hh2⟩ : ∃ h2, hi n r = h2 := ⟨_, rfl⟩
        have g1 : h1 < n := by rw [← hh1]; unfold hi; omega
        have g2 : h2 < n := by rw [← hh2]; unfold hi; omega
        have HHQ := fun (u : World) (hu : Upd Nowhere w4 u) => Lib.hid (high_any (cell_old hu c0) (by omega) hn hh1 (by omega))
        have HHR := fun (u : World) (hu : Upd Nowhere w4 u) => Lib.hid (high_any (cell_old hu c0) (by omega) hn hh2 (by omega))
        rw [hh1, hh2] at HB2
        clear hh1 hh2
        obtain ⟨x, hx⟩ : ∃ x, m1[h1]? = some x := ⟨m1[h1]'(by have := HLN3.out; omega), by simp⟩
        obtain ⟨y, hy⟩ : ∃ y, m1[h2]? = some y := ⟨m1[h2]'(by have := HLN3.out; omega), by simp⟩
        have hb : ahd x y = B2 := by rw [← HB2.out, d1, ahdAt_eq hx hy]; simp
        obtain ⟨x0, x1, xa, xb, xc, xd, xe⟩ := x
        obtain ⟨y0, y1, ya, yb, yc, yd, ye⟩ := y
        have HA := fun u => Lib.hid (ahead_any (x0, x1, xa, xb, xc, xd, xe) (y0, y1, ya, yb, yc, yd, ye) u)
        rw [hb] at HA
        obtain ⟨k0, k1, k2, k3, k4, k5, k6⟩ := at7 (H4.out) hx
        obtain ⟨j0, j1, j2, j3, j4, j5, j6⟩ := at7 (H4.out) hy
        have s3 : (h1 : Int) < n := by omega
        have s4 : (h2 : Int) < n := by omega
        clear hx hy hb
        refine wp_region_tail 29 (by kernel_rfl) (by kernel_rfl) ?_
        simp only [List.take_succ_cons, List.take_zero, List.drop_succ_cons, List.drop_zero]
        repeat (go_big_quiet_step ((first | (go_at_call 174; exact quiet_same (HLF2 _).out) | (go_at_call 172; first | with_reducible exact quiet_same (HHQ _ ((Upd.refl _ _).drewN _)).out | with_reducible exact quiet_same (HHR _ ((Upd.refl _ _).drewN _)).out))))
        refine wpQuiet_nil ?_
        rintro _ ⟨nq, rfl⟩
        go_wp2_with fail
        refine ((HA _).out).mono ?_
        rintro e wD ⟨rfl, hD⟩
        have huD : Upd Nowhere w4 wD := ((Upd.refl _ _).drewN nq).trans hD (fun _ _ h => h)
        go_wp2_with fail
        refine Stage.out ?_
        go_wp2_with fail
        go_meet
        exact ⟨rfl, H4.out.old huD, HU4.out.trans huD (fun _ _ h => h.elim)⟩
      · have d1 : decide (f2 < n) = false := by simp; omega
        have d2 : decide ((f2 : Int) < n) = false := by simp; omega
        have hb : B2 = false := by rw [← HB2.out, d1]; rfl
        subst hb
        go_quiet ((go_at_call 174; exact quiet_same (HLF2 _).out))
        go_wp2_with fail
        go_meet
        exact ⟨rfl, H4.out.old ((Upd.refl _ _).drewN _), HU4.out.drewN _⟩
     case rest =>
      obtain ⟨rfl, hH, hu⟩ := hcut
      obtain ⟨w5, rfl⟩ : ∃ x, x = wc := ⟨_, rfl⟩
      have H5 := Lib.hid hH
      have HU5 := Lib.hid hu
      clear hH hu H4 HU4 c0 c1 c2 z0 z1 z2
      obtain ⟨u, hu⟩ : ∃ u, (if B2 = true then r else q) = u := ⟨_, rfl⟩
      have hku : kidH m1 p = u := by
       rw [← hu]
       have e3 := HAE.out
       have e4 := HQE.out
       have e5 := HRE.out
       have e6 := HFE.out
       have e7 := HF2E.out
       unfold kidH
       rw [← HLN3.out, show 2 * p + 2 = r by omega, show 2 * p + 1 = q by omega, show 2 * r = f2 by omega]
       have e8 := HB2.out
       cases B2 with
       | true => simp at e8; rw [if_pos e8, if_pos rfl]
       | false =>
         have hn1 : ¬ (f2 < n ∧ ahdAt m1 (hi n q) (hi n r) = true) := by
          rintro ⟨h1, h2⟩
          rw [h2] at e8
          simp at e8
          omega
         rw [if_neg hn1, if_neg (by simp)]
      have HKU := Lib.hid hku
      have HUU := Lib.hid hu
      have hun : u = q ∨ u = r ∧ f2 < n := by
       rw [← hu]
       cases B2 with
       | true => exact .inr ⟨rfl, by have e8 := HB2.out; simp at e8; exact e8.1⟩
       | false => exact .inl rfl
      have hf2e := HF2E.out
      have hfe := HFE.out
      have hqe := HQE.out
      have hre := HRE.out
      have hu1 : 2 * u < n := by omega
      have hu2 : p < u := by omega
      have hu3 : u ≤ n := by omega
      clear hku hun hf2e hfe hqe hre
      go_upto_if 70 with fail
      go_cut [4] (fun tv wx => tv = .int .i64 u ∧ wx = w5)
      case first =>
       cases B2 with
       | true =>
         rw [if_pos rfl] at hu
         subst hu
         go_wp2_with fail
         go_meet
         exact ⟨rfl, rfl⟩
       | false =>
         rw [if_neg (by simp)] at hu
         subst hu
         go_wp2_with fail
         go_meet
         exact ⟨rfl, rfl⟩
      case rest =>
       obtain ⟨rfl, hwc⟩ := hcut
       obtain rfl : w5 = wc := hwc.symm
       clear hu HB2 HLF HLF2 hwc
       obtain ⟨c0, c1, c2, z0, z1, z2⟩ := cells3 H5.out.blk
       obtain ⟨s, hs⟩ : ∃ s, hi n u = s := ⟨_, rfl⟩
       have t3 : s < n := by rw [← hs]; unfold hi; omega
       have s5 : (s : Int) < n := by omega
       have HLS := fun (u : World) (hu : Upd Nowhere w5 u) => Lib.hid (high_any (cell_old hu c0) (by omega) hn hs (by omega))
       obtain ⟨x, hx⟩ : ∃ x, m1[bb]? = some x := ⟨m1[bb]'(by have := HLN3.out; omega), by simp⟩
       obtain ⟨y, hy⟩ : ∃ y, m1[s]? = some y := ⟨m1[s]'(by have := HLN3.out; omega), by simp⟩
       have hA : ahdAt m1 bb s = ahd x y := ahdAt_eq hx hy
       have hne2 : bb ≠ s := by have := HAE.out; have := HBE.out; unfold hi at *; omega
       have HNE2 := Lib.hid hne2
       have HAA := Lib.hid hA
       have HSE := Lib.hid hs
       obtain ⟨x0, x1, xa, xb, xc, xd, xe⟩ := x
       obtain ⟨y0, y1, ya, yb, yc, yd, ye⟩ := y
       have HA := fun u => Lib.hid (ahead_any (x0, x1, xa, xb, xc, xd, xe) (y0, y1, ya, yb, yc, yd, ye) u)
       obtain ⟨k0, k1, k2, k3, k4, k5, k6⟩ := at7 (H5.out) hx
       obtain ⟨j0, j1, j2, j3, j4, j5, j6⟩ := at7 (H5.out) hy
       clear hx hy hA hs hne2
       go_upto_region 8 with fail
       refine wp_region_tail 16 (by kernel_rfl) (by kernel_rfl) ?_
       simp only [List.take_succ_cons, List.take_zero, List.drop_succ_cons, List.drop_zero]
       repeat (go_big_quiet_step ((go_at_call 172; exact quiet_same (HLS _ ((Upd.refl _ _).drewN _)).out)))
       refine wpQuiet_nil ?_
       rintro _ ⟨nq, rfl⟩
       go_wp2_with fail
       refine ((HA _).out).mono ?_
       rintro e wD ⟨rfl, hD⟩
       have huD : Upd Nowhere w5 wD := ((Upd.refl _ _).drewN nq).trans hD (fun _ _ h => h)
       have H6 := Lib.hid (H5.out.old huD)
       have HU6 := Lib.hid (HU5.out.trans huD (fun _ _ h => h.elim))
       clear hD huD HA HLS c0 c1 c2 z0 z1 z2 k0 k1 k2 k3 k4 k5 k6 j0 j1 j2 j3 j4 j5 j6 H5 HU5
       obtain ⟨c0, c1, c2, z0, z1, z2⟩ := cells3 H6.out.blk
       cases hab : ahd (x0, x1, xa, xb, xc, xd, xe) (y0, y1, ya, yb, yc, yd, ye) with
       | true =>
         have hpn : 2 * (2 * p + 1) < m.length := by have h1 := HLN.out; have h2 := HQE.out; have h3 := HFE.out; omega
         have hup := snkH_step hpn HM1.out HKU.out (by rw [← HLN.out, HBE.out, HSE.out, HAA.out]; exact hab)
         rw [← HLN.out, HBE.out, HSE.out, HRi.out] at hup
         have HUP := Lib.hid hup
         have HS := Lib.hid (swap_any H6.out HNE2.out (by omega) (by omega))
         clear hup hab HAA hpn
         go_wp2_with fail
         refine Stage.out ?_
         go_wp2_with fail
         refine ((Lib.hid (high_any c0 (by omega) hn HSE.out (by omega))).out).mono ?_
         rintro e w' ⟨rfl, rfl⟩
         go_wp2_with fail
         refine (HS.out).mono ?_
         rintro e wE ⟨rfl, hD, hD2⟩
         have HD := Lib.hid hD
         have HUD := Lib.hid (HU6.out.trans hD2 (fun _ _ h => h))
         clear hD hD2 c0 c1 c2 z0 z1 z2
         go_wp2_with fail
         go_roundg (n - p)
         case rel => exact ⟨u, _, by omega, rfl, hu1, Lib.hid HUP.out.symm, HD.out, HUD.out⟩
         case measure => have := HGK.out; omega
       | false =>
         have hup := snkH_stop HM1.out HKU.out (by rw [← HLN.out, HBE.out, HSE.out, HAA.out]; exact hab)
         rw [HRi.out] at hup
         have HUP := Lib.hid hup
         clear hup hab HAA
         go_wp2_with fail
         refine Stage.out ?_
         go_wp2_with fail
         have e := HUP.out
         subst e
         exact bodyPost_ret (results_none rfl _ _ _) rfl ⟨rfl, H6.out, HU6.out⟩
   · have d0 : decide (n ≤ f) = true := decide_eq_true hge
     have hup := snkH_none (l := m) (p := p) (by rw [hq, hf, ← HLN.out]; omega)
     rw [HRi.out, HM1.out] at hup
     have HUP := Lib.hid hup
     clear hup hq hf
     go_upto_region 5 with fail
     go_quiet ((go_at_call 174; exact quiet_same (HLF _).out))
     have hu4 : Upd Nowhere w3 (w3.drewN nq) := (Upd.refl _ _).drewN nq
     generalize w3.drewN nq = w4 at *
     go_wp2_with fail
     have e := HUP.out
     subst e
     exact bodyPost_ret (results_none rfl _ _ _) rfl ⟨rfl, H3.out.old hu4, HU3.out.trans hu4 (fun _ _ h => h.elim)⟩
end Go.Proofs.YtdddfmdcjjbegaaGreat.TwinW
namespace Go.Proofs.YtdddfmdcjjbegaaGreat.TwinW
open Go.RowKit Go.Proofs BigFrame Heap HeapW TwinL
open RingW (It KI zI ZI VI TE)
set_option maxHeartbeats 4000000
set_option maxRecDepth 1000000
abbrev Z : Value := .agg zV
theorem infoE : (Tryz.prog.info? TN).map (fun i => (i.zero, i.size, i.bytes)) = some (some Z, 7, 48) := by kernel_rfl
/-- One more, in a row that took it. -/
theorem row_push {w : World} {v : Value} {l : List En} {n : Nat} (e : En) (hn : l.length + 1 = n) (h : w.ownsRow 0 TN 7 v n (ents KI l ++ ent KI e)) : Row KI 7 TN w v (l ++ [e]) := by
 have e1 : (l ++ [e]).length = n := by simpa using hn
 have e2 : ents KI (l ++ [e]) = ents KI l ++ ent KI e := by rw [ents_append, ents_one]
 unfold Row
 rw [e1, e2]
 exact h
theorem form7 {w : World} {v : Value} {n : Nat} {xs : List Value} (h : w.ownsRow 0 TN 7 v (n + 1) xs) : ∃ g c, v = .slice (some ⟨g, 0, none⟩) (n + 1) c := by
 rcases h.2 with ⟨_, h0⟩ | ⟨g, c, cur, rfl, _⟩
 · omega
 · exact ⟨g, c, rfl⟩
/-- What stands once an entry was laid behind the others. -/
structure Pushed (w0 w : World) (b : Nat) (v v' : Value) (came room : Nat) (l : List En) (e : En) : Prop where
 blk : Blk w b #[v, .int .u64 came, .int .i64 room] TT
 row : Row KI 7 TN w v' (l ++ [e])
 off : v'.ownBlock ≠ some b
 own : OwnOrNew w0 v v'
 upd : Upd (HeapOf b v) w0 w
theorem push_facts {w1 wx w6 : World} {b came room n : Nat} {v v6 : Value} {l : List En} (H : HI w1 b v came room l) (e : En)
 (hown : w6.ownsRow 0 TN 7 v6 (n + 1) (ents KI l ++ ent KI e)) (hu : Upd (fun k => v.ownBlock = some k) wx w6) (hn : OwnOrNew wx v v6) (hx : Upd Nowhere w1 wx) (hl : l.length = n) :
 Pushed w1 w6 b v v6 came room l e := by
 have hs := hx.size
 refine ⟨(H.blk.kept hx id).kept hu H.off, row_push e (by omega) hown, fun h => ?_, fun k hk => ?_, (hx.any _).trans hu (fun k _ hk => .inr hk)⟩
 · rcases hn b h with h1 | h1
   · exact H.off h1
   · have := H.blk.lt; omega
 · rcases hn k hk with h1 | h1
   · exact .inl h1
   · exact .inr (by omega)
theorem Pushed.heap {w0 w : World} {b came room : Nat} {v v' : Value} {l : List En} {e : En} (P : Pushed w0 w b v v' came room l e) (hl : l.length < room) (hr : room ≤ 4096) (d : Nat) :
 HI ((w.setCell ⟨b, 0, none⟩ v').setCell ⟨b, 1, none⟩ (.int .u64 d)) b v' d room (l ++ [e]) := by
 have hu : Upd (fun k => k = b) w ((w.setCell ⟨b, 0, none⟩ v').setCell ⟨b, 1, none⟩ (.int .u64 d)) := ((Upd.refl _ _).setCell (a := ⟨b, 0, none⟩) (S := fun k => k = b) (fun _ => rfl) _).setCell (a := ⟨b, 1, none⟩) (fun _ => rfl) _
 exact ⟨wid7, by simpa using (P.blk.set 0 v').set 1 (.int .u64 d), ownsRow_upd P.row hu (fun k hk e => P.off (by rw [hk, e])), by simp; omega, by omega, hr, P.off⟩
theorem push_room {w : World} {b came room : Nat} {v : Value} {l : List En} (h : HI w b v came room l) (hl : l.length < room) (hc : came < 18446744073709551615) (rank xa xb xc xd xe : Nat) :
 Calls Tryz.prog 166 #[.pointer (some ⟨b, 0, none⟩), .int .u64 rank, .agg #[.int .u32 xa, .int .u32 xb, .int .u64 xc, .int .u64 xd, .int .i64 xe]] w fun e w' => e = .returned (.bool true) ∧
  ∃ v', HI w' b v' (came + 1) room (pushT l (rank, came, xa, xb, xc, xd, xe)) ∧ OwnOrNew w v v' ∧ Upd (HeapOf b v) w w' := by
 obtain ⟨i0, hi, hz0, hz1, hz2⟩ := info_parts infoE
 obtain ⟨ad, cp, rfl⟩ := h.row.form
 obtain ⟨n, hn⟩ : ∃ n, l.length = n := ⟨_, rfl⟩
 obtain ⟨d, hd⟩ : ∃ d, came + 1 = d := ⟨_, rfl⟩
 obtain ⟨s, hs⟩ : ∃ s, n + 1 = s := ⟨_, rfl⟩
 have hrow : w.ownsRow 0 TN 7 (.slice ad l.length cp) l.length (ents KI l) := h.row
 have hr2 := h.r2
 rw [hd]
 rw [hn] at h hl hrow ⊢
 have e1 : IntKind.u64.wrap ((came : Int) + 1) = (d : Int) := by rw [IntKind.wrap_u64]; omega
 have e2 : (s : Int) - 1 = (n : Int) := by omega
 have d1 : decide (room ≤ n) = false := by simp; omega
 have hn9 : n ≤ 999999999 := by omega
 obtain ⟨c0, c1, c2, z0, z1, z2⟩ := cells3 (h.old ((Upd.refl _ w).alloc (.cells #[.int .u32 xa, .int .u32 xb, .int .u64 xc, .int .u64 xd, .int .i64 xe] TE))).blk
 have H0 := Lib.hid h
 have HROW := Lib.hid hrow
 have HN := Lib.hid hn
 have HD := Lib.hid hd
 have HS := Lib.hid hs
 have HL := Lib.hid hl
 clear h hn hd hs hc hrow hl
 go_enter Tryz.func166, Tryz.ntmps166
 go_wp2_with fail
 go_quiet (fail)
 go_wp2_with fail
 have hU1 : Upd Nowhere w ((w.alloc (.cells #[.int .u32 xa, .int .u32 xb, .int .u64 xc, .int .u64 xd, .int .i64 xe] TE)).drewN nq) := ((Upd.refl _ _).alloc _).drewN nq
 have hX : Blk ((w.alloc (.cells #[.int .u32 xa, .int .u32 xb, .int .u64 xc, .int .u64 xd, .int .i64 xe] TE)).drewN nq) w.heap.size #[.int .u32 xa, .int .u32 xb, .int .u64 xc, .int .u64 xd, .int .i64 xe] TE := (Blk.new w _ TE).drewN nq
 have HX := Lib.hid hX
 have H1 := Lib.hid (H0.out.old hU1)
 have HU1 := Lib.hid hU1
 have HROW1 := Lib.hid (ownsRow_upd HROW.out hU1 (fun _ _ h => h))
 have hsz : w.heap.size ≤ ((w.alloc (.cells #[.int .u32 xa, .int .u32 xb, .int .u64 xc, .int .u64 xd, .int .i64 xe] TE)).drewN nq).heap.size := hU1.size
 have HSZ := Lib.hid hsz
 clear hU1 hsz hX c0 c1 c2 z0 z1 z2 H0 HROW
 generalize (w.alloc (.cells #[.int .u32 xa, .int .u32 xb, .int .u64 xc, .int .u64 xd, .int .i64 xe] TE)).drewN nq = w1 at *
 obtain ⟨kx0, kx1, kx2, kx3, kx4, _, _, _, _, _⟩ := cells5 HX.out
 obtain ⟨c0, c1, c2, z0, z1, z2⟩ := cells3 H1.out.blk
 have a0 : (w1.alloc (.cells #[.int .u64 rank, .int .u64 came, .int .u32 xa, .int .u32 xb, .int .u64 xc, .int .u64 xd, .int .i64 xe] TN)).cell? ⟨b, 0, none⟩ = some (.slice ad n cp) := cell_old ((Upd.refl _ _).alloc _) c0
 go_region_law (refine step_push rfl _ _ 202 rfl 0 TN i0 Z 7 48 Tryz.underlying202 hi hz0 hz1 hz2 rfl (by decide) (by decide) (.slice ad n cp) n _ rfl (ownsRow_upd HROW1.out (by repeat (first | with_reducible exact Upd.refl _ _ | with_reducible refine Upd.drew ?_ | with_reducible refine Upd.alloc ?_ _)) (fun _ _ h => h)) w1.heap.size 1 [.int .u64 rank, .int .u64 came, .int .u32 xa, .int .u32 xb, .int .u64 xc, .int .u64 xd, .int .i64 xe] rfl rfl (new_cells w1 #[.int .u64 rank, .int .u64 came, .int .u32 xa, .int .u32 xb, .int .u64 xc, .int .u64 xd, .int .i64 xe] _) (by simp [Value.oneCell']) hn9 (Nat.zero_le _) ?_; intro v6 w6 hown6 hu6 hn6; have H6 := Lib.hid (push_facts H1.out (rank, came, xa, xb, xc, xd, xe) hown6 hu6 hn6 (by repeat (first | with_reducible exact Upd.refl _ _ | with_reducible refine Upd.drew ?_ | with_reducible refine Upd.alloc ?_ _)) HN.out); obtain ⟨g6, c6, rfl⟩ := form7 hown6; obtain ⟨b0, b1, b2, y0, y1, y2⟩ := cells3 H6.out.blk; clear hown6 hu6 hn6 c0 c1 c2 z0 z1 z2 a0)
 all_goals
  go_wp2_with fail
  have H7 := H6.out.heap (by rw [HN.out]; exact HL.out) hr2 d
  refine (up_any (k := n) H7 (Nat.lt_succ_self n)).mono ?_
  rintro e w8 ⟨rfl, h8, u8⟩
  have HQ : Hid (HI w8 b (.slice (some ⟨g6, 0, none⟩) (n + 1) c6) d room (pushT l (rank, came, xa, xb, xc, xd, xe))) := Lib.hid (by unfold pushT; rw [HN.out]; exact h8)
  have HV : Hid (OwnOrNew w (.slice ad n cp) (.slice (some ⟨g6, 0, none⟩) (n + 1) c6)) := Lib.hid (fun k hk => (H6.out.own k hk).imp id (fun h => Nat.le_trans HSZ.out h))
  have HW : Hid (Upd (HeapOf b (.slice ad n cp)) w w8) := Lib.hid (((((HU1.out.any _).trans H6.out.upd (fun _ _ h => h)).setCell (a := ⟨b, 0, none⟩) (fun _ => .inl rfl) _).setCell (a := ⟨b, 1, none⟩) (fun _ => .inl rfl) _).trans u8 (fun k hk e => by
   subst e
   rcases HV.out k rfl with h | h
   · exact .inr h
   · omega))
  clear h8 u8 H7 H6 b0 b1 b2 y0 y1 y2
  go_wp2_with fail
  go_ret
  exact ⟨rfl, _, HQ.out, HV.out, HW.out⟩
theorem push_full {w : World} {b came room : Nat} {v : Value} {l : List En} (h : HI w b v came room l) (hl : l.length = room) (rank xa xb xc xd xe : Nat) :
 Calls Tryz.prog 166 #[.pointer (some ⟨b, 0, none⟩), .int .u64 rank, .agg #[.int .u32 xa, .int .u32 xb, .int .u64 xc, .int .u64 xd, .int .i64 xe]] w fun e w' => e = .returned (.bool false) ∧ Upd Nowhere w w' := by
 obtain ⟨ad, cp, rfl⟩ := h.row.form
 have hr2 := h.r2
 rw [hl] at h
 have d1 : decide (room ≤ room) = true := by simp
 obtain ⟨c0, c1, c2, z0, z1, z2⟩ := cells3 (h.old ((Upd.refl _ w).alloc (.cells #[.int .u32 xa, .int .u32 xb, .int .u64 xc, .int .u64 xd, .int .i64 xe] TE))).blk
 clear h hl
 go_enter Tryz.func166, Tryz.ntmps166
 go_wp2_with fail
 go_quiet (fail)
 go_wp2_with fail
 go_ret
 exact ⟨rfl, ((Upd.refl _ _).alloc _).drewN _⟩
theorem len_some {w : World} {b came room : Nat} {v : Value} {l : List En} (h : HI w b v came room l) :
 Calls Tryz.prog 162 #[.pointer (some ⟨b, 0, none⟩)] w fun e w' => e = .returned (.int .i64 l.length) ∧ w = w' := by
 obtain ⟨ad, cp, rfl⟩ := h.row.form
 obtain ⟨c0, c1, c2, z0, z1, z2⟩ := cells3 h.blk
 clear h
 go_enter Tryz.func162, Tryz.ntmps162
 go_wp2_with fail
 go_ret
 exact ⟨rfl, rfl⟩
theorem new_ok (room : Nat) (w : World) (h1 : 1 ≤ room) (h2 : room ≤ 4096) :
 Calls Tryz.prog 63 #[.int .i64 room] w fun e w' => e = .returned (.tuple #[.pointer (some ⟨w.heap.size, 0, none⟩), .int .i64 0]) ∧ HI w' w.heap.size (.slice none 0 0) 0 room [] ∧ Upd Nowhere w w' := by
 have d1 : decide ((room : Int) < 1) = false := by simp; omega
 have d2 : decide (4096 < (room : Int)) = false := by simp; omega
 go_enter Tryz.func63, Tryz.ntmps63
 go_wp2_with fail
 go_ret2
 exact ⟨rfl, ⟨wid7, Blk.new _ _ _, ownsRow_nil _ _ _ _, by simp, h1, h2, by simp [Value.ownBlock]⟩, (Upd.refl _ _).alloc _⟩
theorem at_none {w : World} {b came room : Nat} {v : Value} {l : List En} {i : Int} (h : HI w b v came room l) (hi : i < 0 ∨ (l.length : Int) ≤ i) :
 Calls Tryz.prog 165 #[.pointer (some ⟨b, 0, none⟩), .int .i64 i] w fun e w' => e = .returned (.tuple #[.int .u64 0, ZI, .bool false]) ∧ Upd Nowhere w w' := by
 have hU2 : Upd Nowhere w ((w.alloc (.cells zI TE)).alloc (.cells zI TE)) := ((Upd.refl _ _).alloc _).alloc _
 have hB2 : Blk ((w.alloc (.cells zI TE)).alloc (.cells zI TE)) w.heap.size zI TE := (Blk.new _ _ _).alloc _
 have hN2 : Blk ((w.alloc (.cells zI TE)).alloc (.cells zI TE)) (w.heap.size + 1) zI TE := Blk.new2 _ _ _ _
 have HL := Lib.hid (len_some (h.old hU2))
 obtain ⟨n, hn⟩ : ∃ n, l.length = n := ⟨_, rfl⟩
 rw [hn] at HL hi
 clear h hn
 by_cases h0 : i < 0
 · have d1 : decide (i < 0) = true := decide_eq_true h0
   clear hi HL
   go_enter Tryz.func165, Tryz.ntmps165
   go_upto_region 2 with fail
   generalize (w.alloc (.cells zI TE)).alloc (.cells zI TE) = w2 at *
   obtain ⟨c0, c1, c2, c3, c4, z0, z1, z2, z3, z4⟩ := cells5 hB2
   obtain ⟨y0, y1, y2, y3, y4, _, _, _, _, _⟩ := cells5 hN2
   clear hB2 hN2
   go_wp2_with fail
   go_region
   all_goals
    go_wp2_with fail
    exact bodyPost_ret (v := .tuple #[.int .u64 0, ZI, .bool false]) (by simp [results, Tryz.results165, go_sem, c0, c1, c2, c3, c4]) rfl ⟨rfl, (by repeat (first | with_reducible exact hU2 | with_reducible refine Upd.drewN ?_ _ | with_reducible refine Upd.drew ?_ | with_reducible refine Upd.setNew ?_ (Nat.le_refl _) _))⟩
 · have d1 : decide (i < 0) = false := decide_eq_false h0
   have d2 : decide (i ≥ (n : Int)) = true := decide_eq_true (by omega)
   have d3 : decide ((n : Int) ≤ i) = true := decide_eq_true (by omega)
   clear hi
   go_enter Tryz.func165, Tryz.ntmps165
   go_upto_region 2 with fail
   generalize (w.alloc (.cells zI TE)).alloc (.cells zI TE) = w2 at *
   obtain ⟨c0, c1, c2, c3, c4, z0, z1, z2, z3, z4⟩ := cells5 hB2
   obtain ⟨y0, y1, y2, y3, y4, _, _, _, _, _⟩ := cells5 hN2
   clear hB2 hN2
   go_wp2_with fail
   refine (HL.out).mono ?_
   rintro e w' ⟨rfl, rfl⟩
   go_wp2_with fail
   go_region
   all_goals
    go_wp2_with fail
    exact bodyPost_ret (v := .tuple #[.int .u64 0, ZI, .bool false]) (by simp [results, Tryz.results165, go_sem, c0, c1, c2, c3, c4]) rfl ⟨rfl, (by repeat (first | with_reducible exact hU2 | with_reducible refine Upd.drewN ?_ _ | with_reducible refine Upd.drew ?_ | with_reducible refine Upd.setNew ?_ (Nat.le_refl _) _))⟩
theorem at_some {w : World} {b came room i : Nat} {v : Value} {l : List En} {a0 a1 xa xb xc xd xe : Nat} (h : HI w b v came room l) (ha : l[i]? = some (a0, a1, xa, xb, xc, xd, xe)) :
 Calls Tryz.prog 165 #[.pointer (some ⟨b, 0, none⟩), .int .i64 i] w fun e w' => e = .returned (.tuple #[.int .u64 a0, VI (xa, xb, xc, xd, xe), .bool true]) ∧ Upd Nowhere w w' := by
 obtain ⟨n, hn⟩ : ∃ n, l.length = n := ⟨_, rfl⟩
 have hin : i < n := by have := get_lt ha; omega
 obtain ⟨g, c, rfl, _, _⟩ := Row.arr h.row (by omega)
 have hU2 : Upd Nowhere w ((w.alloc (.cells zI TE)).alloc (.cells zI TE)) := ((Upd.refl _ _).alloc _).alloc _
 have hB2 : Blk ((w.alloc (.cells zI TE)).alloc (.cells zI TE)) w.heap.size zI TE := (Blk.new _ _ _).alloc _
 have HH := Lib.hid (h.old hU2)
 have HL := Lib.hid (len_some (h.old hU2))
 have HA := Lib.hid ha
 rw [hn] at HL HH
 have d1 : decide ((i : Int) < 0) = false := by simp
 have d2 : decide (n ≤ i) = false := by simp; omega
 have hI : (i : Int) < n := by omega
 clear h ha hn
 go_enter Tryz.func165, Tryz.ntmps165
 go_upto_region 2 with fail
 generalize (w.alloc (.cells zI TE)).alloc (.cells zI TE) = w2 at *
 obtain ⟨c0, c1, c2, c3, c4, z0, z1, z2, z3, z4⟩ := cells5 hB2
 obtain ⟨b0, b1, b2, _, _, _⟩ := cells3 HH.out.blk
 obtain ⟨k0, k1, k2, k3, k4, k5, k6⟩ := at7 HH.out HA.out
 clear hB2
 go_wp2_with fail
 refine (HL.out).mono ?_
 rintro e w' ⟨rfl, rfl⟩
 go_wp2_with fail
 refine wp_region_tail 17 (by kernel_rfl) (by kernel_rfl) ?_
 simp only [List.take_succ_cons, List.take_zero, List.drop_succ_cons, List.drop_zero]
 repeat (go_big_quiet_step (fail))
 refine wpQuiet_nil ?_
 rintro _ ⟨nq, rfl⟩
 go_wp2_with fail
 refine Stage.out ?_
 go_wp2_with fail
 exact bodyPost_ret (v := .tuple #[.int .u64 a0, VI (xa, xb, xc, xd, xe), .bool true]) (by simp [results, Tryz.results165, go_sem, c0, c1, c2, c3, c4]) rfl ⟨rfl, (by repeat (first | with_reducible exact hU2 | with_reducible refine Upd.drewN ?_ _ | with_reducible refine Upd.drew ?_ | with_reducible refine Upd.setNew ?_ (Nat.le_refl _) _))⟩
end Go.Proofs.YtdddfmdcjjbegaaGreat.TwinW
namespace Go.Proofs.YtdddfmdcjjbegaaGreat.TwinW
open Go.RowKit Go.Proofs BigFrame Heap HeapW TwinL
open RingW (It KI zI ZI VI TE)
set_option maxHeartbeats 4000000
set_option maxRecDepth 1000000
theorem take_last {l : List En} {m i : Nat} (z y : En) (hl : l.length = m + 1) : ((l.set i z).set m y).take m = (l.set i z).dropLast := by
 rw [List.dropLast_eq_take, List.length_set, hl, Nat.add_sub_cancel]
 refine List.ext_getElem? fun k => ?_
 rcases Nat.lt_or_ge k m with h | h
 · rw [List.getElem?_take_of_lt h, List.getElem?_take_of_lt h, List.getElem?_set, if_neg (by omega)]
 · rw [List.getElem?_eq_none (by simp; omega), List.getElem?_eq_none (by simp; omega)]
theorem cut_any {w : World} {b g n m c came room i : Nat} {l : List En} (h : HI w b (.slice (some ⟨g, 0, none⟩) n c) came room l) (hn : m + 1 = n) (hi : i < n) (hc : n ≤ c) :
 Calls Tryz.prog 169 #[.pointer (some ⟨b, 0, none⟩), .int .i64 i] w fun e w' => e = .returned (.tuple #[]) ∧
  HI w' b (.slice (some ⟨g, 0, none⟩) m c) came room (cutAt l i) ∧ Upd (HeapOf b (.slice (some ⟨g, 0, none⟩) n c)) w w' := by
 have hlen := h.len
 have hn4 : n ≤ 4096 := by have := h.le; have := h.r2; omega
 obtain ⟨z, hz⟩ : ∃ z, l[m]? = some z := ⟨l[m]'(by omega), by simp⟩
 have HLU : Hid (cutAt l i = (l.set i z).dropLast) := Lib.hid (cutAt_eq (by rw [← hlen, ← hn, Nat.add_sub_cancel]; exact hz))
 have HTL := Lib.hid (take_last (i := i) z ((0, 0, 0, 0, 0, 0, 0) : En) (show l.length = m + 1 by omega))
 have hgb : b ≠ g := fun e => h.off (by rw [e]; rfl)
 have hm4 : m < n := by omega
 have hmc : m ≤ c := by omega
 have e1 : (n : Int) - 1 = (m : Int) := by omega
 have hI : (i : Int) < n := by omega
 have hM : (m : Int) < n := by omega
 obtain ⟨x, hx⟩ : ∃ x, l[i]? = some x := ⟨l[i]'(by omega), by simp⟩
 obtain ⟨z0', z1', za, zb, zc, zd, ze⟩ := z
 have H1 := Lib.hid h
 have HIL : Hid (i < l.length) := Lib.hid (by omega)
 have HML : Hid (m < l.length) := Lib.hid (by omega)
 have HZ := Lib.hid hz
 obtain ⟨c0, c1, c2, q0, q1, q2⟩ := cells3 h.blk
 obtain ⟨j0, j1, j2, j3, j4, j5, j6⟩ := at7 h hz
 obtain ⟨x0, x1, xa, xb, xc, xd, xe⟩ := x
 obtain ⟨k0, k1, k2, k3, k4, k5, k6⟩ := at7 h hx
 obtain ⟨f0, f1, f2, f3, f4, f5, f6⟩ := free7 h hx
 clear h hz hx hlen hn
 go_enter Tryz.func169, Tryz.ntmps169
 go_wp2_with fail
 refine wp_region_tail 12 (by kernel_rfl) (by kernel_rfl) ?_
 simp only [List.take_succ_cons, List.take_zero, List.drop_succ_cons, List.drop_zero]
 repeat (go_big_quiet_step (fail))
 refine wpQuiet_nil ?_
 rintro _ ⟨nq, rfl⟩
 go_upto_region 2 with fail
 refine Stage.out ?_
 have H2 : Hid (HI ((((((((w.drewN nq).setCell ⟨g, i * 7, none⟩ (.int .u64 z0')).setCell ⟨g, i * 7 + 1, none⟩ (.int .u64 z1')).setCell ⟨g, i * 7 + 2, none⟩ (.int .u32 za)).setCell ⟨g, i * 7 + 3, none⟩ (.int .u32 zb)).setCell ⟨g, i * 7 + 4, none⟩ (.int .u64 zc)).setCell ⟨g, i * 7 + 5, none⟩ (.int .u64 zd)).setCell ⟨g, i * 7 + 6, none⟩ (.int .i64 ze)) b (.slice (some ⟨g, 0, none⟩) n c) came room (l.set i (z0', z1', za, zb, zc, zd, ze))) := Lib.hid (set7 (H1.out.old ((Upd.refl _ _).drewN nq)) HIL.out z0' z1' za zb zc zd ze)
 have HU2 : Hid (Upd (HeapOf b (.slice (some ⟨g, 0, none⟩) n c)) w ((((((((w.drewN nq).setCell ⟨g, i * 7, none⟩ (.int .u64 z0')).setCell ⟨g, i * 7 + 1, none⟩ (.int .u64 z1')).setCell ⟨g, i * 7 + 2, none⟩ (.int .u32 za)).setCell ⟨g, i * 7 + 3, none⟩ (.int .u32 zb)).setCell ⟨g, i * 7 + 4, none⟩ (.int .u64 zc)).setCell ⟨g, i * 7 + 5, none⟩ (.int .u64 zd)).setCell ⟨g, i * 7 + 6, none⟩ (.int .i64 ze))) := Lib.hid (upd7 ((Upd.refl (HeapOf b (.slice (some ⟨g, 0, none⟩) n c)) w).drewN nq) (fun _ => .inr rfl) i z0' z1' za zb zc zd ze)
 clear c0 c1 c2 q0 q1 q2 k0 k1 k2 k3 k4 k5 k6 f0 f1 f2 f3 f4 f5 f6 j0 j1 j2 j3 j4 j5 j6 H1
 generalize (((((((w.drewN nq).setCell ⟨g, i * 7, none⟩ (.int .u64 z0')).setCell ⟨g, i * 7 + 1, none⟩ (.int .u64 z1')).setCell ⟨g, i * 7 + 2, none⟩ (.int .u32 za)).setCell ⟨g, i * 7 + 3, none⟩ (.int .u32 zb)).setCell ⟨g, i * 7 + 4, none⟩ (.int .u64 zc)).setCell ⟨g, i * 7 + 5, none⟩ (.int .u64 zd)).setCell ⟨g, i * 7 + 6, none⟩ (.int .i64 ze) = w3 at *
 have hz2 : (l.set i (z0', z1', za, zb, zc, zd, ze))[m]? = some (z0', z1', za, zb, zc, zd, ze) := by
  rw [List.getElem?_set]
  by_cases e : i = m
  · rw [if_pos e, if_pos HIL.out]
  · rw [if_neg e]; exact HZ.out
 have hm5 : m < (l.set i (z0', z1', za, zb, zc, zd, ze)).length := by rw [List.length_set]; exact HML.out
 obtain ⟨c0, c1, c2, q0, q1, q2⟩ := cells3 H2.out.blk
 obtain ⟨j0, j1, j2, j3, j4, j5, j6⟩ := at7 H2.out hz2
 obtain ⟨g0, g1, g2, g3, g4, g5, g6⟩ := free7 H2.out hz2
 have hgb1 : ¬ b = g := hgb
 have hgb2 : ¬ g = b := fun e => hgb e.symm
 have H4 := Lib.hid ((set7 H2.out hm5 0 0 0 0 0 0 0).cut m (by omega))
 have HU4 := Lib.hid ((upd7 HU2.out (fun _ => .inr rfl) m 0 0 0 0 0 0 0).setCell (a := ⟨b, 0, none⟩) (fun _ => .inl rfl) (.slice (some ⟨g, 0, none⟩) m c))
 clear hz2 hm5
 go_wp2_with fail
 go_end0
 exact ⟨rfl, by rw [HLU.out, ← HTL.out]; exact H4.out, HU4.out⟩
/-- The first one, and the last. -/
theorem min_empty {w : World} {b came room : Nat} {v : Value} (h : HI w b v came room ([] : List En)) :
 Calls Tryz.prog 161 #[.pointer (some ⟨b, 0, none⟩)] w fun e w' => e = .returned (.tuple #[.int .u64 0, ZI, .bool false]) ∧ Upd Nowhere w w' := by
 have hU2 : Upd Nowhere w (w.alloc (.cells zI TE)) := (Upd.refl _ _).alloc _
 have hB2 : Blk (w.alloc (.cells zI TE)) w.heap.size zI TE := Blk.new _ _ _
 have HL := Lib.hid (at_none (i := 0) (h.old hU2) (.inr (Int.le_refl _)))
 clear h
 go_enter Tryz.func161, Tryz.ntmps161
 go_wp2_with fail
 refine (HL.out).mono ?_
 rintro e w1 ⟨rfl, hu⟩
 have hU1 := hU2.trans hu (fun _ _ h => h)
 obtain ⟨c0, c1, c2, c3, c4, z0, z1, z2, z3, z4⟩ := cells5 (hB2.kept hu id)
 clear hU2 hB2 hu HL
 go_wp2_with fail
 exact bodyPost_ret (v := .tuple #[.int .u64 0, ZI, .bool false]) (by simp [results, Tryz.results161, go_sem, c0, c1, c2, c3, c4]) rfl ⟨rfl, (by repeat (first | with_reducible exact hU1 | with_reducible refine Upd.drewN ?_ _ | with_reducible refine Upd.drew ?_ | with_reducible refine Upd.setNew ?_ (Nat.le_refl _) _))⟩
theorem min_some {w : World} {b came room : Nat} {v : Value} {l : List En} {a0 a1 xa xb xc xd xe : Nat} (h : HI w b v came room l) (ha : l[0]? = some (a0, a1, xa, xb, xc, xd, xe)) :
 Calls Tryz.prog 161 #[.pointer (some ⟨b, 0, none⟩)] w fun e w' => e = .returned (.tuple #[.int .u64 a0, VI (xa, xb, xc, xd, xe), .bool true]) ∧ Upd Nowhere w w' := by
 have hU2 : Upd Nowhere w (w.alloc (.cells zI TE)) := (Upd.refl _ _).alloc _
 have hB2 : Blk (w.alloc (.cells zI TE)) w.heap.size zI TE := Blk.new _ _ _
 have HL := Lib.hid (at_some (h.old hU2) ha)
 clear h
 go_enter Tryz.func161, Tryz.ntmps161
 go_wp2_with fail
 refine (HL.out).mono ?_
 rintro e w1 ⟨rfl, hu⟩
 have hU1 := hU2.trans hu (fun _ _ h => h)
 obtain ⟨c0, c1, c2, c3, c4, z0, z1, z2, z3, z4⟩ := cells5 (hB2.kept hu id)
 clear hU2 hB2 hu HL
 go_wp2_with fail
 exact bodyPost_ret (v := .tuple #[.int .u64 a0, VI (xa, xb, xc, xd, xe), .bool true]) (by simp [results, Tryz.results161, go_sem, c0, c1, c2, c3, c4]) rfl ⟨rfl, (by repeat (first | with_reducible exact hU1 | with_reducible refine Upd.drewN ?_ _ | with_reducible refine Upd.drew ?_ | with_reducible refine Upd.setNew ?_ (Nat.le_refl _) _))⟩
theorem max_some {w : World} {b came room : Nat} {v : Value} {l : List En} {a0 a1 xa xb xc xd xe : Nat} (h : HI w b v came room l) (ha : l[min 1 (l.length - 1)]? = some (a0, a1, xa, xb, xc, xd, xe)) :
 Calls Tryz.prog 167 #[.pointer (some ⟨b, 0, none⟩)] w fun e w' => e = .returned (.tuple #[.int .u64 a0, VI (xa, xb, xc, xd, xe), .bool true]) ∧ Upd Nowhere w w' := by
 have hU2 : Upd Nowhere w (w.alloc (.cells zI TE)) := (Upd.refl _ _).alloc _
 have hB2 : Blk (w.alloc (.cells zI TE)) w.heap.size zI TE := Blk.new _ _ _
 have hl0 := get_lt ha
 have hr := h.le
 have hr2 := h.r2
 obtain ⟨i, hi⟩ : ∃ i, min 1 (l.length - 1) = i := ⟨_, rfl⟩
 rw [hi] at ha
 have HA := Lib.hid (at_some (h.old hU2) ha)
 have HL := Lib.hid (len_some (h.old hU2))
 obtain ⟨n, hn⟩ : ∃ n, l.length = n := ⟨_, rfl⟩
 rw [hn] at HL hi hl0 hr
 obtain ⟨m, hm⟩ : ∃ m, n - 1 = m := ⟨_, rfl⟩
 have e1 : (n : Int) - 1 = (m : Int) := by omega
 have m1 : min (1 : Int) (m : Int) = (i : Int) := by omega
 have m2 : (if (m : Int) < 1 then (m : Int) else 1) = (i : Int) := by split <;> omega
 have m3 : (if m < 1 then (m : Int) else 1) = (i : Int) := by split <;> omega
 have hm4 : m ≤ 4096 := by omega
 clear h ha hn hi hm hl0 hr
 go_enter Tryz.func167, Tryz.ntmps167
 go_wp2_with fail
 refine (HL.out).mono ?_
 rintro e w' ⟨rfl, rfl⟩
 go_wp2_with fail
 refine (HA.out).mono ?_
 rintro e w1 ⟨rfl, hu⟩
 have hU1 := hU2.trans hu (fun _ _ h => h)
 obtain ⟨c0, c1, c2, c3, c4, z0, z1, z2, z3, z4⟩ := cells5 (hB2.kept hu id)
 clear hU2 hB2 hu HL HA
 go_wp2_with fail
 exact bodyPost_ret (v := .tuple #[.int .u64 a0, VI (xa, xb, xc, xd, xe), .bool true]) (by simp [results, Tryz.results167, go_sem, c0, c1, c2, c3, c4]) rfl ⟨rfl, (by repeat (first | with_reducible exact hU1 | with_reducible refine Upd.drewN ?_ _ | with_reducible refine Upd.drew ?_ | with_reducible refine Upd.setNew ?_ (Nat.le_refl _) _))⟩
end Go.Proofs.YtdddfmdcjjbegaaGreat.TwinW
namespace Go.Proofs.YtdddfmdcjjbegaaGreat.TwinW
open Go.RowKit Go.Proofs BigFrame Heap HeapW TwinL
open RingW (It KI zI ZI VI TE)
set_option maxHeartbeats 4000000
set_option maxRecDepth 1000000
theorem pairT_few {l : List En} (h : l.length ≤ 1) : pairT l 0 = l := by
 unfold pairT
 rw [if_neg]
 rw [show hi l.length 0 = 0 by unfold hi; omega]
 cases l with
 | nil => simp [ahdAt]
 | cons a r =>
   have : ahdAt (a :: r) 0 (2 * 0) = ahd a a := ahdAt_eq rfl rfl
   rw [this, ahd_self]
   simp
theorem snkL_few {l : List En} (h : l.length ≤ 1) : snkL l 0 = l := by rw [snkL_none (by omega), pairT_few h]
theorem snkH_few {l : List En} (h : l.length ≤ 1) : snkH l 0 = l := by rw [snkH_none (by omega), pairT_few h]
/-- What a sink of nobody is. -/
theorem own_arr {v : Value} {l : List En} {w : World} {b came room : Nat} (h : HI w b v came room l) (hl : 0 < l.length) : ∃ g c, v = .slice (some ⟨g, 0, none⟩) l.length c ∧ l.length ≤ c := by
 obtain ⟨g, c, h1, h2, _⟩ := Row.arr h.row hl
 exact ⟨g, c, h1, h2⟩
theorem pop_min {w : World} {b came room : Nat} {v : Value} {l : List En} {a0 a1 xa xb xc xd xe : Nat} (h : HI w b v came room l) (ha : l[0]? = some (a0, a1, xa, xb, xc, xd, xe)) :
 Calls Tryz.prog 164 #[.pointer (some ⟨b, 0, none⟩)] w fun e w' => e = .returned (.tuple #[.int .u64 a0, VI (xa, xb, xc, xd, xe), .bool true]) ∧
  ∃ v', HI w' b v' came room (popMinT l) ∧ OwnOrNew w v v' ∧ Upd (HeapOf b v) w w' := by
 have h0 := get_lt ha
 obtain ⟨m, hm⟩ : ∃ m, l.length = m + 1 := ⟨l.length - 1, by omega⟩
 obtain ⟨n, hn⟩ : ∃ n, m + 1 = n := ⟨_, rfl⟩
 obtain ⟨g, c, rfl, hc1⟩ := own_arr h (by omega)
 have hUA : Upd Nowhere w (w.alloc (.cells zI TE)) := (Upd.refl _ _).alloc _
 have hRB : Blk (w.alloc (.cells zI TE)) w.heap.size zI TE := Blk.new _ _ _
 have HP := Lib.hid (min_some (h.old hUA) ha)
 have hr2 := h.r2
 have hle := h.le
 have hnot : ∀ k, HeapOf b (.slice (some ⟨g, 0, none⟩) l.length c) k → k < w.heap.size := fun k hk => h.lts hk
 have hgl : g < w.heap.size := hnot g (.inr rfl)
 have hbl : b < w.heap.size := hnot b (.inl rfl)
 have HCL : Hid ((cutAt l 0).length = m) := Lib.hid (by rw [cutAt_len]; omega)
 rw [hm, hn] at h hc1 hle ⊢
 have hn4 : n ≤ 4096 := by omega
 have e1 : (n : Int) - 1 = (m : Int) := by omega
 have H0 := Lib.hid h
 have HN := Lib.hid hn
 have HRB := Lib.hid hRB
 have HUA := Lib.hid hUA
 have hgb : b ≠ g := fun e => h.off (by rw [e]; rfl)
 have HC1 := Lib.hid hc1
 have hm4 : m ≤ 4095 := by omega
 clear h ha hm hn hc1 hle hnot hRB hUA h0
 go_enter Tryz.func164, Tryz.ntmps164
 go_wp2_with fail
 refine (HP.out).mono ?_
 rintro e w1 ⟨rfl, hu1⟩
 go_upto_region 2 with fail
 have hU1 : Upd Nowhere w (w1.alloc (.cells #[.int .u32 xa, .int .u32 xb, .int .u64 xc, .int .u64 xd, .int .i64 xe] TE)) := (HUA.out.trans hu1 (fun _ _ h => h)).alloc _
 have hR1 : Blk (w1.alloc (.cells #[.int .u32 xa, .int .u32 xb, .int .u64 xc, .int .u64 xd, .int .i64 xe] TE)) w.heap.size zI TE := (HRB.out.kept hu1 id).alloc _
 have hX1 : Blk (w1.alloc (.cells #[.int .u32 xa, .int .u32 xb, .int .u64 xc, .int .u64 xd, .int .i64 xe] TE)) w1.heap.size #[.int .u32 xa, .int .u32 xb, .int .u64 xc, .int .u64 xd, .int .i64 xe] TE := Blk.new _ _ _
 have hws : w.heap.size < w1.heap.size := Nat.lt_of_lt_of_le HRB.out.lt hu1.size
 obtain ⟨rb, hrb⟩ : ∃ rb, w.heap.size = rb := ⟨_, rfl⟩
 obtain ⟨xk, hxk⟩ : ∃ xk, w1.heap.size = xk := ⟨_, rfl⟩
 rw [hrb] at hR1 hgl hbl hws
 rw [hxk] at hX1 hws
 try simp only [hrb, hxk]
 have HU1 := Lib.hid hU1
 have HR1 := Lib.hid hR1
 have HX1 := Lib.hid hX1
 have HRBE := Lib.hid hrb
 have H1 := Lib.hid (H0.out.old hU1)
 clear hU1 hR1 hX1 hu1 hrb HP HUA HRB
 generalize w1.alloc (.cells #[.int .u32 xa, .int .u32 xb, .int .u64 xc, .int .u64 xd, .int .i64 xe] TE) = w2 at *
 clear hxk
 obtain ⟨c0, c1, c2, q0, q1, q2⟩ := cells3 H1.out.blk
 have HCT := Lib.hid (cut_any H1.out HN.out (i := 0) (by omega) HC1.out)
 go_wp2_with fail
 refine (HCT.out).mono ?_
 rintro e w3 ⟨rfl, h3, u3⟩
 have hnr : ¬ HeapOf b (.slice (some ⟨g, 0, none⟩) n c) rb := fun h => by
  rcases h with h | h
  · omega
  · have : g = rb := Option.some.inj h; omega
 have hnx : ¬ HeapOf b (.slice (some ⟨g, 0, none⟩) n c) xk := fun h => by
  rcases h with h | h
  · omega
  · have : g = xk := Option.some.inj h; omega
 have HNR := Lib.hid hnr
 have HNX := Lib.hid hnx
 have H3 := Lib.hid h3
 have HU3 := Lib.hid u3
 clear h3 u3 hnr hnx HCT H1 c0 c1 c2 q0 q1 q2
 obtain ⟨c0, c1, c2, q0, q1, q2⟩ := cells3 H3.out.blk
 go_upto_if 22 with fail
 go_cut [] (fun wx => HI wx b (.slice (some ⟨g, 0, none⟩) m c) came room (popMinT l) ∧ Upd (HeapOf b (.slice (some ⟨g, 0, none⟩) n c)) w2 wx)
 case first =>
  by_cases hm0 : 0 < m
  · have dm : decide (0 < m) = true := decide_eq_true hm0
    have dm2 : decide ((0 : Int) < m) = true := decide_eq_true (by omega)
    have HS := Lib.hid (sinkLow_any H3.out (by omega))
    go_wp2_with fail
    refine (HS.out).mono ?_
    rintro e w4 ⟨rfl, h4, u4⟩
    go_wp2_with fail
    go_meet
    unfold popMinT
    exact ⟨h4, HU3.out.trans u4 (fun k _ e => .inr (by rw [e]; rfl))⟩
  · have dm : decide (0 < m) = false := decide_eq_false hm0
    have dm2 : decide ((0 : Int) < m) = false := decide_eq_false (by omega)
    go_wp2_with fail
    go_meet
    unfold popMinT
    rw [snkL_few (by rw [HCL.out]; omega)]
    exact ⟨H3.out, HU3.out⟩
 case rest =>
  obtain ⟨hQ, hW⟩ := hcut
  obtain ⟨w5, rfl⟩ : ∃ x, x = wc := ⟨_, rfl⟩
  have hR5 := HR1.out.kept hW HNR.out
  have hX5 := HX1.out.kept hW HNX.out
  have HQ := Lib.hid hQ
  have HW := Lib.hid hW
  clear hQ hW c0 c1 c2 q0 q1 q2 H3 HU3
  obtain ⟨c0, c1, c2, c3, c4, q0, q1, q2, q3, q4⟩ := cells5 hR5
  obtain ⟨k0, k1, k2, k3, k4, f0, f1, f2, f3, f4⟩ := cells5 hX5
  clear hR5 hX5
  go_wp2_with fail
  refine wp_region_tail 4 (by kernel_rfl) (by kernel_rfl) ?_
  simp only [List.take_succ_cons, List.take_zero, List.drop_succ_cons, List.drop_zero]
  repeat (go_big_quiet_step (fail))
  refine wpQuiet_nil ?_
  rintro _ ⟨nq2, rfl⟩
  go_wp2_with fail
  refine Stage.out ?_
  go_wp2_with fail
  have hS : ∀ k, HeapOf b (.slice (some ⟨g, 0, none⟩) m c) k → ¬ k = rb := fun k hk e => by
   subst e
   rcases hk with h | h
   · omega
   · have : g = k := Option.some.inj h; omega
  have HUF : Hid (Upd (HeapOf b (.slice (some ⟨g, 0, none⟩) n c)) w w5) := Lib.hid ((HU1.out.any _).trans HW.out (fun _ _ h => h))
  refine bodyPost_ret (v := .tuple #[.int .u64 a0, VI (xa, xb, xc, xd, xe), .bool true]) (by simp [results, Tryz.results164, go_sem, c0, c1, c2, c3, c4]) rfl ⟨rfl, _, HQ.out.kept (S := fun k => k = rb) ?_ hS, fun k hk => .inl hk, ?_⟩
  · exact (((((((Upd.refl (fun k => k = rb) w5).drewN nq2).setCell (a := ⟨rb, 0, none⟩) (fun _ => rfl) _).setCell (a := ⟨rb, 1, none⟩) (fun _ => rfl) _).setCell (a := ⟨rb, 2, none⟩) (fun _ => rfl) _).setCell (a := ⟨rb, 3, none⟩) (fun _ => rfl) _).setCell (a := ⟨rb, 4, none⟩) (fun _ => rfl) _)
  · repeat (first | with_reducible exact HUF.out | with_reducible refine Upd.drewN ?_ _ | with_reducible refine Upd.drew ?_ | with_reducible refine Upd.setNew ?_ (by rw [HRBE.out]; exact Nat.le_refl _) _)
theorem pop_max {w : World} {b came room : Nat} {v : Value} {l : List En} {a0 a1 xa xb xc xd xe : Nat} (h : HI w b v came room l) (ha : l[min 1 (l.length - 1)]? = some (a0, a1, xa, xb, xc, xd, xe)) :
 Calls Tryz.prog 168 #[.pointer (some ⟨b, 0, none⟩)] w fun e w' => e = .returned (.tuple #[.int .u64 a0, VI (xa, xb, xc, xd, xe), .bool true]) ∧
  ∃ v', HI w' b v' came room (popMaxT l) ∧ OwnOrNew w v v' ∧ Upd (HeapOf b v) w w' := by
 have h0 := get_lt ha
 obtain ⟨m, hm⟩ : ∃ m, l.length = m + 1 := ⟨l.length - 1, by omega⟩
 obtain ⟨n, hn⟩ : ∃ n, m + 1 = n := ⟨_, rfl⟩
 obtain ⟨g, c, rfl, hc1⟩ := own_arr h (by omega)
 have hUA : Upd Nowhere w (w.alloc (.cells zI TE)) := (Upd.refl _ _).alloc _
 have hRB : Blk (w.alloc (.cells zI TE)) w.heap.size zI TE := Blk.new _ _ _
 have HP := Lib.hid (max_some (h.old hUA) ha)
 have hr2 := h.r2
 have hle := h.le
 have hnot : ∀ k, HeapOf b (.slice (some ⟨g, 0, none⟩) l.length c) k → k < w.heap.size := fun k hk => h.lts hk
 have hgl : g < w.heap.size := hnot g (.inr rfl)
 have hbl : b < w.heap.size := hnot b (.inl rfl)
 have HCL0 : Hid ((cutAt l (min 1 (l.length - 1))).length = m) := Lib.hid (by rw [cutAt_len]; omega)
 obtain ⟨j, hj⟩ : ∃ j, min 1 (l.length - 1) = j := ⟨_, rfl⟩
 have HJ := Lib.hid hj
 have hjn : j < n := by omega
 have hjm : min 1 m = j := by omega
 have HCL : Hid ((cutAt l j).length = m) := Lib.hid (by rw [cutAt_len]; omega)
 clear hj HCL0
 rw [hm, hn] at h hc1 hle ⊢
 have hn4 : n ≤ 4096 := by omega
 have e1 : (n : Int) - 1 = (m : Int) := by omega
 have m1 : min (1 : Int) (m : Int) = (j : Int) := by omega
 have m2 : (if (m : Int) < 1 then (m : Int) else 1) = (j : Int) := by split <;> omega
 have m3 : (if m < 1 then (m : Int) else 1) = (j : Int) := by split <;> omega
 clear hjm
 have H0 := Lib.hid h
 have HN := Lib.hid hn
 have HRB := Lib.hid hRB
 have HUA := Lib.hid hUA
 have hgb : b ≠ g := fun e => h.off (by rw [e]; rfl)
 have HC1 := Lib.hid hc1
 have hm4 : m ≤ 4095 := by omega
 clear h ha hm hn hc1 hle hnot hRB hUA h0
 go_enter Tryz.func168, Tryz.ntmps168
 go_wp2_with fail
 refine (HP.out).mono ?_
 rintro e w1 ⟨rfl, hu1⟩
 go_upto_region 2 with fail
 have hU1 : Upd Nowhere w (w1.alloc (.cells #[.int .u32 xa, .int .u32 xb, .int .u64 xc, .int .u64 xd, .int .i64 xe] TE)) := (HUA.out.trans hu1 (fun _ _ h => h)).alloc _
 have hR1 : Blk (w1.alloc (.cells #[.int .u32 xa, .int .u32 xb, .int .u64 xc, .int .u64 xd, .int .i64 xe] TE)) w.heap.size zI TE := (HRB.out.kept hu1 id).alloc _
 have hX1 : Blk (w1.alloc (.cells #[.int .u32 xa, .int .u32 xb, .int .u64 xc, .int .u64 xd, .int .i64 xe] TE)) w1.heap.size #[.int .u32 xa, .int .u32 xb, .int .u64 xc, .int .u64 xd, .int .i64 xe] TE := Blk.new _ _ _
 have hws : w.heap.size < w1.heap.size := Nat.lt_of_lt_of_le HRB.out.lt hu1.size
 obtain ⟨rb, hrb⟩ : ∃ rb, w.heap.size = rb := ⟨_, rfl⟩
 obtain ⟨xk, hxk⟩ : ∃ xk, w1.heap.size = xk := ⟨_, rfl⟩
 rw [hrb] at hR1 hgl hbl hws
 rw [hxk] at hX1 hws
 try simp only [hrb, hxk]
 have HU1 := Lib.hid hU1
 have HR1 := Lib.hid hR1
 have HX1 := Lib.hid hX1
 have HRBE := Lib.hid hrb
 have H1 := Lib.hid (H0.out.old hU1)
 clear hU1 hR1 hX1 hu1 hrb HP HUA HRB
 generalize w1.alloc (.cells #[.int .u32 xa, .int .u32 xb, .int .u64 xc, .int .u64 xd, .int .i64 xe] TE) = w2 at *
 clear hxk
 obtain ⟨c0, c1, c2, q0, q1, q2⟩ := cells3 H1.out.blk
 have HCT := Lib.hid (cut_any H1.out HN.out (i := j) (by omega) HC1.out)
 go_wp2_with fail
 refine (HCT.out).mono ?_
 rintro e w3 ⟨rfl, h3, u3⟩
 have hnr : ¬ HeapOf b (.slice (some ⟨g, 0, none⟩) n c) rb := fun h => by
  rcases h with h | h
  · omega
  · have : g = rb := Option.some.inj h; omega
 have hnx : ¬ HeapOf b (.slice (some ⟨g, 0, none⟩) n c) xk := fun h => by
  rcases h with h | h
  · omega
  · have : g = xk := Option.some.inj h; omega
 have HNR := Lib.hid hnr
 have HNX := Lib.hid hnx
 have H3 := Lib.hid h3
 have HU3 := Lib.hid u3
 clear h3 u3 hnr hnx HCT H1 c0 c1 c2 q0 q1 q2
 obtain ⟨c0, c1, c2, q0, q1, q2⟩ := cells3 H3.out.blk
 go_upto_if 29 with fail
 go_cut [] (fun wx => HI wx b (.slice (some ⟨g, 0, none⟩) m c) came room (popMaxT l) ∧ Upd (HeapOf b (.slice (some ⟨g, 0, none⟩) n c)) w2 wx)
 case first =>
  by_cases hm0 : 1 < m
  · have dm : decide (1 < m) = true := decide_eq_true hm0
    have dm2 : decide ((1 : Int) < m) = true := decide_eq_true (by omega)
    have HS := Lib.hid (sinkHigh_any H3.out (by omega))
    go_wp2_with fail
    refine (HS.out).mono ?_
    rintro e w4 ⟨rfl, h4, u4⟩
    go_wp2_with fail
    go_meet
    unfold popMaxT
    rw [HJ.out]
    exact ⟨h4, HU3.out.trans u4 (fun k _ e => .inr (by rw [e]; rfl))⟩
  · have dm : decide (1 < m) = false := decide_eq_false hm0
    have dm2 : decide ((1 : Int) < m) = false := decide_eq_false (by omega)
    go_wp2_with fail
    go_meet
    unfold popMaxT
    rw [HJ.out]
    rw [snkH_few (by rw [HCL.out]; omega)]
    exact ⟨H3.out, HU3.out⟩
 case rest =>
  obtain ⟨hQ, hW⟩ := hcut
  obtain ⟨w5, rfl⟩ : ∃ x, x = wc := ⟨_, rfl⟩
  have hR5 := HR1.out.kept hW HNR.out
  have hX5 := HX1.out.kept hW HNX.out
  have HQ := Lib.hid hQ
  have HW := Lib.hid hW
  clear hQ hW c0 c1 c2 q0 q1 q2 H3 HU3
  obtain ⟨c0, c1, c2, c3, c4, q0, q1, q2, q3, q4⟩ := cells5 hR5
  obtain ⟨k0, k1, k2, k3, k4, f0, f1, f2, f3, f4⟩ := cells5 hX5
  clear hR5 hX5
  go_wp2_with fail
  refine wp_region_tail 4 (by kernel_rfl) (by kernel_rfl) ?_
  simp only [List.take_succ_cons, List.take_zero, List.drop_succ_cons, List.drop_zero]
  repeat (go_big_quiet_step (fail))
  refine wpQuiet_nil ?_
  rintro _ ⟨nq2, rfl⟩
  go_wp2_with fail
  refine Stage.out ?_
  go_wp2_with fail
  have hS : ∀ k, HeapOf b (.slice (some ⟨g, 0, none⟩) m c) k → ¬ k = rb := fun k hk e => by
   subst e
   rcases hk with h | h
   · omega
   · have : g = k := Option.some.inj h; omega
  have HUF : Hid (Upd (HeapOf b (.slice (some ⟨g, 0, none⟩) n c)) w w5) := Lib.hid ((HU1.out.any _).trans HW.out (fun _ _ h => h))
  refine bodyPost_ret (v := .tuple #[.int .u64 a0, VI (xa, xb, xc, xd, xe), .bool true]) (by simp [results, Tryz.results168, go_sem, c0, c1, c2, c3, c4]) rfl ⟨rfl, _, HQ.out.kept (S := fun k => k = rb) ?_ hS, fun k hk => .inl hk, ?_⟩
  · exact (((((((Upd.refl (fun k => k = rb) w5).drewN nq2).setCell (a := ⟨rb, 0, none⟩) (fun _ => rfl) _).setCell (a := ⟨rb, 1, none⟩) (fun _ => rfl) _).setCell (a := ⟨rb, 2, none⟩) (fun _ => rfl) _).setCell (a := ⟨rb, 3, none⟩) (fun _ => rfl) _).setCell (a := ⟨rb, 4, none⟩) (fun _ => rfl) _)
  · repeat (first | with_reducible exact HUF.out | with_reducible refine Upd.drewN ?_ _ | with_reducible refine Upd.drew ?_ | with_reducible refine Upd.setNew ?_ (by rw [HRBE.out]; exact Nat.le_refl _) _)
end Go.Proofs.YtdddfmdcjjbegaaGreat.TwinW

