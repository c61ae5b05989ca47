/- Eg8, one behind the other. -/
import Derived.Test.YtdddfmdcjjbegaaGreatMeEg7
import Derived.Test.YtdddfmdcjjbegaaGreatMeTk
namespace Go.Proofs.YtdddfmdcjjbegaaGreat.Egs
open Go.RowKit Go.Proofs BigFrame
open RingW (It KI zI ZI VI TE)
open First (Cf VC)
set_option maxHeartbeats 40000000
set_option maxRecDepth 1000000
set_option linter.unusedSimpArgs false
/-- Time goes by for a class. -/
def tickS (cf : Cf) (s : Cs) (t : Nat) : Cs := { s with hv := if cf.credit = true then Credit.tck cf.idle cf.high s.hv t (decide (0 < s.l.length)) else s.hv }
def tickQ (t : Nat) (q : List (Nat × Cf × Cs)) : List (Nat × Cf × Cs) := q.map fun x => (x.1, x.2.1, tickS x.2.1 x.2.2 t)
def tickE (E : Eg) (t : Nat) : Eg := { E with now := min (E.now + t) 18446744073709551615, q := tickQ t E.q }
theorem EgP.setNow {w : World} {own : Nat → Prop} {e : Nat} {E : Eg} (h : EgP w own e E) (b : Nat) : EgP (w.setCell ⟨e, 3, none⟩ (.int .u64 (b : Nat))) own e { E with now := b } ∧ Fol w own (w.setCell ⟨e, 3, none⟩ (.int .u64 (b : Nat))) own := by
 obtain ⟨o1, o2, ⟨hB, ho1⟩, h2, h3, h4⟩ := h
 have hu : Upd (fun q => q = e) w (w.setCell ⟨e, 3, none⟩ (.int .u64 (b : Nat))) := (Upd.refl _ _).setOne 3 _
 have hne : ∀ q, o2 q → ¬ q = e := fun q hq he => h3 e ((ho1 e).2 rfl) (by rw [← he]; exact hq)
 exact ⟨⟨o1, o2, ⟨by simpa using hB.set 3 (.int .u64 (b : Nat)), ho1⟩, h2.kp hu hne, h3, h4⟩, fun q hq => .inl hq, hu.mono fun q _ hq => (h4 q).2 (.inl ((ho1 q).2 hq))⟩
theorem tick_step {q : List (Nat × Cf × Cs)} {t i k : Nat} {cf : Cf} {s : Cs} (h : q[i]? = some (k, cf, s)) : ((tickQ t (q.take i) ++ q.drop i).set i (k, cf, tickS cf s t)) = tickQ t (q.take (i + 1)) ++ q.drop (i + 1) := by
 obtain ⟨e1, e2⟩ := drop_at h
 have hlt : i < q.length := by
  rcases Nat.lt_or_ge i q.length with h' | h'
  · exact h'
  · rw [List.getElem?_eq_none h'] at h; cases h
 have hl : (tickQ t (q.take i)).length = i := by unfold tickQ; rw [List.length_map, List.length_take]; omega
 rw [e1, e2, List.set_append_right _ _ (by omega), hl, Nat.sub_self, List.set_cons_zero]
 unfold tickQ
 rw [List.map_append]
 simp
theorem tick_at {q : List (Nat × Cf × Cs)} {t i : Nat} {x : Nat × Cf × Cs} (h : q[i]? = some x) : (tickQ t (q.take i) ++ q.drop i)[i]? = some x := by
 obtain ⟨e1, _⟩ := drop_at h
 have hlt : i < q.length := by
  rcases Nat.lt_or_ge i q.length with h' | h'
  · exact h'
  · rw [List.getElem?_eq_none h'] at h; cases h
 have hl : (tickQ t (q.take i)).length = i := by unfold tickQ; rw [List.length_map, List.length_take]; omega
 rw [List.getElem?_append_right (by omega), hl, Nat.sub_self, e1]
 rfl
theorem tick_any {w : World} {own : Nat → Prop} {e : Nat} {E : Eg} {c t : Nat} (h : EgP w own e E) (hE : OkE E c) (ht : t ≤ 18446744073709551615) :
 Calls Tryz.prog 21 #[.pointer (some ⟨e, 0, none⟩), .int .u64 t] w fun x w' => x = .returned (.tuple #[]) ∧ ∃ own', EgP w' own' e (tickE E t) ∧ Fol w own w' own' := by
 obtain ⟨_, ac, cc, ap, cp, hB, hKX, -, hvc, -⟩ := h.blk hE.pl1
 have c0 : w.cell? ⟨e, 0, none⟩ = some (.slice ac E.q.length cc) := hB.cellAt rfl
 have c3 : w.cell? ⟨e, 3, none⟩ = some (.int .u64 (E.now : Nat)) := hB.cellAt rfl
 have z3 := Blk.free hB 3
 have hn1 := hE.n1
 have hn2 := hE.n2
 obtain ⟨g, hg⟩ : ∃ g, ac = some ⟨g, 0, none⟩ := by
  obtain ⟨g, h1, _⟩ := hKX 0 E.q[0] (List.getElem?_eq_getElem (by omega))
  exact ⟨g, h1⟩
 subst hg
 have HAD := fun u => Lib.hid (Bits.sat_add E.now t u hE.now ht)
 obtain ⟨nw, hnw⟩ : ∃ nw, min (E.now + t) 18446744073709551615 = nw := ⟨_, rfl⟩
 rw [hnw] at HAD
 obtain ⟨h1, f1⟩ := h.setNow nw
 have H1 := Lib.hid h1
 have F1 := Lib.hid f1
 obtain ⟨n, hn⟩ : ∃ n, E.q.length = n := ⟨_, rfl⟩
 rw [hn] at c0 hn1 hn2 hvc
 have HN := Lib.hid hn
 have HVC := Lib.hid hvc
 have HE := Lib.hid hE
 have HT := Lib.hid ht
 have HNW := Lib.hid hnw
 clear h hE hB hKX hn hvc h1 f1 ht hnw
 go_enter Tryz.func21, Tryz.ntmps21
 go_wp2_with fail
 refine ((HAD _).out).mono ?_
 rintro x w' ⟨rfl, rfl⟩
 go_upto_region 2 with fail
 generalize w.setCell ⟨e, 3, none⟩ (.int .u64 (nw : Nat)) = w1 at *
 obtain ⟨a1, a2, a3, a4, hB1, hvc1⟩ : ∃ a1 a2 a3 a4, Blk w1 e (EC { E with now := nw } (.slice a1 E.q.length a2) (.slice a3 E.pl.length a4)) TEg ∧ E.vc = .slice a1 E.q.length a2 := by
  obtain ⟨_, b1, b2, b3, b4, hB1, _, _, hv, _⟩ := H1.out.blk HE.out.pl1
  exact ⟨b1, b2, b3, b4, hB1, hv⟩
 have c0' : w1.cell? ⟨e, 0, none⟩ = some (.slice (some ⟨g, 0, none⟩) n cc) := by rw [← HVC.out, hvc1]; exact hB1.cellAt rfl
 clear hB1 hvc1 c0 c3 z3
 go_wp2_with fail
 go_loopg [5, 22] (n + 1) (fun gk _ v22 wr => ∃ (i : Nat) (own' : Nat → Prop), n - i < gk ∧ i ≤ n ∧ v22 = .int .i64 i ∧ EgP wr own' e { E with now := nw, q := tickQ t (E.q.take i) ++ E.q.drop i } ∧ Fol w own wr own')
 case atStart => exact ⟨0, own, by omega, Nat.zero_le _, rfl, H1.out, F1.out⟩
 case round =>
  obtain ⟨i, own1, hgk, hin, rfl, h2, f2⟩ := hrel
  obtain ⟨wB, rfl⟩ : ∃ x, x = wr := ⟨_, rfl⟩
  have HGK := Lib.hid hgk
  have H2 := Lib.hid h2
  have F2 := Lib.hid f2
  clear hgk h2 f2 H1 F1 c0'
  rcases Nat.lt_or_ge i n with hlt | hge
  · obtain ⟨⟨k, cf, s⟩, hx⟩ : ∃ x, E.q[i]? = some x := ⟨E.q[i]'(by have := HN.out; omega), by simp⟩
    obtain ⟨hf, hs⟩ := HE.out.q _ (List.mem_of_getElem? hx)
    dsimp only at hf hs
    have hxi := tick_at (t := t) hx
    have hst := tick_step (t := t) hx
    obtain ⟨_, b1, _, _, _, _, hK2, _, hv2, _⟩ := H2.out.blk HE.out.pl1
    obtain ⟨g2, hg2, hcell⟩ := hK2 i _ hxi
    dsimp only at hv2 hcell
    rw [HVC.out] at hv2
    injection hv2 with ev1 ev2 ev3
    rw [hg2] at ev1
    injection ev1 with ev1
    injection ev1 with ev1
    subst ev1
    obtain ⟨hko, hke, v, gv, hBk⟩ := H2.out.cells hxi
    obtain ⟨T, V, fl, c16, hml, hel, HLN⟩ := H2.out.lenOf hxi
    have c2 := kc2 hBk
    have hI : (i : Int) < n := by omega
    have HXI := Lib.hid hxi
    have HST := Lib.hid hst
    have HBK := Lib.hid hBk
    obtain ⟨m, hm⟩ : ∃ m, s.l.length = m := ⟨_, rfl⟩
    rw [hm] at HLN
    have HM := Lib.hid hm
    have HCRD := Lib.hid hs.hv1
    clear hK2 hg2 ev2 ev3 hx hxi hst hBk hm hf hs
    cases hcd : cf.credit with
    | false =>
      rw [hcd] at c2
      have HCD := Lib.hid hcd
      clear hcd
      go_wp2_with fail
      go_roundg (n - i)
      case rel =>
       have e9 : tickS cf s t = s := by unfold tickS; rw [HCD.out, if_neg (by simp)]
       have h9 := HST.out
       rw [e9, set_id HXI.out] at h9
       exact ⟨i + 1, own1, by omega, by omega, rfl, by rw [← h9]; exact H2.out, F2.out⟩
      case measure => have := HGK.out; omega
    | true =>
      rw [hcd] at c2
      have hok := HCRD.out hcd
      obtain ⟨wt, hwt⟩ : ∃ wt, decide (0 < m) = wt := ⟨_, rfl⟩
      have HTC := fun u => Lib.hid (Credit.tick_any (wt := wt) u hok (show t < 18446744073709551616 by have := HT.out; omega))
      obtain ⟨nh, hnh⟩ : ∃ nh, Credit.tck cf.idle cf.high s.hv t wt = nh := ⟨_, rfl⟩
      rw [hnh] at HTC
      have dm : decide ((m : Int) > 0) = wt := by rw [← hwt]; exact decide_eq_decide.2 (by omega)
      have dm2 : decide ((0 : Int) < (m : Int)) = wt := by rw [← hwt]; exact decide_eq_decide.2 (by omega)
      have dm3 : decide (0 < m) = wt := hwt
      have e1 : cri cf = cf.idle := by unfold cri; rw [if_pos hcd]
      have e2 : crs cf = cf.send := by unfold crs; rw [if_pos hcd]
      have e3 : crh cf = cf.high := by unfold crh; rw [if_pos hcd]
      have k26 := kc26 HBK.out
      have k27 := kc27 HBK.out
      have k28 := kc28 HBK.out
      have k29 := kc29 HBK.out
      rw [e1] at k26
      rw [e2] at k27
      rw [e3] at k28
      have HE1 := Lib.hid e1
      have HE2 := Lib.hid e2
      have HE3 := Lib.hid e3
      have HNH := Lib.hid hnh
      have HCD := Lib.hid hcd
      have HWT := Lib.hid hwt
      clear e1 e2 e3 hnh hcd hok hwt
      go_wp2_with fail
      have d26 := cell_old ((Upd.refl Nowhere wB).drew) k26
      have d27 := cell_old ((Upd.refl Nowhere wB).drew) k27
      have d28 := cell_old ((Upd.refl Nowhere wB).drew) k28
      have d29 := cell_old ((Upd.refl Nowhere wB).drew) k29
      refine wp_region_held_drew (S := fun w' => w'.cell? ⟨k, 16, none⟩ = some (.iface T V) ∧ w'.cell? ⟨k, 16, none⟩ = some (.iface T V) ∧ w'.cell? ⟨k, 16, none⟩ = some (.iface T V) ∧ w'.cell? ⟨k, 16, none⟩ = some (.iface T V) ∧ w'.cell? ⟨k, 16, none⟩ = some (.iface T V) ∧ w'.cell? ⟨k, 16, none⟩ = some (.iface T V)) (by kernel_rfl) (six_old ⟨c16, c16, c16, c16, c16, c16⟩ ((Upd.refl _ _).drew)) (fun hHeld => ?_)
      refine tkq 0 ?_
      refine tkq 1 ?_
      refine tkq 2 ?_
      refine tkq 3 ?_
      refine tkq 5 ?_
      refine tkq 6 ?_
      refine tkq 7 ?_
      refine tkq 8 ?_
      refine tkq 9 ?_
      refine wpAnyH_ready (rs := [4, 10]) (by kernel_rfl) (by simp) ?_
      refine AllReadyH.cons (by simp only [List.getElem?_toArray, List.getElem?_cons_zero, List.getElem?_cons_succ]; rfl) (fun K hK => ?_) (AllReadyH.cons (by simp only [List.getElem?_toArray, List.getElem?_cons_zero, List.getElem?_cons_succ]; rfl) (fun K hK => ?_) AllReadyH.nil)
      · go_simp
        refine hK.out _ _ (by (try dsimp only); exact hHeld) (fun hHeld => ?_)
        clear hK K
        refine rdq 10 fun K hK => ?_
        go_simp
        refine (HLN _ ((Upd.refl _ _).drew)).out.mono ?_
        rintro x5 w5 ⟨rfl, u5⟩
        have hS5 := six_old hHeld u5
        have u25 : Upd Nowhere wB w5 := ((Upd.refl _ _).drew).trans u5 (fun _ _ h => h)
        refine hK.out _ _ (by (try dsimp only); exact hS5) (fun hHeld => ?_)
        clear hK K
        refine tkq 11 ?_
        refine rdq 12 fun K hK => ?_
        go_simp
        refine (HTC _).out.mono ?_
        rintro x6 w6 ⟨rfl, u6⟩
        have hS6 := six_old hHeld u6
        have u26 := u25.trans u6 (fun _ _ h => h)
        refine hK.out _ _ (by (try dsimp only); exact hS6) (fun hHeld => ?_)
        clear hK K
        have hB6 := Blk.kept HBK.out u26 id
        have a26 := kc26 hB6
        have a27 := kc27 hB6
        have a28 := kc28 hB6
        have a29 := kc29 hB6
        have z26 := Blk.free hB6 26
        have z27 := Blk.free hB6 27
        have z28 := Blk.free hB6 28
        have z29 := Blk.free hB6 29
        refine tkq 13 ?_
        refine tkq 14 ?_
        refine rdq 15 fun K hK => ?_
        go_simp
        obtain ⟨g0, g1, g2, g3, g4, g5⟩ := hHeld
        have gg : ∀ {W : World}, W.cell? ⟨k, 16, none⟩ = some (.iface T V) → ((((W.setCell ⟨k, 26, none⟩ (.int .i64 cf.idle)).setCell ⟨k, 27, none⟩ (.int .i64 cf.send)).setCell ⟨k, 28, none⟩ (.int .i64 cf.high)).setCell ⟨k, 29, none⟩ (.int .i64 nh)).cell? ⟨k, 16, none⟩ = some (.iface T V) := fun h => cell_set (cell_set (cell_set (cell_set h (by simp)) (by simp)) (by simp)) (by simp)
        refine hK.out _ _ ⟨gg g0, gg g1, gg g2, gg g3, gg g4, gg g5⟩ (fun hHeld => ?_)
        clear hK K
        refine wpAnyH_done (by kernel_rfl) ?_ _
        obtain ⟨own3, h3, f3⟩ := EgP.setK (w := wB) (w1 := w6) (w' := (((w6.setCell ⟨k, 26, none⟩ (.int .i64 cf.idle)).setCell ⟨k, 27, none⟩ (.int .i64 cf.send)).setCell ⟨k, 28, none⟩ (.int .i64 cf.high)).setCell ⟨k, 29, none⟩ (.int .i64 nh)) (s' := tickS cf s t) H2.out HXI.out u26 (((((Upd.refl _ _).setOne 26 _).setOne 27 _).setOne 28 _).setOne 29 _) rfl rfl rfl rfl (fun v gv hB => by
         have h9 := ((((Blk.kept hB u26 id).set 26 (.int .i64 cf.idle)).set 27 (.int .i64 cf.send)).set 28 (.int .i64 cf.high)).set 29 (.int .i64 nh)
         have e9 : tickS cf s t = { s with hv := nh } := by unfold tickS; rw [if_pos HCD.out, HM.out, HWT.out, HNH.out]
         rw [e9]
         unfold KC
         simp only [HE1.out, HE2.out, HE3.out]
         simpa using h9)
        have H3 := Lib.hid h3
        have F3 := Lib.hid (F2.out.trans f3)
        clear h3 f3
        go_wp2_with fail
        go_roundg (n - i)
        case rel =>
         have h9 := H3.out
         rw [HST.out] at h9
         exact ⟨i + 1, own3, by omega, by omega, rfl, h9, F3.out⟩
        case measure => have := HGK.out; omega
      · go_simp
        refine (HLN _ ((Upd.refl _ _).drew)).out.mono ?_
        rintro x5 w5 ⟨rfl, u5⟩
        have hS5 := six_old hHeld u5
        have u25 : Upd Nowhere wB w5 := ((Upd.refl _ _).drew).trans u5 (fun _ _ h => h)
        refine hK.out _ _ (by (try dsimp only); exact hS5) (fun hHeld => ?_)
        clear hK K
        have y26 := cell_old u25 k26
        have y27 := cell_old u25 k27
        have y28 := cell_old u25 k28
        have y29 := cell_old u25 k29
        refine tkq 11 ?_
        refine rdq 4 fun K hK => ?_
        go_simp
        refine hK.out _ _ (by (try dsimp only); exact hHeld) (fun hHeld => ?_)
        clear hK K
        refine rdq 12 fun K hK => ?_
        go_simp
        refine (HTC _).out.mono ?_
        rintro x6 w6 ⟨rfl, u6⟩
        have hS6 := six_old hHeld u6
        have u26 := u25.trans u6 (fun _ _ h => h)
        refine hK.out _ _ (by (try dsimp only); exact hS6) (fun hHeld => ?_)
        clear hK K
        have hB6 := Blk.kept HBK.out u26 id
        have a26 := kc26 hB6
        have a27 := kc27 hB6
        have a28 := kc28 hB6
        have a29 := kc29 hB6
        have z26 := Blk.free hB6 26
        have z27 := Blk.free hB6 27
        have z28 := Blk.free hB6 28
        have z29 := Blk.free hB6 29
        refine tkq 13 ?_
        refine tkq 14 ?_
        refine rdq 15 fun K hK => ?_
        go_simp
        obtain ⟨g0, g1, g2, g3, g4, g5⟩ := hHeld
        have gg : ∀ {W : World}, W.cell? ⟨k, 16, none⟩ = some (.iface T V) → ((((W.setCell ⟨k, 26, none⟩ (.int .i64 cf.idle)).setCell ⟨k, 27, none⟩ (.int .i64 cf.send)).setCell ⟨k, 28, none⟩ (.int .i64 cf.high)).setCell ⟨k, 29, none⟩ (.int .i64 nh)).cell? ⟨k, 16, none⟩ = some (.iface T V) := fun h => cell_set (cell_set (cell_set (cell_set h (by simp)) (by simp)) (by simp)) (by simp)
        refine hK.out _ _ ⟨gg g0, gg g1, gg g2, gg g3, gg g4, gg g5⟩ (fun hHeld => ?_)
        clear hK K
        refine wpAnyH_done (by kernel_rfl) ?_ _
        obtain ⟨own3, h3, f3⟩ := EgP.setK (w := wB) (w1 := w6) (w' := (((w6.setCell ⟨k, 26, none⟩ (.int .i64 cf.idle)).setCell ⟨k, 27, none⟩ (.int .i64 cf.send)).setCell ⟨k, 28, none⟩ (.int .i64 cf.high)).setCell ⟨k, 29, none⟩ (.int .i64 nh)) (s' := tickS cf s t) H2.out HXI.out u26 (((((Upd.refl _ _).setOne 26 _).setOne 27 _).setOne 28 _).setOne 29 _) rfl rfl rfl rfl (fun v gv hB => by
         have h9 := ((((Blk.kept hB u26 id).set 26 (.int .i64 cf.idle)).set 27 (.int .i64 cf.send)).set 28 (.int .i64 cf.high)).set 29 (.int .i64 nh)
         have e9 : tickS cf s t = { s with hv := nh } := by unfold tickS; rw [if_pos HCD.out, HM.out, HWT.out, HNH.out]
         rw [e9]
         unfold KC
         simp only [HE1.out, HE2.out, HE3.out]
         simpa using h9)
        have H3 := Lib.hid h3
        have F3 := Lib.hid (F2.out.trans f3)
        clear h3 f3
        go_wp2_with fail
        go_roundg (n - i)
        case rel =>
         have h9 := H3.out
         rw [HST.out] at h9
         exact ⟨i + 1, own3, by omega, by omega, rfl, h9, F3.out⟩
        case measure => have := HGK.out; omega
  · obtain rfl : i = n := by omega
    have dI : decide ((i : Int) < i) = false := by simp
    have e9 : tickQ t (E.q.take i) ++ E.q.drop i = tickQ t E.q := by
     rw [List.take_of_length_le (by have := HN.out; omega), List.drop_eq_nil_of_le (by have := HN.out; omega), List.append_nil]
    have H9 : Hid (EgP wB own1 e (tickE E t)) := Lib.hid (by
     have h9 := H2.out
     rw [e9] at h9
     unfold tickE
     rw [HNW.out]
     exact h9)
    clear e9
    go_wp2_with fail
    go_end0
    exact ⟨rfl, own1, H9.out, F2.out⟩
end Go.Proofs.YtdddfmdcjjbegaaGreat.Egs

