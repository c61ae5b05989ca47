/- Eg3, one behind the other. -/
import Derived.Test.YtdddfmdcjjbegaaGreatMeEg2
namespace Go.Proofs.YtdddfmdcjjbegaaGreat.Egs
open Go.RowKit Go.Proofs BigFrame
open RingW (It KI zI ZI VI TE)
open First (Cf VC)
set_option maxHeartbeats 4000000
set_option maxRecDepth 1000000
set_option linter.unusedSimpArgs false
/-- How many ticks so many bytes take. -/
def tks (pace len : Nat) : Nat := min (len * pace) 18446744073709551615
/-- Whether a class's head may go. -/
def goesB (pl : List (Nat × Nat)) (pace now i : Nat) (cf : Cf) (s : Cs) : Bool := match s.l with
 | [] => false
 | (_, x) :: _ => opens pl i now (tks pace x.2.2.1) && (!cf.credit || decide (0 ≤ s.hv))
theorem open_any {w : World} {own : Nat → Prop} {e : Nat} {E : Eg} {c : Nat} (h : EgP w own e E) (hE : OkE E c) {i : Nat} (hi : i < 8) (t : Nat) :
 Calls Tryz.prog 69 #[.pointer (some ⟨e, 0, none⟩), .int .i64 i, .int .u64 t] w fun x w' => x = .returned (.bool (opens E.pl i E.now t)) ∧ Upd Nowhere w w' := by
 obtain ⟨_, ac, cc, ap, cp, hB, -, hP, -⟩ := h.blk hE.pl1
 have c1 : w.cell? ⟨e, 1, none⟩ = some (.slice ap E.pl.length cp) := hB.cellAt rfl
 have c3 : w.cell? ⟨e, 3, none⟩ = some (.int .u64 (E.now : Nat)) := hB.cellAt rfl
 have hn := hE.now
 rcases hE.pl2 with h0 | hok
 · rw [h0] at c1 ⊢
   refine (open_none c1).mono fun x w' ⟨e1, e2⟩ => ⟨?_, by rw [← e2]; exact Upd.refl _ _⟩
   rw [e1]
   unfold opens
   rfl
 · have hl := (Plan.ok_len hok).1
   obtain ⟨g, rfl, hg, hA⟩ := hP (by omega)
   exact open_plan hA hg hok hi (by omega) c1 c3
theorem goes_any {w : World} {own : Nat → Prop} {e : Nat} {E : Eg} {c i k : Nat} {cf : Cf} {s : Cs} (h : EgP w own e E) (hE : OkE E c) (hx : E.q[i]? = some (k, cf, s)) (hcr : cf.credit = true → Credit.okc cf.idle cf.send cf.high s.hv) (hl : ∀ a ∈ s.l, a.2.2.2.1 ≤ 65535) :
 Calls Tryz.prog 38 #[.pointer (some ⟨e, 0, none⟩), .int .i64 i] w fun x w' => x = .returned (.bool (goesB E.pl E.pace E.now i cf s)) ∧ Upd Nowhere w w' := by
 have hi : i < E.q.length := by
  rcases Nat.lt_or_ge i E.q.length with h' | h'
  · exact h'
  · rw [List.getElem?_eq_none h'] at hx; cases hx
 have hi8 : i < 8 := by have := hE.n2; omega
 have hKP : ∀ u, Upd Nowhere w u → EgP u own e E := fun u hu => (egC e E).kp h hu (fun _ _ h => h)
 have HOP := fun u (hu : Upd Nowhere w u) t => Lib.hid (open_any (hKP u hu) hE hi8 t)
 obtain ⟨_, ac, cc, ap, cp, hB, hK, -⟩ := h.blk hE.pl1
 obtain ⟨g, rfl, hg⟩ := hK i _ hx
 dsimp only at hg
 have c0 : w.cell? ⟨e, 0, none⟩ = some (.slice (some ⟨g, 0, none⟩) E.q.length cc) := hB.cellAt rfl
 have c2 : w.cell? ⟨e, 2, none⟩ = some (.int .u64 (E.pace : Nat)) := hB.cellAt rfl
 obtain ⟨o, hC, hoe, ho, hoo, -⟩ := h.cls hx
 obtain ⟨hko, v, gv, o1, hBk, hR, -⟩ := hC.blk
 have k16 := kc16 hBk
 have k2 := kc2 hBk
 have k26 := kc26 hBk
 have k27 := kc27 hBk
 have k28 := kc28 hBk
 have k29 := kc29 hBk
 obtain ⟨T, V, fl, fh, fp, ft, M⟩ := hR.meth
 have ev := M.eq
 subst ev
 have hmh := M.mh
 have heh := M.eh
 have hI : (i : Int) < (E.q.length : Nat) := by omega
 have hpace := hE.pc2
 cases hL : s.l with
 | nil =>
   have HH := Lib.hid (M.ce (by rw [hL] at hR; exact hR))
   have hgb : goesB E.pl E.pace E.now i cf s = false := by unfold goesB; rw [hL]
   rw [hgb]
   clear h hE hx hcr hl hKP HOP hB hK hC hoe ho hoo hko hBk hR M hL hgb hi k2 k26 k27 k28 k29 c2 hpace
   go_enter Tryz.func38, Tryz.ntmps38
   go_wp2_with fail
   refine (HH.out).mono ?_
   rintro x w1 ⟨rfl, hu⟩
   go_wp2_with fail
   go_ret
   exact ⟨rfl, hu.alloc _⟩
 | cons a t =>
   obtain ⟨r, x0, x1, x2, x3, x4⟩ := a
   have HH := Lib.hid (M.ch (by rw [hL] at hR; exact hR))
   have hx2 : x2 ≤ 65535 := hl (r, x0, x1, x2, x3, x4) (by rw [hL]; exact List.mem_cons_self ..)
   have HTK := fun u (hu : Upd Nowhere w u) => Lib.hid (takes_any (f := x0) (i := x1) (l := x2) (cell_old hu c2) (by omega) (by omega))
   obtain ⟨tk, htk⟩ : ∃ tk, min (x2 * E.pace) 18446744073709551615 = tk := ⟨_, rfl⟩
   obtain ⟨O, hO⟩ : ∃ O, opens E.pl i E.now tk = O := ⟨_, rfl⟩
   have hgb : goesB E.pl E.pace E.now i cf s = (O && (!cf.credit || decide (0 ≤ s.hv))) := by unfold goesB tks; rw [hL]; dsimp only; rw [htk, hO]
   have HOP2 := fun u (hu : Upd Nowhere w u) => (HOP u hu tk).out
   rw [hO] at HOP2
   rw [htk] at HTK
   rw [hgb]
   have HOPH := fun u (hu : Upd Nowhere w u) => Lib.hid (HOP2 u hu)
   have HK : Hid (∀ u, Upd Nowhere w u → u.cell? ⟨k, 2, none⟩ = some (.bool cf.credit) ∧ u.cell? ⟨k, 26, none⟩ = some (.int .i64 (cri cf)) ∧ u.cell? ⟨k, 27, none⟩ = some (.int .i64 (crs cf)) ∧ u.cell? ⟨k, 28, none⟩ = some (.int .i64 (crh cf)) ∧ u.cell? ⟨k, 29, none⟩ = some (.int .i64 s.hv)) := Lib.hid (fun u hu => ⟨cell_old hu k2, cell_old hu k26, cell_old hu k27, cell_old hu k28, cell_old hu k29⟩)
   have HCR := Lib.hid hcr
   clear h hE hx hcr hl hKP HOP HOP2 hB hK hC hoe ho hoo hko hBk hR M hL hgb hi k2 k26 k27 k28 k29 c2 hpace hO htk hx2
   cases O with
   | false =>
     go_enter Tryz.func38, Tryz.ntmps38
     go_wp2_with fail
     refine (HH.out).mono ?_
     rintro x w1 ⟨rfl, hu⟩
     go_upto_region 3 with fail
     have hu2 : Upd Nowhere w (w1.alloc (.cells #[.int .u32 x0, .int .u32 x1, .int .u64 x2, .int .u64 x3, .int .i64 x4] TE)) := hu.alloc _
     obtain ⟨q0, q1, q2, -⟩ := cells5 (Blk.new w1 #[.int .u32 x0, .int .u32 x1, .int .u64 x2, .int .u64 x3, .int .i64 x4] TE)
     go_wp2_with fail
     refine ((HTK _ hu2).out).mono ?_
     rintro x w3 ⟨rfl, hu3⟩
     have hu4 := hu2.trans hu3 (fun _ _ h => h)
     go_wp2_with fail
     refine ((HOPH _ hu4).out).mono ?_
     rintro x w4 ⟨rfl, hu5⟩
     go_wp2_with fail
     go_ret
     exact ⟨by simp, hu4.trans hu5 (fun _ _ h => h)⟩
   | true =>
     cases hcd : cf.credit with
     | false =>
       go_enter Tryz.func38, Tryz.ntmps38
       go_wp2_with fail
       refine (HH.out).mono ?_
       rintro x w1 ⟨rfl, hu⟩
       go_upto_region 3 with fail
       have hu2 : Upd Nowhere w (w1.alloc (.cells #[.int .u32 x0, .int .u32 x1, .int .u64 x2, .int .u64 x3, .int .i64 x4] TE)) := hu.alloc _
       obtain ⟨q0, q1, q2, -⟩ := cells5 (Blk.new w1 #[.int .u32 x0, .int .u32 x1, .int .u64 x2, .int .u64 x3, .int .i64 x4] TE)
       go_wp2_with fail
       refine ((HTK _ hu2).out).mono ?_
       rintro x w3 ⟨rfl, hu3⟩
       have hu4 := hu2.trans hu3 (fun _ _ h => h)
       go_wp2_with fail
       refine ((HOPH _ hu4).out).mono ?_
       rintro x w4 ⟨rfl, hu5⟩
       have hu6 := hu4.trans hu5 (fun _ _ h => h)
       obtain ⟨k2, -⟩ := HK.out _ hu6
       rw [hcd] at k2
       go_wp2_with fail
       go_ret
       exact ⟨by simp, hu6⟩
     | true =>
       have hok := HCR.out hcd
       have HMY := fun u => Lib.hid (Credit.may_any (w := u) hok)
       have e1 : cri cf = cf.idle := by unfold cri; rw [if_pos hcd]
       have e2 : crs cf = cf.send := by unfold crs; rw [if_pos hcd]
       have e3 : crh cf = cf.high := by unfold crh; rw [if_pos hcd]
       have HKC := HK
       rw [e1, e2, e3, hcd] at HKC
       obtain ⟨B, hB⟩ : ∃ B, decide (0 ≤ s.hv) = B := ⟨_, rfl⟩
       rw [hB] at HMY
       have hr : (true && (!true || decide (0 ≤ s.hv))) = B := by rw [hB]; simp
       rw [hr]
       clear hok HK HCR e1 e2 e3 hcd hr hB
       go_enter Tryz.func38, Tryz.ntmps38
       go_wp2_with fail
       refine (HH.out).mono ?_
       rintro x w1 ⟨rfl, hu⟩
       go_upto_region 3 with fail
       have hu2 : Upd Nowhere w (w1.alloc (.cells #[.int .u32 x0, .int .u32 x1, .int .u64 x2, .int .u64 x3, .int .i64 x4] TE)) := hu.alloc _
       obtain ⟨q0, q1, q2, -⟩ := cells5 (Blk.new w1 #[.int .u32 x0, .int .u32 x1, .int .u64 x2, .int .u64 x3, .int .i64 x4] TE)
       go_wp2_with fail
       refine ((HTK _ hu2).out).mono ?_
       rintro x w3 ⟨rfl, hu3⟩
       have hu4 := hu2.trans hu3 (fun _ _ h => h)
       go_wp2_with fail
       refine ((HOPH _ hu4).out).mono ?_
       rintro x w4 ⟨rfl, hu5⟩
       have hu6 := hu4.trans hu5 (fun _ _ h => h)
       obtain ⟨k2, k26, k27, k28, k29⟩ := HKC.out _ hu6
       go_wp2_with fail
       refine ((HMY _).out).mono ?_
       rintro x w5 ⟨rfl, hu7⟩
       go_wp2_with fail
       go_ret
       exact ⟨rfl, hu6.trans hu7 (fun _ _ h => h)⟩
end Go.Proofs.YtdddfmdcjjbegaaGreat.Egs

