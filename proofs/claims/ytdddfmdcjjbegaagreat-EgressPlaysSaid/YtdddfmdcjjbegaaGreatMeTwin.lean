/- Twin, Twin3, Twin2, one behind the other. -/
import Derived.Test.YtdddfmdcjjbegaaGreatMeRing
import Derived.Test.YtdddfmdcjjbegaaGreatMeB
import Derived.Test.YtdddfmdcjjbegaaGreatMeA
import Derived.BigQuiet
import Derived.Deep.DeepCutAuto
import Derived.Deep.LoopGhost
namespace Go.Proofs.YtdddfmdcjjbegaaGreat.TwinW
open Go.RowKit Go.Proofs BigFrame Heap HeapW TwinL
open RingW (It KI)
abbrev TT : TypeId := 204
abbrev TN : TypeId := 257
abbrev En := Ent It
theorem wid7 (x : It) : (KI x).length + 2 = 7 := rfl
/-- An entry, as a value. -/
abbrev V (x : En) : Value := .agg #[.int .u64 x.1, .int .u64 x.2.1, .int .u32 (x.2.2.1 : Nat), .int .u32 (x.2.2.2.1 : Nat), .int .u64 (x.2.2.2.2.1 : Nat), .int .u64 (x.2.2.2.2.2.1 : Nat), .int .i64 (x.2.2.2.2.2.2 : Nat)]
abbrev zV : Array Value := #[.int .u64 0, .int .u64 0, .int .u32 0, .int .u32 0, .int .u64 0, .int .u64 0, .int .i64 0]
section
variable {w w' : World} {b g n c came room : Nat} {l : List En}
abbrev HI (w : World) (b : Nat) (v : Value) (came room : Nat) (l : List En) : Prop := HeapIn KI 7 TT TN w b v came room l
/-- Seven cells written into an entry's place. -/
abbrev put7 (w : World) (g i : Nat) (x0 x1 xa xb xc xd xe : Nat) : World := ((((((w.setCell ⟨g, i * 7, none⟩ (.int .u64 x0)).setCell ⟨g, i * 7 + 1, none⟩ (.int .u64 x1)).setCell ⟨g, i * 7 + 2, none⟩ (.int .u32 xa)).setCell ⟨g, i * 7 + 3, none⟩ (.int .u32 xb)).setCell ⟨g, i * 7 + 4, none⟩ (.int .u64 xc)).setCell ⟨g, i * 7 + 5, none⟩ (.int .u64 xd)).setCell ⟨g, i * 7 + 6, none⟩ (.int .i64 xe)
theorem at7 (h : HI w b (.slice (some ⟨g, 0, none⟩) n c) came room l) {i x0 x1 xa xb xc xd xe : Nat} (he : l[i]? = some (x0, x1, xa, xb, xc, xd, xe)) :
 w.cell? ⟨g, i * 7, none⟩ = some (.int .u64 x0) ∧ w.cell? ⟨g, i * 7 + 1, none⟩ = some (.int .u64 x1) ∧ w.cell? ⟨g, i * 7 + 2, none⟩ = some (.int .u32 xa) ∧ w.cell? ⟨g, i * 7 + 3, none⟩ = some (.int .u32 xb) ∧ w.cell? ⟨g, i * 7 + 4, none⟩ = some (.int .u64 xc) ∧ w.cell? ⟨g, i * 7 + 5, none⟩ = some (.int .u64 xd) ∧ w.cell? ⟨g, i * 7 + 6, none⟩ = some (.int .i64 xe) :=
 ⟨(h.at he (j := 0) rfl).1, (h.at he (j := 1) rfl).1, (h.at he (j := 2) rfl).1, (h.at he (j := 3) rfl).1, (h.at he (j := 4) rfl).1, (h.at he (j := 5) rfl).1, (h.at he (j := 6) rfl).1⟩
theorem free7 (h : HI w b (.slice (some ⟨g, 0, none⟩) n c) came room l) {i : Nat} {x : En} (he : l[i]? = some x) :
 w.frozen? ⟨g, i * 7, none⟩ = false ∧ w.frozen? ⟨g, i * 7 + 1, none⟩ = false ∧ w.frozen? ⟨g, i * 7 + 2, none⟩ = false ∧ w.frozen? ⟨g, i * 7 + 3, none⟩ = false ∧ w.frozen? ⟨g, i * 7 + 4, none⟩ = false ∧ w.frozen? ⟨g, i * 7 + 5, none⟩ = false ∧ w.frozen? ⟨g, i * 7 + 6, none⟩ = false :=
 ⟨(h.at he (j := 0) rfl).2, (h.at he (j := 1) rfl).2, (h.at he (j := 2) rfl).2, (h.at he (j := 3) rfl).2, (h.at he (j := 4) rfl).2, (h.at he (j := 5) rfl).2, (h.at he (j := 6) rfl).2⟩
theorem set7 (h : HI w b (.slice (some ⟨g, 0, none⟩) n c) came room l) {i : Nat} (hi : i < l.length) (x0 x1 xa xb xc xd xe : Nat) : HI (put7 w g i x0 x1 xa xb xc xd xe) b (.slice (some ⟨g, 0, none⟩) n c) came room (l.set i (x0, x1, xa, xb, xc, xd, xe)) := h.setN hi (x0, x1, xa, xb, xc, xd, xe)
theorem swap7 (h : HI w b (.slice (some ⟨g, 0, none⟩) n c) came room l) {i j x0 x1 xa xb xc xd xe y0 y1 ya yb yc yd ye : Nat} (hi : l[i]? = some (x0, x1, xa, xb, xc, xd, xe)) (hj : l[j]? = some (y0, y1, ya, yb, yc, yd, ye)) :
 HI (put7 (put7 w g i y0 y1 ya yb yc yd ye) g j x0 x1 xa xb xc xd xe) b (.slice (some ⟨g, 0, none⟩) n c) came room (swp l i j) := by
 rw [swp_eq hi hj]
 exact set7 (set7 h (get_lt hi) y0 y1 ya yb yc yd ye) (by rw [List.length_set]; exact get_lt hj) x0 x1 xa xb xc xd xe
theorem upd7 {S : Nat → Prop} (h : Upd S w w') (hg : g < w.heap.size → S g) (i x0 x1 xa xb xc xd xe : Nat) : Upd S w (put7 w' g i x0 x1 xa xb xc xd xe) :=
 ((((((h.setCell (a := ⟨g, i * 7, none⟩) hg _).setCell (a := ⟨g, i * 7 + 1, none⟩) hg _).setCell (a := ⟨g, i * 7 + 2, none⟩) hg _).setCell (a := ⟨g, i * 7 + 3, none⟩) hg _).setCell (a := ⟨g, i * 7 + 4, none⟩) hg _).setCell (a := ⟨g, i * 7 + 5, none⟩) hg _).setCell (a := ⟨g, i * 7 + 6, none⟩) hg _
end
set_option maxHeartbeats 1000000
set_option maxRecDepth 1000000
theorem wp_old {P : Program} {c : Code} {Q : Exit → Act → World → Prop} {a : Act} {w W : World} (hu : Upd Nowhere w W) (h : ∀ w8, Upd Nowhere w w8 → c.wp P Q a w8) : c.wp P Q a W := h _ hu
theorem ahead_any (x y : En) (w : World) :
 Calls Tryz.prog 173 #[V x, V y] w fun e w' => e = .returned (.bool (ahd x y)) ∧ Upd Nowhere w w' := by
 obtain ⟨x0, x1, xa, xb, xc, xd, xe⟩ := x
 obtain ⟨y0, y1, ya, yb, yc, yd, ye⟩ := y
 have hU : Upd Nowhere w ((w.alloc (.cells #[.int .u64 x0, .int .u64 x1, .int .u32 xa, .int .u32 xb, .int .u64 xc, .int .u64 xd, .int .i64 xe] TN)).alloc (.cells #[.int .u64 y0, .int .u64 y1, .int .u32 ya, .int .u32 yb, .int .u64 yc, .int .u64 yd, .int .i64 ye] TN)) := ((Upd.refl _ _).alloc _).alloc _
 by_cases h1 : x0 < y0
 · have d1 : decide (x0 < y0) = true := decide_eq_true h1
   have e : ahd (x0, x1, xa, xb, xc, xd, xe) (y0, y1, ya, yb, yc, yd, ye) = true := by rw [ahd_iff]; exact .inl h1
   rw [e]
   go_enter Tryz.func173, Tryz.ntmps173
   go_wp2_with fail
   go_ret
   exact ⟨rfl, hU⟩
 · have d1 : decide (x0 < y0) = false := decide_eq_false h1
   by_cases h2 : x0 = y0
   · have d2 : decide (x0 = y0) = true := decide_eq_true h2
     have d3 : ((x0 : Int) == y0) = true := by simp [h2]
     have e : ahd (x0, x1, xa, xb, xc, xd, xe) (y0, y1, ya, yb, yc, yd, ye) = decide (x1 < y1) := by unfold ahd; simp [h2]
     rw [e]
     have H2 := Lib.hid h2
     clear h2
     go_enter Tryz.func173, Tryz.ntmps173
     go_wp2_with fail
     go_ret
     exact ⟨rfl, hU⟩
   · have d2 : decide (x0 = y0) = false := decide_eq_false h2
     have d3 : ((x0 : Int) == y0) = false := by simp; omega
     have e : ahd (x0, x1, xa, xb, xc, xd, xe) (y0, y1, ya, yb, yc, yd, ye) = false := by rw [ahd_not]; simp; omega
     rw [e]
     go_enter Tryz.func173, Tryz.ntmps173
     go_wp2_with fail
     go_ret
     exact ⟨rfl, hU⟩
theorem low_any {p q : Nat} (hq : 2 * p = q) (hp : p ≤ 10000) (w : World) :
 Calls Tryz.prog 174 #[.int .i64 p] w fun e w' => e = .returned (.int .i64 q) ∧ w = w' := by
 have e1 : 2 * (p : Int) = (q : Int) := by omega
 have hq2 : q ≤ 20000 := by omega
 clear hq
 go_enter Tryz.func174, Tryz.ntmps174
 go_wp2_with fail
 go_ret
 exact ⟨rfl, rfl⟩
theorem high_any {w : World} {b n c p q : Nat} {ad : Option Addr} (h : w.cell? ⟨b, 0, none⟩ = some (.slice ad n c)) (hn : 1 ≤ n) (hn2 : n ≤ 4096) (hq : hi n p = q) (hp : p ≤ 10000) :
 Calls Tryz.prog 172 #[.pointer (some ⟨b, 0, none⟩), .int .i64 p] w fun e w' => e = .returned (.int .i64 q) ∧ w = w' := by
 unfold hi at hq
 obtain ⟨d, hd⟩ : ∃ d, 2 * p = d := ⟨_, rfl⟩
 obtain ⟨s, hs⟩ : ∃ s, d + 1 = s := ⟨_, rfl⟩
 obtain ⟨m, hm⟩ : ∃ m, n - 1 = m := ⟨_, rfl⟩
 rw [hd, hs, hm] at hq
 have e1 : 2 * (p : Int) = (d : Int) := by omega
 have e2 : (d : Int) + 1 = (s : Int) := by omega
 have e3 : (n : Int) - 1 = (m : Int) := by omega
 have b1 : d ≤ 20000 := by omega
 have b2 : s ≤ 20001 := by omega
 have b3 : m ≤ 4096 := by omega
 have m1 : min (s : Int) (m : Int) = (q : Int) := by omega
 have m2 : (if (m : Int) < (s : Int) then (m : Int) else (s : Int)) = (q : Int) := by split <;> omega
 have m3 : (if m < s then (m : Int) else (s : Int)) = (q : Int) := by split <;> omega
 clear hq hd hs hm hp hn
 go_enter Tryz.func172, Tryz.ntmps172
 go_wp2_with fail
 go_ret
 exact ⟨rfl, rfl⟩
set_option maxHeartbeats 4000000 in
theorem swap_lt {w : World} {b g n c came room i j : Nat} {l : List En} (h : HI w b (.slice (some ⟨g, 0, none⟩) n c) came room l) (hij : i < j) (hi : i < n) (hj : j < n) :
 Calls Tryz.prog 175 #[.pointer (some ⟨b, 0, none⟩), .int .i64 i, .int .i64 j] w fun e w' => e = .returned (.tuple #[]) ∧ HI w' b (.slice (some ⟨g, 0, none⟩) n c) came room (swp l i j) ∧ Upd (fun q => q = g) w w' := by
 have hlen := h.len
 have hn : n ≤ 4096 := by have := h.le; have := h.r2; omega
 obtain ⟨x, hx⟩ : ∃ x, l[i]? = some x := ⟨l[i]'(by omega), by simp⟩
 obtain ⟨y, hy⟩ : ∃ y, l[j]? = some y := ⟨l[j]'(by omega), by simp⟩
 obtain ⟨x0, x1, xa, xb, xc, xd, xe⟩ := x
 obtain ⟨y0, y1, ya, yb, yc, yd, ye⟩ := y
 obtain ⟨c0, c1, c2, z0, z1, z2⟩ := cells3 h.blk
 obtain ⟨k0, k1, k2, k3, k4, k5, k6⟩ := at7 h hx
 obtain ⟨j0, j1, j2, j3, j4, j5, j6⟩ := at7 h hy
 obtain ⟨f0, f1, f2, f3, f4, f5, f6⟩ := free7 h hx
 obtain ⟨g0, g1, g2, g3, g4, g5, g6⟩ := free7 h hy
 have hI : (i : Int) < n := by omega
 have hJ : (j : Int) < n := by omega
 have H1 := Lib.hid h
 have Hx := Lib.hid hx
 have Hy := Lib.hid hy
 clear h hx hy hlen
 go_enter Tryz.func175, Tryz.ntmps175
 go_wp2_with fail
 refine wp_region_tail 24 (by kernel_rfl) (by kernel_rfl) ?_
 simp only [List.take_succ_cons, List.take_zero, List.drop_succ_cons, List.drop_zero]
 repeat (go_big_quiet_step (fail))
 refine wpQuiet_nil ?_
 rintro _ ⟨nq2, rfl⟩
 go_wp2_with fail
 refine Stage.out ?_
 have hS := Lib.hid (swap7 (H1.out.old ((Upd.refl _ _).drewN nq2)) Hx.out Hy.out)
 have hUS := Lib.hid (upd7 (upd7 ((Upd.refl (fun q => q = g) w).drewN nq2) (fun _ => rfl) i y0 y1 ya yb yc yd ye) (fun _ => rfl) j x0 x1 xa xb xc xd xe)
 go_wp2_with fail
 go_end0
 exact ⟨rfl, hS.out, hUS.out⟩
set_option maxHeartbeats 4000000 in
theorem swap_gt {w : World} {b g n c came room i j : Nat} {l : List En} (h : HI w b (.slice (some ⟨g, 0, none⟩) n c) came room l) (hij : j < i) (hi : i < n) (hj : j < n) :
 Calls Tryz.prog 175 #[.pointer (some ⟨b, 0, none⟩), .int .i64 i, .int .i64 j] w fun e w' => e = .returned (.tuple #[]) ∧ HI w' b (.slice (some ⟨g, 0, none⟩) n c) came room (swp l i j) ∧ Upd (fun q => q = g) w w' := by
 have hlen := h.len
 have hn : n ≤ 4096 := by have := h.le; have := h.r2; omega
 obtain ⟨x, hx⟩ : ∃ x, l[i]? = some x := ⟨l[i]'(by omega), by simp⟩
 obtain ⟨y, hy⟩ : ∃ y, l[j]? = some y := ⟨l[j]'(by omega), by simp⟩
 obtain ⟨x0, x1, xa, xb, xc, xd, xe⟩ := x
 obtain ⟨y0, y1, ya, yb, yc, yd, ye⟩ := y
 obtain ⟨c0, c1, c2, z0, z1, z2⟩ := cells3 h.blk
 obtain ⟨k0, k1, k2, k3, k4, k5, k6⟩ := at7 h hx
 obtain ⟨j0, j1, j2, j3, j4, j5, j6⟩ := at7 h hy
 obtain ⟨f0, f1, f2, f3, f4, f5, f6⟩ := free7 h hx
 obtain ⟨g0, g1, g2, g3, g4, g5, g6⟩ := free7 h hy
 have hI : (i : Int) < n := by omega
 have hJ : (j : Int) < n := by omega
 have H1 := Lib.hid h
 have Hx := Lib.hid hx
 have Hy := Lib.hid hy
 clear h hx hy hlen
 go_enter Tryz.func175, Tryz.ntmps175
 go_wp2_with fail
 refine wp_region_tail 24 (by kernel_rfl) (by kernel_rfl) ?_
 simp only [List.take_succ_cons, List.take_zero, List.drop_succ_cons, List.drop_zero]
 repeat (go_big_quiet_step (fail))
 refine wpQuiet_nil ?_
 rintro _ ⟨nq2, rfl⟩
 go_wp2_with fail
 refine Stage.out ?_
 have hS := Lib.hid (swap7 (H1.out.old ((Upd.refl _ _).drewN nq2)) Hx.out Hy.out)
 have hUS := Lib.hid (upd7 (upd7 ((Upd.refl (fun q => q = g) w).drewN nq2) (fun _ => rfl) i y0 y1 ya yb yc yd ye) (fun _ => rfl) j x0 x1 xa xb xc xd xe)
 go_wp2_with fail
 go_end0
 exact ⟨rfl, hS.out, hUS.out⟩
theorem swap_any {w : World} {b g n c came room i j : Nat} {l : List En} (h : HI w b (.slice (some ⟨g, 0, none⟩) n c) came room l) (hij : i ≠ j) (hi : i < n) (hj : j < n) :
 Calls Tryz.prog 175 #[.pointer (some ⟨b, 0, none⟩), .int .i64 i, .int .i64 j] w fun e w' => e = .returned (.tuple #[]) ∧ HI w' b (.slice (some ⟨g, 0, none⟩) n c) came room (swp l i j) ∧ Upd (fun q => q = g) w w' := by
 rcases Nat.lt_or_gt_of_ne hij with h1 | h1
 · exact swap_lt h h1 hi hj
 · exact swap_gt h h1 hi hj
end Go.Proofs.YtdddfmdcjjbegaaGreat.TwinW
namespace Go.Proofs.YtdddfmdcjjbegaaGreat.TwinW
open Go.RowKit Go.Proofs BigFrame Heap HeapW TwinL
open RingW (It KI)
set_option maxHeartbeats 4000000
set_option maxRecDepth 1000000
theorem sinkLow_any {w : World} {b g n c came room : Nat} {l : List En} (h : HI w b (.slice (some ⟨g, 0, none⟩) n c) came room l) (h0 : 0 < n) :
 Calls Tryz.prog 170 #[.pointer (some ⟨b, 0, none⟩)] w fun e w' => e = .returned (.tuple #[]) ∧ HI w' b (.slice (some ⟨g, 0, none⟩) n c) came room (snkL l 0) ∧ Upd (fun q => q = g) w w' := by
 obtain ⟨R, hR⟩ : ∃ R, snkL l 0 = R := ⟨_, rfl⟩
 rw [hR]
 have hr2 := h.r2
 have hn : n ≤ 4096 := by have := h.le; have := h.len; omega
 have HR := Lib.hid hR
 have H0 := Lib.hid h
 clear hR h
 go_enter Tryz.func170, Tryz.ntmps170
 go_wp2_with fail
 go_loopg [2, 3, 4] (n + 1) (fun gk v2 _ _ wr => ∃ (p : Nat) (m : List En), n - p < gk ∧ v2 = .int .i64 p ∧ 2 * p < n ∧ Hid (snkL m p = R) ∧ HI wr b (.slice (some ⟨g, 0, none⟩) n c) came room m ∧ Upd (fun q => q = g) w wr)
 case atStart => exact ⟨0, l, by omega, rfl, by omega, HR, H0.out, Upd.refl _ _⟩
 case round =>
  obtain ⟨p, m, hgk, rfl, hp, HRi, hH, hu⟩ := hrel
  obtain ⟨wB, rfl⟩ : ∃ x, x = wr := ⟨_, rfl⟩
  have HGK := Lib.hid hgk
  have H1 := Lib.hid hH
  have HU := Lib.hid hu
  obtain ⟨c0, c1, c2, z0, z1, z2⟩ := cells3 hH.blk
  have hlen := hH.len
  have HLN := Lib.hid hlen
  clear hgk hH hu H0 HR
  obtain ⟨a, ha⟩ : ∃ a, 2 * p = a := ⟨_, rfl⟩
  obtain ⟨bb, hbb⟩ : ∃ bb, hi n p = bb := ⟨_, rfl⟩
  have t1 : a < n := by omega
  have t2 : bb < n := by rw [← hbb]; unfold hi; omega
  have HLA := fun u => Lib.hid (low_any ha (by omega) u)
  have HHB := fun (u : World) (hu : u.cell? ⟨b, 0, none⟩ = some (.slice (some ⟨g, 0, none⟩) n c)) => Lib.hid (high_any hu (by omega) hn hbb (by omega))
  obtain ⟨x, hx⟩ : ∃ x, m[bb]? = some x := ⟨m[bb]'(by omega), by simp⟩
  obtain ⟨y, hy⟩ : ∃ y, m[a]? = some y := ⟨m[a]'(by omega), by simp⟩
  obtain ⟨B, hB⟩ : ∃ B, ahdAt m bb a = B := ⟨_, rfl⟩
  have hxy : ahd x y = B := by rw [← hB, ahdAt_eq hx hy]
  have hne : B = true → bb ≠ a := fun hb e => by
   subst e
   rw [hx] at hy
   obtain rfl := Option.some.inj hy
   rw [ahd_self] at hxy
   rw [hb] at hxy; cases hxy
  have hpair : pairT m p = if B = true then swp m bb a else m := by unfold pairT; rw [← hlen, hbb, ha, hB]
  obtain ⟨m1, hm1⟩ : ∃ m1, pairT m p = m1 := ⟨_, rfl⟩
  rw [hm1] at hpair
  have HM1 := Lib.hid hm1
  have HPR := Lib.hid hpair
  have HNE := Lib.hid hne
  obtain ⟨x0, x1, xa, xb, xc, xd, xe⟩ := x
  obtain ⟨y0, y1, ya, yb, yc, yd, ye⟩ := y
  have HA := fun u => Lib.hid (ahead_any (x0, x1, xa, xb, xc, xd, xe) (y0, y1, ya, yb, yc, yd, ye) u)
  rw [hxy] at HA
  obtain ⟨k0, k1, k2, k3, k4, k5, k6⟩ := at7 (H1.out) hx
  obtain ⟨j0, j1, j2, j3, j4, j5, j6⟩ := at7 (H1.out) hy
  have s1 : (a : Int) < n := by omega
  have s2 : (bb : Int) < n := by omega
  have HAE := Lib.hid ha
  have HBE := Lib.hid hbb
  clear hx hy hlen ha hbb hB hxy hne hm1 hpair
  go_wp2_with fail
  refine ((HHB _ (by exact c0)).out).mono ?_
  rintro e w' ⟨rfl, rfl⟩
  go_wp2_with fail
  refine wp_region_tail 15 (by kernel_rfl) (by kernel_rfl) ?_
  simp only [List.take_succ_cons, List.take_zero, List.drop_succ_cons, List.drop_zero]
  repeat (go_big_quiet_step ((go_at_call 174; exact quiet_same (HLA _).out)))
  refine wpQuiet_nil ?_
  rintro _ ⟨nq, rfl⟩
  go_wp2_with fail
  refine ((HA _).out).mono ?_
  rintro e wC ⟨rfl, hC⟩
  have huC : Upd Nowhere wB wC := ((Upd.refl _ _).drewN nq).trans hC (fun _ _ h => h)
  have H2 := Lib.hid (H1.out.old huC)
  have HU2 := Lib.hid (HU.out.trans huC (fun _ _ h => h.elim))
  clear hC huC HA c0 c1 c2 z0 z1 z2 k0 k1 k2 k3 k4 k5 k6 j0 j1 j2 j3 j4 j5 j6 H1 HU
  go_wp2_with fail
  refine Stage.out ?_
  go_upto_if 23 with fail
  go_cut [] (fun wx => HI wx b (.slice (some ⟨g, 0, none⟩) n c) came room m1 ∧ Upd (fun q => q = g) w wx)
  case first =>
   have hpr := HPR.out
   cases B with
   | false =>
     rw [if_neg (by simp)] at hpr
     subst hpr
     go_wp2_with fail
     go_meet
     exact ⟨H2.out, HU2.out⟩
   | true =>
     rw [if_pos rfl] at hpr
     subst hpr
     have HS := Lib.hid (swap_any H2.out (HNE.out rfl) t2 t1)
     go_wp2_with fail
     refine ((HLA _).out).mono ?_
     rintro e w' ⟨rfl, rfl⟩
     go_wp2_with fail
     refine (HS.out).mono ?_
     rintro e wD ⟨rfl, hD, hD2⟩
     go_wp2_with fail
     go_meet
     exact ⟨hD, HU2.out.trans hD2 (fun _ _ h => h)⟩
  case rest =>
   obtain ⟨hH, hu⟩ := hcut
   obtain ⟨w3, rfl⟩ : ∃ x, x = wc := ⟨_, rfl⟩
   have H3 := Lib.hid hH
   have HU3 := Lib.hid hu
   obtain ⟨c0, c1, c2, z0, z1, z2⟩ := cells3 hH.blk
   have hlen3 := hH.len
   have HLN3 := Lib.hid hlen3
   clear hH hu H2 HU2 HNE HPR hlen3
   obtain ⟨q, hq⟩ : ∃ q, 2 * p + 1 = q := ⟨_, rfl⟩
   have e1 : 2 * (p : Int) = (a : Int) := by have := HAE.out; omega
   have e1' : (a : Int) + 1 = (q : Int) := by have := HAE.out; omega
   obtain ⟨f, hf⟩ : ∃ f, 2 * q = f := ⟨_, rfl⟩
   have HLF := fun u => Lib.hid (low_any hf (by omega) u)
   have HQE := Lib.hid hq
   have HFE := Lib.hid hf
   rcases Nat.lt_or_ge f n with hlt | hge
   · have d0 : decide (n ≤ f) = false := by simp; omega
     obtain ⟨r, hr⟩ : ∃ r, q + 1 = r := ⟨_, rfl⟩
     have e2 : (q : Int) + 1 = (r : Int) := by omega
     obtain ⟨f2, hf2⟩ : ∃ f2, 2 * r = f2 := ⟨_, rfl⟩
     have HLF2 := fun u => Lib.hid (low_any hf2 (by omega) u)
     have HRE := Lib.hid hr
     have HF2E := Lib.hid hf2
     clear hr hq hf hf2
     go_upto_region 5 with fail
     go_quiet ((go_at_call 174; exact quiet_same (HLF _).out))
     have hu4 : Upd Nowhere w3 (w3.drewN nq) := (Upd.refl _ _).drewN nq
     generalize w3.drewN nq = w4 at *
     have H4 := Lib.hid (H3.out.old hu4)
     have HU4 := Lib.hid (HU3.out.trans hu4 (fun _ _ h => h.elim))
     clear hu4 c0 c1 c2 z0 z1 z2 H3 HU3
     obtain ⟨c0, c1, c2, z0, z1, z2⟩ := cells3 H4.out.blk
     go_upto_region 6 with fail
     obtain ⟨B2, hB2⟩ : ∃ B2, (decide (f2 < n) && ahdAt m1 f2 f) = B2 := ⟨_, rfl⟩
     have HB2 := Lib.hid hB2
     clear hB2
     go_cut [68] (fun tv wx => tv = .bool B2 ∧ HI wx b (.slice (some ⟨g, 0, none⟩) n c) came room m1 ∧ Upd (fun q => q = g) w wx)
     case first =>
      rcases Nat.lt_or_ge f2 n with hl2 | hg2
      · have d1 : decide (f2 < n) = true := decide_eq_true hl2
        have d2 : decide ((f2 : Int) < n) = true := decide_eq_true (by omega)
        have HS0 := Lib.hid hl2
        obtain ⟨x, hx⟩ : ∃ x, m1[f2]? = some x := ⟨m1[f2]'(by have := HLN3.out; omega), by simp⟩
        obtain ⟨y, hy⟩ : ∃ y, m1[f]? = some y := ⟨m1[f]'(by have := HLN3.out; omega), by simp⟩
        have hb : ahd x y = B2 := by rw [← HB2.out, d1, ahdAt_eq hx hy]; simp
        obtain ⟨x0, x1, xa, xb, xc, xd, xe⟩ := x
        obtain ⟨y0, y1, ya, yb, yc, yd, ye⟩ := y
        have HA := fun u => Lib.hid (ahead_any (x0, x1, xa, xb, xc, xd, xe) (y0, y1, ya, yb, yc, yd, ye) u)
        rw [hb] at HA
        obtain ⟨k0, k1, k2, k3, k4, k5, k6⟩ := at7 (H4.out) hx
        obtain ⟨j0, j1, j2, j3, j4, j5, j6⟩ := at7 (H4.out) hy
        have s3 : (f2 : Int) < n := by omega
        have s4 : (f : Int) < n := by omega
        clear hx hy hb
        refine wp_region_tail 27 (by kernel_rfl) (by kernel_rfl) ?_
        simp only [List.take_succ_cons, List.take_zero, List.drop_succ_cons, List.drop_zero]
        repeat (go_big_quiet_step ((go_at_call 174; first | with_reducible exact quiet_same (HLF2 _).out | with_reducible exact quiet_same (HLF _).out)))
        refine wpQuiet_nil ?_
        rintro _ ⟨nq, rfl⟩
        go_wp2_with fail
        refine ((HA _).out).mono ?_
        rintro e wD ⟨rfl, hD⟩
        have huD : Upd Nowhere w4 wD := ((Upd.refl _ _).drewN nq).trans hD (fun _ _ h => h)
        go_wp2_with fail
        refine Stage.out ?_
        go_wp2_with fail
        go_meet
        exact ⟨rfl, H4.out.old huD, HU4.out.trans huD (fun _ _ h => h.elim)⟩
      · have d1 : decide (f2 < n) = false := by simp; omega
        have d2 : decide ((f2 : Int) < n) = false := by simp; omega
        have hb : B2 = false := by rw [← HB2.out, d1]; rfl
        subst hb
        go_quiet ((go_at_call 174; exact quiet_same (HLF2 _).out))
        go_wp2_with fail
        go_meet
        exact ⟨rfl, H4.out.old ((Upd.refl _ _).drewN _), HU4.out.drewN _⟩
     case rest =>
      obtain ⟨rfl, hH, hu⟩ := hcut
      obtain ⟨w5, rfl⟩ : ∃ x, x = wc := ⟨_, rfl⟩
      have H5 := Lib.hid hH
      have HU5 := Lib.hid hu
      clear hH hu H4 HU4 c0 c1 c2 z0 z1 z2
      obtain ⟨u, hu⟩ : ∃ u, (if B2 = true then r else q) = u := ⟨_, rfl⟩
      have hku : kidL m1 p = u := by
       rw [← hu]
       have e3 := HAE.out
       have e4 := HQE.out
       have e5 := HRE.out
       have e6 := HFE.out
       have e7 := HF2E.out
       unfold kidL
       rw [← HLN3.out, show 2 * p + 2 = r by omega, show 2 * p + 1 = q by omega, show 2 * r = f2 by omega, show 2 * q = f by omega]
       have e8 := HB2.out
       cases B2 with
       | true => simp at e8; rw [if_pos e8, if_pos rfl]
       | false =>
         have hn1 : ¬ (f2 < n ∧ ahdAt m1 f2 f = true) := by
          rintro ⟨h1, h2⟩
          rw [h2] at e8
          simp at e8
          omega
         rw [if_neg hn1, if_neg (by simp)]
      have HKU := Lib.hid hku
      have HUU := Lib.hid hu
      have hun : u = q ∨ u = r ∧ f2 < n := by
       rw [← hu]
       cases B2 with
       | true => exact .inr ⟨rfl, by have e8 := HB2.out; simp at e8; exact e8.1⟩
       | false => exact .inl rfl
      have hf2e := HF2E.out
      have hfe := HFE.out
      have hqe := HQE.out
      have hre := HRE.out
      have hu1 : 2 * u < n := by omega
      have hu2 : p < u := by omega
      have hu3 : u ≤ n := by omega
      clear hku hun hf2e hfe hqe hre
      go_upto_if 68 with fail
      go_cut [4] (fun tv wx => tv = .int .i64 u ∧ wx = w5)
      case first =>
       cases B2 with
       | true =>
         rw [if_pos rfl] at hu
         subst hu
         go_wp2_with fail
         go_meet
         exact ⟨rfl, rfl⟩
       | false =>
         rw [if_neg (by simp)] at hu
         subst hu
         go_wp2_with fail
         go_meet
         exact ⟨rfl, rfl⟩
      case rest =>
       obtain ⟨rfl, hwc⟩ := hcut
       obtain rfl : w5 = wc := hwc.symm
       clear hu HB2 HLF HLF2 hwc
       obtain ⟨c0, c1, c2, z0, z1, z2⟩ := cells3 H5.out.blk
       obtain ⟨s, hs⟩ : ∃ s, 2 * u = s := ⟨_, rfl⟩
       have t3 : s < n := by rw [← hs]; omega
       have s5 : (s : Int) < n := by omega
       have HLS := fun u => Lib.hid (low_any hs (by omega) u)
       obtain ⟨x, hx⟩ : ∃ x, m1[s]? = some x := ⟨m1[s]'(by have := HLN3.out; omega), by simp⟩
       obtain ⟨y, hy⟩ : ∃ y, m1[a]? = some y := ⟨m1[a]'(by have := HLN3.out; omega), by simp⟩
       have hA : ahdAt m1 s a = ahd x y := ahdAt_eq hx hy
       have hne2 : s ≠ a := by have := HAE.out; have := HBE.out; unfold hi at *; omega
       have HNE2 := Lib.hid hne2
       have HAA := Lib.hid hA
       have HSE := Lib.hid hs
       obtain ⟨x0, x1, xa, xb, xc, xd, xe⟩ := x
       obtain ⟨y0, y1, ya, yb, yc, yd, ye⟩ := y
       have HA := fun u => Lib.hid (ahead_any (x0, x1, xa, xb, xc, xd, xe) (y0, y1, ya, yb, yc, yd, ye) u)
       obtain ⟨k0, k1, k2, k3, k4, k5, k6⟩ := at7 (H5.out) hx
       obtain ⟨j0, j1, j2, j3, j4, j5, j6⟩ := at7 (H5.out) hy
       clear hx hy hA hs hne2
       go_upto_region 8 with fail
       refine wp_region_tail 16 (by kernel_rfl) (by kernel_rfl) ?_
       simp only [List.take_succ_cons, List.take_zero, List.drop_succ_cons, List.drop_zero]
       repeat (go_big_quiet_step ((go_at_call 174; first | with_reducible exact quiet_same (HLS _).out | with_reducible exact quiet_same (HLA _).out)))
       refine wpQuiet_nil ?_
       rintro _ ⟨nq, rfl⟩
       go_wp2_with fail
       refine ((HA _).out).mono ?_
       rintro e wD ⟨rfl, hD⟩
       have huD : Upd Nowhere w5 wD := ((Upd.refl _ _).drewN nq).trans hD (fun _ _ h => h)
       have H6 := Lib.hid (H5.out.old huD)
       have HU6 := Lib.hid (HU5.out.trans huD (fun _ _ h => h.elim))
       clear hD huD HA c0 c1 c2 z0 z1 z2 k0 k1 k2 k3 k4 k5 k6 j0 j1 j2 j3 j4 j5 j6 H5 HU5
       obtain ⟨c0, c1, c2, z0, z1, z2⟩ := cells3 H6.out.blk
       cases hab : ahd (x0, x1, xa, xb, xc, xd, xe) (y0, y1, ya, yb, yc, yd, ye) with
       | true =>
         have hpn : 2 * (2 * p + 1) < m.length := by have h1 := HLN.out; have h2 := HQE.out; have h3 := HFE.out; omega
         have hup := snkL_step hpn HM1.out HKU.out (by rw [HSE.out, HAE.out, HAA.out]; exact hab)
         rw [HSE.out, HAE.out, HRi.out] at hup
         have HUP := Lib.hid hup
         have HS := Lib.hid (swap_any H6.out HNE2.out (by omega) (by omega))
         clear hup hab HAA hpn
         go_wp2_with fail
         refine Stage.out ?_
         go_wp2_with fail
         refine ((HLS _).out).mono ?_
         rintro e w' ⟨rfl, rfl⟩
         go_wp2_with fail
         refine ((HLA _).out).mono ?_
         rintro e w' ⟨rfl, rfl⟩
         go_wp2_with fail
         refine (HS.out).mono ?_
         rintro e wE ⟨rfl, hD, hD2⟩
         have HD := Lib.hid hD
         have HUD := Lib.hid (HU6.out.trans hD2 (fun _ _ h => h))
         clear hD hD2 c0 c1 c2 z0 z1 z2
         go_wp2_with fail
         go_roundg (n - p)
         case rel => exact ⟨u, _, by omega, rfl, hu1, Lib.hid HUP.out.symm, HD.out, HUD.out⟩
         case measure => have := HGK.out; omega
       | false =>
         have hup := snkL_stop HM1.out HKU.out (by rw [HSE.out, HAE.out, HAA.out]; exact hab)
         rw [HRi.out] at hup
         have HUP := Lib.hid hup
         clear hup hab HAA
         go_wp2_with fail
         refine Stage.out ?_
         go_wp2_with fail
         have e := HUP.out
         subst e
         exact bodyPost_ret (results_none rfl _ _ _) rfl ⟨rfl, H6.out, HU6.out⟩
   · have d0 : decide (n ≤ f) = true := decide_eq_true hge
     have hup := snkL_none (l := m) (p := p) (by rw [hq, hf, ← HLN.out]; omega)
     rw [HRi.out, HM1.out] at hup
     have HUP := Lib.hid hup
     clear hup hq hf
     go_upto_region 5 with fail
     go_quiet ((go_at_call 174; exact quiet_same (HLF _).out))
     have hu4 : Upd Nowhere w3 (w3.drewN nq) := (Upd.refl _ _).drewN nq
     generalize w3.drewN nq = w4 at *
     go_wp2_with fail
     have e := HUP.out
     subst e
     exact bodyPost_ret (results_none rfl _ _ _) rfl ⟨rfl, H3.out.old hu4, HU3.out.trans hu4 (fun _ _ h => h.elim)⟩
end Go.Proofs.YtdddfmdcjjbegaaGreat.TwinW
namespace Go.Proofs.YtdddfmdcjjbegaaGreat.TwinW
open Go.RowKit Go.Proofs BigFrame Heap HeapW TwinL
open RingW (It KI)
set_option maxHeartbeats 4000000
set_option maxRecDepth 1000000
theorem up_any {w : World} {b g n c came room k : Nat} {l : List En} (h : HI w b (.slice (some ⟨g, 0, none⟩) n c) came room l) (hk : k < n) :
 Calls Tryz.prog 171 #[.pointer (some ⟨b, 0, none⟩), .int .i64 k] w fun e w' => e = .returned (.tuple #[]) ∧ HI w' b (.slice (some ⟨g, 0, none⟩) n c) came room (upT (prT l k) (k / 2)) ∧ Upd (fun q => q = g) w w' := by
 obtain ⟨R, hR⟩ : ∃ R, upT (prT l k) (k / 2) = R := ⟨_, rfl⟩
 rw [hR]
 have hr2 := h.r2
 have hlen0 := h.len
 have hn : n ≤ 4096 := by have := h.le; omega
 obtain ⟨P, hP⟩ : ∃ P, k / 2 = P := ⟨_, rfl⟩
 rw [hP] at hR
 have hP2 : (k : Int).tdiv 2 = (P : Int) := by rw [← hP]; rfl
 have hPk : P * 2 ≤ k := by omega
 have HR := Lib.hid hR
 have HPP := Lib.hid hP
 have H0 := Lib.hid h
 have HL0 := Lib.hid hlen0
 obtain ⟨c0, c1, c2, z0, z1, z2⟩ := cells3 h.blk
 clear hR h hP hlen0
 obtain ⟨o, ho⟩ : ∃ o : Nat, k % 2 = o := ⟨_, rfl⟩
 have ho2 : (k : Int).tmod 2 = (o : Int) := by rw [← ho]; rfl
 have HO := Lib.hid ho
 have hO2 : o < 2 := by omega
 clear ho
 go_enter Tryz.func171, Tryz.ntmps171
 go_wp2_with fail
 go_upto_region 1 with fail
 obtain ⟨B, hB⟩ : ∃ B, (decide (k % 2 = 1) && ahdAt l k (k - 1)) = B := ⟨_, rfl⟩
 have HB := Lib.hid hB
 clear hB
 go_cut [30] (fun tv wc => tv = .bool B ∧ HI wc b (.slice (some ⟨g, 0, none⟩) n c) came room l ∧ Upd (fun q => q = g) w wc)
 case first =>
  rcases (show o = 0 ∨ o = 1 by omega) with rfl | rfl
  · have d1 : ((0 : Int) == 1) = false := by decide
    have hb : B = false := by rw [← HB.out, HO.out]; rfl
    subst hb
    go_quiet (fail)
    go_wp2_with fail
    go_meet
    exact ⟨rfl, H0.out.old ((Upd.refl _ _).drewN _), ((Upd.refl _ _).drewN _)⟩
  · have d1 : ((1 : Int) == 1) = true := by decide
    have hO := HO.out
    obtain ⟨k1, hk1⟩ : ∃ k1, k - 1 = k1 := ⟨_, rfl⟩
    have ek : (k : Int) - 1 = (k1 : Int) := by omega
    have hk2 : (k1 : Int) < n := by omega
    have hk3 : (k : Int) < n := by omega
    have hL := HL0.out
    obtain ⟨x, hx⟩ : ∃ x, l[k]? = some x := ⟨l[k]'(by omega), by simp⟩
    obtain ⟨y, hy⟩ : ∃ y, l[k1]? = some y := ⟨l[k1]'(by omega), by simp⟩
    have hb : ahd x y = B := by rw [← HB.out, hO, hk1, ahdAt_eq hx hy]; simp
    obtain ⟨x0, x1, xa, xb, xc, xd, xe⟩ := x
    obtain ⟨y0, y1, ya, yb, yc, yd, ye⟩ := y
    have HA := fun u => Lib.hid (ahead_any (x0, x1, xa, xb, xc, xd, xe) (y0, y1, ya, yb, yc, yd, ye) u)
    rw [hb] at HA
    obtain ⟨k0, k1', k2, k3, k4, k5, k6⟩ := at7 H0.out hx
    obtain ⟨j0, j1, j2, j3, j4, j5, j6⟩ := at7 H0.out hy
    clear hx hy hb hL hO hk1
    refine wp_region_tail 19 (by kernel_rfl) (by kernel_rfl) ?_
    simp only [List.take_succ_cons, List.take_zero, List.drop_succ_cons, List.drop_zero]
    repeat (go_big_quiet_step (fail))
    refine wpQuiet_nil ?_
    rintro _ ⟨nq, rfl⟩
    go_wp2_with fail
    refine ((HA _).out).mono ?_
    rintro e wC ⟨rfl, hC⟩
    have huC : Upd Nowhere w wC := ((Upd.refl _ _).drewN nq).trans hC (fun _ _ h => h)
    go_wp2_with fail
    refine Stage.out ?_
    go_wp2_with fail
    go_meet
    exact ⟨rfl, H0.out.old huC, huC.any _⟩
 case rest =>
  obtain ⟨rfl, hH, hU⟩ := hcut
  have H1 := Lib.hid hH
  have HU1 := Lib.hid hU
  clear hH hU H0 c0 c1 c2 z0 z1 z2 ho2 hO2
  go_upto_if 30 with fail
  go_cut [] (fun wx => HI wx b (.slice (some ⟨g, 0, none⟩) n c) came room (prT l k) ∧ Upd (fun q => q = g) w wx)
  case first =>
   cases B with
   | false =>
     go_wp2_with fail
     go_meet
     have e : prT l k = l := by
      have hb := HB.out
      unfold prT
      rw [if_neg]
      rintro ⟨h1, h2⟩
      rw [h2] at hb
      simp at hb
      omega
     rw [e]
     exact ⟨H1.out, HU1.out⟩
   | true =>
     have hb := HB.out
     simp at hb
     obtain ⟨hb1, hb2⟩ := hb
     obtain ⟨k1, hk1⟩ : ∃ k1, k - 1 = k1 := ⟨_, rfl⟩
     have ek : (k : Int) - 1 = (k1 : Int) := by omega
     have hne : k ≠ k1 := by omega
     have hk1n : k1 < n := by omega
     have HS := Lib.hid (swap_any H1.out hne hk hk1n)
     have e : swp l k k1 = prT l k := by unfold prT; rw [if_pos ⟨hb1, hb2⟩, hk1]
     rw [e] at HS
     clear hb1 hb2 hk1 hne e
     go_wp2_with fail
     refine (HS.out).mono ?_
     rintro e wC ⟨rfl, hC, hC2⟩
     go_wp2_with fail
     go_meet
     exact ⟨hC, HU1.out.trans hC2 (fun _ _ h => h)⟩
  case rest =>
   obtain ⟨hH, hU⟩ := hcut
   obtain ⟨m0, hm0⟩ : ∃ m0, prT l k = m0 := ⟨_, rfl⟩
   have HRR := HR.out
   rw [hm0] at hH HRR
   have HM0 := Lib.hid hH
   have HU0 := Lib.hid hU
   have HR2 := Lib.hid HRR
   clear hH hU HRR hm0 H1 HU1 HR HB HL0 HO HPP
   go_wp2_with fail
   go_loopw [4, 5, 6, 7] (fun v4 _ _ _ wr => ∃ (p : Nat) (m : List En), v4 = .int .i64 p ∧ 2 * p < n ∧ Hid (upT m p = R) ∧ HI wr b (.slice (some ⟨g, 0, none⟩) n c) came room m ∧ Upd (fun q => q = g) w wr) (fun v4 _ _ _ _ => (intOf v4).toNat)
   case atStart => exact ⟨P, m0, rfl, by omega, HR2, HM0.out, HU0.out⟩
   case round =>
    obtain ⟨p, m, rfl, hp, HRi, hH, hu⟩ := hrel
    obtain ⟨wB, rfl⟩ : ∃ x, x = wr := ⟨_, rfl⟩
    have H1 := Lib.hid hH
    have HU := Lib.hid hu
    obtain ⟨c0, c1, c2, z0, z1, z2⟩ := cells3 hH.blk
    have hlen := hH.len
    have HLN := Lib.hid hlen
    clear hH hu HM0 HU0 HR2
    rcases Nat.eq_zero_or_pos p with hp0 | hpos
    · subst hp0
      go_wp2_with fail
      go_end0
      have e := HRi.out
      rw [upT_zero] at e
      subst e
      exact ⟨rfl, H1.out, HU.out⟩
    · have hI : (p : Int) > 0 := by omega
      obtain ⟨q, hq⟩ : ∃ q, (p - 1) / 2 = q := ⟨_, rfl⟩
      have hqp : q < p := by omega
      have hQ : ((p : Int) - 1).tdiv 2 = (q : Int) := by rw [show (p : Int) - 1 = ((p - 1 : Nat) : Int) by omega, ← hq]; rfl
      have Hq := Lib.hid hq
      obtain ⟨a, ha⟩ : ∃ a, 2 * p = a := ⟨_, rfl⟩
      obtain ⟨a2, ha2⟩ : ∃ a2, 2 * q = a2 := ⟨_, rfl⟩
      obtain ⟨bb, hbb⟩ : ∃ bb, hi n p = bb := ⟨_, rfl⟩
      obtain ⟨b2, hb2⟩ : ∃ b2, hi n q = b2 := ⟨_, rfl⟩
      have t1 : a < n := by omega
      have t2 : a2 < n := by omega
      have t3 : bb < n := by rw [← hbb]; unfold hi; omega
      have t4 : b2 < n := by rw [← hb2]; unfold hi; omega
      have t5 : a ≠ a2 := by omega
      have t6 : bb ≠ b2 := by rw [← hbb, ← hb2]; unfold hi; omega
      have X5 := Lib.hid t5
      have X6 := Lib.hid t6
      have HL1 := fun u => Lib.hid (low_any ha (by omega) u)
      have HL2 := fun u => Lib.hid (low_any ha2 (by omega) u)
      have HH1 := fun (u : World) (hu : u.cell? ⟨b, 0, none⟩ = some (.slice (some ⟨g, 0, none⟩) n c)) => Lib.hid (high_any hu (by omega) hn hbb (by omega))
      have HH2 := fun (u : World) (hu : u.cell? ⟨b, 0, none⟩ = some (.slice (some ⟨g, 0, none⟩) n c)) => Lib.hid (high_any hu (by omega) hn hb2 (by omega))
      have hb2' : hi m.length q = b2 := by rw [← hlen]; exact hb2
      have hbb' : hi m.length p = bb := by rw [← hlen]; exact hbb
      have A1 := Lib.hid ha
      have A2 := Lib.hid ha2
      have B1 := Lib.hid hbb'
      have B2 := Lib.hid hb2'
      obtain ⟨x, hx⟩ : ∃ x, m[a]? = some x := ⟨m[a]'(by omega), by simp⟩
      obtain ⟨y, hy⟩ : ∃ y, m[a2]? = some y := ⟨m[a2]'(by omega), by simp⟩
      obtain ⟨x', hx'⟩ : ∃ x, m[b2]? = some x := ⟨m[b2]'(by omega), by simp⟩
      obtain ⟨y', hy'⟩ : ∃ y, m[bb]? = some y := ⟨m[bb]'(by omega), by simp⟩
      have hA : ahdAt m a a2 = ahd x y := ahdAt_eq hx hy
      have hA' : ahdAt m b2 bb = ahd x' y' := ahdAt_eq hx' hy'
      obtain ⟨x0, x1, xa, xb, xc, xd, xe⟩ := x
      obtain ⟨y0, y1, ya, yb, yc, yd, ye⟩ := y
      have HA := fun u => Lib.hid (ahead_any (x0, x1, xa, xb, xc, xd, xe) (y0, y1, ya, yb, yc, yd, ye) u)
      obtain ⟨k0, k1, k2, k3, k4, k5, k6⟩ := at7 (H1.out) hx
      obtain ⟨j0, j1, j2, j3, j4, j5, j6⟩ := at7 (H1.out) hy
      obtain ⟨v0, v1, va, vb, vc, vd, ve⟩ := x'
      obtain ⟨u0', u1', ua', ub', uc', ud', ue'⟩ := y'
      have HA' := fun u => Lib.hid (ahead_any (v0, v1, va, vb, vc, vd, ve) (u0', u1', ua', ub', uc', ud', ue') u)
      have Hx' := Lib.hid hx'
      have Hy' := Lib.hid hy'
      have HAA := Lib.hid hA
      have HAA' := Lib.hid hA'
      have s1 : (a : Int) < n := by omega
      have s2 : (a2 : Int) < n := by omega
      have s3 : (bb : Int) < n := by omega
      have s4 : (b2 : Int) < n := by omega
      clear hx hy hx' hy' hlen hq ha ha2 hbb hb2 hb2' hbb' hA hA' t5 t6
      go_wp2_with fail
      refine ((HL1 _).out).mono ?_
      rintro e w' ⟨rfl, rfl⟩
      go_wp2_with fail
      refine ((HH1 _ (by exact c0)).out).mono ?_
      rintro e w' ⟨rfl, rfl⟩
      go_wp2_with fail
      refine wp_region_tail 15 (by kernel_rfl) (by kernel_rfl) ?_
      simp only [List.take_succ_cons, List.take_zero, List.drop_succ_cons, List.drop_zero]
      repeat (go_big_quiet_step ((go_at_call 174; exact quiet_same (HL2 _).out)))
      refine wpQuiet_nil ?_
      rintro _ ⟨nq, rfl⟩
      go_wp2_with fail
      refine ((HA _).out).mono ?_
      rintro e wC ⟨rfl, hC⟩
      have huC : Upd Nowhere wB wC := ((Upd.refl _ _).drewN nq).trans hC (fun _ _ h => h)
      have H2 := Lib.hid (H1.out.old huC)
      have HU2 := Lib.hid (HU.out.trans huC (fun _ _ h => h.elim))
      clear hC huC HA HL1 HH1 c0 c1 c2 z0 z1 z2 k0 k1 k2 k3 k4 k5 k6 j0 j1 j2 j3 j4 j5 j6 H1 HU
      obtain ⟨c0, c1, c2, z0, z1, z2⟩ := cells3 H2.out.blk
      cases hab : ahd (x0, x1, xa, xb, xc, xd, xe) (y0, y1, ya, yb, yc, yd, ye) with
      | true =>
        have hup := upT_low hpos Hq.out (by rw [A1.out, A2.out, HAA.out]; exact hab)
        rw [A1.out, A2.out, HRi.out] at hup
        have HUP := Lib.hid hup
        have HS := Lib.hid (swap_any H2.out X5.out t1 t2)
        clear hup hab HAA HAA' HA' HH2
        go_wp2_with fail
        refine Stage.out ?_
        go_wp2_with fail
        refine ((HL2 _).out).mono ?_
        rintro e w' ⟨rfl, rfl⟩
        go_wp2_with fail
        refine (HS.out).mono ?_
        rintro e wD ⟨rfl, hD, hD2⟩
        have HD := Lib.hid hD
        have HUD := Lib.hid (HU2.out.trans hD2 (fun _ _ h => h))
        clear hD hD2 c0 c1 c2 z0 z1 z2
        go_wp2_with fail
        go_roundw
        case rel => exact ⟨q, _, rfl, by omega, Lib.hid HUP.out.symm, HD.out, HUD.out⟩
        case measure => simp [intOf]; omega
      | false =>
        have hlo : ahdAt m (2 * p) (2 * q) = false := by rw [A1.out, A2.out, HAA.out]; exact hab
        have HLO := Lib.hid hlo
        have HH3 := fun u (hu : Upd Nowhere wC u) => HH2 u (cell_old hu c0)
        obtain ⟨k0, k1, k2, k3, k4, k5, k6⟩ := at7 (H2.out) Hx'.out
        obtain ⟨j0, j1, j2, j3, j4, j5, j6⟩ := at7 (H2.out) Hy'.out
        clear hlo hab HAA HL2 z0 z1 z2 c1 c2
        go_wp2_with fail
        refine Stage.out ?_
        go_wp2_with fail
        refine wp_region_tail 16 (by kernel_rfl) (by kernel_rfl) ?_
        simp only [List.take_succ_cons, List.take_zero, List.drop_succ_cons, List.drop_zero]
        repeat (go_big_quiet_step ((go_at_call 172; exact quiet_same (HH3 _ ((Upd.refl _ _).drewN _)).out)))
        refine wpQuiet_nil ?_
        rintro _ ⟨nq2, rfl⟩
        go_wp2_with fail
        refine ((HA' _).out).mono ?_
        rintro e wD ⟨rfl, hD⟩
        have huD : Upd Nowhere wC wD := ((Upd.refl _ _).drewN nq2).trans hD (fun _ _ h => h)
        have H3 := Lib.hid (H2.out.old huD)
        have HU3 := Lib.hid (HU2.out.trans huD (fun _ _ h => h.elim))
        clear hD huD HA' HH3 c0 k0 k1 k2 k3 k4 k5 k6 j0 j1 j2 j3 j4 j5 j6 H2 HU2
        obtain ⟨c0, c1, c2, z0, z1, z2⟩ := cells3 H3.out.blk
        cases hab : ahd (v0, v1, va, vb, vc, vd, ve) (u0', u1', ua', ub', uc', ud', ue') with
        | true =>
          have hup := upT_high hpos Hq.out HLO.out (by rw [B1.out, B2.out, HAA'.out]; exact hab)
          rw [B1.out, B2.out, HRi.out] at hup
          have HUP := Lib.hid hup
          have HS := Lib.hid (swap_any H3.out X6.out t3 t4)
          have HH3 := Lib.hid (HH2 _ c0).out
          clear hup hab HAA'
          go_wp2_with fail
          refine Stage.out ?_
          go_wp2_with fail
          refine (HH3.out).mono ?_
          rintro e w' ⟨rfl, rfl⟩
          go_wp2_with fail
          refine (HS.out).mono ?_
          rintro e wE ⟨rfl, hD, hD2⟩
          have HD := Lib.hid hD
          have HUD := Lib.hid (HU3.out.trans hD2 (fun _ _ h => h))
          clear hD hD2 c0 c1 c2 z0 z1 z2
          go_wp2_with fail
          go_roundw
          case rel => exact ⟨q, _, rfl, by omega, Lib.hid HUP.out.symm, HD.out, HUD.out⟩
          case measure => simp [intOf]; omega
        | false =>
          have hup := upT_stop Hq.out HLO.out (by rw [B1.out, B2.out, HAA'.out]; exact hab)
          rw [HRi.out] at hup
          have HUP := Lib.hid hup
          clear hup hab HAA'
          go_wp2_with fail
          refine Stage.out ?_
          go_wp2_with fail
          have e := HUP.out
          subst e
          exact bodyPost_ret (results_none rfl _ _ _) rfl ⟨rfl, H3.out, HU3.out⟩
end Go.Proofs.YtdddfmdcjjbegaaGreat.TwinW

