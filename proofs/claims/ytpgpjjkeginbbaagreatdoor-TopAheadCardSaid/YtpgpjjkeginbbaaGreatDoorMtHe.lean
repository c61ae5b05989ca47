/- HeapE, HeapE2, HeapE3, HeapE4, HeapE5, HeapE6, one behind the other. -/
import Derived.Test.YtpgpjjkeginbbaaGreatDoorProg
import Derived.Test.YtpgpjjkeginbbaaGreatDoorMtA
import Derived.Lib.Hide
import Derived.BigQuiet
import Derived.Deep.RegionLaw
import Derived.Deep.DeepCutAuto
namespace Go.Proofs.YtpgpjjkeginbbaaGreatDoor.HeapE
open Go.RowKit Go.Proofs BigFrame Heap HeapW
abbrev TH : TypeId := 200
abbrev TE : TypeId := 206
/-- What waits in a node: a child, and a packet (its flow, its number, its length). -/
abbrev El := Int × Nat × Nat × Nat
abbrev TEl : TypeId := 113
abbrev En := Ent El
/-- An element's cells. -/
def KE (x : El) : List Value := [.int .i64 x.1, .int .u32 (x.2.1 : Nat), .int .u32 (x.2.2.1 : Nat), .int .u64 (x.2.2.2 : Nat)]
theorem widE (x : El) : (KE x).length + 2 = 6 := rfl
/-- An element, as a value. -/
abbrev VE (x : El) : Value := .agg #[.int .i64 x.1, .int .u32 (x.2.1 : Nat), .int .u32 (x.2.2.1 : Nat), .int .u64 (x.2.2.2 : Nat)]
/-- An entry, as a value. -/
abbrev V (x : En) : Value := .agg #[.int .u64 x.1, .int .u64 x.2.1, .int .i64 x.2.2.1, .int .u32 (x.2.2.2.1 : Nat), .int .u32 (x.2.2.2.2.1 : Nat), .int .u64 (x.2.2.2.2.2 : Nat)]
section
variable {w w' : World} {b g n c came room : Nat} {l : List En}
abbrev HI (w : World) (b : Nat) (v : Value) (came room : Nat) (l : List En) : Prop := HeapIn KE 6 TH TE w b v came room l
/-- Six cells written into an entry's place. -/
abbrev put6 (w : World) (g i : Nat) (x0 x1 : Nat) (xa : Int) (xb xc xd : Nat) : World := (((((w.setCell ⟨g, i * 6, none⟩ (.int .u64 x0)).setCell ⟨g, i * 6 + 1, none⟩ (.int .u64 x1)).setCell ⟨g, i * 6 + 2, none⟩ (.int .i64 xa)).setCell ⟨g, i * 6 + 3, none⟩ (.int .u32 xb)).setCell ⟨g, i * 6 + 4, none⟩ (.int .u32 xc)).setCell ⟨g, i * 6 + 5, none⟩ (.int .u64 xd)
theorem at6 (h : HI w b (.slice (some ⟨g, 0, none⟩) n c) came room l) {i x0 x1 xb xc xd : Nat} {xa : Int} (he : l[i]? = some (x0, x1, xa, xb, xc, xd)) :
 w.cell? ⟨g, i * 6, none⟩ = some (.int .u64 x0) ∧ w.cell? ⟨g, i * 6 + 1, none⟩ = some (.int .u64 x1) ∧ w.cell? ⟨g, i * 6 + 2, none⟩ = some (.int .i64 xa) ∧ w.cell? ⟨g, i * 6 + 3, none⟩ = some (.int .u32 xb) ∧ w.cell? ⟨g, i * 6 + 4, none⟩ = some (.int .u32 xc) ∧ w.cell? ⟨g, i * 6 + 5, none⟩ = some (.int .u64 xd) ∧
 w.frozen? ⟨g, i * 6, none⟩ = false ∧ w.frozen? ⟨g, i * 6 + 1, none⟩ = false ∧ w.frozen? ⟨g, i * 6 + 2, none⟩ = false ∧ w.frozen? ⟨g, i * 6 + 3, none⟩ = false ∧ w.frozen? ⟨g, i * 6 + 4, none⟩ = false ∧ w.frozen? ⟨g, i * 6 + 5, none⟩ = false :=
 ⟨(h.at he (j := 0) rfl).1, (h.at he (j := 1) rfl).1, (h.at he (j := 2) rfl).1, (h.at he (j := 3) rfl).1, (h.at he (j := 4) rfl).1, (h.at he (j := 5) rfl).1, (h.at he (j := 0) rfl).2, (h.at he (j := 1) rfl).2, (h.at he (j := 2) rfl).2, (h.at he (j := 3) rfl).2, (h.at he (j := 4) rfl).2, (h.at he (j := 5) rfl).2⟩
theorem set6 (h : HI w b (.slice (some ⟨g, 0, none⟩) n c) came room l) {i : Nat} (hi : i < l.length) (x0 x1 : Nat) (xa : Int) (xb xc xd : Nat) : HI (put6 w g i x0 x1 xa xb xc xd) b (.slice (some ⟨g, 0, none⟩) n c) came room (l.set i (x0, x1, xa, xb, xc, xd)) := h.setN hi (x0, x1, xa, xb, xc, xd)
theorem swap6 (h : HI w b (.slice (some ⟨g, 0, none⟩) n c) came room l) {i j x0 x1 xb xc xd y0 y1 yb yc yd : Nat} {xa ya : Int} (hi : l[i]? = some (x0, x1, xa, xb, xc, xd)) (hj : l[j]? = some (y0, y1, ya, yb, yc, yd)) :
 HI (put6 (put6 w g i y0 y1 ya yb yc yd) g j x0 x1 xa xb xc xd) b (.slice (some ⟨g, 0, none⟩) n c) came room (swp l i j) := by
 rw [swp_eq hi hj]
 exact set6 (set6 h (get_lt hi) y0 y1 ya yb yc yd) (by rw [List.length_set]; exact get_lt hj) x0 x1 xa xb xc xd
theorem upd6 {S : Nat → Prop} (h : Upd S w w') (hg : g < w.heap.size → S g) (i x0 x1 : Nat) (xa : Int) (xb xc xd : Nat) : Upd S w (put6 w' g i x0 x1 xa xb xc xd) :=
 (((((h.setCell (a := ⟨g, i * 6, none⟩) hg _).setCell (a := ⟨g, i * 6 + 1, none⟩) hg _).setCell (a := ⟨g, i * 6 + 2, none⟩) hg _).setCell (a := ⟨g, i * 6 + 3, none⟩) hg _).setCell (a := ⟨g, i * 6 + 4, none⟩) hg _).setCell (a := ⟨g, i * 6 + 5, none⟩) hg _
end
set_option maxHeartbeats 1000000
theorem ahead_any (x y : En) (w : World) :
 Calls Tryz.prog 105 #[V x, V y] w fun e w' => e = .returned (.bool (ahd x y)) ∧ Upd Nowhere w w' := by
 obtain ⟨x0, x1, xa, xb, xc, xd⟩ := x
 obtain ⟨y0, y1, ya, yb, yc, yd⟩ := y
 have hU : Upd Nowhere w ((w.alloc (.cells #[.int .u64 x0, .int .u64 x1, .int .i64 xa, .int .u32 xb, .int .u32 xc, .int .u64 xd] TE)).alloc (.cells #[.int .u64 y0, .int .u64 y1, .int .i64 ya, .int .u32 yb, .int .u32 yc, .int .u64 yd] TE)) := ((Upd.refl _ _).alloc _).alloc _
 by_cases h1 : x0 < y0
 · have d1 : decide (x0 < y0) = true := decide_eq_true h1
   have e : ahd (x0, x1, xa, xb, xc, xd) (y0, y1, ya, yb, yc, yd) = true := by rw [ahd_iff]; exact .inl h1
   rw [e]
   go_enter Tryz.func105, Tryz.ntmps105
   go_wp2_with fail
   go_ret
   exact ⟨rfl, hU⟩
 · have d1 : decide (x0 < y0) = false := decide_eq_false h1
   by_cases h2 : x0 = y0
   · have d2 : decide (x0 = y0) = true := decide_eq_true h2
     have d3 : ((x0 : Int) == y0) = true := by simp [h2]
     have e : ahd (x0, x1, xa, xb, xc, xd) (y0, y1, ya, yb, yc, yd) = decide (x1 < y1) := by unfold ahd; simp [h2]
     rw [e]
     have H2 := Lib.hid h2
     clear h2
     go_enter Tryz.func105, Tryz.ntmps105
     go_wp2_with fail
     go_ret
     exact ⟨rfl, hU⟩
   · have d2 : decide (x0 = y0) = false := decide_eq_false h2
     have d3 : ((x0 : Int) == y0) = false := by simp; omega
     have e : ahd (x0, x1, xa, xb, xc, xd) (y0, y1, ya, yb, yc, yd) = false := by rw [ahd_not]; simp; omega
     rw [e]
     go_enter Tryz.func105, Tryz.ntmps105
     go_wp2_with fail
     go_ret
     exact ⟨rfl, hU⟩
theorem up_any {w : World} {b g n c came room k : Nat} {l : List En} (h : HI w b (.slice (some ⟨g, 0, none⟩) n c) came room l) (hk : k < n) :
 Calls Tryz.prog 115 #[.pointer (some ⟨b, 0, none⟩), .int .i64 k] w fun e w' => e = .returned (.tuple #[]) ∧ HI w' b (.slice (some ⟨g, 0, none⟩) n c) came room (upL l k) ∧ Upd (fun q => q = g) w w' := by
 obtain ⟨R, hR⟩ : ∃ R, upL l k = R := ⟨_, rfl⟩
 rw [hR]
 have HR := Lib.hid hR
 have hr2 := h.r2
 have hn : n ≤ 4096 := by have := h.le; have := h.len; omega
 have H0 := Lib.hid h
 clear hR h
 go_enter Tryz.func115, Tryz.ntmps115
 go_wp2_with fail
 go_loopw [1, 4] (fun v1 _ wr => ∃ (i : Nat) (m : List En), v1 = .int .i64 i ∧ i < n ∧ Hid (upL m i = R) ∧ HI wr b (.slice (some ⟨g, 0, none⟩) n c) came room m ∧ Upd (fun q => q = g) w wr) (fun v1 _ _ => (intOf v1).toNat)
 case atStart => exact ⟨k, l, rfl, hk, HR, H0.out, Upd.refl _ _⟩
 case round =>
  obtain ⟨i, m, rfl, hi, HRi, hH, hu⟩ := hrel
  obtain ⟨wB, rfl⟩ : ∃ x, x = wr := ⟨_, rfl⟩
  have H1 := Lib.hid hH
  have HU := Lib.hid hu
  obtain ⟨c0, c1, c2, z0, z1, z2⟩ := cells3 hH.blk
  have hlen := hH.len
  clear hH hu H0 HR
  rcases Nat.eq_zero_or_pos i with hi0 | hpos
  · subst hi0
    go_wp2_with fail
    go_end0
    have e := HRi.out
    rw [upL_zero] at e
    subst e
    exact ⟨rfl, H1.out, HU.out⟩
  · have hI : (i : Int) > 0 := by omega
    obtain ⟨p, hp⟩ : ∃ p, (i - 1) / 2 = p := ⟨_, rfl⟩
    have hp2 : p < i := by omega
    have hP : ((i : Int) - 1).tdiv 2 = (p : Int) := by rw [show (i : Int) - 1 = ((i - 1 : Nat) : Int) by omega, ← hp]; rfl
    have Hp := Lib.hid hp
    clear hp
    obtain ⟨x, hx⟩ : ∃ x, m[i]? = some x := ⟨m[i]'(by omega), by simp⟩
    obtain ⟨y, hy⟩ : ∃ y, m[p]? = some y := ⟨m[p]'(by omega), by simp⟩
    obtain ⟨x0, x1, xa, xb, xc, xd⟩ := x
    obtain ⟨y0, y1, ya, yb, yc, yd⟩ := y
    obtain ⟨k0, k1, k2, k3, k4, k5, f0, f1, f2, f3, f4, f5⟩ := at6 (H1.out) hx
    obtain ⟨j0, j1, j2, j3, j4, j5, g0, g1, g2, g3, g4, g5⟩ := at6 (H1.out) hy
    have Hx := Lib.hid hx
    have Hy := Lib.hid hy
    clear hx hy hlen
    have HA := fun u => Lib.hid (ahead_any (x0, x1, xa, xb, xc, xd) (y0, y1, ya, yb, yc, yd) u)
    go_wp2_with fail
    refine wp_region_tail 14 (by kernel_rfl) (by kernel_rfl) ?_
    simp only [List.take_succ_cons, List.take_zero, List.drop_succ_cons, List.drop_zero]
    repeat (go_big_quiet_step (fail))
    refine wpQuiet_nil ?_
    rintro _ ⟨nq, rfl⟩
    go_wp2_with fail
    refine (HA _).out.mono ?_
    rintro e wC ⟨rfl, hC⟩
    have huC : Upd Nowhere wB wC := ((Upd.refl _ _).drewN nq).trans hC (fun _ _ h => h)
    have H2 := Lib.hid (H1.out.old huC)
    have HU2 := Lib.hid (HU.out.trans huC (fun _ _ h => h.elim))
    clear hC huC HA c0 c1 c2 z0 z1 z2 k0 k1 k2 k3 k4 k5 f0 f1 f2 f3 f4 f5 j0 j1 j2 j3 j4 j5 g0 g1 g2 g3 g4 g5
    obtain ⟨c0, c1, c2, z0, z1, z2⟩ := cells3 H2.out.blk
    obtain ⟨k0, k1, k2, k3, k4, k5, f0, f1, f2, f3, f4, f5⟩ := at6 (H2.out) Hx.out
    obtain ⟨j0, j1, j2, j3, j4, j5, g0, g1, g2, g3, g4, g5⟩ := at6 (H2.out) Hy.out
    cases hab : ahd (x0, x1, xa, xb, xc, xd) (y0, y1, ya, yb, yc, yd) with
    | false =>
      have HAB := Lib.hid hab
      clear hab
      go_wp2_with fail
      refine Stage.out ?_
      go_wp2_with fail
      have e := HRi.out
      rw [upL_stop Hx.out (by rw [Hp.out]; exact Hy.out) HAB.out] at e
      subst e
      exact bodyPost_ret (results_none rfl _ _ _) rfl ⟨rfl, H2.out, HU2.out⟩
    | true =>
      have HAB := Lib.hid hab
      clear hab
      go_wp2_with fail
      refine Stage.out ?_
      go_wp2_with fail
      refine wp_region_tail 24 (by kernel_rfl) (by kernel_rfl) ?_
      simp only [List.take_succ_cons, List.take_zero, List.drop_succ_cons, List.drop_zero]
      repeat (go_big_quiet_step (fail))
      refine wpQuiet_nil ?_
      rintro _ ⟨nq2, rfl⟩
      go_wp2_with fail
      refine Stage.out ?_
      have hS := swap6 (H2.out.old ((Upd.refl _ _).drewN nq2)) Hx.out Hy.out
      have hUS := upd6 (upd6 (HU2.out.drewN nq2) (fun _ => rfl) i y0 y1 ya yb yc yd) (fun _ => rfl) p x0 x1 xa xb xc xd
      go_wp2_with fail
      go_roundw
      case rel =>
       refine ⟨p, _, rfl, by omega, Lib.hid ?_, hS, hUS⟩
       rw [← HRi.out, upL_step hpos Hx.out (by rw [Hp.out]; exact Hy.out) HAB.out, Hp.out]
      case measure => simp [intOf]; omega
end Go.Proofs.YtpgpjjkeginbbaaGreatDoor.HeapE
namespace Go.Proofs.YtpgpjjkeginbbaaGreatDoor.HeapE
open Go.RowKit Go.Proofs BigFrame Heap HeapW
set_option maxHeartbeats 4000000
set_option maxRecDepth 1000000
theorem kid_none {l : List En} {k : Nat} (h : l.length ≤ 2 * k + 2) : kid l k = 2 * k + 1 := by
 rcases kid_or l k with h1 | ⟨_, h2⟩
 · exact h1
 · omega
theorem kid_yes {l : List En} {k : Nat} {a b : En} (hb : l[2 * k + 2]? = some b) (ha : l[2 * k + 1]? = some a) (h : ahd b a = true) : kid l k = 2 * k + 2 := by unfold kid; rw [hb, ha]; simp [h]
theorem kid_no {l : List En} {k : Nat} {a b : En} (hb : l[2 * k + 2]? = some b) (ha : l[2 * k + 1]? = some a) (h : ahd b a = false) : kid l k = 2 * k + 1 := by unfold kid; rw [hb, ha]; simp [h]
theorem down_any {w : World} {b g n c came room k : Nat} {l : List En} (h : HI w b (.slice (some ⟨g, 0, none⟩) n c) came room l) (hk : k ≤ n) :
 Calls Tryz.prog 63 #[.pointer (some ⟨b, 0, none⟩), .int .i64 k] w fun e w' => e = .returned (.tuple #[]) ∧ HI w' b (.slice (some ⟨g, 0, none⟩) n c) came room (dnL l k) ∧ Upd (fun q => q = g) w w' := by
 obtain ⟨R, hR⟩ : ∃ R, dnL l k = R := ⟨_, rfl⟩
 rw [hR]
 have HR := Lib.hid hR
 have hr2 := h.r2
 have hn : n ≤ 4096 := by have := h.le; have := h.len; omega
 have H0 := Lib.hid h
 clear hR h
 go_enter Tryz.func63, Tryz.ntmps63
 go_wp2_with fail
 go_loopw [1, 4] (fun v1 _ wr => ∃ (i : Nat) (m : List En), v1 = .int .i64 i ∧ i ≤ n ∧ Hid (dnL m i = R) ∧ HI wr b (.slice (some ⟨g, 0, none⟩) n c) came room m ∧ Upd (fun q => q = g) w wr) (fun v1 _ _ => n - (intOf v1).toNat)
 case atStart => exact ⟨k, l, rfl, hk, HR, H0.out, Upd.refl _ _⟩
 case round =>
  obtain ⟨i, m, rfl, hi, HRi, hH, hu⟩ := hrel
  obtain ⟨wB, rfl⟩ : ∃ x, x = wr := ⟨_, rfl⟩
  have H1 := Lib.hid hH
  have HU := Lib.hid hu
  obtain ⟨c0, c1, c2, z0, z1, z2⟩ := cells3 hH.blk
  have hlen := hH.len
  have Hln := Lib.hid hlen
  clear hH hu H0 HR
  obtain ⟨q, hq⟩ : ∃ q, 2 * i + 1 = q := ⟨_, rfl⟩
  have e1 : 2 * (i : Int) + 1 = (q : Int) := by omega
  have Hq := Lib.hid hq
  rcases Nat.lt_or_ge q n with hlt | hge
  · have d0 : decide (n ≤ q) = false := by simp; omega
    obtain ⟨x, hx⟩ : ∃ x, m[q]? = some x := ⟨m[q]'(by omega), by simp⟩
    obtain ⟨y, hy⟩ : ∃ y, m[i]? = some y := ⟨m[i]'(by omega), by simp⟩
    obtain ⟨x0, x1, xa, xb, xc, xd⟩ := x
    obtain ⟨y0, y1, ya, yb, yc, yd⟩ := y
    obtain ⟨k0, k1, k2, k3, k4, k5, f0, f1, f2, f3, f4, f5⟩ := at6 (H1.out) hx
    have Hx := Lib.hid hx
    have Hy := Lib.hid hy
    obtain ⟨s, hs⟩ : ∃ s, q + 1 = s := ⟨_, rfl⟩
    have e2 : (q : Int) + 1 = (s : Int) := by omega
    have Hs := Lib.hid hs
    clear hx hy
    rcases Nat.lt_or_ge s n with hlt2 | hge2
    · have d1 : decide ((s : Int) < n) = true := by simp; omega
      have d2 : decide (s < n) = true := by simp; omega
      obtain ⟨z, hz⟩ : ∃ x, m[s]? = some x := ⟨m[s]'(by omega), by simp⟩
      obtain ⟨v0, v1, va, vb, vc, vd⟩ := z
      obtain ⟨j0, j1, j2, j3, j4, j5, g0, g1, g2, g3, g4, g5⟩ := at6 (H1.out) hz
      have Hz := Lib.hid hz
      clear hz hlen hq hs
      have HA := fun u => Lib.hid (ahead_any (v0, v1, va, vb, vc, vd) (x0, x1, xa, xb, xc, xd) u)
      go_wp2_with fail
      refine wp_region_tail 24 (by kernel_rfl) (by kernel_rfl) ?_
      simp only [List.take_succ_cons, List.take_zero, List.drop_succ_cons, List.drop_zero]
      repeat (go_big_quiet_step (fail))
      refine wpQuiet_nil ?_
      rintro _ ⟨nq, rfl⟩
      go_wp2_with fail
      refine (HA _).out.mono ?_
      rintro e wC ⟨rfl, hC⟩
      have huC : Upd Nowhere wB wC := ((Upd.refl _ _).drewN nq).trans hC (fun _ _ h => h)
      have H2 := Lib.hid (H1.out.old huC)
      have HU2 := Lib.hid (HU.out.trans huC (fun _ _ h => h.elim))
      clear hC huC HA c0 c1 c2 z0 z1 z2 k0 k1 k2 k3 k4 k5 f0 f1 f2 f3 f4 f5 j0 j1 j2 j3 j4 j5 g0 g1 g2 g3 g4 g5 H1 HU
      cases hab : ahd (v0, v1, va, vb, vc, vd) (x0, x1, xa, xb, xc, xd) with
      | false =>
        have HK : Hid (kid m i = q) := Lib.hid (by have hs := Hs.out; have hq := Hq.out; subst hs; subst hq; exact kid_no Hz.out Hx.out hab)
        clear hab
        obtain ⟨c0, c1, c2, z0, z1, z2⟩ := cells3 H2.out.blk
        go_wp2_with fail
        refine Stage.out ?_
        obtain ⟨p0, p1, p2, p3, p4, p5, f0, f1, f2, f3, f4, f5⟩ := at6 (H2.out) Hx.out
        obtain ⟨j0, j1, j2, j3, j4, j5, g0, g1, g2, g3, g4, g5⟩ := at6 (H2.out) Hy.out
        have HA := fun u => Lib.hid (ahead_any (x0, x1, xa, xb, xc, xd) (y0, y1, ya, yb, yc, yd) u)
        go_wp2_with fail
        refine wp_region_tail 14 (by kernel_rfl) (by kernel_rfl) ?_
        simp only [List.take_succ_cons, List.take_zero, List.drop_succ_cons, List.drop_zero]
        repeat (go_big_quiet_step (fail))
        refine wpQuiet_nil ?_
        rintro _ ⟨nq2, rfl⟩
        go_wp2_with fail
        refine (HA _).out.mono ?_
        rintro e wD ⟨rfl, hD⟩
        have huD : Upd Nowhere wC wD := ((Upd.refl _ _).drewN nq2).trans hD (fun _ _ h => h)
        have H3 := Lib.hid (H2.out.old huD)
        have HU3 := Lib.hid (HU2.out.trans huD (fun _ _ h => h.elim))
        clear hD huD HA c0 c1 c2 z0 z1 z2 p0 p1 p2 p3 p4 p5 f0 f1 f2 f3 f4 f5 j0 j1 j2 j3 j4 j5 g0 g1 g2 g3 g4 g5 H2 HU2
        cases hab2 : ahd (x0, x1, xa, xb, xc, xd) (y0, y1, ya, yb, yc, yd) with
        | false =>
          have HAB := Lib.hid hab2
          clear hab2
          go_wp2_with fail
          refine Stage.out ?_
          go_wp2_with fail
          have e := HRi.out
          rw [dnL_stop HK.out Hx.out Hy.out HAB.out] at e
          subst e
          exact bodyPost_ret (results_none rfl _ _ _) rfl ⟨rfl, H3.out, HU3.out⟩
        | true =>
          have HAB := Lib.hid hab2
          clear hab2
          obtain ⟨c0, c1, c2, z0, z1, z2⟩ := cells3 H3.out.blk
          obtain ⟨p0, p1, p2, p3, p4, p5, f0, f1, f2, f3, f4, f5⟩ := at6 (H3.out) Hx.out
          obtain ⟨j0, j1, j2, j3, j4, j5, g0, g1, g2, g3, g4, g5⟩ := at6 (H3.out) Hy.out
          go_wp2_with fail
          refine Stage.out ?_
          go_wp2_with fail
          refine wp_region_tail 24 (by kernel_rfl) (by kernel_rfl) ?_
          simp only [List.take_succ_cons, List.take_zero, List.drop_succ_cons, List.drop_zero]
          repeat (go_big_quiet_step (fail))
          refine wpQuiet_nil ?_
          rintro _ ⟨nq3, rfl⟩
          go_wp2_with fail
          refine Stage.out ?_
          have HS := Lib.hid (swap6 (H3.out.old ((Upd.refl _ _).drewN nq3)) Hy.out Hx.out)
          have HUS := Lib.hid (upd6 (upd6 (HU3.out.drewN nq3) (fun _ => rfl) i x0 x1 xa xb xc xd) (fun _ => rfl) q y0 y1 ya yb yc yd)
          clear c0 c1 c2 z0 z1 z2 p0 p1 p2 p3 p4 p5 f0 f1 f2 f3 f4 f5 j0 j1 j2 j3 j4 j5 g0 g1 g2 g3 g4 g5 e1 e2
          go_wp2_with fail
          go_roundw
          case rel =>
           have hsq := Hs.out
           have hqi := Hq.out
           have hlen := Hln.out
           refine ⟨q, _, rfl, by omega, Lib.hid ?_, HS.out, HUS.out⟩
           rw [← HRi.out, dnL_step (by omega) HK.out Hx.out Hy.out HAB.out]
          case measure => have hsq := Hs.out; have hqi := Hq.out; simp [intOf]; omega
      | true =>
        have HK : Hid (kid m i = s) := Lib.hid (by have hs := Hs.out; have hq := Hq.out; subst hs; subst hq; exact kid_yes Hz.out Hx.out hab)
        clear hab
        obtain ⟨c0, c1, c2, z0, z1, z2⟩ := cells3 H2.out.blk
        go_wp2_with fail
        refine Stage.out ?_
        obtain ⟨p0, p1, p2, p3, p4, p5, f0, f1, f2, f3, f4, f5⟩ := at6 (H2.out) Hz.out
        obtain ⟨j0, j1, j2, j3, j4, j5, g0, g1, g2, g3, g4, g5⟩ := at6 (H2.out) Hy.out
        have HA := fun u => Lib.hid (ahead_any (v0, v1, va, vb, vc, vd) (y0, y1, ya, yb, yc, yd) u)
        go_wp2_with fail
        refine wp_region_tail 14 (by kernel_rfl) (by kernel_rfl) ?_
        simp only [List.take_succ_cons, List.take_zero, List.drop_succ_cons, List.drop_zero]
        repeat (go_big_quiet_step (fail))
        refine wpQuiet_nil ?_
        rintro _ ⟨nq2, rfl⟩
        go_wp2_with fail
        refine (HA _).out.mono ?_
        rintro e wD ⟨rfl, hD⟩
        have huD : Upd Nowhere wC wD := ((Upd.refl _ _).drewN nq2).trans hD (fun _ _ h => h)
        have H3 := Lib.hid (H2.out.old huD)
        have HU3 := Lib.hid (HU2.out.trans huD (fun _ _ h => h.elim))
        clear hD huD HA c0 c1 c2 z0 z1 z2 p0 p1 p2 p3 p4 p5 f0 f1 f2 f3 f4 f5 j0 j1 j2 j3 j4 j5 g0 g1 g2 g3 g4 g5 H2 HU2
        cases hab2 : ahd (v0, v1, va, vb, vc, vd) (y0, y1, ya, yb, yc, yd) with
        | false =>
          have HAB := Lib.hid hab2
          clear hab2
          go_wp2_with fail
          refine Stage.out ?_
          go_wp2_with fail
          have e := HRi.out
          rw [dnL_stop HK.out Hz.out Hy.out HAB.out] at e
          subst e
          exact bodyPost_ret (results_none rfl _ _ _) rfl ⟨rfl, H3.out, HU3.out⟩
        | true =>
          have HAB := Lib.hid hab2
          clear hab2
          obtain ⟨c0, c1, c2, z0, z1, z2⟩ := cells3 H3.out.blk
          obtain ⟨p0, p1, p2, p3, p4, p5, f0, f1, f2, f3, f4, f5⟩ := at6 (H3.out) Hz.out
          obtain ⟨j0, j1, j2, j3, j4, j5, g0, g1, g2, g3, g4, g5⟩ := at6 (H3.out) Hy.out
          go_wp2_with fail
          refine Stage.out ?_
          go_wp2_with fail
          refine wp_region_tail 24 (by kernel_rfl) (by kernel_rfl) ?_
          simp only [List.take_succ_cons, List.take_zero, List.drop_succ_cons, List.drop_zero]
          repeat (go_big_quiet_step (fail))
          refine wpQuiet_nil ?_
          rintro _ ⟨nq3, rfl⟩
          go_wp2_with fail
          refine Stage.out ?_
          have HS := Lib.hid (swap6 (H3.out.old ((Upd.refl _ _).drewN nq3)) Hy.out Hz.out)
          have HUS := Lib.hid (upd6 (upd6 (HU3.out.drewN nq3) (fun _ => rfl) i v0 v1 va vb vc vd) (fun _ => rfl) s y0 y1 ya yb yc yd)
          clear c0 c1 c2 z0 z1 z2 p0 p1 p2 p3 p4 p5 f0 f1 f2 f3 f4 f5 j0 j1 j2 j3 j4 j5 g0 g1 g2 g3 g4 g5 e1 e2
          go_wp2_with fail
          go_roundw
          case rel =>
           have hsq := Hs.out
           have hqi := Hq.out
           have hlen := Hln.out
           refine ⟨s, _, rfl, by omega, Lib.hid ?_, HS.out, HUS.out⟩
           rw [← HRi.out, dnL_step (by omega) HK.out Hz.out Hy.out HAB.out]
          case measure => have hsq := Hs.out; have hqi := Hq.out; simp [intOf]; omega
    · have HK : Hid (kid m i = q) := Lib.hid (by rw [kid_none (by omega)]; omega)
      clear hlen hq hs
      have d1 : decide ((s : Int) < n) = false := by simp; omega
      have d2 : decide (s < n) = false := by simp; omega
      go_wp2_with fail
      go_quiet (fail)
      have H2 := Lib.hid (H1.out.old ((Upd.refl _ _).drewN nq))
      have HU2 := Lib.hid (HU.out.drewN nq)
      generalize wB.drewN nq = wC at *
      clear c0 c1 c2 z0 z1 z2 k0 k1 k2 k3 k4 k5 f0 f1 f2 f3 f4 f5 H1 HU
      obtain ⟨c0, c1, c2, z0, z1, z2⟩ := cells3 H2.out.blk
      obtain ⟨p0, p1, p2, p3, p4, p5, f0, f1, f2, f3, f4, f5⟩ := at6 (H2.out) Hx.out
      obtain ⟨j0, j1, j2, j3, j4, j5, g0, g1, g2, g3, g4, g5⟩ := at6 (H2.out) Hy.out
      have HA := fun u => Lib.hid (ahead_any (x0, x1, xa, xb, xc, xd) (y0, y1, ya, yb, yc, yd) u)
      go_wp2_with fail
      refine wp_region_tail 14 (by kernel_rfl) (by kernel_rfl) ?_
      simp only [List.take_succ_cons, List.take_zero, List.drop_succ_cons, List.drop_zero]
      repeat (go_big_quiet_step (fail))
      refine wpQuiet_nil ?_
      rintro _ ⟨nq2, rfl⟩
      go_wp2_with fail
      refine (HA _).out.mono ?_
      rintro e wD ⟨rfl, hD⟩
      have huD : Upd Nowhere wC wD := ((Upd.refl _ _).drewN nq2).trans hD (fun _ _ h => h)
      have H3 := Lib.hid (H2.out.old huD)
      have HU3 := Lib.hid (HU2.out.trans huD (fun _ _ h => h.elim))
      clear hD huD HA c0 c1 c2 z0 z1 z2 p0 p1 p2 p3 p4 p5 f0 f1 f2 f3 f4 f5 j0 j1 j2 j3 j4 j5 g0 g1 g2 g3 g4 g5 H2 HU2
      cases hab2 : ahd (x0, x1, xa, xb, xc, xd) (y0, y1, ya, yb, yc, yd) with
      | false =>
        have HAB := Lib.hid hab2
        clear hab2
        go_wp2_with fail
        refine Stage.out ?_
        go_wp2_with fail
        have e := HRi.out
        rw [dnL_stop HK.out Hx.out Hy.out HAB.out] at e
        subst e
        exact bodyPost_ret (results_none rfl _ _ _) rfl ⟨rfl, H3.out, HU3.out⟩
      | true =>
        have HAB := Lib.hid hab2
        clear hab2
        obtain ⟨c0, c1, c2, z0, z1, z2⟩ := cells3 H3.out.blk
        obtain ⟨p0, p1, p2, p3, p4, p5, f0, f1, f2, f3, f4, f5⟩ := at6 (H3.out) Hx.out
        obtain ⟨j0, j1, j2, j3, j4, j5, g0, g1, g2, g3, g4, g5⟩ := at6 (H3.out) Hy.out
        go_wp2_with fail
        refine Stage.out ?_
        go_wp2_with fail
        refine wp_region_tail 24 (by kernel_rfl) (by kernel_rfl) ?_
        simp only [List.take_succ_cons, List.take_zero, List.drop_succ_cons, List.drop_zero]
        repeat (go_big_quiet_step (fail))
        refine wpQuiet_nil ?_
        rintro _ ⟨nq3, rfl⟩
        go_wp2_with fail
        refine Stage.out ?_
        have HS := Lib.hid (swap6 (H3.out.old ((Upd.refl _ _).drewN nq3)) Hy.out Hx.out)
        have HUS := Lib.hid (upd6 (upd6 (HU3.out.drewN nq3) (fun _ => rfl) i x0 x1 xa xb xc xd) (fun _ => rfl) q y0 y1 ya yb yc yd)
        clear c0 c1 c2 z0 z1 z2 p0 p1 p2 p3 p4 p5 f0 f1 f2 f3 f4 f5 j0 j1 j2 j3 j4 j5 g0 g1 g2 g3 g4 g5 e1 e2
        go_wp2_with fail
        go_roundw
        case rel =>
         have hsq := Hs.out
         have hqi := Hq.out
         have hlen := Hln.out
         refine ⟨q, _, rfl, by omega, Lib.hid ?_, HS.out, HUS.out⟩
         rw [← HRi.out, dnL_step (by omega) HK.out Hx.out Hy.out HAB.out]
        case measure => have hsq := Hs.out; have hqi := Hq.out; simp [intOf]; omega
  · have d0 : decide (n ≤ q) = true := by simp; omega
    go_wp2_with fail
    have e := HRi.out
    rw [dnL_none (by omega)] at e
    subst e
    exact bodyPost_ret (results_none rfl _ _ _) rfl ⟨rfl, H1.out, HU.out⟩
end Go.Proofs.YtpgpjjkeginbbaaGreatDoor.HeapE
namespace Go.Proofs.YtpgpjjkeginbbaaGreatDoor.HeapE
open Go.RowKit Go.Proofs BigFrame Heap HeapW
set_option maxHeartbeats 4000000
set_option maxRecDepth 1000000
abbrev Z : Value := .agg #[.int .u64 0, .int .u64 0, .int .i64 0, .int .u32 0, .int .u32 0, .int .u64 0]
theorem infoE : (Tryz.prog.info? TE).map (fun i => (i.zero, i.size, i.bytes)) = some (some Z, 6, 40) := by kernel_rfl
/-- One more, in a row that took it. -/
theorem row_push {w : World} {v : Value} {l : List En} {n : Nat} (e : En) (hn : l.length + 1 = n) (h : w.ownsRow 0 TE 6 v n (ents KE l ++ ent KE e)) : Row KE 6 TE w v (l ++ [e]) := by
 have e1 : (l ++ [e]).length = n := by simpa using hn
 have e2 : ents KE (l ++ [e]) = ents KE l ++ ent KE e := by rw [ents_append, ents_one]
 unfold Row
 rw [e1, e2]
 exact h
theorem form6 {w : World} {v : Value} {n : Nat} {xs : List Value} (h : w.ownsRow 0 TE 6 v (n + 1) xs) : ∃ g c, v = .slice (some ⟨g, 0, none⟩) (n + 1) c := by
 rcases h.2 with ⟨_, h0⟩ | ⟨g, c, cur, rfl, _⟩
 · omega
 · exact ⟨g, c, rfl⟩
/-- What stands once an entry was laid behind the others. -/
structure Pushed (w0 w : World) (b : Nat) (v v' : Value) (came room : Nat) (l : List En) (e : En) : Prop where
 blk : Blk w b #[v, .int .u64 came, .int .i64 room] TH
 row : Row KE 6 TE w v' (l ++ [e])
 off : v'.ownBlock ≠ some b
 own : OwnOrNew w0 v v'
 upd : Upd (HeapOf b v) w0 w
theorem push_facts {w1 wx w6 : World} {b came room n : Nat} {v v6 : Value} {l : List En} (H : HI w1 b v came room l) (e : En)
 (hown : w6.ownsRow 0 TE 6 v6 (n + 1) (ents KE l ++ ent KE e)) (hu : Upd (fun k => v.ownBlock = some k) wx w6) (hn : OwnOrNew wx v v6) (hx : Upd Nowhere w1 wx) (hl : l.length = n) :
 Pushed w1 w6 b v v6 came room l e := by
 have hs := hx.size
 refine ⟨(H.blk.kept hx id).kept hu H.off, row_push e (by omega) hown, fun h => ?_, fun k hk => ?_, (hx.any _).trans hu (fun k _ hk => .inr hk)⟩
 · rcases hn b h with h1 | h1
   · exact H.off h1
   · have := H.blk.lt; omega
 · rcases hn k hk with h1 | h1
   · exact .inl h1
   · exact .inr (by omega)
theorem Pushed.heap {w0 w : World} {b came room : Nat} {v v' : Value} {l : List En} {e : En} (P : Pushed w0 w b v v' came room l e) (hl : l.length < room) (hr : room ≤ 4096) (d : Nat) :
 HI ((w.setCell ⟨b, 0, none⟩ v').setCell ⟨b, 1, none⟩ (.int .u64 d)) b v' d room (l ++ [e]) := by
 have hu : Upd (fun k => k = b) w ((w.setCell ⟨b, 0, none⟩ v').setCell ⟨b, 1, none⟩ (.int .u64 d)) := ((Upd.refl _ _).setCell (a := ⟨b, 0, none⟩) (S := fun k => k = b) (fun _ => rfl) _).setCell (a := ⟨b, 1, none⟩) (fun _ => rfl) _
 exact ⟨widE, by simpa using (P.blk.set 0 v').set 1 (.int .u64 d), ownsRow_upd P.row hu (fun k hk e => P.off (by rw [hk, e])), by simp; omega, by omega, hr, P.off⟩
theorem push_room {w : World} {b came room : Nat} {v : Value} {l : List En} (h : HI w b v came room l) (hl : l.length < room) (hc : came < 18446744073709551615) (rank : Nat) (xa : Int) (xb xc xd : Nat) :
 Calls Tryz.prog 72 #[.pointer (some ⟨b, 0, none⟩), .int .u64 rank, .agg #[.int .i64 xa, .int .u32 xb, .int .u32 xc, .int .u64 xd]] w fun e w' => e = .returned (.bool true) ∧
  ∃ v', HI w' b v' (came + 1) room (pushL l (rank, came, xa, xb, xc, xd)) ∧ OwnOrNew w v v' ∧ Upd (HeapOf b v) w w' := by
 obtain ⟨i0, hi, hz0, hz1, hz2⟩ := info_parts infoE
 obtain ⟨ad, cp, rfl⟩ := h.row.form
 obtain ⟨n, hn⟩ : ∃ n, l.length = n := ⟨_, rfl⟩
 obtain ⟨d, hd⟩ : ∃ d, came + 1 = d := ⟨_, rfl⟩
 obtain ⟨s, hs⟩ : ∃ s, n + 1 = s := ⟨_, rfl⟩
 have hrow : w.ownsRow 0 TE 6 (.slice ad l.length cp) l.length (ents KE l) := h.row
 have hr2 := h.r2
 rw [hd]
 rw [hn] at h hl hrow ⊢
 have e1 : IntKind.u64.wrap ((came : Int) + 1) = (d : Int) := by rw [IntKind.wrap_u64]; omega
 have e2 : (s : Int) - 1 = (n : Int) := by omega
 have d1 : decide (room ≤ n) = false := by simp; omega
 have hn9 : n ≤ 999999999 := by omega
 obtain ⟨c0, c1, c2, z0, z1, z2⟩ := cells3 (h.old ((Upd.refl _ w).alloc (.cells #[.int .i64 xa, .int .u32 xb, .int .u32 xc, .int .u64 xd] TEl))).blk
 have H0 := Lib.hid h
 have HROW := Lib.hid hrow
 have HN := Lib.hid hn
 have HD := Lib.hid hd
 have HS := Lib.hid hs
 have HL := Lib.hid hl
 clear h hn hd hs hc hrow hl
 go_enter Tryz.func72, Tryz.ntmps72
 go_wp2_with fail
 go_quiet (fail)
 go_wp2_with fail
 have hU1 : Upd Nowhere w ((w.alloc (.cells #[.int .i64 xa, .int .u32 xb, .int .u32 xc, .int .u64 xd] TEl)).drewN nq) := ((Upd.refl _ _).alloc _).drewN nq
 have hX : Blk ((w.alloc (.cells #[.int .i64 xa, .int .u32 xb, .int .u32 xc, .int .u64 xd] TEl)).drewN nq) w.heap.size #[.int .i64 xa, .int .u32 xb, .int .u32 xc, .int .u64 xd] TEl := (Blk.new w _ TEl).drewN nq
 have HX := Lib.hid hX
 have H1 := Lib.hid (H0.out.old hU1)
 have HU1 := Lib.hid hU1
 have HROW1 := Lib.hid (ownsRow_upd HROW.out hU1 (fun _ _ h => h))
 have hsz : w.heap.size ≤ ((w.alloc (.cells #[.int .i64 xa, .int .u32 xb, .int .u32 xc, .int .u64 xd] TEl)).drewN nq).heap.size := hU1.size
 have HSZ := Lib.hid hsz
 clear hU1 hsz hX c0 c1 c2 z0 z1 z2 H0 HROW
 generalize (w.alloc (.cells #[.int .i64 xa, .int .u32 xb, .int .u32 xc, .int .u64 xd] TEl)).drewN nq = w1 at *
 obtain ⟨kx0, kx1, kx2, kx3, _, _, _, _⟩ := cells4 HX.out
 obtain ⟨c0, c1, c2, z0, z1, z2⟩ := cells3 H1.out.blk
 have a0 : (w1.alloc (.cells #[.int .u64 rank, .int .u64 came, .int .i64 xa, .int .u32 xb, .int .u32 xc, .int .u64 xd] TE)).cell? ⟨b, 0, none⟩ = some (.slice ad n cp) := cell_old ((Upd.refl _ _).alloc _) c0
 go_region_law (refine step_push rfl _ _ 198 rfl 0 TE i0 Z 6 40 Tryz.underlying198 hi hz0 hz1 hz2 rfl (by decide) (by decide) (.slice ad n cp) n _ rfl (ownsRow_upd HROW1.out (by repeat (first | with_reducible exact Upd.refl _ _ | with_reducible refine Upd.drew ?_ | with_reducible refine Upd.alloc ?_ _)) (fun _ _ h => h)) w1.heap.size 1 [.int .u64 rank, .int .u64 came, .int .i64 xa, .int .u32 xb, .int .u32 xc, .int .u64 xd] rfl rfl (new_cells w1 #[.int .u64 rank, .int .u64 came, .int .i64 xa, .int .u32 xb, .int .u32 xc, .int .u64 xd] _) (by simp [Value.oneCell']) hn9 (Nat.zero_le _) ?_; intro v6 w6 hown6 hu6 hn6; have H6 := Lib.hid (push_facts H1.out (rank, came, xa, xb, xc, xd) hown6 hu6 hn6 (by repeat (first | with_reducible exact Upd.refl _ _ | with_reducible refine Upd.drew ?_ | with_reducible refine Upd.alloc ?_ _)) HN.out); obtain ⟨g6, c6, rfl⟩ := form6 hown6; obtain ⟨b0, b1, b2, y0, y1, y2⟩ := cells3 H6.out.blk; clear hown6 hu6 hn6 c0 c1 c2 z0 z1 z2 a0)
 all_goals
  go_wp2_with fail
  have H7 := H6.out.heap (by rw [HN.out]; exact HL.out) hr2 d
  refine (up_any (k := n) H7 (Nat.lt_succ_self n)).mono ?_
  rintro e w8 ⟨rfl, h8, u8⟩
  have HQ : Hid (HI w8 b (.slice (some ⟨g6, 0, none⟩) (n + 1) c6) d room (pushL l (rank, came, xa, xb, xc, xd))) := Lib.hid (by unfold pushL; rw [HN.out]; exact h8)
  have HV : Hid (OwnOrNew w (.slice ad n cp) (.slice (some ⟨g6, 0, none⟩) (n + 1) c6)) := Lib.hid (fun k hk => (H6.out.own k hk).imp id (fun h => Nat.le_trans HSZ.out h))
  have HW : Hid (Upd (HeapOf b (.slice ad n cp)) w w8) := Lib.hid (((((HU1.out.any _).trans H6.out.upd (fun _ _ h => h)).setCell (a := ⟨b, 0, none⟩) (fun _ => .inl rfl) _).setCell (a := ⟨b, 1, none⟩) (fun _ => .inl rfl) _).trans u8 (fun k hk e => by
   subst e
   rcases HV.out k rfl with h | h
   · exact .inr h
   · omega))
  clear h8 u8 H7 H6 b0 b1 b2 y0 y1 y2
  go_wp2_with fail
  go_ret
  exact ⟨rfl, _, HQ.out, HV.out, HW.out⟩
theorem len_some {w : World} {b came room : Nat} {v : Value} {l : List En} (h : HI w b v came room l) :
 Calls Tryz.prog 30 #[.pointer (some ⟨b, 0, none⟩)] w fun e w' => e = .returned (.int .i64 l.length) ∧ w = w' := by
 obtain ⟨ad, cp, rfl⟩ := h.row.form
 obtain ⟨c0, c1, c2, z0, z1, z2⟩ := cells3 h.blk
 clear h
 go_enter Tryz.func30, Tryz.ntmps30
 go_wp2_with fail
 go_ret
 exact ⟨rfl, rfl⟩
theorem new_ok (room : Nat) (w : World) (h1 : 1 ≤ room) (h2 : room ≤ 4096) :
 Calls Tryz.prog 28 #[.int .i64 room] w fun e w' => e = .returned (.tuple #[.pointer (some ⟨w.heap.size, 0, none⟩), .int .i64 0]) ∧ HI w' w.heap.size (.slice none 0 0) 0 room [] ∧ Upd Nowhere w w' := by
 have d1 : decide ((room : Int) < 1) = false := by simp; omega
 have d2 : decide (4096 < (room : Int)) = false := by simp; omega
 go_enter Tryz.func28, Tryz.ntmps28
 go_wp2_with fail
 go_ret2
 exact ⟨rfl, ⟨widE, Blk.new _ _ _, ownsRow_nil _ _ _ _, by simp, h1, h2, by simp [Value.ownBlock]⟩, (Upd.refl _ _).alloc _⟩
end Go.Proofs.YtpgpjjkeginbbaaGreatDoor.HeapE
namespace Go.Proofs.YtpgpjjkeginbbaaGreatDoor.HeapE
open Go.RowKit Go.Proofs BigFrame Heap HeapW
set_option maxHeartbeats 4000000
set_option maxRecDepth 1000000
abbrev z4 : Array Value := #[.int .i64 0, .int .u32 0, .int .u32 0, .int .u64 0]
theorem peek_some {w : World} {b came room : Nat} {v : Value} {l : List En} {a0 a1 xb xc xd : Nat} {xa : Int} (h : HI w b v came room l) (ha : l[0]? = some (a0, a1, xa, xb, xc, xd)) :
 Calls Tryz.prog 62 #[.pointer (some ⟨b, 0, none⟩)] w fun e w' => e = .returned (.tuple #[.int .u64 a0, .agg #[.int .i64 xa, .int .u32 xb, .int .u32 xc, .int .u64 xd], .bool true]) ∧ Upd Nowhere w w' := by
 obtain ⟨n, hn⟩ : ∃ n, l.length = n := ⟨_, rfl⟩
 have hn0 : 0 < n := by have := get_lt ha; omega
 obtain ⟨g, c, rfl, _, _⟩ := Row.arr h.row (by omega)
 have hU2 : Upd Nowhere w ((w.alloc (.cells z4 TEl)).alloc (.cells z4 TEl)) := ((Upd.refl _ _).alloc _).alloc _
 have hB2 : Blk ((w.alloc (.cells z4 TEl)).alloc (.cells z4 TEl)) w.heap.size z4 TEl := (Blk.new _ _ _).alloc _
 have HH := Lib.hid (h.old hU2)
 have HL := Lib.hid (len_some (h.old hU2))
 have HA := Lib.hid ha
 have hd : ((n : Int) == 0) = false := by simp; omega
 rw [hn] at HL HH
 clear h ha hn
 go_enter Tryz.func62, Tryz.ntmps62
 go_wp2_with fail
 generalize (w.alloc (.cells z4 TEl)).alloc (.cells z4 TEl) = w2 at *
 obtain ⟨c0, c1, c2, c3, z0, z1, z2, z3⟩ := cells4 hB2
 obtain ⟨b0, b1, b2, _, _, _⟩ := cells3 HH.out.blk
 obtain ⟨k0, k1, k2, k3, k4, k5, f0, f1, f2, f3, f4, f5⟩ := at6 HH.out HA.out
 refine HL.out.mono ?_
 rintro e w' ⟨rfl, rfl⟩
 go_wp2_with fail
 refine wp_region_tail 15 (by kernel_rfl) (by kernel_rfl) ?_
 simp only [List.take_succ_cons, List.take_zero, List.drop_succ_cons, List.drop_zero]
 repeat (go_big_quiet_step (fail))
 refine wpQuiet_nil ?_
 rintro _ ⟨nq, rfl⟩
 go_wp2_with fail
 refine Stage.out ?_
 go_wp2_with fail
 exact bodyPost_ret (v := .tuple #[.int .u64 a0, .agg #[.int .i64 xa, .int .u32 xb, .int .u32 xc, .int .u64 xd], .bool true]) (by simp [results, Tryz.results62, go_sem, c0, c1, c2, c3]) rfl ⟨rfl, (by repeat (first | with_reducible exact hU2 | with_reducible refine Upd.drewN ?_ _ | with_reducible refine Upd.drew ?_ | with_reducible refine Upd.setNew ?_ (Nat.le_refl _) _))⟩
end Go.Proofs.YtpgpjjkeginbbaaGreatDoor.HeapE
namespace Go.Proofs.YtpgpjjkeginbbaaGreatDoor.HeapE
open Go.RowKit Go.Proofs BigFrame Heap HeapW
set_option maxHeartbeats 4000000
set_option maxRecDepth 1000000
theorem take_last {l : List En} {m : Nat} (z y : En) (hl : l.length = m + 1) : ((l.set 0 z).set m y).take m = (l.set 0 z).dropLast := by
 rw [List.dropLast_eq_take, List.length_set, hl, Nat.add_sub_cancel]
 refine List.ext_getElem? fun i => ?_
 rcases Nat.lt_or_ge i m with h | h
 · rw [List.getElem?_take_of_lt h, List.getElem?_take_of_lt h, List.getElem?_set, if_neg (by omega)]
 · rw [List.getElem?_eq_none (by simp; omega), List.getElem?_eq_none (by simp; omega)]
theorem pop_some {w : World} {b came room : Nat} {v : Value} {l : List En} {a0 a1 xb xc xd : Nat} {xa : Int} (h : HI w b v came room l) (ha : l[0]? = some (a0, a1, xa, xb, xc, xd)) :
 Calls Tryz.prog 32 #[.pointer (some ⟨b, 0, none⟩)] w fun e w' => e = .returned (.tuple #[.int .u64 a0, .agg #[.int .i64 xa, .int .u32 xb, .int .u32 xc, .int .u64 xd], .bool true]) ∧
  ∃ v', HI w' b v' came room (popL l) ∧ OwnOrNew w v v' ∧ Upd (HeapOf b v) w w' := by
 have h0 := get_lt ha
 obtain ⟨m, hm⟩ : ∃ m, l.length = m + 1 := ⟨l.length - 1, by omega⟩
 obtain ⟨n, hn⟩ : ∃ n, m + 1 = n := ⟨_, rfl⟩
 obtain ⟨g, c, rfl, hc1, hc2⟩ := Row.arr h.row (by omega)
 obtain ⟨z, hz⟩ : ∃ z, l[m]? = some z := ⟨l[m]'(by omega), by simp⟩
 have hUA : Upd Nowhere w (w.alloc (.cells z4 TEl)) := (Upd.refl _ _).alloc _
 have hRB : Blk (w.alloc (.cells z4 TEl)) w.heap.size z4 TEl := Blk.new _ _ _
 have HP := Lib.hid (peek_some (h.old hUA) ha)
 have hr2 := h.r2
 have hle := h.le
 have hnot : ∀ k, HeapOf b (.slice (some ⟨g, 0, none⟩) l.length c) k → k < w.heap.size := fun k hk => h.lts hk
 have HLU : Hid (lastUp l = (l.set 0 z).dropLast) := Lib.hid (lastUp_at (by rw [hm, Nat.add_sub_cancel]; exact hz))
 have HTL := Lib.hid (take_last z ((0, 0, 0, 0, 0, 0) : En) hm)
 have HL1 := Lib.hid hm
 have hgl : g < w.heap.size := hnot g (.inr rfl)
 have hbl : b < w.heap.size := hnot b (.inl rfl)
 rw [hm, hn] at h hc1 hle ⊢
 have hn4 : n ≤ 4096 := by omega
 have hm4 : m < n := by omega
 have hn0 : 0 < n := by omega
 have hnc : n ≤ c := hc1
 have hmc : m ≤ c := by omega
 have e1 : (n : Int) - 1 = (m : Int) := by omega
 obtain ⟨z0', z1', za, zb, zc, zd⟩ := z
 have H0 := Lib.hid h
 have HN := Lib.hid hn
 have HA := Lib.hid ha
 have HZ := Lib.hid hz
 have HRB := Lib.hid hRB
 have HUA := Lib.hid hUA
 have hgb : b ≠ g := fun e => h.off (by rw [e]; rfl)
 clear h ha hz hm hn hc1 hc2 hle hnot hRB hUA h0
 go_enter Tryz.func32, Tryz.ntmps32
 go_wp2_with fail
 refine (HP.out).mono ?_
 rintro e w1 ⟨rfl, hu1⟩
 go_upto_region 2 with fail
 have hU1 : Upd Nowhere w (w1.alloc (.cells #[.int .i64 xa, .int .u32 xb, .int .u32 xc, .int .u64 xd] TEl)) := (HUA.out.trans hu1 (fun _ _ h => h)).alloc _
 have hR1 : Blk (w1.alloc (.cells #[.int .i64 xa, .int .u32 xb, .int .u32 xc, .int .u64 xd] TEl)) w.heap.size z4 TEl := (HRB.out.kept hu1 id).alloc _
 have hX1 : Blk (w1.alloc (.cells #[.int .i64 xa, .int .u32 xb, .int .u32 xc, .int .u64 xd] TEl)) w1.heap.size #[.int .i64 xa, .int .u32 xb, .int .u32 xc, .int .u64 xd] TEl := Blk.new _ _ _
 have hws : w.heap.size < w1.heap.size := Nat.lt_of_lt_of_le HRB.out.lt hu1.size
 obtain ⟨rb, hrb⟩ : ∃ rb, w.heap.size = rb := ⟨_, rfl⟩
 obtain ⟨xk, hxk⟩ : ∃ xk, w1.heap.size = xk := ⟨_, rfl⟩
 rw [hrb] at hR1 hgl hbl hws
 rw [hxk] at hX1 hws
 try simp only [hrb, hxk]
 have HU1 := Lib.hid hU1
 have HR1 := Lib.hid hR1
 have HX1 := Lib.hid hX1
 have HRBE := Lib.hid hrb
 have H1 := Lib.hid (H0.out.old hU1)
 clear hU1 hR1 hX1 hu1 hrb HP HUA HRB
 generalize w1.alloc (.cells #[.int .i64 xa, .int .u32 xb, .int .u32 xc, .int .u64 xd] TEl) = w2 at *
 clear hxk
 obtain ⟨c0, c1, c2, q0, q1, q2⟩ := cells3 H1.out.blk
 obtain ⟨k0, k1, k2, k3, k4, k5, f0, f1, f2, f3, f4, f5⟩ := at6 H1.out HA.out
 obtain ⟨j0, j1, j2, j3, j4, j5, g0, g1, g2, g3, g4, g5⟩ := at6 H1.out HZ.out
 go_wp2_with fail
 refine wp_region_tail 11 (by kernel_rfl) (by kernel_rfl) ?_
 simp only [List.take_succ_cons, List.take_zero, List.drop_succ_cons, List.drop_zero]
 repeat (go_big_quiet_step (fail))
 refine wpQuiet_nil ?_
 rintro _ ⟨nq, rfl⟩
 go_upto_region 5 with fail
 refine Stage.out ?_
 have HL0 : Hid (0 < l.length) := Lib.hid (by have := HL1.out; omega)
 have H2 : Hid (HI (((((((w2.drewN nq).setCell ⟨g, 0, none⟩ (.int .u64 z0')).setCell ⟨g, 1, none⟩ (.int .u64 z1')).setCell ⟨g, 2, none⟩ (.int .i64 za)).setCell ⟨g, 3, none⟩ (.int .u32 zb)).setCell ⟨g, 4, none⟩ (.int .u32 zc)).setCell ⟨g, 5, none⟩ (.int .u64 zd)) b (.slice (some ⟨g, 0, none⟩) n c) came room (l.set 0 (z0', z1', za, zb, zc, zd))) := Lib.hid (set6 (H1.out.old ((Upd.refl _ _).drewN nq)) HL0.out z0' z1' za zb zc zd)
 have HU2 : Hid (Upd (HeapOf b (.slice (some ⟨g, 0, none⟩) n c)) w2 (((((((w2.drewN nq).setCell ⟨g, 0, none⟩ (.int .u64 z0')).setCell ⟨g, 1, none⟩ (.int .u64 z1')).setCell ⟨g, 2, none⟩ (.int .i64 za)).setCell ⟨g, 3, none⟩ (.int .u32 zb)).setCell ⟨g, 4, none⟩ (.int .u32 zc)).setCell ⟨g, 5, none⟩ (.int .u64 zd))) := Lib.hid (upd6 ((Upd.refl _ _).drewN nq) (fun _ => .inr rfl) 0 z0' z1' za zb zc zd)
 clear c0 c1 c2 q0 q1 q2 k0 k1 k2 k3 k4 k5 f0 f1 f2 f3 f4 f5 j0 j1 j2 j3 j4 j5 g0 g1 g2 g3 g4 g5 H1
 generalize ((((((w2.drewN nq).setCell ⟨g, 0, none⟩ (.int .u64 z0')).setCell ⟨g, 1, none⟩ (.int .u64 z1')).setCell ⟨g, 2, none⟩ (.int .i64 za)).setCell ⟨g, 3, none⟩ (.int .u32 zb)).setCell ⟨g, 4, none⟩ (.int .u32 zc)).setCell ⟨g, 5, none⟩ (.int .u64 zd) = w3 at *
 have hm5 : m < (l.set 0 (z0', z1', za, zb, zc, zd)).length := by rw [List.length_set, HL1.out]; omega
 have hz2 : (l.set 0 (z0', z1', za, zb, zc, zd))[m]? = some (z0', z1', za, zb, zc, zd) := by
  rw [List.getElem?_set]
  by_cases e : 0 = m
  · rw [if_pos e]; simp [HL0.out]
  · rw [if_neg e]; exact HZ.out
 obtain ⟨c0, c1, c2, q0, q1, q2⟩ := cells3 H2.out.blk
 obtain ⟨j0, j1, j2, j3, j4, j5, g0, g1, g2, g3, g4, g5⟩ := at6 H2.out hz2
 have hgb1 : ¬ b = g := hgb
 have hgb2 : ¬ g = b := fun e => hgb e.symm
 have H4 := Lib.hid ((set6 H2.out hm5 0 0 0 0 0 0).cut m (by omega))
 have HU4 := Lib.hid ((upd6 HU2.out (fun _ => .inr rfl) m 0 0 0 0 0 0).setCell (a := ⟨b, 0, none⟩) (fun _ => .inl rfl) (.slice (some ⟨g, 0, none⟩) m c))
 have HD := Lib.hid (down_any (k := 0) H4.out (Nat.zero_le _))
 clear hz2 hm5
 go_wp2_with fail
 refine HD.out.mono ?_
 rintro e w5 ⟨rfl, h5, u5⟩
 have HQ : Hid (HI w5 b (.slice (some ⟨g, 0, none⟩) m c) came room (popL l)) := Lib.hid (by unfold popL; rw [HLU.out, ← HTL.out]; exact h5)
 have hW := HU4.out.trans u5 (fun k _ e => .inr (by rw [e]; rfl))
 have HW := Lib.hid hW
 have hnr : ¬ HeapOf b (.slice (some ⟨g, 0, none⟩) n c) rb := fun h => by
  rcases h with h | h
  · omega
  · have : g = rb := Option.some.inj h; omega
 have hnx : ¬ HeapOf b (.slice (some ⟨g, 0, none⟩) n c) xk := fun h => by
  rcases h with h | h
  · omega
  · have : g = xk := Option.some.inj h; omega
 have hR5 := HR1.out.kept hW hnr
 have hX5 := HX1.out.kept hW hnx
 clear h5 u5 HD HU4 H4 hW c0 c1 c2 q0 q1 q2 j0 j1 j2 j3 j4 j5 g0 g1 g2 g3 g4 g5 H2 HU2
 obtain ⟨c0, c1, c2, c3, q0, q1, q2, q3⟩ := cells4 hR5
 obtain ⟨k0, k1, k2, k3, f0, f1, f2, f3⟩ := cells4 hX5
 clear hR5 hX5
 go_wp2_with fail
 refine wp_region_tail 4 (by kernel_rfl) (by kernel_rfl) ?_
 simp only [List.take_succ_cons, List.take_zero, List.drop_succ_cons, List.drop_zero]
 repeat (go_big_quiet_step (fail))
 refine wpQuiet_nil ?_
 rintro _ ⟨nq2, rfl⟩
 go_wp2_with fail
 refine Stage.out ?_
 go_wp2_with fail
 have hS : ∀ k, HeapOf b (.slice (some ⟨g, 0, none⟩) m c) k → ¬ k = rb := fun k hk e => by
  subst e
  rcases hk with h | h
  · omega
  · have : g = k := Option.some.inj h; omega
 have HUF : Hid (Upd (HeapOf b (.slice (some ⟨g, 0, none⟩) n c)) w w5) := Lib.hid ((HU1.out.any _).trans HW.out (fun _ _ h => h))
 refine bodyPost_ret (v := .tuple #[.int .u64 a0, .agg #[.int .i64 xa, .int .u32 xb, .int .u32 xc, .int .u64 xd], .bool true]) (by simp [results, Tryz.results32, go_sem, c0, c1, c2, c3]) rfl ⟨rfl, _, HQ.out.kept (S := fun k => k = rb) ?_ hS, fun k hk => .inl hk, ?_⟩
 · exact ((((((Upd.refl (fun k => k = rb) w5).drewN nq2).setCell (a := ⟨rb, 0, none⟩) (fun _ => rfl) _).setCell (a := ⟨rb, 1, none⟩) (fun _ => rfl) _).setCell (a := ⟨rb, 2, none⟩) (fun _ => rfl) _).setCell (a := ⟨rb, 3, none⟩) (fun _ => rfl) _)
 · repeat (first | with_reducible exact HUF.out | with_reducible refine Upd.drewN ?_ _ | with_reducible refine Upd.drew ?_ | with_reducible refine Upd.setNew ?_ (by rw [HRBE.out]; exact Nat.le_refl _) _)
end Go.Proofs.YtpgpjjkeginbbaaGreatDoor.HeapE
namespace Go.Proofs.YtpgpjjkeginbbaaGreatDoor.HeapE
open Go.RowKit Go.Proofs BigFrame Heap HeapW
open Cal (ins itms itm Mt insE)
set_option maxHeartbeats 1000000
/-- A heap of the blocks own that has the sorted list m; at most c came. -/
def Hq (w : World) (b : Nat) (own : Nat → Prop) (room c : Nat) (m : List (Nat × El)) : Prop :=
 ∃ v came l s, HI w b v came room l ∧ IsHeap l ∧ Mt came l s ∧ itms s = m ∧ came ≤ c ∧ ∀ k, own k ↔ HeapOf b v k
section
variable {w w' : World} {b room c : Nat} {own : Nat → Prop} {m : List (Nat × El)}
theorem Hq.lts (h : Hq w b own room c m) {k : Nat} (hk : own k) : k < w.heap.size := by
 obtain ⟨v, came, l, s, hh, _, _, _, _, ho⟩ := h
 exact hh.lts ((ho k).1 hk)
theorem Hq.kept (h : Hq w b own room c m) {S : Nat → Prop} (hu : Upd S w w') (hS : ∀ k, own k → ¬ S k) : Hq w' b own room c m := by
 obtain ⟨v, came, l, s, hh, h1, h2, h3, h4, ho⟩ := h
 exact ⟨v, came, l, s, hh.kept hu (fun k hk => hS k ((ho k).2 hk)), h1, h2, h3, h4, ho⟩
theorem Hq.more (h : Hq w b own room c m) {c' : Nat} (hc : c ≤ c') : Hq w b own room c' m := by
 obtain ⟨v, came, l, s, hh, h1, h2, h3, h4, ho⟩ := h
 exact ⟨v, came, l, s, hh, h1, h2, h3, by omega, ho⟩
/-- Such a heap, among other things. -/
def heapC (b room c : Nat) (m : List (Nat × El)) : Comp := ⟨fun w o => Hq w b o room c m, fun h hu hS => h.kept hu hS, fun h hk => h.lts hk⟩
theorem q_new (room : Nat) (w : World) (h1 : 1 ≤ room) (h2 : room ≤ 4096) :
 Calls Tryz.prog 28 #[.int .i64 room] w fun e w' => e = .returned (.tuple #[.pointer (some ⟨w.heap.size, 0, none⟩), .int .i64 0]) ∧ (∃ own, Hq w' w.heap.size own room 0 [] ∧ ∀ k, own k → w.heap.size ≤ k) ∧ Upd Nowhere w w' := by
 refine (new_ok room w h1 h2).mono ?_
 rintro e w' ⟨rfl, h, hu⟩
 refine ⟨rfl, ⟨_, ⟨_, _, _, _, h, fun i a b hi ha => (by cases ha), Mt.nil, rfl, Nat.le_refl _, fun _ => Iff.rfl⟩, fun k hk => ?_⟩, hu⟩
 rcases hk with rfl | hk
 · exact Nat.le_refl _
 · cases hk
theorem q_len (h : Hq w b own room c m) : Calls Tryz.prog 30 #[.pointer (some ⟨b, 0, none⟩)] w fun e w' => e = .returned (.int .i64 m.length) ∧ w = w' := by
 obtain ⟨v, came, l, s, hh, h1, h2, rfl, h4, ho⟩ := h
 rw [Cal.itms_len, h2.len]
 exact len_some hh
theorem own_of {b : Nat} {v v' : Value} {own : Nat → Prop} (ho : ∀ k, own k ↔ HeapOf b v k) (h : OwnOrNew w v v') : ∀ k, HeapOf b v' k → own k ∨ w.heap.size ≤ k := fun k hk => by
 rcases hk with rfl | hk
 · exact .inl ((ho _).2 (.inl rfl))
 · rcases h k hk with h | h
   · exact .inl ((ho _).2 (.inr h))
   · exact .inr h
theorem q_push (h : Hq w b own room c m) (hl : m.length < room) (hc : c < 18446744073709551615) (rank : Nat) (x : El) :
 Calls Tryz.prog 72 #[.pointer (some ⟨b, 0, none⟩), .int .u64 rank, VE x] w fun e w' => e = .returned (.bool true) ∧
  (∃ own', Hq w' b own' room (c + 1) (ins rank x m) ∧ ∀ k, own' k → own k ∨ w.heap.size ≤ k) ∧ Upd own w w' := by
 obtain ⟨v, came, l, s, hh, h1, h2, rfl, h4, ho⟩ := h
 rw [Cal.itms_len, h2.len] at hl
 obtain ⟨xa, xb, xc, xd⟩ := x
 refine (push_room hh hl (by omega) rank xa xb xc xd).mono ?_
 rintro e w' ⟨rfl, v', t1, t2, t3⟩
 refine ⟨rfl, ⟨_, ⟨v', _, _, _, t1, push_heap h1 _, h2.push rank (xa, xb, xc, xd), ?_, by omega, fun _ => Iff.rfl⟩, own_of ho t2⟩, t3.mono fun k _ hk => (ho k).2 hk⟩
 exact Cal.itms_ins (rank, came, xa, xb, xc, xd) s
theorem q_pop {r : Nat} {x : El} {t : List (Nat × El)} (h : Hq w b own room c ((r, x) :: t)) :
 Calls Tryz.prog 32 #[.pointer (some ⟨b, 0, none⟩)] w fun e w' => e = .returned (.tuple #[.int .u64 r, VE x, .bool true]) ∧
  (∃ own', Hq w' b own' room c t ∧ ∀ k, own' k → own k ∨ w.heap.size ≤ k) ∧ Upd own w w' := by
 obtain ⟨v, came, l, s, hh, h1, h2, h3, h4, ho⟩ := h
 cases s with
 | nil => cases h3
 | cons a s =>
   injection h3 with e1 e2
   have h0 := h2.head h1
   obtain ⟨a0, a1, xa, xb, xc, xd⟩ := a
   have hp := pop_some hh h0
   unfold itm at e1
   injection e1 with e3 e4
   subst e3
   subst e4
   refine hp.mono ?_
   rintro e w' ⟨rfl, v', t1, t2, t3⟩
   exact ⟨rfl, ⟨_, ⟨v', _, _, _, t1, pop_heap h1, h2.pop h1, e2, h4, fun _ => Iff.rfl⟩, own_of ho t2⟩, t3.mono fun k _ hk => (ho k).2 hk⟩
end
end Go.Proofs.YtpgpjjkeginbbaaGreatDoor.HeapE

