/- heappifo's heap of string: ahead, up. -/
import Derived.Test.YtbegljpnjcggnaaProg
import Derived.Test.YtbegljpnjcggnaaHeapCore
import Derived.Test.YtbegljpnjcggnaaMix2
import Derived.Lib.Hide
namespace Go.Proofs.Ytbegljpnjcggnaa.HeapS
open Go.RowKit Go.Proofs BigFrame Heap
abbrev TH : TypeId := 68
abbrev TE : TypeId := 70
abbrev En := Ent ByteArray
/-- An entry, as a value. -/
abbrev V (x : En) : Value := .agg #[.int .u64 x.1, .int .u64 x.2.1, Value.string x.2.2]
set_option maxHeartbeats 1000000
theorem ahead_any (x y : En) (w : World) :
    Calls Try.prog 33 #[V x, V y] w fun e w' => e = .returned (.bool (ahd x y)) ∧ Upd Nowhere w w' := by
  obtain ⟨x0, x1, x2⟩ := x
  obtain ⟨y0, y1, y2⟩ := y
  have hU : Upd Nowhere w ((w.alloc (.cells #[.int .u64 x0, .int .u64 x1, Value.string x2] TE)).alloc (.cells #[.int .u64 y0, .int .u64 y1, Value.string y2] TE)) := ((Upd.refl _ _).alloc _).alloc _
  by_cases h1 : x0 < y0
  · have d1 : decide (x0 < y0) = true := decide_eq_true h1
    have e : ahd (x0, x1, x2) (y0, y1, y2) = true := by rw [ahd_iff]; exact .inl h1
    rw [e]
    go_enter Try.func33, Try.ntmps33
    go_wp2_with fail
    go_ret
    exact ⟨rfl, hU⟩
  · have d1 : decide (x0 < y0) = false := decide_eq_false h1
    by_cases h2 : x0 = y0
    · have d2 : decide (x0 = y0) = true := decide_eq_true h2
      have d3 : ((x0 : Int) == y0) = true := by simp [h2]
      have e : ahd (x0, x1, x2) (y0, y1, y2) = decide (x1 < y1) := by unfold ahd; simp [h2]
      rw [e]
      have H2 := Lib.hid h2
      clear h2
      go_enter Try.func33, Try.ntmps33
      go_wp2_with fail
      go_ret
      exact ⟨rfl, hU⟩
    · have d2 : decide (x0 = y0) = false := decide_eq_false h2
      have d3 : ((x0 : Int) == y0) = false := by simp; omega
      have e : ahd (x0, x1, x2) (y0, y1, y2) = false := by rw [ahd_not]; simp; omega
      rw [e]
      go_enter Try.func33, Try.ntmps33
      go_wp2_with fail
      go_ret
      exact ⟨rfl, hU⟩
theorem up_any {w : World} {b g n c came room k : Nat} {l : List En} (h : HeapIn (Value.string) TH TE w b (.slice (some ⟨g, 0, none⟩) n c) came room l) (hk : k < n) :
    Calls Try.prog 27 #[.pointer (some ⟨b, 0, none⟩), .int .i64 k] w fun e w' => e = .returned (.tuple #[]) ∧ HeapIn (Value.string) TH TE w' b (.slice (some ⟨g, 0, none⟩) n c) came room (upL l k) ∧ Upd (fun q => q = g) w w' := by
  obtain ⟨R, hR⟩ : ∃ R, upL l k = R := ⟨_, rfl⟩
  rw [hR]
  have HR := Lib.hid hR
  have hr2 := h.r2
  have hn : n ≤ 4096 := by have := h.le; have := h.len; omega
  have H0 := Lib.hid h
  clear hR h
  go_enter Try.func27, Try.ntmps27
  go_wp2_with fail
  go_loopw [1, 4] (fun v1 _ wr => ∃ (i : Nat) (m : List En), v1 = .int .i64 i ∧ i < n ∧ Hid (upL m i = R) ∧ HeapIn (Value.string) TH TE wr b (.slice (some ⟨g, 0, none⟩) n c) came room m ∧ Upd (fun q => q = g) w wr) (fun v1 _ _ => (intOf v1).toNat)
  case atStart => exact ⟨k, l, rfl, hk, HR, H0.out, Upd.refl _ _⟩
  case round =>
    obtain ⟨i, m, rfl, hi, HRi, hH, hu⟩ := hrel
    obtain ⟨wB, rfl⟩ : ∃ x, x = wr := ⟨_, rfl⟩
    have H1 := Lib.hid hH
    have HU := Lib.hid hu
    obtain ⟨c0, c1, c2, z0, z1, z2⟩ := cells3 hH.blk
    have hlen := hH.len
    clear hH hu H0 HR
    rcases Nat.eq_zero_or_pos i with hi0 | hpos
    · subst hi0
      go_wp2_with fail
      go_end0
      have e := HRi.out
      rw [upL_zero] at e
      subst e
      exact ⟨rfl, H1.out, HU.out⟩
    · have hI : (i : Int) > 0 := by omega
      obtain ⟨p, hp⟩ : ∃ p, (i - 1) / 2 = p := ⟨_, rfl⟩
      have hp2 : p < i := by omega
      have hP : ((i : Int) - 1).tdiv 2 = (p : Int) := by rw [show (i : Int) - 1 = ((i - 1 : Nat) : Int) by omega, ← hp]; rfl
      have Hp := Lib.hid hp
      clear hp
      obtain ⟨x, hx⟩ : ∃ x, m[i]? = some x := ⟨m[i]'(by omega), by simp⟩
      obtain ⟨y, hy⟩ : ∃ y, m[p]? = some y := ⟨m[p]'(by omega), by simp⟩
      obtain ⟨x0, x1, x2⟩ := x
      obtain ⟨y0, y1, y2⟩ := y
      obtain ⟨k0, k1, k2, f0, f1, f2⟩ := H1.out.at hx
      obtain ⟨j0, j1, j2, g0, g1, g2⟩ := H1.out.at hy
      have Hx := Lib.hid hx
      have Hy := Lib.hid hy
      clear hx hy hlen
      have HA := fun u => Lib.hid (ahead_any (x0, x1, x2) (y0, y1, y2) u)
      go_wp2_with fail
      refine wp_region_tail 14 (by kernel_rfl) (by kernel_rfl) ?_
      simp only [List.take_succ_cons, List.take_zero, List.drop_succ_cons, List.drop_zero]
      repeat (go_big_quiet_step (fail))
      refine wpQuiet_nil ?_
      rintro _ ⟨nq, rfl⟩
      go_wp2_with fail
      refine (HA _).out.mono ?_
      rintro e wC ⟨rfl, hC⟩
      have huC : Upd Nowhere wB wC := ((Upd.refl _ _).drewN nq).trans hC (fun _ _ h => h)
      have H2 := Lib.hid (H1.out.old huC)
      have HU2 := Lib.hid (HU.out.trans huC (fun _ _ h => h.elim))
      clear hC huC HA c0 c1 c2 z0 z1 z2 k0 k1 k2 f0 f1 f2 j0 j1 j2 g0 g1 g2
      obtain ⟨c0, c1, c2, z0, z1, z2⟩ := cells3 H2.out.blk
      obtain ⟨k0, k1, k2, f0, f1, f2⟩ := H2.out.at Hx.out
      obtain ⟨j0, j1, j2, g0, g1, g2⟩ := H2.out.at Hy.out
      cases hab : ahd (x0, x1, x2) (y0, y1, y2) with
      | false =>
        have HAB := Lib.hid hab
        clear hab
        go_wp2_with fail
        refine Stage.out ?_
        go_wp2_with fail
        have e := HRi.out
        rw [upL_stop Hx.out (by rw [Hp.out]; exact Hy.out) HAB.out] at e
        subst e
        exact bodyPost_ret (results_none rfl _ _ _) rfl ⟨rfl, H2.out, HU2.out⟩
      | true =>
        have HAB := Lib.hid hab
        clear hab
        go_wp2_with fail
        refine Stage.out ?_
        go_wp2_with fail
        refine wp_region_tail 24 (by kernel_rfl) (by kernel_rfl) ?_
        simp only [List.take_succ_cons, List.take_zero, List.drop_succ_cons, List.drop_zero]
        repeat (go_big_quiet_step (fail))
        refine wpQuiet_nil ?_
        rintro _ ⟨nq2, rfl⟩
        go_wp2_with fail
        refine Stage.out ?_
        have hS := (H2.out.old ((Upd.refl _ _).drewN nq2)).swap Hx.out Hy.out
        have hUS := Upd.entry (Upd.entry (HU2.out.drewN nq2) (fun _ => rfl) i (.int .u64 y0) (.int .u64 y1) (Value.string y2)) (fun _ => rfl) p (.int .u64 x0) (.int .u64 x1) (Value.string x2)
        go_wp2_with fail
        go_roundw
        case rel =>
          refine ⟨p, _, rfl, by omega, Lib.hid ?_, hS, hUS⟩
          rw [← HRi.out, upL_step hpos Hx.out (by rw [Hp.out]; exact Hy.out) HAB.out, Hp.out]
        case measure => simp [intOf]; omega
end Go.Proofs.Ytbegljpnjcggnaa.HeapS
