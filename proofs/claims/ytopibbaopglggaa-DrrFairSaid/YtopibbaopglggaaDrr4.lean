/- drr: begin. -/
import Derived.Test.YtopibbaopglggaaDrr3
namespace Go.Proofs.Ytopibbaopglggaa.Drr
open Go.RowKit Go.Proofs BigFrame
open PairD (TR TE el)
set_option maxHeartbeats 4000000
set_option maxRecDepth 1000000
theorem begin_any {w : World} {t gc cc n cnt : Nat} {rv : Value} {st : Turn} {q rb : Nat → Nat} {rg : Nat → Option Nat} {its : Items} (h : D w t gc cc n cnt rv st q rb rg its) {c : Nat} {r : List Nat} (hr : st.row = c :: r) (hc : c < n) (hs : startCr q st c c ≤ 4295032831) :
    Calls Try.prog 56 #[.pointer (some ⟨t, 0, none⟩)] w fun e w' => e = .returned (.pointer (some ⟨gc, c * 3, none⟩)) ∧ D w' t gc cc n cnt rv ⟨st.row, true, startCr q st c⟩ q rb rg its ∧ Upd (fun k => k = t ∨ k = gc) w w' := by
  obtain ⟨c0, c1, c2, c3, z0, z1, z2, z3⟩ := cells4 h.blk
  have hl := h.lane
  rw [hr] at hl
  obtain ⟨g, o, cv, hv, hcell, hg, _⟩ := hl.cons
  have i1 : (c : Int) < n := by omega
  have i0 : (0 : Int) < (r.length : Int) + 1 := by omega
  have i2 : (0 : Int) < ((r.length + 1 : Nat) : Int) := by omega
  have H0 := Lib.hid h
  have HR := Lib.hid hr
  obtain ⟨q0, hq⟩ : ∃ x, q c = x := ⟨_, rfl⟩
  obtain ⟨k0, hk⟩ : ∃ x, st.cr c = x := ⟨_, rfl⟩
  obtain ⟨b0, hb⟩ : ∃ x, st.begun = x := ⟨_, rfl⟩
  have hcr := h.cr_ hc
  have hqc := h.q_ hc
  have zc := h.cfree (c * 3 + 1)
  have ntg : ¬ t = gc := h.tg
  have ngt : ¬ gc = t := fun e => h.tg e.symm
  rw [hk] at hcr
  rw [hq] at hqc
  rw [hb] at c2
  rw [startCr_at, hb, hk, hq] at hs
  have HK := Lib.hid hk
  have HQ := Lib.hid hq
  have HB := Lib.hid hb
  have hv1 := hv
  subst hv
  clear h hl hk hq hb hr hv1
  cases b0 with
  | true =>
    go_enter Try.func56, Try.ntmps56
    go_wp2_with fail
    go_quiet (fail)
    go_wp2_with fail
    go_ret
    have e : startCr q st c = st.cr := by unfold startCr; rw [HB.out]; rfl
    refine ⟨rfl, ?_, (Upd.refl _ _).drewN _⟩
    rw [e]
    have h2 := H0.out.old ((Upd.refl _ _).drewN nq)
    rw [HB.out] at h2
    exact h2
  | false =>
    simp only [Bool.false_eq_true, if_false] at hs
    have e1 : IntKind.u64.wrap ((k0 : Int) + q0) = ((k0 + q0 : Nat) : Int) := by rw [IntKind.wrap_u64]; omega
    go_enter Try.func56, Try.ntmps56
    go_wp2_with fail
    go_quiet (fail)
    go_upto_region 4 with fail
    have H1 := Lib.hid ((H0.out.old ((Upd.refl _ _).drewN nq)).setB true)
    have hU1 : Upd (fun k => k = t ∨ k = gc) w ((w.drewN nq).setCell ⟨t, 2, none⟩ (.bool true)) := ((Upd.refl _ _).drewN nq).setCell (fun _ => .inl rfl) _
    generalize (w.drewN nq).setCell ⟨t, 2, none⟩ (.bool true) = w1 at *
    clear c0 c1 c2 c3 z0 z1 z2 z3 hcr hqc zc hcell
    have hcr := H1.out.cr_ hc
    have hqc := H1.out.q_ hc
    have zc := H1.out.cfree (c * 3 + 1)
    rw [HK.out] at hcr
    rw [HQ.out] at hqc
    refine wp_region_tail 11 (by kernel_rfl) (by kernel_rfl) ?_
    simp only [List.take_succ_cons, List.take_zero, List.drop_succ_cons, List.drop_zero]
    repeat (go_big_quiet_step (fail))
    refine wpQuiet_nil ?_
    rintro _ ⟨nq2, rfl⟩
    go_wp2
    refine Stage.out ?_
    go_wp2_with fail
    go_ret
    have e : startCr q st c = upd st.cr c (k0 + q0) := by unfold startCr; rw [HB.out, HK.out, HQ.out]; rfl
    refine ⟨rfl, ?_, (hU1.drewN nq2).setCell (fun _ => .inr rfl) _⟩
    rw [e]
    exact (H1.out.old ((Upd.refl _ _).drewN nq2)).setC hc (k0 + q0)
end Go.Proofs.Ytopibbaopglggaa.Drr
