/- DrrPlays: from the walk to the statement. -/
import Derived.Test.YtopibbaopglggaaDrrPlays3
import Derived.Test.YtopibbaopglggaaOpen
import Derived.Test.YtopibbaopglggaaClose
namespace Go.Proofs.Ytopibbaopglggaa.DrrPlays
open Go.RowKit Go.Proofs Go.ChangeShapes Go.WideShapes Go.ChangeAt

theorem own : ownKnob Try.prog.godebug = none := by kernel_rfl

set_option maxRecDepth 100000 in
theorem contract (H : Type) (enc : TypeId × Value → H) (W : World) (base : Nat) (args : Array Value) (ds gs : List (DataW H)) (before : List MemPlace)
    (hval : ∀ (j : Nat) t v, Try.f9.params[j]? = some t → args[j]? = some v → Value.okWide Try.prog W .any base t v)
    (hW : DataW.Whole enc Try.prog Try.f9.params.toList Rows.drrPlaysSpec.vars false W args.toList ds gs before) :
    Calls Try.prog 9 args W fun e W' => ∃ v, e = .returned v ∧ Rows.drrPlaysSpec.post enc Try.prog Try.f9 false true false false W args v W' := by
  have hW' := hW
  obtain ⟨p, q, hA0, hV, rfl, hfz, hnd⟩ := hW
  have hA : DataW.TrodAll enc Try.prog W 0 (fun _ => true) true Try.f9.params.toList args.toList ds p := hA0
  rw [Try.params9] at hA hval
  obtain ⟨v0, vs0, d0, ds0, p0, q0, hargs, rfl, rfl, h0, r0⟩ := trodAll_cons hA
  obtain ⟨v1, vs1, d1, ds1, p1, q1, rfl, rfl, rfl, h1, r1⟩ := trodAll_cons r0
  obtain ⟨rfl, rfl, rfl⟩ := trodAll_nil r1
  obtain rfl : args = #[v0, v1] := by cases args; simp_all
  obtain ⟨rfl, rfl⟩ := trodVars_none hV
  simp only [List.append_nil] at hW'
  have fin : ∀ W', Upd Nowhere W W' → Rows.drrPlaysSpec.post enc Try.prog Try.f9 false true false false W #[v0, v1] (.bool true) W' := fun W' hu =>
    post_law laid_out (by kernel_rfl) rfl Try.underlying4 rfl hW' hu ⟨rfl, rfl, rfl⟩
  obtain ⟨l0, rw0, w0, le0⟩ := open_row Try.underlying38 Try.underlying28 (by kernel_rfl) (hval 0 38 v0 rfl rfl) h0
  obtain ⟨l1, lb1, hv1⟩ := open_rows (X := Bool × Int × Nat) (n := 6) (C := 3) (l := [4, 3, 28]) Try.underlying69 (by kernel_rfl) (by kernel_rfl) (by omega) Drr.actv (fun a => a.2.2 ≤ 18446744073709551615) (fun _ => rfl) (fun cs f => by
    obtain ⟨c0, s0, rfl, g0, f0⟩ := f.cons
    obtain ⟨n0, rfl⟩ := g0.bool Try.underlying4
    obtain ⟨c1, s1, rfl, g1, f1⟩ := f0.cons
    obtain ⟨n1, rfl, b1, b1'⟩ := g1.int64 Try.underlying3
    obtain ⟨c2, s2, rfl, g2, f2⟩ := f1.cons
    obtain ⟨n2, rfl, b2⟩ := g2.nat64 Try.underlying28
    obtain rfl := f2.nil
    exact ⟨(n0, n1, n2), rfl, b2⟩) (read1_of (okWide_slice Try.underlying69 (hval 1 69 v1 rfl rfl)) h1)
  refine (Drr.plays_law v0 l0 v1 l1 W rw0 w0 lb1 hv1).mono fun e W' ⟨he, hg⟩ => ?_
  subst he
  exact ⟨_, rfl, fin W' hg⟩

set_option maxRecDepth 100000 in
theorem lifted (os : Os) (started : os.Started) (H : Type) (enc : TypeId × Value → H) :
    ReturnsInHanded {} Try.checked os 9 .any (Rows.drrPlaysSpec.pre6 enc Try.prog Try.f9 Rows.drrPlaysRow.domain false) (Rows.drrPlaysSpec.post enc Try.prog Try.f9 false true false false) := by
  refine returnsInHanded_of_change own started (by kernel_rfl) Try.func9
    (ChangeSpec.witness6 false ⟨#[], #[.slice none 0 0, .slice none 0 0], []⟩ 8 (by kernel_rfl) (by kernel_rfl) (by kernel_rfl) (by kernel_rfl)) ?_
  intro W base args ds gs before hval hW _ _
  exact contract H enc W base args ds gs before hval hW

theorem proved : Rows.DrrPlaysSaid :=
  OpenClaim.holds_of_wide 9 Try.f9 rfl rfl rfl rfl rfl rfl rfl ⟨rfl, rfl, rfl, rfl, rfl⟩ rfl rfl rfl rfl rfl (by kernel_rfl) Try.func9 (by kernel_rfl)
    (of_decide_eq_true (by kernel_rfl)) (by unfold Func.isWrapper; first | (rw [if_pos (by decide +kernel)]; kernel_rfl) | (rw [if_neg (by decide +kernel)]; exact ⟨rfl, rfl⟩))
    (fun os started H enc _ => lifted os started H enc)
end Go.Proofs.Ytopibbaopglggaa.DrrPlays
