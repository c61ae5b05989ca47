/- SpRises: from the walk to the statement. -/
import Derived.Test.YtopibbaopglggaaSpRises2
import Derived.Test.YtopibbaopglggaaOpen
import Derived.Test.YtopibbaopglggaaClose
namespace Go.Proofs.Ytopibbaopglggaa.SpRises
open Go.RowKit Go.Proofs Go.ChangeShapes Go.WideShapes Go.ChangeAt

theorem own : ownKnob Try.prog.godebug = none := by kernel_rfl

set_option maxRecDepth 100000 in
theorem contract (H : Type) (enc : TypeId × Value → H) (W : World) (base : Nat) (args : Array Value) (ds gs : List (DataW H)) (before : List MemPlace)
    (hval : ∀ (j : Nat) t v, Try.f3.params[j]? = some t → args[j]? = some v → Value.okWide Try.prog W .any base t v)
    (hW : DataW.Whole enc Try.prog Try.f3.params.toList Rows.spRisesSpec.vars false W args.toList ds gs before) :
    Calls Try.prog 3 args W fun e W' => ∃ v, e = .returned v ∧ Rows.spRisesSpec.post enc Try.prog Try.f3 false true false false W args v W' := by
  have hW' := hW
  obtain ⟨p, q, hA0, hV, rfl, hfz, hnd⟩ := hW
  have hA : DataW.TrodAll enc Try.prog W 0 (fun _ => true) true Try.f3.params.toList args.toList ds p := hA0
  rw [Try.params3] at hA hval
  obtain ⟨v0, vs0, d0, ds0, p0, q0, hargs, rfl, rfl, h0, r0⟩ := trodAll_cons hA
  obtain ⟨v1, vs1, d1, ds1, p1, q1, rfl, rfl, rfl, h1, r1⟩ := trodAll_cons r0
  obtain ⟨v2, vs2, d2, ds2, p2, q2, rfl, rfl, rfl, h2, r2⟩ := trodAll_cons r1
  obtain ⟨rfl, rfl, rfl⟩ := trodAll_nil r2
  obtain rfl : args = #[v0, v1, v2] := by cases args; simp_all
  obtain ⟨rfl, rfl⟩ := trodVars_none hV
  simp only [List.append_nil] at hW'
  have fin : ∀ W', Upd Nowhere W W' → Rows.spRisesSpec.post enc Try.prog Try.f3 false true false false W #[v0, v1, v2] (.bool true) W' := fun W' hu =>
    post_law laid_out (by kernel_rfl) rfl Try.underlying4 rfl hW' hu ⟨rfl, rfl, rfl⟩
  obtain ⟨a0, rfl, rfl, rfl, w0⟩ := open_int Try.underlying5 (hval 0 5 v0 rfl rfl) h0
  obtain ⟨m0, rfl⟩ : ∃ n : Nat, a0 = n := ⟨a0.toNat, by have := bd8 w0; omega⟩
  have b0 : m0 ≤ 255 := by have := bd8 w0; omega
  obtain ⟨l1, lb1, hv1⟩ := open_rows (X := Nat × Bool) (n := 6) (C := 2) (l := [29, 4]) Try.underlying22 (by kernel_rfl) (by kernel_rfl) (by omega) Sp.rise (fun a => a.1 ≤ 4294967295) (fun _ => rfl) (fun cs f => by
    obtain ⟨c0, s0, rfl, g0, f0⟩ := f.cons
    obtain ⟨n0, rfl, b0⟩ := g0.nat32 Try.underlying29
    obtain ⟨c1, s1, rfl, g1, f1⟩ := f0.cons
    obtain ⟨n1, rfl⟩ := g1.bool Try.underlying4
    obtain rfl := f1.nil
    exact ⟨(n0, n1), rfl, b0⟩) (read1_of (okWide_slice Try.underlying22 (hval 1 22 v1 rfl rfl)) h1)
  obtain ⟨a2, rfl, rfl, rfl⟩ := open_bool Try.underlying4 (hval 2 4 v2 rfl rfl) h2
  refine (Sp.rises_law m0 b0 v1 l1 lb1 a2 W hv1).mono fun e W' ⟨he, hg⟩ => ?_
  subst he
  exact ⟨_, rfl, fin W' hg⟩

set_option maxRecDepth 100000 in
theorem lifted (os : Os) (started : os.Started) (H : Type) (enc : TypeId × Value → H) :
    ReturnsInHanded {} Try.checked os 3 .any (Rows.spRisesSpec.pre6 enc Try.prog Try.f3 Rows.spRisesRow.domain false) (Rows.spRisesSpec.post enc Try.prog Try.f3 false true false false) := by
  refine returnsInHanded_of_change own started (by kernel_rfl) Try.func3
    (ChangeSpec.witness6 false ⟨#[], #[.int .u8 0, .slice none 0 0, .bool false], []⟩ 8 (by kernel_rfl) (by kernel_rfl) (by kernel_rfl) (by kernel_rfl)) ?_
  intro W base args ds gs before hval hW _ _
  exact contract H enc W base args ds gs before hval hW

theorem proved : Rows.SpRisesSaid :=
  OpenClaim.holds_of_wide 3 Try.f3 rfl rfl rfl rfl rfl rfl rfl ⟨rfl, rfl, rfl, rfl, rfl⟩ rfl rfl rfl rfl rfl (by kernel_rfl) Try.func3 (by kernel_rfl)
    (of_decide_eq_true (by kernel_rfl)) (by unfold Func.isWrapper; first | (rw [if_pos (by decide +kernel)]; kernel_rfl) | (rw [if_neg (by decide +kernel)]; exact ⟨rfl, rfl⟩))
    (fun os started H enc _ => lifted os started H enc)
end Go.Proofs.Ytopibbaopglggaa.SpRises
