/- DrrFair: from the walk to the statement. -/
import Derived.Test.YtopibbaopglggaaDrrFair2
import Derived.Test.YtopibbaopglggaaOpen
import Derived.Test.YtopibbaopglggaaClose
namespace Go.Proofs.Ytopibbaopglggaa.DrrFair
open Go.RowKit Go.Proofs Go.ChangeShapes Go.WideShapes Go.ChangeAt

theorem own : ownKnob Try.prog.godebug = none := by kernel_rfl

set_option maxRecDepth 100000 in
theorem contract (H : Type) (enc : TypeId × Value → H) (W : World) (base : Nat) (args : Array Value) (ds gs : List (DataW H)) (before : List MemPlace)
    (hval : ∀ (j : Nat) t v, Try.f6.params[j]? = some t → args[j]? = some v → Value.okWide Try.prog W .any base t v)
    (hW : DataW.Whole enc Try.prog Try.f6.params.toList Rows.drrFairSpec.vars false W args.toList ds gs before) :
    Calls Try.prog 6 args W fun e W' => ∃ v, e = .returned v ∧ Rows.drrFairSpec.post enc Try.prog Try.f6 false true false false W args v W' := by
  have hW' := hW
  obtain ⟨p, q, hA0, hV, rfl, hfz, hnd⟩ := hW
  have hA : DataW.TrodAll enc Try.prog W 0 (fun _ => true) true Try.f6.params.toList args.toList ds p := hA0
  rw [Try.params6] at hA hval
  obtain ⟨v0, vs0, d0, ds0, p0, q0, hargs, rfl, rfl, h0, r0⟩ := trodAll_cons hA
  obtain ⟨v1, vs1, d1, ds1, p1, q1, rfl, rfl, rfl, h1, r1⟩ := trodAll_cons r0
  obtain ⟨v2, vs2, d2, ds2, p2, q2, rfl, rfl, rfl, h2, r2⟩ := trodAll_cons r1
  obtain ⟨rfl, rfl, rfl⟩ := trodAll_nil r2
  obtain rfl : args = #[v0, v1, v2] := by cases args; simp_all
  obtain ⟨rfl, rfl⟩ := trodVars_none hV
  simp only [List.append_nil] at hW'
  have fin : ∀ W', Upd Nowhere W W' → Rows.drrFairSpec.post enc Try.prog Try.f6 false true false false W #[v0, v1, v2] (.bool true) W' := fun W' hu =>
    post_law laid_out (by kernel_rfl) rfl Try.underlying4 rfl hW' hu ⟨rfl, rfl, rfl⟩
  obtain ⟨l0, rw0, w0, le0⟩ := open_row Try.underlying43 Try.underlying45 (by kernel_rfl) (hval 0 43 v0 rfl rfl) h0
  obtain ⟨l1, rw1, w1, le1⟩ := open_row Try.underlying43 Try.underlying45 (by kernel_rfl) (hval 1 43 v1 rfl rfl) h1
  obtain ⟨cs2, rfl, f2⟩ := open_flat (n := 6) (l := [5, 5, 5]) (by kernel_rfl) (by kernel_rfl) (hval 2 44 v2 rfl rfl) h2
  obtain ⟨c2_0, s2_0, rfl, g2_0, f2_0⟩ := f2.cons
  obtain ⟨n2_0, rfl, b2_0⟩ := g2_0.nat8 Try.underlying5
  obtain ⟨c2_1, s2_1, rfl, g2_1, f2_1⟩ := f2_0.cons
  obtain ⟨n2_1, rfl, b2_1⟩ := g2_1.nat8 Try.underlying5
  obtain ⟨c2_2, s2_2, rfl, g2_2, f2_2⟩ := f2_1.cons
  obtain ⟨n2_2, rfl, b2_2⟩ := g2_2.nat8 Try.underlying5
  obtain rfl := f2_2.nil
  refine (Drr.fair_law v0 l0 v1 l1 n2_0 n2_1 n2_2 (by omega) (by omega) (by omega) W rw0 w0 rw1 w1).mono fun e W' ⟨he, hg⟩ => ?_
  subst he
  exact ⟨_, rfl, fin W' hg⟩

set_option maxRecDepth 100000 in
theorem lifted (os : Os) (started : os.Started) (H : Type) (enc : TypeId × Value → H) :
    ReturnsInHanded {} Try.checked os 6 .any (Rows.drrFairSpec.pre6 enc Try.prog Try.f6 Rows.drrFairRow.domain false) (Rows.drrFairSpec.post enc Try.prog Try.f6 false true false false) := by
  refine returnsInHanded_of_change own started (by kernel_rfl) Try.func6
    (ChangeSpec.witness6 false ⟨#[], #[.slice none 0 0, .slice none 0 0, .agg #[.int .u8 0, .int .u8 0, .int .u8 0]], []⟩ 8 (by kernel_rfl) (by kernel_rfl) (by kernel_rfl) (by kernel_rfl)) ?_
  intro W base args ds gs before hval hW _ _
  exact contract H enc W base args ds gs before hval hW

theorem proved : Rows.DrrFairSaid :=
  OpenClaim.holds_of_wide 6 Try.f6 rfl rfl rfl rfl rfl rfl rfl ⟨rfl, rfl, rfl, rfl, rfl⟩ rfl rfl rfl rfl rfl (by kernel_rfl) Try.func6 (by kernel_rfl)
    (of_decide_eq_true (by kernel_rfl)) (by unfold Func.isWrapper; first | (rw [if_pos (by decide +kernel)]; kernel_rfl) | (rw [if_neg (by decide +kernel)]; exact ⟨rfl, rfl⟩))
    (fun os started H enc _ => lifted os started H enc)
end Go.Proofs.Ytopibbaopglggaa.DrrFair
