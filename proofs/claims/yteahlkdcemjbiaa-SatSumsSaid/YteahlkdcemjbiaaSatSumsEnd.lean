/- SatSums: from the walk to the statement. -/
import Derived.Test.YteahlkdcemjbiaaSatSums
import Derived.Test.YteahlkdcemjbiaaClose
namespace Go.Proofs.Yteahlkdcemjbiaa.SatSums
open Go.RowKit Go.Proofs Go.ChangeShapes Go.WideShapes Go.ChangeAt

theorem own : ownKnob Try.prog.godebug = none := by kernel_rfl

theorem contract (H : Type) (enc : TypeId × Value → H) (W : World) (base : Nat) (args : Array Value) (ds gs : List (DataW H)) (before : List MemPlace)
    (hval : ∀ (j : Nat) t v, Try.f7.params[j]? = some t → args[j]? = some v → Value.okWide Try.prog W .any base t v)
    (hW : DataW.Whole enc Try.prog Try.f7.params.toList Rows.satSumsSpec.vars false W args.toList ds gs before) :
    Calls Try.prog 7 args W fun e W' => ∃ v, e = .returned v ∧ Rows.satSumsSpec.post enc Try.prog Try.f7 false true false false W args v W' := by
  have hW' := hW
  obtain ⟨p, q, hA0, hV, rfl, hfz, hnd⟩ := hW
  have hA : DataW.TrodAll enc Try.prog W 0 (fun _ => true) true Try.f7.params.toList args.toList ds p := hA0
  rw [Try.params7] at hA hval
  obtain ⟨v0, vs0, d0, ds0, p0, q0, hargs, rfl, rfl, h0, r0⟩ := trodAll_cons hA
  obtain ⟨rfl, rfl, rfl⟩ := trodAll_nil r0
  obtain rfl : args = #[v0] := by cases args; simp_all
  obtain ⟨rfl, rfl⟩ := trodVars_none hV
  simp only [List.append_nil] at hW'
  have fin : ∀ W', Upd Nowhere W W' → Rows.satSumsSpec.post enc Try.prog Try.f7 false true false false W #[v0] (.bool true) W' := fun W' hu =>
    post_law laid_out (by kernel_rfl) rfl Try.underlying4 rfl hW' hu ⟨rfl, rfl, rfl⟩
  obtain ⟨l0, rw0, w0, le0⟩ := open_row Try.underlying42 Try.underlying22 (by kernel_rfl) (hval 0 42 v0 rfl rfl) h0
  refine (Sat.sums_int W v0 l0 rw0 w0 le0).mono fun e W' ⟨he, hg⟩ => ?_
  subst he
  exact ⟨_, rfl, fin W' hg⟩

set_option maxRecDepth 100000 in
theorem lifted (os : Os) (started : os.Started) (H : Type) (enc : TypeId × Value → H) :
    ReturnsInHanded {} Try.checked os 7 .any (Rows.satSumsSpec.pre6 enc Try.prog Try.f7 Rows.satSumsRow.domain false) (Rows.satSumsSpec.post enc Try.prog Try.f7 false true false false) := by
  refine returnsInHanded_of_change own started (by kernel_rfl) Try.func7
    (ChangeSpec.witness6 false ⟨#[], #[.slice none 0 0], []⟩ 8 (by kernel_rfl) (by kernel_rfl) (by kernel_rfl) (by kernel_rfl)) ?_
  intro W base args ds gs before hval hW _ _
  exact contract H enc W base args ds gs before hval hW

theorem proved : Rows.SatSumsSaid :=
  OpenClaim.holds_of_wide 7 Try.f7 rfl rfl rfl rfl rfl rfl rfl ⟨rfl, rfl, rfl, rfl, rfl⟩ rfl rfl rfl rfl rfl (by kernel_rfl) Try.func7 (by kernel_rfl)
    (of_decide_eq_true (by kernel_rfl)) (by unfold Func.isWrapper; first | (rw [if_pos (by decide +kernel)]; kernel_rfl) | (rw [if_neg (by decide +kernel)]; exact ⟨rfl, rfl⟩))
    (fun os started H enc _ => lifted os started H enc)
end Go.Proofs.Yteahlkdcemjbiaa.SatSums
