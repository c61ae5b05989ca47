/- AifoPlays: from the walk to the statement. -/
import Derived.Test.YtgppbclgabdkoaaAifoPlays
import Derived.Test.YtgppbclgabdkoaaOpen
import Derived.Test.YtgppbclgabdkoaaClose
namespace Go.Proofs.Ytgppbclgabdkoaa.AifoPlays
open Go.RowKit Go.Proofs Go.ChangeShapes Go.WideShapes Go.ChangeAt

theorem own : ownKnob Try.prog.godebug = none := by kernel_rfl

set_option maxRecDepth 100000 in
theorem contract (H : Type) (enc : TypeId × Value → H) (W : World) (base : Nat) (args : Array Value) (ds gs : List (DataW H)) (before : List MemPlace)
    (hval : ∀ (j : Nat) t v, Try.f3.params[j]? = some t → args[j]? = some v → Value.okWide Try.prog W .any base t v)
    (hW : DataW.Whole enc Try.prog Try.f3.params.toList Rows.aifoPlaysSpec.vars false W args.toList ds gs before) :
    Calls Try.prog 3 args W fun e W' => ∃ v, e = .returned v ∧ Rows.aifoPlaysSpec.post enc Try.prog Try.f3 false true false false W args v W' := by
  have hW' := hW
  obtain ⟨p, q, hA0, hV, rfl, hfz, hnd⟩ := hW
  have hA : DataW.TrodAll enc Try.prog W 0 (fun _ => true) true Try.f3.params.toList args.toList ds p := hA0
  rw [Try.params3] at hA hval
  obtain ⟨v0, vs0, d0, ds0, p0, q0, hargs, rfl, rfl, h0, r0⟩ := trodAll_cons hA
  obtain ⟨v1, vs1, d1, ds1, p1, q1, rfl, rfl, rfl, h1, r1⟩ := trodAll_cons r0
  obtain ⟨v2, vs2, d2, ds2, p2, q2, rfl, rfl, rfl, h2, r2⟩ := trodAll_cons r1
  obtain ⟨rfl, rfl, rfl⟩ := trodAll_nil r2
  obtain rfl : args = #[v0, v1, v2] := by cases args; simp_all
  obtain ⟨rfl, rfl⟩ := trodVars_none hV
  simp only [List.append_nil] at hW'
  have fin : ∀ W', Upd Nowhere W W' → Rows.aifoPlaysSpec.post enc Try.prog Try.f3 false true false false W #[v0, v1, v2] (.bool true) W' := fun W' hu =>
    post_law laid_out (by kernel_rfl) rfl Try.underlying4 rfl hW' hu ⟨rfl, rfl, rfl⟩
  obtain ⟨cs0, rfl, f0⟩ := open_flat (n := 6) (l := [3, 3, 22, 22]) (by kernel_rfl) (by kernel_rfl) (hval 0 24 v0 rfl rfl) h0
  obtain ⟨c0_0, s0_0, rfl, g0_0, f0_0⟩ := f0.cons
  obtain ⟨n0_0, rfl, b0_0, b0_0'⟩ := g0_0.int64 Try.underlying3
  obtain ⟨c0_1, s0_1, rfl, g0_1, f0_1⟩ := f0_0.cons
  obtain ⟨n0_1, rfl, b0_1, b0_1'⟩ := g0_1.int64 Try.underlying3
  obtain ⟨c0_2, s0_2, rfl, g0_2, f0_2⟩ := f0_1.cons
  obtain ⟨n0_2, rfl, b0_2⟩ := g0_2.nat64 Try.underlying22
  obtain ⟨c0_3, s0_3, rfl, g0_3, f0_3⟩ := f0_2.cons
  obtain ⟨n0_3, rfl, b0_3⟩ := g0_3.nat64 Try.underlying22
  obtain rfl := f0_3.nil
  obtain ⟨l1, rw1, w1, le1⟩ := open_row Try.underlying25 Try.underlying22 (by kernel_rfl) (hval 1 25 v1 rfl rfl) h1
  obtain ⟨l2, rw2, w2, le2⟩ := open_row Try.underlying26 Try.underlying5 (by kernel_rfl) (hval 2 26 v2 rfl rfl) h2
  refine (Aifo.plays_law n0_0 n0_1 n0_2 n0_3 v1 l1 v2 l2 W rw1 w1 rw2 w2).mono fun e W' ⟨he, hg⟩ => ?_
  subst he
  exact ⟨_, rfl, fin W' hg⟩

set_option maxRecDepth 100000 in
theorem lifted (os : Os) (started : os.Started) (H : Type) (enc : TypeId × Value → H) :
    ReturnsInHanded {} Try.checked os 3 .any (Rows.aifoPlaysSpec.pre6 enc Try.prog Try.f3 Rows.aifoPlaysRow.domain false) (Rows.aifoPlaysSpec.post enc Try.prog Try.f3 false true false false) := by
  refine returnsInHanded_of_change own started (by kernel_rfl) Try.func3
    (ChangeSpec.witness6 false ⟨#[], #[.agg #[.int .i64 0, .int .i64 0, .int .u64 0, .int .u64 0], .slice none 0 0, .slice none 0 0], []⟩ 8 (by kernel_rfl) (by kernel_rfl) (by kernel_rfl) (by kernel_rfl)) ?_
  intro W base args ds gs before hval hW _ _
  exact contract H enc W base args ds gs before hval hW

theorem proved : Rows.AifoPlaysSaid :=
  OpenClaim.holds_of_wide 3 Try.f3 rfl rfl rfl rfl rfl rfl rfl ⟨rfl, rfl, rfl, rfl, rfl⟩ rfl rfl rfl rfl rfl (by kernel_rfl) Try.func3 (by kernel_rfl)
    (of_decide_eq_true (by kernel_rfl)) (by unfold Func.isWrapper; first | (rw [if_pos (by decide +kernel)]; kernel_rfl) | (rw [if_neg (by decide +kernel)]; exact ⟨rfl, rfl⟩))
    (fun os started H enc _ => lifted os started H enc)
end Go.Proofs.Ytgppbclgabdkoaa.AifoPlays
