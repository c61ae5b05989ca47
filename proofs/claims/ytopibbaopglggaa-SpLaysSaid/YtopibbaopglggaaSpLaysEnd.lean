/- SpLays: from the walk to the statement. -/
import Derived.Test.YtopibbaopglggaaSpLays3
import Derived.Test.YtopibbaopglggaaOpen
import Derived.Test.YtopibbaopglggaaClose
namespace Go.Proofs.Ytopibbaopglggaa.SpLays
open Go.RowKit Go.Proofs Go.ChangeShapes Go.WideShapes Go.ChangeAt

theorem own : ownKnob Try.prog.godebug = none := by kernel_rfl

set_option maxRecDepth 100000 in
theorem contract (H : Type) (enc : TypeId × Value → H) (W : World) (base : Nat) (args : Array Value) (ds gs : List (DataW H)) (before : List MemPlace)
    (hval : ∀ (j : Nat) t v, Try.f11.params[j]? = some t → args[j]? = some v → Value.okWide Try.prog W .any base t v)
    (hW : DataW.Whole enc Try.prog Try.f11.params.toList Rows.spLaysSpec.vars false W args.toList ds gs before) :
    Calls Try.prog 11 args W fun e W' => ∃ v, e = .returned v ∧ Rows.spLaysSpec.post enc Try.prog Try.f11 false true false false W args v W' := by
  have hW' := hW
  obtain ⟨p, q, hA0, hV, rfl, hfz, hnd⟩ := hW
  have hA : DataW.TrodAll enc Try.prog W 0 (fun _ => true) true Try.f11.params.toList args.toList ds p := hA0
  rw [Try.params11] at hA hval
  obtain ⟨v0, vs0, d0, ds0, p0, q0, hargs, rfl, rfl, h0, r0⟩ := trodAll_cons hA
  obtain ⟨v1, vs1, d1, ds1, p1, q1, rfl, rfl, rfl, h1, r1⟩ := trodAll_cons r0
  obtain ⟨v2, vs2, d2, ds2, p2, q2, rfl, rfl, rfl, h2, r2⟩ := trodAll_cons r1
  obtain ⟨rfl, rfl, rfl⟩ := trodAll_nil r2
  obtain rfl : args = #[v0, v1, v2] := by cases args; simp_all
  obtain ⟨rfl, rfl⟩ := trodVars_none hV
  simp only [List.append_nil] at hW'
  have fin : ∀ W', Upd Nowhere W W' → Rows.spLaysSpec.post enc Try.prog Try.f11 false true false false W #[v0, v1, v2] (.bool true) W' := fun W' hu =>
    post_law laid_out (by kernel_rfl) rfl Try.underlying4 rfl hW' hu ⟨rfl, rfl, rfl⟩
  obtain ⟨l0, rw0, w0, le0⟩ := open_row Try.underlying38 Try.underlying28 (by kernel_rfl) (hval 0 38 v0 rfl rfl) h0
  obtain ⟨l1, lb1, hv1⟩ := open_rows (X := Value) (n := 6) (C := 1) (l := [61]) Try.underlying89 (by kernel_rfl) (by kernel_rfl) (by omega) (fun v => [v]) (SpI.Acts W) (fun _ => rfl) (fun cs f => by
    obtain ⟨c, s, rfl, g, f'⟩ := f.cons
    obtain rfl := f'.nil
    refine ⟨c, rfl, ?_⟩
    exact open_rows (X := Nat × Nat × Int) (n := 6) (C := 3) (l := [5, 28, 3]) Try.underlying61 (by kernel_rfl) (by kernel_rfl) (by omega) SpI.act (fun a => a.1 ≤ 255 ∧ a.2.1 ≤ 18446744073709551615) (fun _ => rfl) (fun cs f => by
      obtain ⟨c0, s0, rfl, g0, f0⟩ := f.cons
      obtain ⟨n0, rfl, b0⟩ := g0.nat8 Try.underlying5
      obtain ⟨c1, s1, rfl, g1, f1⟩ := f0.cons
      obtain ⟨n1, rfl, b1⟩ := g1.nat64 Try.underlying28
      obtain ⟨c2, s2, rfl, g2, f2⟩ := f1.cons
      obtain ⟨n2, rfl, b2⟩ := g2.int64 Try.underlying3
      obtain rfl := f2.nil
      exact ⟨(n0, n1, n2), rfl, b0, b1⟩) g)
    (read1_of (okWide_slice Try.underlying89 (hval 1 89 v1 rfl rfl)) h1)
  obtain ⟨l2, lb2, hv2⟩ := open_rows (X := Nat × Nat × Int) (n := 6) (C := 3) (l := [5, 28, 3]) Try.underlying61 (by kernel_rfl) (by kernel_rfl) (by omega) SpI.act (fun a => a.1 ≤ 255 ∧ a.2.1 ≤ 18446744073709551615) (fun _ => rfl) (fun cs f => by
    obtain ⟨c0, s0, rfl, g0, f0⟩ := f.cons
    obtain ⟨n0, rfl, b0⟩ := g0.nat8 Try.underlying5
    obtain ⟨c1, s1, rfl, g1, f1⟩ := f0.cons
    obtain ⟨n1, rfl, b1⟩ := g1.nat64 Try.underlying28
    obtain ⟨c2, s2, rfl, g2, f2⟩ := f1.cons
    obtain ⟨n2, rfl, b2, b2'⟩ := g2.int64 Try.underlying3
    obtain rfl := f2.nil
    exact ⟨(n0, n1, n2), rfl, b0, b1⟩) (read1_of (okWide_slice Try.underlying61 (hval 2 61 v2 rfl rfl)) h2)
  refine (SpI.lays_law v0 l0 v1 l1 v2 l2 W rw0 w0 lb1 hv1 lb2 hv2).mono fun e W' ⟨he, hg⟩ => ?_
  subst he
  exact ⟨_, rfl, fin W' hg⟩

set_option maxRecDepth 100000 in
theorem lifted (os : Os) (started : os.Started) (H : Type) (enc : TypeId × Value → H) :
    ReturnsInHanded {} Try.checked os 11 .any (Rows.spLaysSpec.pre6 enc Try.prog Try.f11 Rows.spLaysRow.domain false) (Rows.spLaysSpec.post enc Try.prog Try.f11 false true false false) := by
  refine returnsInHanded_of_change own started (by kernel_rfl) Try.func11
    (ChangeSpec.witness6 false ⟨#[], #[.slice none 0 0, .slice none 0 0, .slice none 0 0], []⟩ 8 (by kernel_rfl) (by kernel_rfl) (by kernel_rfl) (by kernel_rfl)) ?_
  intro W base args ds gs before hval hW _ _
  exact contract H enc W base args ds gs before hval hW

theorem proved : Rows.SpLaysSaid :=
  OpenClaim.holds_of_wide 11 Try.f11 rfl rfl rfl rfl rfl rfl rfl ⟨rfl, rfl, rfl, rfl, rfl⟩ rfl rfl rfl rfl rfl (by kernel_rfl) Try.func11 (by kernel_rfl)
    (of_decide_eq_true (by kernel_rfl)) (by unfold Func.isWrapper; first | (rw [if_pos (by decide +kernel)]; kernel_rfl) | (rw [if_neg (by decide +kernel)]; exact ⟨rfl, rfl⟩))
    (fun os started H enc _ => lifted os started H enc)
end Go.Proofs.Ytopibbaopglggaa.SpLays
