/- EgressNobody: from the walk to the statement. -/
import Derived.Test.YtdddfmdcjjbegaaGreatMeNo
import Derived.Test.YtdddfmdcjjbegaaGreatMeOpen
namespace Go.Proofs.YtdddfmdcjjbegaaGreat.EgressNobody
open Go.RowKit Go.Proofs Go.ChangeShapes Go.WideShapes Go.ChangeAt

theorem own : ownKnob Tryz.prog.godebug = none := by kernel_rfl

set_option maxRecDepth 100000 in
theorem contract (H : Type) (enc : TypeId × Value → H) (W : World) (base : Nat) (args : Array Value) (ds gs : List (DataW H)) (before : List MemPlace)
    (hval : ∀ (j : Nat) t v, Tryz.f8.params[j]? = some t → args[j]? = some v → Value.okWide Tryz.prog W .any base t v)
    (hW : DataW.Whole enc Tryz.prog Tryz.f8.params.toList Rows.egressNobodySpec.vars false W args.toList ds gs before) :
    Calls Tryz.prog 8 args W fun e W' => ∃ v, e = .returned v ∧ Rows.egressNobodySpec.post enc Tryz.prog Tryz.f8 false true false false W args v W' := by
  have hW' := hW
  obtain ⟨p, q, hA0, hV, rfl, hfz, hnd⟩ := hW
  have hA : DataW.TrodAll enc Tryz.prog W 0 (fun _ => true) true Tryz.f8.params.toList args.toList ds p := hA0
  rw [Tryz.params8] at hA hval
  obtain ⟨v0, vs0, d0, ds0, p0, q0, hargs, rfl, rfl, h0, r0⟩ := trodAll_cons hA
  obtain ⟨v1, vs1, d1, ds1, p1, q1, rfl, rfl, rfl, h1, r1⟩ := trodAll_cons r0
  obtain ⟨v2, vs2, d2, ds2, p2, q2, rfl, rfl, rfl, h2, r2⟩ := trodAll_cons r1
  obtain ⟨rfl, rfl, rfl⟩ := trodAll_nil r2
  obtain rfl : args = #[v0, v1, v2] := by cases args; simp_all
  obtain ⟨rfl, rfl⟩ := trodVars_none hV
  simp only [List.append_nil] at hW'
  have fin : ∀ W', Upd Nowhere W W' → Rows.egressNobodySpec.post enc Tryz.prog Tryz.f8 false true false false W #[v0, v1, v2] (.bool true) W' := fun W' hu =>
    post_law laid_out (by kernel_rfl) rfl Tryz.underlying4 rfl hW' hu ⟨rfl, rfl, rfl⟩
  obtain ⟨a0, rfl, rfl, rfl, w0⟩ := open_int Tryz.underlying3 (hval 0 3 v0 rfl rfl) h0
  obtain ⟨a1, rfl, rfl, rfl, w1⟩ := open_int Tryz.underlying24 (hval 1 24 v1 rfl rfl) h1
  obtain ⟨m1, rfl⟩ : ∃ n : Nat, a1 = n := ⟨a1.toNat, by have := bd64 w1; omega⟩
  have b1 : m1 ≤ 18446744073709551615 := by have := bd64 w1; omega
  obtain ⟨cs2, rfl, f2⟩ := open_flat (n := 6) (l := [41, 41, 24]) (by kernel_rfl) (by kernel_rfl) (hval 2 43 v2 rfl rfl) h2
  obtain ⟨c2_0, s2_0, rfl, g2_0, f2_0⟩ := f2.cons
  obtain ⟨n2_0, rfl, b2_0⟩ := g2_0.nat32 Tryz.underlying41
  obtain ⟨c2_1, s2_1, rfl, g2_1, f2_1⟩ := f2_0.cons
  obtain ⟨n2_1, rfl, b2_1⟩ := g2_1.nat32 Tryz.underlying41
  obtain ⟨c2_2, s2_2, rfl, g2_2, f2_2⟩ := f2_1.cons
  obtain ⟨n2_2, rfl, b2_2⟩ := g2_2.nat64 Tryz.underlying24
  obtain rfl := f2_2.nil
  refine (Egs.nobody_law a0 m1 n2_0 n2_1 n2_2 W).mono fun e W' ⟨he, hg⟩ => ?_
  subst he
  exact ⟨_, rfl, fin W' hg⟩

set_option maxRecDepth 100000 in
theorem lifted (os : Os) (started : os.Started) (H : Type) (enc : TypeId × Value → H) :
    ReturnsInHanded {} Tryz.checked os 8 .any (Rows.egressNobodySpec.pre6 enc Tryz.prog Tryz.f8 Rows.egressNobodyRow.domain false) (Rows.egressNobodySpec.post enc Tryz.prog Tryz.f8 false true false false) := by
  refine returnsInHanded_of_change own started (by kernel_rfl) Tryz.func8
    (ChangeSpec.witness6 false ⟨#[], #[.int .i64 0, .int .u64 0, .agg #[.int .u32 0, .int .u32 0, .int .u64 0]], []⟩ 8 (by kernel_rfl) (by kernel_rfl) (by kernel_rfl) (by kernel_rfl)) ?_
  intro W base args ds gs before hval hW _ _
  exact contract H enc W base args ds gs before hval hW

theorem proved : Rows.EgressNobodySaid :=
  OpenClaim.holds_of_wide 8 Tryz.f8 rfl rfl rfl rfl rfl rfl rfl ⟨rfl, rfl, rfl, rfl, rfl⟩ rfl rfl rfl rfl rfl (by kernel_rfl) Tryz.func8 (by kernel_rfl)
    (of_decide_eq_true (by kernel_rfl)) (by unfold Func.isWrapper; first | (rw [if_pos (by decide +kernel)]; kernel_rfl) | (rw [if_neg (by decide +kernel)]; exact ⟨rfl, rfl⟩))
    (fun os started H enc _ => lifted os started H enc)
end Go.Proofs.YtdddfmdcjjbegaaGreat.EgressNobody
