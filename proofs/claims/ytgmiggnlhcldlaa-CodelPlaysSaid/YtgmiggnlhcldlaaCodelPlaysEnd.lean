/- CodelPlays: from the walk to the statement. -/
import Derived.Test.YtgmiggnlhcldlaaCodelPlays2
import Derived.Test.YtgmiggnlhcldlaaOpen
import Derived.Test.YtgmiggnlhcldlaaClose
namespace Go.Proofs.Ytgmiggnlhcldlaa.CodelPlays
open Go.RowKit Go.Proofs Go.ChangeShapes Go.WideShapes Go.ChangeAt

theorem own : ownKnob Try.prog.godebug = none := by kernel_rfl

set_option maxRecDepth 100000 in
theorem contract (H : Type) (enc : TypeId × Value → H) (W : World) (base : Nat) (args : Array Value) (ds gs : List (DataW H)) (before : List MemPlace)
    (hval : ∀ (j : Nat) t v, Try.f7.params[j]? = some t → args[j]? = some v → Value.okWide Try.prog W .any base t v)
    (hW : DataW.Whole enc Try.prog Try.f7.params.toList Rows.codelPlaysSpec.vars false W args.toList ds gs before) :
    Calls Try.prog 7 args W fun e W' => ∃ v, e = .returned v ∧ Rows.codelPlaysSpec.post enc Try.prog Try.f7 false true false false W args v W' := by
  have hW' := hW
  obtain ⟨p, q, hA0, hV, rfl, hfz, hnd⟩ := hW
  have hA : DataW.TrodAll enc Try.prog W 0 (fun _ => true) true Try.f7.params.toList args.toList ds p := hA0
  rw [Try.params7] at hA hval
  obtain ⟨v0, vs0, d0, ds0, p0, q0, hargs, rfl, rfl, h0, r0⟩ := trodAll_cons hA
  obtain ⟨v1, vs1, d1, ds1, p1, q1, rfl, rfl, rfl, h1, r1⟩ := trodAll_cons r0
  obtain ⟨v2, vs2, d2, ds2, p2, q2, rfl, rfl, rfl, h2, r2⟩ := trodAll_cons r1
  obtain ⟨rfl, rfl, rfl⟩ := trodAll_nil r2
  obtain rfl : args = #[v0, v1, v2] := by cases args; simp_all
  obtain ⟨rfl, rfl⟩ := trodVars_none hV
  simp only [List.append_nil] at hW'
  have fin : ∀ W', Upd Nowhere W W' → Rows.codelPlaysSpec.post enc Try.prog Try.f7 false true false false W #[v0, v1, v2] (.bool true) W' := fun W' hu =>
    post_law laid_out (by kernel_rfl) rfl Try.underlying4 rfl hW' hu ⟨rfl, rfl, rfl⟩
  obtain ⟨cs0, rfl, f0⟩ := open_flat (n := 6) (l := [22, 22, 22]) (by kernel_rfl) (by kernel_rfl) (hval 0 57 v0 rfl rfl) h0
  obtain ⟨c0_0, s0_0, rfl, g0_0, f0_0⟩ := f0.cons
  obtain ⟨n0_0, rfl, b0_0⟩ := g0_0.nat64 Try.underlying22
  obtain ⟨c0_1, s0_1, rfl, g0_1, f0_1⟩ := f0_0.cons
  obtain ⟨n0_1, rfl, b0_1⟩ := g0_1.nat64 Try.underlying22
  obtain ⟨c0_2, s0_2, rfl, g0_2, f0_2⟩ := f0_1.cons
  obtain ⟨n0_2, rfl, b0_2⟩ := g0_2.nat64 Try.underlying22
  obtain rfl := f0_2.nil
  obtain ⟨cs1, rfl, f1⟩ := open_flat (n := 6) (l := [22, 22, 22, 22, 4]) (by kernel_rfl) (by kernel_rfl) (hval 1 59 v1 rfl rfl) h1
  obtain ⟨c1_0, s1_0, rfl, g1_0, f1_0⟩ := f1.cons
  obtain ⟨n1_0, rfl, b1_0⟩ := g1_0.nat64 Try.underlying22
  obtain ⟨c1_1, s1_1, rfl, g1_1, f1_1⟩ := f1_0.cons
  obtain ⟨n1_1, rfl, b1_1⟩ := g1_1.nat64 Try.underlying22
  obtain ⟨c1_2, s1_2, rfl, g1_2, f1_2⟩ := f1_1.cons
  obtain ⟨n1_2, rfl, b1_2⟩ := g1_2.nat64 Try.underlying22
  obtain ⟨c1_3, s1_3, rfl, g1_3, f1_3⟩ := f1_2.cons
  obtain ⟨n1_3, rfl, b1_3⟩ := g1_3.nat64 Try.underlying22
  obtain ⟨c1_4, s1_4, rfl, g1_4, f1_4⟩ := f1_3.cons
  obtain ⟨n1_4, rfl⟩ := g1_4.bool Try.underlying4
  obtain rfl := f1_4.nil
  obtain ⟨l2, lb2, hv2⟩ := open_rows (X := Nat × Nat × Nat) (n := 6) (C := 3) (l := [22, 22, 22]) Try.underlying60 (by kernel_rfl) (by kernel_rfl) (by omega) Codel.act (fun a => a.1 ≤ 18446744073709551615) (fun _ => rfl) (fun cs f => by
    obtain ⟨c0, s0, rfl, g0, f0⟩ := f.cons
    obtain ⟨n0, rfl, b0⟩ := g0.nat64 Try.underlying22
    obtain ⟨c1, s1, rfl, g1, f1⟩ := f0.cons
    obtain ⟨n1, rfl, b1⟩ := g1.nat64 Try.underlying22
    obtain ⟨c2, s2, rfl, g2, f2⟩ := f1.cons
    obtain ⟨n2, rfl, b2⟩ := g2.nat64 Try.underlying22
    obtain rfl := f2.nil
    exact ⟨(n0, n1, n2), rfl, b0⟩) (read1_of (okWide_slice Try.underlying60 (hval 2 60 v2 rfl rfl)) h2)
  refine (Codel.plays_law n0_0 n0_1 n0_2 n1_0 n1_1 n1_2 n1_3 n1_4 v2 l2 b1_1 b1_2 b1_3 lb2 W hv2).mono fun e W' ⟨he, hg⟩ => ?_
  subst he
  exact ⟨_, rfl, fin W' hg⟩

set_option maxRecDepth 100000 in
theorem lifted (os : Os) (started : os.Started) (H : Type) (enc : TypeId × Value → H) :
    ReturnsInHanded {} Try.checked os 7 .any (Rows.codelPlaysSpec.pre6 enc Try.prog Try.f7 Rows.codelPlaysRow.domain false) (Rows.codelPlaysSpec.post enc Try.prog Try.f7 false true false false) := by
  refine returnsInHanded_of_change own started (by kernel_rfl) Try.func7
    (ChangeSpec.witness6 false ⟨#[], #[.agg #[.int .u64 0, .int .u64 0, .int .u64 0], .agg #[.int .u64 0, .int .u64 0, .int .u64 0, .int .u64 0, .bool false], .slice none 0 0], []⟩ 8 (by kernel_rfl) (by kernel_rfl) (by kernel_rfl) (by kernel_rfl)) ?_
  intro W base args ds gs before hval hW _ _
  exact contract H enc W base args ds gs before hval hW

theorem proved : Rows.CodelPlaysSaid :=
  OpenClaim.holds_of_wide 7 Try.f7 rfl rfl rfl rfl rfl rfl rfl ⟨rfl, rfl, rfl, rfl, rfl⟩ rfl rfl rfl rfl rfl (by kernel_rfl) Try.func7 (by kernel_rfl)
    (of_decide_eq_true (by kernel_rfl)) (by unfold Func.isWrapper; first | (rw [if_pos (by decide +kernel)]; kernel_rfl) | (rw [if_neg (by decide +kernel)]; exact ⟨rfl, rfl⟩))
    (fun os started H enc _ => lifted os started H enc)
end Go.Proofs.Ytgmiggnlhcldlaa.CodelPlays
