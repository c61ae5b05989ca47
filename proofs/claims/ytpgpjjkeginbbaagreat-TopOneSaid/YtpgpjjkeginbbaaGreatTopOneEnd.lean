/- TopOne: from the walk to the statement. -/
import Derived.Test.YtpgpjjkeginbbaaGreatMtOne
import Derived.Test.YtpgpjjkeginbbaaGreatMtOp
namespace Go.Proofs.YtpgpjjkeginbbaaGreat.TopOne
open Go.RowKit Go.Proofs Go.ChangeShapes Go.WideShapes Go.ChangeAt

theorem own : ownKnob Tryz.prog.godebug = none := by kernel_rfl

set_option maxRecDepth 100000 in
theorem contract (H : Type) (enc : TypeId × Value → H) (W : World) (base : Nat) (args : Array Value) (ds gs : List (DataW H)) (before : List MemPlace)
    (hval : ∀ (j : Nat) t v, Tryz.f5.params[j]? = some t → args[j]? = some v → Value.okWide Tryz.prog W .any base t v)
    (hW : DataW.Whole enc Tryz.prog Tryz.f5.params.toList Rows.topOneSpec.vars false W args.toList ds gs before) :
    Calls Tryz.prog 5 args W fun e W' => ∃ v, e = .returned v ∧ Rows.topOneSpec.post enc Tryz.prog Tryz.f5 false true false false W args v W' := by
  have hW' := hW
  obtain ⟨p, q, hA0, hV, rfl, hfz, hnd⟩ := hW
  have hA : DataW.TrodAll enc Tryz.prog W 0 (fun _ => true) true Tryz.f5.params.toList args.toList ds p := hA0
  rw [Tryz.params5] at hA hval
  obtain ⟨v0, vs0, d0, ds0, p0, q0, hargs, rfl, rfl, h0, r0⟩ := trodAll_cons hA
  obtain ⟨v1, vs1, d1, ds1, p1, q1, rfl, rfl, rfl, h1, r1⟩ := trodAll_cons r0
  obtain ⟨rfl, rfl, rfl⟩ := trodAll_nil r1
  obtain rfl : args = #[v0, v1] := by cases args; simp_all
  obtain ⟨rfl, rfl⟩ := trodVars_none hV
  simp only [List.append_nil] at hW'
  have fin : ∀ W', Upd Nowhere W W' → Rows.topOneSpec.post enc Tryz.prog Tryz.f5 false true false false W #[v0, v1] (.bool true) W' := fun W' hu =>
    post_law laid_out (by kernel_rfl) rfl Tryz.underlying4 rfl hW' hu ⟨rfl, rfl, rfl⟩
  obtain ⟨cs0, rfl, f0⟩ := open_flat (n := 6) (l := [3, 3, 3, 3, 3, 22, 3, 22, 22, 22, 23]) (by kernel_rfl) (by kernel_rfl) (hval 0 25 v0 rfl rfl) h0
  obtain ⟨cc0, sc0, rfl, gc0, fc0⟩ := f0.cons
  obtain ⟨nc0, rfl, bc0, bc0'⟩ := gc0.int64 Tryz.underlying3
  obtain ⟨cc1, sc1, rfl, gc1, fc1⟩ := fc0.cons
  obtain ⟨nc1, rfl, bc1, bc1'⟩ := gc1.int64 Tryz.underlying3
  obtain ⟨cc2, sc2, rfl, gc2, fc2⟩ := fc1.cons
  obtain ⟨nc2, rfl, bc2, bc2'⟩ := gc2.int64 Tryz.underlying3
  obtain ⟨cc3, sc3, rfl, gc3, fc3⟩ := fc2.cons
  obtain ⟨nc3, rfl, bc3, bc3'⟩ := gc3.int64 Tryz.underlying3
  obtain ⟨cc4, sc4, rfl, gc4, fc4⟩ := fc3.cons
  obtain ⟨nc4, rfl, bc4, bc4'⟩ := gc4.int64 Tryz.underlying3
  obtain ⟨cc5, sc5, rfl, gc5, fc5⟩ := fc4.cons
  obtain ⟨nc5, rfl, bc5⟩ := gc5.nat64 Tryz.underlying22
  obtain ⟨cc6, sc6, rfl, gc6, fc6⟩ := fc5.cons
  obtain ⟨nc6, rfl, bc6, bc6'⟩ := gc6.int64 Tryz.underlying3
  obtain ⟨cc7, sc7, rfl, gc7, fc7⟩ := fc6.cons
  obtain ⟨nc7, rfl, bc7⟩ := gc7.nat64 Tryz.underlying22
  obtain ⟨cc8, sc8, rfl, gc8, fc8⟩ := fc7.cons
  obtain ⟨nc8, rfl, bc8⟩ := gc8.nat64 Tryz.underlying22
  obtain ⟨cc9, sc9, rfl, gc9, fc9⟩ := fc8.cons
  obtain ⟨nc9, rfl, bc9⟩ := gc9.nat64 Tryz.underlying22
  obtain ⟨ccF, scF, rfl, gcF, fcF⟩ := fc9.cons
  obtain rfl := fcF.nil
  obtain ⟨lA, lbA, hvA⟩ := open_rows (X := Sh.Fl) (n := 6) (C := 5) (l := [33, 22, 22, 22, 22]) Tryz.underlying23 (by kernel_rfl) (by kernel_rfl) (by omega) Rnk.KF (fun f => f.id < 4294967296 ∧ f.cost ≤ 18446744073709551615 ∧ f.budget ≤ 18446744073709551615 ∧ f.size ≤ 18446744073709551615 ∧ f.cap ≤ 18446744073709551615) (fun _ => rfl) (fun cs f => by
    obtain ⟨c0, s0, rfl, g0, f0⟩ := f.cons
    obtain ⟨n0, rfl, b0⟩ := g0.nat32 Tryz.underlying33
    obtain ⟨c1, s1, rfl, g1, f1⟩ := f0.cons
    obtain ⟨n1, rfl, b1⟩ := g1.nat64 Tryz.underlying22
    obtain ⟨c2, s2, rfl, g2, f2⟩ := f1.cons
    obtain ⟨n2, rfl, b2⟩ := g2.nat64 Tryz.underlying22
    obtain ⟨c3, s3, rfl, g3, f3⟩ := f2.cons
    obtain ⟨n3, rfl, b3⟩ := g3.nat64 Tryz.underlying22
    obtain ⟨c4, s4, rfl, g4, f4⟩ := f3.cons
    obtain ⟨n4, rfl, b4⟩ := g4.nat64 Tryz.underlying22
    obtain rfl := f4.nil
    exact ⟨⟨n0, n1, n2, n3, n4⟩, rfl, by (try dsimp only); omega, by (try dsimp only); omega, by (try dsimp only); omega, by (try dsimp only); omega, by (try dsimp only); omega⟩) gcF
  obtain ⟨adA, cpA, rfl, hfA⟩ := Shm.fls_of hvA
  obtain ⟨l1, lb1, hv1⟩ := open_rows (X := Sh.Op) (n := 6) (C := 5) (l := [3, 33, 33, 22, 22]) Tryz.underlying26 (by kernel_rfl) (by kernel_rfl) (by omega) Shm.opL (fun x => x.Ok) (fun _ => rfl) (fun cs f => by
    obtain ⟨c0, s0, rfl, g0, f0⟩ := f.cons
    obtain ⟨n0, rfl, b0, b0'⟩ := g0.int64 Tryz.underlying3
    obtain ⟨c1, s1, rfl, g1, f1⟩ := f0.cons
    obtain ⟨n1, rfl, b1⟩ := g1.nat32 Tryz.underlying33
    obtain ⟨c2, s2, rfl, g2, f2⟩ := f1.cons
    obtain ⟨n2, rfl, b2⟩ := g2.nat32 Tryz.underlying33
    obtain ⟨c3, s3, rfl, g3, f3⟩ := f2.cons
    obtain ⟨n3, rfl, b3⟩ := g3.nat64 Tryz.underlying22
    obtain ⟨c4, s4, rfl, g4, f4⟩ := f3.cons
    obtain ⟨n4, rfl, b4⟩ := g4.nat64 Tryz.underlying22
    obtain rfl := f4.nil
    exact ⟨⟨n0, n1, n2, n3, n4⟩, rfl, by unfold Sh.Op.Ok Sh.mx; dsimp only; omega⟩) (read1_of (okWide_slice Tryz.underlying26 (hval 1 26 v1 rfl rfl)) h1)
  refine ((by obtain ⟨adO, cpO, rfl, hfO⟩ := Shm.ops_of hv1; exact Shm.one_law (c := ⟨nc0, nc1, nc2, nc3, nc4, nc5, nc6, nc7, nc8, nc9, lA⟩) rfl hfA ⟨by (try dsimp only); omega, by (try dsimp only); omega, by (try dsimp only); omega, lbA⟩ rfl hfO lb1 : Calls Tryz.prog 5 _ W (fun e W' => e = .returned (.bool true) ∧ Upd Nowhere W W'))).mono fun e W' ⟨he, hg⟩ => ?_
  subst he
  exact ⟨_, rfl, fin W' hg⟩

set_option maxRecDepth 100000 in
theorem lifted (os : Os) (started : os.Started) (H : Type) (enc : TypeId × Value → H) :
    ReturnsInHanded {} Tryz.checked os 5 .any (Rows.topOneSpec.pre6 enc Tryz.prog Tryz.f5 Rows.topOneRow.domain false) (Rows.topOneSpec.post enc Tryz.prog Tryz.f5 false true false false) := by
  refine returnsInHanded_of_change own started (by kernel_rfl) Tryz.func5
    (ChangeSpec.witness6 false ⟨#[], #[.agg #[.int .i64 0, .int .i64 0, .int .i64 0, .int .i64 0, .int .i64 0, .int .u64 0, .int .i64 0, .int .u64 0, .int .u64 0, .int .u64 0, .slice none 0 0], .slice none 0 0], []⟩ 8 (by kernel_rfl) (by kernel_rfl) (by kernel_rfl) (by kernel_rfl)) ?_
  intro W base args ds gs before hval hW _ _
  exact contract H enc W base args ds gs before hval hW

theorem proved : Rows.TopOneSaid :=
  OpenClaim.holds_of_wide 5 Tryz.f5 rfl rfl rfl rfl rfl rfl rfl ⟨rfl, rfl, rfl, rfl, rfl⟩ rfl rfl rfl rfl rfl (by kernel_rfl) Tryz.func5 (by kernel_rfl)
    (of_decide_eq_true (by kernel_rfl)) (by unfold Func.isWrapper; first | (rw [if_pos (by decide +kernel)]; kernel_rfl) | (rw [if_neg (by decide +kernel)]; exact ⟨rfl, rfl⟩))
    (fun os started H enc _ => lifted os started H enc)
end Go.Proofs.YtpgpjjkeginbbaaGreat.TopOne
