/- EgressPlays: from the walk to the statement. -/
import Derived.Test.YtdddfmdcjjbegaaGreatMrL
import Derived.Test.YtdddfmdcjjbegaaGreatMeOpen
namespace Go.Proofs.YtdddfmdcjjbegaaGreat.EgressPlays
open Go.RowKit Go.Proofs Go.ChangeShapes Go.WideShapes Go.ChangeAt

theorem own : ownKnob Tryz.prog.godebug = none := by kernel_rfl

set_option maxRecDepth 100000 in
theorem contract (H : Type) (enc : TypeId × Value → H) (W : World) (base : Nat) (args : Array Value) (ds gs : List (DataW H)) (before : List MemPlace)
    (hval : ∀ (j : Nat) t v, Tryz.f7.params[j]? = some t → args[j]? = some v → Value.okWide Tryz.prog W .any base t v)
    (hW : DataW.Whole enc Tryz.prog Tryz.f7.params.toList Rows.egressPlaysSpec.vars false W args.toList ds gs before) :
    Calls Tryz.prog 7 args W fun e W' => ∃ v, e = .returned v ∧ Rows.egressPlaysSpec.post enc Tryz.prog Tryz.f7 false true false false W args v W' := by
  have hW' := hW
  obtain ⟨p, q, hA0, hV, rfl, hfz, hnd⟩ := hW
  have hA : DataW.TrodAll enc Tryz.prog W 0 (fun _ => true) true Tryz.f7.params.toList args.toList ds p := hA0
  rw [Tryz.params7] at hA hval
  obtain ⟨v0, vs0, d0, ds0, p0, q0, hargs, rfl, rfl, h0, r0⟩ := trodAll_cons hA
  obtain ⟨v1, vs1, d1, ds1, p1, q1, rfl, rfl, rfl, h1, r1⟩ := trodAll_cons r0
  obtain ⟨rfl, rfl, rfl⟩ := trodAll_nil r1
  obtain rfl : args = #[v0, v1] := by cases args; simp_all
  obtain ⟨rfl, rfl⟩ := trodVars_none hV
  simp only [List.append_nil] at hW'
  have fin : ∀ W', Upd Nowhere W W' → Rows.egressPlaysSpec.post enc Tryz.prog Tryz.f7 false true false false W #[v0, v1] (.bool true) W' := fun W' hu =>
    post_law laid_out (by kernel_rfl) rfl Tryz.underlying4 rfl hW' hu ⟨rfl, rfl, rfl⟩
  obtain ⟨cs0, rfl, f0⟩ := open_flat (n := 6) (l := [22, 23, 24]) (by kernel_rfl) (by kernel_rfl) (hval 0 26 v0 rfl rfl) h0
  obtain ⟨cA, sA, rfl, gA, fA⟩ := f0.cons
  obtain ⟨cB, sB, rfl, gB, fB⟩ := fA.cons
  obtain ⟨cP, sP, rfl, gP, fP⟩ := fB.cons
  obtain rfl := fP.nil
  obtain ⟨pc, rfl, hpc⟩ := gP.nat64 Tryz.underlying24
  obtain ⟨lA, lbA, hvA⟩ := open_rows (X := First.Cf) (n := 6) (C := 16) (l := [3, 3, 4, 2, 2, 2, 24, 24, 24, 3, 24, 24, 24, 3, 24, 24]) Tryz.underlying22 (by kernel_rfl) (by kernel_rfl) (by omega) (fun c => (First.VC c).toList) (fun c => True) (fun _ => rfl) (fun cs f => by
    obtain ⟨c0, s0, rfl, g0, f0⟩ := f.cons
    obtain ⟨n0, rfl, b0, b0'⟩ := g0.int64 Tryz.underlying3
    obtain ⟨c1, s1, rfl, g1, f1⟩ := f0.cons
    obtain ⟨n1, rfl, b1, b1'⟩ := g1.int64 Tryz.underlying3
    obtain ⟨c2, s2, rfl, g2, f2⟩ := f1.cons
    obtain ⟨n2, rfl⟩ := g2.bool Tryz.underlying4
    obtain ⟨c3, s3, rfl, g3, f3⟩ := f2.cons
    obtain ⟨n3, rfl, b3, b3'⟩ := g3.int64 Tryz.underlying2
    obtain ⟨c4, s4, rfl, g4, f4⟩ := f3.cons
    obtain ⟨n4, rfl, b4, b4'⟩ := g4.int64 Tryz.underlying2
    obtain ⟨c5, s5, rfl, g5, f5⟩ := f4.cons
    obtain ⟨n5, rfl, b5, b5'⟩ := g5.int64 Tryz.underlying2
    obtain ⟨c6, s6, rfl, g6, f6⟩ := f5.cons
    obtain ⟨n6, rfl, b6⟩ := g6.nat64 Tryz.underlying24
    obtain ⟨c7, s7, rfl, g7, f7⟩ := f6.cons
    obtain ⟨n7, rfl, b7⟩ := g7.nat64 Tryz.underlying24
    obtain ⟨c8, s8, rfl, g8, f8⟩ := f7.cons
    obtain ⟨n8, rfl, b8⟩ := g8.nat64 Tryz.underlying24
    obtain ⟨c9, s9, rfl, g9, f9⟩ := f8.cons
    obtain ⟨n9, rfl, b9, b9'⟩ := g9.int64 Tryz.underlying3
    obtain ⟨c10, s10, rfl, g10, f10⟩ := f9.cons
    obtain ⟨n10, rfl, b10⟩ := g10.nat64 Tryz.underlying24
    obtain ⟨c11, s11, rfl, g11, f11⟩ := f10.cons
    obtain ⟨n11, rfl, b11⟩ := g11.nat64 Tryz.underlying24
    obtain ⟨c12, s12, rfl, g12, f12⟩ := f11.cons
    obtain ⟨n12, rfl, b12⟩ := g12.nat64 Tryz.underlying24
    obtain ⟨c13, s13, rfl, g13, f13⟩ := f12.cons
    obtain ⟨n13, rfl, b13, b13'⟩ := g13.int64 Tryz.underlying3
    obtain ⟨c14, s14, rfl, g14, f14⟩ := f13.cons
    obtain ⟨n14, rfl, b14⟩ := g14.nat64 Tryz.underlying24
    obtain ⟨c15, s15, rfl, g15, f15⟩ := f14.cons
    obtain ⟨n15, rfl, b15⟩ := g15.nat64 Tryz.underlying24
    obtain rfl := f15.nil
    exact ⟨⟨n0, n1, n2, n3, n4, n5, n6, n7, n8, n9, n10, n11, n12, n13, n14, n15⟩, rfl, trivial⟩) gA
  obtain ⟨lB, lbB, hvB⟩ := open_rows (X := Nat × Nat) (n := 6) (C := 2) (l := [5, 24]) Tryz.underlying23 (by kernel_rfl) (by kernel_rfl) (by omega) Egs.slt (fun a => a.1 < 256 ∧ a.2 < 18446744073709551616) (fun _ => rfl) (fun cs f => by
    obtain ⟨c0, s0, rfl, g0, f0⟩ := f.cons
    obtain ⟨n0, rfl, b0⟩ := g0.nat8 Tryz.underlying5
    obtain ⟨c1, s1, rfl, g1, f1⟩ := f0.cons
    obtain ⟨n1, rfl, b1⟩ := g1.nat64 Tryz.underlying24
    obtain rfl := f1.nil
    exact ⟨(n0, n1), rfl, by omega, by omega⟩) gB
  obtain ⟨l1, lb1, hv1⟩ := open_rows (X := Egs.Act) (n := 6) (C := 5) (l := [5, 3, 24, 24, 24]) Tryz.underlying27 (by kernel_rfl) (by kernel_rfl) (by omega) Egs.act (fun a => a.Ok) (fun _ => rfl) (fun cs f => by
    obtain ⟨c0, s0, rfl, g0, f0⟩ := f.cons
    obtain ⟨n0, rfl, b0⟩ := g0.nat8 Tryz.underlying5
    obtain ⟨c1, s1, rfl, g1, f1⟩ := f0.cons
    obtain ⟨n1, rfl, b1, b1'⟩ := g1.int64 Tryz.underlying3
    obtain ⟨c2, s2, rfl, g2, f2⟩ := f1.cons
    obtain ⟨n2, rfl, b2⟩ := g2.nat64 Tryz.underlying24
    obtain ⟨c3, s3, rfl, g3, f3⟩ := f2.cons
    obtain ⟨n3, rfl, b3⟩ := g3.nat64 Tryz.underlying24
    obtain ⟨c4, s4, rfl, g4, f4⟩ := f3.cons
    obtain ⟨n4, rfl, b4⟩ := g4.nat64 Tryz.underlying24
    obtain rfl := f4.nil
    exact ⟨⟨n0, n1, n2, n3, n4⟩, rfl, b0, b2, b3, b4⟩) (read1_of (okWide_slice Tryz.underlying27 (hval 1 27 v1 rfl rfl)) h1)
  refine (Egs.plays_law hvA hvB lbB hpc hv1 lb1).mono fun e W' ⟨he, hg⟩ => ?_
  subst he
  exact ⟨_, rfl, fin W' hg⟩

set_option maxRecDepth 100000 in
theorem lifted (os : Os) (started : os.Started) (H : Type) (enc : TypeId × Value → H) :
    ReturnsInHanded {} Tryz.checked os 7 .any (Rows.egressPlaysSpec.pre6 enc Tryz.prog Tryz.f7 Rows.egressPlaysRow.domain false) (Rows.egressPlaysSpec.post enc Tryz.prog Tryz.f7 false true false false) := by
  refine returnsInHanded_of_change own started (by kernel_rfl) Tryz.func7
    (ChangeSpec.witness6 false ⟨#[], #[.agg #[.slice none 0 0, .slice none 0 0, .int .u64 0], .slice none 0 0], []⟩ 8 (by kernel_rfl) (by kernel_rfl) (by kernel_rfl) (by kernel_rfl)) ?_
  intro W base args ds gs before hval hW _ _
  exact contract H enc W base args ds gs before hval hW

theorem proved : Rows.EgressPlaysSaid :=
  OpenClaim.holds_of_wide 7 Tryz.f7 rfl rfl rfl rfl rfl rfl rfl ⟨rfl, rfl, rfl, rfl, rfl⟩ rfl rfl rfl rfl rfl (by kernel_rfl) Tryz.func7 (by kernel_rfl)
    (of_decide_eq_true (by kernel_rfl)) (by unfold Func.isWrapper; first | (rw [if_pos (by decide +kernel)]; kernel_rfl) | (rw [if_neg (by decide +kernel)]; exact ⟨rfl, rfl⟩))
    (fun os started H enc _ => lifted os started H enc)
end Go.Proofs.YtdddfmdcjjbegaaGreat.EgressPlays
