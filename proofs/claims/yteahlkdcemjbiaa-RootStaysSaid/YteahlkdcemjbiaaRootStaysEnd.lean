/- RootStays: from the walk to the statement. -/
import Derived.Test.YteahlkdcemjbiaaRootLaws2
import Derived.Test.YteahlkdcemjbiaaClose
namespace Go.Proofs.Yteahlkdcemjbiaa.RootStays
open Go.RowKit Go.Proofs Go.ChangeShapes Go.WideShapes Go.ChangeAt

theorem own : ownKnob Try.prog.godebug = none := by kernel_rfl

theorem contract (H : Type) (enc : TypeId × Value → H) (W : World) (base : Nat) (args : Array Value) (ds gs : List (DataW H)) (before : List MemPlace)
    (hval : ∀ (j : Nat) t v, Try.f6.params[j]? = some t → args[j]? = some v → Value.okWide Try.prog W .any base t v)
    (hW : DataW.Whole enc Try.prog Try.f6.params.toList Rows.rootStaysSpec.vars false W args.toList ds gs before) :
    Calls Try.prog 6 args W fun e W' => ∃ v, e = .returned v ∧ Rows.rootStaysSpec.post enc Try.prog Try.f6 false true false false W args v W' := by
  have hW' := hW
  obtain ⟨p, q, hA0, hV, rfl, hfz, hnd⟩ := hW
  have hA : DataW.TrodAll enc Try.prog W 0 (fun _ => true) true Try.f6.params.toList args.toList ds p := hA0
  rw [Try.params6] at hA hval
  obtain ⟨v0, vs0, d0, ds0, p0, q0, hargs, rfl, rfl, h0, r0⟩ := trodAll_cons hA
  obtain ⟨v1, vs1, d1, ds1, p1, q1, rfl, rfl, rfl, h1, r1⟩ := trodAll_cons r0
  obtain ⟨v2, vs2, d2, ds2, p2, q2, rfl, rfl, rfl, h2, r2⟩ := trodAll_cons r1
  obtain ⟨rfl, rfl, rfl⟩ := trodAll_nil r2
  obtain rfl : args = #[v0, v1, v2] := by cases args; simp_all
  obtain ⟨rfl, rfl⟩ := trodVars_none hV
  simp only [List.append_nil] at hW'
  have fin : ∀ W', Upd Nowhere W W' → Rows.rootStaysSpec.post enc Try.prog Try.f6 false true false false W #[v0, v1, v2] (.bool true) W' := fun W' hu =>
    post_law laid_out (by kernel_rfl) rfl Try.underlying4 rfl hW' hu ⟨rfl, rfl, rfl⟩
  obtain ⟨a0, rfl, rfl, rfl, w0⟩ := open_int Try.underlying39 (hval 0 39 v0 rfl rfl) h0
  obtain ⟨m0, rfl⟩ : ∃ n : Nat, a0 = n := ⟨a0.toNat, by have := bd32 w0; omega⟩
  have b0 : m0 ≤ 4294967295 := by have := bd32 w0; omega
  obtain ⟨a1, rfl, rfl, rfl, w1⟩ := open_int Try.underlying5 (hval 1 5 v1 rfl rfl) h1
  obtain ⟨m1, rfl⟩ : ∃ n : Nat, a1 = n := ⟨a1.toNat, by have := bd8 w1; omega⟩
  have b1 : m1 ≤ 255 := by have := bd8 w1; omega
  obtain ⟨a2, rfl, rfl, rfl, w2⟩ := open_int Try.underlying40 (hval 2 40 v2 rfl rfl) h2
  obtain ⟨m2, rfl⟩ : ∃ n : Nat, a2 = n := ⟨a2.toNat, by have := bd16 w2; omega⟩
  have b2 : m2 ≤ 65535 := by have := bd16 w2; omega
  refine (Root.stays_law m0 m1 m2 b0 b1 b2 W).mono fun e W' ⟨he, hg⟩ => ?_
  subst he
  exact ⟨_, rfl, fin W' hg⟩

set_option maxRecDepth 100000 in
theorem lifted (os : Os) (started : os.Started) (H : Type) (enc : TypeId × Value → H) :
    ReturnsInHanded {} Try.checked os 6 .any (Rows.rootStaysSpec.pre6 enc Try.prog Try.f6 Rows.rootStaysRow.domain false) (Rows.rootStaysSpec.post enc Try.prog Try.f6 false true false false) := by
  refine returnsInHanded_of_change own started (by kernel_rfl) Try.func6
    (ChangeSpec.witness6 false ⟨#[], #[.int .u32 0, .int .u8 0, .int .u16 0], []⟩ 8 (by kernel_rfl) (by kernel_rfl) (by kernel_rfl) (by kernel_rfl)) ?_
  intro W base args ds gs before hval hW _ _
  exact contract H enc W base args ds gs before hval hW

theorem proved : Rows.RootStaysSaid :=
  OpenClaim.holds_of_wide 6 Try.f6 rfl rfl rfl rfl rfl rfl rfl ⟨rfl, rfl, rfl, rfl, rfl⟩ rfl rfl rfl rfl rfl (by kernel_rfl) Try.func6 (by kernel_rfl)
    (of_decide_eq_true (by kernel_rfl)) (by unfold Func.isWrapper; first | (rw [if_pos (by decide +kernel)]; kernel_rfl) | (rw [if_neg (by decide +kernel)]; exact ⟨rfl, rfl⟩))
    (fun os started H enc _ => lifted os started H enc)
end Go.Proofs.Yteahlkdcemjbiaa.RootStays
