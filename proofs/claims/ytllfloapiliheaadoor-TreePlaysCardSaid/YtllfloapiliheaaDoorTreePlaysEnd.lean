/- TreePlays: from the walk to the statement. -/
import Derived.Test.YtllfloapiliheaaDoorMTreePl
import Derived.Test.YtllfloapiliheaaDoorTie
import Derived.Test.YtllfloapiliheaaDoorCards
import Derived.Test.YtllfloapiliheaaDoorMWheelR
import Derived.Test.YtllfloapiliheaaDoorOpen
import Derived.Test.YtllfloapiliheaaDoorClose
import Derived.Deep.DeepHandedRow
import Derived.Lib.LaidTab
import Derived.WalkKit
import Derived.ProofKit
import Derived.OpenShut
namespace Go.Proofs.YtllfloapiliheaaDoor.TreePlays
open Go.RowKit Go.Proofs Go.ChangeShapes Go.WideShapes Go.ChangeAt

theorem gTab : Tryd.prog.globalNamed "math/bits.deBruijn64tab" = some 0 := by kernel_rfl
theorem gTabType : (Tryd.prog.globals[0]?).map (·.type) = some 136 := by kernel_rfl
theorem cellsT : Tryd.prog.cellsOf 136 = 64 := by kernel_rfl
theorem cellsE : Tryd.prog.cellsOf 5 = 1 := by kernel_rfl
theorem datum : (Rows.treePlaysRow.laid : List (String × DataW Unit)) = [("math/bits.deBruijn64tab", Lib.tabData .u8 (Lib.deBruijn64tab.map fun n : Nat => (n : Int)))] := by kernel_rfl
theorem table {W : World} (h : laidMetH Tryd.prog Rows.treePlaysRow.laid W) : Lib.TabIs Tryd.prog W "math/bits.deBruijn64tab" .u8 (Lib.deBruijn64tab.map fun n : Nat => (n : Int)) := by
  rw [datum] at h
  exact Lib.tabIs_of_head (rest := []) gTab gTabType Tryd.underlying136 Tryd.underlying5 cellsE cellsT h
theorem tab {W : World} (h : laidMetH Tryd.prog Rows.treePlaysRow.laid W) : WheelR.Tab W := fun j hj => by
  have h1 := (table h).cell gTab j (by rw [List.length_map]; exact hj)
  have h2 : (Lib.deBruijn64tab.map fun n : Nat => (n : Int)).getD j 0 = ((Lib.deBruijn64tab.getD j 0 : Nat) : Int) := by
    rw [List.getD_eq_getElem?_getD, List.getD_eq_getElem?_getD, List.getElem?_map, List.getElem?_eq_getElem hj]; rfl
  rw [h2] at h1
  exact h1
theorem own : ownKnob Tryd.prog.godebug = none := by kernel_rfl

set_option maxRecDepth 100000 in
theorem contract (H : Type) (enc : TypeId × Value → H) (W : World) (base : Nat) (args : Array Value) (ds gs : List (DataW H)) (before : List MemPlace)
    (hval : ∀ (j : Nat) t v, Tryd.f8.params[j]? = some t → args[j]? = some v → Value.okWide Tryd.prog W .any base t v)
    (hW : DataW.Whole enc Tryd.prog Tryd.f8.params.toList Rows.treePlaysSpec.vars false W args.toList ds gs before) (hL : laidMetH Tryd.prog Rows.treePlaysRow.laid W) :
    Calls Tryd.prog 8 args W fun e W' => ∃ v, e = .returned v ∧ Rows.treePlaysSpec.post enc Tryd.prog Tryd.f8 false true false false W args v W' := by
  have hT := tab hL
  have hG : Tryd.tz64_ren.g 1 < W.heap.size := cell_lt (hT 0 (by decide))
  have hW' := hW
  obtain ⟨p, q, hA0, hV, rfl, hfz, hnd⟩ := hW
  have hA : DataW.TrodAll enc Tryd.prog W 0 (fun _ => true) true Tryd.f8.params.toList args.toList ds p := hA0
  rw [Tryd.params8] at hA hval
  obtain ⟨v0, vs0, d0, ds0, p0, q0, hargs, rfl, rfl, h0, r0⟩ := trodAll_cons hA
  obtain ⟨v1, vs1, d1, ds1, p1, q1, rfl, rfl, rfl, h1, r1⟩ := trodAll_cons r0
  obtain ⟨v2, vs2, d2, ds2, p2, q2, rfl, rfl, rfl, h2, r2⟩ := trodAll_cons r1
  obtain ⟨rfl, rfl, rfl⟩ := trodAll_nil r2
  obtain rfl : args = #[v0, v1, v2] := by cases args; simp_all
  obtain ⟨rfl, rfl⟩ := trodVars_none hV
  simp only [List.append_nil] at hW'
  have fin : ∀ W', Upd Nowhere W W' → Rows.treePlaysSpec.post enc Tryd.prog Tryd.f8 false true false false W #[v0, v1, v2] (.bool true) W' := fun W' hu =>
    post_law laid_out (by kernel_rfl) rfl Tryd.underlying4 rfl hW' hu ⟨rfl, rfl, rfl⟩
  obtain ⟨l0, lb0, hv0⟩ := open_rows (X := Tree.Nd) (n := 6) (C := 4) (l := [3, 3, 31, 31]) Tryd.underlying29 (by kernel_rfl) (by kernel_rfl) (by omega) Tree.nd (fun a => a.wt ≤ 18446744073709551615 ∧ a.gap ≤ 18446744073709551615) (fun _ => rfl) (fun cs f => by
    obtain ⟨c0, s0, rfl, g0, f0⟩ := f.cons
    obtain ⟨n0, rfl, b0, b0'⟩ := g0.int64 Tryd.underlying3
    obtain ⟨c1, s1, rfl, g1, f1⟩ := f0.cons
    obtain ⟨n1, rfl, b1, b1'⟩ := g1.int64 Tryd.underlying3
    obtain ⟨c2, s2, rfl, g2, f2⟩ := f1.cons
    obtain ⟨n2, rfl, b2⟩ := g2.nat64 Tryd.underlying31
    obtain ⟨c3, s3, rfl, g3, f3⟩ := f2.cons
    obtain ⟨n3, rfl, b3⟩ := g3.nat64 Tryd.underlying31
    obtain rfl := f3.nil
    exact ⟨⟨n0, n1, n2, n3⟩, rfl, b2, b3⟩) (read1_of (okWide_slice Tryd.underlying29 (hval 0 29 v0 rfl rfl)) h0)
  obtain ⟨a1, rfl, rfl, rfl, w1⟩ := open_int Tryd.underlying3 (hval 1 3 v1 rfl rfl) h1
  obtain ⟨l2, lb2, hv2⟩ := open_rows (X := Tree.Act) (n := 6) (C := 6) (l := [4, 31, 3, 36, 36, 31]) Tryd.underlying23 (by kernel_rfl) (by kernel_rfl) (by omega) Tree.act (fun a => a.later ≤ 18446744073709551615 ∧ a.fl ≤ 4294967295 ∧ a.id ≤ 4294967295 ∧ a.len ≤ 18446744073709551615) (fun _ => rfl) (fun cs f => by
    obtain ⟨c0, s0, rfl, g0, f0⟩ := f.cons
    obtain ⟨n0, rfl⟩ := g0.bool Tryd.underlying4
    obtain ⟨c1, s1, rfl, g1, f1⟩ := f0.cons
    obtain ⟨n1, rfl, b1⟩ := g1.nat64 Tryd.underlying31
    obtain ⟨c2, s2, rfl, g2, f2⟩ := f1.cons
    obtain ⟨n2, rfl, b2, b2'⟩ := g2.int64 Tryd.underlying3
    obtain ⟨c3, s3, rfl, g3, f3⟩ := f2.cons
    obtain ⟨n3, rfl, b3⟩ := g3.nat32 Tryd.underlying36
    obtain ⟨c4, s4, rfl, g4, f4⟩ := f3.cons
    obtain ⟨n4, rfl, b4⟩ := g4.nat32 Tryd.underlying36
    obtain ⟨c5, s5, rfl, g5, f5⟩ := f4.cons
    obtain ⟨n5, rfl, b5⟩ := g5.nat64 Tryd.underlying31
    obtain rfl := f5.nil
    exact ⟨⟨n0, n1, n2, n3, n4, n5⟩, rfl, b1, b3, b4, b5⟩) (read1_of (okWide_slice Tryd.underlying23 (hval 2 23 v2 rfl rfl)) h2)
  refine (Tree.plays_law v0 l0 lb0 a1 v2 l2 lb2 W hv0 hv2 ⟨hT, hG⟩).mono fun e W' ⟨he, hg⟩ => ?_
  subst he
  exact ⟨_, rfl, fin W' hg⟩

/-- A world for the witness: the settled one, the table holding what its initialiser lays. -/
noncomputable def laidWorld (os : Os) : World :=
  { World.holding Tryd.prog os ⟨#[], #[], []⟩ with heap := (World.holding Tryd.prog os ⟨#[], #[], []⟩).heap.modify 0 fun
      | .cells _ t frozen => .cells (Lib.deBruijn64tab.map fun n : Nat => Value.int .u8 (n : Nat)).toArray t frozen
      | o => o }
theorem laid_met (os : Os) : laidMet Tryd.prog Rows.treePlaysRow.laid ((laidWorld os).forCall (fun _ _ => 0) ⟨#[], #[.slice none 0 0, .int .i64 0, .slice none 0 0], []⟩).memory :=
  laidMet_of_run' 8 (by kernel_rfl) (by kernel_rfl)
theorem reads (os : Os) {H : Type} (enc : TypeId × Value → H) : ∃ places, DataW.whole enc Tryd.prog ((laidWorld os).forCall (fun _ _ => 0) ⟨#[], #[.slice none 0 0, .int .i64 0, .slice none 0 0], []⟩).memory Tryd.f8.params.toList Rows.treePlaysSpec.vars false (#[.slice none 0 0, .int .i64 0, .slice none 0 0] : Array Value).toList 8 = some ([.nil, .lit (.int .i64 0), .nil], [], places) :=
  ⟨[], by kernel_rfl⟩

set_option maxRecDepth 100000 in
theorem lifted (os : Os) (started : os.Started) (H : Type) (enc : TypeId × Value → H) (F : Stop.Interp) :
    ReturnsInHanded {} Tryd.checked os 8 .any ((OpenSpec.ofChange Rows.treePlaysSpec).preRow enc Tryd.prog Tryd.f8 Rows.treePlaysRow.domain false Rows.treePlaysRow.laid) (((OpenSpec.ofChange Rows.treePlaysSpec).at F).post enc Tryd.prog Tryd.f8 false true false false) := by
  obtain ⟨places, hx⟩ := reads os enc
  refine returnsInHanded_of_row (C := Tryd.checked) (s := OpenSpec.ofChange Rows.treePlaysSpec) own started (by kernel_rfl) Tryd.func8
    (witness_row_at (enc := enc) (C := Tryd.checked) false (laidWorld os) #[.slice none 0 0, .int .i64 0, .slice none 0 0] rfl (by kernel_rfl) (by kernel_rfl) (by kernel_rfl)
      (OpenSpec.preRow_of_cond 8 hx (by kernel_rfl) (fun k hk => by cases hk) (by kernel_rfl) (laid_met os))) ?_
  intro W base args ds gs before hval hW _ _ _ hL _ _
  exact contract H enc W base args ds gs before hval hW hL

theorem said : Rows.TreePlaysSaid :=
  OpenClaim.holds_of_cond 8 Tryd.f8 rfl rfl rfl rfl rfl rfl rfl ⟨rfl, rfl, rfl, rfl, rfl⟩ rfl rfl rfl rfl rfl (by kernel_rfl) Tryd.func8 (by kernel_rfl)
    (of_decide_eq_true (by kernel_rfl)) (by unfold Func.isWrapper; first | (rw [if_pos (by decide +kernel)]; kernel_rfl) | (rw [if_neg (by decide +kernel)]; exact ⟨rfl, rfl⟩))
    (fun os started H enc _ F => by rw [OpenClaim.pre_eq_preRow]; exact lifted os started H enc F)

theorem plain (f : FuncId) (fn : Func) (hf : Tryd.pinned.checked.prog.funcNamed "pacemaker/pacemakerlaw30.TreePlays" = some f) (hfn : Tryd.pinned.checked.prog.funcs[f]? = some fn) :
    false = Tryd.pinned.checked.prog.looks [] ∧ ∀ (j : Nat) t, fn.params[j]? = some t → Tryd.pinned.checked.prog.wantsStandIn t = false := by
  obtain rfl : f = 8 := Option.some.inj ((show Tryd.prog.funcNamed "pacemaker/pacemakerlaw30.TreePlays" = some 8 by kernel_rfl).symm.trans hf) |>.symm
  obtain rfl : fn = Tryd.f8 := (Option.some.inj (Tryd.func8.symm.trans hfn)).symm
  refine ⟨by kernel_rfl, fun j t ht => ?_⟩
  rw [Tryd.params8] at ht
  have hm := Array.mem_of_getElem? ht
  simp only [List.mem_toArray, List.mem_cons, List.not_mem_nil, or_false] at hm
  rcases hm with rfl | rfl | rfl
  · exact (show Tryd.prog.wantsStandIn 29 = false by kernel_rfl)
  · exact (show Tryd.prog.wantsStandIn 3 = false by kernel_rfl)
  · exact (show Tryd.prog.wantsStandIn 23 = false by kernel_rfl)

theorem proved : Rows.TreePlaysCardSaid :=
  Claim7.holds_tied_plain_at .later [] _ _ _ _ said (fun _ h => by cases h) (by kernel_rfl) (fun _ h => by cases h) treePlays_row_tie rfl ⟨rfl, rfl⟩ (by kernel_rfl) rfl plain (by kernel_rfl)
end Go.Proofs.YtllfloapiliheaaDoor.TreePlays
