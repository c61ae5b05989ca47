/- TopAhead: from the walk to the statement. -/
import Derived.Test.YtpgpjjkeginbbaaGreatDoorMtAh
import Derived.Test.YtpgpjjkeginbbaaGreatDoorTie
import Derived.Test.YtpgpjjkeginbbaaGreatDoorCards
import Derived.Test.YtpgpjjkeginbbaaGreatDoorMtWr
import Derived.Test.YtpgpjjkeginbbaaGreatDoorMtOp
import Derived.Deep.DeepHandedRow
import Derived.Lib.LaidTab
import Derived.WalkKit
import Derived.ProofKit
import Derived.OpenShut
namespace Go.Proofs.YtpgpjjkeginbbaaGreatDoor.TopAhead
open Go.RowKit Go.Proofs Go.ChangeShapes Go.WideShapes Go.ChangeAt

theorem gTab : Tryz.prog.globalNamed "math/bits.deBruijn64tab" = some 0 := by kernel_rfl
theorem gTabType : (Tryz.prog.globals[0]?).map (·.type) = some 328 := by kernel_rfl
theorem cellsT : Tryz.prog.cellsOf 328 = 64 := by kernel_rfl
theorem cellsE : Tryz.prog.cellsOf 5 = 1 := by kernel_rfl
theorem datum : (Rows.topAheadRow.laid : List (String × DataW Unit)) = [("math/bits.deBruijn64tab", Lib.tabData .u8 (Lib.deBruijn64tab.map fun n : Nat => (n : Int)))] := by kernel_rfl
theorem table {W : World} (h : laidMetH Tryz.prog Rows.topAheadRow.laid W) : Lib.TabIs Tryz.prog W "math/bits.deBruijn64tab" .u8 (Lib.deBruijn64tab.map fun n : Nat => (n : Int)) := by
  rw [datum] at h
  exact Lib.tabIs_of_head (rest := []) gTab gTabType Tryz.underlying328 Tryz.underlying5 cellsE cellsT h
theorem tab {W : World} (h : laidMetH Tryz.prog Rows.topAheadRow.laid W) : WheelR.Tab W := fun j hj => by
  have h1 := (table h).cell gTab j (by rw [List.length_map]; exact hj)
  have h2 : (Lib.deBruijn64tab.map fun n : Nat => (n : Int)).getD j 0 = ((Lib.deBruijn64tab.getD j 0 : Nat) : Int) := by
    rw [List.getD_eq_getElem?_getD, List.getD_eq_getElem?_getD, List.getElem?_map, List.getElem?_eq_getElem hj]; rfl
  rw [h2] at h1
  exact h1
theorem own : ownKnob Tryz.prog.godebug = none := by kernel_rfl

set_option maxRecDepth 100000 in
theorem contract (H : Type) (enc : TypeId × Value → H) (W : World) (base : Nat) (args : Array Value) (ds gs : List (DataW H)) (before : List MemPlace)
    (hval : ∀ (j : Nat) t v, Tryz.f4.params[j]? = some t → args[j]? = some v → Value.okWide Tryz.prog W .any base t v)
    (hW : DataW.Whole enc Tryz.prog Tryz.f4.params.toList Rows.topAheadSpec.vars false W args.toList ds gs before) (hL : laidMetH Tryz.prog Rows.topAheadRow.laid W) :
    Calls Tryz.prog 4 args W fun e W' => ∃ v, e = .returned v ∧ Rows.topAheadSpec.post enc Tryz.prog Tryz.f4 false true false false W args v W' := by
  have hT := tab hL
  have hG : Tryz.tz64_ren.g 1 < W.heap.size := cell_lt (hT 0 (by decide))
  have hW' := hW
  obtain ⟨p, q, hA0, hV, rfl, hfz, hnd⟩ := hW
  have hA : DataW.TrodAll enc Tryz.prog W 0 (fun _ => true) true Tryz.f4.params.toList args.toList ds p := hA0
  rw [Tryz.params4] at hA hval
  obtain ⟨v0, vs0, d0, ds0, p0, q0, hargs, rfl, rfl, h0, r0⟩ := trodAll_cons hA
  obtain ⟨v1, vs1, d1, ds1, p1, q1, rfl, rfl, rfl, h1, r1⟩ := trodAll_cons r0
  obtain ⟨v2, vs2, d2, ds2, p2, q2, rfl, rfl, rfl, h2, r2⟩ := trodAll_cons r1
  obtain ⟨rfl, rfl, rfl⟩ := trodAll_nil r2
  obtain rfl : args = #[v0, v1, v2] := by cases args; simp_all
  obtain ⟨rfl, rfl⟩ := trodVars_none hV
  simp only [List.append_nil] at hW'
  have fin : ∀ W', Upd Nowhere W W' → Rows.topAheadSpec.post enc Tryz.prog Tryz.f4 false true false false W #[v0, v1, v2] (.bool true) W' := fun W' hu =>
    post_law laid_out (by kernel_rfl) rfl Tryz.underlying4 rfl hW' hu ⟨rfl, rfl, rfl⟩
  obtain ⟨a0, rfl, rfl, rfl, w0⟩ := open_int Tryz.underlying5 (hval 0 5 v0 rfl rfl) h0
  obtain ⟨m0, rfl⟩ : ∃ n : Nat, a0 = n := ⟨a0.toNat, by have := bd8 w0; omega⟩
  have b0 : m0 ≤ 255 := by have := bd8 w0; omega
  obtain ⟨a1, rfl, rfl, rfl, w1⟩ := open_int Tryz.underlying58 (hval 1 58 v1 rfl rfl) h1
  obtain ⟨m1, rfl⟩ : ∃ n : Nat, a1 = n := ⟨a1.toNat, by have := bd16 w1; omega⟩
  have b1 : m1 ≤ 65535 := by have := bd16 w1; omega
  obtain ⟨l2, lb2, hv2⟩ := open_rows (X := Br.Stp) (n := 6) (C := 3) (l := [4, 3, 25]) Tryz.underlying23 (by kernel_rfl) (by kernel_rfl) (by omega) Br.stL (fun x => x.len ≤ 18446744073709551615) (fun _ => rfl) (fun cs f => by
    obtain ⟨c0, s0, rfl, g0, f0⟩ := f.cons
    obtain ⟨n0, rfl⟩ := g0.bool Tryz.underlying4
    obtain ⟨c1, s1, rfl, g1, f1⟩ := f0.cons
    obtain ⟨n1, rfl, b1, b1'⟩ := g1.int64 Tryz.underlying3
    obtain ⟨c2, s2, rfl, g2, f2⟩ := f1.cons
    obtain ⟨n2, rfl, b2⟩ := g2.nat64 Tryz.underlying25
    obtain rfl := f2.nil
    exact ⟨⟨n0, n1, n2⟩, rfl, b2⟩) (read1_of (okWide_slice Tryz.underlying23 (hval 2 23 v2 rfl rfl)) h2)
  refine (Ah.ahead_law m0 m1 b0 b1 v2 l2 W hv2 lb2 ⟨hT, hG⟩).mono fun e W' ⟨he, hg⟩ => ?_
  subst he
  exact ⟨_, rfl, fin W' hg⟩

/-- A world for the witness: the settled one, the table holding what its initialiser lays. -/
noncomputable def laidWorld (os : Os) : World :=
  { World.holding Tryz.prog os ⟨#[], #[], []⟩ with heap := (World.holding Tryz.prog os ⟨#[], #[], []⟩).heap.modify 0 fun
      | .cells _ t frozen => .cells (Lib.deBruijn64tab.map fun n : Nat => Value.int .u8 (n : Nat)).toArray t frozen
      | o => o }
theorem laid_met (os : Os) : laidMet Tryz.prog Rows.topAheadRow.laid ((laidWorld os).forCall (fun _ _ => 0) ⟨#[], #[.int .u8 0, .int .u16 0, .slice none 0 0], []⟩).memory :=
  laidMet_of_run' 8 (by kernel_rfl) (by kernel_rfl)
theorem reads (os : Os) {H : Type} (enc : TypeId × Value → H) : ∃ places, DataW.whole enc Tryz.prog ((laidWorld os).forCall (fun _ _ => 0) ⟨#[], #[.int .u8 0, .int .u16 0, .slice none 0 0], []⟩).memory Tryz.f4.params.toList Rows.topAheadSpec.vars false (#[.int .u8 0, .int .u16 0, .slice none 0 0] : Array Value).toList 8 = some ([.lit (.int .u8 0), .lit (.int .u16 0), .nil], [], places) :=
  ⟨[], by kernel_rfl⟩

set_option maxRecDepth 100000 in
theorem lifted (os : Os) (started : os.Started) (H : Type) (enc : TypeId × Value → H) (F : Stop.Interp) :
    ReturnsInHanded {} Tryz.checked os 4 .any ((OpenSpec.ofChange Rows.topAheadSpec).preRow enc Tryz.prog Tryz.f4 Rows.topAheadRow.domain false Rows.topAheadRow.laid) (((OpenSpec.ofChange Rows.topAheadSpec).at F).post enc Tryz.prog Tryz.f4 false true false false) := by
  obtain ⟨places, hx⟩ := reads os enc
  refine returnsInHanded_of_row (C := Tryz.checked) (s := OpenSpec.ofChange Rows.topAheadSpec) own started (by kernel_rfl) Tryz.func4
    (witness_row_at (enc := enc) (C := Tryz.checked) false (laidWorld os) #[.int .u8 0, .int .u16 0, .slice none 0 0] rfl (by kernel_rfl) (by kernel_rfl) (by kernel_rfl)
      (OpenSpec.preRow_of_cond 8 hx (by kernel_rfl) (fun k hk => by cases hk) (by kernel_rfl) (laid_met os))) ?_
  intro W base args ds gs before hval hW _ _ _ hL _ _
  exact contract H enc W base args ds gs before hval hW hL

theorem said : Rows.TopAheadSaid :=
  OpenClaim.holds_of_cond 4 Tryz.f4 rfl rfl rfl rfl rfl rfl rfl ⟨rfl, rfl, rfl, rfl, rfl⟩ rfl rfl rfl rfl rfl (by kernel_rfl) Tryz.func4 (by kernel_rfl)
    (of_decide_eq_true (by kernel_rfl)) (by unfold Func.isWrapper; first | (rw [if_pos (by decide +kernel)]; kernel_rfl) | (rw [if_neg (by decide +kernel)]; exact ⟨rfl, rfl⟩))
    (fun os started H enc _ F => by rw [OpenClaim.pre_eq_preRow]; exact lifted os started H enc F)

theorem plain (f : FuncId) (fn : Func) (hf : Tryz.pinned.checked.prog.funcNamed "pacemaker/pacemakertop.TopAhead" = some f) (hfn : Tryz.pinned.checked.prog.funcs[f]? = some fn) :
    false = Tryz.pinned.checked.prog.looks [] ∧ ∀ (j : Nat) t, fn.params[j]? = some t → Tryz.pinned.checked.prog.wantsStandIn t = false := by
  obtain rfl : f = 4 := Option.some.inj ((show Tryz.prog.funcNamed "pacemaker/pacemakertop.TopAhead" = some 4 by kernel_rfl).symm.trans hf) |>.symm
  obtain rfl : fn = Tryz.f4 := (Option.some.inj (Tryz.func4.symm.trans hfn)).symm
  refine ⟨by kernel_rfl, fun j t ht => ?_⟩
  rw [Tryz.params4] at ht
  have hm := Array.mem_of_getElem? ht
  simp only [List.mem_toArray, List.mem_cons, List.not_mem_nil, or_false] at hm
  rcases hm with rfl | rfl | rfl
  · exact (show Tryz.prog.wantsStandIn 5 = false by kernel_rfl)
  · exact (show Tryz.prog.wantsStandIn 58 = false by kernel_rfl)
  · exact (show Tryz.prog.wantsStandIn 23 = false by kernel_rfl)

theorem proved : Rows.TopAheadCardSaid :=
  Claim7.holds_tied_plain_at .later [] _ _ _ _ said (fun _ h => by cases h) (by kernel_rfl) (fun _ h => by cases h) topAhead_row_tie rfl ⟨rfl, rfl⟩ (by kernel_rfl) rfl plain (by kernel_rfl)
end Go.Proofs.YtpgpjjkeginbbaaGreatDoor.TopAhead
