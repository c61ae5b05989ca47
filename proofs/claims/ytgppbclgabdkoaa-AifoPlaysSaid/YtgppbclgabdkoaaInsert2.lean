/- aifo's insert, into nothing. -/
import Derived.Test.YtgppbclgabdkoaaInsert
namespace Go.Proofs.Ytgppbclgabdkoaa.Aifo
open Go.RowKit Go.Proofs BigFrame
set_option maxHeartbeats 4000000
set_option maxRecDepth 1000000
theorem search_nil (x : Int) (w : World) : Calls Try.prog 18 #[.slice none 0 0, .int .u64 x] w fun e w' => e = .returned (.tuple #[.int .i64 0, .bool false]) ∧ w' = w := by
  go_enter Try.func18, Try.ntmps18
  go_wp2
  go_loopw [7, 8] (fun a b wr => a = .int .i64 0 ∧ b = .int .i64 0 ∧ wr = w) (fun _ _ _ => 0)
  case atStart => exact ⟨rfl, rfl, rfl⟩
  case round =>
    obtain ⟨rfl, rfl, rfl⟩ := hrel
    go_wp2
    go_ret2
    exact ⟨rfl, rfl⟩
theorem insert_nil (x : Int) (w : World) :
    Calls Try.prog 23 #[.slice none 0 0, .int .u64 x] w fun e w' => ∃ v, e = .returned v ∧ Rising w' v (ins [] x) ∧ NewRow w v ∧ Upd Nowhere w w' := by
  obtain ⟨i0, hi, hz0, hz1, hz2⟩ := info_parts infoU
  have hsz : (Try.prog.info? TU).map (·.size) = some 1 := by rw [hi]; exact congrArg some hz1
  go_enter Try.func23, Try.ntmps23
  go_wp2_with fail
  refine (search_nil x w).mono ?_
  rintro e w' ⟨rfl, rfl⟩
  go_upto_region 3 with (refine wpList_make_full _ rfl _ _ 25 rfl w'.heap.size TU i0 (.int .u64 0) 1 Try.underlying25 hi hz0 hz1 .i64 .i64 _ _ 1 rfl rfl rfl rfl (by rw [hz2]; omega) (by unfold maxLen; omega) (Nat.le_refl _) ?_; intro w1 hown hgr)
  have hu1 : Upd Nowhere w' w1 := (Upd.refl Nowhere w').grown hgr (fun k _ h => by cases h)
  obtain ⟨cur0, hc0, _, _, hcs0, _⟩ := Blk.own hown
  have z0 := Blk.free (show Blk w1 w'.heap.size cur0 TU from hc0) 0
  obtain ⟨y, hy⟩ : ∃ y, w1.cell? ⟨w'.heap.size, 0, none⟩ = some y := ⟨cur0[0]'(by omega), by rw [Blk.cell (show Blk w1 w'.heap.size cur0 TU from hc0)]; simp⟩
  go_upto_region 5 with (refine wpList_copy_nothing rfl _ _ 25 25 rfl TU Try.underlying25 hsz _ _ _ _ _ _ rfl rfl rfl ?_)
  refine wp_region_tail 7 (by kernel_rfl) (by kernel_rfl) ?_
  simp only [List.take_succ_cons, List.take_zero, List.drop_succ_cons, List.drop_zero]
  repeat (go_big_quiet_step (fail))
  refine wpQuiet_nil ?_
  rintro _ ⟨nq, rfl⟩
  refine wpList_copy_nothing rfl _ _ 25 25 rfl TU Try.underlying25 hsz _ _ _ _ _ _ rfl rfl (by simp) ?_
  go_wp2
  refine Stage.out ?_
  go_wp2
  go_ret
  have hB3 := Blk.set (show Blk w1 w'.heap.size cur0 TU from hc0) 0 (.int .u64 x)
  refine ⟨_, rfl, .inr ⟨w'.heap.size, 1, rfl, Nat.le_refl _, hB3.lt, fun j u hj => ?_⟩, new_row (Nat.le_refl _) _ _, (hu1.setNew (a := ⟨w'.heap.size, 0, none⟩) (Nat.le_refl _) _).drewN nq⟩
  have hj' : [Value.int .u64 x][j]? = some u := hj
  cases j with
  | zero =>
    obtain rfl := Option.some.inj hj'
    exact hB3.cellAt (Array.getElem?_setIfInBounds_self_of_lt (by omega))
  | succ j => simp at hj'
end Go.Proofs.Ytgppbclgabdkoaa.Aifo
