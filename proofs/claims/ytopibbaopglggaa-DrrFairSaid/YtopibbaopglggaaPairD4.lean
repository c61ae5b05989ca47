/- A ring of pacemaker/drr.item: New. -/
import Derived.Test.YtopibbaopglggaaPairD2
namespace Go.Proofs.Ytopibbaopglggaa.PairD
open Go.RowKit Go.Proofs BigFrame

set_option maxHeartbeats 400000
theorem new_ok (w : World) (room : Nat) (h1 : 1 ≤ room) (h2 : room ≤ 65536) :
   Calls Try.prog 52 #[.int .i64 room] w fun e w' => e = .returned (.tuple #[.pointer (some ⟨w.heap.size, 0, none⟩), .int .i64 0]) ∧ PairAt TR TE w' w.heap.size none room [] ∧ Upd Nowhere w w' := by
  have d1 : decide (room < 1) = false := by simp; omega
  have d2 : decide (65536 < room) = false := by simp; omega
  have d3 : decide (room = 0) = false := by simp; omega
  go_enter Try.func52, Try.ntmps52
  go_wp2
  go_ret2
  exact ⟨rfl, ⟨0, 0, Blk.new _ _ _, by simp, by omega, h2, fun _ => ⟨rfl, rfl⟩, fun k hk => by cases hk⟩, (Upd.refl _ _).alloc _⟩

theorem new_no (w : World) (room : Int) (h : room < 1 ∨ 65536 < room) :
   Calls Try.prog 52 #[.int .i64 room] w fun e w' => e = .returned (Value.tuple #[.pointer none, .int .i64 6]) ∧ w = w' := by
  rcases h with h | h
  · go_enter Try.func52, Try.ntmps52
    go_wp2
    go_ret2
    exact ⟨rfl, rfl⟩
  · have d1 : decide (room < 1) = false := by simp; omega
    go_enter Try.func52, Try.ntmps52
    go_wp2
    go_ret2
    exact ⟨rfl, rfl⟩
end Go.Proofs.Ytopibbaopglggaa.PairD
