/- SpNobody. -/
import Derived.Test.YtopibbaopglggaaSpI3
import Derived.Test.YtopibbaopglggaaSpLives
namespace Go.Proofs.Ytopibbaopglggaa.Sp
open Go.RowKit Go.Proofs BigFrame
set_option maxHeartbeats 2000000
set_option maxRecDepth 100000
theorem first_nil (w : World) : Calls Try.prog 50 #[.pointer none] w fun e w' => e = .returned (.pointer none) ∧ w = w' := by
  go_enter Try.func50, Try.ntmps50
  go_wp2_with fail
  go_ret
  exact ⟨rfl, rfl⟩
theorem push_nil (r x : Int) (w : World) : Calls Try.prog 15 #[.pointer none, .int .u64 r, .int .i64 x] w fun e w' => e = .returned (.tuple #[.int .i64 0, .bool false]) ∧ Upd Nowhere w w' := by
  go_enter Try.func15, Try.ntmps15
  go_wp2_with fail
  go_quiet (fail)
  go_wp2_with fail
  go_ret2
  exact ⟨rfl, (Upd.refl _ _).drewN _⟩
theorem len_nil (w : World) : Calls Try.prog 17 #[.pointer none] w fun e w' => e = .returned (.int .i64 0) ∧ w = w' := by
  go_enter Try.func17, Try.ntmps17
  go_wp2_with fail
  go_ret
  exact ⟨rfl, rfl⟩
theorem bounds_nil (w : World) : Calls Try.prog 18 #[.pointer none] w fun e w' => e = .returned (.slice none 0 0) ∧ w = w' := by
  go_enter Try.func18, Try.ntmps18
  go_wp2_with fail
  go_ret
  exact ⟨rfl, rfl⟩
theorem queue_nil (i : Int) (w : World) : Calls Try.prog 43 #[.pointer none, .int .i64 i] w fun e w' => e = .returned (.slice none 0 0) ∧ w = w' := by
  go_enter Try.func43, Try.ntmps43
  go_wp2_with fail
  go_ret
  exact ⟨rfl, rfl⟩
theorem lay_nil (w : World) : Calls Try.prog 41 #[.pointer none, .slice none 0 0, .slice none 0 0] w fun e w' => e = .returned (.int .i64 10) ∧ w = w' := by
  go_enter Try.func41, Try.ntmps41
  go_wp2_with fail
  go_ret
  exact ⟨rfl, rfl⟩
theorem peek_nil (w : World) : Calls Try.prog 30 #[.pointer none] w fun e w' => e = .returned (.tuple #[.int .u64 0, .int .i64 0, .bool false]) ∧ Upd Nowhere w w' := by
  have HT := fun u => Lib.hid (PairI.head_nil u)
  go_enter Try.func30, Try.ntmps30
  go_wp2_with fail
  refine (first_nil _).mono ?_
  rintro e w' ⟨rfl, rfl⟩
  go_wp2_with fail
  refine (HT _).out.mono ?_
  rintro e w3 ⟨rfl, u3⟩
  go_wp2_with fail
  go_quiet (fail)
  go_wp2_with fail
  go_ret3
  exact ⟨rfl, (u3.alloc _).drewN _⟩
theorem pop_nil (w : World) : Calls Try.prog 16 #[.pointer none] w fun e w' => e = .returned (.tuple #[.int .u64 0, .int .i64 0, .bool false]) ∧ Upd Nowhere w w' := by
  have HT := fun u => Lib.hid (PairI.take_nil u)
  go_enter Try.func16, Try.ntmps16
  go_wp2_with fail
  refine (first_nil _).mono ?_
  rintro e w' ⟨rfl, rfl⟩
  go_wp2_with fail
  refine (HT _).out.mono ?_
  rintro e w3 ⟨rfl, u3⟩
  go_wp2_with fail
  go_quiet (fail)
  go_wp2_with fail
  go_ret3
  exact ⟨rfl, (u3.alloc _).drewN _⟩
theorem nobody_law (r : Int) (x : Int) (w : World) : Calls Try.prog 12 #[.int .u64 r, .int .i64 x] w fun e w' => e = .returned (.bool true) ∧ Upd Nowhere w w' := by
  have H1 := fun u => Lib.hid (push_nil r x u)
  have H2 := fun u => Lib.hid (peek_nil u)
  have H3 := fun u => Lib.hid (pop_nil u)
  have HL := fun u => Lib.hid (lives u)
  go_enter Try.func12, Try.ntmps12
  go_wp2_with fail
  refine ((H1 _).out).mono ?_
  rintro e w1 ⟨rfl, u1⟩
  go_wp2_with fail
  refine ((H2 _).out).mono ?_
  rintro e w2 ⟨rfl, u2⟩
  go_wp2_with fail
  refine ((H3 _).out).mono ?_
  rintro e w3 ⟨rfl, u3⟩
  go_wp2_with fail
  refine (len_nil _).mono ?_
  rintro e w' ⟨rfl, rfl⟩
  go_wp2_with fail
  refine (bounds_nil _).mono ?_
  rintro e w' ⟨rfl, rfl⟩
  go_wp2_with fail
  refine (queue_nil _ _).mono ?_
  rintro e w' ⟨rfl, rfl⟩
  go_wp2_with fail
  refine (lay_nil _).mono ?_
  rintro e w' ⟨rfl, rfl⟩
  go_wp2_with fail
  refine ((HL _).out).mono ?_
  rintro e w4 ⟨rfl, u4⟩
  go_wp2_with fail
  go_ret
  exact ⟨rfl, ((u1.trans u2 (fun _ _ h => h)).trans u3 (fun _ _ h => h)).trans u4 (fun _ _ h => h)⟩
end Go.Proofs.Ytopibbaopglggaa.Sp
