/- EgNobody, one behind the other. -/
import Derived.Test.YtdddfmdcjjbegaaGreatMeLaw
namespace Go.Proofs.YtdddfmdcjjbegaaGreat.Egs
open Go.RowKit Go.Proofs BigFrame
open RingW (It KI zI ZI VI TE)
open First (Cf VC TCl)
set_option maxHeartbeats 4000000
set_option maxRecDepth 1000000
set_option linter.unusedSimpArgs false
theorem nobody_law (i : Int) (rank p0 p1 p2 : Nat) (w : World) :
    Calls Tryz.prog 8 #[.int .i64 i, .int .u64 rank, VP p0 p1 p2] w fun x w' => x = .returned (.bool true) ∧ Upd Nowhere w w' := by
  have hM0 := m_box (Made.start w) #[.int .u32 p0, .int .u32 p1, .int .u64 p2] TP
  have HCN : ∀ u w', Upd Nowhere u w' → Hid (Calls Tryz.prog 36 #[.pointer none, .int .i64 i] w' fun x w'' => x = .returned (.pointer none) ∧ w' = w'') := fun _ w' _ => Lib.hid (class_nil w' i)
  go_enter Tryz.func8, Tryz.ntmps8
  go_wp2_with fail
  refine (next_nil _).mono ?_
  rintro x w1 ⟨rfl, u1⟩
  go_upto_region 3 with fail
  have HM1 := Lib.hid (m_box (hM0.old u1) #[.int .u32 0, .int .u32 0, .int .u64 0] TP)
  clear hM0 u1
  generalize w1.alloc (.cells #[.int .u32 0, .int .u32 0, .int .u64 0] TP) = w2 at *
  generalize w1.heap.size = PB at *
  generalize w.heap.size = PA at *
  go_wp2_with fail
  refine (tick_nil _ _).mono ?_
  rintro x w' ⟨rfl, rfl⟩
  go_wp2_with fail
  refine (waits_none (HCN _)).mono ?_
  rintro x w3 ⟨rfl, u3⟩
  go_wp2_with fail
  refine (head_none (HCN _)).mono ?_
  rintro x w4 ⟨rfl, u4⟩
  go_upto_region 6 with fail
  have HM4 := Lib.hid (m_box ((HM1.out.old u3).old u4) #[.int .u32 0, .int .u32 0, .int .u64 0] TP)
  clear u3 u4 HM1
  generalize w4.alloc (.cells #[.int .u32 0, .int .u32 0, .int .u64 0] TP) = w5 at *
  generalize w4.heap.size = PC at *
  obtain ⟨a0, a1, a2, -⟩ := cells3 (mk_off (l1 := [_, _]) HM4.out).1
  go_wp2_with fail
  refine (push_nil _ _ _ _ _ _).mono ?_
  rintro x w6 ⟨rfl, u6⟩
  have HM6 := Lib.hid (HM4.out.old u6)
  clear u6 HM4 a0 a1 a2
  obtain ⟨b0, b1, b2, -⟩ := cells3 (mk_off (l1 := [_]) HM6.out).1
  go_wp2_with fail
  refine (counts_none (HCN _)).mono ?_
  rintro x w7 ⟨rfl, u7⟩
  have HM7 := Lib.hid (HM6.out.old u7)
  clear u7 HM6 b0 b1 b2
  go_wp2_with fail
  refine (credit_none (HCN _)).mono ?_
  rintro x w8 ⟨rfl, u8⟩
  have HM8 := Lib.hid (HM7.out.old u8)
  clear u8 HM7
  go_wp2_with fail
  refine (now_nil _).mono ?_
  rintro x w' ⟨rfl, rfl⟩
  go_wp2_with fail
  refine (busy_nil _).mono ?_
  rintro x w' ⟨rfl, rfl⟩
  go_wp2_with fail
  refine (lives_any _).mono ?_
  rintro x w9 ⟨rfl, u9⟩
  go_wp2_with fail
  go_ret
  exact ⟨rfl, (HM8.out.old u9).upd⟩
end Go.Proofs.YtdddfmdcjjbegaaGreat.Egs
