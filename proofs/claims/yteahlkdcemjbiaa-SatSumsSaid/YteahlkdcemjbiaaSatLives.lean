/- The example of sat's laws. -/
import Derived.Test.YteahlkdcemjbiaaSatSum
namespace Go.Proofs.Yteahlkdcemjbiaa.Sat
open Go.RowKit Go.Proofs BigFrame
open Bits (sat_add)
set_option maxHeartbeats 1000000
set_option maxRecDepth 100000
theorem lives (w : World) : Calls Try.prog 27 #[] w fun e w' => e = .returned (.bool true) ∧ Upd Nowhere w w' := by
  have h1 := fun u => sat_add 18446744073709551614 5 u (by omega) (by omega)
  have h2 := fun u => sat_muldiv 9223372036854775808 6 4 (by omega) (by omega) (by omega) u
  have h3 := fun u => sat_divup 7 3 (by omega) (by omega) u
  have h5 := fun u => under_any 2 3 1 7 (by omega) (by omega) (by omega) (by omega) u
  have e1 : min (18446744073709551614 + 5) 18446744073709551615 = 18446744073709551615 := by decide
  have e2 : through 9223372036854775808 6 4 = 13835058055282163712 := by decide
  have e3 : ups 7 3 = 3 := by decide
  have e5 : decide (2 * 3 < 1 * 7) = true := by decide
  rw [e1] at h1
  rw [e2] at h2
  rw [e3] at h3
  rw [e5] at h5
  have H1 := fun u => Lib.hid (h1 u)
  have H2 := fun u => Lib.hid (h2 u)
  have H3 := fun u => Lib.hid (h3 u)
  have H5 := fun u => Lib.hid (h5 u)
  clear e1 e2 e3 e5 h1 h2 h3 h5
  go_enter Try.func27, Try.ntmps27
  go_wp2_with fail
  refine (H1 _).out.mono ?_
  rintro e w' ⟨rfl, rfl⟩
  go_wp2_with fail
  refine (H2 _).out.mono ?_
  rintro e w' ⟨rfl, k, rfl⟩
  go_wp2_with fail
  refine (H3 _).out.mono ?_
  rintro e w' ⟨rfl, rfl⟩
  go_wp2_with fail
  have H4 := fun u (v : Value) (h : RowAt u v (nums [1, 2, 3])) => sat_sum u v [1, 2, 3] h (by decide) (fun i x h => by
    have := List.mem_of_getElem? h
    simp at this
    omega)
  have e4 : tot [1, 2, 3] = 6 := by decide
  rw [e4] at H4
  refine (H4 _ _ ⟨some _, 3, rfl, (fun h => by cases h), fun b hb j u hu => ?_⟩).mono ?_
  · obtain rfl : (⟨w.heap.size, 0, none⟩ : Addr) = b := by simpa using hb
    refine ⟨rfl, ?_⟩
    have := new_cells (w.drewN k) #[.int .u64 1, .int .u64 2, .int .u64 3] 22 j u (by simpa [nums] using hu)
    simpa using this
  rintro e w' ⟨rfl, k2, rfl⟩
  go_wp2_with fail
  refine (H5 _).out.mono ?_
  rintro e w' ⟨rfl, rfl⟩
  go_wp2_with fail
  go_ret
  exact ⟨rfl, (((Upd.refl _ _).drewN k).alloc _).drewN _⟩
end Go.Proofs.Yteahlkdcemjbiaa.Sat
