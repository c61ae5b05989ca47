/- the reference of sat: Add, Sub, Mul, MulAdd, Under. -/
import Derived.Test.YtllfloapiliheaaDoorSat2
namespace Go.Proofs.YtllfloapiliheaaDoor.Sat
open Go.RowKit Go.Proofs BigFrame
open Wide (four dg Gives of_any times_any)

theorem lt_of_max {a : Nat} (h : a ≤ 18446744073709551615) : a < 340282366920938463463374607431768211456 := by omega

set_option maxHeartbeats 1000000
theorem ref_add (a b : Nat) (ha : a ≤ 18446744073709551615) (hb : b ≤ 18446744073709551615) (w : World) :
    Calls Tryd.prog 19 #[.int .u64 a, .int .u64 b] w fun e w' => Gives w (.int .u64 (min (a + b) 18446744073709551615 : Nat)) e w' := by
  have h1 := fun u => Lib.hid (of_any a ha u)
  have h2 := fun u => Lib.hid (of_any b hb u)
  have h3 := fun u => Lib.hid (plus_num a b (by omega) u)
  have h4 := fun u => Lib.hid (cap_num (a + b) (by omega) u)
  generalize four (dg a) = v1 at *
  generalize four (dg b) = v2 at *
  generalize four (dg (a + b)) = v3 at *
  generalize min (a + b) 18446744073709551615 = n at *
  clear ha hb
  go_enter Tryd.func19, Tryd.ntmps19
  go_wp2_with fail
  refine (h1 _).out.mono ?_
  rintro e w1 ⟨rfl, u1⟩
  go_wp2_with fail
  refine (h2 _).out.mono ?_
  rintro e w2 ⟨rfl, u2⟩
  go_wp2_with fail
  refine (h3 _).out.mono ?_
  rintro e w3 ⟨rfl, u3⟩
  go_wp2_with fail
  refine (h4 _).out.mono ?_
  rintro e w4 ⟨rfl, u4⟩
  go_wp2_with fail
  go_ret
  exact ⟨rfl, ((u1.trans u2 (fun _ _ h => h)).trans u3 (fun _ _ h => h)).trans u4 (fun _ _ h => h)⟩

theorem ref_muladd (a b c : Nat) (ha : a ≤ 18446744073709551615) (hb : b ≤ 18446744073709551615) (hc : c ≤ 18446744073709551615) (w : World) :
    Calls Tryd.prog 51 #[.int .u64 a, .int .u64 b, .int .u64 c] w fun e w' => Gives w (.int .u64 (min (a + b * c) 18446744073709551615 : Nat)) e w' := by
  have hp := prod_lt hb hc
  have h1 := fun u => Lib.hid (of_any a ha u)
  have h2 := fun u => Lib.hid (times_any b c hb hc u)
  have h3 := fun u => Lib.hid (plus_num a (b * c) (by omega) u)
  have h4 := fun u => Lib.hid (cap_num (a + b * c) (by omega) u)
  generalize four (dg a) = v1 at *
  generalize four (dg (b * c)) = v2 at *
  generalize four (dg (a + b * c)) = v3 at *
  generalize min (a + b * c) 18446744073709551615 = n at *
  clear ha hb hc hp
  go_enter Tryd.func51, Tryd.ntmps51
  go_wp2_with fail
  refine (h1 _).out.mono ?_
  rintro e w1 ⟨rfl, u1⟩
  go_wp2_with fail
  refine (h2 _).out.mono ?_
  rintro e w2 ⟨rfl, u2⟩
  go_wp2_with fail
  refine (h3 _).out.mono ?_
  rintro e w3 ⟨rfl, u3⟩
  go_wp2_with fail
  refine (h4 _).out.mono ?_
  rintro e w4 ⟨rfl, u4⟩
  go_wp2_with fail
  go_ret
  exact ⟨rfl, ((u1.trans u2 (fun _ _ h => h)).trans u3 (fun _ _ h => h)).trans u4 (fun _ _ h => h)⟩

end Go.Proofs.YtllfloapiliheaaDoor.Sat
