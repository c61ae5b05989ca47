/- BucketConforms: the law. -/
import Derived.Test.YtgmiggnlhcldlaaConf
import Derived.Test.YtgmiggnlhcldlaaOpen
namespace Go.Proofs.Ytgmiggnlhcldlaa.Bucket
open Go.RowKit Go.Proofs BigFrame
open Wide (Gives)
set_option maxHeartbeats 2000000
set_option maxRecDepth 100000
theorem conf_no (r b : Nat) (ad : Option Addr) (ca n : Nat) (hc : chk r b b ≠ 0) (w : World) :
    Calls Try.prog 4 #[.int .u64 r, .int .u64 b, .slice ad n ca] w fun e w' => e = .returned (.bool true) ∧ Upd Nowhere w w' := by
  have HN := fun u => Lib.hid (new_no r b hc u)
  have HL := fun u => Lib.hid (lives u)
  obtain ⟨c, hcc⟩ : ∃ c, chk r b b = c := ⟨_, rfl⟩
  rw [hcc] at HN hc
  have t0 : ((c : Int) != 0) = true := by simp; omega
  have t1 : ((c : Int) == 0) = false := by simp; omega
  clear hc hcc
  go_enter Try.func4, Try.ntmps4
  go_wp2_with fail
  refine ((HN _).out).mono ?_
  rintro e w1 ⟨rfl, u1⟩
  go_wp2_with fail
  refine ((HL _).out).mono ?_
  rintro e w2 ⟨rfl, u2⟩
  go_wp2_with fail
  go_ret
  exact ⟨rfl, (u1.alloc _).trans u2 (fun _ _ h => h)⟩
theorem conf_big (r b : Nat) (ad : Option Addr) (ca n : Nat) (hc : chk r b b = 0) (hn : 60 < n) (w : World) :
    Calls Try.prog 4 #[.int .u64 r, .int .u64 b, .slice ad n ca] w fun e w' => e = .returned (.bool true) ∧ Upd Nowhere w w' := by
  have HN := fun u => Lib.hid (new_ok r b hc u)
  have HL := fun u => Lib.hid (lives u)
  have t0 : decide ((n : Int) > 60) = true := decide_eq_true (by omega)
  have t1 : decide (60 < (n : Int)) = true := decide_eq_true (by omega)
  clear hc hn
  go_enter Try.func4, Try.ntmps4
  go_wp2_with fail
  refine ((HN _).out).mono ?_
  rintro e w1 ⟨rfl, u1⟩
  go_wp2_with fail
  refine ((HL _).out).mono ?_
  rintro e w2 ⟨rfl, u2⟩
  go_wp2_with fail
  go_ret
  exact ⟨rfl, (u1.alloc _).trans u2 (fun _ _ h => h)⟩
theorem conf_law (r b : Nat) (v : Value) (l : List (Nat × Nat)) (hr : r ≤ 18446744073709551615) (hb : b ≤ 18446744073709551615) (hbl : ∀ a ∈ l, a.1 ≤ 18446744073709551615 ∧ a.2 ≤ 18446744073709551615) (w : World) (hv : RowsAt w v l.length (l.flatMap act)) :
    Calls Try.prog 4 #[.int .u64 r, .int .u64 b, v] w fun e w' => e = .returned (.bool true) ∧ Upd Nowhere w w' := by
  obtain ⟨ad, ca, rfl, h0, _, hca, hc⟩ := hv
  by_cases h : chk r b b = 0
  · rcases Nat.lt_or_ge 60 l.length with hbig | hsm
    · exact conf_big r b ad ca _ h hbig w
    · exact first_loop r b ad ca l hr hb h hsm (fun i a hh => hbl a (List.mem_of_getElem? hh)) w (fun h => (h0 h).1) hc
  · exact conf_no r b ad ca _ h w
end Go.Proofs.Ytgmiggnlhcldlaa.Bucket
