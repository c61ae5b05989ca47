/- SpKeeps: the law. -/
import Derived.Test.YtopibbaopglggaaSpKeeps
namespace Go.Proofs.Ytopibbaopglggaa.Sp
open Go.RowKit Go.Proofs BigFrame
set_option maxHeartbeats 2000000
set_option maxRecDepth 100000
theorem keeps_big (N n : Nat) (ad : Option Addr) (ca : Nat) (h : 300 < n) (w : World) :
    Calls Try.prog 4 #[.int .u8 N, .slice ad n ca] w fun e w' => e = .returned (.bool true) ∧ Upd Nowhere w w' := by
  have HL := fun u => Lib.hid (lives u)
  have t0 : decide ((n : Int) > 300) = true := decide_eq_true (by omega)
  have t1 : decide (300 < (n : Int)) = true := decide_eq_true (by omega)
  clear h
  go_enter Try.func4, Try.ntmps4
  go_wp2_with fail
  refine ((HL _).out).mono ?_
  rintro e w1 ⟨rfl, u1⟩
  go_wp2_with fail
  go_ret
  exact ⟨rfl, u1⟩
theorem keeps_law (N : Nat) (hN : N ≤ 255) (v : Value) (l : List Int) (w : World) (ha : RowAt w v (l.map (.int .u64))) (hw : ∀ n ∈ l, (Lit.int .u64 n).wf = true) :
    Calls Try.prog 4 #[.int .u8 N, v] w fun e w' => e = .returned (.bool true) ∧ Upd Nowhere w w' := by
  obtain ⟨ad, ca, rfl, h0, hc⟩ := ha
  have hlen : (l.map (Value.int .u64)).length = l.length := by simp
  rw [hlen]
  rcases Nat.lt_or_ge 300 l.length with hbig | hsm
  · exact keeps_big N _ ad ca hbig w
  · exact keeps_walk N hN ad ca l hsm (fun x hx => bd64 (hw x hx)) w h0 hc
end Go.Proofs.Ytopibbaopglggaa.Sp
