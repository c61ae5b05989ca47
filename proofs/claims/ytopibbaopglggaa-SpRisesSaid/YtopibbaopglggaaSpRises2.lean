/- SpRises: the law. -/
import Derived.Test.YtopibbaopglggaaSpRises
import Derived.Test.YtopibbaopglggaaOpen
namespace Go.Proofs.Ytopibbaopglggaa.Sp
open Go.RowKit Go.Proofs BigFrame
set_option maxHeartbeats 2000000
set_option maxRecDepth 100000
theorem rises_big (N n : Nat) (ad : Option Addr) (ca : Nat) (o : Bool) (h : 300 < n) (w : World) :
    Calls Try.prog 3 #[.int .u8 N, .slice ad n ca, .bool o] w fun e w' => e = .returned (.bool true) ∧ Upd Nowhere w w' := by
  have HL := fun u => Lib.hid (lives u)
  have t0 : decide ((n : Int) > 300) = true := decide_eq_true (by omega)
  have t1 : decide (300 < (n : Int)) = true := decide_eq_true (by omega)
  clear h
  go_enter Try.func3, Try.ntmps3
  go_wp2_with fail
  refine ((HL _).out).mono ?_
  rintro e w1 ⟨rfl, u1⟩
  go_wp2_with fail
  go_ret
  exact ⟨rfl, u1⟩
theorem rises_law (N : Nat) (hN : N ≤ 255) (v : Value) (l : List (Nat × Bool)) (hb : ∀ a ∈ l, a.1 ≤ 4294967295) (o : Bool) (w : World) (hv : RowsAt w v l.length (l.flatMap rise)) :
    Calls Try.prog 3 #[.int .u8 N, v, .bool o] w fun e w' => e = .returned (.bool true) ∧ Upd Nowhere w w' := by
  obtain ⟨ad, ca, rfl, h0, _, hca, hc⟩ := hv
  rcases Nat.lt_or_ge 300 l.length with hbig | hsm
  · exact rises_big N _ ad ca o hbig w
  · cases o with
    | true => exact rises_one N hN ad ca l hsm (fun i a h => hb a (List.mem_of_getElem? h)) w (fun h => (h0 h).1) hc
    | false => exact rises_more N hN ad ca l hsm (fun i a h => hb a (List.mem_of_getElem? h)) w (fun h => (h0 h).1) hc
end Go.Proofs.Ytopibbaopglggaa.Sp
