/- RingPlays: the law. -/
import Derived.Test.YtcjneckhaempkaaRingPlays
import Derived.Test.YtcjneckhaempkaaOpen
namespace Go.Proofs.Ytcjneckhaempkaa.RingOrder
open Go.RowKit Go.Proofs BigFrame
open Ref06 (ints ints_len ints_at NewRow)
open RingI (TR TE)
set_option maxHeartbeats 2000000
set_option maxRecDepth 100000
theorem plays_big (room : Nat) (h1 : 1 ≤ room) (h2 : room ≤ 65536) (ad : Option Addr) (ca n : Nat) (hl : 200 < n) (w : World) :
    Calls Try.prog 5 #[.int .i64 room, .slice ad n ca] w fun e w' => e = .returned (.bool true) ∧ Upd Nowhere w w' := by
  have t0 : decide ((n : Int) > 200) = true := decide_eq_true (by omega)
  have t1 : decide (200 < (n : Int)) = true := decide_eq_true (by omega)
  have t2 : decide ((room : Int) ≥ 1) = true := decide_eq_true (by omega)
  have t3 : decide ((room : Int) ≤ 65536) = true := decide_eq_true (by omega)
  have t4 : decide (1 ≤ (room : Int)) = true := decide_eq_true (by omega)
  have Hnew := Lib.hid (RingI.new_ok w room h1 h2)
  clear hl h1 h2
  go_enter Try.func5, Try.ntmps5
  go_wp2_with (first | (go_at_call 8; refine Hnew.out.mono ?_; rintro e w1 ⟨rfl, hr, hu⟩; have U1 := Lib.hid hu; clear hr hu) | (go_at_call 7; refine (ring_lives _).mono ?_; rintro e w' ⟨rfl, hu⟩))
  go_ret
  exact ⟨rfl, U1.out.trans hu (fun _ _ h => h)⟩
theorem plays_no (room : Int) (h : room < 1 ∨ 65536 < room) (ad : Option Addr) (ca n : Nat) (w : World) :
    Calls Try.prog 5 #[.int .i64 room, .slice ad n ca] w fun e w' => e = .returned (.bool true) ∧ Upd Nowhere w w' := by
  have Hnew := Lib.hid (RingI.new_no w room h)
  rcases h with h | h
  · have t2 : decide (room ≥ 1) = false := decide_eq_false (by omega)
    have t4 : decide (1 ≤ room) = false := decide_eq_false (by omega)
    clear h
    go_enter Try.func5, Try.ntmps5
    go_wp2_with (first | (go_at_call 8; refine Hnew.out.mono ?_; rintro e w1 ⟨rfl, rfl⟩) | (go_at_call 7; refine (ring_lives _).mono ?_; rintro e w' ⟨rfl, hu⟩))
    go_ret
    exact ⟨rfl, hu⟩
  · have t2 : decide (room ≥ 1) = true := decide_eq_true (by omega)
    have t3 : decide (room ≤ 65536) = false := decide_eq_false (by omega)
    have t4 : decide (1 ≤ room) = true := decide_eq_true (by omega)
    clear h
    go_enter Try.func5, Try.ntmps5
    go_wp2_with (first | (go_at_call 8; refine Hnew.out.mono ?_; rintro e w1 ⟨rfl, rfl⟩) | (go_at_call 7; refine (ring_lives _).mono ?_; rintro e w' ⟨rfl, hu⟩))
    go_ret
    exact ⟨rfl, hu⟩
theorem plays_law (room : Int) (v : Value) (l : List (Nat × Int)) (hb : ∀ a ∈ l, a.1 ≤ 255 ∧ -9223372036854775808 ≤ a.2 ∧ a.2 ≤ 9223372036854775807) (w : World) (hv : RowsAt w v l.length (l.flatMap act)) :
    Calls Try.prog 5 #[.int .i64 room, v] w fun e w' => e = .returned (.bool true) ∧ Upd Nowhere w w' := by
  obtain ⟨ad, ca, rfl, h0, _, hca, hc⟩ := hv
  by_cases h : room < 1 ∨ 65536 < room
  · exact plays_no room h ad ca _ w
  · obtain ⟨r, rfl⟩ : ∃ r : Nat, room = r := ⟨room.toNat, by omega⟩
    rcases Nat.lt_or_ge 200 l.length with hbig | hsm
    · exact plays_big r (by omega) (by omega) ad ca _ hbig w
    · exact plays_ok r (by omega) (by omega) ad ca l hsm (fun i a h => hb a (List.mem_of_getElem? h)) w (fun h => (h0 h).1) hc
end Go.Proofs.Ytcjneckhaempkaa.RingOrder
