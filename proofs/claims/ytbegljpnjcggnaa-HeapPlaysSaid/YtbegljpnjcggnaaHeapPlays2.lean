/- HeapPlays: the law. -/
import Derived.Test.YtbegljpnjcggnaaHeapPlays
import Derived.Test.YtbegljpnjcggnaaOpen
namespace Go.Proofs.Ytbegljpnjcggnaa.HeapI
open Go.RowKit Go.Proofs BigFrame Heap
set_option maxHeartbeats 1000000
set_option maxRecDepth 1000000
theorem plays_big (room : Nat) (h1 : 1 ≤ room) (h2 : room ≤ 4096) (ad : Option Addr) (ca n : Nat) (hl : 200 < n) (w : World) :
    Calls Try.prog 4 #[.int .i64 room, .slice ad n ca] w fun e w' => e = .returned (.bool true) ∧ Upd Nowhere w w' := by
  have t0 : decide ((n : Int) > 200) = true := decide_eq_true (by omega)
  have t1 : decide (200 < (n : Int)) = true := decide_eq_true (by omega)
  have t2 : decide (200 < n) = true := decide_eq_true hl
  have Hnew := Lib.hid (new_ok room w h1 h2)
  have Hmay := fun u => Lib.hid (Ref09.may_any (room : Int) u)
  have hmay : Ref09.mayB (room : Int) = true := by unfold Ref09.mayB; simp; omega
  rw [hmay] at Hmay
  clear hl h1 h2 hmay
  go_enter Try.func4, Try.ntmps4
  go_wp2_with fail
  refine (Hnew.out).mono ?_
  rintro e w1 ⟨rfl, -, u1⟩
  go_wp2_with fail
  refine ((Hmay _).out).mono ?_
  rintro e w2 ⟨rfl, rfl⟩
  go_wp2_with fail
  refine ((HeapS.lives _)).mono ?_
  rintro e w3 ⟨rfl, u3⟩
  go_wp2_with fail
  go_ret
  exact ⟨rfl, u1.trans u3 (fun _ _ h => h)⟩
theorem plays_no (room : Int) (h : room < 1 ∨ 4096 < room) (ad : Option Addr) (ca n : Nat) (w : World) :
    Calls Try.prog 4 #[.int .i64 room, .slice ad n ca] w fun e w' => e = .returned (.bool true) ∧ Upd Nowhere w w' := by
  have Hnew := Lib.hid (new_bad room w h)
  have Hmay := fun u => Lib.hid (Ref09.may_any room u)
  have hmay : Ref09.mayB room = false := by unfold Ref09.mayB; simp; omega
  rw [hmay] at Hmay
  clear h hmay
  go_enter Try.func4, Try.ntmps4
  go_wp2_with fail
  refine (Hnew.out).mono ?_
  rintro e w1 ⟨rfl, rfl⟩
  go_wp2_with fail
  refine ((Hmay _).out).mono ?_
  rintro e w2 ⟨rfl, rfl⟩
  go_wp2_with fail
  refine ((HeapS.lives _)).mono ?_
  rintro e w3 ⟨rfl, u3⟩
  go_wp2_with fail
  go_ret
  exact ⟨rfl, u3⟩
theorem plays_law (room : Int) (v : Value) (l : List (Nat × Nat × Int)) (hb : ∀ a ∈ l, a.1 ≤ 255) (w : World) (hv : RowsAt w v l.length (l.flatMap act)) :
    Calls Try.prog 4 #[.int .i64 room, v] w fun e w' => e = .returned (.bool true) ∧ Upd Nowhere w w' := by
  obtain ⟨ad, ca, rfl, h0, _, hca, hc⟩ := hv
  by_cases h : room < 1 ∨ 4096 < room
  · exact plays_no room h ad ca _ w
  · obtain ⟨r, rfl⟩ : ∃ r : Nat, room = r := ⟨room.toNat, by omega⟩
    rcases Nat.lt_or_ge 200 l.length with hbig | hsm
    · exact plays_big r (by omega) (by omega) ad ca _ hbig w
    · exact plays_ok r (by omega) (by omega) ad ca l hsm (fun i a h => hb a (List.mem_of_getElem? h)) w (fun h => (h0 h).1) hc
end Go.Proofs.Ytbegljpnjcggnaa.HeapI
