/- same: are items those of the document's row (they are). -/
import Derived.Test.YtjbaibnmbeabnaaGreatDoorProg
import Derived.Test.YtjbaibnmbeabnaaGreatDoorPcs
import Derived.Test.YtjbaibnmbeabnaaGreatDoorMix
import Derived.Test.YtjbaibnmbeabnaaGreatDoorCells
import Derived.Lib.Hide
namespace Go.Proofs.YtjbaibnmbeabnaaGreatDoor.Same11
open Go.RowKit Go.Proofs BigFrame
set_option maxHeartbeats 1000000
theorem same_eq {w : World} {va vb : Value} {ba bb : Nat} {l : List (Nat × Int)} (ha : PRow 73 ba w va l) (hb : PRow 62 bb w vb l) (hl : l.length ≤ 1000000) :
    Calls Tryz.prog 14 #[va, vb] w fun e w' => e = .returned (.bool true) ∧ Upd Nowhere w w' := by
  obtain ⟨ada, ca, rfl⟩ := ha.form
  obtain ⟨adb, cb, rfl⟩ := hb.form
  obtain ⟨n, hn⟩ : ∃ n, l.length = n := ⟨_, rfl⟩
  have HA := Lib.hid ha
  have HB := Lib.hid hb
  have HN := Lib.hid hn
  have hd : ((n : Int) != n) = false := by simp
  rw [hn] at hl ⊢
  clear ha hb hn
  go_enter Tryz.func14, Tryz.ntmps14
  go_wp2_with fail
  go_loopw [13] (fun i wr => ∃ k : Nat, k ≤ n ∧ i = .int .i64 k ∧ ∃ q, wr = w.drewN q) (fun i _ => n - (intOf i).toNat)
  case atStart => exact ⟨0, by omega, rfl, 0, rfl⟩
  case round =>
    obtain ⟨k, hk, rfl, q, rfl⟩ := hrel
    by_cases hlt : k < n
    · have hI : (k : Int) < n := by omega
      obtain ⟨a, ha⟩ : ∃ a, l[k]? = some a := ⟨l[k]'(by rw [HN.out]; exact hlt), by simp⟩
      obtain ⟨ga, c1, e1, _, a0, a1⟩ := HA.out.cell ha
      obtain ⟨gb, c2, e2, _, b0, b1⟩ := HB.out.cell ha
      rw [HN.out] at e1 e2
      injection e1 with e1 e11 e12
      injection e2 with e2 e21 e22
      subst e1 e2 e12 e22
      clear e11 e21
      obtain ⟨x0, x1⟩ := a
      have d0 : ((x0 : Int) != x0) = false := by simp
      have d1 : (x1 != x1) = false := by simp
      clear ha
      go_wp2_with fail
      go_quiet (fail)
      go_wp2_with fail
      go_roundw
      case rel => exact ⟨k + 1, by omega, by go_num, q + nq, rfl⟩
      case measure => simp [intOf]; omega
    · obtain rfl : k = n := by omega
      go_wp2_with fail
      go_ret
      exact ⟨rfl, (Upd.refl _ _).drewN q⟩
end Go.Proofs.YtjbaibnmbeabnaaGreatDoor.Same11
