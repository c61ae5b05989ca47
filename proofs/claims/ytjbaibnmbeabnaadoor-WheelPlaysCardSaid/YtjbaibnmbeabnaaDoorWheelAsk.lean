/- wheel: Len, Now, least, Next. -/
import Derived.Test.YtjbaibnmbeabnaaDoorWheelLay
import Derived.Test.YtjbaibnmbeabnaaDoorWheelState
import Derived.Test.YtjbaibnmbeabnaaDoorWheelPass
import Derived.Deep.RegionHeld3
namespace Go.Proofs.YtjbaibnmbeabnaaDoor.Wheel
open Go.RowKit Go.Proofs BigFrame Heap
set_option maxHeartbeats 4000000
set_option maxRecDepth 1000000
theorem len_nil (w : World) : Calls Tryd.prog 24 #[.pointer none] w fun e w' => e = .returned (.int .i64 0) ∧ w = w' := by
  go_enter Tryd.func24, Tryd.ntmps24
  go_wp2_with fail
  go_ret
  exact ⟨rfl, rfl⟩
theorem now_nil (w : World) : Calls Tryd.prog 30 #[.pointer none] w fun e w' => e = .returned (.int .u64 0) ∧ w = w' := by
  go_enter Tryd.func30, Tryd.ntmps30
  go_wp2_with fail
  go_ret
  exact ⟨rfl, rfl⟩
theorem next_nil (w : World) : Calls Tryd.prog 28 #[.pointer none] w fun e w' => e = .returned (.tuple #[.int .u64 0, .bool false]) ∧ w = w' := by
  have HL := Lib.hid (len_nil w)
  go_enter Tryd.func28, Tryd.ntmps28
  go_wp2_with fail
  refine (HL.out).mono ?_
  rintro e w' ⟨rfl, rfl⟩
  go_wp2_with fail
  go_ret2
  exact ⟨rfl, rfl⟩
theorem due_nil (now : Nat) (w : World) : Calls Tryd.prog 22 #[.pointer none, .int .u64 now] w fun e w' => e = .returned (.slice none 0 0) ∧ w = w' := by
  go_enter Tryd.func22, Tryd.ntmps22
  go_wp2_with fail
  go_ret
  exact ⟨rfl, rfl⟩
theorem add_nil (at' : Nat) (x : Int) (w : World) : Calls Tryd.prog 21 #[.pointer none, .int .u64 at', .int .i64 x] w fun e w' => e = .returned (.bool false) ∧ ∃ k, w' = w.drewN k := by
  go_enter Tryd.func21, Tryd.ntmps21
  go_wp2_with fail
  go_quiet (fail)
  go_wp2_with fail
  go_ret
  exact ⟨rfl, nq, rfl⟩
section
variable {A : Nat → Prop} {w0 w : World} {b now came room n : Nat} {vs : Nat → Value} {qs : Nat → List En} {us : Nat → Nat}
theorem len_any (h : WIn TW TE A w0 w b now came room n vs qs us) : Calls Tryd.prog 24 #[.pointer (some ⟨b, 0, none⟩)] w fun e w' => e = .returned (.int .i64 n) ∧ w = w' := by
  obtain ⟨_, _, c2, _, _⟩ := h.at_nums
  go_enter Tryd.func24, Tryd.ntmps24
  go_wp2_with fail
  go_ret
  exact ⟨rfl, rfl⟩
theorem now_any (h : WIn TW TE A w0 w b now came room n vs qs us) : Calls Tryd.prog 30 #[.pointer (some ⟨b, 0, none⟩)] w fun e w' => e = .returned (.int .u64 now) ∧ w = w' := by
  obtain ⟨c0, _, _, _, _⟩ := h.at_nums
  go_enter Tryd.func30, Tryd.ntmps30
  go_wp2_with fail
  go_ret
  exact ⟨rfl, rfl⟩
end
theorem row_at3 {w : World} {l : List En} {v : Value} (h : w.ownsRow 0 TE 3 v l.length (es l)) {j : Nat} {e : En} (he : l[j]? = some e) : ∃ g c, v = .slice (some ⟨g, 0, none⟩) l.length c ∧ w.cell? ⟨g, j * 3, none⟩ = some (.int .u64 (e.1 : Nat)) ∧ w.cell? ⟨g, j * 3 + 1, none⟩ = some (.int .u64 (e.2.1 : Nat)) ∧ w.cell? ⟨g, j * 3 + 2, none⟩ = some (.int .i64 e.2.2) := by
  have hj := get_lt he
  rcases id h.2 with ⟨_, h0⟩ | ⟨g, c, cur, rfl, _⟩
  · omega
  · obtain ⟨e0, e1, e2⟩ := ents_at (K := Value.int .i64) l j e he
    have hc := h.cells (g := g) rfl
    have hadd : ∀ j, (⟨g, 0, none⟩ : Addr).add j = ⟨g, j, none⟩ := fun j => by rw [add_at]; simp
    refine ⟨g, c, rfl, ?_, ?_, ?_⟩
    · have h9 := hc _ _ e0; rw [hadd] at h9; exact h9
    · have h9 := hc _ _ e1; rw [hadd] at h9; exact h9
    · have h9 := hc _ _ e2; rw [hadd] at h9; exact h9
theorem least_any {v : Value} {l : List En} (w : World) (h : w.ownsRow 0 TE 3 v l.length (es l)) (hlen : l.length ≤ 999999) (hb : ∀ e ∈ l, e.1 ≤ 18446744073709551615) :
    Calls Tryd.prog 57 #[v] w fun e w' => e = .returned (.tuple #[.int .u64 (leastOf l : Nat), .bool (decide (0 < l.length))]) ∧ Upd Nowhere w w' := by
  obtain ⟨n, hn⟩ : ∃ n, l.length = n := ⟨_, rfl⟩
  obtain ⟨ad, c, rfl⟩ := form0 h
  obtain ⟨r, hr⟩ : ∃ r, leastOf l = r := ⟨_, rfl⟩
  rw [hr]
  have H := Lib.hid h
  rw [hn] at H hlen ⊢
  have HN := Lib.hid hn
  have HR := Lib.hid hr
  have HB := Lib.hid hb
  obtain ⟨bo, hbo⟩ : ∃ x, decide (0 < n) = x := ⟨_, rfl⟩
  rw [hbo]
  have hbo2 : decide ((n : Int) > 0) = bo := by rw [← hbo]; simp
  clear h hr hn hb
  go_enter Tryd.func57, Tryd.ntmps57
  go_wp2_with fail
  go_loopw [4, 9] (fun mv i wr => ∃ (k m : Nat), k ≤ n ∧ i = .int .i64 k ∧ mv = .int .u64 m ∧ (l.take k).foldl (fun m e => min m e.1) 18446744073709551615 = m ∧ Upd Nowhere w wr) (fun _ i _ => n - (intOf i).toNat)
  case atStart => exact ⟨0, _, by omega, rfl, rfl, rfl, Upd.refl _ _⟩
  case round =>
    obtain ⟨k, m, hk, rfl, rfl, hm, hu⟩ := hrel
    obtain ⟨wB, rfl⟩ : ∃ x, x = wr := ⟨_, rfl⟩
    by_cases hlt : k < n
    · have hI : (k : Int) < n := by omega
      obtain ⟨e, he⟩ : ∃ e, l[k]? = some e := ⟨l[k]'(by rw [HN.out]; exact hlt), by simp⟩
      have hrow : w.ownsRow 0 TE 3 (.slice ad n c) l.length (es l) := by have h9 := H.out; rw [HN.out]; exact h9
      obtain ⟨g, c', hv, k0, k1, k2⟩ := row_at3 hrow he
      obtain ⟨ead, _⟩ : ad = some ⟨g, 0, none⟩ ∧ c = c' := by injection hv with a b c; exact ⟨a, c⟩
      subst ead
      have htk : l.take (k + 1) = l.take k ++ [e] := by rw [List.take_add_one, he]; rfl
      have hmin : (l.take (k + 1)).foldl (fun m e => min m e.1) 18446744073709551615 = min m e.1 := by rw [htk, List.foldl_append, hm]; rfl
      obtain ⟨m2, hm2⟩ : ∃ x, min m e.1 = x := ⟨_, rfl⟩
      rw [hm2] at hmin
      have em : (if e.1 < m then (e.1 : Int) else (m : Int)) = (m2 : Int) := by rw [← hm2]; split <;> omega
      have j0 := cell_old hu k0
      have j1 := cell_old hu k1
      have j2 := cell_old hu k2
      have HMIN := Lib.hid hmin
      have HU := Lib.hid hu
      clear hrow hv k0 k1 k2 htk hmin hm2 hm he hu
      go_wp2_with fail
      go_roundw
      case rel => exact ⟨k + 1, m2, by omega, by go_num, rfl, HMIN.out, HU.out.alloc _⟩
      case measure => simp [intOf]; omega
    · have hI : ¬ (k : Int) < n := by omega
      obtain rfl : k = n := by omega
      have e1 : (l.take k) = l := List.take_of_length_le (by rw [HN.out]; exact Nat.le_refl _)
      rw [e1] at hm
      have hmr : m = r := by rw [← hm]; exact HR.out
      subst hmr
      have HU := Lib.hid hu
      clear hm hu e1
      go_wp2_with fail
      go_ret2
      exact ⟨rfl, HU.out⟩
end Go.Proofs.YtjbaibnmbeabnaaDoor.Wheel
