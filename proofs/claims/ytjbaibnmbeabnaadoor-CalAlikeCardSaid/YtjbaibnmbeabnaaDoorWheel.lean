/- wheel: New, spot. -/
import Derived.Test.YtjbaibnmbeabnaaDoorWheelCore
import Derived.Test.YtjbaibnmbeabnaaDoorLen
import Derived.Test.YtjbaibnmbeabnaaDoorClose
import Derived.Laws.Bits64b
namespace Go.Proofs.YtjbaibnmbeabnaaDoor.Wheel
open Go.RowKit Go.Proofs BigFrame Heap
set_option maxHeartbeats 4000000
set_option maxRecDepth 1000000
abbrev TW : TypeId := 98
abbrev TE : TypeId := 101
theorem spot_any (now at' : Nat) (h : now < at') (hb : at' ≤ 18446744073709551615) (w : World) :
    Calls Tryd.prog 85 #[.int .u64 now, .int .u64 at'] w fun e w' => e = .returned (.tuple #[.int .i64 (lvl now at' : Nat), .int .i64 (plc (lvl now at') at' : Nat)]) ∧ ∃ k, w' = w.drewN k := by
  have hx : now ^^^ at' < 18446744073709551616 := Nat.xor_lt_two_pow (n := 64) (by omega) (by omega)
  have HL := fun u => Lib.hid (Bits.len64 ((now ^^^ at' : Nat) : Int) u (by omega) (by omega))
  have ex := bits_xor_u64_nat now at' (by omega) (by omega)
  obtain ⟨h0, h2, h1⟩ := len_bounds h hb
  have hl10 := lvl_lt (now := now) (at' := at') (by omega) hb
  obtain ⟨x, hxx⟩ : ∃ x, now ^^^ at' = x := ⟨_, rfl⟩
  obtain ⟨l, hl⟩ : ∃ l, lvl now at' = l := ⟨_, rfl⟩
  rw [hl] at hl10 ⊢
  unfold lvl at hl
  rw [hxx] at HL ex h0 hl hx
  have hle := Bits.bitLen_le x hx
  have en : (x : Int).toNat = x := Int.toNat_natCast x
  obtain ⟨L, hL⟩ : ∃ L, Lib.bitLen x = L := ⟨_, rfl⟩
  have HLe : ∀ u, Hid (Calls Tryd.prog 107 #[.int .u64 (x : Int)] u fun e w' => e = .returned (.int .i64 (L : Nat)) ∧ u = w') := fun u => Lib.hid (by have h9 := (HL u).out; rw [en, hL] at h9; exact h9)
  rw [hL] at h0 hl hle
  clear HL hL hxx h1 h2
  obtain ⟨L1, hL1⟩ : ∃ L1, L - 1 = L1 := ⟨_, rfl⟩
  rw [hL1] at hl
  have e1 : IntKind.i64.wrap ((L : Int) - 1) = (L1 : Int) := by rw [IntKind.wrap_i64]; omega
  have e2 : (L1 : Int).tdiv 6 = (l : Int) := by rw [Int.tdiv_eq_ediv_of_nonneg (by omega)]; omega
  have e3 : (L1 : Int) / 6 = (l : Int) := by omega
  obtain ⟨s, hs⟩ : ∃ s, 6 * l = s := ⟨_, rfl⟩
  have e4 : IntKind.i64.wrap (6 * (l : Int)) = (s : Int) := by rw [IntKind.wrap_i64]; omega
  have e5 : IntKind.i64.wrap (l : Int) = (l : Int) := by rw [IntKind.wrap_i64]; omega
  obtain ⟨y, hy⟩ : ∃ y, at' / 2 ^ s = y := ⟨_, rfl⟩
  obtain ⟨p, hp, hp64⟩ : ∃ p, y % 64 = p ∧ p < 64 := ⟨_, rfl, by omega⟩
  have e6 : (at' : Int) / 2 ^ s = (y : Int) := by rw [← hy]; push_cast; rfl
  have e7 : (y : Int).tmod 64 = (p : Int) := by rw [Int.tmod_eq_emod_of_nonneg (by omega)]; omega
  have e8 : IntKind.i64.wrap (p : Int) = (p : Int) := by rw [IntKind.wrap_i64]; omega
  have ep : plc l at' = p := by unfold plc; rw [← pow6, hs, hy, hp]
  rw [ep]
  clear hL1 hle hy hp ep
  go_enter Tryd.func85, Tryd.ntmps85
  go_wp2_with fail
  refine ((HLe _).out).mono ?_
  rintro e w' ⟨rfl, rfl⟩
  go_wp2_with fail
  go_quiet (fail)
  go_wp2_with fail
  go_ret2
  exact ⟨rfl, nq, rfl⟩
theorem new_bad (room : Int) (h : room < 1 ∨ 4096 < room) (w : World) :
    Calls Tryd.prog 20 #[.int .i64 room] w fun e w' => e = .returned (.tuple #[.pointer none, .int .i64 25]) ∧ w' = w := by
  by_cases h1 : room < 1
  · have d1 : decide (room < 1) = true := decide_eq_true h1
    clear h
    go_enter Tryd.func20, Tryd.ntmps20
    go_wp2_with fail
    go_ret2
    exact ⟨rfl, rfl⟩
  · have d1 : decide (room < 1) = false := decide_eq_false h1
    have d2 : decide (room > 4096) = true := decide_eq_true (by omega)
    have d3 : decide (4096 < room) = true := decide_eq_true (by omega)
    clear h
    go_enter Tryd.func20, Tryd.ntmps20
    go_wp2_with fail
    go_ret2
    exact ⟨rfl, rfl⟩
/-- A wheel's cells, when it is made. -/
def zv (o : Nat) : Value := if isRow o then .slice none 0 0 else if o < 718 then .int .u64 0 else .int .i64 0
theorem zeros : Tryd.zeroCells98 = ((List.range 720).map zv).toArray := by kernel_rfl
theorem zeros_at {o : Nat} (h : o < 720) : Tryd.zeroCells98[o]? = some (zv o) := by
  rw [zeros, List.getElem?_toArray, List.getElem?_map, List.getElem?_range h]; rfl
theorem zeros_size : Tryd.zeroCells98.size = 720 := by rw [zeros]; simp
theorem new_in (room : Nat) (w : World) : WIn TW TE (fun _ => False) w (w.alloc (.cells (Tryd.zeroCells98.setIfInBounds 719 (.int .i64 room)) TW)) w.heap.size 0 0 room 0 (fun _ => .slice none 0 0) (fun _ => []) (fun _ => 0) := by
  have hne : ∀ i, i < 719 → (Tryd.zeroCells98.setIfInBounds 719 (.int .i64 room))[i]? = some (zv i) := fun i hi => by
    rw [Array.getElem?_setIfInBounds_ne (by omega), zeros_at (by omega)]
  refine ⟨⟨_, Blk.new _ _ _, by rw [Array.size_setIfInBounds]; exact zeros_size, fun l hl => ?_, fun o ho => ?_, ?_, ?_, ?_, ?_⟩, fun o _ => ownsRow_nil _ _ _ _, fun o o' _ _ _ k hk => by simp [Value.ownBlock] at hk, fun o _ hk => by simp [Value.ownBlock] at hk, fun k hk => ⟨?_, id⟩⟩
  · rw [hne _ (by omega)]; unfold zv; rw [if_neg (by unfold isRow; omega), if_pos (by omega)]; rfl
  · have ho2 := ho
    unfold isRow at ho2
    rw [hne _ (by omega)]; unfold zv; rw [if_pos ho]
  · rw [hne _ (by omega)]; rfl
  · rw [hne _ (by omega)]; rfl
  · rw [hne _ (by omega)]; rfl
  · exact Array.getElem?_setIfInBounds_self_of_lt (by rw [zeros_size]; omega)
  · rcases hk with rfl | ⟨o, _, hk⟩
    · exact Nat.le_refl _
    · simp [Value.ownBlock] at hk
theorem new_good (room : Nat) (h1 : 1 ≤ room) (h2 : room ≤ 4096) (w : World) :
    Calls Tryd.prog 20 #[.int .i64 room] w fun e w' => e = .returned (.tuple #[.pointer (some ⟨w.heap.size, 0, none⟩), .int .i64 0]) ∧ WIn TW TE (fun _ => False) w w' w.heap.size 0 0 room 0 (fun _ => .slice none 0 0) (fun _ => []) (fun _ => 0) ∧ Upd Nowhere w w' := by
  have d1 : decide ((room : Int) < 1) = false := decide_eq_false (by omega)
  have d2 : decide ((room : Int) > 4096) = false := decide_eq_false (by omega)
  have d3 : decide (4096 < (room : Int)) = false := decide_eq_false (by omega)
  have d4 : decide (4096 < room) = false := decide_eq_false (by omega)
  go_enter Tryd.func20, Tryd.ntmps20
  go_wp2_with fail
  go_ret2
  exact ⟨rfl, new_in room w, (Upd.refl _ _).alloc _⟩
end Go.Proofs.YtjbaibnmbeabnaaDoor.Wheel
