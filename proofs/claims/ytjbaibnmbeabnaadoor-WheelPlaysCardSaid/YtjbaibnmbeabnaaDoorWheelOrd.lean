/- wheel: order, as slices.SortFunc asks for it. -/
import Derived.Test.YtjbaibnmbeabnaaDoorWheelLay
import Derived.Sort.Grow
import Derived.Deep.RegionHeld3
namespace Go.Proofs.YtjbaibnmbeabnaaDoor.Wheel
open Go.RowKit Go.Proofs BigFrame Heap Go.Sort
set_option maxHeartbeats 4000000
set_option maxRecDepth 1000000
/-- How two numbers stand. -/
def c3 (x y : Nat) : Int := if x < y then -1 else if y < x then 1 else 0
theorem nan_any (x : Nat) (w : World) : Calls Tryd.prog 117 #[.int .u64 x] w fun e w' => e = .returned (.bool false) ∧ w = w' := by
  have n1 : ((x : Int) != x) = false := by simp
  go_enter Tryd.func117, Tryd.ntmps117
  go_wp2_with fail
  go_ret
  exact ⟨rfl, rfl⟩
theorem cmp_any (x y : Nat) (w : World) : Calls Tryd.prog 90 #[.int .u64 x, .int .u64 y] w fun e w' => e = .returned (.int .i64 (c3 x y)) ∧ w = w' := by
  have HN := fun (x : Nat) u => Lib.hid (nan_any x u)
  rcases Nat.lt_trichotomy x y with h | h | h
  · have d1 : decide (x < y) = true := decide_eq_true h
    have e : c3 x y = -1 := by unfold c3; rw [if_pos h]
    rw [e]
    go_enter Tryd.func90, Tryd.ntmps90
    go_wp2_with fail
    refine ((HN _ _).out).mono ?_
    rintro e w' ⟨rfl, rfl⟩
    go_wp2_with fail
    refine ((HN _ _).out).mono ?_
    rintro e w' ⟨rfl, rfl⟩
    go_wp2_with fail
    go_ret
    exact ⟨rfl, rfl⟩
  · subst h
    have d1 : decide (x < x) = false := decide_eq_false (Nat.lt_irrefl x)
    have e : c3 x x = 0 := by unfold c3; rw [if_neg (Nat.lt_irrefl x), if_neg (Nat.lt_irrefl x)]
    rw [e]
    go_enter Tryd.func90, Tryd.ntmps90
    go_wp2_with fail
    refine ((HN _ _).out).mono ?_
    rintro e w' ⟨rfl, rfl⟩
    go_wp2_with fail
    refine ((HN _ _).out).mono ?_
    rintro e w' ⟨rfl, rfl⟩
    go_wp2_with fail
    go_ret
    exact ⟨rfl, rfl⟩
  · have d1 : decide (x < y) = false := decide_eq_false (by omega)
    have d2 : decide (y < x) = true := decide_eq_true h
    have e : c3 x y = 1 := by unfold c3; rw [if_neg (by omega), if_pos h]
    rw [e]
    go_enter Tryd.func90, Tryd.ntmps90
    go_wp2_with fail
    refine ((HN _ _).out).mono ?_
    rintro e w' ⟨rfl, rfl⟩
    go_wp2_with fail
    refine ((HN _ _).out).mono ?_
    rintro e w' ⟨rfl, rfl⟩
    go_wp2_with fail
    go_ret
    exact ⟨rfl, rfl⟩
theorem or_any (g : Nat) (a b : Int) (c : Nat) (w : World) (h0 : w.cell? ⟨g, 0, none⟩ = some (.int .i64 a)) (h1 : w.cell? ⟨g, 1, none⟩ = some (.int .i64 b)) :
    Calls Tryd.prog 89 #[.slice (some ⟨g, 0, none⟩) 2 c] w fun e w' => e = .returned (.int .i64 (if a ≠ 0 then a else b)) ∧ w = w' := by
  by_cases ha : a = 0
  · subst ha
    rw [if_neg (by simp)]
    by_cases hb : b = 0
    · subst hb
      go_enter Tryd.func89, Tryd.ntmps89
      go_wp2_with fail
      go_loopw [8] (fun i wr => ∃ (k : Nat), k ≤ 2 ∧ i = .int .i64 k ∧ wr = w) (fun i _ => 2 - (intOf i).toNat)
      case atStart => exact ⟨0, by omega, rfl, rfl⟩
      case round =>
        obtain ⟨k, hk, rfl, rfl⟩ := hrel
        obtain rfl | rfl | rfl : k = 0 ∨ k = 1 ∨ k = 2 := by omega
        · go_wp2_with fail
          go_roundw
          case rel => exact ⟨1, by omega, by go_num, (by first | trivial | rfl)⟩
          case measure => simp [intOf]
        · go_wp2_with fail
          go_roundw
          case rel => exact ⟨2, by omega, by go_num, (by first | trivial | rfl)⟩
          case measure => simp [intOf]
        · go_wp2_with fail
          go_ret
          exact ⟨rfl, rfl⟩
    · have n1 : (b != 0) = true := by simpa using hb
      go_enter Tryd.func89, Tryd.ntmps89
      go_wp2_with fail
      go_loopw [8] (fun i wr => ∃ (k : Nat), k ≤ 1 ∧ i = .int .i64 k ∧ wr = w) (fun i _ => 2 - (intOf i).toNat)
      case atStart => exact ⟨0, by omega, rfl, rfl⟩
      case round =>
        obtain ⟨k, hk, rfl, rfl⟩ := hrel
        obtain rfl | rfl : k = 0 ∨ k = 1 := by omega
        · go_wp2_with fail
          go_roundw
          case rel => exact ⟨1, by omega, by go_num, (by first | trivial | rfl)⟩
          case measure => simp [intOf]
        · go_wp2_with fail
          go_ret
          exact ⟨rfl, rfl⟩
  · rw [if_pos ha]
    have n1 : (a != 0) = true := by simpa using ha
    go_enter Tryd.func89, Tryd.ntmps89
    go_wp2_with fail
    go_loopw [8] (fun i wr => i = .int .i64 0 ∧ wr = w) (fun i _ => 2 - (intOf i).toNat)
    case atStart => exact ⟨rfl, rfl⟩
    case round =>
      obtain ⟨rfl, rfl⟩ := hrel
      go_wp2_with fail
      go_ret
      exact ⟨rfl, rfl⟩
theorem or_eq {g : Nat} {a b r : Int} {c : Nat} {w : World} (hr : (if a ≠ 0 then a else b) = r) (h0 : w.cell? ⟨g, 0, none⟩ = some (.int .i64 a)) (h1 : w.cell? ⟨g, 1, none⟩ = some (.int .i64 b)) :
    Calls Tryd.prog 89 #[.slice (some ⟨g, 0, none⟩) 2 c] w fun e w' => e = .returned (.int .i64 r) ∧ w = w' := by rw [← hr]; exact or_any g a b c w h0 h1
/-- What order tells. -/
def cw (x y : En) : Int := if c3 x.1 y.1 ≠ 0 then c3 x.1 y.1 else c3 x.2.1 y.2.1
theorem keep4 {w w' : World} {a0 a1 a2 a3 : Addr} {v0 v1 v2 v3 : Value} (y : Upd Nowhere w w') (h : w.cell? a0 = some v0 ∧ w.cell? a1 = some v1 ∧ w.cell? a2 = some v2 ∧ w.cell? a3 = some v3) : w'.cell? a0 = some v0 ∧ w'.cell? a1 = some v1 ∧ w'.cell? a2 = some v2 ∧ w'.cell? a3 = some v3 := by
  obtain ⟨h0, h1, h2, h3⟩ := h
  exact ⟨cell_old y h0, cell_old y h1, cell_old y h2, cell_old y h3⟩
theorem order_any (x y : En) (w : World) :
    Calls Tryd.prog 55 #[V x, V y] w fun e w' => e = .returned (.int .i64 (cw x y)) ∧ ∃ q os', w' = grow (w.drewN q) os' := by
  obtain ⟨x0, x1, x2⟩ := x
  obtain ⟨y0, y1, y2⟩ := y
  have HC := fun (x y : Nat) u => Lib.hid (cmp_any x y u)
  obtain ⟨r, hr⟩ : ∃ r, cw (x0, x1, x2) (y0, y1, y2) = r := ⟨_, rfl⟩
  rw [hr]
  have HR : Hid ((if c3 x0 y0 ≠ 0 then c3 x0 y0 else c3 x1 y1) = r) := Lib.hid hr
  have hB : Blk ((w.alloc (.cells #[.int .u64 x0, .int .u64 x1, .int .i64 x2] TE)).alloc (.cells #[.int .u64 y0, .int .u64 y1, .int .i64 y2] TE)) w.heap.size #[.int .u64 x0, .int .u64 x1, .int .i64 x2] TE := (Blk.new _ _ _).alloc _
  have hC : Blk ((w.alloc (.cells #[.int .u64 x0, .int .u64 x1, .int .i64 x2] TE)).alloc (.cells #[.int .u64 y0, .int .u64 y1, .int .i64 y2] TE)) (w.heap.size + 1) #[.int .u64 y0, .int .u64 y1, .int .i64 y2] TE := Blk.new2 _ _ _ _
  obtain ⟨a0, a1, _, _, _, _⟩ := cells3 hB
  obtain ⟨b0, b1, _, _, _, _⟩ := cells3 hC
  have HW : Hid ((w.alloc (.cells #[.int .u64 x0, .int .u64 x1, .int .i64 x2] TE)).alloc (.cells #[.int .u64 y0, .int .u64 y1, .int .i64 y2] TE) = grow w #[.cells #[.int .u64 x0, .int .u64 x1, .int .i64 x2] TE, .cells #[.int .u64 y0, .int .u64 y1, .int .i64 y2] TE]) := Lib.hid (by rw [alloc_eq_grow, alloc_eq_grow, grow_grow]; rfl)
  clear hr hB hC
  go_enter Tryd.func55, Tryd.ntmps55
  go_wp2_with fail
  obtain ⟨wF, hwF⟩ : ∃ wF, (w.alloc (.cells #[.int .u64 x0, .int .u64 x1, .int .i64 x2] TE)).alloc (.cells #[.int .u64 y0, .int .u64 y1, .int .i64 y2] TE) = wF := ⟨_, rfl⟩
  rw [hwF] at a0 a1 b0 b1 HW ⊢
  clear hwF
  have n0 : (wF.alloc (.cells #[.int .i64 (c3 x0 y0), .int .i64 (c3 x1 y1)] 3)).drew.cell? ⟨wF.heap.size, 0, none⟩ = some (.int .i64 (c3 x0 y0)) := new_cells wF #[.int .i64 (c3 x0 y0), .int .i64 (c3 x1 y1)] _ 0 _ rfl
  have n1 : (wF.alloc (.cells #[.int .i64 (c3 x0 y0), .int .i64 (c3 x1 y1)] 3)).drew.cell? ⟨wF.heap.size, 1, none⟩ = some (.int .i64 (c3 x1 y1)) := new_cells wF #[.int .i64 (c3 x0 y0), .int .i64 (c3 x1 y1)] _ 1 _ rfl
  go_region_held3 (fun w' => w'.cell? ⟨w.heap.size, 0, none⟩ = some (.int .u64 x0) ∧ w'.cell? ⟨w.heap.size, 1, none⟩ = some (.int .u64 x1) ∧ w'.cell? ⟨w.heap.size + 1, 0, none⟩ = some (.int .u64 y0) ∧ w'.cell? ⟨w.heap.size + 1, 1, none⟩ = some (.int .u64 y1)) (first | exact ⟨a0, a1, b0, b1⟩ | assumption | exact keep4 (by repeat (first | with_reducible exact Upd.refl _ _ | with_reducible refine Upd.drew ?_ | with_reducible refine Upd.alloc ?_ _)) ⟨a0, a1, b0, b1⟩) (first | (go_at_call 90; refine (HC _ _ _).out.mono ?_; rintro e w9 ⟨rfl, rfl⟩) | (go_at_call 89; refine (or_eq HR.out n0 n1).mono ?_; rintro e w9 ⟨rfl, rfl⟩))
  go_wp2_with fail
  go_ret
  exact ⟨rfl, 1, _, by rw [HW.out, alloc_eq_grow, grow_grow]; rfl⟩
theorem c3_lt (x y : Nat) : c3 x y < 0 ↔ x < y := by unfold c3; split; simp [*]; split <;> simp <;> omega
theorem c3_eq (x y : Nat) : c3 x y = 0 ↔ x = y := by unfold c3; split; simp; omega; split <;> simp <;> omega
end Go.Proofs.YtjbaibnmbeabnaaDoor.Wheel
