/- sppifo's queues of int, as a law meets them. -/
import Derived.Test.YtopibbaopglggaaSpI3
namespace Go.Proofs.Ytopibbaopglggaa.SpI
open Go.RowKit Go.Proofs BigFrame
open PairI (TR TE el)
set_option maxHeartbeats 2000000
set_option maxRecDepth 100000
/-- Queues that were made since w0. -/
def Has (w0 w : World) (s n room cnt : Nat) (bs : Nat → Nat) (qs : Nat → List (Int × Int)) : Prop :=
  ∃ gq gb cq rb rg, SpIn TS TR TE PT TU w s gq gb cq n room cnt rb rg bs (fun i => (qs i).map el) ∧ (∀ k, SpOf s gq gb n rb rg k → w0.heap.size ≤ k) ∧ Upd Nowhere w0 w ∧ Fit n bs ∧ tot qs n = cnt ∧ cnt ≤ room
theorem Has.upd {w0 w : World} {s n room cnt : Nat} {bs : Nat → Nat} {qs : Nat → List (Int × Int)} (h : Has w0 w s n room cnt bs qs) : Upd Nowhere w0 w := by
  obtain ⟨_, _, _, _, _, _, _, h, _⟩ := h; exact h
theorem Has.old {w0 w w' : World} {s n room cnt : Nat} {bs : Nat → Nat} {qs : Nat → List (Int × Int)} (h : Has w0 w s n room cnt bs qs) (hu : Upd Nowhere w w') : Has w0 w' s n room cnt bs qs := by
  obtain ⟨gq, gb, cq, rb, rg, h1, h2, h3, h4⟩ := h
  exact ⟨gq, gb, cq, rb, rg, h1.old hu, h2, h3.trans hu (fun _ _ h => h), h4⟩
theorem has_new (w : World) (room n : Nat) (h1 : 1 ≤ room) (h2 : room ≤ 4096) (hn1 : 1 ≤ n) (hn2 : n ≤ 32) :
    Calls Try.prog 14 #[.int .i64 room, .int .i64 n] w fun e w' => ∃ s, e = .returned (.tuple #[.pointer (some ⟨s, 0, none⟩), .int .i64 0]) ∧ Has w w' s n room 0 (fun _ => 0) (fun _ => []) := by
  refine (new_ok w room n h1 h2 hn1 hn2).mono ?_
  rintro e w' ⟨s, rfl, gq, gb, cq, rb, hS, hl, hu⟩
  refine ⟨s, rfl, gq, gb, cq, rb, _, hS, hl, hu, ⟨fun _ _ _ _ => Nat.le_refl _, fun _ _ => Nat.zero_le _⟩, ?_, Nat.zero_le _⟩
  have : ∀ k, tot (fun _ => ([] : List (Int × Int))) k = 0 := fun k => by
    induction k with
    | zero => rfl
    | succ k ih => rw [tot, ih]; rfl
  exact this n
theorem has_push {w0 wB w : World} {s n room cnt : Nat} {bs : Nat → Nat} {qs : Nat → List (Int × Int)} (h : Has w0 wB s n room cnt bs qs) (hw : Upd Nowhere wB w) (hc : cnt < room) (r : Nat) (hr : r ≤ 18446744073709551615) (x : Int) (p : Nat) (hp : pick bs r (n - 1) = p) :
    Calls Try.prog 15 #[.pointer (some ⟨s, 0, none⟩), .int .u64 r, Value.int .i64 x] w fun e w' => e = .returned (.tuple #[.int .i64 p, .bool true]) ∧ Has w0 w' s n room (cnt + 1) (pushed bs r p) (upd qs p (qs p ++ [((r : Int), x)])) ∧ Upd (fun k => k < wB.heap.size) w w' := by
  subst hp
  obtain ⟨gq, gb, cq, rb, rg, h1, h2, h3, h4, h5, h6⟩ := h
  have hlt := fun k hk => h1.lts (k := k) hk
  replace h1 := h1.old hw
  replace h3 := h3.trans hw (fun _ _ h => h)
  have hnp := h1.npos
  refine (push_room w s gq gb cq n room cnt rb rg bs qs r x h1 hc h4 hr h5).mono ?_
  rintro e w' ⟨rfl, g', hS, hl, hu⟩
  refine ⟨rfl, ⟨gq, gb, cq, rb, _, hS, fun k hk => (hl k hk).elim (h2 k) (fun h => by have := h3.size; omega), h3.trans hu (fun k hk h => absurd (h2 k h) (Nat.not_le.2 hk)), h4.pushed hnp hr, ?_, by omega⟩, hu.mono (fun k _ h => hlt k h)⟩
  have hpl := pick_le bs r (n - 1)
  have := tot_upd qs (pick bs r (n - 1)) (qs (pick bs r (n - 1)) ++ [((r : Int), x)]) n (by omega)
  simp at this
  omega
theorem has_pop {w0 wB w : World} {s n room cnt : Nat} {bs : Nat → Nat} {qs : Nat → List (Int × Int)} (h : Has w0 wB s n room cnt bs qs) (hw : Upd Nowhere wB w) (i : Nat) (x0 : Int) (x1 : Int) (t : List (Int × Int)) (hi : i < n) (hl : ∀ j, j < i → (qs j).length = 0) (hx : qs i = (x0, x1) :: t) :
    Calls Try.prog 16 #[.pointer (some ⟨s, 0, none⟩)] w fun e w' => e = .returned (.tuple #[.int .u64 x0, Value.int .i64 x1, .bool true]) ∧ Has w0 w' s n room (cnt - 1) bs (upd qs i t) ∧ Upd (fun k => k < wB.heap.size) w w' := by
  obtain ⟨gq, gb, cq, rb, rg, h1, h2, h3, h4, h5, h6⟩ := h
  have hlt := fun k hk => h1.lts (k := k) hk
  replace h1 := h1.old hw
  replace h3 := h3.trans hw (fun _ _ h => h)
  have hpos : 0 < cnt := by have := tot_le qs hi; rw [hx] at this; simp at this; omega
  refine (pop_some w s gq gb cq n room cnt rb rg bs qs i x0 x1 t h1 hi hl hx hpos h6).mono ?_
  rintro e w' ⟨rfl, g', hS, hlo, hu⟩
  refine ⟨rfl, ⟨gq, gb, cq, rb, _, hS, fun k hk => (hlo k hk).elim (h2 k) (fun h => by have := h3.size; omega), h3.trans hu (fun k hk h => absurd (h2 k h) (Nat.not_le.2 hk)), h4, ?_, by omega⟩, hu.mono (fun k _ h => hlt k h)⟩
  have := tot_upd qs i t n hi
  rw [hx] at this
  simp at this
  omega
theorem has_len {w0 w : World} {s n room cnt : Nat} {bs : Nat → Nat} {qs : Nat → List (Int × Int)} (h : Has w0 w s n room cnt bs qs) :
    Calls Try.prog 17 #[.pointer (some ⟨s, 0, none⟩)] w fun e w' => e = .returned (.int .i64 cnt) ∧ w = w' := by
  obtain ⟨gq, gb, cq, rb, rg, h1, _⟩ := h
  exact len_any w s gq gb cq n room cnt rb rg bs _ h1
end Go.Proofs.Ytopibbaopglggaa.SpI
