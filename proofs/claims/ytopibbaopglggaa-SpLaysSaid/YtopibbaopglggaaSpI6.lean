/- sppifo's queues of int, beside blocks that they never touch. -/
import Derived.Test.YtopibbaopglggaaSpI4
namespace Go.Proofs.Ytopibbaopglggaa.SpI
open Go.RowKit Go.Proofs BigFrame
open PairI (TR TE el)
set_option maxHeartbeats 2000000
set_option maxRecDepth 100000
/-- Queues that were made since w0, and lie off the blocks of A. -/
def HasA (A : Nat → Prop) (w0 w : World) (s n room cnt : Nat) (bs : Nat → Nat) (qs : Nat → List (Int × Int)) : Prop :=
  ∃ gq gb cq rb rg, SpIn TS TR TE PT TU w s gq gb cq n room cnt rb rg bs (fun i => (qs i).map el) ∧ (∀ k, SpOf s gq gb n rb rg k → w0.heap.size ≤ k ∧ ¬ A k) ∧ w0.heap.size ≤ w.heap.size ∧ Fit n bs ∧ tot qs n = cnt ∧ cnt ≤ room
section
variable {A A' : Nat → Prop} {w0 w w' : World} {s n room cnt : Nat} {bs : Nat → Nat} {qs : Nat → List (Int × Int)}
theorem Has.off (h : Has w0 w s n room cnt bs qs) : HasA (fun _ => False) w0 w s n room cnt bs qs := by
  obtain ⟨gq, gb, cq, rb, rg, h1, h2, h3, h4⟩ := h
  exact ⟨gq, gb, cq, rb, rg, h1, fun k hk => ⟨h2 k hk, id⟩, h3.size, h4⟩
theorem HasA.kept (h : HasA A w0 w s n room cnt bs qs) {S : Nat → Prop} (hu : Upd S w w') (hS : ∀ k, S k → k < w.heap.size → A k ∨ k < w0.heap.size) : HasA A w0 w' s n room cnt bs qs := by
  obtain ⟨gq, gb, cq, rb, rg, h1, h2, h3, h4⟩ := h
  refine ⟨gq, gb, cq, rb, rg, h1.kept hu (fun k hk hSk => ?_), h2, Nat.le_trans h3 hu.size, h4⟩
  rcases hS k hSk (h1.lts hk) with h | h
  · exact (h2 k hk).2 h
  · exact absurd (h2 k hk).1 (Nat.not_le.2 h)
theorem HasA.old (h : HasA A w0 w s n room cnt bs qs) (hu : Upd Nowhere w w') : HasA A w0 w' s n room cnt bs qs := h.kept hu (fun _ h _ => h.elim)
/-- Other blocks to be off: old ones of A, or new ones. -/
theorem HasA.re (h : HasA A w0 w s n room cnt bs qs) (hA : ∀ k, A' k → A k ∨ w.heap.size ≤ k) : HasA A' w0 w s n room cnt bs qs := by
  obtain ⟨gq, gb, cq, rb, rg, h1, h2, h3, h4⟩ := h
  exact ⟨gq, gb, cq, rb, rg, h1, fun k hk => ⟨(h2 k hk).1, fun hk' => (hA k hk').elim (h2 k hk).2 (fun h => Nat.not_le.2 (h1.lts hk) h)⟩, h3, h4⟩
theorem hasA_push (h : HasA A w0 w s n room cnt bs qs) (hA : ∀ k, A k → k < w.heap.size) (hc : cnt < room) (r : Nat) (hr : r ≤ 18446744073709551615) (x : Int) (p : Nat) (hp : pick bs r (n - 1) = p) :
    Calls Try.prog 15 #[.pointer (some ⟨s, 0, none⟩), .int .u64 r, Value.int .i64 x] w fun e w' => e = .returned (.tuple #[.int .i64 p, .bool true]) ∧ HasA A w0 w' s n room (cnt + 1) (pushed bs r p) (upd qs p (qs p ++ [((r : Int), x)])) ∧ Upd (fun k => w0.heap.size ≤ k ∧ ¬ A k) w w' := by
  subst hp
  obtain ⟨gq, gb, cq, rb, rg, h1, h2, h3, h4, h5, h6⟩ := h
  have hnp := h1.npos
  refine (push_room w s gq gb cq n room cnt rb rg bs qs r x h1 hc h4 hr h5).mono ?_
  rintro e w' ⟨rfl, g', hS, hl, hu⟩
  refine ⟨rfl, ⟨gq, gb, cq, rb, _, hS, fun k hk => (hl k hk).elim (h2 k) (fun h => ⟨by omega, fun hk' => Nat.not_le.2 (hA k hk') h⟩), Nat.le_trans h3 hu.size, h4.pushed hnp hr, ?_, by omega⟩, hu.mono (fun k _ h => h2 k h)⟩
  have hpl := pick_le bs r (n - 1)
  have := tot_upd qs (pick bs r (n - 1)) (qs (pick bs r (n - 1)) ++ [((r : Int), x)]) n (by omega)
  simp at this
  omega
theorem hasA_pop (h : HasA A w0 w s n room cnt bs qs) (hA : ∀ k, A k → k < w.heap.size) (i : Nat) (x0 : Int) (x1 : Int) (t : List (Int × Int)) (hi : i < n) (hl : ∀ j, j < i → (qs j).length = 0) (hx : qs i = (x0, x1) :: t) :
    Calls Try.prog 16 #[.pointer (some ⟨s, 0, none⟩)] w fun e w' => e = .returned (.tuple #[.int .u64 x0, Value.int .i64 x1, .bool true]) ∧ HasA A w0 w' s n room (cnt - 1) bs (upd qs i t) ∧ Upd (fun k => w0.heap.size ≤ k ∧ ¬ A k) w w' := by
  obtain ⟨gq, gb, cq, rb, rg, h1, h2, h3, h4, h5, h6⟩ := h
  have hpos : 0 < cnt := by have := tot_le qs hi; rw [hx] at this; simp at this; omega
  refine (pop_some w s gq gb cq n room cnt rb rg bs qs i x0 x1 t h1 hi hl hx hpos h6).mono ?_
  rintro e w' ⟨rfl, g', hS, hlo, hu⟩
  refine ⟨rfl, ⟨gq, gb, cq, rb, _, hS, fun k hk => (hlo k hk).elim (h2 k) (fun h => ⟨by omega, fun hk' => Nat.not_le.2 (hA k hk') h⟩), Nat.le_trans h3 hu.size, h4, ?_, by omega⟩, hu.mono (fun k _ h => h2 k h)⟩
  have := tot_upd qs i t n hi
  rw [hx] at this
  simp at this
  omega
theorem hasA_len (h : HasA A w0 w s n room cnt bs qs) :
    Calls Try.prog 17 #[.pointer (some ⟨s, 0, none⟩)] w fun e w' => e = .returned (.int .i64 cnt) ∧ w = w' := by
  obtain ⟨gq, gb, cq, rb, rg, h1, _⟩ := h
  exact len_any w s gq gb cq n room cnt rb rg bs _ h1
theorem HasA.tot_ (h : HasA A w0 w s n room cnt bs qs) : tot qs n = cnt := by
  obtain ⟨gq, gb, cq, rb, rg, _, _, _, _, h5, _⟩ := h; exact h5
end
end Go.Proofs.Ytopibbaopglggaa.SpI
