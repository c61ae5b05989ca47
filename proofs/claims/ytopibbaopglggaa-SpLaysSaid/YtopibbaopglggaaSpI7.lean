/- sppifo's queues of int: Queue, Peek. -/
import Derived.Test.YtopibbaopglggaaSpI6
import Derived.Test.YtopibbaopglggaaSpI5
import Derived.Test.YtopibbaopglggaaPairI3
import Derived.Test.YtopibbaopglggaaPcs
namespace Go.Proofs.Ytopibbaopglggaa.SpI
open Go.RowKit Go.Proofs BigFrame
open PairI (TR TE el flat)
set_option maxHeartbeats 2000000
set_option maxRecDepth 100000
theorem queue_in (w : World) (s gq gb cq n room cnt : Nat) (rb : Nat → Nat) (rg : Nat → Option Nat) (bs : Nat → Nat) (qs : Nat → List (Int × Int)) (i : Nat)
    (h : SpIn TS TR TE PT TU w s gq gb cq n room cnt rb rg bs (fun i => (qs i).map el)) (hi : i < n) :
    Calls Try.prog 43 #[.pointer (some ⟨s, 0, none⟩), .int .i64 i] w fun e w' => (∃ v, e = .returned v ∧ w'.ownsRow w.heap.size TE 2 v (qs i).length (flat (qs i))) ∧ Upd Nowhere w w' := by
  obtain ⟨c0, c1, c2, c3, z0, z1, z2, z3⟩ := cells4 h.blk
  have hp := h.pcell hi
  obtain ⟨fr, len, hPR⟩ := h.ring i hi
  have HA := Lib.hid (PairI.all_any w (rb i) (rg i) room fr len (qs i) hPR)
  have hnl := h.nle
  have d1 : decide ((i : Int) ≥ n) = false := decide_eq_false (by omega)
  have d2 : decide ((n : Int) ≤ i) = false := decide_eq_false (by omega)
  have d3 : decide (n ≤ i) = false := decide_eq_false (by omega)
  have d4 : decide ((i : Int) < 0) = false := decide_eq_false (by omega)
  clear h hPR
  go_enter Try.func43, Try.ntmps43
  go_wp2_with fail
  refine HA.out.mono ?_
  rintro e w' ⟨⟨v, rfl, hv⟩, hu⟩
  go_wp2_with fail
  go_ret
  exact ⟨⟨_, rfl, hv⟩, hu⟩
theorem queue_out (w : World) (s gq gb cq n room cnt : Nat) (rb : Nat → Nat) (rg : Nat → Option Nat) (bs : Nat → Nat) (qs : Nat → List (Value × Value)) (i : Int)
    (h : SpIn TS TR TE PT TU w s gq gb cq n room cnt rb rg bs qs) (hi : i < 0 ∨ (n : Int) ≤ i) :
    Calls Try.prog 43 #[.pointer (some ⟨s, 0, none⟩), .int .i64 i] w fun e w' => e = .returned (.slice none 0 0) ∧ Upd Nowhere w w' := by
  obtain ⟨c0, c1, c2, c3, z0, z1, z2, z3⟩ := cells4 h.blk
  rcases Int.lt_or_le i 0 with h0 | h0
  · have d4 : decide (i < 0) = true := decide_eq_true h0
    clear h hi
    go_enter Try.func43, Try.ntmps43
    go_wp2_with fail
    go_ret
    exact ⟨rfl, Upd.refl _ _⟩
  · have d4 : decide (i < 0) = false := decide_eq_false (by omega)
    have d1 : decide (i ≥ n) = true := decide_eq_true (by omega)
    have d2 : decide ((n : Int) ≤ i) = true := decide_eq_true (by omega)
    clear h hi
    go_enter Try.func43, Try.ntmps43
    go_wp2_with fail
    go_ret
    exact ⟨rfl, Upd.refl _ _⟩
theorem peek_some (w : World) (s gq gb cq n room cnt : Nat) (rb : Nat → Nat) (rg : Nat → Option Nat) (bs : Nat → Nat) (qs : Nat → List (Int × Int)) (i : Nat) (x0 : Int) (x1 : Int) (t : List (Int × Int))
    (h : SpIn TS TR TE PT TU w s gq gb cq n room cnt rb rg bs (fun i => (qs i).map el)) (hi : i < n) (hl : ∀ j, j < i → (qs j).length = 0) (hx : qs i = (x0, x1) :: t) :
    Calls Try.prog 30 #[.pointer (some ⟨s, 0, none⟩)] w fun e w' => e = .returned (.tuple #[.int .u64 x0, Value.int .i64 x1, .bool true]) ∧ Upd Nowhere w w' := by
  have HF := Lib.hid (first_any w s gq gb cq n room cnt rb rg bs qs i h (by omega) hl (fun _ => by rw [hx]; simp) _ (fun _ => rfl) (fun e => by omega))
  obtain ⟨fr, len, hPR⟩ := h.ring i hi
  simp only [hx] at hPR
  have hh := PairI.head_any w (rb i) (rg i) room fr len ((x0, x1) :: t) hPR
  have e1 : PairI.atOf (List.map el ((x0, x1) :: t)) 0 = .tuple #[.agg #[.int .u64 x0, .int .i64 x1], .bool true] := rfl
  rw [e1] at hh
  have HT := Lib.hid hh
  clear hPR h hl hx hh e1
  go_enter Try.func30, Try.ntmps30
  go_wp2_with fail
  refine HF.out.mono ?_
  rintro e w' ⟨rfl, rfl⟩
  go_wp2_with fail
  refine HT.out.mono ?_
  rintro e w3 ⟨rfl, u3⟩
  go_wp2_with fail
  go_quiet (fail)
  go_wp2_with fail
  go_ret3
  exact ⟨rfl, (u3.alloc _).drewN _⟩
theorem peek_none (w : World) (s gq gb cq n room cnt : Nat) (rb : Nat → Nat) (rg : Nat → Option Nat) (bs : Nat → Nat) (qs : Nat → List (Int × Int))
    (h : SpIn TS TR TE PT TU w s gq gb cq n room cnt rb rg bs (fun i => (qs i).map el)) (hl : ∀ j, j < n → (qs j).length = 0) :
    Calls Try.prog 30 #[.pointer (some ⟨s, 0, none⟩)] w fun e w' => e = .returned (.tuple #[.int .u64 0, Value.int .i64 0, .bool false]) ∧ Upd Nowhere w w' := by
  have HF := Lib.hid (first_any w s gq gb cq n room cnt rb rg bs qs n h (Nat.le_refl _) hl (fun h => by omega) _ (fun h => by omega) (fun _ => rfl))
  have HT := fun u => Lib.hid (PairI.head_nil u)
  clear h hl
  go_enter Try.func30, Try.ntmps30
  go_wp2_with fail
  refine HF.out.mono ?_
  rintro e w' ⟨rfl, rfl⟩
  go_wp2_with fail
  refine (HT _).out.mono ?_
  rintro e w3 ⟨rfl, u3⟩
  go_wp2_with fail
  go_quiet (fail)
  go_wp2_with fail
  go_ret3
  exact ⟨rfl, (u3.alloc _).drewN _⟩
section
variable {A : Nat → Prop} {w0 w w' : World} {s n room cnt : Nat} {bs : Nat → Nat} {qs : Nat → List (Int × Int)}
theorem hasA_queue (h : HasA A w0 w s n room cnt bs qs) {i : Nat} (hi : i < n) :
    Calls Try.prog 43 #[.pointer (some ⟨s, 0, none⟩), .int .i64 i] w fun e w' => (∃ v, e = .returned v ∧ w'.ownsRow w.heap.size TE 2 v (qs i).length (flat (qs i))) ∧ Upd Nowhere w w' := by
  obtain ⟨gq, gb, cq, rb, rg, h1, _⟩ := h
  exact queue_in w s gq gb cq n room cnt rb rg bs qs i h1 hi
theorem hasA_queue_out (h : HasA A w0 w s n room cnt bs qs) {i : Int} (hi : i < 0 ∨ (n : Int) ≤ i) :
    Calls Try.prog 43 #[.pointer (some ⟨s, 0, none⟩), .int .i64 i] w fun e w' => e = .returned (.slice none 0 0) ∧ Upd Nowhere w w' := by
  obtain ⟨gq, gb, cq, rb, rg, h1, _⟩ := h
  exact queue_out w s gq gb cq n room cnt rb rg bs _ i h1 hi
theorem hasA_peek (h : HasA A w0 w s n room cnt bs qs) (i : Nat) (x0 : Int) (x1 : Int) (t : List (Int × Int)) (hi : i < n) (hl : ∀ j, j < i → (qs j).length = 0) (hx : qs i = (x0, x1) :: t) :
    Calls Try.prog 30 #[.pointer (some ⟨s, 0, none⟩)] w fun e w' => e = .returned (.tuple #[.int .u64 x0, Value.int .i64 x1, .bool true]) ∧ Upd Nowhere w w' := by
  obtain ⟨gq, gb, cq, rb, rg, h1, _⟩ := h
  exact peek_some w s gq gb cq n room cnt rb rg bs qs i x0 x1 t h1 hi hl hx
theorem hasA_peek0 (h : HasA A w0 w s n room cnt bs qs) (hl : ∀ j, j < n → (qs j).length = 0) :
    Calls Try.prog 30 #[.pointer (some ⟨s, 0, none⟩)] w fun e w' => e = .returned (.tuple #[.int .u64 0, Value.int .i64 0, .bool false]) ∧ Upd Nowhere w w' := by
  obtain ⟨gq, gb, cq, rb, rg, h1, _⟩ := h
  exact peek_none w s gq gb cq n room cnt rb rg bs qs h1 hl
theorem hasA_pop0 (h : HasA A w0 w s n room cnt bs qs) (hl : ∀ j, j < n → (qs j).length = 0) :
    Calls Try.prog 16 #[.pointer (some ⟨s, 0, none⟩)] w fun e w' => e = .returned (.tuple #[.int .u64 0, Value.int .i64 0, .bool false]) ∧ Upd Nowhere w w' := by
  obtain ⟨gq, gb, cq, rb, rg, h1, _⟩ := h
  exact pop_none w s gq gb cq n room cnt rb rg bs qs h1 hl
theorem hasA_bounds (h : HasA A w0 w s n room cnt bs qs) :
    Calls Try.prog 18 #[.pointer (some ⟨s, 0, none⟩)] w fun e w' => ∃ v, e = .returned v ∧ RowAt w' v (brow bs n) ∧ Upd Nowhere w w' := by
  obtain ⟨gq, gb, cq, rb, rg, h1, _⟩ := h
  exact bounds_any w s gq gb cq n room cnt rb rg bs _ h1
theorem HasA.fit (h : HasA A w0 w s n room cnt bs qs) : Fit n bs := by
  obtain ⟨gq, gb, cq, rb, rg, _, _, _, h4, _⟩ := h; exact h4
theorem HasA.le (h : HasA A w0 w s n room cnt bs qs) : cnt ≤ room := by
  obtain ⟨gq, gb, cq, rb, rg, _, _, _, _, _, h4⟩ := h; exact h4
theorem push_full_ (w : World) (s gq gb cq n room cnt : Nat) (rb : Nat → Nat) (rg : Nat → Option Nat) (bs : Nat → Nat) (qs : Nat → List (Value × Value)) (r : Nat) (x : Int)
    (h : SpIn TS TR TE PT TU w s gq gb cq n room cnt rb rg bs qs) (hc : cnt = room) :
    Calls Try.prog 15 #[.pointer (some ⟨s, 0, none⟩), .int .u64 r, Value.int .i64 x] w fun e w' => e = .returned (.tuple #[.int .i64 0, .bool false]) ∧ Upd Nowhere w w' := by
  obtain ⟨c0, c1, c2, c3, z0, z1, z2, z3⟩ := cells4 h.blk
  have d1 : decide ((cnt : Int) ≥ room) = true := decide_eq_true (by omega)
  have d2 : decide ((room : Int) ≤ cnt) = true := decide_eq_true (by omega)
  have d3 : decide (room ≤ cnt) = true := decide_eq_true (by omega)
  clear h hc
  go_enter Try.func15, Try.ntmps15
  go_wp2_with fail
  go_quiet (fail)
  go_wp2_with fail
  go_ret2
  exact ⟨rfl, (Upd.refl _ _).drewN _⟩
theorem hasA_full (h : HasA A w0 w s n room cnt bs qs) (hc : cnt = room) (r : Nat) (x : Int) :
    Calls Try.prog 15 #[.pointer (some ⟨s, 0, none⟩), .int .u64 r, Value.int .i64 x] w fun e w' => e = .returned (.tuple #[.int .i64 0, .bool false]) ∧ Upd Nowhere w w' := by
  obtain ⟨gq, gb, cq, rb, rg, h1, _⟩ := h
  exact push_full_ w s gq gb cq n room cnt rb rg bs _ r x h1 hc
end
end Go.Proofs.Ytopibbaopglggaa.SpI
