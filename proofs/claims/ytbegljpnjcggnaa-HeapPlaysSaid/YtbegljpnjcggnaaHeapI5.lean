/- heappifo's heap of int: what laws use. -/
import Derived.Test.YtbegljpnjcggnaaHeapI4
import Derived.Test.YtbegljpnjcggnaaHeapCore2
namespace Go.Proofs.Ytbegljpnjcggnaa.HeapI
open Go.RowKit Go.Proofs BigFrame Heap
abbrev H (A : Nat → Prop) (w0 w : World) (b came room : Nat) (l : List En) : Prop := HasH (Value.int .i64) TH TE A w0 w b came room l
section
variable {A : Nat → Prop} {w0 w : World} {b came room : Nat} {l : List En}
theorem h_new (room : Nat) (w0 w : World) (A : Nat → Prop) (h1 : 1 ≤ room) (h2 : room ≤ 4096) (hle : w0.heap.size ≤ w.heap.size) (hA : ∀ k, A k → k < w.heap.size) :
    Calls Try.prog 7 #[.int .i64 room] w fun e w' => e = .returned (.tuple #[.pointer (some ⟨w.heap.size, 0, none⟩), .int .i64 0]) ∧ H A w0 w' w.heap.size 0 room [] ∧ Upd Nowhere w w' := by
  refine (new_ok room w h1 h2).mono ?_
  rintro e w' ⟨rfl, h, hu⟩
  refine ⟨rfl, ⟨fun i a b hi ha => (by cases ha), ⟨_, h, fun k hk => ?_⟩, Nat.le_trans hle hu.size, fun k hk => Nat.lt_of_lt_of_le (hA k hk) hu.size⟩, hu⟩
  rcases hk with rfl | hk
  · exact ⟨hle, fun ha => absurd (hA _ ha) (Nat.lt_irrefl _)⟩
  · cases hk
theorem h_len (h : H A w0 w b came room l) : Calls Try.prog 10 #[.pointer (some ⟨b, 0, none⟩)] w fun e w' => e = .returned (.int .i64 l.length) ∧ w = w' := by
  obtain ⟨v, h1, _⟩ := h.isin
  exact len_some h1
theorem h_push (h : H A w0 w b came room l) (hl : l.length < room) (hc : came < 18446744073709551615) (rank : Nat) (x : Int) :
    Calls Try.prog 8 #[.pointer (some ⟨b, 0, none⟩), .int .u64 rank, Value.int .i64 x] w fun e w' => e = .returned (.bool true) ∧
      H A w0 w' b (came + 1) room (pushL l (rank, came, x)) ∧ Upd (fun k => w0.heap.size ≤ k ∧ ¬ A k) w w' := by
  obtain ⟨v, h1, h2⟩ := h.isin
  refine (push_room h1 hl hc rank x).mono ?_
  rintro e w' ⟨rfl, t⟩
  exact ⟨rfl, h.turned h2 (push_heap h.heap _) t⟩
theorem h_full (h : H A w0 w b came room l) (hl : l.length = room) (rank : Nat) (x : Int) :
    Calls Try.prog 8 #[.pointer (some ⟨b, 0, none⟩), .int .u64 rank, Value.int .i64 x] w fun e w' => e = .returned (.bool false) ∧ Upd Nowhere w w' := by
  obtain ⟨v, h1, h2⟩ := h.isin
  exact push_full h1 hl rank x
theorem h_peek (h : H A w0 w b came room l) {a : En} (ha : l[0]? = some a) :
    Calls Try.prog 15 #[.pointer (some ⟨b, 0, none⟩)] w fun e w' => e = .returned (.tuple #[.int .u64 a.1, Value.int .i64 a.2.2, .bool true]) ∧ Upd Nowhere w w' := by
  obtain ⟨v, h1, h2⟩ := h.isin
  exact peek_some h1 ha
theorem h_peek0 (h : H A w0 w b came room []) :
    Calls Try.prog 15 #[.pointer (some ⟨b, 0, none⟩)] w fun e w' => e = .returned (.tuple #[.int .u64 0, Value.int .i64 0, .bool false]) ∧ Upd Nowhere w w' := by
  obtain ⟨v, h1, h2⟩ := h.isin
  exact peek_empty h1
theorem h_pop (h : H A w0 w b came room l) {a : En} (ha : l[0]? = some a) :
    Calls Try.prog 9 #[.pointer (some ⟨b, 0, none⟩)] w fun e w' => e = .returned (.tuple #[.int .u64 a.1, Value.int .i64 a.2.2, .bool true]) ∧
      H A w0 w' b came room (popL l) ∧ Upd (fun k => w0.heap.size ≤ k ∧ ¬ A k) w w' := by
  obtain ⟨v, h1, h2⟩ := h.isin
  refine (pop_some h1 ha).mono ?_
  rintro e w' ⟨rfl, t⟩
  exact ⟨rfl, h.turned h2 (pop_heap h.heap) t⟩
theorem h_pop0 (h : H A w0 w b came room []) :
    Calls Try.prog 9 #[.pointer (some ⟨b, 0, none⟩)] w fun e w' => e = .returned (.tuple #[.int .u64 0, Value.int .i64 0, .bool false]) ∧ Upd Nowhere w w' := by
  obtain ⟨v, h1, h2⟩ := h.isin
  exact pop_empty h1
end
end Go.Proofs.Ytbegljpnjcggnaa.HeapI
