/- A heap that was made since a world, off other blocks. No program in sight. -/
import Derived.Test.YtjbaibnmbeabnaaGreatDoorHeapCore
namespace Go.Proofs.YtjbaibnmbeabnaaGreatDoor.Heap
open Go.RowKit
/-- A heap that was made since w0, off the blocks of A. -/
structure HasH {α : Type} (K : α → Value) (T E : TypeId) (A : Nat → Prop) (w0 w : World) (b came room : Nat) (l : List (Ent α)) : Prop where
  heap : IsHeap l
  isin : ∃ v, HeapIn K T E w b v came room l ∧ ∀ k, HeapOf b v k → w0.heap.size ≤ k ∧ ¬ A k
  size : w0.heap.size ≤ w.heap.size
  low : ∀ k, A k → k < w.heap.size
section
variable {α : Type} {K : α → Value} {T E : TypeId} {A A' : Nat → Prop} {w0 w w' : World} {b came came' room : Nat} {l l' : List (Ent α)}
theorem HasH.kept (h : HasH K T E A w0 w b came room l) {S : Nat → Prop} (hu : Upd S w w') (hS : ∀ k, S k → k < w.heap.size → A k ∨ k < w0.heap.size) : HasH K T E A w0 w' b came room l := by
  obtain ⟨v, h1, h2⟩ := h.isin
  refine ⟨h.heap, ⟨v, h1.kept hu (fun k hk hSk => ?_), h2⟩, Nat.le_trans h.size hu.size, fun k hk => Nat.lt_of_lt_of_le (h.low k hk) hu.size⟩
  rcases hS k hSk (h1.lts hk) with h | h
  · exact (h2 k hk).2 h
  · exact absurd (h2 k hk).1 (Nat.not_le.2 h)
theorem HasH.old (h : HasH K T E A w0 w b came room l) (hu : Upd Nowhere w w') : HasH K T E A w0 w' b came room l := h.kept hu (fun _ h _ => h.elim)
/-- Other blocks to be off: old ones of A, or blocks that were made behind the heap. -/
theorem HasH.re (h : HasH K T E A w0 w b came room l) (hu : Upd Nowhere w w') (hA : ∀ k, A' k → (A k ∨ w.heap.size ≤ k) ∧ k < w'.heap.size) : HasH K T E A' w0 w' b came room l := by
  obtain ⟨v, h1, h2⟩ := h.isin
  refine ⟨h.heap, ⟨v, h1.old hu, fun k hk => ⟨(h2 k hk).1, fun ha => ?_⟩⟩, Nat.le_trans h.size hu.size, fun k hk => (hA k hk).2⟩
  rcases (hA k ha).1 with h | h
  · exact (h2 k hk).2 h
  · exact absurd (h1.lts hk) (Nat.not_lt.2 h)
theorem HasH.turned {v : Value} (h : HasH K T E A w0 w b came room l) (h2 : ∀ k, HeapOf b v k → w0.heap.size ≤ k ∧ ¬ A k) (hh : IsHeap l')
    (t : ∃ v', HeapIn K T E w' b v' came' room l' ∧ OwnOrNew w v v' ∧ Upd (HeapOf b v) w w') : HasH K T E A w0 w' b came' room l' ∧ Upd (fun k => w0.heap.size ≤ k ∧ ¬ A k) w w' := by
  obtain ⟨v', t1, t2, t3⟩ := t
  refine ⟨⟨hh, ⟨v', t1, fun k hk => ?_⟩, Nat.le_trans h.size t3.size, fun k hk => Nat.lt_of_lt_of_le (h.low k hk) t3.size⟩, t3.mono (fun k _ h => h2 k h)⟩
  rcases hk with rfl | hk
  · exact h2 _ (.inl rfl)
  · rcases t2 k hk with h3 | h3
    · exact h2 k (.inr h3)
    · exact ⟨Nat.le_trans h.size h3, fun ha => absurd (h.low k ha) (Nat.not_lt.2 h3)⟩
end
end Go.Proofs.YtjbaibnmbeabnaaGreatDoor.Heap
