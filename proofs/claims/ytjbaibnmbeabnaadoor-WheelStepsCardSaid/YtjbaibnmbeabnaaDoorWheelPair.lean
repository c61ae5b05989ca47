/- wheel: two of them, off each other. -/
import Derived.Test.YtjbaibnmbeabnaaDoorWheelLives
namespace Go.Proofs.YtjbaibnmbeabnaaDoor.Wheel
open Go.RowKit Go.Proofs BigFrame Heap
/-- A wheel whose blocks are those of B. -/
def In (B : Nat → Prop) (w0 w : World) (b now came room : Nat) (s : List En) : Prop :=
  ∀ (A' : Nat → Prop) (w' : World), (∀ k, A' k → ¬ B k) → (∀ k, B k → w'.heap[k]? = w.heap[k]?) → HasW A' w0 w' b now came room s
theorem HasW.split {A : Nat → Prop} {w0 w : World} {b now came room : Nat} {s : List En} (h : HasW A w0 w b now came room s) :
    ∃ B : Nat → Prop, (∀ k, B k → w0.heap.size ≤ k ∧ ¬ A k ∧ k < w.heap.size) ∧ In B w0 w b now came room s := by
  obtain ⟨vs, qs, us, h1, h2⟩ := h
  refine ⟨Own b vs, fun k hk => ⟨(h1.far k hk).1, (h1.far k hk).2, h1.lts hk⟩, fun A' w' hA hw => ⟨vs, qs, us, ?_, h2⟩⟩
  obtain ⟨c, c1, c2⟩ := h1.cur
  refine ⟨⟨c, (hw b (.inl rfl)).trans c1, c2⟩, fun o ho => ?_, h1.ap, h1.nb, fun k hk => ⟨(h1.far k hk).1, fun h9 => hA k h9 hk⟩⟩
  obtain ⟨r1, r2⟩ := h1.row o ho
  refine ⟨r1, ?_⟩
  rcases r2 with r2 | ⟨g, cap, cur, hv, hg, hb, h3⟩
  · exact .inl r2
  · exact .inr ⟨g, cap, cur, hv, hg, (hw g (.inr ⟨o, ho, by rw [hv]; rfl⟩)).trans hb, h3⟩
/-- Two wheels, off each other and off the blocks of X. -/
def Pair (X : Nat → Prop) (w0 w : World) (a na ca : Nat) (sa : List En) (b nb cb : Nat) (sb : List En) (room : Nat) : Prop :=
  ∃ Ba Bb : Nat → Prop, In Ba w0 w a na ca room sa ∧ In Bb w0 w b nb cb room sb ∧ (∀ k, Ba k → ¬ Bb k) ∧ ∀ k, Ba k ∨ Bb k → w0.heap.size ≤ k ∧ k < w.heap.size ∧ ¬ X k
section
variable {X X' : Nat → Prop} {w0 w w' : World} {a na ca b nb cb room : Nat} {sa sb : List En}
theorem Pair.swap (h : Pair X w0 w a na ca sa b nb cb sb room) : Pair X w0 w b nb cb sb a na ca sa room := by
  obtain ⟨Ba, Bb, h1, h2, h3, h4⟩ := h
  exact ⟨Bb, Ba, h2, h1, fun k hb ha => h3 k ha hb, fun k hk => h4 k hk.symm⟩
/-- What may be done with the first one. -/
theorem Pair.op (h : Pair X w0 w a na ca sa b nb cb sb room) (hX : ∀ k, X k → k < w.heap.size) : ∃ A : Nat → Prop, HasW A w0 w a na ca room sa ∧ (∀ k, A k → k < w.heap.size) ∧ (∀ k, X k → A k) ∧
    ∀ w' na' ca' sa', HasW A w0 w' a na' ca' room sa' → Upd (Free A w0) w w' → Pair X w0 w' a na' ca' sa' b nb cb sb room := by
  obtain ⟨Ba, Bb, h1, h2, h3, h4⟩ := h
  refine ⟨fun k => X k ∨ Bb k, h1 _ w (fun k hk hb => hk.elim (h4 k (.inl hb)).2.2 (h3 k hb)) (fun _ _ => rfl), fun k hk => hk.elim (hX k) (fun hb => (h4 k (.inr hb)).2.1), fun k hk => .inl hk, fun w' na' ca' sa' hw hu => ?_⟩
  obtain ⟨Bc, h5, h6⟩ := hw.split
  refine ⟨Bc, Bb, h6, fun A' w2 hA hw2 => h2 A' w2 hA (fun k hk => (hw2 k hk).trans (hu.block k (h4 k (.inr hk)).2.1 (fun h9 => h9.2 (.inr hk)))), fun k hc hb => (h5 k hc).2.1 (.inr hb), fun k hk => ?_⟩
  rcases hk with hk | hk
  · exact ⟨(h5 k hk).1, (h5 k hk).2.2, fun h9 => (h5 k hk).2.1 (.inl h9)⟩
  · exact ⟨(h4 k (.inr hk)).1, Nat.lt_of_lt_of_le (h4 k (.inr hk)).2.1 hu.size, (h4 k (.inr hk)).2.2⟩
theorem Pair.kept (h : Pair X w0 w a na ca sa b nb cb sb room) {S : Nat → Prop} (hu : Upd S w w') (hS : ∀ k, k < w.heap.size → S k → X k) (hX : ∀ k, X' k → X k ∨ w.heap.size ≤ k) : Pair X' w0 w' a na ca sa b nb cb sb room := by
  obtain ⟨Ba, Bb, h1, h2, h3, h4⟩ := h
  have hk2 : ∀ k, Ba k ∨ Bb k → w'.heap[k]? = w.heap[k]? := fun k hk => hu.block k (h4 k hk).2.1 (fun h9 => (h4 k hk).2.2 (hS k (h4 k hk).2.1 h9))
  refine ⟨Ba, Bb, fun A' w2 hA hw => h1 A' w2 hA (fun k hk => (hw k hk).trans (hk2 k (.inl hk))), fun A' w2 hA hw => h2 A' w2 hA (fun k hk => (hw k hk).trans (hk2 k (.inr hk))), h3, fun k hk => ⟨(h4 k hk).1, Nat.lt_of_lt_of_le (h4 k hk).2.1 hu.size, fun h9 => ?_⟩⟩
  rcases hX k h9 with h8 | h8
  · exact (h4 k hk).2.2 h8
  · exact Nat.not_le.2 (h4 k hk).2.1 h8
theorem Pair.old (h : Pair X w0 w a na ca sa b nb cb sb room) (hu : Upd Nowhere w w') : Pair X w0 w' a na ca sa b nb cb sb room := h.kept hu (fun _ _ h => h.elim) (fun _ h => .inl h)
theorem Pair.fst (h : Pair X w0 w a na ca sa b nb cb sb room) : HasW NoB w0 w a na ca room sa := by
  obtain ⟨Ba, Bb, h1, h2, h3, h4⟩ := h
  exact h1 _ w (fun _ h => h.elim) (fun _ _ => rfl)
theorem Pair.snd (h : Pair X w0 w a na ca sa b nb cb sb room) : HasW NoB w0 w b nb cb room sb := h.swap.fst
end
/-- The second one is made. -/
theorem pair_new {w w1 w2 : World} {a b room : Nat} (h1 : HasW NoB w w1 a 0 0 room []) (h2 : HasW NoB w1 w2 b 0 0 room []) (hu : Upd Nowhere w1 w2) : Pair NoB w w2 a 0 0 [] b 0 0 [] room := by
  obtain ⟨Ba, p1, p2⟩ := h1.split
  obtain ⟨Bb, q1, q2⟩ := h2.split
  refine ⟨Ba, Bb, fun A' w3 hA hw => p2 A' w3 hA (fun k hk => (hw k hk).trans (hu.block k (p1 k hk).2.2 id)), fun A' w3 hA hw => ?_, fun k ha hb => Nat.not_le.2 (p1 k ha).2.2 (q1 k hb).1, fun k hk => ?_⟩
  · obtain ⟨vs, qs, us, r1, r2⟩ := q2 A' w3 hA hw
    exact ⟨vs, qs, us, ⟨r1.cur, r1.row, r1.ap, r1.nb, fun k hk => ⟨Nat.le_trans h1.low (r1.far k hk).1, (r1.far k hk).2⟩⟩, r2⟩
  · rcases hk with hk | hk
    · exact ⟨(p1 k hk).1, Nat.lt_of_lt_of_le (p1 k hk).2.2 hu.size, id⟩
    · exact ⟨Nat.le_trans h1.low (q1 k hk).1, (q1 k hk).2.2, id⟩
/-- What is due at last is due in two steps. -/
theorem left_all {n : Nat} {s : List En} (h : ∀ e ∈ s, n < e.1) : leftOf n s = s ∧ dueOf n s = [] :=
  ⟨List.filter_eq_self.2 fun e he => by simp [h e he], List.filter_eq_nil_iff.2 fun e he => by have := h e he; simp; omega⟩
theorem due_split {n m : Nat} (hnm : n ≤ m) : ∀ {s : List En}, s.Pairwise (fun a b => ahd a b = true) → dueOf n s ++ dueOf m (leftOf n s) = dueOf m s ∧ leftOf m (leftOf n s) = leftOf m s
  | [], _ => ⟨rfl, rfl⟩
  | a :: r, ho => by
    have ho' := List.pairwise_cons.1 ho
    by_cases h : a.1 ≤ n
    · obtain ⟨i1, i2⟩ := due_split hnm ho'.2
      have e1 : dueOf n (a :: r) = a :: dueOf n r := List.filter_cons_of_pos (by simpa using h)
      have e2 : leftOf n (a :: r) = leftOf n r := List.filter_cons_of_neg (by simp; omega)
      have e3 : dueOf m (a :: r) = a :: dueOf m r := List.filter_cons_of_pos (by simp; omega)
      have e4 : leftOf m (a :: r) = leftOf m r := List.filter_cons_of_neg (by simp; omega)
      rw [e1, e2, e3, e4, List.cons_append, i1]
      exact ⟨rfl, i2⟩
    · obtain ⟨l1, l2⟩ := left_all (n := n) (s := a :: r) (fun e he => by have := head_le ho e he; omega)
      rw [l1, l2]
      exact ⟨rfl, rfl⟩
end Go.Proofs.YtjbaibnmbeabnaaDoor.Wheel
