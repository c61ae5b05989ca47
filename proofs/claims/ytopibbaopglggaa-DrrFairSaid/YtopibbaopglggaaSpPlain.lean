/- sppifo, plainly: where a rank goes, what bounds become, which queue is first. No program in sight. -/
import Derived.Test.YtopibbaopglggaaSpCore
namespace Go.Proofs.Ytopibbaopglggaa
/-- The last queue, from i down, whose bound is not above the rank; else the first one. -/
def pick (bs : Nat → Nat) (r : Nat) : Nat → Nat
  | 0 => 0
  | i + 1 => if bs (i + 1) ≤ r then i + 1 else pick bs r i
theorem pick_le (bs : Nat → Nat) (r : Nat) : ∀ i, pick bs r i ≤ i
  | 0 => Nat.le_refl _
  | i + 1 => by rw [pick]; split; exact Nat.le_refl _; exact Nat.le_succ_of_le (pick_le bs r i)
theorem pick_stay {bs : Nat → Nat} {r i : Nat} (h : bs (i + 1) ≤ r) : pick bs r (i + 1) = i + 1 := by rw [pick, if_pos h]
theorem pick_down {bs : Nat → Nat} {r i : Nat} (h : ¬ bs (i + 1) ≤ r) : pick bs r (i + 1) = pick bs r i := by rw [pick, if_neg h]
theorem pick_stay_ {bs : Nat → Nat} {r i : Nat} (h0 : 0 < i) (h : bs i ≤ r) : pick bs r i = i := by
  obtain ⟨j, rfl⟩ : ∃ j, i = j + 1 := ⟨i - 1, by omega⟩
  exact pick_stay h
theorem pick_down_ {bs : Nat → Nat} {r i : Nat} (h0 : 0 < i) (h : ¬ bs i ≤ r) : pick bs r i = pick bs r (i - 1) := by
  obtain ⟨j, rfl⟩ : ∃ j, i = j + 1 := ⟨i - 1, by omega⟩
  exact pick_down h
/-- All bounds sink by as much as the first one is above the rank. -/
def sunk (bs : Nat → Nat) (r : Nat) : Nat → Nat := fun i => bs i - (bs 0 - r)
/-- The first k bounds have sunk. -/
def mix (bs : Nat → Nat) (r k : Nat) : Nat → Nat := fun j => if j < k then sunk bs r j else bs j
theorem mix_zero (bs : Nat → Nat) (r : Nat) : mix bs r 0 = bs := by funext j; unfold mix; rw [if_neg (by omega)]
theorem mix_step (bs : Nat → Nat) (r k : Nat) : upd (mix bs r k) k (sunk bs r k) = mix bs r (k + 1) := by
  funext j
  unfold upd mix
  by_cases h : j = k
  · subst h; rw [if_pos rfl, if_pos (by omega)]
  · rw [if_neg h]
    by_cases h2 : j < k
    · rw [if_pos h2, if_pos (by omega)]
    · rw [if_neg h2, if_neg (by omega)]
theorem mix_at (bs : Nat → Nat) (r k : Nat) : mix bs r k k = bs k := if_neg (by omega)
/-- Bounds behind a push. -/
def pushed (bs : Nat → Nat) (r at_ : Nat) : Nat → Nat := if at_ = 0 ∧ r < bs 0 then sunk bs r else upd bs at_ r
theorem upd_map {α β : Type} (f : α → β) (qs : Nat → List α) (i : Nat) (l : List α) : upd (fun j => (qs j).map f) i (l.map f) = fun j => (upd qs i l j).map f := by
  funext j; unfold upd; split <;> rfl
/-- How many things in the first k queues. -/
def tot {α : Type} (qs : Nat → List α) : Nat → Nat
  | 0 => 0
  | k + 1 => tot qs k + (qs k).length
theorem tot_upd_far {α : Type} (qs : Nat → List α) (i : Nat) (l : List α) : ∀ k, k ≤ i → tot (upd qs i l) k = tot qs k
  | 0, _ => rfl
  | k + 1, h => by rw [tot, tot, tot_upd_far qs i l k (by omega), upd_ne _ _ (by omega)]
theorem tot_upd {α : Type} (qs : Nat → List α) (i : Nat) (l : List α) : ∀ k, i < k → tot (upd qs i l) k + (qs i).length = tot qs k + l.length
  | 0, h => by omega
  | k + 1, h => by
    rcases Nat.lt_or_ge i k with hk | hk
    · have := tot_upd qs i l k hk
      rw [tot, tot, upd_ne _ _ (by omega)]; omega
    · obtain rfl : i = k := by omega
      rw [tot, tot, tot_upd_far qs i l i (Nat.le_refl _), upd_at]; omega
theorem tot_le {α : Type} (qs : Nat → List α) : ∀ {k i : Nat}, i < k → (qs i).length ≤ tot qs k
  | 0, _, h => by omega
  | k + 1, i, h => by
    rw [tot]
    rcases Nat.lt_or_ge i k with hk | hk
    · have := tot_le qs hk; omega
    · obtain rfl : i = k := by omega
      omega
/-- What queues are fit to be: bounds rise, and are numbers of 64 bits. -/
structure Fit (n : Nat) (bs : Nat → Nat) : Prop where
  mono : ∀ i j, i ≤ j → j < n → bs i ≤ bs j
  b64 : ∀ i, i < n → bs i ≤ 18446744073709551615
theorem pick_at (bs : Nat → Nat) (r : Nat) : ∀ i, (pick bs r i = 0 ∨ bs (pick bs r i) ≤ r) ∧ ∀ j, pick bs r i < j → j ≤ i → r < bs j
  | 0 => ⟨.inl rfl, fun j h1 h2 => by rw [pick] at h1; omega⟩
  | i + 1 => by
    obtain ⟨h1, h2⟩ := pick_at bs r i
    by_cases h : bs (i + 1) ≤ r
    · rw [pick_stay h]; exact ⟨.inr h, fun j h3 h4 => by omega⟩
    · rw [pick_down h]
      refine ⟨h1, fun j h3 h4 => ?_⟩
      rcases Nat.lt_or_ge i j with h5 | h5
      · obtain rfl : j = i + 1 := by omega
        omega
      · exact h2 j h3 h5
theorem Fit.pushed {n : Nat} {bs : Nat → Nat} (h : Fit n bs) (hn : 0 < n) {r : Nat} (hr : r ≤ 18446744073709551615) : Fit n (pushed bs r (pick bs r (n - 1))) := by
  obtain ⟨h1, h2⟩ := pick_at bs r (n - 1)
  have hp := pick_le bs r (n - 1)
  unfold Go.Proofs.Ytopibbaopglggaa.pushed
  generalize pick bs r (n - 1) = p at *
  split
  · exact ⟨fun i j hij hj => by have := h.mono i j hij hj; unfold sunk; omega, fun i hi => by have := h.b64 i hi; unfold sunk; omega⟩
  · rename_i hno
    have hpr : bs p ≤ r := by
      rcases h1 with h1 | h1
      · subst h1; omega
      · exact h1
    refine ⟨fun i j hij hj => ?_, fun i hi => ?_⟩
    · by_cases hip : i = p <;> by_cases hjp : j = p
      · subst hip hjp; exact Nat.le_refl _
      · subst hip; rw [upd_at, upd_ne _ _ hjp]; have := h2 j (by omega) (by omega); omega
      · subst hjp; rw [upd_at, upd_ne _ _ hip]; have := h.mono i j hij hj; omega
      · rw [upd_ne _ _ hip, upd_ne _ _ hjp]; exact h.mono i j hij hj
    · by_cases hip : i = p
      · subst hip; rw [upd_at]; exact hr
      · rw [upd_ne _ _ hip]; exact h.b64 i hi
/-- The first queue of k that has things; k: there is none. -/
def lead {α : Type} (qs : Nat → List α) : Nat → Nat → Nat
  | i, 0 => i
  | i, f + 1 => if (qs i).length = 0 then lead qs (i + 1) f else i
end Go.Proofs.Ytopibbaopglggaa
