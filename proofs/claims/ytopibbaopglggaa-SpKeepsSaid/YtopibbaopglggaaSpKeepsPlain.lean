/- SpKeeps, the plain law: what leaves, leaves by queues, and in a queue in the order in which it came. No program in sight. -/
import Derived.Test.YtopibbaopglggaaSpPlain
namespace Go.Proofs.Ytopibbaopglggaa.Keeps
variable (av : Nat → Nat) (m : Nat)
/-- Item j still waits, behind the last one that left: of queue q, and number t. -/
def lv (q : Nat) (t : Int) (j : Nat) : Bool := decide (q < av j ∨ (av j = q ∧ t < (j : Int)))
/-- What waits in queue i. -/
def fl (q : Nat) (t : Int) (i : Nat) : List Nat := (List.range m).filter fun j => decide (av j = i) && lv av q t j
variable {av m}
theorem mem_fl {q : Nat} {t : Int} {i j : Nat} : j ∈ fl av m q t i ↔ j < m ∧ av j = i ∧ (q < av j ∨ (av j = q ∧ t < (j : Int))) := by
  simp [fl, lv]
theorem lv_iff {q : Nat} {t : Int} {j : Nat} : lv av q t j = true ↔ (q < av j ∨ (av j = q ∧ t < (j : Int))) := by simp [lv]
/-- Behind the first of a filtered row: those that are greater. -/
theorem filter_cons (P : Nat → Bool) : ∀ (m a x : Nat) (t : List Nat), (List.range' a m).filter P = x :: t → t = (List.range' a m).filter (fun j => P j && decide (x < j)) ∧ ∀ j, j ∈ t → x < j
  | 0, a, x, t, h => by simp at h
  | m + 1, a, x, t, h => by
    rw [List.range'_succ, List.filter_cons] at h
    rw [List.range'_succ, List.filter_cons]
    by_cases hp : P a = true
    · rw [if_pos hp] at h
      simp only [List.cons.injEq] at h
      obtain ⟨rfl, rfl⟩ := h
      rw [if_neg (by simp)]
      refine ⟨List.filter_congr fun j hj => ?_, fun j hj => ?_⟩
      · have := (List.mem_range'_1.1 hj).1
        simp [show a < j by omega]
      · have := (List.mem_range'_1.1 (List.mem_filter.1 hj).1).1
        omega
    · rw [if_neg hp] at h
      obtain ⟨h1, h2⟩ := filter_cons P m (a + 1) x t h
      rw [if_neg (by simp [hp])]
      exact ⟨h1, h2⟩
/-- One leaves: the first of the first queue that has things. -/
theorem step {q : Nat} {t : Int} {i x : Nat} {r : List Nat} (hlow : ∀ k, k < i → fl av m q t k = []) (hx : fl av m q t i = x :: r) :
    x < m ∧ av x = i ∧ q ≤ i ∧ (i = q → t < (x : Int)) ∧ lv av q t x = true ∧ (∀ k, fl av m i x k = if k = i then r else fl av m q t k) ∧ ∀ j, j < m → lv av i x j = (lv av q t j && decide (j ≠ x)) := by
  have hm : x ∈ fl av m q t i := by rw [hx]; exact List.mem_cons_self ..
  obtain ⟨h1, h2, h3⟩ := mem_fl.1 hm
  have hq : q ≤ i := by rcases h3 with h3 | h3 <;> omega
  have hr := hx
  unfold fl at hr
  rw [List.range_eq_range'] at hr
  obtain ⟨hr1, hr2⟩ := filter_cons _ m 0 x r hr
  have hnew : ∀ j, j < m → lv av i x j = (lv av q t j && decide (j ≠ x)) := fun j hj => by
    have e : (lv av i x j = true) ↔ (lv av q t j && decide (j ≠ x)) = true := by
      rw [Bool.and_eq_true, lv_iff, lv_iff, decide_eq_true_iff]
      constructor
      · intro h
        refine ⟨?_, fun e => by subst e; rcases h with h | ⟨_, h⟩ <;> omega⟩
        rcases h with h | ⟨h, h'⟩
        · left; omega
        · rcases h3 with h3 | ⟨h3, h4⟩
          · left; omega
          · right; omega
      · rintro ⟨h, hne⟩
        rcases Nat.lt_trichotomy (av j) i with hlt | heq | hgt
        · have : j ∈ fl av m q t (av j) := mem_fl.2 ⟨hj, rfl, h⟩
          rw [hlow _ hlt] at this; cases this
        · have : j ∈ fl av m q t i := mem_fl.2 ⟨hj, heq, h⟩
          rw [hx] at this
          rcases List.mem_cons.1 this with e | e
          · exact absurd e hne
          · have := hr2 j e; right; exact ⟨heq, by omega⟩
        · left; exact hgt
    cases h : lv av i x j <;> cases h' : (lv av q t j && decide (j ≠ x)) <;> simp_all
  refine ⟨h1, h2, hq, fun e => ?_, lv_iff.2 h3, fun k => ?_, hnew⟩
  · rcases h3 with h3 | h3
    · omega
    · exact h3.2
  · by_cases hk : k = i
    · rw [if_pos hk]
      subst hk
      rw [hr1]
      unfold fl
      rw [List.range_eq_range']
      refine List.filter_congr fun j hj => ?_
      have hjm : j < m := by have := (List.mem_range'_1.1 hj).2; omega
      rw [hnew j hjm]
      by_cases hav : av j = k
      · have hjx : lv av q t j = true → (decide (j ≠ x) = decide (x < j)) := fun hl => by
          have : j ∈ fl av m q t k := mem_fl.2 ⟨hjm, hav, lv_iff.1 hl⟩
          rw [hx] at this
          rcases List.mem_cons.1 this with e | e
          · subst e; simp
          · have := hr2 j e
            rw [decide_eq_true (by omega), decide_eq_true this]
        cases hl : lv av q t j with
        | false => simp
        | true => rw [hjx hl]; simp
      · simp [hav]
    · rw [if_neg hk]
      unfold fl
      refine List.filter_congr fun j hj => ?_
      have hjm : j < m := List.mem_range.1 hj
      rw [hnew j hjm]
      by_cases hav : av j = k
      · have hjx : j ≠ x := fun e => by subst e; omega
        simp [hjx]
      · simp [hav]
/-- A row of pairs, of numbers. -/
def row (rk : Nat → Nat) (l : List Nat) : List (Int × Int) := l.map fun j => ((rk j : Int), (j : Int))
/-- The first queue that has things. -/
theorem first_of {α : Type} (qs : Nat → List α) : ∀ n, 0 < tot qs n → ∃ i, i < n ∧ (∀ k, k < i → (qs k).length = 0) ∧ 0 < (qs i).length
  | 0, h => by simp [tot] at h
  | n + 1, h => by
    by_cases h0 : 0 < tot qs n
    · obtain ⟨i, h1, h2, h3⟩ := first_of qs n h0
      exact ⟨i, by omega, h2, h3⟩
    · rw [tot] at h
      refine ⟨n, by omega, fun k hk => ?_, by omega⟩
      have := tot_le qs hk; omega
/-- All items, as they were pushed. -/
def pushedTo (av : Nat → Nat) (rk : Nat → Nat) (k : Nat) : Nat → List (Int × Int) := fun i => row rk ((List.range k).filter fun j => decide (av j = i))
theorem pushedTo_succ (av : Nat → Nat) (rk : Nat → Nat) (k : Nat) : pushedTo av rk (k + 1) = upd (pushedTo av rk k) (av k) (pushedTo av rk k (av k) ++ [((rk k : Int), (k : Int))]) := by
  funext i
  unfold pushedTo upd row
  by_cases h : i = av k
  · subst h
    rw [if_pos rfl, List.range_succ, List.filter_append, List.map_append]
    simp
  · rw [if_neg h, List.range_succ, List.filter_append]
    simp [Ne.symm h]
theorem pushedTo_all (av : Nat → Nat) (rk : Nat → Nat) (m : Nat) : pushedTo av rk m = fun i => row rk (fl av m 0 (-1) i) := by
  funext i
  unfold pushedTo fl
  congr 1
  refine List.filter_congr fun j _ => ?_
  have : lv av 0 (-1) j = true := lv_iff.2 (by omega)
  rw [this]; simp
end Go.Proofs.Ytopibbaopglggaa.Keeps
