/- Items of all classes in one list, and each class's own. No program in sight. -/
import Derived.Test.YtopibbaopglggaaRef29Core
import Derived.Test.YtopibbaopglggaaDrrPlain
namespace Go.Proofs.Ytopibbaopglggaa.Ref29
open Drr (Items)
/-- A class's items. -/
def perC (its : List It) : Items := fun i => (its.filter (fun e => e.1 == i)).map (fun e => e.2)
theorem perC_nil : perC [] = fun _ => [] := rfl
theorem perC_append (l m : List It) : perC (l ++ m) = fun i => perC l i ++ perC m i := by
  funext i; unfold perC; rw [List.filter_append, List.map_append]
theorem perC_one (e : It) (i : Nat) : perC [e] i = if i = e.1 then [e.2] else [] := by
  unfold perC
  by_cases h : i = e.1
  · rw [if_pos h]; simp [h]
  · rw [if_neg h]
    have : (e.1 == i) = false := by simp; omega
    simp [this]
theorem perC_push (l : List It) (e : It) : perC (l ++ [e]) = upd (perC l) e.1 (perC l e.1 ++ [e.2]) := by
  rw [perC_append]
  funext i
  simp only [perC_one]
  unfold upd
  by_cases h : i = e.1
  · subst h; rw [if_pos rfl, if_pos rfl]
  · rw [if_neg h, if_neg h, List.append_nil]
/-- Where a class's first item is, and what is left without it. -/
theorem first_ex {its : List It} {c : Nat} {x : Nat × Int} {t : List (Nat × Int)} (h : perC its c = x :: t) :
    ∃ i, its[i]? = some (c, x) ∧ (∀ j, j < i → ∀ e', its[j]? = some e' → e'.1 ≠ c) ∧ perC (its.take i ++ its.drop (i + 1)) = upd (perC its) c t := by
  induction its with
  | nil => cases h
  | cons e r ih =>
    have hc : e :: r = [e] ++ r := rfl
    by_cases hec : e.1 = c
    · refine ⟨0, ?_, fun j hj => absurd hj (Nat.not_lt_zero _), ?_⟩
      · have h1 : perC (e :: r) c = e.2 :: perC r c := by rw [hc, perC_append]; simp only [perC_one]; rw [if_pos hec.symm]; rfl
        rw [h1] at h
        injection h with h2 h3
        rw [← h2, ← hec]; rfl
      · have h1 : perC (e :: r) c = e.2 :: perC r c := by rw [hc, perC_append]; simp only [perC_one]; rw [if_pos hec.symm]; rfl
        rw [h1] at h
        injection h with h2 h3
        show perC r = _
        funext i
        unfold upd
        by_cases hic : i = c
        · subst hic; rw [if_pos rfl]; exact h3
        · rw [if_neg hic, hc, perC_append]; simp only [perC_one]; rw [if_neg (by omega)]; rfl
    · have h1 : perC (e :: r) c = perC r c := by rw [hc, perC_append]; simp only [perC_one]; rw [if_neg (fun e' => hec e'.symm)]; rfl
      rw [h1] at h
      obtain ⟨i, a1, a2, a3⟩ := ih h
      refine ⟨i + 1, a1, fun j hj e' he' => ?_, ?_⟩
      · cases j with
        | zero => obtain rfl := Option.some.inj he'; exact hec
        | succ j => exact a2 j (by omega) e' he'
      · have h2 : (e :: r).take (i + 1) ++ (e :: r).drop (i + 1 + 1) = [e] ++ (r.take i ++ r.drop (i + 1)) := rfl
        rw [h2, perC_append, a3, hc, perC_append]
        funext k
        simp only [perC_one]
        unfold upd
        by_cases hkc : k = c
        · subst hkc; rw [if_pos rfl, if_pos rfl, if_neg (fun e' => hec e'.symm)]; rfl
        · rw [if_neg hkc, if_neg hkc]
theorem perC_len {n : Nat} : ∀ {its : List It}, (∀ e ∈ its, e.1 < n) → tot (perC its) n = its.length := by
  intro its
  induction its with
  | nil =>
    intro _
    have : ∀ k, tot (perC []) k = 0 := fun k => by
      induction k with
      | zero => rfl
      | succ k ih => rw [tot, ih]; rfl
    exact this n
  | cons e r ih =>
    intro h
    have hr := ih (fun e' he' => h e' (List.mem_cons_of_mem _ he'))
    have he := h e List.mem_cons_self
    have hu : perC (e :: r) = upd (perC r) e.1 (e.2 :: perC r e.1) := by
      rw [show e :: r = [e] ++ r from rfl, perC_append]
      funext i
      simp only [perC_one]
      unfold upd
      by_cases hi : i = e.1
      · subst hi; rw [if_pos rfl, if_pos rfl]; rfl
      · rw [if_neg hi, if_neg hi]; rfl
    have h2 := tot_upd (perC r) e.1 (e.2 :: perC r e.1) n he
    rw [← hu] at h2
    simp only [List.length_cons] at h2 ⊢
    omega
end Go.Proofs.Ytopibbaopglggaa.Ref29
