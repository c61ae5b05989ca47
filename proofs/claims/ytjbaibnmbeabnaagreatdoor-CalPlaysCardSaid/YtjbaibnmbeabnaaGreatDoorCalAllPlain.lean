/- A calendar: all items, day by day. No program in sight. -/
import Derived.Test.YtjbaibnmbeabnaaGreatDoorCalPlain
namespace Go.Proofs.YtjbaibnmbeabnaaGreatDoor.Cal
open Heap Pool
section
variable {α : Type}
theorem filt_none {l : List (Nat × α)} {k : Nat} (h : ∀ a ∈ l, k ≤ a.1) : l.filter (fun a => decide (a.1 < k)) = [] := List.filter_eq_nil_iff.2 fun a ha => by
  have := h a ha; simp; omega
/-- One rank more. -/
theorem rises_step {k : Nat} : ∀ {l : List (Nat × α)}, Rises l → l.filter (fun a => decide (a.1 < k + 1)) = l.filter (fun a => decide (a.1 < k)) ++ l.filter (fun a => decide (a.1 = k))
  | [], _ => rfl
  | a :: t, h => by
    have h1 := List.pairwise_cons.1 h
    have ih := rises_step (k := k) h1.2
    rcases Nat.lt_trichotomy a.1 k with e | e | e
    · rw [List.filter_cons_of_pos (by simp; omega), List.filter_cons_of_pos (by simpa using e), List.filter_cons_of_neg (by simp; omega), ih]; rfl
    · have h2 : t.filter (fun b => decide (b.1 < k)) = [] := filt_none fun b hb => by have := h1.1 b hb; omega
      rw [List.filter_cons_of_pos (by simp; omega), List.filter_cons_of_neg (by simp; omega), List.filter_cons_of_pos (by simpa using e), ih, h2]; rfl
    · rw [List.filter_cons_of_neg (by simp; omega), List.filter_cons_of_neg (by simp; omega), List.filter_cons_of_neg (by simp; omega), ih]
/-- A rising list, rank by rank. -/
theorem rises_ranks {base : Nat} {l : List (Nat × α)} (h : Rises l) (hb : ∀ a ∈ l, base ≤ a.1) : ∀ N, l.filter (fun a => decide (a.1 < base + N)) = (List.range N).flatMap (fun d => l.filter (fun a => decide (a.1 = base + d)))
  | 0 => by simpa using filt_none hb
  | N + 1 => by
    rw [List.range_succ, List.flatMap_append, ← rises_ranks h hb N, ← Nat.add_assoc, rises_step h]
    simp
theorem rank_day {N base d : Nat} {l : List (Nat × α)} (hd : d < N) (hin : ∀ a ∈ l, base ≤ a.1 ∧ a.1 < base + N) : l.filter (fun a => decide (a.1 = base + d)) = (dayq N ((base + d) % N) l).map (fun x => (base + d, x)) := by
  induction l with
  | nil => rfl
  | cons a t ih =>
    have ih := ih (fun b hb => hin b (List.mem_cons_of_mem _ hb))
    have ha := hin a (List.mem_cons_self ..)
    rw [dayq_cons]
    by_cases e : a.1 = base + d
    · rw [List.filter_cons_of_pos (by simpa using e), if_pos (by rw [e]), List.map_cons, ih]
      congr 1
      exact Prod.ext e rfl
    · rw [List.filter_cons_of_neg (by simpa using e), if_neg (fun h => e (same_day ha.1 ha.2 (by omega) (by omega) h)), ih]
/-- Days, rising. -/
def days (N : Nat) (D : Nat → Bool) : List Nat := (List.range N).filter D
theorem flat_filter {β : Type} (D : Nat → Bool) (g : Nat → List β) (h : ∀ q, D q = false → g q = []) : ∀ l : List Nat, (l.filter D).flatMap g = l.flatMap g
  | [] => rfl
  | a :: t => by
    rw [List.flatMap_cons, ← flat_filter D g h t]
    cases hD : D a with
    | true => rw [List.filter_cons_of_pos hD, List.flatMap_cons]
    | false => rw [List.filter_cons_of_neg (by simp [hD]), h a hD, List.nil_append]
theorem range_lt {f : Nat} : ∀ {N : Nat}, f ≤ N → (List.range N).filter (fun q => decide (q < f)) = List.range f
  | 0, h => by rw [show f = 0 by omega]; rfl
  | N + 1, h => by
    rw [List.range_succ, List.filter_append]
    rcases Nat.lt_or_ge N f with h1 | h1
    · have e : f = N + 1 := by omega
      subst e
      rw [List.filter_eq_self.2 (fun a ha => by have := List.mem_range.1 ha; simp; omega), List.filter_cons_of_pos (by simp), List.range_succ]; rfl
    · rw [range_lt h1, List.filter_cons_of_neg (by simp; omega)]; simp
theorem range_ge {β : Type} (g : Nat → List β) (f : Nat) : ∀ {N : Nat}, f ≤ N → ((List.range N).filter (fun q => decide (f ≤ q))).flatMap g = (List.range (N - f)).flatMap (fun d => g (f + d))
  | 0, h => by rw [show f = 0 by omega]; rfl
  | N + 1, h => by
    rw [List.range_succ, List.filter_append, List.flatMap_append]
    rcases Nat.lt_or_ge N f with h1 | h1
    · have e : f = N + 1 := by omega
      subst e
      rw [List.filter_eq_nil_iff.2 (fun a ha => by have := List.mem_range.1 ha; simp; omega), List.filter_cons_of_neg (by simp), Nat.sub_self]; rfl
    · rw [range_ge g f h1, List.filter_cons_of_pos (by simpa using h1), show N + 1 - f = (N - f) + 1 by omega, List.range_succ, List.flatMap_append]
      simp only [List.filter_nil, List.flatMap_cons, List.flatMap_nil, List.append_nil]
      rw [show f + (N - f) = N by omega]
theorem range_add {β : Type} (g : Nat → List β) (a : Nat) : ∀ b, (List.range (a + b)).flatMap g = (List.range a).flatMap g ++ (List.range b).flatMap (fun d => g (a + d))
  | 0 => by simp
  | b + 1 => by
    rw [← Nat.add_assoc, List.range_succ, List.flatMap_append, range_add g a b, List.range_succ, List.flatMap_append, List.append_assoc]
    simp
/-- The items of a day: its rank, by the day the window begins with. -/
def dayl (N base f : Nat) (X : Nat → List α) (q : Nat) : List (Nat × α) := (X q).map (fun x => (base + (q + N - f) % N, x))
/-- Days from the window's first one on, round about: what is in the window. -/
theorem win_days {N base f : Nat} {X : Nat → List α} {W : List (Nat × α)} (h : Win N base X W) (hr : Rises W) (hf : base % N = f) (hN : 0 < N) :
    (((List.range N).filter (fun q => decide (f ≤ q))).flatMap (dayl N base f X) ++ ((List.range N).filter (fun q => decide (q < f))).flatMap (dayl N base f X)) = W := by
  have hfN : f < N := by rw [← hf]; exact Nat.mod_lt _ hN
  have e1 := rises_ranks hr (fun a ha => (h.inw a ha).1) N
  rw [List.filter_eq_self.2 (fun a ha => by have := (h.inw a ha).2; simpa using this)] at e1
  have e2 : ∀ d, d < N → W.filter (fun a => decide (a.1 = base + d)) = dayl N base f X ((f + d) % N) := fun d hd => by
    rw [rank_day hd h.inw, ← h.que _ (Nat.mod_lt _ hN)]
    unfold dayl
    have e3 : (base + d) % N = (f + d) % N := by rw [← hf, Nat.mod_add_mod]
    rw [e3]
    have e4 : ((f + d) % N + N - f) % N = d := by
      rcases Nat.lt_or_ge (f + d) N with h1 | h1
      · rw [Nat.mod_eq_of_lt h1, show f + d + N - f = d + N by omega, Nat.add_mod_right]; exact Nat.mod_eq_of_lt hd
      · rw [Nat.mod_eq_sub_mod h1, Nat.mod_eq_of_lt (show f + d - N < N by omega), show f + d - N + N - f = d by omega]; exact Nat.mod_eq_of_lt hd
    rw [e4]
  have e5 : (List.range N).flatMap (fun d => W.filter (fun a => decide (a.1 = base + d))) = (List.range N).flatMap (fun d => dayl N base f X ((f + d) % N)) := by
    rw [List.flatMap_def, List.flatMap_def]
    congr 1
    exact List.map_congr_left fun d hd => e2 d (List.mem_range.1 hd)
  rw [e5] at e1
  rw [range_lt (Nat.le_of_lt hfN), range_ge _ f (Nat.le_of_lt hfN)]
  have e6 := range_add (fun d => dayl N base f X ((f + d) % N)) (N - f) f
  rw [show N - f + f = N by omega, ← e1] at e6
  rw [e6]
  congr 1
  · rw [List.flatMap_def, List.flatMap_def]
    congr 1
    refine List.map_congr_left fun d hd => ?_
    have := List.mem_range.1 hd
    rw [Nat.mod_eq_of_lt (by omega)]
  · rw [List.flatMap_def, List.flatMap_def]
    congr 1
    refine List.map_congr_left fun d hd => ?_
    have := List.mem_range.1 hd
    show dayl N base f X d = dayl N base f X ((f + (N - f + d)) % N)
    rw [show f + (N - f + d) = d + N by omega, Nat.add_mod_right, Nat.mod_eq_of_lt (by omega)]
/-- The days that have things, from the first on. -/
def turnD (N f : Nat) (D : Nat → Bool) : List Nat := (days N D).filter (fun q => decide (f ≤ q)) ++ (days N D).filter (fun q => decide (q < f))
theorem win_all {N base f : Nat} {X : Nat → List α} {W : List (Nat × α)} {D : Nat → Bool} (h : Win N base X W) (hr : Rises W) (hf : base % N = f) (hN : 0 < N) (hD : ∀ q, D q = false → X q = []) : (turnD N f D).flatMap (dayl N base f X) = W := by
  have hg : ∀ q, D q = false → dayl N base f X q = [] := fun q hq => by unfold dayl; rw [hD q hq]; rfl
  unfold turnD days
  rw [List.flatMap_append]
  have e : ∀ P : Nat → Bool, (((List.range N).filter D).filter P).flatMap (dayl N base f X) = ((List.range N).filter P).flatMap (dayl N base f X) := fun P => by
    rw [List.filter_filter, show (fun a => P a && D a) = (fun a => D a && P a) from funext fun a => Bool.and_comm _ _, ← List.filter_filter]
    exact flat_filter D _ hg _
  rw [e, e]
  exact win_days h hr hf hN
/-- There are no more days than things. -/
theorem days_le {D : Nat → Bool} (X : Nat → List α) (hD : ∀ q, D q = true → X q ≠ []) : ∀ N, (days N D).length ≤ ((List.range N).flatMap X).length
  | 0 => Nat.le_refl _
  | N + 1 => by
    have ih := days_le X hD N
    unfold days at ih ⊢
    rw [List.range_succ, List.filter_append, List.flatMap_append, List.length_append, List.length_append]
    cases h : D N with
    | true =>
      rw [List.filter_cons_of_pos h]
      have h1 : 1 ≤ (X N).length := by
        cases hx : X N with
        | nil => exact absurd hx (hD N h)
        | cons a t => simp
      simp only [List.filter_nil, List.length_cons, List.length_nil, List.flatMap_cons, List.flatMap_nil, List.append_nil]
      omega
    | false =>
      rw [List.filter_cons_of_neg (by simp [h])]
      simp only [List.filter_nil, List.length_nil]
      omega
end
end Go.Proofs.YtjbaibnmbeabnaaGreatDoor.Cal
