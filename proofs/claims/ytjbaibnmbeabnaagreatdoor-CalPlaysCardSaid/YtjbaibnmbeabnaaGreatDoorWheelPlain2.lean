/- What lies in a wheel, and what is due. No program in sight. -/
import Derived.Test.YtjbaibnmbeabnaaGreatDoorWheelPlain
namespace Go.Proofs.YtjbaibnmbeabnaaGreatDoor.Wheel
open Heap
/-- One thing put elsewhere. -/
def put {β : Type} (f : Nat → β) (o : Nat) (y : β) : Nat → β := fun i => if i = o then y else f i
theorem put_at {β : Type} (f : Nat → β) (o : Nat) (y : β) : put f o y o = y := if_pos rfl
theorem put_ne {β : Type} (f : Nat → β) {o i : Nat} (y : β) (h : i ≠ o) : put f o y i = f i := if_neg h
/-- Where lists lie: by levels and places, and aside. -/
def isRow (o : Nat) : Prop := (o < 715 ∧ o % 65 ≠ 0) ∨ o = 715
instance (o : Nat) : Decidable (isRow o) := inferInstanceAs (Decidable (_ ∨ _))
def rws : List Nat := (List.range 716).filter (fun o => decide (isRow o))
theorem mem_rws {o : Nat} : o ∈ rws ↔ isRow o := by
  unfold rws
  rw [List.mem_filter, List.mem_range, decide_eq_true_eq]
  unfold isRow
  omega
theorem nodup_rws : rws.Nodup := List.Pairwise.filter _ List.nodup_range
theorem isRow_slot {l i : Nat} (hl : l < 11) (hi : i < 64) : isRow (l * 65 + 1 + i) := by unfold isRow; omega
theorem isRow_late : isRow 715 := .inr rfl
theorem isRow_cases {o : Nat} (h : isRow o) : o = 715 ∨ ∃ l i, l < 11 ∧ i < 64 ∧ o = l * 65 + 1 + i := by
  rcases h with ⟨h1, h2⟩ | h
  · exact .inr ⟨o / 65, o % 65 - 1, by omega, by omega, by omega⟩
  · exact .inl h
/-- All that waits. -/
def all (qs : Nat → List En) : List En := rws.flatMap qs
theorem flat_at {L : List Nat} (hn : L.Nodup) {o : Nat} (h : o ∈ L) (qs : Nat → List En) : ∃ r : List En, (L.flatMap qs).Perm (qs o ++ r) ∧ ∀ y, (L.flatMap (put qs o y)).Perm (y ++ r) := by
  induction L with
  | nil => cases h
  | cons a L ih =>
    have hn' := List.nodup_cons.1 hn
    by_cases hao : a = o
    · subst hao
      refine ⟨L.flatMap qs, by rw [List.flatMap_cons], fun y => ?_⟩
      rw [List.flatMap_cons, put_at]
      have e : L.flatMap (put qs a y) = L.flatMap qs := by
        unfold List.flatMap
        congr 1
        exact List.map_congr_left fun x hx => put_ne _ _ (fun e => hn'.1 (e ▸ hx))
      rw [e]
    · have ho : o ∈ L := by
        rcases List.mem_cons.1 h with e | e
        · exact absurd e.symm hao
        · exact e
      obtain ⟨r, h1, h2⟩ := ih hn'.2 ho
      have hc : ∀ y : List En, (qs a ++ (y ++ r)).Perm (y ++ (qs a ++ r)) := fun y => by
        rw [← List.append_assoc, ← List.append_assoc]
        exact List.perm_append_comm.append_right r
      refine ⟨qs a ++ r, ?_, fun y => ?_⟩
      · rw [List.flatMap_cons]
        exact (h1.append_left _).trans (hc _)
      · rw [List.flatMap_cons, put_ne _ _ hao]
        exact ((h2 y).append_left _).trans (hc _)
theorem all_at (qs : Nat → List En) {o : Nat} (h : isRow o) : ∃ r : List En, (all qs).Perm (qs o ++ r) ∧ ∀ y, (all (put qs o y)).Perm (y ++ r) := flat_at nodup_rws (mem_rws.2 h) qs
theorem all_push (qs : Nat → List En) {o : Nat} (h : isRow o) (e : En) : (all (put qs o (qs o ++ [e]))).Perm (e :: all qs) := by
  obtain ⟨r, h1, h2⟩ := all_at qs h
  refine (h2 _).trans ?_
  rw [List.append_assoc]
  refine List.perm_middle.trans ?_
  exact h1.symm.cons e
theorem all_take (qs : Nat → List En) {o : Nat} (h : isRow o) : (qs o ++ all (put qs o [])).Perm (all qs) := by
  obtain ⟨r, h1, h2⟩ := all_at qs h
  have h3 := h2 []
  rw [List.nil_append] at h3
  exact (h3.append_left _).trans h1.symm
theorem mem_all {qs : Nat → List En} {e : En} : e ∈ all qs ↔ ∃ o, isRow o ∧ e ∈ qs o := by
  unfold all
  rw [List.mem_flatMap]
  constructor
  · rintro ⟨o, h1, h2⟩; exact ⟨o, mem_rws.1 h1, h2⟩
  · rintro ⟨o, h1, h2⟩; exact ⟨o, mem_rws.2 h1, h2⟩
theorem all_nil : all (fun _ => []) = [] := by
  unfold all
  exact List.flatMap_eq_nil_iff.2 fun _ _ => rfl
/-- Each lies where it belongs. -/
structure Lies (now : Nat) (qs : Nat → List En) : Prop where
  late : ∀ e ∈ qs 715, e.1 ≤ now
  slot : ∀ l i, l < 11 → i < 64 → ∀ e ∈ qs (l * 65 + 1 + i), Where now e.1 l ∧ plc l e.1 = i
theorem Lies.nil (now : Nat) : Lies now (fun _ => []) := ⟨fun _ h => (List.not_mem_nil h).elim, fun _ _ _ _ _ h => (List.not_mem_nil h).elim⟩
/-- Where an entry is laid. -/
def off (now at' : Nat) : Nat := if at' ≤ now then 715 else lvl now at' * 65 + 1 + plc (lvl now at') at'
theorem off_row {now at' : Nat} (h1 : now ≤ 18446744073709551615) (h2 : at' ≤ 18446744073709551615) : isRow (off now at') := by
  unfold off
  split
  · exact isRow_late
  · exact isRow_slot (by have := lvl_lt h1 h2; omega) (plc_lt _ _)
theorem slot_inj {l i m j : Nat} (hi : i < 64) (hj : j < 64) (h : l * 65 + 1 + i = m * 65 + 1 + j) : l = m ∧ i = j := by omega
theorem Lies.lay {now : Nat} {qs : Nat → List En} (h : Lies now qs) (e : En) (hb : e.1 ≤ 18446744073709551615) : Lies now (put qs (off now e.1) (qs (off now e.1) ++ [e])) := by
  refine ⟨fun x hx => ?_, fun l i hl hi x hx => ?_⟩
  · unfold off at hx
    split at hx
    · rename_i hle
      rw [put_at] at hx
      rcases List.mem_append.1 hx with hx | hx
      · exact h.late x hx
      · simp only [List.mem_singleton] at hx; subst hx; exact hle
    · rename_i hle
      by_cases e9 : 715 = lvl now e.1 * 65 + 1 + plc (lvl now e.1) e.1
      · have := plc_lt (lvl now e.1) e.1; omega
      · rw [put_ne _ _ e9] at hx; exact h.late x hx
  · by_cases e9 : l * 65 + 1 + i = off now e.1
    · rw [e9, put_at] at hx
      rcases List.mem_append.1 hx with hx | hx
      · rw [← e9] at hx; exact h.slot l i hl hi x hx
      · simp only [List.mem_singleton] at hx
        subst hx
        unfold off at e9
        split at e9
        · omega
        · obtain ⟨h1, h2⟩ := slot_inj hi (plc_lt _ _) e9
          subst h1
          exact ⟨where_lvl (by omega) hb, h2.symm⟩
    · rw [put_ne _ _ e9] at hx; exact h.slot l i hl hi x hx
/-- All places up to a time were emptied. -/
def Passed (now now' : Nat) (qs : Nat → List En) : Prop := ∀ l i, l < 11 → i < 64 → (l < lvl now now' ∨ (l = lvl now now' ∧ i ≤ plc l now')) → qs (l * 65 + 1 + i) = []
theorem Lies.pass {now now' : Nat} {qs qs' : Nat → List En} (h : Lies now qs) (hn : now < now') (hb : now' ≤ 18446744073709551615) (hs : ∀ o, qs' o = qs o ∨ qs' o = []) (hp : Passed now now' qs') : Lies now' qs' := by
  have sub : ∀ o, ∀ e ∈ qs' o, e ∈ qs o := fun o e he => by
    rcases hs o with h1 | h1
    · rw [h1] at he; exact he
    · rw [h1] at he; cases he
  refine ⟨fun e he => Nat.le_trans (h.late e (sub _ e he)) (Nat.le_of_lt hn), fun l i hl hi e he => ?_⟩
  obtain ⟨h1, h2⟩ := h.slot l i hl hi e (sub _ e he)
  refine ⟨where_stays h1 hn hb ?_, h2⟩
  rcases Nat.lt_trichotomy l (lvl now now') with h3 | h3 | h3
  · rw [hp l i hl hi (.inl h3)] at he; cases he
  · rcases Nat.lt_or_ge (plc l now') i with h4 | h4
    · exact .inr ⟨h3.symm, by rw [h2]; exact h4⟩
    · rw [hp l i hl hi (.inr ⟨h3, h4⟩)] at he; cases he
  · exact .inl h3
theorem Lies.slot_gt {now : Nat} {qs : Nat → List En} (h : Lies now qs) {o : Nat} (ho : isRow o) (hne : o ≠ 715) : ∀ e ∈ qs o, now < e.1 := fun e he => by
  rcases isRow_cases ho with rfl | ⟨l, i, hl, hi, rfl⟩
  · exact absurd rfl hne
  · exact where_lt (h.slot l i hl hi e he).1
/-- What lies aside is what is due. -/
theorem Lies.due {now : Nat} {qs : Nat → List En} (h : Lies now qs) {s : List En} (hp : s.Perm (all qs)) : (s.filter fun e => decide (e.1 ≤ now)).Perm (qs 715) ∧ (s.filter fun e => decide (now < e.1)).Perm (all (put qs 715 [])) := by
  obtain ⟨r, h1, h2⟩ := all_at qs isRow_late
  have h3 := h2 []
  rw [List.nil_append] at h3
  have hr : ∀ e ∈ r, now < e.1 := fun e he => by
    obtain ⟨o, ho, heo⟩ := mem_all.1 (h3.mem_iff.2 he)
    by_cases e9 : o = 715
    · subst e9; rw [put_at] at heo; cases heo
    · rw [put_ne _ _ e9] at heo; exact h.slot_gt ho e9 e heo
  have hpp := hp.trans h1
  have f1 := hpp.filter (fun e => decide (e.1 ≤ now))
  have f2 := hpp.filter (fun e => decide (now < e.1))
  rw [List.filter_append] at f1 f2
  have a1 : (qs 715).filter (fun e => decide (e.1 ≤ now)) = qs 715 := List.filter_eq_self.2 fun e he => by simp [h.late e he]
  have a2 : r.filter (fun e => decide (e.1 ≤ now)) = [] := List.filter_eq_nil_iff.2 fun e he => by have := hr e he; simp; omega
  have a3 : (qs 715).filter (fun e => decide (now < e.1)) = [] := List.filter_eq_nil_iff.2 fun e he => by have := h.late e he; simp; omega
  have a4 : r.filter (fun e => decide (now < e.1)) = r := List.filter_eq_self.2 fun e he => by simp [hr e he]
  rw [a1, a2, List.append_nil] at f1
  rw [a3, a4, List.nil_append] at f2
  exact ⟨f1, f2.trans h3.symm⟩
/-- The earliest time of entries. -/
def leastOf (L : List En) : Nat := L.foldl (fun m e => min m e.1) 18446744073709551615
theorem foldl_min (L : List En) : ∀ m, L.foldl (fun m e => min m e.1) m ≤ m ∧ (∀ e ∈ L, L.foldl (fun m e => min m e.1) m ≤ e.1) ∧ (L.foldl (fun m e => min m e.1) m = m ∨ ∃ e ∈ L, L.foldl (fun m e => min m e.1) m = e.1) := by
  induction L with
  | nil => exact fun m => ⟨Nat.le_refl _, fun e h => (List.not_mem_nil h).elim, .inl rfl⟩
  | cons a L ih =>
    intro m
    obtain ⟨h1, h2, h3⟩ := ih (min m a.1)
    rw [List.foldl_cons]
    refine ⟨by omega, fun e he => ?_, ?_⟩
    · rcases List.mem_cons.1 he with rfl | he
      · omega
      · exact h2 e he
    · rcases h3 with h3 | ⟨e, he, h3⟩
      · rcases Nat.le_total m a.1 with h4 | h4
        · exact .inl (by rw [h3]; omega)
        · exact .inr ⟨a, List.mem_cons_self .., by rw [h3]; omega⟩
      · exact .inr ⟨e, List.mem_cons_of_mem _ he, h3⟩
theorem leastOf_eq {L : List En} {a : En} (ha : a ∈ L) (hm : ∀ e ∈ L, a.1 ≤ e.1) (hb : a.1 ≤ 18446744073709551615) : leastOf L = a.1 := by
  obtain ⟨_, h2, h3⟩ := foldl_min L 18446744073709551615
  have h4 := h2 a ha
  unfold leastOf
  rcases h3 with h3 | ⟨e, he, h3⟩
  · omega
  · have := hm e he; omega
theorem head_le {a : En} {s : List En} (ho : (a :: s).Pairwise (fun a b => ahd a b = true)) : ∀ e ∈ a :: s, a.1 ≤ e.1 := fun e he => by
  rcases List.mem_cons.1 he with rfl | he
  · exact Nat.le_refl _
  · have := ahd_iff.1 ((List.pairwise_cons.1 ho).1 e he); omega
/-- The earliest of all lies aside, if anything does. -/
theorem Lies.least_late {now : Nat} {qs : Nat → List En} (h : Lies now qs) {a : En} {s : List En} (hp : (a :: s).Perm (all qs)) (ho : (a :: s).Pairwise (fun a b => ahd a b = true)) (hb : a.1 ≤ 18446744073709551615) (hne : qs 715 ≠ []) : leastOf (qs 715) = a.1 := by
  have hall : ∀ e ∈ qs 715, a.1 ≤ e.1 := fun e he => head_le ho e (hp.mem_iff.2 (mem_all.2 ⟨715, isRow_late, he⟩))
  refine leastOf_eq ?_ hall hb
  obtain ⟨o, hr, hao⟩ := mem_all.1 (hp.mem_iff.1 (List.mem_cons_self ..))
  by_cases e9 : o = 715
  · subst e9; exact hao
  · have h1 := h.slot_gt hr e9 a hao
    cases hq : qs 715 with
    | nil => exact absurd hq hne
    | cons x r =>
      have hx : x ∈ qs 715 := by rw [hq]; exact List.mem_cons_self ..
      have := h.late x hx
      have := hall x hx
      omega
/-- Else it lies in the first place that is not empty. -/
theorem Lies.least_slot {now : Nat} {qs : Nat → List En} (h : Lies now qs) {a : En} {s : List En} (hp : (a :: s).Perm (all qs)) (ho : (a :: s).Pairwise (fun a b => ahd a b = true)) (hb : a.1 ≤ 18446744073709551615) (hl : qs 715 = [])
    {l i : Nat} (hl11 : l < 11) (hi64 : i < 64) (hne : qs (l * 65 + 1 + i) ≠ []) (hlow : ∀ m j, m < l → j < 64 → qs (m * 65 + 1 + j) = []) (hlow2 : ∀ j, j < i → qs (l * 65 + 1 + j) = []) : leastOf (qs (l * 65 + 1 + i)) = a.1 := by
  have hall : ∀ e ∈ qs (l * 65 + 1 + i), a.1 ≤ e.1 := fun e he => head_le ho e (hp.mem_iff.2 (mem_all.2 ⟨_, isRow_slot hl11 hi64, he⟩))
  refine leastOf_eq ?_ hall hb
  obtain ⟨o, hr, hao⟩ := mem_all.1 (hp.mem_iff.1 (List.mem_cons_self ..))
  rcases isRow_cases hr with rfl | ⟨m, j, hm, hj, rfl⟩
  · rw [hl] at hao; cases hao
  · by_cases e9 : m = l ∧ j = i
    · obtain ⟨rfl, rfl⟩ := e9; exact hao
    · exfalso
      have hgt : l < m ∨ (l = m ∧ i < j) := by
        rcases Nat.lt_trichotomy m l with h1 | h1 | h1
        · rw [hlow m j h1 hj] at hao; cases hao
        · subst h1
          rcases Nat.lt_trichotomy j i with h2 | h2 | h2
          · rw [hlow2 j h2] at hao; cases hao
          · exact absurd ⟨rfl, h2⟩ e9
          · exact .inr ⟨rfl, h2⟩
        · exact .inl h1
      cases hq : qs (l * 65 + 1 + i) with
      | nil => exact hne hq
      | cons x r =>
        have hx : x ∈ qs (l * 65 + 1 + i) := by rw [hq]; exact List.mem_cons_self ..
        obtain ⟨w1, p1⟩ := h.slot l i hl11 hi64 x hx
        obtain ⟨w2, p2⟩ := h.slot m j hm hj a hao
        have h9 := where_ahead w1 w2 (by rcases hgt with h1 | ⟨h1, h2⟩; exact .inl h1; exact .inr ⟨h1, by subst h1; rw [p1, p2]; exact h2⟩)
        have := hall x hx
        omega
end Go.Proofs.YtjbaibnmbeabnaaGreatDoor.Wheel
