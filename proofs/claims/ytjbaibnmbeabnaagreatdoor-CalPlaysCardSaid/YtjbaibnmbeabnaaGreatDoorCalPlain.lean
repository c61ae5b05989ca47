/- A calendar: what waits below, in the window, and above; a heap's entries in order. No program in sight. -/
import Derived.Test.YtjbaibnmbeabnaaGreatDoorHeapPlain
import Derived.Test.YtjbaibnmbeabnaaGreatDoorPcs
import Derived.Test.YtjbaibnmbeabnaaGreatDoorPoolPlain
namespace Go.Proofs.YtjbaibnmbeabnaaGreatDoor.Cal
open Heap Pool
section
variable {α : Type}
/-- A thing comes in behind all that are not above it. -/
def ins (r : Nat) (x : α) : List (Nat × α) → List (Nat × α)
  | [] => [(r, x)]
  | a :: t => if r < a.1 then (r, x) :: a :: t else a :: ins r x t
/-- An item: an entry without when it came. -/
def itm (e : Ent α) : Nat × α := (e.1, e.2.2)
/-- The items of entries. -/
def itms (s : List (Ent α)) : List (Nat × α) := s.map itm
theorem itms_len (s : List (Ent α)) : (itms s).length = s.length := by simp [itms]
/-- The list s has the heap's entries in order. -/
structure Mt (came : Nat) (l s : List (Ent α)) : Prop where
  perm : s.Perm l
  ord : s.Pairwise (fun a b => ahd a b = true)
  old : ∀ e ∈ s, e.2.1 < came
theorem Mt.nil : Mt 0 ([] : List (Ent α)) [] := ⟨List.Perm.refl _, List.Pairwise.nil, fun e h => by cases h⟩
theorem Mt.len {came : Nat} {l s : List (Ent α)} (h : Mt came l s) : s.length = l.length := h.perm.length_eq
/-- An entry comes in behind all that are not above it. -/
def insE (p : Ent α) : List (Ent α) → List (Ent α)
  | [] => [p]
  | a :: r => if p.1 < a.1 then p :: a :: r else a :: insE p r
theorem insE_perm (p : Ent α) (l : List (Ent α)) : (insE p l).Perm (p :: l) := by
  induction l with
  | nil => exact List.Perm.refl _
  | cons a r ih =>
    unfold insE
    split
    · exact List.Perm.refl _
    · exact (ih.cons a).trans (List.Perm.swap p a r)
theorem itms_ins (p : Ent α) (l : List (Ent α)) : itms (insE p l) = ins (itm p).1 (itm p).2 (itms l) := by
  induction l with
  | nil => rfl
  | cons a r ih =>
    unfold itms at ih ⊢
    simp only [insE, List.map_cons, ins]
    by_cases h : p.1 < a.1
    · rw [if_pos h, if_pos (show (itm p).1 < (itm a).1 from h)]; rfl
    · rw [if_neg h, if_neg (show ¬ (itm p).1 < (itm a).1 from h), List.map_cons, ih]
theorem insE_ord (p : Ent α) (l : List (Ent α)) (ho : l.Pairwise (fun a b => ahd a b = true)) (hp : ∀ e ∈ l, e.2.1 < p.2.1) : (insE p l).Pairwise (fun a b => ahd a b = true) := by
  induction l with
  | nil => simp [insE]
  | cons a r ih =>
    unfold insE
    have ho' := List.pairwise_cons.1 ho
    split
    · rename_i h
      refine List.pairwise_cons.2 ⟨fun e he => ?_, ho⟩
      rcases List.mem_cons.1 he with rfl | he
      · exact ahd_iff.2 (.inl h)
      · have := ahd_iff.1 (ho'.1 e he); exact ahd_iff.2 (by omega)
    · rename_i h
      refine List.pairwise_cons.2 ⟨fun e he => ?_, ih ho'.2 (fun e he => hp e (List.mem_cons_of_mem _ he))⟩
      rcases List.mem_cons.1 ((insE_perm p r).mem_iff.1 he) with rfl | he
      · have := hp a List.mem_cons_self; exact ahd_iff.2 (by omega)
      · exact ho'.1 e he
theorem Mt.push {came : Nat} {l s : List (Ent α)} (h : Mt came l s) (x : Nat) (y : α) : Mt (came + 1) (pushL l (x, came, y)) (insE (x, came, y) s) := by
  refine ⟨((insE_perm _ _).trans (h.perm.cons _)).trans (push_perm l _).symm, insE_ord _ _ h.ord h.old, fun e he => ?_⟩
  rcases List.mem_cons.1 ((insE_perm _ _).mem_iff.1 he) with rfl | he
  · exact Nat.lt_succ_self _
  · exact Nat.lt_succ_of_lt (h.old e he)
theorem Mt.head {came : Nat} {l s : List (Ent α)} {a : Ent α} (h : Mt came l (a :: s)) (hh : IsHeap l) : l[0]? = some a := by
  cases l with
  | nil => have := h.len; simp at this
  | cons b r =>
    have hb : b ∈ a :: s := h.perm.mem_iff.2 List.mem_cons_self
    rcases List.mem_cons.1 hb with rfl | hb
    · rfl
    · have h1 := (List.pairwise_cons.1 h.ord).1 b hb
      have h2 := heap_least hh (a := b) rfl a (h.perm.mem_iff.1 List.mem_cons_self)
      rw [h1] at h2; cases h2
theorem Mt.pop {came : Nat} {l s : List (Ent α)} {a : Ent α} (h : Mt came l (a :: s)) (hh : IsHeap l) : Mt came (popL l) s := by
  have h0 := h.head hh
  cases l with
  | nil => cases h0
  | cons b r =>
    obtain rfl := Option.some.inj h0
    exact ⟨(List.perm_cons _).1 h.perm |>.trans (pop_perm b r).symm, (List.pairwise_cons.1 h.ord).2, fun e he => h.old e (List.mem_cons_of_mem _ he)⟩
theorem Mt.none {came : Nat} {l : List (Ent α)} (h : Mt came l []) : l = [] := by
  have := h.len; cases l with | nil => rfl | cons a r => simp at this
/-- Ranks that never fall. -/
def Rises (l : List (Nat × α)) : Prop := l.Pairwise (fun a b => a.1 ≤ b.1)
theorem ins_mem {r : Nat} {x : α} {l : List (Nat × α)} {a : Nat × α} : a ∈ ins r x l ↔ a = (r, x) ∨ a ∈ l := by
  induction l with
  | nil => simp [ins]
  | cons b t ih =>
    unfold ins
    split
    · simp
    · simp [ih]; constructor
      · rintro (h | h | h)
        · exact .inr (.inl h)
        · exact .inl h
        · exact .inr (.inr h)
      · rintro (h | h | h)
        · exact .inr (.inl h)
        · exact .inl h
        · exact .inr (.inr h)
theorem ins_len (r : Nat) (x : α) (l : List (Nat × α)) : (ins r x l).length = l.length + 1 := by
  induction l with
  | nil => rfl
  | cons b t ih => unfold ins; split <;> simp [ih]
theorem ins_rises {r : Nat} {x : α} {l : List (Nat × α)} (h : Rises l) : Rises (ins r x l) := by
  induction l with
  | nil => simp [ins, Rises]
  | cons b t ih =>
    have h' := List.pairwise_cons.1 h
    unfold ins
    split
    · rename_i hlt
      refine List.pairwise_cons.2 ⟨fun a ha => ?_, h⟩
      rcases List.mem_cons.1 ha with rfl | ha
      · exact Nat.le_of_lt hlt
      · have := h'.1 a ha; show r ≤ a.1; omega
    · rename_i hlt
      refine List.pairwise_cons.2 ⟨fun a ha => ?_, ih h'.2⟩
      rcases ins_mem.1 ha with rfl | ha
      · show b.1 ≤ r; omega
      · exact h'.1 a ha
theorem ins_behind {r : Nat} {x : α} {A B : List (Nat × α)} (h : ∀ a ∈ A, a.1 ≤ r) : ins r x (A ++ B) = A ++ ins r x B := by
  induction A with
  | nil => rfl
  | cons a t ih =>
    have := h a (List.mem_cons_self ..)
    simp only [List.cons_append, ins]
    rw [if_neg (by omega), ih (fun b hb => h b (List.mem_cons_of_mem _ hb))]
theorem ins_ahead {r : Nat} {x : α} {A B : List (Nat × α)} (h : ∀ b ∈ B, r < b.1) : ins r x (A ++ B) = ins r x A ++ B := by
  induction A with
  | nil =>
    cases B with
    | nil => rfl
    | cons b t => simp only [List.nil_append, ins]; rw [if_pos (h b (List.mem_cons_self ..))]; rfl
  | cons a t ih =>
    simp only [List.cons_append, ins]
    split
    · rfl
    · rw [ih]; rfl
/-- The things of a day. -/
def dayq (N q : Nat) (l : List (Nat × α)) : List α := l.filterMap (fun a => if a.1 % N = q then some a.2 else none)
theorem dayq_append (N q : Nat) (l m : List (Nat × α)) : dayq N q (l ++ m) = dayq N q l ++ dayq N q m := by unfold dayq; exact List.filterMap_append
theorem dayq_cons (N q : Nat) (a : Nat × α) (l : List (Nat × α)) : dayq N q (a :: l) = if a.1 % N = q then a.2 :: dayq N q l else dayq N q l := by
  unfold dayq
  rw [List.filterMap_cons]
  split
  · rename_i h; split at h
    · cases h
    · rename_i h2; rw [if_neg h2]
  · rename_i h; split at h
    · rename_i h2; rw [if_pos h2]; cases h; rfl
    · cases h
theorem dayq_none {N q : Nat} {l : List (Nat × α)} (h : ∀ a ∈ l, a.1 % N ≠ q) : dayq N q l = [] := by
  induction l with
  | nil => rfl
  | cons a t ih => rw [dayq_cons, if_neg (h a (List.mem_cons_self ..)), ih (fun b hb => h b (List.mem_cons_of_mem _ hb))]
theorem dayq_some {N q : Nat} {l : List (Nat × α)} (h : dayq N q l ≠ []) : ∃ a ∈ l, a.1 % N = q := by
  induction l with
  | nil => exact absurd rfl h
  | cons a t ih =>
    rw [dayq_cons] at h
    split at h
    · rename_i e; exact ⟨a, List.mem_cons_self .., e⟩
    · obtain ⟨b, hb, e⟩ := ih h; exact ⟨b, List.mem_cons_of_mem _ hb, e⟩
theorem dayq_mem {N : Nat} {l : List (Nat × α)} {a : Nat × α} (h : a ∈ l) : dayq N (a.1 % N) l ≠ [] := by
  induction l with
  | nil => cases h
  | cons b t ih =>
    rw [dayq_cons]
    split
    · simp
    · rename_i e
      rcases List.mem_cons.1 h with rfl | h
      · exact absurd rfl e
      · exact ih h
theorem dayq_ins {N r : Nat} {x : α} {l : List (Nat × α)} (hr : Rises l) (h : ∀ a ∈ l, a.1 % N = r % N → a.1 = r) (q : Nat) : dayq N q (ins r x l) = if q = r % N then dayq N q l ++ [x] else dayq N q l := by
  induction l with
  | nil =>
    simp only [ins, dayq_cons]
    by_cases e : q = r % N
    · subst e; simp [dayq]
    · rw [if_neg (fun h => e h.symm), if_neg e]
  | cons a t ih =>
    have hr' := List.pairwise_cons.1 hr
    unfold ins
    split
    · rename_i hlt
      rw [dayq_cons N q (r, x)]
      by_cases e : q = r % N
      · subst e
        have h0 : dayq N (r % N) (a :: t) = [] := dayq_none fun b hb he => by
          have h1 := h b hb he
          rcases List.mem_cons.1 hb with rfl | hb
          · omega
          · have := hr'.1 b hb; omega
        rw [h0, if_pos rfl, if_pos rfl]; rfl
      · rw [if_neg (fun h => e h.symm), if_neg e]
    · rw [dayq_cons, dayq_cons, ih hr'.2 (fun b hb => h b (List.mem_cons_of_mem _ hb))]
      by_cases e : q = r % N
      · simp only [if_pos e]; split <;> rfl
      · simp only [if_neg e]
/-- What is in the window, by days. -/
structure Win (N base : Nat) (Qx : Nat → List α) (W : List (Nat × α)) : Prop where
  inw : ∀ a ∈ W, base ≤ a.1 ∧ a.1 < base + N
  que : ∀ q, q < N → Qx q = dayq N q W
theorem mod_off {N base d : Nat} (hd : d < N) : (base + d) % N = if base % N + d < N then base % N + d else base % N + d - N := by
  have hN : 0 < N := by omega
  have hb := Nat.mod_lt base hN
  have e1 : (base + d) % N = (base % N + d) % N := by rw [Nat.add_mod, Nat.mod_eq_of_lt hd]
  rw [e1]
  split
  · rename_i h; exact Nat.mod_eq_of_lt h
  · rename_i h; rw [Nat.mod_eq_sub_mod (by omega)]; exact Nat.mod_eq_of_lt (by omega)
/-- Of two ranks of the window on one day there is one. -/
theorem same_day {N base r s : Nat} (h1 : base ≤ r) (h2 : r < base + N) (h3 : base ≤ s) (h4 : s < base + N) (h : r % N = s % N) : r = s := by
  have e1 := mod_off (base := base) (show r - base < N by omega)
  have e2 := mod_off (base := base) (show s - base < N by omega)
  rw [show base + (r - base) = r by omega] at e1
  rw [show base + (s - base) = s by omega] at e2
  have hb := Nat.mod_lt base (show 0 < N by omega)
  rw [h, e2] at e1
  split at e1 <;> split at e1 <;> omega
theorem Win.nil (N base : Nat) : Win N base (fun _ => ([] : List α)) [] := ⟨fun a h => (by cases h), fun _ _ => rfl⟩
theorem Win.push {N base r : Nat} {Qx : Nat → List α} {W : List (Nat × α)} (h : Win N base Qx W) (hr : Rises W) (h1 : base ≤ r) (h2 : r < base + N) (x : α) : Win N base (upd Qx (r % N) (Qx (r % N) ++ [x])) (ins r x W) := by
  refine ⟨fun a ha => ?_, fun q hq => ?_⟩
  · rcases ins_mem.1 ha with rfl | ha
    · exact ⟨h1, h2⟩
    · exact h.inw a ha
  · rw [dayq_ins hr (fun a ha e => same_day (h.inw a ha).1 (h.inw a ha).2 h1 h2 e)]
    by_cases e : q = r % N
    · subst e; rw [upd_at, if_pos rfl, h.que _ hq]
    · rw [upd_off _ _ _ e, if_neg e, h.que q hq]
theorem Win.snoc {N base r : Nat} {Qx : Nat → List α} {W : List (Nat × α)} (h : Win N base Qx W) (h1 : base ≤ r) (h2 : r < base + N) (x : α) : Win N base (upd Qx (r % N) (Qx (r % N) ++ [x])) (W ++ [(r, x)]) := by
  refine ⟨fun a ha => ?_, fun q hq => ?_⟩
  · rcases List.mem_append.1 ha with ha | ha
    · exact h.inw a ha
    · obtain rfl := List.mem_singleton.1 ha; exact ⟨h1, h2⟩
  · rw [dayq_append, dayq_cons]
    by_cases e : q = r % N
    · subst e; rw [upd_at, if_pos rfl, h.que _ hq]; rfl
    · rw [upd_off _ _ _ e, if_neg (fun h => e h.symm), h.que q hq]; simp [dayq]
theorem Win.head {N base r : Nat} {x : α} {Qx : Nat → List α} {W : List (Nat × α)} (h : Win N base Qx ((r, x) :: W)) : Qx (r % N) = x :: dayq N (r % N) W := by
  have h1 := h.inw _ (List.mem_cons_self ..)
  rw [h.que _ (Nat.mod_lt _ (by omega)), dayq_cons, if_pos rfl]
theorem Win.pop {N base r : Nat} {x : α} {Qx : Nat → List α} {W : List (Nat × α)} (h : Win N base Qx ((r, x) :: W)) : Win N base (upd Qx (r % N) (dayq N (r % N) W)) W := by
  refine ⟨fun a ha => h.inw a (List.mem_cons_of_mem _ ha), fun q hq => ?_⟩
  by_cases e : q = r % N
  · subst e; rw [upd_at]
  · rw [upd_off _ _ _ e, h.que q hq, dayq_cons, if_neg (fun h => e h.symm)]
theorem Win.turn {N base r : Nat} {Qx : Nat → List α} {W : List (Nat × α)} (h : Win N base Qx W) (h1 : ∀ a ∈ W, r ≤ a.1) (h2 : W = [] ∨ base ≤ r) : Win N r Qx W := by
  refine ⟨fun a ha => ⟨h1 a ha, ?_⟩, h.que⟩
  rcases h2 with rfl | h2
  · cases ha
  · have := (h.inw a ha).2; omega
/-- The first day round about is the first one's. -/
theorem Win.first {N base r : Nat} {x : α} {Qx : Nat → List α} {W : List (Nat × α)} (h : Win N base Qx ((r, x) :: W)) (hr : Rises ((r, x) :: W)) {f at_ : Nat} (hf : base % N = f) (ha : at_ < N) (hq : Qx at_ ≠ [])
    (hc : (f ≤ at_ ∧ ∀ k, f ≤ k → k < at_ → Qx k = []) ∨ ((∀ k, f ≤ k → k < N → Qx k = []) ∧ ∀ k, k < at_ → Qx k = [])) : at_ = r % N ∧ r = base + (at_ + N - f) % N := by
  have h0 := h.inw _ (List.mem_cons_self ..)
  simp only at h0
  have hN : 0 < N := by omega
  have hfN : f < N := by rw [← hf]; exact Nat.mod_lt _ hN
  rw [h.que _ ha] at hq
  obtain ⟨a, ham, hae⟩ := dayq_some hq
  have h1 := h.inw a ham
  have hle : r ≤ a.1 := by
    rcases List.mem_cons.1 ham with rfl | ham
    · exact Nat.le_refl _
    · exact (List.pairwise_cons.1 hr).1 a ham
  have hrq : r % N < N := Nat.mod_lt _ hN
  have hne : Qx (r % N) ≠ [] := by rw [h.head]; simp
  have e1 := mod_off (base := base) (show r - base < N by omega)
  have e2 := mod_off (base := base) (show a.1 - base < N by omega)
  rw [show base + (r - base) = r by omega, hf] at e1
  rw [show base + (a.1 - base) = a.1 by omega, hf, hae] at e2
  have hkey : r % N = at_ := by
    rcases hc with ⟨c1, c2⟩ | ⟨c1, c2⟩
    · rcases Nat.lt_or_ge (r % N) at_ with hlt | hge
      · exfalso
        have : ¬ f ≤ r % N := fun hle => hne (c2 _ hle hlt)
        split at e1 <;> split at e2 <;> omega
      · split at e1 <;> split at e2 <;> omega
    · have hlt : r % N < f := Nat.lt_of_not_le fun hle => hne (c1 _ hle hrq)
      have hge : at_ ≤ r % N := Nat.le_of_not_lt fun hlt => hne (c2 _ hlt)
      split at e1 <;> split at e2 <;> omega
  have hra : r = a.1 := same_day h0.1 h0.2 h1.1 h1.2 (by rw [hkey, hae])
  refine ⟨hkey.symm, ?_⟩
  have e3 : (at_ + N - f) % N = r - base := by
    rw [← hkey, e1]
    split
    · rename_i hlt
      rw [show f + (r - base) + N - f = r - base + N by omega, Nat.add_mod_right]; exact Nat.mod_eq_of_lt (by omega)
    · rename_i hlt
      rw [show f + (r - base) - N + N - f = r - base by omega]; exact Nat.mod_eq_of_lt (by omega)
  omega
/-- The list M is what waits below, in the window, and above. -/
structure Cm (N base : Nat) (Qx : Nat → List α) (B W R M : List (Nat × α)) : Prop where
  eq : M = B ++ (W ++ R)
  ris : Rises M
  win : Win N base Qx W
  bel : ∀ a ∈ B, a.1 < base
  abo : ∀ a ∈ R, base + N ≤ a.1
theorem Cm.nil (N base : Nat) : Cm N base (fun _ => ([] : List α)) [] [] [] [] := ⟨rfl, List.Pairwise.nil, Win.nil N base, fun _ h => (by cases h), fun _ h => (by cases h)⟩
section
variable {N base : Nat} {Qx : Nat → List α} {B W R M : List (Nat × α)}
theorem Cm.len (h : Cm N base Qx B W R M) : M.length = B.length + W.length + R.length := by rw [h.eq]; simp; omega
theorem Cm.empty (h : Cm N base Qx B W R []) : B = [] ∧ W = [] ∧ R = [] := by
  have := h.len
  simp at this
  exact ⟨List.length_eq_zero_iff.1 (by omega), List.length_eq_zero_iff.1 (by omega), List.length_eq_zero_iff.1 (by omega)⟩
theorem Cm.anew (h : Cm N base Qx B W R []) (b : Nat) : Cm N b Qx [] [] [] ([] : List (Nat × α)) := by
  obtain ⟨rfl, rfl, rfl⟩ := h.empty
  exact ⟨rfl, List.Pairwise.nil, h.win.turn (fun a h => (by cases h)) (.inl rfl), fun _ h => (by cases h), fun _ h => (by cases h)⟩
theorem Cm.wris (h : Cm N base Qx B W R M) : Rises W := by
  have := h.ris; rw [h.eq] at this
  exact (List.pairwise_append.1 (List.pairwise_append.1 this).2.1).1
theorem Cm.push_in (h : Cm N base Qx B W R M) {r : Nat} (h1 : base ≤ r) (h2 : r < base + N) (x : α) : Cm N base (upd Qx (r % N) (Qx (r % N) ++ [x])) B (ins r x W) R (ins r x M) := by
  refine ⟨?_, ins_rises h.ris, h.win.push h.wris h1 h2 x, h.bel, h.abo⟩
  rw [h.eq, ins_behind (fun a ha => by have := h.bel a ha; omega), ins_ahead (fun a ha => by have := h.abo a ha; omega)]
theorem Cm.push_below (h : Cm N base Qx B W R M) {r : Nat} (h1 : r < base) (x : α) : Cm N base Qx (ins r x B) W R (ins r x M) := by
  refine ⟨?_, ins_rises h.ris, h.win, fun a ha => ?_, h.abo⟩
  · rw [h.eq, ins_ahead]
    intro a ha
    rcases List.mem_append.1 ha with ha | ha
    · have := (h.win.inw a ha).1; omega
    · have := h.abo a ha; omega
  · rcases ins_mem.1 ha with rfl | ha
    · exact h1
    · exact h.bel a ha
theorem Cm.push_above (h : Cm N base Qx B W R M) {r : Nat} (h1 : base + N ≤ r) (x : α) : Cm N base Qx B W (ins r x R) (ins r x M) := by
  refine ⟨?_, ins_rises h.ris, h.win, h.bel, fun a ha => ?_⟩
  · rw [h.eq, ins_behind (fun a ha => by have := h.bel a ha; omega), ins_behind (fun a ha => by have := (h.win.inw a ha).2; omega)]
  · rcases ins_mem.1 ha with rfl | ha
    · exact h1
    · exact h.abo a ha
theorem Cm.pop_below {a : Nat × α} (h : Cm N base Qx (a :: B) W R M) : M = a :: (B ++ (W ++ R)) ∧ Cm N base Qx B W R (B ++ (W ++ R)) := by
  have e := h.eq
  refine ⟨e, rfl, ?_, h.win, fun b hb => h.bel b (List.mem_cons_of_mem _ hb), h.abo⟩
  have := h.ris; rw [e] at this
  exact (List.pairwise_cons.1 this).2
theorem Cm.pop_in {r : Nat} {x : α} (h : Cm N base Qx [] ((r, x) :: W) R M) : M = (r, x) :: (W ++ R) ∧ Cm N base (upd Qx (r % N) (dayq N (r % N) W)) [] W R (W ++ R) := by
  have e := h.eq
  refine ⟨e, rfl, ?_, h.win.pop, fun _ hb => (by cases hb), h.abo⟩
  have := h.ris; rw [e] at this
  exact (List.pairwise_cons.1 this).2
/-- The window is about to begin at a rank: what is above may lie in it. -/
structure Tn (N base : Nat) (Qx : Nat → List α) (W R M : List (Nat × α)) : Prop where
  eq : M = W ++ R
  ris : Rises M
  win : Win N base Qx W
  low : ∀ a ∈ R, base ≤ a.1
theorem Cm.turn (h : Cm N base Qx [] W R M) {r : Nat} (h1 : ∀ a ∈ M, r ≤ a.1) (h2 : W = [] ∨ base ≤ r) : Tn N r Qx W R M := by
  have e := h.eq
  refine ⟨e, h.ris, h.win.turn (fun a ha => h1 a (by rw [e]; exact List.mem_append.2 (.inr (List.mem_append.2 (.inl ha))))) h2, fun a ha => h1 a (by rw [e]; exact List.mem_append.2 (.inr (List.mem_append.2 (.inr ha))))⟩
theorem Tn.step {r : Nat} {x : α} (h : Tn N base Qx W ((r, x) :: R) M) (h2 : r < base + N) : Tn N base (upd Qx (r % N) (Qx (r % N) ++ [x])) (W ++ [(r, x)]) R M :=
  ⟨by rw [h.eq]; simp, h.ris, h.win.snoc (h.low (r, x) (List.mem_cons_self ..)) h2 x, fun a ha => h.low a (List.mem_cons_of_mem _ ha)⟩
theorem Tn.done (h : Tn N base Qx W R M) (h1 : ∀ a, R.head? = some a → base + N ≤ a.1) : Cm N base Qx [] W R M := by
  refine ⟨h.eq, h.ris, h.win, fun _ hb => (by cases hb), fun a ha => ?_⟩
  cases R with
  | nil => cases ha
  | cons b t =>
    have hb := h1 b rfl
    rcases List.mem_cons.1 ha with rfl | ha
    · exact hb
    · have := h.ris; rw [h.eq] at this
      have := (List.pairwise_cons.1 (List.pairwise_append.1 this).2.1).1 a ha
      omega
end
end
end Go.Proofs.YtjbaibnmbeabnaaGreatDoor.Cal
