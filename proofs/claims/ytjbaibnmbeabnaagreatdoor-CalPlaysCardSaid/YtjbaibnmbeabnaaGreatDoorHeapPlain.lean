/- A heap of entries (rank, time of coming, thing): up, down; what they keep. No program in sight. -/
import Derived.Test.YtjbaibnmbeabnaaGreatDoorBase
namespace Go.Proofs.YtjbaibnmbeabnaaGreatDoor.Heap
abbrev Ent (α : Type) := Nat × Nat × α
section
variable {α : Type}
/-- Whether one leaves ahead of another. -/
def ahd (a b : Ent α) : Bool := decide (a.1 < b.1 ∨ (a.1 = b.1 ∧ a.2.1 < b.2.1))
theorem ahd_iff {a b : Ent α} : ahd a b = true ↔ (a.1 < b.1 ∨ (a.1 = b.1 ∧ a.2.1 < b.2.1)) := by simp [ahd]
theorem ahd_not {a b : Ent α} : ahd a b = false ↔ ¬ (a.1 < b.1 ∨ (a.1 = b.1 ∧ a.2.1 < b.2.1)) := by unfold ahd; exact decide_eq_false_iff_not
theorem ahd_self (a : Ent α) : ahd a a = false := by rw [ahd_not]; omega
theorem ahd_asymm {a b : Ent α} (h : ahd a b = true) : ahd b a = false := by rw [ahd_iff] at h; rw [ahd_not]; omega
theorem le_trans' {a b c : Ent α} (h : ahd b a = false) (h' : ahd c b = false) : ahd c a = false := by rw [ahd_not] at *; omega
/-- Two places changed. -/
def swp (l : List (Ent α)) (i j : Nat) : List (Ent α) := match l[i]?, l[j]? with
  | some a, some b => (l.set i b).set j a
  | _, _ => l
theorem swp_length (l : List (Ent α)) (i j : Nat) : (swp l i j).length = l.length := by
  unfold swp; split <;> simp
theorem swp_eq {l : List (Ent α)} {i j : Nat} {a b : Ent α} (hi : l[i]? = some a) (hj : l[j]? = some b) : swp l i j = (l.set i b).set j a := by unfold swp; rw [hi, hj]
theorem get_lt {l : List (Ent α)} {i : Nat} {a : Ent α} (h : l[i]? = some a) : i < l.length := by
  rcases Nat.lt_or_ge i l.length with h' | h'
  · exact h'
  · rw [List.getElem?_eq_none h'] at h; cases h
theorem swp_perm (l : List (Ent α)) (i j : Nat) : (swp l i j).Perm l := by
  cases hi : l[i]? with
  | none => unfold swp; rw [hi]
  | some a =>
    cases hj : l[j]? with
    | none => unfold swp; rw [hi, hj]
    | some b =>
      rw [swp_eq hi hj]
      have h1 := get_lt hi
      have h2 := get_lt hj
      have e1 : l[i] = a := by rw [List.getElem?_eq_getElem h1] at hi; exact Option.some.inj hi
      have e2 : l[j] = b := by rw [List.getElem?_eq_getElem h2] at hj; exact Option.some.inj hj
      have := List.set_set_perm (as := l) h1 h2
      rw [e1, e2] at this
      exact this
/-- What stands at a place once two were changed. -/
theorem swp_get {l : List (Ent α)} {i j : Nat} {a b : Ent α} (hi : l[i]? = some a) (hj : l[j]? = some b) (k : Nat) : (swp l i j)[k]? = if k = j then some a else if k = i then some b else l[k]? := by
  rw [swp_eq hi hj, List.getElem?_set]
  have h1 := get_lt hi
  have h2 := get_lt hj
  by_cases e : k = j
  · subst e; simp [h2]
  · rw [if_neg (fun h => e h.symm), if_neg e, List.getElem?_set]
    by_cases e' : k = i
    · subst e'; simp [h1]
    · rw [if_neg (fun h => e' h.symm), if_neg e']
/-- Whether what stands at one place is ahead of what stands at another. -/
def ahdAt (l : List (Ent α)) (i j : Nat) : Bool := match l[i]?, l[j]? with | some a, some b => ahd a b | _, _ => false
theorem ahdAt_eq {l : List (Ent α)} {i j : Nat} {a b : Ent α} (ha : l[i]? = some a) (hb : l[j]? = some b) : ahdAt l i j = ahd a b := by unfold ahdAt; rw [ha, hb]
/-- One rises while it is ahead of the one above. -/
def upL (l : List (Ent α)) (k : Nat) : List (Ent α) :=
  if _h : 0 < k then
    if ahdAt l k ((k - 1) / 2) then upL (swp l k ((k - 1) / 2)) ((k - 1) / 2) else l
  else l
termination_by k
decreasing_by omega
theorem upL_zero (l : List (Ent α)) : upL l 0 = l := by rw [upL]; simp
theorem upL_stop {l : List (Ent α)} {k : Nat} {a b : Ent α} (ha : l[k]? = some a) (hb : l[(k - 1) / 2]? = some b) (h : ahd a b = false) : upL l k = l := by rw [upL, ahdAt_eq ha hb]; simp [h]
theorem upL_step {l : List (Ent α)} {k : Nat} {a b : Ent α} (hk : 0 < k) (ha : l[k]? = some a) (hb : l[(k - 1) / 2]? = some b) (h : ahd a b = true) : upL l k = upL (swp l k ((k - 1) / 2)) ((k - 1) / 2) := by
  rw [upL, ahdAt_eq ha hb]; simp [h, hk]
/-- Nobody is ahead of the one above. -/
def IsHeap (l : List (Ent α)) : Prop := ∀ i a b, 0 < i → l[i]? = some a → l[(i - 1) / 2]? = some b → ahd a b = false
/-- A heap but for place k, which may be ahead of the one above. -/
structure ButUp (l : List (Ent α)) (k : Nat) : Prop where
  one : ∀ i a b, 0 < i → i ≠ k → l[i]? = some a → l[(i - 1) / 2]? = some b → ahd a b = false
  two : ∀ i a b, 0 < k → 0 < i → (i - 1) / 2 = k → l[i]? = some a → l[(k - 1) / 2]? = some b → ahd a b = false
theorem up_heap : ∀ (k : Nat) (l : List (Ent α)), k < l.length → ButUp l k → IsHeap (upL l k) := by
  intro k
  induction k using Nat.strongRecOn with
  | _ k ih =>
    intro l hk h
    rcases Nat.eq_zero_or_pos k with rfl | hpos
    · rw [upL_zero]
      intro i a b hi ha hb
      exact h.one i a b hi (by omega) ha hb
    · have hp : (k - 1) / 2 < k := by omega
      generalize hpe : (k - 1) / 2 = p at hp
      obtain ⟨a, ha⟩ : ∃ a, l[k]? = some a := ⟨l[k], by simp [hk]⟩
      obtain ⟨b, hb⟩ : ∃ b, l[p]? = some b := ⟨l[p]'(by omega), by simp [show p < l.length by omega]⟩
      cases hab : ahd a b with
      | false =>
        rw [upL_stop ha (by rw [hpe]; exact hb) hab]
        intro i x y hi hx hy
        by_cases e : i = k
        · subst e
          rw [hpe] at hy
          rw [ha] at hx; rw [hb] at hy
          obtain rfl := Option.some.inj hx
          obtain rfl := Option.some.inj hy
          exact hab
        · exact h.one i x y hi e hx hy
      | true =>
        rw [upL_step hpos ha (by rw [hpe]; exact hb) hab, hpe]
        have hg := swp_get ha hb
        refine ih p hp _ (by rw [swp_length]; omega) ⟨fun i x y hi hip hx hy => ?_, fun i x y hp0 hi0 hpi hx hy => ?_⟩
        · rw [hg] at hx hy
          rw [if_neg hip] at hx
          by_cases e : i = k
          · subst e
            rw [if_pos rfl] at hx
            rw [hpe, if_pos rfl] at hy
            obtain rfl := Option.some.inj hx
            obtain rfl := Option.some.inj hy
            exact ahd_asymm hab
          · rw [if_neg e] at hx
            by_cases e2 : (i - 1) / 2 = p
            · rw [if_pos e2] at hy
              obtain rfl := Option.some.inj hy
              have h1 := h.one i x b hi e hx (by rw [e2]; exact hb)
              exact le_trans' (ahd_asymm hab) h1
            · rw [if_neg e2] at hy
              by_cases e3 : (i - 1) / 2 = k
              · rw [if_pos e3] at hy
                obtain rfl := Option.some.inj hy
                exact h.two i x b hpos hi e3 hx (by rw [hpe]; exact hb)
              · rw [if_neg e3] at hy
                exact h.one i x y hi e hx hy
        · rw [hg] at hx hy
          rw [if_neg (by omega), if_neg (by omega)] at hy
          rw [if_neg (by omega)] at hx
          have h1 := h.one p b y hp0 (by omega) hb hy
          by_cases e : i = k
          · rw [if_pos e] at hx
            obtain rfl := Option.some.inj hx
            exact h1
          · rw [if_neg e] at hx
            exact le_trans' h1 (h.one i x b hi0 e hx (by rw [hpi]; exact hb))
theorem up_perm : ∀ (k : Nat) (l : List (Ent α)), (upL l k).Perm l := by
  intro k
  induction k using Nat.strongRecOn with
  | _ k ih =>
    intro l
    rw [upL]
    split
    · split
      · exact (ih ((k - 1) / 2) (by omega) (swp l k ((k - 1) / 2))).trans (swp_perm _ _ _)
      · exact List.Perm.refl _
    · exact List.Perm.refl _
/-- The lesser child of a place, where there is one. -/
def kid (l : List (Ent α)) (k : Nat) : Nat := match l[2 * k + 2]?, l[2 * k + 1]? with
  | some b, some a => if ahd b a then 2 * k + 2 else 2 * k + 1
  | _, _ => 2 * k + 1
theorem kid_or (l : List (Ent α)) (k : Nat) : kid l k = 2 * k + 1 ∨ (kid l k = 2 * k + 2 ∧ 2 * k + 2 < l.length) := by
  unfold kid
  split
  · rename_i b a hb ha
    have := get_lt hb
    split <;> omega
  · exact .inl rfl
/-- One falls while the lesser one below is ahead of it. -/
def dnL (l : List (Ent α)) (k : Nat) : List (Ent α) :=
  if _h : 2 * k + 1 < l.length then
    if ahdAt l (kid l k) k then dnL (swp l k (kid l k)) (kid l k) else l
  else l
termination_by l.length - k
decreasing_by
  have := kid_or l k
  rw [swp_length]
  omega
theorem dnL_none {l : List (Ent α)} {k : Nat} (h : l.length ≤ 2 * k + 1) : dnL l k = l := by rw [dnL, dif_neg (by omega)]
theorem dnL_stop {l : List (Ent α)} {k c : Nat} {a b : Ent α} (hc : kid l k = c) (ha : l[c]? = some a) (hb : l[k]? = some b) (h : ahd a b = false) : dnL l k = l := by
  rw [dnL]; split
  · rw [hc, ahdAt_eq ha hb]; simp [h]
  · rfl
theorem dnL_step {l : List (Ent α)} {k c : Nat} {a b : Ent α} (hk : 2 * k + 1 < l.length) (hc : kid l k = c) (ha : l[c]? = some a) (hb : l[k]? = some b) (h : ahd a b = true) : dnL l k = dnL (swp l k c) c := by
  rw [dnL, dif_pos hk, hc, ahdAt_eq ha hb]; simp [h]
/-- A heap but for place k, which may be behind those below. -/
structure ButDown (l : List (Ent α)) (k : Nat) : Prop where
  one : ∀ i a b, 0 < i → (i - 1) / 2 ≠ k → l[i]? = some a → l[(i - 1) / 2]? = some b → ahd a b = false
  two : ∀ i a b, 0 < k → 0 < i → (i - 1) / 2 = k → l[i]? = some a → l[(k - 1) / 2]? = some b → ahd a b = false
/-- The lesser child is ahead of none, and none of both is ahead of it. -/
theorem kid_min {l : List (Ent α)} {k : Nat} {b : Ent α} (hb : l[kid l k]? = some b) (i : Nat) (x : Ent α) (hi : 0 < i) (hp : (i - 1) / 2 = k) (hx : l[i]? = some x) : ahd x b = false := by
  have hi2 : i = 2 * k + 1 ∨ i = 2 * k + 2 := by omega
  unfold kid at hb
  split at hb
  · rename_i d c hd hc
    split at hb
    · rename_i h
      rw [hd] at hb
      obtain rfl := Option.some.inj hb
      rcases hi2 with rfl | rfl
      · rw [hc] at hx; obtain rfl := Option.some.inj hx; exact ahd_asymm h
      · rw [hd] at hx; obtain rfl := Option.some.inj hx; exact ahd_self _
    · rename_i h
      rw [hc] at hb
      obtain rfl := Option.some.inj hb
      rcases hi2 with rfl | rfl
      · rw [hc] at hx; obtain rfl := Option.some.inj hx; exact ahd_self _
      · rw [hd] at hx; obtain rfl := Option.some.inj hx; simpa using h
  · rename_i h
    rcases hi2 with rfl | rfl
    · rw [hb] at hx; obtain rfl := Option.some.inj hx; exact ahd_self _
    · exact (h _ _ hx hb).elim
theorem down_heap : ∀ (n k : Nat) (l : List (Ent α)), l.length - k ≤ n → k < l.length → ButDown l k → IsHeap (dnL l k) := by
  intro n
  induction n with
  | zero => intro k l hn hk; omega
  | succ n ih =>
    intro k l hn hk h
    rcases Nat.lt_or_ge (2 * k + 1) l.length with hlt | hge
    · have hko := kid_or l k
      have hkl : kid l k < l.length := by omega
      obtain ⟨b, hb⟩ : ∃ b, l[kid l k]? = some b := ⟨l[kid l k], by simp [hkl]⟩
      obtain ⟨a, ha⟩ : ∃ a, l[k]? = some a := ⟨l[k], by simp [hk]⟩
      have hmin := fun i x h1 h2 h3 => kid_min hb i x h1 h2 h3
      generalize hc : kid l k = c at *
      have hcp : (c - 1) / 2 = k := by omega
      cases hab : ahd b a with
      | false =>
        rw [dnL_stop hc hb ha hab]
        intro i x y hi hx hy
        by_cases e : (i - 1) / 2 = k
        · rw [e, ha] at hy
          obtain rfl := Option.some.inj hy
          exact le_trans' hab (hmin i x hi e hx)
        · exact h.one i x y hi e hx hy
      | true =>
        rw [dnL_step hlt hc hb ha hab]
        have hg := swp_get ha hb
        refine ih c _ (by rw [swp_length]; omega) (by rw [swp_length]; omega) ⟨fun i x y hi hip hx hy => ?_, fun i x y hc0 hi0 hpi hx hy => ?_⟩
        · rw [hg] at hx hy
          rw [if_neg hip] at hy
          by_cases e : i = c
          · subst e
            rw [if_pos rfl] at hx
            rw [if_pos hcp] at hy
            obtain rfl := Option.some.inj hx
            obtain rfl := Option.some.inj hy
            exact ahd_asymm hab
          · rw [if_neg e] at hx
            by_cases e2 : i = k
            · subst e2
              rw [if_pos rfl] at hx
              rw [if_neg (by omega)] at hy
              obtain rfl := Option.some.inj hx
              exact h.two c b y hi (by omega) hcp hb hy
            · rw [if_neg e2] at hx
              by_cases e3 : (i - 1) / 2 = k
              · rw [if_pos e3] at hy
                obtain rfl := Option.some.inj hy
                exact hmin i x hi e3 hx
              · rw [if_neg e3] at hy
                exact h.one i x y hi e3 hx hy
        · rw [hg] at hx hy
          rw [if_neg (by omega), if_pos hcp] at hy
          rw [if_neg (by omega), if_neg (by omega)] at hx
          obtain rfl := Option.some.inj hy
          exact h.one i x b hi0 (by omega) hx (by rw [hpi]; exact hb)
    · rw [dnL_none hge]
      intro i x y hi hx hy
      have := get_lt hx
      exact h.one i x y hi (by omega) hx hy
theorem down_perm : ∀ (n k : Nat) (l : List (Ent α)), l.length - k ≤ n → (dnL l k).Perm l := by
  intro n
  induction n with
  | zero => intro k l hn; rw [dnL_none (by omega)]
  | succ n ih =>
    intro k l hn
    rw [dnL]
    split
    · have := kid_or l k
      split
      · exact (ih (kid l k) (swp l k (kid l k)) (by rw [swp_length]; omega)).trans (swp_perm _ _ _)
      · exact List.Perm.refl _
    · exact List.Perm.refl _
/-- The first one of a heap: nobody is ahead of it. -/
theorem heap_least {l : List (Ent α)} {a : Ent α} (h : IsHeap l) (ha : l[0]? = some a) : ∀ x ∈ l, ahd x a = false := by
  have : ∀ (i : Nat) x, l[i]? = some x → ahd x a = false := by
    intro i
    induction i using Nat.strongRecOn with
    | _ i ih =>
      intro x hx
      rcases Nat.eq_zero_or_pos i with rfl | hi
      · rw [ha] at hx; obtain rfl := Option.some.inj hx; exact ahd_self _
      · obtain ⟨b, hb⟩ : ∃ b, l[(i - 1) / 2]? = some b := ⟨l[(i - 1) / 2]'(by have := get_lt hx; omega), by have := get_lt hx; simp [show (i - 1) / 2 < l.length by omega]⟩
        exact le_trans' (ih _ (by omega) b hb) (h i x b hi hx hb)
  intro x hx
  obtain ⟨i, hi, e⟩ := List.getElem_of_mem hx
  exact this i x (by rw [List.getElem?_eq_getElem hi, e])
/-- What a push leaves, and a pop. -/
def pushL (l : List (Ent α)) (e : Ent α) : List (Ent α) := upL (l ++ [e]) l.length
def lastUp (l : List (Ent α)) : List (Ent α) := match l[l.length - 1]? with
  | none => []
  | some z => (l.set 0 z).dropLast
def popL (l : List (Ent α)) : List (Ent α) := dnL (lastUp l) 0
theorem push_heap {l : List (Ent α)} (h : IsHeap l) (e : Ent α) : IsHeap (pushL l e) := by
  refine up_heap _ _ (by simp) ⟨fun i a b hi hk ha hb => ?_, fun i a b hk hi hp ha hb => ?_⟩
  · have h1 := get_lt ha
    simp at h1
    rw [List.getElem?_append_left (by omega)] at ha hb
    exact h i a b hi ha hb
  · have h1 := get_lt ha
    simp at h1
    omega
theorem push_perm (l : List (Ent α)) (e : Ent α) : (pushL l e).Perm (e :: l) := (up_perm _ _).trans (List.perm_append_singleton _ _)
theorem lastUp_at {l : List (Ent α)} {z : Ent α} (hz : l[l.length - 1]? = some z) : lastUp l = (l.set 0 z).dropLast := by unfold lastUp; rw [hz]
theorem last_some (a : Ent α) (r : List (Ent α)) : ∃ z, (a :: r)[(a :: r).length - 1]? = some z := ⟨_, List.getElem?_eq_getElem (by simp)⟩
theorem lastUp_get {a : Ent α} {r : List (Ent α)} (i : Nat) (hi : 0 < i) (x : Ent α) (hx : (lastUp (a :: r))[i]? = some x) : (a :: r)[i]? = some x := by
  have h1 := get_lt hx
  obtain ⟨z, hz⟩ := last_some a r
  rw [lastUp_at hz] at hx h1
  simp only [List.length_dropLast, List.length_set] at h1
  rw [List.getElem?_dropLast] at hx
  simp only [List.length_set] at hx
  rw [if_pos (by omega), List.getElem?_set, if_neg (by omega)] at hx
  exact hx
theorem lastUp_perm (a : Ent α) (r : List (Ent α)) : (lastUp (a :: r)).Perm r := by
  rcases List.eq_nil_or_concat r with rfl | ⟨m, z, rfl⟩
  · exact List.Perm.refl _
  · rw [List.concat_eq_append]
    have hz : (a :: (m ++ [z]))[(a :: (m ++ [z])).length - 1]? = some z := by simp
    rw [lastUp_at hz, List.set_cons_zero, ← List.cons_append, List.dropLast_concat]
    exact (List.perm_append_singleton z m).symm
theorem lastUp_length (l : List (Ent α)) : (lastUp l).length = l.length - 1 := by
  cases l with
  | nil => rfl
  | cons a r => rw [(lastUp_perm a r).length_eq]; simp
theorem pop_heap {l : List (Ent α)} (h : IsHeap l) : IsHeap (popL l) := by
  unfold popL
  cases l with
  | nil => rw [dnL_none (by simp [lastUp])]; exact h
  | cons a r =>
    rcases Nat.eq_zero_or_pos (lastUp (a :: r)).length with h0 | hpos
    · rw [dnL_none (by omega)]
      intro i x y hi hx
      have := get_lt hx
      omega
    · refine down_heap _ 0 _ (Nat.le_refl _) hpos ⟨fun i x y hi hp hx hy => ?_, fun i x y h0 => absurd h0 (Nat.lt_irrefl _)⟩
      exact h i x y hi (lastUp_get i hi x hx) (lastUp_get _ (by omega) y hy)
theorem pop_perm (a : Ent α) (r : List (Ent α)) : (popL (a :: r)).Perm r := (down_perm _ _ _ (Nat.le_refl _)).trans (lastUp_perm a r)
theorem pop_length (l : List (Ent α)) : (popL l).length = l.length - 1 := by rw [popL, (down_perm _ _ _ (Nat.le_refl _)).length_eq, lastUp_length]
theorem push_length (l : List (Ent α)) (e : Ent α) : (pushL l e).length = l.length + 1 := by rw [(push_perm l e).length_eq]; rfl
end
end Go.Proofs.YtjbaibnmbeabnaaGreatDoor.Heap
