/- What holds of a wheel between its steps. No program in sight. -/
import Derived.Test.YtjbaibnmbeabnaaGreatDoorWheelCore
namespace Go.Proofs.YtjbaibnmbeabnaaGreatDoor.Wheel
open Go.RowKit Heap
/-- Each lies where it belongs, and the words tell which places have some. -/
structure St (now : Nat) (qs : Nat → List En) (us : Nat → Nat) : Prop where
  lies : Lies now qs
  bit : ∀ l i, l < 11 → i < 64 → ((us l).testBit i = true ↔ qs (l * 65 + 1 + i) ≠ [])
  ub : ∀ l, l < 11 → us l < 2 ^ 64
  big : ∀ o, isRow o → ∀ e ∈ qs o, e.1 ≤ 18446744073709551615
theorem St.nil (now : Nat) : St now (fun _ => []) (fun _ => 0) := ⟨Lies.nil now, fun l i _ _ => by simp, fun _ _ => by decide, fun _ _ e h => (List.not_mem_nil h).elim⟩
/-- The words once an entry was laid. -/
def us_lay (now : Nat) (us : Nat → Nat) (e : En) : Nat → Nat := if e.1 ≤ now then us else put us (lvl now e.1) (us (lvl now e.1) ||| 2 ^ plc (lvl now e.1) e.1)
theorem St.lay {now : Nat} {qs : Nat → List En} {us : Nat → Nat} (h : St now qs us) (hn : now ≤ 18446744073709551615) (e : En) (he : e.1 ≤ 18446744073709551615) : St now (put qs (off now e.1) (qs (off now e.1) ++ [e])) (us_lay now us e) := by
  have hl11 := lvl_lt hn he
  have hi64 := plc_lt (lvl now e.1) e.1
  refine ⟨h.lies.lay e he, fun l i hl hi => ?_, fun l hl => ?_, fun o ho x hx => ?_⟩
  · unfold us_lay off
    by_cases hle : e.1 ≤ now
    · rw [if_pos hle, if_pos hle, put_ne _ _ (by omega)]; exact h.bit l i hl hi
    · rw [if_neg hle, if_neg hle]
      by_cases hll : l = lvl now e.1
      · subst hll
        rw [put_at, set_bit]
        by_cases hii : i = plc (lvl now e.1) e.1
        · subst hii; rw [put_at]; simp
        · rw [put_ne _ _ (by omega)]; simp only [hii, decide_false, Bool.or_false]; exact h.bit _ i hl hi
      · rw [put_ne _ _ hll, put_ne _ _ (by omega)]; exact h.bit l i hl hi
  · unfold us_lay
    split
    · exact h.ub l hl
    · by_cases hll : l = lvl now e.1
      · subst hll
        rw [put_at]
        exact Nat.or_lt_two_pow (h.ub _ hl) (Nat.pow_lt_pow_right (by omega) hi64)
      · rw [put_ne _ _ hll]; exact h.ub l hl
  · by_cases e9 : o = off now e.1
    · subst e9
      rw [put_at] at hx
      rcases List.mem_append.1 hx with hx | hx
      · exact h.big _ ho x hx
      · simp only [List.mem_singleton] at hx; subst hx; exact he
    · rw [put_ne _ _ e9] at hx; exact h.big o ho x hx
theorem St.sub {now : Nat} {qs qs' : Nat → List En} {us us' : Nat → Nat} (h : St now qs us) (hs : ∀ o, qs' o = qs o ∨ qs' o = []) (hb : ∀ l i, l < 11 → i < 64 → ((us' l).testBit i = true ↔ qs' (l * 65 + 1 + i) ≠ [])) (hu : ∀ l, l < 11 → us' l < 2 ^ 64) : St now qs' us' := by
  have sub : ∀ o, ∀ e ∈ qs' o, e ∈ qs o := fun o e he => by
    rcases hs o with h1 | h1
    · rw [h1] at he; exact he
    · rw [h1] at he; cases he
  exact ⟨⟨fun e he => h.lies.late e (sub _ e he), fun l i hl hi e he => h.lies.slot l i hl hi e (sub _ e he)⟩, hb, hu, fun o ho e he => h.big o ho e (sub o e he)⟩
/-- A place is emptied. -/
theorem St.take {now : Nat} {qs : Nat → List En} {us : Nat → Nat} (h : St now qs us) {l i : Nat} (hl : l < 11) (hi : i < 64) (hb : (us l).testBit i = true) : St now (put qs (l * 65 + 1 + i) []) (put us l (us l - 2 ^ i)) := by
  refine h.sub (fun o => ?_) (fun m j hm hj => ?_) (fun m hm => ?_)
  · by_cases e : o = l * 65 + 1 + i
    · subst e; right; exact put_at _ _ _
    · left; exact put_ne _ _ e
  · by_cases hml : m = l
    · subst hml
      rw [put_at, drop_bit hb]
      by_cases hji : j = i
      · subst hji; rw [put_at]; simp
      · rw [put_ne _ _ (by omega)]; simp only [hji, ne_eq, not_false_eq_true, decide_true, Bool.and_true]; exact h.bit m j hm hj
    · rw [put_ne _ _ hml, put_ne _ _ (by omega)]; exact h.bit m j hm hj
  · by_cases hml : m = l
    · subst hml; rw [put_at]; exact Nat.lt_of_le_of_lt (Nat.sub_le _ _) (h.ub m hm)
    · rw [put_ne _ _ hml]; exact h.ub m hm
/-- Time goes by. -/
theorem St.pass {now now' : Nat} {qs qs' : Nat → List En} {us us' : Nat → Nat} (h : St now qs us) (h' : St now qs' us') (hn : now < now') (hb : now' ≤ 18446744073709551615) (hs : ∀ o, qs' o = qs o ∨ qs' o = []) (hp : Passed now now' qs') : St now' qs' us' :=
  ⟨h.lies.pass hn hb hs hp, h'.bit, h'.ub, h'.big⟩
theorem len_all {qs : Nat → List En} {o : Nat} (ho : isRow o) : (qs o).length ≤ (all qs).length := by
  obtain ⟨r, h1, _⟩ := all_at qs ho
  rw [h1.length_eq, List.length_append]; omega
theorem es_one (l : List En) : ∀ u ∈ es l, u.oneCell' = true := by
  intro u hu
  induction l with
  | nil => cases hu
  | cons a r ih =>
    have e : es (a :: r) = .int .u64 (a.1 : Nat) :: .int .u64 (a.2.1 : Nat) :: .int .i64 a.2.2 :: es r := rfl
    rw [e] at hu
    rcases List.mem_cons.1 hu with rfl | hu
    · rfl
    · rcases List.mem_cons.1 hu with rfl | hu
      · rfl
      · rcases List.mem_cons.1 hu with rfl | hu
        · rfl
        · exact ih hu
theorem es_len (l : List En) : (es l).length = l.length * 3 := ents_length l
theorem es_app (l m : List En) : es (l ++ m) = es l ++ es m := ents_append l m
end Go.Proofs.YtjbaibnmbeabnaaGreatDoor.Wheel
