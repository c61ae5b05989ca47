/- EgPlain2, one behind the other. -/
import Derived.Test.YtdddfmdcjjbegaaGreatMeP
namespace Go.Proofs.YtdddfmdcjjbegaaGreat.Egs
open Go.RowKit
open RingW (It)
open First (Cf)
/-- The classes' configurations. -/
def cfs (E : Eg) : List Cf := E.q.map fun x => x.2.1
theorem cfs_at {E : Eg} {i k : Nat} {cf : Cf} {s : Cs} (h : E.q[i]? = some (k, cf, s)) : (cfs E)[i]? = some cf := by unfold cfs; rw [List.getElem?_map, h]; rfl
theorem cfs_len (E : Eg) : (cfs E).length = E.q.length := by unfold cfs; exact List.length_map ..
theorem cfs_ext {E E' : Eg} (h : ∀ (i k : Nat) (cf : Cf) (s : Cs), E.q[i]? = some (k, cf, s) → ∃ s', E'.q[i]? = some (k, cf, s')) (hl : E'.q.length = E.q.length) : cfs E' = cfs E := by
 apply List.ext_getElem?
 intro i
 cases hq : E.q[i]? with
 | none =>
   have h1 : E.q.length ≤ i := List.getElem?_eq_none_iff.1 hq
   rw [List.getElem?_eq_none (by rw [cfs_len]; omega), List.getElem?_eq_none (by rw [cfs_len]; omega)]
 | some x =>
   obtain ⟨k, cf, s⟩ := x
   obtain ⟨s', h1⟩ := h i k cf s hq
   rw [cfs_at h1, cfs_at hq]
theorem pushE_at {E : Eg} {i : Int} {rank : Nat} {p : Nat × Nat × Nat} {j k : Nat} {cf : Cf} {s : Cs} (h : E.q[j]? = some (k, cf, s)) :
 ((i = j ∧ ¬ (p.2.2 = 0 ∨ 65535 < p.2.2) ∧ (pushE E i rank p).1 = (pushS cf s E.now rank p).1 ∧ (pushE E i rank p).2.q[j]? = some (k, cf, (pushS cf s E.now rank p).2)) ∨ (((pushE E i rank p).1 = 0 → i ≠ j) ∧ (pushE E i rank p).2.q[j]? = some (k, cf, s))) := by
 have hlt : j < E.q.length := by
  rcases Nat.lt_or_ge j E.q.length with h' | h'
  · exact h'
  · rw [List.getElem?_eq_none h'] at h; cases h
 unfold pushE
 by_cases h1 : i < 0 ∨ (E.q.length : Int) ≤ i
 · rw [if_pos h1]; exact .inr ⟨fun h9 => by simp at h9, h⟩
 · rw [if_neg h1]
   by_cases h2 : p.2.2 = 0 ∨ 65535 < p.2.2
   · rw [if_pos h2]; exact .inr ⟨fun h9 => by simp at h9, h⟩
   · rw [if_neg h2]
     by_cases h3 : i = j
     · subst h3
       rw [Int.toNat_natCast, h]
       refine .inl ⟨rfl, h2, rfl, ?_⟩
       dsimp only
       rw [List.getElem?_set, if_pos rfl, if_pos hlt]
     · cases hx : E.q[i.toNat]? with
       | none => exact .inr ⟨fun h9 => by simp at h9, h⟩
       | some x =>
         obtain ⟨k', cf', s'⟩ := x
         refine .inr ⟨fun _ => h3, ?_⟩
         dsimp only
         rw [List.getElem?_set, if_neg (by omega)]
         exact h
theorem pushE_cfs (E : Eg) (i : Int) (rank : Nat) (p : Nat × Nat × Nat) : cfs (pushE E i rank p).2 = cfs E :=
 cfs_ext (fun j k cf s h => by
  rcases pushE_at (i := i) (rank := rank) (p := p) h with ⟨_, _, _, h1⟩ | ⟨_, h1⟩
  · exact ⟨_, h1⟩
  · exact ⟨_, h1⟩) (pushE_same E i rank p).2.2.2.2
theorem tickE_at {E : Eg} {t j k : Nat} {cf : Cf} {s : Cs} (h : E.q[j]? = some (k, cf, s)) : (tickE E t).q[j]? = some (k, cf, tickS cf s t) := by
 unfold tickE tickQ
 rw [List.getElem?_map, h]
 rfl
theorem tickE_cfs (E : Eg) (t : Nat) : cfs (tickE E t) = cfs E :=
 cfs_ext (fun j k cf s h => ⟨_, tickE_at h⟩) (by show (tickQ t E.q).length = _; unfold tickQ; exact List.length_map ..)
/-- What Next leaves of a class. -/
theorem nextE_at {E : Eg} {j k : Nat} {cf : Cf} {s : Cs} (h : E.q[j]? = some (k, cf, s)) :
 ((nextE E).2.q[j]? = some (k, cf, s) ∧ ((nextE E).1.2.2 = 0 → (nextE E).1.1 < j) ∧ ((nextE E).1.2.2 ≠ 0 → E.now < E.busy)) ∨
 ((runC E.pl E.pace E.now j cf s.l s).1 = none ∧ (nextE E).2.q[j]? = some (k, cf, (runC E.pl E.pace E.now j cf s.l s).2) ∧ ((nextE E).1.2.2 = 0 → j < (nextE E).1.1)) ∨
 (∃ x, (runC E.pl E.pace E.now j cf s.l s).1 = some x ∧ (nextE E).1 = (j, (x.1, x.2.1, x.2.2.1), 0) ∧ (nextE E).2.q[j]? = some (k, cf, (runC E.pl E.pace E.now j cf s.l s).2)) := by
 by_cases hb : E.now < E.busy
 · have e : nextE E = ((0, (0, 0, 0), 19), E) := by unfold nextE; rw [if_pos hb]
   rw [e]
   exact .inl ⟨h, fun h9 => by simp at h9, fun _ => hb⟩
 · obtain ⟨h1, h2⟩ := runQ_spec (pl := E.pl) (pace := E.pace) (now := E.now) E.q 0
   by_cases h0 : (nextE E).1.2.2 = 0
   · obtain ⟨i, x, hr, he, _⟩ := nextE_left h0
     obtain ⟨p, hp, ⟨k', cf', s', a1, a2, a3⟩, h4⟩ := h2 i x hr
     obtain rfl : i = p := by omega
     have h5 := h4 j k cf s h
     rw [Nat.zero_add] at h5 a2 a3
     rw [he]
     rcases Nat.lt_trichotomy j i with hlt | rfl | hgt
     · obtain ⟨b1, b2⟩ := h5.1 hlt
       exact .inr (.inl ⟨b1, b2, fun _ => hlt⟩)
     · rw [h] at a1
       cases a1
       exact .inr (.inr ⟨x, a2, rfl, a3⟩)
     · exact .inl ⟨h5.2 hgt, fun _ => hgt, fun h9 => absurd rfl h9⟩
   · obtain ⟨hr, he⟩ := nextE_none h0 hb
     obtain ⟨b1, b2⟩ := h1 hr j k cf s h
     rw [Nat.zero_add] at b1 b2
     rw [he]
     exact .inr (.inl ⟨b1, b2, fun h9 => absurd h9 h0⟩)
theorem nextE_cfs (E : Eg) : cfs (nextE E).2 = cfs E :=
 cfs_ext (fun j k cf s h => by
  rcases nextE_at h with ⟨h1, _⟩ | ⟨_, h1, _⟩ | ⟨x, _, _, h1⟩
  · exact ⟨_, h1⟩
  · exact ⟨_, h1⟩
  · exact ⟨_, h1⟩) (nextE_same E).2.2.2
end Go.Proofs.YtdddfmdcjjbegaaGreat.Egs

