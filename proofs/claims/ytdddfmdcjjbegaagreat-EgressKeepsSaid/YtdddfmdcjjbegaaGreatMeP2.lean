/- EgPlain2, one behind the other. -/
import Derived.Test.YtdddfmdcjjbegaaGreatMeP
namespace Go.Proofs.YtdddfmdcjjbegaaGreat.Egs
open Go.RowKit
open RingW (It)
open First (Cf)
/-- The classes' configurations. -/
def cfs (E : Eg) : List Cf := E.q.map fun x => x.2.1
theorem cfs_at {E : Eg} {i k : Nat} {cf : Cf} {s : Cs} (h : E.q[i]? = some (k, cf, s)) : (cfs E)[i]? = some cf := by unfold cfs; rw [List.getElem?_map, h]; rfl
theorem at_cfs {E : Eg} {i : Nat} {cf : Cf} (h : (cfs E)[i]? = some cf) : ∃ k s, E.q[i]? = some (k, cf, s) := by
  unfold cfs at h
  rw [List.getElem?_map] at h
  cases hq : E.q[i]? with
  | none => rw [hq] at h; cases h
  | some x =>
    rw [hq] at h
    obtain ⟨k, c, s⟩ := x
    cases h
    exact ⟨k, s, rfl⟩
theorem cfs_len (E : Eg) : (cfs E).length = E.q.length := by unfold cfs; exact List.length_map ..
theorem cfs_ext {E E' : Eg} (h : ∀ (i k : Nat) (cf : Cf) (s : Cs), E.q[i]? = some (k, cf, s) → ∃ s', E'.q[i]? = some (k, cf, s')) (hl : E'.q.length = E.q.length) : cfs E' = cfs E := by
  apply List.ext_getElem?
  intro i
  cases hq : E.q[i]? with
  | none =>
    have h1 : E.q.length ≤ i := List.getElem?_eq_none_iff.1 hq
    rw [List.getElem?_eq_none (by rw [cfs_len]; omega), List.getElem?_eq_none (by rw [cfs_len]; omega)]
  | some x =>
    obtain ⟨k, cf, s⟩ := x
    obtain ⟨s', h1⟩ := h i k cf s hq
    rw [cfs_at h1, cfs_at hq]
theorem pushS_hv (cf : Cf) (s : Cs) (now rank : Nat) (p : Nat × Nat × Nat) : (pushS cf s now rank p).2.hv = s.hv := by
  obtain ⟨m, ct, g, wi, he⟩ := mayS_eq cf s rank
  unfold pushS
  split
  · split
    · rw [he]
    · rw [he]
  · rw [he]
theorem pushE_at {E : Eg} {i : Int} {rank : Nat} {p : Nat × Nat × Nat} {j k : Nat} {cf : Cf} {s : Cs} (h : E.q[j]? = some (k, cf, s)) :
    ((i = j ∧ ¬ (p.2.2 = 0 ∨ 65535 < p.2.2) ∧ (pushE E i rank p).1 = (pushS cf s E.now rank p).1 ∧ (pushE E i rank p).2.q[j]? = some (k, cf, (pushS cf s E.now rank p).2)) ∨ (((pushE E i rank p).1 = 0 → i ≠ j) ∧ (pushE E i rank p).2.q[j]? = some (k, cf, s))) := by
  have hlt : j < E.q.length := by
    rcases Nat.lt_or_ge j E.q.length with h' | h'
    · exact h'
    · rw [List.getElem?_eq_none h'] at h; cases h
  unfold pushE
  by_cases h1 : i < 0 ∨ (E.q.length : Int) ≤ i
  · rw [if_pos h1]; exact .inr ⟨fun h9 => by simp at h9, h⟩
  · rw [if_neg h1]
    by_cases h2 : p.2.2 = 0 ∨ 65535 < p.2.2
    · rw [if_pos h2]; exact .inr ⟨fun h9 => by simp at h9, h⟩
    · rw [if_neg h2]
      by_cases h3 : i = j
      · subst h3
        rw [Int.toNat_natCast, h]
        refine .inl ⟨rfl, h2, rfl, ?_⟩
        dsimp only
        rw [List.getElem?_set, if_pos rfl, if_pos hlt]
      · cases hx : E.q[i.toNat]? with
        | none => exact .inr ⟨fun h9 => by simp at h9, h⟩
        | some x =>
          obtain ⟨k', cf', s'⟩ := x
          refine .inr ⟨fun _ => h3, ?_⟩
          dsimp only
          rw [List.getElem?_set, if_neg (by omega)]
          exact h
theorem pushE_cfs (E : Eg) (i : Int) (rank : Nat) (p : Nat × Nat × Nat) : cfs (pushE E i rank p).2 = cfs E :=
  cfs_ext (fun j k cf s h => by
    rcases pushE_at (i := i) (rank := rank) (p := p) h with ⟨_, _, _, h1⟩ | ⟨_, h1⟩
    · exact ⟨_, h1⟩
    · exact ⟨_, h1⟩) (pushE_same E i rank p).2.2.2.2
theorem tickE_at {E : Eg} {t j k : Nat} {cf : Cf} {s : Cs} (h : E.q[j]? = some (k, cf, s)) : (tickE E t).q[j]? = some (k, cf, tickS cf s t) := by
  unfold tickE tickQ
  rw [List.getElem?_map, h]
  rfl
theorem tickE_cfs (E : Eg) (t : Nat) : cfs (tickE E t) = cfs E :=
  cfs_ext (fun j k cf s h => ⟨_, tickE_at h⟩) (by show (tickQ t E.q).length = _; unfold tickQ; exact List.length_map ..)
/-- What Next leaves of a class. -/
theorem nextE_at {E : Eg} {j k : Nat} {cf : Cf} {s : Cs} (h : E.q[j]? = some (k, cf, s)) :
    ((nextE E).2.q[j]? = some (k, cf, s) ∧ ((nextE E).1.2.2 = 0 → (nextE E).1.1 < j) ∧ ((nextE E).1.2.2 ≠ 0 → E.now < E.busy)) ∨
    ((runC E.pl E.pace E.now j cf s.l s).1 = none ∧ (nextE E).2.q[j]? = some (k, cf, (runC E.pl E.pace E.now j cf s.l s).2) ∧ ((nextE E).1.2.2 = 0 → j < (nextE E).1.1)) ∨
    (∃ x, (runC E.pl E.pace E.now j cf s.l s).1 = some x ∧ (nextE E).1 = (j, (x.1, x.2.1, x.2.2.1), 0) ∧ (nextE E).2.q[j]? = some (k, cf, (runC E.pl E.pace E.now j cf s.l s).2)) := by
  by_cases hb : E.now < E.busy
  · have e : nextE E = ((0, (0, 0, 0), 19), E) := by unfold nextE; rw [if_pos hb]
    rw [e]
    exact .inl ⟨h, fun h9 => by simp at h9, fun _ => hb⟩
  · obtain ⟨h1, h2⟩ := runQ_spec (pl := E.pl) (pace := E.pace) (now := E.now) E.q 0
    by_cases h0 : (nextE E).1.2.2 = 0
    · obtain ⟨i, x, hr, he, _⟩ := nextE_left h0
      obtain ⟨p, hp, ⟨k', cf', s', a1, a2, a3⟩, h4⟩ := h2 i x hr
      obtain rfl : i = p := by omega
      have h5 := h4 j k cf s h
      rw [Nat.zero_add] at h5 a2 a3
      rw [he]
      rcases Nat.lt_trichotomy j i with hlt | rfl | hgt
      · obtain ⟨b1, b2⟩ := h5.1 hlt
        exact .inr (.inl ⟨b1, b2, fun _ => hlt⟩)
      · rw [h] at a1
        cases a1
        exact .inr (.inr ⟨x, a2, rfl, a3⟩)
      · exact .inl ⟨h5.2 hgt, fun _ => hgt, fun h9 => absurd rfl h9⟩
    · obtain ⟨hr, he⟩ := nextE_none h0 hb
      obtain ⟨b1, b2⟩ := h1 hr j k cf s h
      rw [Nat.zero_add] at b1 b2
      rw [he]
      exact .inr (.inl ⟨b1, b2, fun h9 => absurd h9 h0⟩)
theorem nextE_cfs (E : Eg) : cfs (nextE E).2 = cfs E :=
  cfs_ext (fun j k cf s h => by
    rcases nextE_at h with ⟨h1, _⟩ | ⟨_, h1, _⟩ | ⟨x, _, _, h1⟩
    · exact ⟨_, h1⟩
    · exact ⟨_, h1⟩
    · exact ⟨_, h1⟩) (nextE_same E).2.2.2
/-- What leaves lies in a class. -/
theorem nextE_who {E : Eg} (h : (nextE E).1.2.2 = 0) : ∃ k cf s x, E.q[(nextE E).1.1]? = some (k, cf, s) ∧ (runC E.pl E.pace E.now (nextE E).1.1 cf s.l s).1 = some x ∧ (nextE E).1.2.1 = (x.1, x.2.1, x.2.2.1) ∧ (nextE E).2.q[(nextE E).1.1]? = some (k, cf, (runC E.pl E.pace E.now (nextE E).1.1 cf s.l s).2) := by
  obtain ⟨i, x, hr, he, _⟩ := nextE_left h
  obtain ⟨_, h2⟩ := runQ_spec (pl := E.pl) (pace := E.pace) (now := E.now) E.q 0
  obtain ⟨p, hp, ⟨k', cf', s', a1, a2, a3⟩, h4⟩ := h2 i x hr
  obtain rfl : i = p := by omega
  rw [Nat.zero_add] at a2 a3
  rw [he]
  exact ⟨k', cf', s', x, a1, a2, rfl, a3⟩
theorem nextE_busy {E : Eg} (h : (nextE E).1.2.2 ≠ 0) : (nextE E).2.busy = E.busy := by
  unfold nextE at h ⊢
  split
  · rfl
  · rename_i hb
    rw [if_neg hb] at h
    split
    · rename_i i x hr
      rw [hr] at h
      exact absurd rfl h
    · rfl
/-- Classes that Next passed have no head that may go. -/
theorem nextE_first {E : Eg} (hb : ¬ E.now < E.busy) {j k : Nat} {cf : Cf} {s' : Cs} (h : (nextE E).2.q[j]? = some (k, cf, s')) (hj : (nextE E).1.2.2 = 0 → j < (nextE E).1.1) : goesB E.pl E.pace E.now j cf s' = false := by
  obtain ⟨k', s, hq⟩ := at_cfs (E := E) (i := j) (cf := cf) (by rw [← nextE_cfs E]; exact cfs_at h)
  rcases nextE_at hq with ⟨h1, h2, h3⟩ | ⟨h0, h1, h2⟩ | ⟨x, h0, h2, h1⟩
  · exfalso
    by_cases h0 : (nextE E).1.2.2 = 0
    · have := h2 h0; have := hj h0; omega
    · exact hb (h3 h0)
  · rw [h] at h1
    cases h1
    exact ((runC_spec (pl := E.pl) (pace := E.pace) (now := E.now) (i := j) (cf := cf) s.l s rfl).2 h0).2.1
  · rw [h2] at hj
    have := hj rfl
    exact absurd this (Nat.lt_irrefl _)
theorem goes_no {pl : List (Nat × Nat)} {pace now j r : Nat} {cf : Cf} {s : Cs} {x : It} {t : List (Nat × It)} (h : goesB pl pace now j cf s = false) (hl : s.l = (r, x) :: t) : opens pl j now (tks pace x.2.2.1) = false ∨ (opens pl j now (tks pace x.2.2.1) = true ∧ cf.credit = true ∧ s.hv < 0) := by
  unfold goesB at h
  rw [hl] at h
  dsimp only at h
  cases ho : opens pl j now (tks pace x.2.2.1) with
  | false => exact .inl rfl
  | true =>
    rw [ho] at h
    simp at h
    exact .inr ⟨rfl, h.1, h.2⟩
/-- The credits of what has them. -/
def Crd (E : Eg) : Prop := ∀ x ∈ E.q, x.2.1.credit = true → -(x.2.1.send * 65535) ≤ x.2.2.hv
theorem crd_of {E : Eg} (h : ∀ (j k : Nat) (cf : Cf) (s : Cs), E.q[j]? = some (k, cf, s) → cf.credit = true → -(cf.send * 65535) ≤ s.hv) : Crd E := fun x hx hc => by
  obtain ⟨j, hj⟩ := List.getElem?_of_mem hx
  obtain ⟨k, cf, s⟩ := x
  exact h j k cf s hj hc
theorem Crd.push {E : Eg} (h : Crd E) (i : Int) (rank : Nat) (p : Nat × Nat × Nat) : Crd (pushE E i rank p).2 := by
  refine crd_of fun j k cf s hj hc => ?_
  obtain ⟨k', s', hq⟩ := at_cfs (E := E) (i := j) (cf := cf) (by rw [← pushE_cfs E i rank p]; exact cfs_at hj)
  have h0 := h _ (List.mem_of_getElem? hq) hc
  rcases pushE_at (i := i) (rank := rank) (p := p) hq with ⟨_, _, _, h1⟩ | ⟨_, h1⟩
  · rw [hj] at h1; cases h1
    rw [pushS_hv]; exact h0
  · rw [hj] at h1; cases h1; exact h0
theorem nextE_hv {E : Eg} {c : Nat} (hE : OkE E c) {j k : Nat} {cf : Cf} {s : Cs} (h : E.q[j]? = some (k, cf, s)) :
    ∃ s', (nextE E).2.q[j]? = some (k, cf, s') ∧ s'.hv = s.hv - (if (nextE E).1.2.2 = 0 ∧ j = (nextE E).1.1 ∧ cf.credit = true then cf.send * ((nextE E).1.2.1.2.2 : Int) else 0) ∧ ((nextE E).1.2.2 = 0 → j = (nextE E).1.1 → (nextE E).1.2.1.2.2 ≤ 65535 ∧ (cf.credit = true → 0 ≤ s.hv)) := by
  obtain ⟨hf, hs⟩ := hE.q _ (List.mem_of_getElem? h)
  obtain ⟨r1, r2⟩ := runC_spec (pl := E.pl) (pace := E.pace) (now := E.now) (i := j) (cf := cf) s.l s rfl
  rcases nextE_at h with ⟨h1, h2, h3⟩ | ⟨h0, h1, h2⟩ | ⟨x, h0, h2, h1⟩
  · refine ⟨s, h1, ?_, fun a b => ?_⟩
    · rw [if_neg (by rintro ⟨a, b, _⟩; have := h2 a; omega)]; omega
    · have := h2 a; omega
  · refine ⟨_, h1, ?_, fun a b => ?_⟩
    · rw [if_neg (by rintro ⟨a, b, _⟩; have := h2 a; omega), (r2 h0).2.2]; omega
    · have := h2 a; omega
  · obtain ⟨⟨d, r, e⟩, _, e3, e4⟩ := r1 x h0
    have hx := hs.its (r, x) (by show (r, x) ∈ s.l; rw [e]; simp)
    refine ⟨_, h1, ?_, fun _ _ => ⟨by rw [h2]; exact hx.2.1, e3⟩⟩
    rw [e4, h2]
    by_cases hc : cf.credit = true
    · rw [if_pos hc, if_pos ⟨rfl, rfl, hc⟩]
    · rw [if_neg hc, if_neg (fun h9 => hc h9.2.2)]; omega
theorem Crd.next {E : Eg} {c : Nat} (h : Crd E) (hE : OkE E c) : Crd (nextE E).2 := by
  refine crd_of fun j k cf s hj hc => ?_
  obtain ⟨k', s', hq⟩ := at_cfs (E := E) (i := j) (cf := cf) (by rw [← nextE_cfs E]; exact cfs_at hj)
  have h0 := h _ (List.mem_of_getElem? hq) hc
  obtain ⟨hf, _⟩ := hE.q _ (List.mem_of_getElem? hq)
  dsimp only at hf h0
  have hs1 := (hf.cr hc).2.1
  obtain ⟨s2, h1, h2, h3⟩ := nextE_hv hE hq
  rw [hj] at h1
  cases h1
  rw [h2]
  by_cases hl : (nextE E).1.2.2 = 0 ∧ j = (nextE E).1.1 ∧ cf.credit = true
  · rw [if_pos hl]
    obtain ⟨a1, a2⟩ := h3 hl.1 hl.2.1
    have a3 := a2 hc
    have : cf.send * ((nextE E).1.2.1.2.2 : Int) ≤ cf.send * 65535 := Int.mul_le_mul_of_nonneg_left (by omega) (by omega)
    omega
  · rw [if_neg hl]; omega
theorem ern_ge {i v bd : Int} {t : Nat} (hi : 1 ≤ i) (hb : v ≤ bd) : v ≤ Credit.ern i v bd t := by
  unfold Credit.ern
  split
  · exact hb
  · have : 0 ≤ i * (t : Int) := Int.mul_nonneg (by omega) (by omega)
    omega
theorem Crd.tick {E : Eg} {c t : Nat} (h : Crd E) (hE : OkE E c) : Crd (tickE E t) := by
  refine crd_of fun j k cf s hj hc => ?_
  obtain ⟨k', s', hq⟩ := at_cfs (E := E) (i := j) (cf := cf) (by rw [← tickE_cfs E t]; exact cfs_at hj)
  have h0 := h _ (List.mem_of_getElem? hq) hc
  obtain ⟨hf, hs⟩ := hE.q _ (List.mem_of_getElem? hq)
  dsimp only at hf hs h0
  have hs1 := (hf.cr hc).2.1
  have hv := hs.hv1 hc
  have h1 := tickE_at (t := t) hq
  rw [hj] at h1
  cases h1
  show -(cf.send * 65535) ≤ if cf.credit = true then Credit.tck cf.idle cf.high s'.hv t (decide (0 < s'.l.length)) else s'.hv
  rw [if_pos hc]
  unfold Credit.tck
  split
  · exact Int.le_trans h0 (ern_ge hv.1.1 hv.2.2.2.2)
  · split
    · exact Int.le_trans h0 (ern_ge hv.1.1 (by omega))
    · have : 0 ≤ cf.send * 65535 := Int.mul_nonneg (by omega) (by omega)
      omega
end Go.Proofs.YtdddfmdcjjbegaaGreat.Egs
