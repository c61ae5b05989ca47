/- EgKeepsP, one behind the other. -/
import Derived.Test.YtdddfmdcjjbegaaGreatMeP2
namespace Go.Proofs.YtdddfmdcjjbegaaGreat.Egs
open Go.RowKit
open RingW (It)
open First (Cf)
open Cal (ins)
theorem pushE_in {E : Eg} {i : Int} {rank : Nat} {p : Nat × Nat × Nat} (h : (pushE E i rank p).1 = 0) : 0 ≤ i ∧ i < E.q.length := by
  unfold pushE at h
  split at h
  · cases h
  · omega
/-- Packets that wait: each came, in its class, and is there once; in order where the policy keeps it. -/
structure Kps (ls : List Nat) (i : Nat) (E : Eg) (came last : List Nat) : Prop where
  cl : came.length = ls.length
  ll : last.length = E.q.length
  lm : ∀ (j y : Nat), last[j]? = some y → y ≤ i
  its : ∀ (j k : Nat) (cf : Cf) (s : Cs), E.q[j]? = some (k, cf, s) → ∀ a ∈ s.l, a.2.2.1 < i ∧ came[a.2.2.1]? = some (j + 1) ∧ ls[a.2.2.1]? = some a.2.2.2.1
  nd : ∀ (j k : Nat) (cf : Cf) (s : Cs), E.q[j]? = some (k, cf, s) → s.l.Pairwise (fun a b => a.2.2.1 ≠ b.2.2.1)
  rs : ∀ (j k : Nat) (cf : Cf) (s : Cs), E.q[j]? = some (k, cf, s) → cf.policy ≠ 4 → s.l.Pairwise (fun a b => a.2.2.1 < b.2.2.1) ∧ ∀ y, last[j]? = some y → ∀ a ∈ s.l, y ≤ a.2.2.1
theorem ins_perm (r : Nat) (x : It) : ∀ l : List (Nat × It), (ins r x l).Perm ((r, x) :: l)
  | [] => List.Perm.refl _
  | a :: t => by
    unfold ins
    split
    · exact List.Perm.refl _
    · exact ((ins_perm r x t).cons a).trans (List.Perm.swap _ _ _)
theorem ins_ne {r : Nat} {x : It} {l : List (Nat × It)} (h : l.Pairwise (fun a b => a.2.2.1 ≠ b.2.2.1)) (hx : ∀ a ∈ l, a.2.2.1 ≠ x.2.1) : (ins r x l).Pairwise (fun a b => a.2.2.1 ≠ b.2.2.1) := by
  rw [(ins_perm r x l).pairwise_iff (fun h => Ne.symm h)]
  exact List.pairwise_cons.2 ⟨fun a ha => Ne.symm (hx a ha), h⟩
theorem psh_l {wst : Bool} {room rank : Nat} {l : List (Nat × It)} {x : It} (hx : ∀ a ∈ l, a.2.2.2.2.2 ≠ x.2.2.2.2) :
    (psh wst room l rank x = (l, x, true, true)) ∨ ((psh wst room l rank x).2.2.2 = false ∧ (wst = false → (psh wst room l rank x).1 = l ++ [(rank, x)]) ∧ ∃ t d, l = t ++ d ∧ (psh wst room l rank x).1.Perm ((rank, x) :: t)) := by
  unfold psh
  cases wst with
  | false =>
    rw [if_neg (by simp)]
    exact .inr ⟨rfl, fun _ => rfl, l, [], by simp, List.perm_append_singleton _ _⟩
  | true =>
    rw [if_pos rfl]
    by_cases hl : l.length < room
    · rw [if_pos hl]
      exact .inr ⟨rfl, fun h => (by cases h), l, [], by simp, ins_perm _ _ _⟩
    · rw [if_neg hl]
      cases hg : l.getLast? with
      | none => exact .inl rfl
      | some a =>
        obtain ⟨r, y⟩ := a
        dsimp only
        by_cases hr : r ≤ rank
        · rw [if_pos hr]; exact .inl rfl
        · rw [if_neg hr]
          obtain ⟨ys, rfl⟩ := List.getLast?_eq_some_iff.1 hg
          rw [List.dropLast_concat]
          exact .inr ⟨decide_eq_false (hx (r, y) (by simp)), fun h => (by cases h), ys, [(r, y)], rfl, ins_perm _ _ _⟩
/-- What a push leaves in a class. -/
theorem pushS_l {cf : Cf} {s : Cs} {now c rank : Nat} {p : Nat × Nat × Nat} (hs : OkS cf s now c) :
    ((pushS cf s now rank p).1 ≠ 0 ∧ (pushS cf s now rank p).2.l = s.l) ∨
    ((pushS cf s now rank p).1 = 0 ∧ (cf.policy ≠ 4 → (pushS cf s now rank p).2.l = s.l ++ [(rank, (p.1, p.2.1, p.2.2, now, s.inn))]) ∧ ∃ t d, s.l = t ++ d ∧ (pushS cf s now rank p).2.l.Perm ((rank, (p.1, p.2.1, p.2.2, now, s.inn)) :: t)) := by
  obtain ⟨m, ct, g, wi, he⟩ := mayS_eq cf s rank
  have hx : ∀ a ∈ s.l, a.2.2.2.2.2 ≠ s.inn := fun a ha => Nat.ne_of_lt (hs.its a ha).2.2.2.1
  have hP := psh_l (wst := wst cf) (room := cf.room.toNat) (rank := rank) (x := (p.1, p.2.1, p.2.2, now, s.inn)) hx
  unfold pushS
  generalize psh (wst cf) cf.room.toNat s.l rank (p.1, p.2.1, p.2.2, now, s.inn) = P at hP ⊢
  by_cases hy : (mayS cf s rank).1 = 0
  · rw [if_pos hy]
    rcases hP with rfl | ⟨h1, h2, h3⟩
    · exact .inl ⟨by simp, rfl⟩
    · rw [if_neg (by rw [h1]; simp)]
      exact .inr ⟨rfl, fun h => h2 (by unfold wst; exact decide_eq_false h), h3⟩
  · rw [if_neg hy, he]
    exact .inl ⟨hy, rfl⟩
section
variable {ls came last : List Nat} {i c : Nat} {E : Eg}
theorem Kps.push {len rank : Nat} {cls : Int} (h : Kps ls i E came last) (hE : OkE E c) (hl : ls[i]? = some len) :
    Kps ls (i + 1) (pushE E cls rank (i, i, len)).2 (if (pushE E cls rank (i, i, len)).1 = 0 then came.set i (cls + 1).toNat else came) last := by
  have hil : i < ls.length := by
    rcases Nat.lt_or_ge i ls.length with h' | h'
    · exact h'
    · rw [List.getElem?_eq_none h'] at hl; cases hl
  have old : ∀ (a y : Nat), a < i → came[a]? = some y → (if (pushE E cls rank (i, i, len)).1 = 0 then came.set i (cls + 1).toNat else came)[a]? = some y := fun a y ha hy => by
    split
    · rw [List.getElem?_set, if_neg (by omega)]; exact hy
    · exact hy
  have key : ∀ (j k : Nat) (cf : Cf) (s' : Cs), (pushE E cls rank (i, i, len)).2.q[j]? = some (k, cf, s') → ∃ s, E.q[j]? = some (k, cf, s) ∧ (s'.l = s.l ∨ (cls = j ∧ (pushE E cls rank (i, i, len)).1 = 0 ∧ (cf.policy ≠ 4 → s'.l = s.l ++ [(rank, (i, i, len, E.now, s.inn))]) ∧ ∃ t d, s.l = t ++ d ∧ s'.l.Perm ((rank, (i, i, len, E.now, s.inn)) :: t))) := by
    intro j k cf s' hj
    obtain ⟨k', s, hq⟩ := at_cfs (E := E) (i := j) (cf := cf) (by rw [← pushE_cfs E cls rank (i, i, len)]; exact cfs_at hj)
    obtain ⟨hf, hs⟩ := hE.q _ (List.mem_of_getElem? hq)
    rcases pushE_at (i := cls) (rank := rank) (p := (i, i, len)) hq with ⟨e1, _, e2, h1⟩ | ⟨_, h1⟩
    · rw [hj] at h1
      cases h1
      refine ⟨s, hq, ?_⟩
      rcases pushS_l (rank := rank) (p := (i, i, len)) hs with ⟨_, h2⟩ | ⟨h2, h3, h4⟩
      · exact .inl h2
      · exact .inr ⟨e1, by rw [e2]; exact h2, h3, h4⟩
    · rw [hj] at h1
      cases h1
      exact ⟨s', hq, .inl rfl⟩
  refine ⟨?_, by rw [(pushE_same E cls rank (i, i, len)).2.2.2.2]; exact h.ll, fun j y hy => Nat.le_succ_of_le (h.lm j y hy), fun j k cf s' hj a ha => ?_, fun j k cf s' hj => ?_, fun j k cf s' hj hp => ?_⟩
  · split
    · rw [List.length_set]; exact h.cl
    · exact h.cl
  · obtain ⟨s, hq, hor⟩ := key j k cf s' hj
    have hold : a ∈ s.l → _ := fun ha => h.its j k cf s hq a ha
    have fin : a ∈ s.l → a.2.2.1 < i + 1 ∧ (if (pushE E cls rank (i, i, len)).1 = 0 then came.set i (cls + 1).toNat else came)[a.2.2.1]? = some (j + 1) ∧ ls[a.2.2.1]? = some a.2.2.2.1 := fun ha => by
      obtain ⟨b1, b2, b3⟩ := hold ha
      exact ⟨by omega, old _ _ b1 b2, b3⟩
    rcases hor with he | ⟨hc, h0, _, t, d, he, hpm⟩
    · rw [he] at ha; exact fin ha
    · rcases List.mem_cons.1 ((hpm.mem_iff).1 ha) with rfl | ha
      · refine ⟨Nat.lt_succ_self _, ?_, hl⟩
        rw [if_pos h0, List.getElem?_set, if_pos rfl, if_pos (by rw [h.cl]; exact hil)]
        congr 1; omega
      · exact fin (by rw [he]; exact List.mem_append_left _ ha)
  · obtain ⟨s, hq, hor⟩ := key j k cf s' hj
    have h1 := h.nd j k cf s hq
    rcases hor with he | ⟨hc, h0, _, t, d, he, hpm⟩
    · rw [he]; exact h1
    · rw [hpm.pairwise_iff (fun h => Ne.symm h)]
      rw [he] at h1
      refine List.pairwise_cons.2 ⟨fun a ha => ?_, (List.pairwise_append.1 h1).1⟩
      have := (h.its j k cf s hq a (by rw [he]; exact List.mem_append_left _ ha)).1
      show i ≠ a.2.2.1
      omega
  · obtain ⟨s, hq, hor⟩ := key j k cf s' hj
    obtain ⟨h1, h2⟩ := h.rs j k cf s hq hp
    rcases hor with he | ⟨hc, h0, he, _⟩
    · rw [he]; exact ⟨h1, h2⟩
    · rw [he hp]
      refine ⟨List.pairwise_append.2 ⟨h1, List.pairwise_singleton _ _, fun a ha b hb => ?_⟩, fun y hy a ha => ?_⟩
      · rw [List.mem_singleton] at hb
        subst hb
        exact (h.its j k cf s hq a ha).1
      · rcases List.mem_append.1 ha with ha | ha
        · exact h2 y hy a ha
        · rw [List.mem_singleton] at ha
          subst ha
          exact h.lm j y hy
theorem Kps.tick {t : Nat} (h : Kps ls i E came last) : Kps ls (i + 1) (tickE E t) came last := by
  have key : ∀ (j k : Nat) (cf : Cf) (s' : Cs), (tickE E t).q[j]? = some (k, cf, s') → ∃ s, E.q[j]? = some (k, cf, s) ∧ s'.l = s.l := fun j k cf s' hj => by
    obtain ⟨k', s, hq⟩ := at_cfs (E := E) (i := j) (cf := cf) (by rw [← tickE_cfs E t]; exact cfs_at hj)
    have h1 := tickE_at (t := t) hq
    rw [hj] at h1
    cases h1
    exact ⟨s, hq, rfl⟩
  refine ⟨h.cl, by rw [h.ll]; show _ = (tickQ t E.q).length; unfold tickQ; rw [List.length_map], fun j y hy => Nat.le_succ_of_le (h.lm j y hy), fun j k cf s' hj => ?_, fun j k cf s' hj => ?_, fun j k cf s' hj => ?_⟩
  · obtain ⟨s, hq, he⟩ := key j k cf s' hj
    rw [he]
    exact fun a ha => by have := h.its j k cf s hq a ha; exact ⟨by omega, this.2⟩
  · obtain ⟨s, hq, he⟩ := key j k cf s' hj
    rw [he]; exact h.nd j k cf s hq
  · obtain ⟨s, hq, he⟩ := key j k cf s' hj
    rw [he]; exact h.rs j k cf s hq
/-- What leaves: came, in its class, and is as it was; in order where the policy keeps it. -/
theorem Kps.next (h : Kps ls i E came last) (h0 : (nextE E).1.2.2 = 0) :
    (nextE E).1.2.1.2.1 < i ∧ came[(nextE E).1.2.1.2.1]? = some ((nextE E).1.1 + 1) ∧ ls[(nextE E).1.2.1.2.1]? = some (nextE E).1.2.1.2.2 ∧
    (∀ cf y, (cfs E)[(nextE E).1.1]? = some cf → cf.policy ≠ 4 → last[(nextE E).1.1]? = some y → y ≤ (nextE E).1.2.1.2.1) ∧
    Kps ls (i + 1) (nextE E).2 (came.set (nextE E).1.2.1.2.1 0) (last.set (nextE E).1.1 (nextE E).1.2.1.2.1) := by
  obtain ⟨k0, cf0, st0, x, hq0, hr0, hx0, hq0'⟩ := nextE_who h0
  obtain ⟨K, hK⟩ : ∃ K, (nextE E).1.1 = K := ⟨_, rfl⟩
  rw [hx0]
  rw [hK] at hq0 hr0 hq0' ⊢
  obtain ⟨r1, _⟩ := runC_spec (pl := E.pl) (pace := E.pace) (now := E.now) (i := K) (cf := cf0) st0.l st0 rfl
  obtain ⟨⟨d, r, e⟩, _⟩ := r1 x hr0
  have hm : (r, x) ∈ st0.l := by rw [e]; simp
  obtain ⟨a1, a2, a3⟩ := h.its K k0 cf0 st0 hq0 (r, x) hm
  have hKl : K < E.q.length := by
    rcases Nat.lt_or_ge K E.q.length with h' | h'
    · exact h'
    · rw [List.getElem?_eq_none h'] at hq0; cases hq0
  refine ⟨a1, a2, a3, fun cf y hcf hp hy => ?_, ?_⟩
  · rw [cfs_at hq0] at hcf
    cases hcf
    exact (h.rs K k0 cf0 st0 hq0 hp).2 y hy (r, x) hm
  · have key : ∀ (j k : Nat) (cf : Cf) (s' : Cs), (nextE E).2.q[j]? = some (k, cf, s') → ∃ s d, E.q[j]? = some (k, cf, s) ∧ s.l = d ++ s'.l ∧ (j = K → ∃ d', s.l = d' ++ (r, x) :: s'.l) := by
      intro j k cf s' hj
      obtain ⟨k', s, hq⟩ := at_cfs (E := E) (i := j) (cf := cf) (by rw [← nextE_cfs E]; exact cfs_at hj)
      obtain ⟨q1, q2⟩ := runC_spec (pl := E.pl) (pace := E.pace) (now := E.now) (i := j) (cf := cf) s.l s rfl
      rcases nextE_at hq with ⟨h1, h2, _⟩ | ⟨hn, h1, h2⟩ | ⟨y, hn, h2, h1⟩
      · rw [hj] at h1
        cases h1
        exact ⟨s', [], hq, by simp, fun h9 => by have := h2 h0; omega⟩
      · rw [hj] at h1
        cases h1
        obtain ⟨⟨d1, e1⟩, _⟩ := q2 hn
        exact ⟨s, d1, hq, e1, fun h9 => by have := h2 h0; omega⟩
      · rw [hj] at h1
        cases h1
        obtain ⟨⟨d1, r', e1⟩, _⟩ := q1 y hn
        refine ⟨s, d1 ++ [(r', y)], hq, by rw [List.append_assoc]; exact e1, fun h9 => ?_⟩
        subst h9
        rw [hq0] at hq
        cases hq
        exact ⟨d, e⟩
    have off : ∀ (j k : Nat) (cf : Cf) (s' : Cs), (nextE E).2.q[j]? = some (k, cf, s') → ∀ a ∈ s'.l, a.2.2.1 ≠ x.2.1 := by
      intro j k cf s' hj a ha
      obtain ⟨s, d1, hq, e1, e2⟩ := key j k cf s' hj
      by_cases hjK : j = K
      · obtain ⟨d', e3⟩ := e2 hjK
        have h1 := h.nd j k cf s hq
        rw [e3] at h1
        have h2 := (List.pairwise_append.1 h1).2.1
        exact Ne.symm ((List.pairwise_cons.1 h2).1 a ha)
      · obtain ⟨_, b2, _⟩ := h.its j k cf s hq a (by rw [e1]; exact List.mem_append_right _ ha)
        intro h9
        rw [h9, a2] at b2
        injection b2 with b2
        omega
    refine ⟨by rw [List.length_set]; exact h.cl, by rw [List.length_set, (nextE_same E).2.2.2]; exact h.ll, fun j y hy => ?_, fun j k cf s' hj a ha => ?_, fun j k cf s' hj => ?_, fun j k cf s' hj hp => ?_⟩
    · rw [List.getElem?_set] at hy
      split at hy
      · split at hy
        · injection hy with hy; have a1' : x.2.1 < i := a1; have : x.2.1 = y := hy; omega
        · cases hy
      · exact Nat.le_succ_of_le (h.lm j y hy)
    · obtain ⟨s, d1, hq, e1, e2⟩ := key j k cf s' hj
      obtain ⟨b1, b2, b3⟩ := h.its j k cf s hq a (by rw [e1]; exact List.mem_append_right _ ha)
      refine ⟨by omega, ?_, b3⟩
      rw [List.getElem?_set, if_neg (fun h9 => off j k cf s' hj a ha h9.symm)]
      exact b2
    · obtain ⟨s, d1, hq, e1, e2⟩ := key j k cf s' hj
      have h1 := h.nd j k cf s hq
      rw [e1] at h1
      exact (List.pairwise_append.1 h1).2.1
    · obtain ⟨s, d1, hq, e1, e2⟩ := key j k cf s' hj
      obtain ⟨h1, h2⟩ := h.rs j k cf s hq hp
      by_cases hjK : j = K
      · obtain ⟨d', e3⟩ := e2 hjK
        rw [e3] at h1
        have h3 := (List.pairwise_append.1 h1).2.1
        obtain ⟨h4, h5⟩ := List.pairwise_cons.1 h3
        refine ⟨h5, fun y hy a ha => ?_⟩
        subst hjK
        rw [List.getElem?_set, if_pos rfl, if_pos (by rw [h.ll]; exact hKl)] at hy
        injection hy with hy
        rw [← hy]
        exact Nat.le_of_lt (h4 a ha)
      · rw [e1] at h1
        refine ⟨(List.pairwise_append.1 h1).2.1, fun y hy a ha => ?_⟩
        rw [List.getElem?_set, if_neg (fun h9 => hjK h9.symm)] at hy
        exact h2 y hy a (by rw [e1]; exact List.mem_append_right _ ha)
/-- Nothing left: some were dropped at most. -/
theorem Kps.none (h : Kps ls i E came last) (h0 : (nextE E).1.2.2 ≠ 0) : Kps ls (i + 1) (nextE E).2 came last := by
  have key : ∀ (j k : Nat) (cf : Cf) (s' : Cs), (nextE E).2.q[j]? = some (k, cf, s') → ∃ s d, E.q[j]? = some (k, cf, s) ∧ s.l = d ++ s'.l := by
    intro j k cf s' hj
    obtain ⟨k', s, hq⟩ := at_cfs (E := E) (i := j) (cf := cf) (by rw [← nextE_cfs E]; exact cfs_at hj)
    obtain ⟨q1, q2⟩ := runC_spec (pl := E.pl) (pace := E.pace) (now := E.now) (i := j) (cf := cf) s.l s rfl
    rcases nextE_at hq with ⟨h1, h2, _⟩ | ⟨hn, h1, h2⟩ | ⟨y, hn, h2, h1⟩
    · rw [hj] at h1
      cases h1
      exact ⟨s', [], hq, by simp⟩
    · rw [hj] at h1
      cases h1
      obtain ⟨⟨d1, e1⟩, _⟩ := q2 hn
      exact ⟨s, d1, hq, e1⟩
    · rw [h2] at h0
      exact absurd rfl h0
  refine ⟨h.cl, by rw [(nextE_same E).2.2.2]; exact h.ll, fun j y hy => Nat.le_succ_of_le (h.lm j y hy), fun j k cf s' hj a ha => ?_, fun j k cf s' hj => ?_, fun j k cf s' hj hp => ?_⟩
  · obtain ⟨s, d1, hq, e1⟩ := key j k cf s' hj
    obtain ⟨b1, b2, b3⟩ := h.its j k cf s hq a (by rw [e1]; exact List.mem_append_right _ ha)
    exact ⟨by omega, b2, b3⟩
  · obtain ⟨s, d1, hq, e1⟩ := key j k cf s' hj
    have h1 := h.nd j k cf s hq
    rw [e1] at h1
    exact (List.pairwise_append.1 h1).2.1
  · obtain ⟨s, d1, hq, e1⟩ := key j k cf s' hj
    obtain ⟨h1, h2⟩ := h.rs j k cf s hq hp
    rw [e1] at h1
    exact ⟨(List.pairwise_append.1 h1).2.1, fun y hy a ha => h2 y hy a (by rw [e1]; exact List.mem_append_right _ ha)⟩
end
end Go.Proofs.YtdddfmdcjjbegaaGreat.Egs
