/- Deficit round robin, plainly: whose turn it is, what credits become. No program in sight. -/
import Derived.Test.YtopibbaopglggaaSpPlain
namespace Go.Proofs.Ytopibbaopglggaa.Drr
/-- The row of classes that have items; whether the first one's turn has begun; credits. -/
structure Turn where
  row : List Nat
  begun : Bool
  cr : Nat → Nat
/-- Credits once the turn of class c, the first one, has begun. -/
def startCr (q : Nat → Nat) (st : Turn) (c : Nat) : Nat → Nat := if st.begun then st.cr else upd st.cr c (st.cr c + q c)
/-- Turns, until one has credit enough. -/
def spin (q hd : Nat → Nat) : Nat → Turn → Turn
  | 0, st => st
  | f + 1, st => match st.row with
    | [] => st
    | c :: r => if hd c ≤ startCr q st c c then ⟨c :: r, true, startCr q st c⟩ else spin q hd f ⟨r ++ [c], false, startCr q st c⟩
theorem spin_stop {q hd : Nat → Nat} {f : Nat} {st : Turn} {c : Nat} {r : List Nat} (hr : st.row = c :: r) (h : hd c ≤ startCr q st c c) : spin q hd (f + 1) st = ⟨c :: r, true, startCr q st c⟩ := by
  rw [spin, hr]; simp only []; rw [if_pos h]
theorem spin_on {q hd : Nat → Nat} {f : Nat} {st : Turn} {c : Nat} {r : List Nat} (hr : st.row = c :: r) (h : ¬ hd c ≤ startCr q st c c) : spin q hd (f + 1) st = spin q hd f ⟨r ++ [c], false, startCr q st c⟩ := by
  rw [spin, hr]; simp only []; rw [if_neg h]
/-- What the first k credits lack. -/
def lack (cr : Nat → Nat) : Nat → Nat
  | 0 => 0
  | k + 1 => lack cr k + (65536 - cr k)
theorem lack_far (cr : Nat → Nat) (c v : Nat) : ∀ k, k ≤ c → lack (upd cr c v) k = lack cr k
  | 0, _ => rfl
  | k + 1, h => by rw [lack, lack, lack_far cr c v k (by omega), upd_ne _ _ (by omega)]
theorem lack_upd (cr : Nat → Nat) (c v : Nat) : ∀ k, c < k → lack (upd cr c v) k + (65536 - cr c) = lack cr k + (65536 - v)
  | 0, h => by omega
  | k + 1, h => by
    rcases Nat.lt_or_ge c k with hk | hk
    · have := lack_upd cr c v k hk
      rw [lack, lack, upd_ne _ _ (by omega)]; omega
    · obtain rfl : c = k := by omega
      rw [lack, lack, lack_far cr c v c (Nat.le_refl _), upd_at]; omega
def meas (n : Nat) (st : Turn) : Nat := 2 * lack st.cr n + if st.begun then 1 else 0
abbrev Items := Nat → List (Nat × Int)
/-- The size of a class's first item. -/
def hdOf (its : Items) (i : Nat) : Nat := match its i with | [] => 0 | x :: _ => x.1
theorem hdOf_cons {its : Items} {i : Nat} {x : Nat × Int} {t : List (Nat × Int)} (h : its i = x :: t) : hdOf its i = x.1 := by unfold hdOf; rw [h]
/-- What classes are fit to be. -/
structure Fits (n : Nat) (q : Nat → Nat) (its : Items) (st : Turn) : Prop where
  nodup : st.row.Nodup
  mem : ∀ i, i ∈ st.row ↔ i < n ∧ its i ≠ []
  cb : ∀ i, i < n → st.cr i ≤ 4295032831
  cs : ∀ i, i < n → (st.begun = true → st.row.head? ≠ some i) → st.cr i ≤ 65535
  q1 : ∀ i, i < n → 64 ≤ q i
  q2 : ∀ i, i < n → q i ≤ 4294967296
  siz : ∀ i, i < n → ∀ x ∈ its i, 1 ≤ x.1 ∧ x.1 ≤ 65535
  len : ∀ i, i < n → (its i).length ≤ 1024
section
variable {n : Nat} {q : Nat → Nat} {its : Items} {st : Turn} {c : Nat} {r : List Nat}
theorem Fits.head (h : Fits n q its st) (hr : st.row = c :: r) : c < n ∧ ∃ x t, its c = x :: t := by
  have := (h.mem c).1 (by rw [hr]; exact List.mem_cons_self ..)
  refine ⟨this.1, ?_⟩
  cases hi : its c with
  | nil => exact absurd hi this.2
  | cons x t => exact ⟨x, t, rfl⟩
theorem Fits.hd (h : Fits n q its st) {i : Nat} (hi : i < n) : hdOf its i ≤ 65535 := by
  unfold hdOf
  split
  · omega
  · rename_i x t hx
    exact (h.siz i hi x (by rw [hx]; exact List.mem_cons_self ..)).2
theorem Fits.rlen (h : Fits n q its st) : st.row.length ≤ n := by
  have : st.row ⊆ List.range n := fun i hi => List.mem_range.2 ((h.mem i).1 hi).1
  have := h.nodup.length_le_of_subset this
  simpa using this
theorem startCr_ne (q : Nat → Nat) (st : Turn) {c i : Nat} (h : i ≠ c) : startCr q st c i = st.cr i := by
  unfold startCr
  split
  · rfl
  · exact upd_ne _ _ h
theorem startCr_at (q : Nat → Nat) (st : Turn) (c : Nat) : startCr q st c c = if st.begun then st.cr c else st.cr c + q c := by
  unfold startCr
  split
  · rfl
  · exact upd_at _ _ _
theorem Fits.start_le (h : Fits n q its st) (hr : st.row = c :: r) : startCr q st c c ≤ 4295032831 := by
  have hc := (h.head hr).1
  rw [startCr_at]
  split
  · exact h.cb c hc
  · rename_i hb
    have := h.cs c hc (fun e => absurd e hb)
    have := h.q2 c hc
    omega
/-- Another one's turn. -/
theorem Fits.on (h : Fits n q its st) (hr : st.row = c :: r) (hn : ¬ hdOf its c ≤ startCr q st c c) : Fits n q its ⟨r ++ [c], false, startCr q st c⟩ := by
  have hc := (h.head hr).1
  have hhd := h.hd hc
  have hp : (r ++ [c]).Perm st.row := by rw [hr]; exact List.perm_append_singleton c r
  have hall : ∀ i, i < n → startCr q st c i ≤ 65535 := fun i hi => by
    by_cases hic : i = c
    · subst hic; omega
    · rw [startCr_ne q st hic]
      refine h.cs i hi (fun _ e => hic ?_)
      rw [hr] at e
      exact (Option.some.inj e).symm
  exact ⟨hp.nodup_iff.2 h.nodup, fun i => hp.mem_iff.trans (h.mem i), fun i hi => by have := hall i hi; simp only; omega, fun i hi _ => hall i hi, h.q1, h.q2, h.siz, h.len⟩
/-- This one's turn. -/
theorem Fits.stop (h : Fits n q its st) (hr : st.row = c :: r) : Fits n q its ⟨c :: r, true, startCr q st c⟩ := by
  have hs := h.start_le hr
  refine ⟨by rw [← hr]; exact h.nodup, fun i => by rw [← hr]; exact h.mem i, fun i hi => ?_, fun i hi hb => ?_, h.q1, h.q2, h.siz, h.len⟩
  · by_cases hic : i = c
    · subst hic; exact hs
    · simp only; rw [startCr_ne q st hic]; exact h.cb i hi
  · have hic : i ≠ c := fun e => hb rfl (by rw [e]; rfl)
    simp only
    rw [startCr_ne q st hic]
    refine h.cs i hi (fun _ e => hic ?_)
    rw [hr] at e
    exact (Option.some.inj e).symm
theorem meas_on (h : Fits n q its st) (hr : st.row = c :: r) (hn : ¬ hdOf its c ≤ startCr q st c c) : meas n ⟨r ++ [c], false, startCr q st c⟩ < meas n st := by
  have hc := (h.head hr).1
  have hhd := h.hd hc
  unfold meas
  simp only [Bool.false_eq_true, if_false, Nat.add_zero]
  rw [startCr_at] at hn
  unfold startCr
  split
  · omega
  · rename_i hb
    rw [if_neg hb] at hn
    have h1 := lack_upd st.cr c (st.cr c + q c) n hc
    have h2 := h.q1 c hc
    omega
/-- Whose turn it is at last. -/
theorem spin_ends : ∀ (f : Nat) (st : Turn), Fits n q its st → meas n st < f → st.row ≠ [] →
    Fits n q its (spin q (hdOf its) f st) ∧ ∃ c r cr, spin q (hdOf its) f st = ⟨c :: r, true, cr⟩ ∧ hdOf its c ≤ cr c
  | 0, st, _, hm, _ => absurd hm (Nat.not_lt_zero _)
  | f + 1, st, h, hm, hne => by
    cases hr : st.row with
    | nil => exact absurd hr hne
    | cons c r =>
      by_cases hs : hdOf its c ≤ startCr q st c c
      · rw [spin_stop hr hs]
        exact ⟨h.stop hr, c, r, _, rfl, hs⟩
      · rw [spin_on hr hs]
        have hl := meas_on h hr hs
        exact spin_ends f _ (h.on hr hs) (by omega) (by simp)
/-- An item has left the class whose turn it is. -/
def left (c : Nat) (r : List Nat) (cr : Nat → Nat) (size : Nat) (last : Bool) : Turn :=
  if last then ⟨r, false, upd cr c 0⟩ else ⟨c :: r, true, upd cr c (cr c - size)⟩
theorem Fits.left {cr : Nat → Nat} (h : Fits n q its ⟨c :: r, true, cr⟩) {x : Nat × Int} {t : List (Nat × Int)} (hx : its c = x :: t) : Fits n q (upd its c t) (left c r cr x.1 t.isEmpty) := by
  have hc := (h.head rfl).1
  have hsz : ∀ i, i < n → ∀ y ∈ upd its c t i, 1 ≤ y.1 ∧ y.1 ≤ 65535 := fun i hi y hy => by
    by_cases hic : i = c
    · subst hic; rw [upd_at] at hy; exact h.siz i hi y (by rw [hx]; exact List.mem_cons_of_mem _ hy)
    · rw [upd_ne _ _ hic] at hy; exact h.siz i hi y hy
  have hln : ∀ i, i < n → (upd its c t i).length ≤ 1024 := fun i hi => by
    by_cases hic : i = c
    · subst hic; rw [upd_at]; have := h.len i hi; rw [hx] at this; simp at this; omega
    · rw [upd_ne _ _ hic]; exact h.len i hi
  obtain ⟨hcr, hnr⟩ := List.nodup_cons.1 h.nodup
  cases t with
  | nil =>
    refine ⟨hnr, fun i => ?_, fun i hi => ?_, fun i hi _ => ?_, h.q1, h.q2, hsz, hln⟩
    · by_cases hic : i = c
      · subst hic; rw [upd_at]; exact ⟨fun hi => absurd hi hcr, fun h => absurd rfl h.2⟩
      · rw [upd_ne _ _ hic, ← h.mem i]; exact ⟨fun hi => List.mem_cons_of_mem _ hi, fun hi => (List.mem_cons.1 hi).resolve_left hic⟩
    · show upd cr c 0 i ≤ _
      by_cases hic : i = c
      · subst hic; rw [upd_at]; omega
      · rw [upd_ne _ _ hic]; exact h.cb i hi
    · show upd cr c 0 i ≤ _
      by_cases hic : i = c
      · subst hic; rw [upd_at]; omega
      · rw [upd_ne _ _ hic]; exact h.cs i hi (fun _ e => hic (Option.some.inj e).symm)
  | cons y t =>
    refine ⟨h.nodup, fun i => ?_, fun i hi => ?_, fun i hi hb => ?_, h.q1, h.q2, hsz, hln⟩
    · show i ∈ c :: r ↔ _
      rw [h.mem i]
      by_cases hic : i = c
      · subst hic; rw [upd_at, hx]; simp
      · rw [upd_ne _ _ hic]
    · show upd cr c (cr c - x.1) i ≤ _
      by_cases hic : i = c
      · subst hic; rw [upd_at]; have := h.cb i hi; simp only at this; omega
      · rw [upd_ne _ _ hic]; exact h.cb i hi
    · show upd cr c (cr c - x.1) i ≤ _
      have hic : i ≠ c := fun e => hb rfl (by rw [e]; rfl)
      rw [upd_ne _ _ hic]; exact h.cs i hi (fun _ e => hic (Option.some.inj e).symm)
/-- An item has come. -/
def came (st : Turn) (its : Items) (c : Nat) : Turn := if its c = [] then { st with row := st.row ++ [c] } else st
theorem Fits.came (h : Fits n q its st) (hc : c < n) (x : Nat × Int) (h1 : 1 ≤ x.1) (h2 : x.1 ≤ 65535) (hl : (its c).length < 1024) : Fits n q (upd its c (its c ++ [x])) (came st its c) := by
  have hsz : ∀ i, i < n → ∀ y ∈ upd its c (its c ++ [x]) i, 1 ≤ y.1 ∧ y.1 ≤ 65535 := fun i hi y hy => by
    by_cases hic : i = c
    · subst hic; rw [upd_at] at hy
      rcases List.mem_append.1 hy with hy | hy
      · exact h.siz i hi y hy
      · simp only [List.mem_singleton] at hy; subst hy; exact ⟨h1, h2⟩
    · rw [upd_ne _ _ hic] at hy; exact h.siz i hi y hy
  have hln : ∀ i, i < n → (upd its c (its c ++ [x]) i).length ≤ 1024 := fun i hi => by
    by_cases hic : i = c
    · subst hic; rw [upd_at]; simp; omega
    · rw [upd_ne _ _ hic]; exact h.len i hi
  have hm : ∀ i, upd its c (its c ++ [x]) i ≠ [] ↔ i = c ∨ its i ≠ [] := fun i => by
    by_cases hic : i = c
    · subst hic; rw [upd_at]; simp
    · rw [upd_ne _ _ hic]; simp [hic]
  unfold Drr.came
  split
  · rename_i he
    have hnc : c ∉ st.row := fun hm => ((h.mem c).1 hm).2 he
    refine ⟨?_, fun i => ?_, h.cb, fun i hi hb => ?_, h.q1, h.q2, hsz, hln⟩
    · rw [List.nodup_append]
      exact ⟨h.nodup, by simp, fun a ha b hb => by simp only [List.mem_singleton] at hb; subst hb; exact fun e => hnc (by rw [← e]; exact ha)⟩
    · rw [List.mem_append, List.mem_singleton, h.mem i, hm i]
      constructor
      · rintro (⟨a, b⟩ | rfl)
        · exact ⟨a, .inr b⟩
        · exact ⟨hc, .inl rfl⟩
      · rintro ⟨a, rfl | b⟩
        · exact .inr rfl
        · exact .inl ⟨a, b⟩
    · refine h.cs i hi (fun hbe e => hb hbe ?_)
      cases hr : st.row with
      | nil => rw [hr] at e; cases e
      | cons a r => rw [hr] at e; exact e
  · rename_i he
    refine ⟨h.nodup, fun i => ?_, h.cb, h.cs, h.q1, h.q2, hsz, hln⟩
    rw [h.mem i, hm i]
    constructor
    · rintro ⟨a, b⟩; exact ⟨a, .inr b⟩
    · rintro ⟨a, rfl | b⟩
      · exact ⟨a, he⟩
      · exact ⟨a, b⟩
end
/-- How it begins. -/
def fresh : Turn := ⟨[], false, fun _ => 0⟩
theorem Fits.fresh {n : Nat} {q : Nat → Nat} (h1 : ∀ i, i < n → 64 ≤ q i) (h2 : ∀ i, i < n → q i ≤ 4294967296) : Fits n q (fun _ => []) fresh :=
  ⟨List.nodup_nil, fun i => by simp [Drr.fresh], fun _ _ => Nat.zero_le _, fun _ _ _ => Nat.zero_le _, h1, h2, (fun _ _ x hx => by cases hx), fun _ _ => Nat.zero_le _⟩
end Go.Proofs.Ytopibbaopglggaa.Drr
