/- Deficit round robin is fair: what two classes sent, weighed by each other's quantum, stays within a band. No program in sight. -/
import Derived.Test.YtopibbaopglggaaDrrPlain
namespace Go.Proofs.Ytopibbaopglggaa.Drr
/-- Of two, a comes first. -/
def fstOf (a b : Nat) : List Nat → Bool
  | [] => false
  | x :: l => if x = a then true else if x = b then false else fstOf a b l
theorem fstOf_at {a b : Nat} (l : List Nat) : fstOf a b (a :: l) = true := by unfold fstOf; rw [if_pos rfl]
theorem fstOf_no {a b : Nat} (h : a ≠ b) (l : List Nat) : fstOf a b (b :: l) = false := by unfold fstOf; rw [if_neg (Ne.symm h), if_pos rfl]
theorem fstOf_ne {a b c : Nat} (h1 : c ≠ a) (h2 : c ≠ b) (l : List Nat) : fstOf a b (c :: l) = fstOf a b l := by
  rw [fstOf, if_neg h1, if_neg h2]
theorem fstOf_app {a b c : Nat} (h1 : c ≠ a) (h2 : c ≠ b) : ∀ l : List Nat, fstOf a b (l ++ [c]) = fstOf a b l
  | [] => by rw [List.nil_append, fstOf_ne h1 h2]
  | x :: l => by rw [List.cons_append, fstOf, fstOf, fstOf_app h1 h2 l]
theorem fstOf_app_a {a b : Nat} : ∀ l : List Nat, a ∉ l → b ∈ l → fstOf a b (l ++ [a]) = false
  | [], _, h => by cases h
  | x :: l, ha, hb => by
    have hxa : x ≠ a := fun e => ha (by rw [e]; exact List.mem_cons_self ..)
    rw [List.cons_append, fstOf, if_neg hxa]
    split
    · rfl
    · rename_i hxb
      exact fstOf_app_a l (fun h => ha (List.mem_cons_of_mem _ h)) ((List.mem_cons.1 hb).resolve_left (fun e => hxb e.symm))
theorem fstOf_app_b {a b : Nat} : ∀ l : List Nat, b ∉ l → a ∈ l → fstOf a b (l ++ [b]) = true
  | [], _, h => by cases h
  | x :: l, hb, ha => by
    have hxb : x ≠ b := fun e => hb (by rw [e]; exact List.mem_cons_self ..)
    rw [List.cons_append, fstOf]
    split
    · rfl
    · rename_i hxa
      try rw [if_neg hxb]
      exact fstOf_app_b l (fun h => hb (List.mem_cons_of_mem _ h)) ((List.mem_cons.1 ha).resolve_left (fun e => hxa e.symm))
/-- One of the two has its turn. -/
def turnOf (a b : Nat) (st : Turn) : Bool := st.begun && (decide (st.row.head? = some a) || decide (st.row.head? = some b))
/-- How far a is ahead of b, by turns. -/
def ahead (a b : Nat) (st : Turn) : Bool := fstOf a b st.row == turnOf a b st
/-- What classes a and b have had, weighed, but for a constant. -/
def poise (q : Nat → Nat) (a b : Nat) (st : Turn) : Int := (if ahead a b st then ((q a * q b : Nat) : Int) else 0) - ((st.cr a * q b : Nat) : Int) + ((st.cr b * q a : Nat) : Int)
/-- Credits are at most so much. -/
def Cap (q : Nat → Nat) (M : Nat) (st : Turn) : Prop := ∀ i, st.cr i ≤ M + (if st.begun = true ∧ st.row.head? = some i then q i else 0)
section
variable {q hd : Nat → Nat} {a b M : Nat} {st : Turn} {c : Nat} {r : List Nat}
theorem Cap.low (h : Cap q M st) {i : Nat} (hi : ¬ (st.begun = true ∧ st.row.head? = some i)) : st.cr i ≤ M := by
  have := h i; rw [if_neg hi] at this; omega
/-- The band. -/
theorem poise_in (hab : a ≠ b) (h : Cap q M st) (hr : st.row = c :: r) : -((M * q b : Nat) : Int) ≤ poise q a b st ∧ poise q a b st ≤ ((q a * q b : Nat) : Int) + ((M * q a : Nat) : Int) := by
  have ha := h a
  have hb := h b
  have hh : st.row.head? = some c := by rw [hr]; rfl
  rw [hh] at ha hb
  have key : ∀ {x y z : Nat}, x ≤ y → x * z ≤ y * z := fun h => Nat.mul_le_mul_right _ h
  unfold poise ahead turnOf
  rw [hh, hr]
  cases hbg : st.begun with
  | false =>
    rw [hbg] at ha hb
    simp only [Bool.false_eq_true, false_and, if_false, Nat.add_zero] at ha hb
    have h1 := key (z := q b) ha
    have h2 := key (z := q a) hb
    simp only [Bool.false_and]
    split <;> omega
  | true =>
    rw [hbg] at ha hb
    simp only [true_and, Option.some.injEq] at ha hb
    simp only [Bool.true_and, Option.some.injEq]
    by_cases hca : c = a
    · subst hca
      rw [if_pos rfl] at ha
      rw [if_neg hab, Nat.add_zero] at hb
      have h1 := key (z := q b) ha
      have h2 := key (z := q c) hb
      rw [Nat.add_mul] at h1
      rw [fstOf_at]
      simp
      omega
    · rw [if_neg hca, Nat.add_zero] at ha
      by_cases hcb : c = b
      · subst hcb
        rw [if_pos rfl] at hb
        have h1 := key (z := q c) ha
        have h2 := key (z := q a) hb
        rw [Nat.add_mul, Nat.mul_comm (q c) (q a)] at h2
        rw [fstOf_no hab]
        simp
        omega
      · rw [if_neg hcb, Nat.add_zero] at hb
        have h1 := key (z := q b) ha
        have h2 := key (z := q a) hb
        split <;> omega
/-- A turn begins. -/
theorem poise_start (hab : a ≠ b) (hr : st.row = c :: r) : poise q a b ⟨c :: r, true, startCr q st c⟩ = poise q a b st := by
  have hh : st.row.head? = some c := by rw [hr]; rfl
  unfold poise ahead turnOf
  rw [hh, hr]
  cases hbg : st.begun with
  | true =>
    have e : startCr q st c = st.cr := by unfold startCr; rw [hbg]; rfl
    simp only [e, List.head?_cons]
    rfl
  | false =>
    have e : startCr q st c = upd st.cr c (st.cr c + q c) := by unfold startCr; rw [hbg]; rfl
    simp only [e, List.head?_cons, Option.some.injEq, Bool.true_and, Bool.false_and]
    by_cases hca : c = a
    · subst hca
      rw [upd_at, upd_ne _ _ (Ne.symm hab), fstOf_at, Nat.add_mul]
      simp
      omega
    · by_cases hcb : c = b
      · subst hcb
        rw [upd_at, upd_ne _ _ (Ne.symm hca), fstOf_no hab, Nat.add_mul, Nat.mul_comm (q c) (q a)]
        simp
        omega
      · rw [upd_ne _ _ (Ne.symm hca), upd_ne _ _ (Ne.symm hcb)]
        simp [hca, hcb]
/-- Another one's turn. -/
theorem poise_on (hab : a ≠ b) {cr : Nat → Nat} (hn : (c :: r).Nodup) (ha : a ∈ c :: r) (hb : b ∈ c :: r) : poise q a b ⟨r ++ [c], false, cr⟩ = poise q a b ⟨c :: r, true, cr⟩ := by
  obtain ⟨hc, _⟩ := List.nodup_cons.1 hn
  unfold poise ahead turnOf
  simp only [List.head?_cons, Option.some.injEq, Bool.true_and, Bool.false_and]
  by_cases hca : c = a
  · subst hca
    rw [fstOf_at, fstOf_app_a r hc ((List.mem_cons.1 hb).resolve_left (Ne.symm hab))]
    simp
  · by_cases hcb : c = b
    · subst hcb
      rw [fstOf_no hab, fstOf_app_b r hc ((List.mem_cons.1 ha).resolve_left hab)]
      simp
    · rw [fstOf_app hca hcb, fstOf_ne hca hcb]
      simp [hca, hcb]
theorem Cap.start (h : Cap q M st) (hr : st.row = c :: r) : Cap q M ⟨c :: r, true, startCr q st c⟩ := fun i => by
  have hh : st.row.head? = some c := by rw [hr]; rfl
  have hi := h i
  rw [hh] at hi
  simp only [List.head?_cons, true_and, Option.some.injEq]
  by_cases hic : i = c
  · subst hic
    rw [startCr_at, if_pos rfl]
    split
    · rename_i hb
      rw [if_pos ⟨hb, rfl⟩] at hi; exact hi
    · rename_i hb
      rw [if_neg (fun e => hb e.1)] at hi; omega
  · rw [startCr_ne q st hic, if_neg (Ne.symm hic)]
    rw [if_neg (fun e => hic (Option.some.inj e.2).symm)] at hi; exact hi
theorem Cap.on {cr : Nat → Nat} (h : Cap q M ⟨c :: r, true, cr⟩) (hc : cr c ≤ M) : Cap q M ⟨r ++ [c], false, cr⟩ := fun i => by
  have hi := h i
  simp only [List.head?_cons, true_and, Option.some.injEq] at hi
  simp only [Bool.false_eq_true, false_and, if_false, Nat.add_zero]
  by_cases hic : i = c
  · subst hic; exact hc
  · rw [if_neg (Ne.symm hic)] at hi; exact hi
/-- Turns, however many. -/
theorem poise_spin (hab : a ≠ b) (hd' : ∀ i, hd i ≤ M) : ∀ (f : Nat) (st : Turn), st.row.Nodup → a ∈ st.row → b ∈ st.row → Cap q M st → poise q a b (spin q hd f st) = poise q a b st ∧ Cap q M (spin q hd f st)
  | 0, st, _, _, _, h => ⟨rfl, h⟩
  | f + 1, st, hn, ha, hb, h => by
    cases hr : st.row with
    | nil => rw [hr] at ha; cases ha
    | cons c r =>
      by_cases hs : hd c ≤ startCr q st c c
      · rw [spin_stop hr hs]; exact ⟨poise_start hab hr, h.start hr⟩
      · rw [spin_on hr hs]
        rw [hr] at hn ha hb
        have hp : (r ++ [c]).Perm (c :: r) := List.perm_append_singleton c r
        have h1 := (h.start hr).on (by have := hd' c; show startCr q st c c ≤ M; omega)
        obtain ⟨h2, h3⟩ := poise_spin hab hd' f ⟨r ++ [c], false, startCr q st c⟩ (hp.nodup_iff.2 hn) (hp.mem_iff.2 ha) (hp.mem_iff.2 hb) h1
        exact ⟨h2.trans ((poise_on hab hn ha hb).trans (poise_start hab hr)), h3⟩
/-- What an item that leaves weighs. -/
def weighs (q : Nat → Nat) (a b c s : Nat) : Int := (if c = a then ((s * q b : Nat) : Int) else 0) - (if c = b then ((s * q a : Nat) : Int) else 0)
theorem poise_left (hab : a ≠ b) {cr : Nat → Nat} {s : Nat} {last : Bool} (hs : s ≤ cr c) (hl : c = a ∨ c = b → last = false) : poise q a b (left c r cr s last) = poise q a b ⟨c :: r, true, cr⟩ + weighs q a b c s := by
  unfold weighs
  by_cases hca : c = a
  · subst hca
    rw [hl (.inl rfl)]
    have h1 : (cr c - s) * q b + s * q b = cr c * q b := by rw [← Nat.add_mul]; congr 1; omega
    unfold left poise ahead turnOf
    simp only [Bool.false_eq_true, if_false, upd_at, upd_ne _ _ (Ne.symm hab), if_true, if_neg hab]
    omega
  · by_cases hcb : c = b
    · subst hcb
      rw [hl (.inr rfl)]
      have h1 : (cr c - s) * q a + s * q a = cr c * q a := by rw [← Nat.add_mul]; congr 1; omega
      unfold left poise ahead turnOf
      simp only [Bool.false_eq_true, if_false, upd_at, upd_ne _ _ (Ne.symm hca), if_true, if_neg hca]
      omega
    · rw [if_neg hca, if_neg hcb]
      unfold left
      cases last with
      | false =>
        unfold poise ahead turnOf
        simp only [Bool.false_eq_true, if_false, upd_ne _ _ (Ne.symm hca), upd_ne _ _ (Ne.symm hcb)]
        omega
      | true =>
        unfold poise ahead turnOf
        simp only [if_true, upd_ne _ _ (Ne.symm hca), upd_ne _ _ (Ne.symm hcb), List.head?_cons, Option.some.injEq, Bool.false_and, fstOf_ne hca hcb, hca, hcb, decide_false, Bool.or_self, Bool.and_false]
        omega
theorem Cap.left {cr : Nat → Nat} {s : Nat} {last : Bool} (h : Cap q M ⟨c :: r, true, cr⟩) : Cap q M (left c r cr s last) := fun i => by
  have hi := h i
  simp only [List.head?_cons, true_and, Option.some.injEq] at hi
  unfold Drr.left
  cases last with
  | true =>
    simp only [if_true, Bool.false_eq_true, false_and, if_false, Nat.add_zero]
    by_cases hic : i = c
    · subst hic; rw [upd_at]; omega
    · rw [upd_ne _ _ hic]; rw [if_neg (Ne.symm hic)] at hi; exact hi
  | false =>
    simp only [Bool.false_eq_true, if_false, List.head?_cons, true_and, Option.some.injEq]
    by_cases hic : i = c
    · subst hic; rw [upd_at, if_pos rfl]; rw [if_pos rfl] at hi; omega
    · rw [upd_ne _ _ hic]; exact hi
end
/-- Two times' answers: what the law asks at last. -/
theorem fair_two {A B M : Nat} {o : Int} {p p' : Nat × Nat} (h1 : p.1 ≤ p'.1) (h2 : p.2 ≤ p'.2)
    (hp : -((M * B : Nat) : Int) ≤ ((p.1 * B : Nat) : Int) - ((p.2 * A : Nat) : Int) + o ∧ ((p.1 * B : Nat) : Int) - ((p.2 * A : Nat) : Int) + o ≤ ((A * B : Nat) : Int) + ((M * A : Nat) : Int))
    (hp' : -((M * B : Nat) : Int) ≤ ((p'.1 * B : Nat) : Int) - ((p'.2 * A : Nat) : Int) + o ∧ ((p'.1 * B : Nat) : Int) - ((p'.2 * A : Nat) : Int) + o ≤ ((A * B : Nat) : Int) + ((M * A : Nat) : Int)) :
    (p'.1 - p.1) * B ≤ (p'.2 - p.2) * A + (A * B + M * (A + B)) ∧ (p'.2 - p.2) * A ≤ (p'.1 - p.1) * B + (A * B + M * (A + B)) := by
  have e1 : (p'.1 - p.1) * B + p.1 * B = p'.1 * B := by rw [← Nat.add_mul]; congr 1; omega
  have e2 : (p'.2 - p.2) * A + p.2 * A = p'.2 * A := by rw [← Nat.add_mul]; congr 1; omega
  rw [Nat.mul_add]
  omega
/-- Items are no greater. -/
def Sizes (its : Items) (M : Nat) : Prop := ∀ i, ∀ x ∈ its i, x.1 ≤ M
theorem Sizes.hd {its : Items} {M : Nat} (h : Sizes its M) (i : Nat) : hdOf its i ≤ M := by
  unfold hdOf
  split
  · exact Nat.zero_le _
  · rename_i x t hx
    exact h i x (by rw [hx]; exact List.mem_cons_self ..)
/-- What is known while items leave: what two classes had sent, each time. -/
structure Weighed (q : Nat → Nat) (a b M : Nat) (o : Int) (sent : List (Nat × Nat)) (S1 S2 : Nat) (st : Turn) (its : Items) : Prop where
  mono : ∀ (i j : Nat) (p p' : Nat × Nat), i ≤ j → sent[i]? = some p → sent[j]? = some p' → p.1 ≤ p'.1 ∧ p.2 ≤ p'.2
  le : ∀ p ∈ sent, p.1 ≤ S1 ∧ p.2 ≤ S2
  band : ∀ p ∈ sent, -((M * q b : Nat) : Int) ≤ ((p.1 * q b : Nat) : Int) - ((p.2 * q a : Nat) : Int) + o ∧ ((p.1 * q b : Nat) : Int) - ((p.2 * q a : Nat) : Int) + o ≤ ((q a * q b : Nat) : Int) + ((M * q a : Nat) : Int)
  now : its a ≠ [] → its b ≠ [] → ((S1 * q b : Nat) : Int) - ((S2 * q a : Nat) : Int) + o = poise q a b st
  cap : Cap q M st
  few : S1 ≤ M * sent.length ∧ S2 ≤ M * sent.length
theorem Weighed.start {q : Nat → Nat} {a b M : Nat} {st : Turn} {its : Items} (h : ∀ i, st.cr i = 0) : Weighed q a b M (poise q a b st) [] 0 0 st its :=
  ⟨fun i j p p' _ h => by simp at h, fun p h => (List.not_mem_nil h).elim, fun p h => (List.not_mem_nil h).elim, fun _ _ => by simp, fun i => by rw [h i]; exact Nat.zero_le _, by simp⟩
theorem Weighed.next {q : Nat → Nat} {a b M n : Nat} {o : Int} {sent : List (Nat × Nat)} {S1 S2 : Nat} {st : Turn} {its : Items} (h : Weighed q a b M o sent S1 S2 st its) (hf : Fits n q its st) (hab : a ≠ b) (ha : a < n) (hb : b < n) (hia : its a ≠ []) (hib : its b ≠ []) (hz : Sizes its M)
    {f c : Nat} {r : List Nat} {cr : Nat → Nat} (hs : spin q (hdOf its) f st = ⟨c :: r, true, cr⟩) (hle : hdOf its c ≤ cr c) {x : Nat × Int} {tl : List (Nat × Int)} (hx : its c = x :: tl) :
    Weighed q a b M o (sent ++ [(S1, S2)]) (if c = a then S1 + x.1 else S1) (if c = b then S2 + x.1 else S2) (left c r cr x.1 tl.isEmpty) (upd its c tl) := by
  have hma := (hf.mem a).2 ⟨ha, hia⟩
  have hmb := (hf.mem b).2 ⟨hb, hib⟩
  obtain ⟨h1, h2⟩ := poise_spin (q := q) hab hz.hd f st hf.nodup hma hmb h.cap
  rw [hs] at h1 h2
  have hn := h.now hia hib
  have hx1 : x.1 ≤ M := hz c x (by rw [hx]; exact List.mem_cons_self ..)
  have hband : -((M * q b : Nat) : Int) ≤ ((S1 * q b : Nat) : Int) - ((S2 * q a : Nat) : Int) + o ∧ ((S1 * q b : Nat) : Int) - ((S2 * q a : Nat) : Int) + o ≤ ((q a * q b : Nat) : Int) + ((M * q a : Nat) : Int) := by
    rw [hn]
    cases hr : st.row with
    | nil => rw [hr] at hma; cases hma
    | cons c r => exact poise_in hab h.cap hr
  have hle1 : S1 ≤ (if c = a then S1 + x.1 else S1) := by split <;> omega
  have hle2 : S2 ≤ (if c = b then S2 + x.1 else S2) := by split <;> omega
  refine ⟨fun i j p p' hij hp hp' => ?_, fun p hp => ?_, fun p hp => ?_, fun h5 h6 => ?_, h2.left, ?_⟩
  · rcases Nat.lt_or_ge j sent.length with hj | hj
    · rw [List.getElem?_append_left (by omega)] at hp hp'
      exact h.mono i j p p' hij hp hp'
    · rw [List.getElem?_append_right hj] at hp'
      have hp2 := List.mem_of_getElem? hp'
      simp only [List.mem_singleton] at hp2
      subst hp2
      rcases List.mem_append.1 (List.mem_of_getElem? hp) with hm | hm
      · exact h.le p hm
      · simp only [List.mem_singleton] at hm; subst hm; exact ⟨Nat.le_refl _, Nat.le_refl _⟩
  · rcases List.mem_append.1 hp with hm | hm
    · have := h.le p hm; omega
    · simp only [List.mem_singleton] at hm; subst hm; exact ⟨hle1, hle2⟩
  · rcases List.mem_append.1 hp with hm | hm
    · exact h.band p hm
    · simp only [List.mem_singleton] at hm; subst hm; exact hband
  · have hl : c = a ∨ c = b → tl.isEmpty = false := fun hc => by
      cases tl with
      | cons y l => rfl
      | nil =>
        exfalso
        rcases hc with rfl | rfl
        · rw [upd_at] at h5; exact h5 rfl
        · rw [upd_at] at h6; exact h6 rfl
    have hsc : x.1 ≤ cr c := by rw [hdOf_cons hx] at hle; exact hle
    rw [poise_left hab hsc hl, h1, ← hn]
    unfold weighs
    by_cases hca : c = a
    · have hcb : ¬ c = b := fun e => hab (hca.symm.trans e)
      rw [if_pos hca, if_neg hcb, if_pos hca, if_neg hcb, Nat.add_mul]
      omega
    · rw [if_neg hca, if_neg hca]
      by_cases hcb : c = b
      · rw [if_pos hcb, if_pos hcb, Nat.add_mul]; omega
      · rw [if_neg hcb, if_neg hcb]; omega
  · have hfew := h.few
    rw [List.length_append, List.length_singleton, Nat.mul_add, Nat.mul_one]
    constructor
    · split <;> omega
    · split <;> omega
end Go.Proofs.Ytopibbaopglggaa.Drr
