/- HeapMatch, WheelPlain, FfsPlain, FfsPlain2, WheelPlain2, HeapCore, WheelCore, FfsPlain3, one behind the other. -/
import Derived.Test.YtpgpjjkeginbbaaGreatMtA
import Derived.Lib.TrailingZeros
import Derived.Lib.BitFns
import Derived.Lib.ItoaNum
namespace Go.Proofs.YtpgpjjkeginbbaaGreat.Heap
/-- An item: an entry without when it came. -/
def itm (e : Ent Int) : Nat × Int := (e.1, e.2.2)
/-- The items of entries. -/
def itms (s : List (Ent Int)) : List (Nat × Int) := s.map itm
theorem itms_len (s : List (Ent Int)) : (itms s).length = s.length := by simp [itms]
/-- The list s has the heap's entries in order. -/
structure Mt (came : Nat) (l s : List (Ent Int)) : Prop where
  perm : s.Perm l
  ord : s.Pairwise (fun a b => ahd a b = true)
  old : ∀ e ∈ s, e.2.1 < came
theorem Mt.nil : Mt 0 [] [] := ⟨List.Perm.refl _, List.Pairwise.nil, fun e h => by cases h⟩
theorem Mt.len {came : Nat} {l s : List (Ent Int)} (h : Mt came l s) : s.length = l.length := h.perm.length_eq
/-- An entry comes in behind all that are not above it. -/
def insE (p : Ent Int) : List (Ent Int) → List (Ent Int)
  | [] => [p]
  | a :: r => if p.1 < a.1 then p :: a :: r else a :: insE p r
theorem insE_perm (p : Ent Int) (l : List (Ent Int)) : (insE p l).Perm (p :: l) := by
  induction l with
  | nil => exact List.Perm.refl _
  | cons a r ih =>
    unfold insE
    split
    · exact List.Perm.refl _
    · exact (ih.cons a).trans (List.Perm.swap p a r)
theorem itms_ins (p : Ent Int) (l : List (Ent Int)) : itms (insE p l) = insR (itm p) (itms l) := by
  induction l with
  | nil => rfl
  | cons a r ih =>
    unfold itms at ih ⊢
    simp only [insE, List.map_cons, insR]
    by_cases h : p.1 < a.1
    · rw [if_pos h, if_pos (show (itm p).1 < (itm a).1 from h)]; rfl
    · rw [if_neg h, if_neg (show ¬ (itm p).1 < (itm a).1 from h), List.map_cons, ih]
theorem insE_ord (p : Ent Int) (l : List (Ent Int)) (ho : l.Pairwise (fun a b => ahd a b = true)) (hp : ∀ e ∈ l, e.2.1 < p.2.1) : (insE p l).Pairwise (fun a b => ahd a b = true) := by
  induction l with
  | nil => simp [insE]
  | cons a r ih =>
    unfold insE
    have ho' := List.pairwise_cons.1 ho
    split
    · rename_i h
      refine List.pairwise_cons.2 ⟨fun e he => ?_, ho⟩
      rcases List.mem_cons.1 he with rfl | he
      · exact ahd_iff.2 (.inl h)
      · have := ahd_iff.1 (ho'.1 e he); exact ahd_iff.2 (by omega)
    · rename_i h
      refine List.pairwise_cons.2 ⟨fun e he => ?_, ih ho'.2 (fun e he => hp e (List.mem_cons_of_mem _ he))⟩
      rcases List.mem_cons.1 ((insE_perm p r).mem_iff.1 he) with rfl | he
      · have := hp a List.mem_cons_self; exact ahd_iff.2 (by omega)
      · exact ho'.1 e he
theorem Mt.push {came : Nat} {l s : List (Ent Int)} (h : Mt came l s) (x : Nat) (y : Int) : Mt (came + 1) (pushL l (x, came, y)) (insE (x, came, y) s) := by
  refine ⟨((insE_perm _ _).trans (h.perm.cons _)).trans (push_perm l _).symm, insE_ord _ _ h.ord h.old, fun e he => ?_⟩
  rcases List.mem_cons.1 ((insE_perm _ _).mem_iff.1 he) with rfl | he
  · exact Nat.lt_succ_self _
  · exact Nat.lt_succ_of_lt (h.old e he)
theorem Mt.head {came : Nat} {l s : List (Ent Int)} {a : Ent Int} (h : Mt came l (a :: s)) (hh : IsHeap l) : l[0]? = some a := by
  cases l with
  | nil => have := h.len; simp at this
  | cons b r =>
    have hb : b ∈ a :: s := h.perm.mem_iff.2 List.mem_cons_self
    rcases List.mem_cons.1 hb with rfl | hb
    · rfl
    · have h1 := (List.pairwise_cons.1 h.ord).1 b hb
      have h2 := heap_least hh (a := b) rfl a (h.perm.mem_iff.1 List.mem_cons_self)
      rw [h1] at h2; cases h2
theorem Mt.pop {came : Nat} {l s : List (Ent Int)} {a : Ent Int} (h : Mt came l (a :: s)) (hh : IsHeap l) : Mt came (popL l) s := by
  have h0 := h.head hh
  cases l with
  | nil => cases h0
  | cons b r =>
    obtain rfl := Option.some.inj h0
    exact ⟨(List.perm_cons _).1 h.perm |>.trans (pop_perm b r).symm, (List.pairwise_cons.1 h.ord).2, fun e he => h.old e (List.mem_cons_of_mem _ he)⟩
theorem Mt.none {came : Nat} {l : List (Ent Int)} (h : Mt came l []) : l = [] := by
  have := h.len; cases l with | nil => rfl | cons a r => simp at this
end Go.Proofs.YtpgpjjkeginbbaaGreat.Heap
namespace Go.Proofs.YtpgpjjkeginbbaaGreat.Wheel
open Heap
abbrev En := Ent Int
/-- The first digit in which a later time differs is this one. -/
def Where (now at' l : Nat) : Prop := now / 64 ^ (l + 1) = at' / 64 ^ (l + 1) ∧ now / 64 ^ l < at' / 64 ^ l
theorem pow6 (l : Nat) : 2 ^ (6 * l) = 64 ^ l := by rw [Nat.pow_mul]
theorem where_lt {now at' l : Nat} (h : Where now at' l) : now < at' := by
  rcases Nat.lt_or_ge now at' with h1 | h1
  · exact h1
  · have := Nat.div_le_div_right (c := 64 ^ l) h1; have := h.2; omega
theorem div_up {x y l m : Nat} (h : x / 64 ^ l = y / 64 ^ l) (hm : l ≤ m) : x / 64 ^ m = y / 64 ^ m := by
  obtain ⟨d, rfl⟩ := Nat.exists_eq_add_of_le hm
  rw [Nat.pow_add, ← Nat.div_div_eq_div_mul, ← Nat.div_div_eq_div_mul, h]
theorem where_one {now at' l m : Nat} (h : Where now at' l) (h' : Where now at' m) : l = m := by
  rcases Nat.lt_trichotomy l m with hl | hl | hl
  · have := div_up h.1 hl; have := h'.2; omega
  · exact hl
  · have := div_up h'.1 hl; have := h.2; omega
/-- Where the code looks for it. -/
def lvl (now at' : Nat) : Nat := (Go.Lib.bitLen (now ^^^ at') - 1) / 6
theorem xor_zero' {a b : Nat} (h : a ^^^ b = 0) : a = b := by
  have h1 : (a ^^^ b) ^^^ b = a := by rw [Nat.xor_assoc, Nat.xor_self, Nat.xor_zero]
  rw [← h1, h, Nat.zero_xor]
theorem len_bounds {now at' : Nat} (h : now < at') (hb : at' ≤ 18446744073709551615) : 1 ≤ Go.Lib.bitLen (now ^^^ at') ∧ 2 ^ (Go.Lib.bitLen (now ^^^ at') - 1) ≤ now ^^^ at' ∧ now ^^^ at' < 2 ^ Go.Lib.bitLen (now ^^^ at') :=
  Go.Lib.bitLenAux_bounds 64 (now ^^^ at') (Nat.xor_lt_two_pow (by omega) (by omega)) (fun e => by have := xor_zero' e; omega)
theorem where_lvl {now at' : Nat} (h : now < at') (hb : at' ≤ 18446744073709551615) : Where now at' (lvl now at') := by
  obtain ⟨h0, h2, h1⟩ := len_bounds h hb
  obtain ⟨L, hL⟩ : ∃ L, Go.Lib.bitLen (now ^^^ at') = L := ⟨_, rfl⟩
  rw [hL] at h0 h1 h2
  unfold lvl
  rw [hL]
  have e1 : now / 64 ^ ((L - 1) / 6 + 1) = at' / 64 ^ ((L - 1) / 6 + 1) := by
    rw [← pow6, ← Nat.shiftRight_eq_div_pow, ← Nat.shiftRight_eq_div_pow]
    have h3 : (now ^^^ at') >>> (6 * ((L - 1) / 6 + 1)) = 0 := by
      rw [Nat.shiftRight_eq_div_pow]
      exact Nat.div_eq_of_lt (Nat.lt_of_lt_of_le h1 (Nat.pow_le_pow_right (by omega) (by omega)))
    rw [Nat.shiftRight_xor_distrib] at h3
    exact xor_zero' h3
  have e2 : now / 64 ^ ((L - 1) / 6) ≠ at' / 64 ^ ((L - 1) / 6) := by
    rw [← pow6, ← Nat.shiftRight_eq_div_pow, ← Nat.shiftRight_eq_div_pow]
    intro e
    have h3 : (now ^^^ at') >>> (6 * ((L - 1) / 6)) = 0 := by rw [Nat.shiftRight_xor_distrib, e, Nat.xor_self]
    rw [Nat.shiftRight_eq_div_pow] at h3
    have h4 : 2 ^ (6 * ((L - 1) / 6)) ≤ now ^^^ at' := Nat.le_trans (Nat.pow_le_pow_right (by omega) (by omega)) h2
    have := Nat.div_pos h4 (Nat.pow_pos (by omega))
    omega
  refine ⟨e1, ?_⟩
  have := Nat.div_le_div_right (c := 64 ^ ((L - 1) / 6)) (Nat.le_of_lt h)
  omega
theorem lvl_lt {now at' : Nat} (h1 : now ≤ 18446744073709551615) (h2 : at' ≤ 18446744073709551615) : lvl now at' ≤ 10 := by
  unfold lvl
  have h3 : now ^^^ at' < 2 ^ 64 := Nat.xor_lt_two_pow (by omega) (by omega)
  have := Go.Lib.bitLen_le _ 64 (by omega) h3
  omega
/-- The place in a level. -/
def plc (l at' : Nat) : Nat := at' / 64 ^ l % 64
theorem plc_lt (l at' : Nat) : plc l at' < 64 := Nat.mod_lt _ (by omega)
theorem div_split (x l : Nat) : x / 64 ^ l = 64 * (x / 64 ^ (l + 1)) + x / 64 ^ l % 64 := by
  rw [Nat.pow_succ, ← Nat.div_div_eq_div_mul]; omega
/-- What lies in a higher level, or behind the new time's place, stays as it lies. -/
theorem where_stays {now now' at' l : Nat} (h : Where now at' l) (hn : now < now') (hb : now' ≤ 18446744073709551615) (ht : lvl now now' < l ∨ (lvl now now' = l ∧ plc l now' < plc l at')) : Where now' at' l := by
  have hw := where_lvl hn hb
  rcases ht with ht | ⟨rfl, ht⟩
  · have e := div_up hw.1 (Nat.succ_le_of_lt ht)
    exact ⟨by rw [← h.1]; exact (div_up hw.1 (by omega)).symm, by rw [← e]; exact h.2⟩
  · refine ⟨by rw [← h.1]; exact hw.1.symm, ?_⟩
    have e1 := div_split now' (lvl now now')
    have e2 := div_split at' (lvl now now')
    have e3 : now' / 64 ^ (lvl now now' + 1) = at' / 64 ^ (lvl now now' + 1) := by rw [← h.1]; exact hw.1.symm
    unfold plc at ht
    omega
/-- Who lies in a lower level is due ahead. -/
theorem where_ahead {now x y l m : Nat} (hx : Where now x l) (hy : Where now y m) (h : l < m ∨ (l = m ∧ plc l x < plc l y)) : x < y := by
  rcases h with h | ⟨rfl, h⟩
  · have e : now / 64 ^ m = x / 64 ^ m := div_up hx.1 h
    have := hy.2
    rw [e] at this
    rcases Nat.lt_or_ge x y with h1 | h1
    · exact h1
    · have := Nat.div_le_div_right (c := 64 ^ m) h1; omega
  · have e1 := div_split x l
    have e2 := div_split y l
    have e3 : x / 64 ^ (l + 1) = y / 64 ^ (l + 1) := by rw [← hx.1, hy.1]
    unfold plc at h
    rcases Nat.lt_or_ge x y with h1 | h1
    · exact h1
    · have := Nat.div_le_div_right (c := 64 ^ l) h1; omega
/-- The lowest bit of a word. -/
theorem ctz_bits {u : Nat} (h0 : u ≠ 0) (h : u < 2 ^ 64) : u.testBit (Go.Lib.ctz 64 u) = true ∧ (∀ j, j < Go.Lib.ctz 64 u → u.testBit j = false) ∧ Go.Lib.ctz 64 u < 64 ∧ u &&& (u - 1) = u - 2 ^ Go.Lib.ctz 64 u ∧ 2 ^ Go.Lib.ctz 64 u ≤ u := by
  obtain ⟨m, hm, hlt⟩ := Go.Lib.ctzFrom_spec 64 u (Nat.pos_of_ne_zero h0) h
  have e : Go.Lib.ctz 64 u = Go.Lib.ctzFrom 64 u := by unfold Go.Lib.ctz; rw [if_neg h0]
  rw [e]
  generalize Go.Lib.ctzFrom 64 u = k at *
  have hk := Nat.pow_pos (n := k) (show 0 < 2 by omega)
  have hle : 2 ^ k ≤ u := by rw [hm]; exact Nat.le_mul_of_pos_right _ (by omega)
  have tb : ∀ j, u.testBit j = (decide (k ≤ j) && (2 * m + 1).testBit (j - k)) := fun j => by
    rw [hm, Nat.testBit_two_pow_mul]
  have e2 : u - 2 ^ k = 2 ^ k * (2 * m) := by rw [hm, Nat.mul_add, Nat.mul_one]; omega
  refine ⟨by rw [tb]; simp, fun j hj => by rw [tb]; simp; omega, hlt, ?_, hle⟩
  apply Nat.eq_of_testBit_eq
  intro j
  rw [Nat.testBit_and, tb j, e2, Nat.testBit_two_pow_mul]
  have e3 : u - 1 = 2 ^ k * (2 * m) + (2 ^ k - 1) := by rw [← e2]; omega
  rw [e3, Nat.testBit_two_pow_mul_add _ (by omega)]
  by_cases hj : j < k
  · rw [if_pos hj]
    have : ¬ k ≤ j := by omega
    simp [this]
  · rw [if_neg hj]
    have hkj : k ≤ j := by omega
    obtain ⟨d, rfl⟩ := Nat.exists_eq_add_of_le hkj
    simp only [Nat.add_sub_cancel_left, hkj, decide_true, Bool.true_and]
    cases d with
    | zero => simp
    | succ d =>
      rw [Nat.testBit_succ, Nat.testBit_succ]
      have e4 : (2 * m + 1) / 2 = m := by omega
      have e5 : 2 * m / 2 = m := by omega
      rw [e4, e5, Bool.and_self]
/-- A word without a bit that it has. -/
theorem drop_bit {u k : Nat} (h : u.testBit k = true) (j : Nat) : (u - 2 ^ k).testBit j = (u.testBit j && decide (j ≠ k)) := by
  rw [Nat.testBit_eq_decide_div_mod_eq, decide_eq_true_eq] at h
  obtain ⟨q, hq⟩ : ∃ q, u / 2 ^ k = 2 * q + 1 := ⟨u / 2 ^ k / 2, by omega⟩
  obtain ⟨r, hr⟩ : ∃ r, u % 2 ^ k = r := ⟨_, rfl⟩
  have hk := Nat.pow_pos (n := k) (show 0 < 2 by omega)
  have hrl : r < 2 ^ k := by rw [← hr]; exact Nat.mod_lt _ hk
  have e : u = 2 ^ k * (2 * q + 1) + r := by rw [← hq, ← hr]; exact (Nat.div_add_mod _ _).symm
  have e2 : u - 2 ^ k = 2 ^ k * (2 * q) + r := by rw [e, Nat.mul_add, Nat.mul_one]; omega
  rw [e2, e, Nat.testBit_two_pow_mul_add _ hrl, Nat.testBit_two_pow_mul_add _ hrl]
  by_cases hj : j < k
  · rw [if_pos hj, if_pos hj]
    have : j ≠ k := by omega
    simp [this]
  · rw [if_neg hj, if_neg hj]
    obtain ⟨d, rfl⟩ := Nat.exists_eq_add_of_le (Nat.le_of_not_lt hj)
    simp only [Nat.add_sub_cancel_left]
    cases d with
    | zero => simp
    | succ d =>
      rw [Nat.testBit_succ, Nat.testBit_succ, show 2 * q / 2 = q by omega, show (2 * q + 1) / 2 = q by omega]
      simp
/-- A word with one bit more. -/
theorem set_bit (u k j : Nat) : (u ||| 2 ^ k).testBit j = (u.testBit j || decide (j = k)) := by
  rw [Nat.testBit_or, Nat.testBit_two_pow]
  by_cases hjk : k = j
  · subst hjk; simp
  · have : j ≠ k := fun e => hjk e.symm
    simp [hjk, this]
end Go.Proofs.YtpgpjjkeginbbaaGreat.Wheel
namespace Go.Proofs.YtpgpjjkeginbbaaGreat.Ffs
/-- A level's bits, out of its words. -/
def bitOf (u : Nat → Nat) (j : Nat) : Bool := (u (j / 64)).testBit (j % 64)
/-- The next one from i on, below N. -/
def Nx (B : Nat → Bool) (N i : Nat) : Option Nat → Prop
  | some j => i ≤ j ∧ j < N ∧ B j = true ∧ ∀ k, i ≤ k → k < j → B k = false
  | none => ∀ k, i ≤ k → k < N → B k = false
theorem nx_big {B : Nat → Bool} {N i : Nat} (h : N ≤ i) : Nx B N i none := fun k h1 h2 => by omega
theorem nx_one {B : Nat → Bool} {N i : Nat} {r r' : Option Nat} (h : Nx B N i r) (h' : Nx B N i r') : r = r' := by
  cases r with
  | none =>
    cases r' with
    | none => rfl
    | some j => obtain ⟨h1, h2, h3, _⟩ := h'; rw [h j h1 h2] at h3; cases h3
  | some j =>
    obtain ⟨h1, h2, h3, h4⟩ := h
    cases r' with
    | none => rw [h' j h1 h2] at h3; cases h3
    | some k =>
      obtain ⟨g1, g2, g3, g4⟩ := h'
      rcases Nat.lt_trichotomy j k with h5 | h5 | h5
      · rw [g4 j h1 h5] at h3; cases h3
      · rw [h5]
      · rw [h4 k g1 h5] at g3; cases g3
/-- The bits of a word from a place on. -/
theorem shr_bit (x s j : Nat) : (x / 2 ^ s).testBit j = x.testBit (s + j) := by rw [← Nat.shiftRight_eq_div_pow, Nat.testBit_shiftRight]
theorem bit_at {u : Nat → Nat} {w b : Nat} (hb : b < 64) : bitOf u (64 * w + b) = (u w).testBit b := by
  unfold bitOf
  rw [show (64 * w + b) / 64 = w by omega, show (64 * w + b) % 64 = b by omega]
theorem word_zero {x : Nat} (hx : x < 2 ^ 64) (h : ∀ b, b < 64 → x.testBit b = false) : x = 0 := by
  apply Nat.eq_of_testBit_eq
  intro j
  rw [Nat.zero_testBit]
  rcases Nat.lt_or_ge j 64 with h1 | h1
  · exact h j h1
  · exact Nat.testBit_lt_two_pow (Nat.lt_of_lt_of_le hx (Nat.pow_le_pow_right (by omega) h1))
/-- It is in the same word. -/
theorem nx_word {u : Nat → Nat} {W i : Nat} (hi : i < 64 * W) (ub : ∀ w, u w < 2 ^ 64) (h : u (i / 64) / 2 ^ (i % 64) ≠ 0) : Nx (bitOf u) (64 * W) i (some (i + Lib.ctz 64 (u (i / 64) / 2 ^ (i % 64)))) := by
  have hlt : u (i / 64) / 2 ^ (i % 64) < 2 ^ 64 := Nat.lt_of_le_of_lt (Nat.div_le_self _ _) (ub _)
  obtain ⟨h1, h2, h3, _, _⟩ := Wheel.ctz_bits h hlt
  generalize Lib.ctz 64 (u (i / 64) / 2 ^ (i % 64)) = c at *
  rw [shr_bit] at h1
  have hc : i % 64 + c < 64 := by
    rcases Nat.lt_or_ge (i % 64 + c) 64 with h4 | h4
    · exact h4
    · rw [Nat.testBit_lt_two_pow (Nat.lt_of_lt_of_le (ub (i / 64)) (Nat.pow_le_pow_right (by omega) h4))] at h1; cases h1
  have ei : ∀ d, d ≤ c → i + d = 64 * (i / 64) + (i % 64 + d) := fun d _ => by omega
  refine ⟨by omega, by omega, ?_, fun k hk1 hk2 => ?_⟩
  · rw [ei c (Nat.le_refl _), bit_at hc]; exact h1
  · obtain ⟨d, rfl⟩ := Nat.exists_eq_add_of_le hk1
    rw [ei d (by omega), bit_at (by omega), ← shr_bit]
    exact h2 d (by omega)
/-- Nothing in the same word. -/
theorem same_none {u : Nat → Nat} {i : Nat} (h : u (i / 64) / 2 ^ (i % 64) = 0) : ∀ k, i ≤ k → k < 64 * (i / 64 + 1) → bitOf u k = false := fun k h1 h2 => by
  obtain ⟨d, rfl⟩ := Nat.exists_eq_add_of_le h1
  rw [show i + d = 64 * (i / 64) + (i % 64 + d) by omega, bit_at (by omega), ← shr_bit, h, Nat.zero_testBit]
theorem nx_first {u : Nat → Nat} {i : Nat} (hi : i < 64 * 1) (h : u (i / 64) / 2 ^ (i % 64) = 0) : Nx (bitOf u) (64 * 1) i none := fun k h1 h2 => same_none h k h1 (by omega)
/-- No word behind has any. -/
theorem nx_up_none {B : Nat → Bool} {u : Nat → Nat} {W i : Nat} (h : u (i / 64) / 2 ^ (i % 64) = 0) (hup : ∀ w, w < W → (B w = true ↔ u w ≠ 0)) (hn : Nx B W (i / 64 + 1) none) : Nx (bitOf u) (64 * W) i none := fun k h1 h2 => by
  rcases Nat.lt_or_ge k (64 * (i / 64 + 1)) with h3 | h3
  · exact same_none h k h1 h3
  · have h4 : B (k / 64) = false := hn (k / 64) (by omega) (by omega)
    have h5 : u (k / 64) = 0 := Classical.byContradiction fun h6 => by rw [(hup (k / 64) (by omega)).2 h6] at h4; cases h4
    unfold bitOf
    rw [h5, Nat.zero_testBit]
/-- A word behind has some. -/
theorem nx_up_some {B : Nat → Bool} {u : Nat → Nat} {W i w : Nat} (ub : ∀ w, u w < 2 ^ 64) (h : u (i / 64) / 2 ^ (i % 64) = 0) (hup : ∀ w, w < W → (B w = true ↔ u w ≠ 0)) (hn : Nx B W (i / 64 + 1) (some w)) : Nx (bitOf u) (64 * W) i (some (64 * w + Lib.ctz 64 (u w))) := by
  obtain ⟨h1, h2, h3, h4⟩ := hn
  have h5 := (hup w h2).1 h3
  obtain ⟨g1, g2, g3, _, _⟩ := Wheel.ctz_bits h5 (ub w)
  generalize Lib.ctz 64 (u w) = c at *
  refine ⟨by omega, by omega, by rw [bit_at g3]; exact g1, fun k k1 k2 => ?_⟩
  rcases Nat.lt_or_ge k (64 * (i / 64 + 1)) with h6 | h6
  · exact same_none h k k1 h6
  · rcases Nat.lt_or_ge k (64 * w) with h7 | h7
    · have h8 : B (k / 64) = false := h4 (k / 64) (by omega) (by omega)
      have h9 : u (k / 64) = 0 := Classical.byContradiction fun h6 => by rw [(hup (k / 64) (by omega)).2 h6] at h8; cases h8
      unfold bitOf
      rw [h9, Nat.zero_testBit]
    · obtain ⟨d, rfl⟩ := Nat.exists_eq_add_of_le h7
      rw [bit_at (by omega)]
      exact g2 d (by omega)
end Go.Proofs.YtpgpjjkeginbbaaGreat.Ffs
namespace Go.Proofs.YtpgpjjkeginbbaaGreat.Ffs
/-- The words tell the same at each level. -/
structure Bts (L : Nat) (u : Nat → Nat → Nat) : Prop where
  ub : ∀ l w, u l w < 2 ^ 64
  up : ∀ l, l + 1 < L → ∀ w, w < 64 ^ (l + 1) → (bitOf (u l) w = true ↔ u (l + 1) w ≠ 0)
/-- Where a number stands at a level. -/
def pos (L l i : Nat) : Nat := i / 64 ^ (L - 1 - l)
theorem pos_last {L i : Nat} : pos L (L - 1) i = i := by unfold pos; rw [Nat.sub_self, Nat.pow_zero, Nat.div_one]
theorem pos_up {L l i : Nat} (h : l + 1 < L) : pos L l i = pos L (l + 1) i / 64 := by
  unfold pos
  rw [Nat.div_div_eq_div_mul, ← Nat.pow_succ]
  congr 2
  omega
theorem pos_lt {L l i : Nat} (hl : l < L) (hi : i < 64 ^ L) : pos L l i < 64 ^ (l + 1) := by
  unfold pos
  rw [Nat.div_lt_iff_lt_mul (Nat.pow_pos (by omega)), ← Nat.pow_add]
  rw [show l + 1 + (L - 1 - l) = L by omega]
  exact hi
/-- One more. -/
def putU (L : Nat) (u : Nat → Nat → Nat) (i : Nat) : Nat → Nat → Nat := fun l w => if w = pos L l i / 64 then u l w ||| 2 ^ (pos L l i % 64) else u l w
theorem bit_put (L : Nat) (u : Nat → Nat → Nat) (i l j : Nat) : bitOf (putU L u i l) j = (bitOf (u l) j || decide (j = pos L l i)) := by
  unfold bitOf putU
  by_cases h : j / 64 = pos L l i / 64
  · rw [if_pos h, Wheel.set_bit]
    congr 1
    rw [decide_eq_decide]
    omega
  · rw [if_neg h]
    have : j ≠ pos L l i := fun e => h (by rw [e])
    simp [this]
theorem bts_put {L : Nat} {u : Nat → Nat → Nat} (h : Bts L u) (i : Nat) : Bts L (putU L u i) := by
  refine ⟨fun l w => ?_, fun l hl w hw => ?_⟩
  · unfold putU
    split
    · exact Nat.or_lt_two_pow (h.ub l w) (Nat.pow_lt_pow_right (by omega) (Nat.mod_lt _ (by omega)))
    · exact h.ub l w
  · rw [bit_put, Bool.or_eq_true, decide_eq_true_eq, h.up l hl w hw]
    unfold putU
    by_cases e : w = pos L (l + 1) i / 64
    · rw [if_pos e]
      have hne : u (l + 1) w ||| 2 ^ (pos L (l + 1) i % 64) ≠ 0 := fun h0 => by
        have h1 := Wheel.set_bit (u (l + 1) w) (pos L (l + 1) i % 64) (pos L (l + 1) i % 64)
        rw [h0, Nat.zero_testBit] at h1
        simp at h1
      exact ⟨fun _ => hne, fun _ => .inr (by rw [pos_up hl]; exact e)⟩
    · rw [if_neg e]
      exact ⟨fun h1 => h1.elim id (fun h2 => absurd (by rw [h2, pos_up hl]) e), .inl⟩
/-- One less: at a level, and at those above it while a word is left empty. -/
def dropAt (u : Nat → Nat → Nat) (l p : Nat) : Nat → Nat → Nat := fun m w => if m = l ∧ w = p / 64 then u l w - 2 ^ (p % 64) else u m w
theorem bit_dropAt {u : Nat → Nat → Nat} {l p : Nat} (hb : bitOf (u l) p = true) (m j : Nat) : bitOf (dropAt u l p m) j = (bitOf (u m) j && !(decide (m = l ∧ j = p))) := by
  unfold bitOf dropAt
  by_cases h : m = l ∧ j / 64 = p / 64
  · obtain ⟨rfl, h⟩ := h
    rw [if_pos ⟨rfl, h⟩]
    have hb' : (u m (j / 64)).testBit (p % 64) = true := by rw [h]; exact hb
    rw [Wheel.drop_bit hb']
    congr 1
    by_cases e : j = p
    · subst e; simp
    · have : j % 64 ≠ p % 64 := by omega
      simp [e, this]
  · rw [if_neg h]
    have : ¬ (m = l ∧ j = p) := fun e => h ⟨e.1, by rw [e.2]⟩
    simp [this]
end Go.Proofs.YtpgpjjkeginbbaaGreat.Ffs
namespace Go.Proofs.YtpgpjjkeginbbaaGreat.Wheel
open Heap
/-- One thing put elsewhere. -/
def put {β : Type} (f : Nat → β) (o : Nat) (y : β) : Nat → β := fun i => if i = o then y else f i
theorem put_at {β : Type} (f : Nat → β) (o : Nat) (y : β) : put f o y o = y := if_pos rfl
theorem put_ne {β : Type} (f : Nat → β) {o i : Nat} (y : β) (h : i ≠ o) : put f o y i = f i := if_neg h
/-- Where lists lie: by levels and places, and aside. -/
def isRow (o : Nat) : Prop := (o < 715 ∧ o % 65 ≠ 0) ∨ o = 715
instance (o : Nat) : Decidable (isRow o) := inferInstanceAs (Decidable (_ ∨ _))
def rws : List Nat := (List.range 716).filter (fun o => decide (isRow o))
theorem mem_rws {o : Nat} : o ∈ rws ↔ isRow o := by
  unfold rws
  rw [List.mem_filter, List.mem_range, decide_eq_true_eq]
  unfold isRow
  omega
theorem nodup_rws : rws.Nodup := List.Pairwise.filter _ List.nodup_range
theorem isRow_slot {l i : Nat} (hl : l < 11) (hi : i < 64) : isRow (l * 65 + 1 + i) := by unfold isRow; omega
theorem isRow_late : isRow 715 := .inr rfl
theorem isRow_cases {o : Nat} (h : isRow o) : o = 715 ∨ ∃ l i, l < 11 ∧ i < 64 ∧ o = l * 65 + 1 + i := by
  rcases h with ⟨h1, h2⟩ | h
  · exact .inr ⟨o / 65, o % 65 - 1, by omega, by omega, by omega⟩
  · exact .inl h
/-- All that waits. -/
def all (qs : Nat → List En) : List En := rws.flatMap qs
theorem flat_at {L : List Nat} (hn : L.Nodup) {o : Nat} (h : o ∈ L) (qs : Nat → List En) : ∃ r : List En, (L.flatMap qs).Perm (qs o ++ r) ∧ ∀ y, (L.flatMap (put qs o y)).Perm (y ++ r) := by
  induction L with
  | nil => cases h
  | cons a L ih =>
    have hn' := List.nodup_cons.1 hn
    by_cases hao : a = o
    · subst hao
      refine ⟨L.flatMap qs, by rw [List.flatMap_cons], fun y => ?_⟩
      rw [List.flatMap_cons, put_at]
      have e : L.flatMap (put qs a y) = L.flatMap qs := by
        unfold List.flatMap
        congr 1
        exact List.map_congr_left fun x hx => put_ne _ _ (fun e => hn'.1 (e ▸ hx))
      rw [e]
    · have ho : o ∈ L := by
        rcases List.mem_cons.1 h with e | e
        · exact absurd e.symm hao
        · exact e
      obtain ⟨r, h1, h2⟩ := ih hn'.2 ho
      have hc : ∀ y : List En, (qs a ++ (y ++ r)).Perm (y ++ (qs a ++ r)) := fun y => by
        rw [← List.append_assoc, ← List.append_assoc]
        exact List.perm_append_comm.append_right r
      refine ⟨qs a ++ r, ?_, fun y => ?_⟩
      · rw [List.flatMap_cons]
        exact (h1.append_left _).trans (hc _)
      · rw [List.flatMap_cons, put_ne _ _ hao]
        exact ((h2 y).append_left _).trans (hc _)
theorem all_at (qs : Nat → List En) {o : Nat} (h : isRow o) : ∃ r : List En, (all qs).Perm (qs o ++ r) ∧ ∀ y, (all (put qs o y)).Perm (y ++ r) := flat_at nodup_rws (mem_rws.2 h) qs
theorem all_push (qs : Nat → List En) {o : Nat} (h : isRow o) (e : En) : (all (put qs o (qs o ++ [e]))).Perm (e :: all qs) := by
  obtain ⟨r, h1, h2⟩ := all_at qs h
  refine (h2 _).trans ?_
  rw [List.append_assoc]
  refine List.perm_middle.trans ?_
  exact h1.symm.cons e
theorem all_take (qs : Nat → List En) {o : Nat} (h : isRow o) : (qs o ++ all (put qs o [])).Perm (all qs) := by
  obtain ⟨r, h1, h2⟩ := all_at qs h
  have h3 := h2 []
  rw [List.nil_append] at h3
  exact (h3.append_left _).trans h1.symm
theorem mem_all {qs : Nat → List En} {e : En} : e ∈ all qs ↔ ∃ o, isRow o ∧ e ∈ qs o := by
  unfold all
  rw [List.mem_flatMap]
  constructor
  · rintro ⟨o, h1, h2⟩; exact ⟨o, mem_rws.1 h1, h2⟩
  · rintro ⟨o, h1, h2⟩; exact ⟨o, mem_rws.2 h1, h2⟩
theorem all_nil : all (fun _ => []) = [] := by
  unfold all
  exact List.flatMap_eq_nil_iff.2 fun _ _ => rfl
/-- Each lies where it belongs. -/
structure Lies (now : Nat) (qs : Nat → List En) : Prop where
  late : ∀ e ∈ qs 715, e.1 ≤ now
  slot : ∀ l i, l < 11 → i < 64 → ∀ e ∈ qs (l * 65 + 1 + i), Where now e.1 l ∧ plc l e.1 = i
theorem Lies.nil (now : Nat) : Lies now (fun _ => []) := ⟨fun _ h => (List.not_mem_nil h).elim, fun _ _ _ _ _ h => (List.not_mem_nil h).elim⟩
/-- Where an entry is laid. -/
def off (now at' : Nat) : Nat := if at' ≤ now then 715 else lvl now at' * 65 + 1 + plc (lvl now at') at'
theorem off_row {now at' : Nat} (h1 : now ≤ 18446744073709551615) (h2 : at' ≤ 18446744073709551615) : isRow (off now at') := by
  unfold off
  split
  · exact isRow_late
  · exact isRow_slot (by have := lvl_lt h1 h2; omega) (plc_lt _ _)
theorem slot_inj {l i m j : Nat} (hi : i < 64) (hj : j < 64) (h : l * 65 + 1 + i = m * 65 + 1 + j) : l = m ∧ i = j := by omega
theorem Lies.lay {now : Nat} {qs : Nat → List En} (h : Lies now qs) (e : En) (hb : e.1 ≤ 18446744073709551615) : Lies now (put qs (off now e.1) (qs (off now e.1) ++ [e])) := by
  refine ⟨fun x hx => ?_, fun l i hl hi x hx => ?_⟩
  · unfold off at hx
    split at hx
    · rename_i hle
      rw [put_at] at hx
      rcases List.mem_append.1 hx with hx | hx
      · exact h.late x hx
      · simp only [List.mem_singleton] at hx; subst hx; exact hle
    · rename_i hle
      by_cases e9 : 715 = lvl now e.1 * 65 + 1 + plc (lvl now e.1) e.1
      · have := plc_lt (lvl now e.1) e.1; omega
      · rw [put_ne _ _ e9] at hx; exact h.late x hx
  · by_cases e9 : l * 65 + 1 + i = off now e.1
    · rw [e9, put_at] at hx
      rcases List.mem_append.1 hx with hx | hx
      · rw [← e9] at hx; exact h.slot l i hl hi x hx
      · simp only [List.mem_singleton] at hx
        subst hx
        unfold off at e9
        split at e9
        · omega
        · obtain ⟨h1, h2⟩ := slot_inj hi (plc_lt _ _) e9
          subst h1
          exact ⟨where_lvl (by omega) hb, h2.symm⟩
    · rw [put_ne _ _ e9] at hx; exact h.slot l i hl hi x hx
/-- All places up to a time were emptied. -/
def Passed (now now' : Nat) (qs : Nat → List En) : Prop := ∀ l i, l < 11 → i < 64 → (l < lvl now now' ∨ (l = lvl now now' ∧ i ≤ plc l now')) → qs (l * 65 + 1 + i) = []
theorem Lies.pass {now now' : Nat} {qs qs' : Nat → List En} (h : Lies now qs) (hn : now < now') (hb : now' ≤ 18446744073709551615) (hs : ∀ o, qs' o = qs o ∨ qs' o = []) (hp : Passed now now' qs') : Lies now' qs' := by
  have sub : ∀ o, ∀ e ∈ qs' o, e ∈ qs o := fun o e he => by
    rcases hs o with h1 | h1
    · rw [h1] at he; exact he
    · rw [h1] at he; cases he
  refine ⟨fun e he => Nat.le_trans (h.late e (sub _ e he)) (Nat.le_of_lt hn), fun l i hl hi e he => ?_⟩
  obtain ⟨h1, h2⟩ := h.slot l i hl hi e (sub _ e he)
  refine ⟨where_stays h1 hn hb ?_, h2⟩
  rcases Nat.lt_trichotomy l (lvl now now') with h3 | h3 | h3
  · rw [hp l i hl hi (.inl h3)] at he; cases he
  · rcases Nat.lt_or_ge (plc l now') i with h4 | h4
    · exact .inr ⟨h3.symm, by rw [h2]; exact h4⟩
    · rw [hp l i hl hi (.inr ⟨h3, h4⟩)] at he; cases he
  · exact .inl h3
theorem Lies.slot_gt {now : Nat} {qs : Nat → List En} (h : Lies now qs) {o : Nat} (ho : isRow o) (hne : o ≠ 715) : ∀ e ∈ qs o, now < e.1 := fun e he => by
  rcases isRow_cases ho with rfl | ⟨l, i, hl, hi, rfl⟩
  · exact absurd rfl hne
  · exact where_lt (h.slot l i hl hi e he).1
/-- What lies aside is what is due. -/
theorem Lies.due {now : Nat} {qs : Nat → List En} (h : Lies now qs) {s : List En} (hp : s.Perm (all qs)) : (s.filter fun e => decide (e.1 ≤ now)).Perm (qs 715) ∧ (s.filter fun e => decide (now < e.1)).Perm (all (put qs 715 [])) := by
  obtain ⟨r, h1, h2⟩ := all_at qs isRow_late
  have h3 := h2 []
  rw [List.nil_append] at h3
  have hr : ∀ e ∈ r, now < e.1 := fun e he => by
    obtain ⟨o, ho, heo⟩ := mem_all.1 (h3.mem_iff.2 he)
    by_cases e9 : o = 715
    · subst e9; rw [put_at] at heo; cases heo
    · rw [put_ne _ _ e9] at heo; exact h.slot_gt ho e9 e heo
  have hpp := hp.trans h1
  have f1 := hpp.filter (fun e => decide (e.1 ≤ now))
  have f2 := hpp.filter (fun e => decide (now < e.1))
  rw [List.filter_append] at f1 f2
  have a1 : (qs 715).filter (fun e => decide (e.1 ≤ now)) = qs 715 := List.filter_eq_self.2 fun e he => by simp [h.late e he]
  have a2 : r.filter (fun e => decide (e.1 ≤ now)) = [] := List.filter_eq_nil_iff.2 fun e he => by have := hr e he; simp; omega
  have a3 : (qs 715).filter (fun e => decide (now < e.1)) = [] := List.filter_eq_nil_iff.2 fun e he => by have := h.late e he; simp; omega
  have a4 : r.filter (fun e => decide (now < e.1)) = r := List.filter_eq_self.2 fun e he => by simp [hr e he]
  rw [a1, a2, List.append_nil] at f1
  rw [a3, a4, List.nil_append] at f2
  exact ⟨f1, f2.trans h3.symm⟩
/-- The earliest time of entries. -/
def leastOf (L : List En) : Nat := L.foldl (fun m e => min m e.1) 18446744073709551615
theorem foldl_min (L : List En) : ∀ m, L.foldl (fun m e => min m e.1) m ≤ m ∧ (∀ e ∈ L, L.foldl (fun m e => min m e.1) m ≤ e.1) ∧ (L.foldl (fun m e => min m e.1) m = m ∨ ∃ e ∈ L, L.foldl (fun m e => min m e.1) m = e.1) := by
  induction L with
  | nil => exact fun m => ⟨Nat.le_refl _, fun e h => (List.not_mem_nil h).elim, .inl rfl⟩
  | cons a L ih =>
    intro m
    obtain ⟨h1, h2, h3⟩ := ih (min m a.1)
    rw [List.foldl_cons]
    refine ⟨by omega, fun e he => ?_, ?_⟩
    · rcases List.mem_cons.1 he with rfl | he
      · omega
      · exact h2 e he
    · rcases h3 with h3 | ⟨e, he, h3⟩
      · rcases Nat.le_total m a.1 with h4 | h4
        · exact .inl (by rw [h3]; omega)
        · exact .inr ⟨a, List.mem_cons_self .., by rw [h3]; omega⟩
      · exact .inr ⟨e, List.mem_cons_of_mem _ he, h3⟩
theorem leastOf_eq {L : List En} {a : En} (ha : a ∈ L) (hm : ∀ e ∈ L, a.1 ≤ e.1) (hb : a.1 ≤ 18446744073709551615) : leastOf L = a.1 := by
  obtain ⟨_, h2, h3⟩ := foldl_min L 18446744073709551615
  have h4 := h2 a ha
  unfold leastOf
  rcases h3 with h3 | ⟨e, he, h3⟩
  · omega
  · have := hm e he; omega
theorem head_le {a : En} {s : List En} (ho : (a :: s).Pairwise (fun a b => ahd a b = true)) : ∀ e ∈ a :: s, a.1 ≤ e.1 := fun e he => by
  rcases List.mem_cons.1 he with rfl | he
  · exact Nat.le_refl _
  · have := ahd_iff.1 ((List.pairwise_cons.1 ho).1 e he); omega
/-- The earliest of all lies aside, if anything does. -/
theorem Lies.least_late {now : Nat} {qs : Nat → List En} (h : Lies now qs) {a : En} {s : List En} (hp : (a :: s).Perm (all qs)) (ho : (a :: s).Pairwise (fun a b => ahd a b = true)) (hb : a.1 ≤ 18446744073709551615) (hne : qs 715 ≠ []) : leastOf (qs 715) = a.1 := by
  have hall : ∀ e ∈ qs 715, a.1 ≤ e.1 := fun e he => head_le ho e (hp.mem_iff.2 (mem_all.2 ⟨715, isRow_late, he⟩))
  refine leastOf_eq ?_ hall hb
  obtain ⟨o, hr, hao⟩ := mem_all.1 (hp.mem_iff.1 (List.mem_cons_self ..))
  by_cases e9 : o = 715
  · subst e9; exact hao
  · have h1 := h.slot_gt hr e9 a hao
    cases hq : qs 715 with
    | nil => exact absurd hq hne
    | cons x r =>
      have hx : x ∈ qs 715 := by rw [hq]; exact List.mem_cons_self ..
      have := h.late x hx
      have := hall x hx
      omega
/-- Else it lies in the first place that is not empty. -/
theorem Lies.least_slot {now : Nat} {qs : Nat → List En} (h : Lies now qs) {a : En} {s : List En} (hp : (a :: s).Perm (all qs)) (ho : (a :: s).Pairwise (fun a b => ahd a b = true)) (hb : a.1 ≤ 18446744073709551615) (hl : qs 715 = [])
    {l i : Nat} (hl11 : l < 11) (hi64 : i < 64) (hne : qs (l * 65 + 1 + i) ≠ []) (hlow : ∀ m j, m < l → j < 64 → qs (m * 65 + 1 + j) = []) (hlow2 : ∀ j, j < i → qs (l * 65 + 1 + j) = []) : leastOf (qs (l * 65 + 1 + i)) = a.1 := by
  have hall : ∀ e ∈ qs (l * 65 + 1 + i), a.1 ≤ e.1 := fun e he => head_le ho e (hp.mem_iff.2 (mem_all.2 ⟨_, isRow_slot hl11 hi64, he⟩))
  refine leastOf_eq ?_ hall hb
  obtain ⟨o, hr, hao⟩ := mem_all.1 (hp.mem_iff.1 (List.mem_cons_self ..))
  rcases isRow_cases hr with rfl | ⟨m, j, hm, hj, rfl⟩
  · rw [hl] at hao; cases hao
  · by_cases e9 : m = l ∧ j = i
    · obtain ⟨rfl, rfl⟩ := e9; exact hao
    · exfalso
      have hgt : l < m ∨ (l = m ∧ i < j) := by
        rcases Nat.lt_trichotomy m l with h1 | h1 | h1
        · rw [hlow m j h1 hj] at hao; cases hao
        · subst h1
          rcases Nat.lt_trichotomy j i with h2 | h2 | h2
          · rw [hlow2 j h2] at hao; cases hao
          · exact absurd ⟨rfl, h2⟩ e9
          · exact .inr ⟨rfl, h2⟩
        · exact .inl h1
      cases hq : qs (l * 65 + 1 + i) with
      | nil => exact hne hq
      | cons x r =>
        have hx : x ∈ qs (l * 65 + 1 + i) := by rw [hq]; exact List.mem_cons_self ..
        obtain ⟨w1, p1⟩ := h.slot l i hl11 hi64 x hx
        obtain ⟨w2, p2⟩ := h.slot m j hm hj a hao
        have h9 := where_ahead w1 w2 (by rcases hgt with h1 | ⟨h1, h2⟩; exact .inl h1; exact .inr ⟨h1, by subst h1; rw [p1, p2]; exact h2⟩)
        have := hall x hx
        omega
end Go.Proofs.YtpgpjjkeginbbaaGreat.Wheel
namespace Go.Proofs.YtpgpjjkeginbbaaGreat.Heap
open Go.RowKit
section
variable {α : Type} {K : α → Value}
/-- The cells of entries. -/
def ents (K : α → Value) : List (Ent α) → List Value
  | [] => []
  | e :: r => .int .u64 e.1 :: .int .u64 e.2.1 :: K e.2.2 :: ents K r
theorem ents_length (l : List (Ent α)) : (ents K l).length = l.length * 3 := by
  induction l with
  | nil => rfl
  | cons e r ih => simp only [ents, List.length_cons, ih]; omega
theorem ents_append (l m : List (Ent α)) : ents K (l ++ m) = ents K l ++ ents K m := by
  induction l with
  | nil => rfl
  | cons e r ih => simp only [List.cons_append, ents, ih]
theorem ents_at : ∀ (l : List (Ent α)) (i : Nat) (e : Ent α), l[i]? = some e → (ents K l)[i * 3]? = some (.int .u64 e.1) ∧ (ents K l)[i * 3 + 1]? = some (.int .u64 e.2.1) ∧ (ents K l)[i * 3 + 2]? = some (K e.2.2) := by
  intro l
  induction l with
  | nil => intro i e h; cases h
  | cons a r ih =>
    intro i e h
    cases i with
    | zero => obtain rfl := Option.some.inj h; exact ⟨rfl, rfl, rfl⟩
    | succ i =>
      have h1 := ih i e (by simpa using h)
      have e1 : (i + 1) * 3 = i * 3 + 1 + 1 + 1 := by omega
      simp only [e1, ents, List.getElem?_cons_succ]
      exact h1
theorem ents_set : ∀ (l : List (Ent α)) (i : Nat) (e : Ent α), ents K (l.set i e) = (((ents K l).set (i * 3) (.int .u64 e.1)).set (i * 3 + 1) (.int .u64 e.2.1)).set (i * 3 + 2) (K e.2.2) := by
  intro l
  induction l with
  | nil => intro i e; simp [ents]
  | cons a r ih =>
    intro i e
    cases i with
    | zero => rfl
    | succ i =>
      have e1 : (i + 1) * 3 = i * 3 + 1 + 1 + 1 := by omega
      have e2 : (i + 1) * 3 + 1 = (i * 3 + 1) + 1 + 1 + 1 := by omega
      have e3 : (i + 1) * 3 + 2 = (i * 3 + 2) + 1 + 1 + 1 := by omega
      rw [e3, e2, e1]
      simp only [List.set_cons_succ, ents, ih]
theorem ents_take (l : List (Ent α)) (n : Nat) : ents K (l.take n) = (ents K l).take (n * 3) := by
  induction l generalizing n with
  | nil => simp [ents]
  | cons a r ih =>
    cases n with
    | zero => simp [ents]
    | succ n =>
      rw [show (n + 1) * 3 = n * 3 + 1 + 1 + 1 by omega]
      simp only [List.take_succ_cons, ents, ih]
/-- Three cells written into an entry's place. -/
def put3 (w : World) (g i : Nat) (a b c : Value) : World := ((w.setCell ⟨g, i * 3, none⟩ a).setCell ⟨g, i * 3 + 1, none⟩ b).setCell ⟨g, i * 3 + 2, none⟩ c
end
/-- Entries in a row of their own. -/
abbrev Row {α : Type} (K : α → Value) (E : TypeId) (w : World) (v : Value) (l : List (Ent α)) : Prop := w.ownsRow 0 E 3 v l.length (ents K l)
section
variable {α : Type} {K : α → Value} {E : TypeId} {w w' : World} {v : Value} {l : List (Ent α)}
theorem Row.form (h : Row K E w v l) : ∃ ad c, v = .slice ad l.length c := by
  rcases h.2 with ⟨rfl, h0⟩ | ⟨g, c, cur, rfl, _⟩
  · exact ⟨none, 0, by rw [h0]⟩
  · exact ⟨_, c, rfl⟩
/-- Where there is one, there is an array. -/
theorem Row.arr (h : Row K E w v l) (hl : 0 < l.length) : ∃ g c, v = .slice (Option.some ⟨g, 0, none⟩) l.length c ∧ l.length ≤ c ∧ c ≤ maxLen := by
  rcases h.2 with ⟨rfl, h0⟩ | ⟨g, c, cur, rfl, _, _, h1, h2, _⟩
  · omega
  · exact ⟨g, c, rfl, h1, h2⟩
theorem Row.cells {g c : Nat} (h : Row K E w (.slice (some ⟨g, 0, none⟩) l.length c) l) {i : Nat} {e : Ent α} (he : l[i]? = some e) :
    w.cell? ⟨g, i * 3, none⟩ = some (.int .u64 e.1) ∧ w.cell? ⟨g, i * 3 + 1, none⟩ = some (.int .u64 e.2.1) ∧ w.cell? ⟨g, i * 3 + 2, none⟩ = some (K e.2.2) ∧
    w.frozen? ⟨g, i * 3, none⟩ = false ∧ w.frozen? ⟨g, i * 3 + 1, none⟩ = false ∧ w.frozen? ⟨g, i * 3 + 2, none⟩ = false := by
  obtain ⟨cur, hb, _, _, _, ht⟩ := Blk.own h
  obtain ⟨e1, e2, e3⟩ := ents_at (K := K) l i e he
  have hi := get_lt he
  rw [← ht] at e1 e2 e3
  rw [List.getElem?_take_of_lt (by omega)] at e1 e2 e3
  exact ⟨hb.cellAt (by simpa using e1), hb.cellAt (by simpa using e2), hb.cellAt (by simpa using e3), hb.free _, hb.free _, hb.free _⟩
theorem Row.set {g c : Nat} (h : Row K E w (.slice (some ⟨g, 0, none⟩) l.length c) l) (i : Nat) (e : Ent α) :
    Row K E (put3 w g i (.int .u64 e.1) (.int .u64 e.2.1) (K e.2.2)) (.slice (some ⟨g, 0, none⟩) (l.set i e).length c) (l.set i e) := by
  rcases h.2 with ⟨h0, _⟩ | ⟨g', c', cur, he, hb, hB, h1, h2, h3, h4⟩
  · cases h0
  · cases he
    refine ⟨by rw [ents_length], .inr ⟨g, c, _, rfl, hb, ((Blk.set hB (i * 3) _).set (i * 3 + 1) _).set (i * 3 + 2) _, by simpa using h1, h2, by simpa using h3, ?_⟩⟩
    rw [ents_set, ← h4]
    simp only [Array.toList_setIfInBounds, List.take_set, List.length_set]
/-- The front of a row. -/
theorem Row.take {g c : Nat} (h : Row K E w (.slice (some ⟨g, 0, none⟩) l.length c) l) (n : Nat) (hn : n ≤ l.length) : Row K E w (.slice (some ⟨g, 0, none⟩) n c) (l.take n) := by
  rcases h.2 with ⟨h0, _⟩ | ⟨g', c', cur, he, hb, hB, h1, h2, h3, h4⟩
  · cases h0
  · cases he
    refine ⟨by rw [ents_length], .inr ⟨g, c, cur, by rw [List.length_take, Nat.min_eq_left hn], hb, hB, by rw [List.length_take]; omega, h2, h3, ?_⟩⟩
    rw [ents_take, ← h4, List.take_take, List.length_take, Nat.min_eq_left hn, Nat.min_eq_left (by omega)]
theorem Upd.entry {S : Nat → Prop} {g : Nat} (h : Upd S w w') (hg : g < w.heap.size → S g) (i : Nat) (a b c : Value) : Upd S w (put3 w' g i a b c) := ((h.setCell (a := ⟨g, _, none⟩) hg _).setCell (a := ⟨g, _, none⟩) hg _).setCell (a := ⟨g, _, none⟩) hg _
end
/-- A heap at block b: its entries are the slice v. -/
structure HeapIn {α : Type} (K : α → Value) (T E : TypeId) (w : World) (b : Nat) (v : Value) (came room : Nat) (l : List (Ent α)) : Prop where
  blk : Blk w b #[v, .int .u64 came, .int .i64 room] T
  row : Row K E w v l
  le : l.length ≤ room
  r1 : 1 ≤ room
  r2 : room ≤ 4096
  off : v.ownBlock ≠ some b
/-- The blocks of a heap. -/
def HeapOf (b : Nat) (v : Value) : Nat → Prop := fun k => k = b ∨ v.ownBlock = some k
section
variable {α : Type} {K : α → Value} {T E : TypeId} {w w' : World} {b : Nat} {v : Value} {came room : Nat} {l : List (Ent α)}
theorem HeapIn.lts (h : HeapIn K T E w b v came room l) {k : Nat} (hk : HeapOf b v k) : k < w.heap.size := by
  rcases hk with rfl | hk
  · exact h.blk.lt
  · exact (h.row.lt k hk).2
theorem HeapIn.kept (h : HeapIn K T E w b v came room l) {S : Nat → Prop} (hu : Upd S w w') (hs : ∀ k, HeapOf b v k → ¬ S k) : HeapIn K T E w' b v came room l :=
  { h with blk := h.blk.kept hu (hs b (.inl rfl)), row := ownsRow_upd h.row hu (fun k hk => hs k (.inr hk)) }
theorem HeapIn.old (h : HeapIn K T E w b v came room l) (hu : Upd Nowhere w w') : HeapIn K T E w' b v came room l := h.kept hu (fun _ _ h => h)
/-- An entry, written. -/
theorem HeapIn.set {g c : Nat} (h : HeapIn K T E w b (.slice (some ⟨g, 0, none⟩) l.length c) came room l) (i : Nat) (e : Ent α) :
    HeapIn K T E (put3 w g i (.int .u64 e.1) (.int .u64 e.2.1) (K e.2.2)) b (.slice (some ⟨g, 0, none⟩) (l.set i e).length c) came room (l.set i e) := by
  have hgb : b ≠ g := fun e => h.off (by rw [e]; rfl)
  have hu : Upd (fun k => k = g) w (put3 w g i (.int .u64 e.1) (.int .u64 e.2.1) (K e.2.2)) := Upd.entry (S := fun k => k = g) (Upd.refl _ _) (fun _ => rfl) _ _ _ _
  exact { h with blk := by rw [List.length_set]; exact h.blk.kept hu hgb, row := h.row.set i e, le := by rw [List.length_set]; exact h.le, off := h.off }
/-- The same, at whatever length the slice is said to have. -/
theorem HeapIn.len {g : Option Addr} {n c : Nat} (h : HeapIn K T E w b (.slice g n c) came room l) : n = l.length := by
  rcases h.row.2 with ⟨h0, h1⟩ | ⟨g', c', cur, he, _⟩
  · cases h0; omega
  · cases he; rfl
theorem HeapIn.at {g n c : Nat} (h : HeapIn K T E w b (.slice (some ⟨g, 0, none⟩) n c) came room l) {i : Nat} {e : Ent α} (he : l[i]? = some e) :
    w.cell? ⟨g, i * 3, none⟩ = some (.int .u64 e.1) ∧ w.cell? ⟨g, i * 3 + 1, none⟩ = some (.int .u64 e.2.1) ∧ w.cell? ⟨g, i * 3 + 2, none⟩ = some (K e.2.2) ∧
    w.frozen? ⟨g, i * 3, none⟩ = false ∧ w.frozen? ⟨g, i * 3 + 1, none⟩ = false ∧ w.frozen? ⟨g, i * 3 + 2, none⟩ = false := by
  obtain rfl := h.len
  exact h.row.cells he
theorem HeapIn.setN {g n c : Nat} (h : HeapIn K T E w b (.slice (some ⟨g, 0, none⟩) n c) came room l) (i : Nat) (e : Ent α) :
    HeapIn K T E (put3 w g i (.int .u64 e.1) (.int .u64 e.2.1) (K e.2.2)) b (.slice (some ⟨g, 0, none⟩) n c) came room (l.set i e) := by
  obtain rfl := h.len
  have := h.set i e
  rw [List.length_set] at this
  exact this
theorem HeapIn.swap {g n c : Nat} (h : HeapIn K T E w b (.slice (some ⟨g, 0, none⟩) n c) came room l) {i j : Nat} {x y : Ent α} (hi : l[i]? = some x) (hj : l[j]? = some y) :
    HeapIn K T E (put3 (put3 w g i (.int .u64 y.1) (.int .u64 y.2.1) (K y.2.2)) g j (.int .u64 x.1) (.int .u64 x.2.1) (K x.2.2)) b (.slice (some ⟨g, 0, none⟩) n c) came room (swp l i j) := by
  rw [swp_eq hi hj]
  exact (h.setN i y).setN j x
/-- The slice, written. -/
theorem HeapIn.row' {v' : Value} {l' : List (Ent α)} (h : HeapIn K T E w b v came room l) (hr : Row K E w v' l') (hl : l'.length ≤ room) (ho : v'.ownBlock ≠ some b) : HeapIn K T E (w.setCell ⟨b, 0, none⟩ v') b v' came room l' := by
  have hu : Upd (fun k => k = b) w (w.setCell ⟨b, 0, none⟩ v') := Upd.setCell (S := fun k => k = b) (Upd.refl _ _) (fun _ => rfl) _
  exact { h with blk := by simpa using h.blk.set 0 v', row := ownsRow_upd hr hu (fun k hk e => ho (by rw [hk, e])), le := hl, off := ho }
/-- The slice cut to its front. -/
theorem HeapIn.cut {g n c : Nat} (h : HeapIn K T E w b (.slice (some ⟨g, 0, none⟩) n c) came room l) (m : Nat) (hm : m ≤ n) : HeapIn K T E (w.setCell ⟨b, 0, none⟩ (.slice (some ⟨g, 0, none⟩) m c)) b (.slice (some ⟨g, 0, none⟩) m c) came room (l.take m) := by
  obtain rfl := h.len
  exact h.row' (Row.take h.row m hm) (by have := h.le; simp; omega) h.off
/-- How many came, written. -/
theorem HeapIn.setC (h : HeapIn K T E w b v came room l) (n : Nat) : HeapIn K T E (w.setCell ⟨b, 1, none⟩ (.int .u64 n)) b v n room l := by
  have hu : Upd (fun k => k = b) w (w.setCell ⟨b, 1, none⟩ (.int .u64 n)) := Upd.setCell (S := fun k => k = b) (Upd.refl _ _) (fun _ => rfl) _
  exact { h with blk := by simpa using h.blk.set 1 (.int .u64 n), row := ownsRow_upd h.row hu (fun k hk e => h.off (by rw [hk, e])) }
end
end Go.Proofs.YtpgpjjkeginbbaaGreat.Heap
namespace Go.Proofs.YtpgpjjkeginbbaaGreat.Wheel
open Go.RowKit Heap
/-- A wheel's own blocks. -/
def Own (b : Nat) (vs : Nat → Value) (k : Nat) : Prop := k = b ∨ ∃ o, isRow o ∧ (vs o).ownBlock = some k
/-- An entry's cells. -/
def ec (e : En) : List Value := [.int .u64 (e.1 : Nat), .int .u64 (e.2.1 : Nat), .int .i64 e.2.2]
abbrev es (l : List En) : List Value := ents (Value.int .i64) l
theorem es_snoc (l : List En) (e : En) : es (l ++ [e]) = es l ++ ec e := by unfold es; rw [ents_append]; rfl
section
variable {TW TE : TypeId} {A A' : Nat → Prop} {w0 w w' wx w1 : World} {b now came room n : Nat} {vs : Nat → Value} {qs : Nat → List En} {us : Nat → Nat}
/-- A step that writes into the wheel's block alone. -/
theorem upd_blk (a : Addr) (v : Value) : Upd (fun k => k = a.block) w (w.setCell a v) := Upd.setCell (S := fun k => k = a.block) (a := a) (Upd.refl _ _) (fun _ => rfl) v
end
end Go.Proofs.YtpgpjjkeginbbaaGreat.Wheel
namespace Go.Proofs.YtpgpjjkeginbbaaGreat.Ffs
/-- A number is taken out of m levels, from the last of them on, while words are left empty. -/
def dropG (L i : Nat) : Nat → (Nat → Nat → Nat) → Nat → Nat → Nat
  | 0, u => u
  | m + 1, u => if dropAt u m (pos L m i) m (pos L m i / 64) ≠ 0 then dropAt u m (pos L m i) else dropG L i m (dropAt u m (pos L m i))
theorem dropAt_ne {u : Nat → Nat → Nat} {l p m : Nat} (h : m ≠ l) (w : Nat) : dropAt u l p m w = u m w := if_neg (fun h9 => h h9.1)
theorem dropG_up (L i : Nat) : ∀ (m : Nat) (u : Nat → Nat → Nat) (l w : Nat), m ≤ l → dropG L i m u l w = u l w
  | 0, _, _, _, _ => rfl
  | m + 1, u, l, w, h => by
    unfold dropG
    split
    · exact dropAt_ne (by omega) w
    · rw [dropG_up L i m _ l w (by omega)]; exact dropAt_ne (by omega) w
theorem dropG_ub (L i : Nat) : ∀ (m : Nat) (u : Nat → Nat → Nat), (∀ l w, u l w < 2 ^ 64) → ∀ l w, dropG L i m u l w < 2 ^ 64
  | 0, _, h => h
  | m + 1, u, h => by
    have h1 : ∀ l w, dropAt u m (pos L m i) l w < 2 ^ 64 := fun l w => by
      unfold dropAt
      split
      · exact Nat.lt_of_le_of_lt (Nat.sub_le _ _) (h m w)
      · exact h l w
    unfold dropG
    split
    · exact h1
    · exact dropG_ub L i m _ h1
/-- What holds at each level but where the number is being taken out. -/
structure BtsX (L : Nat) (u : Nat → Nat → Nat) (m p : Nat) : Prop where
  ub : ∀ l w, u l w < 2 ^ 64
  up : ∀ l, l + 1 < L → ∀ w, w < 64 ^ (l + 1) → ¬ (l = m ∧ w = p) → (bitOf (u l) w = true ↔ u (l + 1) w ≠ 0)
  low : m + 1 < L → u (m + 1) p = 0
  bit : bitOf (u m) p = true
/-- On to the level above, where a word is left empty. -/
theorem btsX_next {L i m : Nat} {u : Nat → Nat → Nat} (hi : i < 64 ^ L) (hm : m + 1 < L) (hx : BtsX L u (m + 1) (pos L (m + 1) i)) (hz : dropAt u (m + 1) (pos L (m + 1) i) (m + 1) (pos L (m + 1) i / 64) = 0) : BtsX L (dropAt u (m + 1) (pos L (m + 1) i)) m (pos L m i) := by
  have hbt := bit_dropAt hx.bit
  have hpu := pos_up (i := i) hm
  have hpl := pos_lt (l := m) (i := i) (by omega) hi
  obtain ⟨p, hp⟩ : ∃ p, pos L (m + 1) i = p := ⟨_, rfl⟩
  rw [hp] at hx hbt hpu
  have hub : ∀ l w, dropAt u (m + 1) p l w < 2 ^ 64 := fun l w => by
    unfold dropAt
    split
    · exact Nat.lt_of_le_of_lt (Nat.sub_le _ _) (hx.ub _ w)
    · exact hx.ub l w
  -- the bit above is set: the word held the number
  have hw0 : u (m + 1) (p / 64) ≠ 0 := fun e => by
    have h9 := hx.bit
    unfold bitOf at h9
    rw [e, Nat.zero_testBit] at h9; cases h9
  have hup : ∀ l, l + 1 < L → ∀ w, w < 64 ^ (l + 1) → ¬ (l = m ∧ w = p / 64) → (bitOf (dropAt u (m + 1) p l) w = true ↔ dropAt u (m + 1) p (l + 1) w ≠ 0) := fun l hl w hw hne => by
    rw [hbt]
    by_cases e : l = m + 1 ∧ w = p
    · obtain ⟨rfl, rfl⟩ := e
      rw [dropAt_ne (by omega)]
      simp [hx.low hl]
    · have e2 : (!decide (l = m + 1 ∧ w = p)) = true := by simp only [e, decide_false, Bool.not_false]
      rw [e2, Bool.and_true]
      by_cases e3 : l = m
      · subst e3
        have e4 : w ≠ p / 64 := fun h9 => hne ⟨rfl, h9⟩
        have e5 : dropAt u (l + 1) p (l + 1) w = u (l + 1) w := if_neg (fun h9 => e4 h9.2)
        rw [e5]
        exact hx.up l hl w hw (fun h9 => by omega)
      · rw [dropAt_ne (by omega)]
        exact hx.up l hl w hw e
  have hbm : bitOf (dropAt u (m + 1) p m) (p / 64) = true := by
    rw [hbt]
    have e2 : (!decide (m = m + 1 ∧ p / 64 = p)) = true := by simp
    rw [e2, Bool.and_true]
    exact (hx.up m hm (p / 64) (by rw [← hpu]; exact hpl) (fun h9 => by omega)).2 hw0
  rw [hp] at hz
  rw [hp, hpu]
  exact ⟨hub, hup, fun _ => hz, hbm⟩
theorem bts_drop {L i : Nat} (hi : i < 64 ^ L) : ∀ (m : Nat) (u : Nat → Nat → Nat), m < L → BtsX L u m (pos L m i) → Bts L (dropG L i (m + 1) u) := by
  intro m
  induction m with
  | zero =>
    intro u hm hx
    have hbt := bit_dropAt hx.bit
    obtain ⟨p, hp⟩ : ∃ p, pos L 0 i = p := ⟨_, rfl⟩
    rw [hp] at hx hbt
    have h1 : Bts L (dropAt u 0 p) := by
      refine ⟨fun l w => ?_, fun l hl w hw => ?_⟩
      · unfold dropAt
        split
        · exact Nat.lt_of_le_of_lt (Nat.sub_le _ _) (hx.ub 0 w)
        · exact hx.ub l w
      · rw [hbt, dropAt_ne (by omega)]
        by_cases e : l = 0 ∧ w = p
        · obtain ⟨rfl, rfl⟩ := e
          simp [hx.low hl]
        · rw [← hx.up l hl w hw e]
          simp only [e, decide_false, Bool.not_false, Bool.and_true]
    unfold dropG
    rw [hp]
    split
    · exact h1
    · exact h1
  | succ m ih =>
    intro u hm hx
    have hbt := bit_dropAt hx.bit
    have hpu := pos_up (i := i) hm
    have hpl := pos_lt (l := m) (i := i) (by omega) hi
    obtain ⟨p, hp⟩ : ∃ p, pos L (m + 1) i = p := ⟨_, rfl⟩
    rw [hp] at hx hbt hpu
    have hub : ∀ l w, dropAt u (m + 1) p l w < 2 ^ 64 := fun l w => by
      unfold dropAt
      split
      · exact Nat.lt_of_le_of_lt (Nat.sub_le _ _) (hx.ub _ w)
      · exact hx.ub l w
    -- the bit above is set: the word held the number
    have hw0 : u (m + 1) (p / 64) ≠ 0 := fun e => by
      have h9 := hx.bit
      unfold bitOf at h9
      rw [e, Nat.zero_testBit] at h9; cases h9
    have hup : ∀ l, l + 1 < L → ∀ w, w < 64 ^ (l + 1) → ¬ (l = m ∧ w = p / 64) → (bitOf (dropAt u (m + 1) p l) w = true ↔ dropAt u (m + 1) p (l + 1) w ≠ 0) := fun l hl w hw hne => by
      rw [hbt]
      by_cases e : l = m + 1 ∧ w = p
      · obtain ⟨rfl, rfl⟩ := e
        rw [dropAt_ne (by omega)]
        simp [hx.low hl]
      · have e2 : (!decide (l = m + 1 ∧ w = p)) = true := by simp only [e, decide_false, Bool.not_false]
        rw [e2, Bool.and_true]
        by_cases e3 : l = m
        · subst e3
          have e4 : w ≠ p / 64 := fun h9 => hne ⟨rfl, h9⟩
          have e5 : dropAt u (l + 1) p (l + 1) w = u (l + 1) w := if_neg (fun h9 => e4 h9.2)
          rw [e5]
          exact hx.up l hl w hw (fun h9 => by omega)
        · rw [dropAt_ne (by omega)]
          exact hx.up l hl w hw e
    have hbm : bitOf (dropAt u (m + 1) p m) (p / 64) = true := by
      rw [hbt]
      have e2 : (!decide (m = m + 1 ∧ p / 64 = p)) = true := by simp
      rw [e2, Bool.and_true]
      exact (hx.up m hm (p / 64) (by rw [← hpu]; exact hpl) (fun h9 => by omega)).2 hw0
    unfold dropG
    rw [hp]
    split
    · rename_i hnz
      refine ⟨hub, fun l hl w hw => ?_⟩
      by_cases e : l = m ∧ w = p / 64
      · obtain ⟨rfl, rfl⟩ := e
        exact ⟨fun _ => hnz, fun _ => hbm⟩
      · exact hup l hl w hw e
    · rename_i hz
      have hz2 : dropAt u (m + 1) p (m + 1) (p / 64) = 0 := Classical.byContradiction hz
      have h9 := ih (dropAt u (m + 1) p) (by omega) (by rw [hpu]; exact ⟨hub, hup, fun _ => hz2, hbm⟩)
      exact h9
theorem bit_dropG {L i : Nat} {u : Nat → Nat → Nat} (hL : 1 ≤ L) (hb : bitOf (u (L - 1)) i = true) (j : Nat) : bitOf (dropG L i L u (L - 1)) j = (bitOf (u (L - 1)) j && !(decide (j = i))) := by
  obtain ⟨l, rfl⟩ : ∃ l, L = l + 1 := ⟨L - 1, by omega⟩
  have hp : pos (l + 1) l i = i := by have := pos_last (L := l + 1) (i := i); simpa using this
  have e : ∀ w, dropG (l + 1) i (l + 1) u l w = dropAt u l i l w := fun w => by
    rw [show dropG (l + 1) i (l + 1) u = if dropAt u l (pos (l + 1) l i) l (pos (l + 1) l i / 64) ≠ 0 then dropAt u l (pos (l + 1) l i) else dropG (l + 1) i l (dropAt u l (pos (l + 1) l i)) from rfl, hp]
    split
    · rfl
    · exact dropG_up _ _ _ _ _ _ (Nat.le_refl _)
  rw [Nat.add_sub_cancel] at hb ⊢
  have h1 := bit_dropAt hb l j
  unfold bitOf at h1 ⊢
  rw [e, h1]
  simp
end Go.Proofs.YtpgpjjkeginbbaaGreat.Ffs

