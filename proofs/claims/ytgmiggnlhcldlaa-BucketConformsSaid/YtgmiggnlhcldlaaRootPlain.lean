/- Plain laws on roots, parts and means. No program in sight. -/
import Derived.WalkKit
namespace Go.Proofs.Ytgmiggnlhcldlaa.Root

/-- Bit by bit: the greatest number of so many bits, from k on, that p bears. -/
def top (p : Nat → Bool) : Nat → Nat → Nat
  | 0, k => k
  | i + 1, k => top p i (if p (k + 2 ^ i) then k + 2 ^ i else k)
theorem top_congr {p q : Nat → Bool} (h : ∀ m, p m = q m) : ∀ i k, top p i k = top q i k
  | 0, _ => rfl
  | i + 1, k => by unfold top; rw [h, top_congr h i]
theorem top_lt (p : Nat → Bool) : ∀ i k, top p i k < k + 2 ^ i
  | 0, k => by simp [top]
  | i + 1, k => by
    unfold top
    have h1 := top_lt p i k
    have h3 := top_lt p i (k + 2 ^ i)
    have h4 := Nat.two_pow_pos i
    have h2 : 2 ^ (i + 1) = 2 ^ i + 2 ^ i := by rw [Nat.pow_succ]; omega
    split <;> omega
theorem top_spec {p : Nat → Bool} (hp : ∀ m n, m ≤ n → p n = true → p m = true) : ∀ i k, p k = true → p (k + 2 ^ i) = false → p (top p i k) = true ∧ p (top p i k + 1) = false
  | 0, k, h0, h1 => by simpa [top] using And.intro h0 h1
  | i + 1, k, h0, h1 => by
    unfold top
    have h2 : 2 ^ (i + 1) = 2 ^ i + 2 ^ i := by rw [Nat.pow_succ]; omega
    cases hc : p (k + 2 ^ i) with
    | true => exact top_spec hp i _ (by simpa using hc) (by simpa [h2, Nat.add_assoc] using h1)
    | false => exact top_spec hp i _ (by simpa using h0) (by simpa using hc)

/-- The root, rounded down. -/
def sq (n : Nat) : Nat := top (fun m => decide (m * m ≤ n)) 32 0
theorem sq_spec (n : Nat) (hn : n ≤ 18446744073709551615) : sq n * sq n ≤ n ∧ n < (sq n + 1) * (sq n + 1) := by
  have h := top_spec (p := fun m => decide (m * m ≤ n)) (fun a b hab h => by
    simp only [decide_eq_true_eq] at *
    exact Nat.le_trans (Nat.mul_le_mul hab hab) h) 32 0 (by simp) (by simp; omega)
  simpa [sq] using h
theorem sq_lt (n : Nat) : sq n < 4294967296 := by
  have := top_lt (fun m => decide (m * m ≤ n)) 32 0
  simpa [sq] using this
theorem sq_mono {m n : Nat} (h : m ≤ n) (hn : n ≤ 18446744073709551615) : sq m ≤ sq n := by
  have h1 := sq_spec m (by omega)
  have h2 := sq_spec n hn
  rcases Nat.lt_or_ge (sq n) (sq m) with hlt | hge
  · have := Nat.mul_le_mul (show sq n + 1 ≤ sq m from hlt) (show sq n + 1 ≤ sq m from hlt)
    omega
  · exact hge
theorem sq_le {n k : Nat} (h : n ≤ k * k) (hn : n ≤ 18446744073709551615) : sq n ≤ k := by
  have h1 := sq_spec n hn
  rcases Nat.lt_or_ge k (sq n) with hlt | hge
  · have := Nat.mul_le_mul (show k + 1 ≤ sq n from hlt) (show k + 1 ≤ sq n from hlt)
    have h3 : (k + 1) * (k + 1) = k * k + 2 * k + 1 := by rw [Nat.add_mul, Nat.mul_add]; omega
    omega
  · exact hge

/-- A base, capped. -/
def bse (n : Nat) : Nat := min n 2147483648
theorem bse_sq (n : Nat) : bse n * bse n ≤ 4611686018427387904 := by
  have : bse n ≤ 2147483648 := Nat.min_le_right _ _
  exact Nat.mul_le_mul this this
/-- A part of a base. -/
def part (n c : Nat) : Nat := if c = 0 then bse n else sq (bse n * bse n / c)
/-- What the program asks of a candidate. -/
theorem part_test (b c m : Nat) (hc : 0 < c) (hb : b ≤ 2147483648) : (decide (m ≤ 2147483648) && decide (m * m * c ≤ b * b)) = decide (m * m ≤ b * b / c) := by
  rw [Bool.eq_iff_iff]
  simp only [Bool.and_eq_true, decide_eq_true_eq]
  rw [Nat.le_div_iff_mul_le hc]
  constructor
  · exact fun h => h.2
  · intro h
    refine ⟨?_, h⟩
    rcases Nat.lt_or_ge 2147483648 m with hlt | hge
    · have h1 := Nat.mul_le_mul (show 2147483649 ≤ m from hlt) (show 2147483649 ≤ m from hlt)
      have h2 := Nat.mul_le_mul (Nat.le_refl (m * m)) (show 1 ≤ c from hc)
      have h3 := Nat.mul_le_mul hb hb
      omega
    · exact hge
theorem part_le (n c : Nat) : part n c ≤ bse n := by
  unfold part
  split
  · exact Nat.le_refl _
  · have h := bse_sq n
    have h2 : bse n * bse n / c ≤ bse n * bse n := Nat.div_le_self _ _
    exact sq_le h2 (by omega)
theorem part_mono {m n c d : Nat} (h : m ≤ n) (hc : c ≤ d) (hc0 : 0 < c) : part m d ≤ part n c := by
  unfold part
  rw [if_neg (by omega), if_neg (by omega)]
  have hb : bse m ≤ bse n := by unfold bse; omega
  have h1 : bse m * bse m / d ≤ bse n * bse n / c := Nat.le_trans (Nat.div_le_div_right (Nat.mul_le_mul hb hb)) (Nat.div_le_div_left hc hc0)
  have h2 := bse_sq n
  have h3 : bse n * bse n / c ≤ bse n * bse n := Nat.div_le_self _ _
  exact sq_mono h1 (by omega)

/-- How much slower. -/
def slo (n : Int) : Nat := (min (max n 0) 16).toNat
theorem slo_le (n : Int) : slo n ≤ 16 := by unfold slo; omega
/-- A mean that follows. -/
def fol (m x : Nat) (s : Nat) : Nat := min (m - m / 2 ^ s + x) 18446744073709551615

/-- Steps of a mean. -/
def steps (x s : Nat) : Nat → Nat → Nat
  | 0, m => m
  | k + 1, m => steps x s k (fol m x s)
theorem steps_succ (x s : Nat) : ∀ k m, steps x s (k + 1) m = fol (steps x s k m) x s
  | 0, _ => rfl
  | k + 1, m => by rw [steps, steps_succ x s k]; rfl
theorem steps_add (x s : Nat) : ∀ j k m, steps x s (j + k) m = steps x s k (steps x s j m)
  | 0, k, m => by simp [steps]
  | j + 1, k, m => by rw [Nat.succ_add, steps, steps_add x s j]; rfl
/-- A mean below one more than x, in parts of D. -/
theorem fol_low {m x s : Nat} (hs : s ≤ 5) (hx : x ≤ 4294967295) (hm : m < (x + 1) * 2 ^ s) :
    fol m x s < (x + 1) * 2 ^ s ∧ m ≤ fol m x s ∧ fol m x s + m / 2 ^ s = m + x ∧ m / 2 ^ s ≤ x := by
  have hD : 0 < 2 ^ s := Nat.two_pow_pos s
  have hq : m / 2 ^ s ≤ x := by
    have := (Nat.div_lt_iff_lt_mul hD).2 hm
    omega
  have hD2 : 2 ^ s ≤ 32 := Nat.pow_le_pow_right (by omega) hs (n := 2)
  obtain ⟨q, hqe⟩ : ∃ q, m / 2 ^ s = q := ⟨_, rfl⟩
  have hmod := Nat.div_add_mod m (2 ^ s)
  have hlt := Nat.mod_lt m hD
  rw [hqe] at hq hmod
  unfold fol
  rw [hqe]
  generalize 2 ^ s = D at *
  have h1 : (x + 1) * D ≤ 4294967296 * 32 := Nat.mul_le_mul (by omega) hD2
  have hq0 : q ≤ m := by rw [← hqe]; exact Nat.div_le_self _ _
  have e : min (m - q + x) 18446744073709551615 = m - q + x := by omega
  rw [e]
  refine ⟨?_, by omega, by omega, hq⟩
  obtain ⟨d, rfl⟩ : ∃ d, x = q + d := ⟨x - q, by omega⟩
  have h2 : (q + d + 1) * D = D * q + d * D + D := by rw [Nat.add_mul, Nat.add_mul, Nat.one_mul, Nat.mul_comm q D]
  have h3 : d * 1 ≤ d * D := Nat.mul_le_mul_left _ hD
  omega
theorem steps_low {x s : Nat} (hs : s ≤ 5) (hx : x ≤ 4294967295) : ∀ k m, m < (x + 1) * 2 ^ s → steps x s k m < (x + 1) * 2 ^ s ∧ m ≤ steps x s k m
  | 0, m, h => ⟨h, Nat.le_refl _⟩
  | k + 1, m, h => by
    obtain ⟨h1, h2, _, _⟩ := fol_low hs hx h
    obtain ⟨h3, h4⟩ := steps_low hs hx k _ h1
    exact ⟨h3, by unfold steps; omega⟩
/-- What is lacking shrinks by a part of D of it, and by one at least. -/
theorem fol_gap {m x s : Nat} (hs : s ≤ 5) (hx : x ≤ 4294967295) (hm : m < (x + 1) * 2 ^ s) (g : Nat) (hg : m + 32 * g ≤ x * 2 ^ s) : m + g ≤ fol m x s := by
  obtain ⟨h1, h2, h3, h4⟩ := fol_low hs hx hm
  have hD : 0 < 2 ^ s := Nat.two_pow_pos s
  have hD2 : 2 ^ s ≤ 32 := Nat.pow_le_pow_right (by omega) hs (n := 2)
  have : m / 2 ^ s + g ≤ x := by
    have h5 : m / 2 ^ s * 2 ^ s ≤ m := Nat.div_mul_le_self _ _
    generalize m / 2 ^ s = q at *
    generalize 2 ^ s = D at *
    have h6 : (q + g) * D ≤ x * D := by
      have : g * D ≤ g * 32 := Nat.mul_le_mul_left _ hD2
      rw [Nat.add_mul]; omega
    exact Nat.le_of_mul_le_mul_right h6 hD
  omega
theorem fol_one {m x s : Nat} (hs : s ≤ 5) (hx : x ≤ 4294967295) (hm : m < x * 2 ^ s) : m + 1 ≤ fol m x s := by
  have hD : 0 < 2 ^ s := Nat.two_pow_pos s
  obtain ⟨h1, h2, h3, h4⟩ := fol_low hs hx (show m < (x + 1) * 2 ^ s by rw [Nat.add_mul]; omega)
  have : m / 2 ^ s < x := (Nat.div_lt_iff_lt_mul hD).2 hm
  omega
theorem steps_gap {x s : Nat} (hs : s ≤ 5) (hx : x ≤ 4294967295) (g : Nat) : ∀ k m, m < (x + 1) * 2 ^ s → m + k * g ≤ steps x s k m ∨ x * 2 ^ s < steps x s k m + 32 * g
  | 0, m, _ => by left; simp [steps]
  | k + 1, m, h => by
    obtain ⟨h1, h2, _, _⟩ := fol_low hs hx h
    rcases Nat.lt_or_ge (x * 2 ^ s) (m + 32 * g) with hlt | hge
    · right
      have := (steps_low hs hx (k + 1) m h).2
      omega
    · have h5 := fol_gap hs hx h g hge
      rcases steps_gap hs hx g k _ h1 with h | h
      · left; unfold steps; rw [Nat.succ_mul]; omega
      · right; unfold steps; exact h
theorem steps_one {x s : Nat} (hs : s ≤ 5) (hx : x ≤ 4294967295) : ∀ k m, m < (x + 1) * 2 ^ s → m + k ≤ steps x s k m ∨ x * 2 ^ s ≤ steps x s k m
  | 0, m, _ => by left; simp [steps]
  | k + 1, m, h => by
    obtain ⟨h1, h2, _, _⟩ := fol_low hs hx h
    rcases Nat.lt_or_ge m (x * 2 ^ s) with hlt | hge
    · have h5 := fol_one hs hx hlt
      rcases steps_one hs hx k _ h1 with h | h
      · left; unfold steps; omega
      · right; unfold steps; exact h
    · right
      have := (steps_low hs hx (k + 1) m h).2
      omega
/-- 32 steps halve what is lacking. -/
theorem halve {x s m j : Nat} (hs : s ≤ 5) (hx : x ≤ 4294967295) (hm : m < (x + 1) * 2 ^ s) (h : x * 2 ^ s ≤ m + 2 ^ (j + 6)) : x * 2 ^ s ≤ steps x s 32 m + 2 ^ (j + 5) := by
  have e1 : 2 ^ (j + 5) = 32 * 2 ^ j := by rw [Nat.pow_add]; omega
  have e2 : 2 ^ (j + 6) = 64 * 2 ^ j := by rw [Nat.pow_add]; omega
  rcases steps_gap hs hx (2 ^ j) 32 m hm with h1 | h1 <;> omega
theorem halves {x s : Nat} (hs : s ≤ 5) (hx : x ≤ 4294967295) : ∀ j m, m < (x + 1) * 2 ^ s → x * 2 ^ s ≤ m + 2 ^ (j + 5) → x * 2 ^ s ≤ steps x s (32 * j) m + 32
  | 0, m, _, h => by simpa [steps] using h
  | j + 1, m, hm, h => by
    have h1 := halve hs hx hm (show x * 2 ^ s ≤ m + 2 ^ (j + 6) by rw [show j + 6 = j + 1 + 5 by omega]; exact h)
    have h2 := halves hs hx j _ (steps_low hs hx 32 m hm).1 h1
    rw [← steps_add] at h2
    rw [show 32 * (j + 1) = 32 + 32 * j by omega]
    exact h2
theorem settled {x s m : Nat} (hs : s ≤ 5) (hx : x ≤ 4294967295) (hm : m < (x + 1) * 2 ^ s) : steps x s 2400 m / 2 ^ s = x ∧ fol (steps x s 2400 m) x s / 2 ^ s = x := by
  have hD : 0 < 2 ^ s := Nat.two_pow_pos s
  have hD2 : 2 ^ s ≤ 32 := Nat.pow_le_pow_right (by omega) hs (n := 2)
  have h0 : x * 2 ^ s ≤ m + 2 ^ (32 + 5) := by
    have := Nat.mul_le_mul hx hD2
    omega
  have h1 := halves hs hx 32 m hm h0
  have l1 := (steps_low hs hx (32 * 32) m hm).1
  have h2 : x * 2 ^ s ≤ steps x s 32 (steps x s (32 * 32) m) := by
    rcases steps_one hs hx 32 _ l1 with h | h <;> omega
  rw [← steps_add] at h2
  have l2 := (steps_low hs hx (32 * 32 + 32) m hm).1
  obtain ⟨l3, h3⟩ := steps_low hs hx 1344 _ l2
  rw [← steps_add] at l3 h3
  have l3' : steps x s 2400 m < (x + 1) * 2 ^ s := l3
  have h4 : x * 2 ^ s ≤ steps x s 2400 m := Nat.le_trans h2 h3
  have fin : ∀ n, n < (x + 1) * 2 ^ s → x * 2 ^ s ≤ n → n / 2 ^ s = x := fun n a b => by
    refine Nat.div_eq_of_lt_le b ?_
    exact a
  obtain ⟨f1, f2, _, _⟩ := fol_low hs hx l3'
  exact ⟨fin _ l3' h4, fin _ f1 (Nat.le_trans h4 f2)⟩
end Go.Proofs.Ytgmiggnlhcldlaa.Root
