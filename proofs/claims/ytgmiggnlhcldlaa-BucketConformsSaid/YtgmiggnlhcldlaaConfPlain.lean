/- BucketConforms, the plain law: what is taken is at most the burst and the rate for each tick. -/
import Derived.Lib.Hide
namespace Go.Proofs.Ytgmiggnlhcldlaa.Conf
/-- Tokens ahead of act k. -/
def tok (r b : Nat) (l : List (Nat × Nat)) : Nat → Nat
  | 0 => b
  | k + 1 => let m := min (tok r b l k + r * (l.getD k (0, 0)).1) b
    if (l.getD k (0, 0)).2 ≤ m then m - (l.getD k (0, 0)).2 else m
/-- Tokens behind act k's ticks. -/
def tks (r b : Nat) (l : List (Nat × Nat)) (k : Nat) : Nat := min (tok r b l k + r * (l.getD k (0, 0)).1) b
/-- What act k takes. -/
def got (r b : Nat) (l : List (Nat × Nat)) (k : Nat) : Nat := if (l.getD k (0, 0)).2 ≤ tks r b l k then (l.getD k (0, 0)).2 else 0
theorem tok_le (r b : Nat) (l : List (Nat × Nat)) : ∀ k, tok r b l k ≤ b
  | 0 => Nat.le_refl _
  | k + 1 => by
    rw [tok]
    generalize hm : min (tok r b l k + r * (l.getD k (0, 0)).1) b = m
    have : m ≤ b := by rw [← hm]; exact Nat.min_le_right _ _
    split <;> omega
theorem got_tok (r b : Nat) (l : List (Nat × Nat)) (k : Nat) : got r b l k + tok r b l (k + 1) = tks r b l k := by
  rw [tok]
  unfold got tks
  generalize min (tok r b l k + r * (l.getD k (0, 0)).1) b = m
  split <;> omega
/-- What acts i to i + d - 1 take. -/
def sg (r b : Nat) (l : List (Nat × Nat)) (i : Nat) : Nat → Nat
  | 0 => 0
  | d + 1 => sg r b l i d + got r b l (i + d)
/-- What they may take. -/
def mg (r b : Nat) (l : List (Nat × Nat)) (i : Nat) : Nat → Nat
  | 0 => b
  | d + 1 => if d = 0 then b else mg r b l i d + r * (l.getD (i + d) (0, 0)).1
theorem conf (r b : Nat) (l : List (Nat × Nat)) (i : Nat) : ∀ d, sg r b l i (d + 1) + tok r b l (i + d + 1) ≤ mg r b l i (d + 1)
  | 0 => by
    have h := got_tok r b l i
    have h2 : tks r b l i ≤ b := Nat.min_le_right _ _
    simp only [sg, mg, Nat.add_zero, if_true]
    omega
  | d + 1 => by
    have ih := conf r b l i d
    have h := got_tok r b l (i + (d + 1))
    have h2 : tks r b l (i + (d + 1)) ≤ tok r b l (i + (d + 1)) + r * (l.getD (i + (d + 1)) (0, 0)).1 := Nat.min_le_left _ _
    rw [sg, mg, if_neg (Nat.succ_ne_zero d)]
    rw [show i + (d + 1) = i + d + 1 from rfl] at *
    generalize r * (l.getD (i + d + 1) (0, 0)).1 = p at *
    omega
theorem conf_le (r b : Nat) (l : List (Nat × Nat)) (i d : Nat) : sg r b l i (d + 1) ≤ mg r b l i (d + 1) := by have := conf r b l i d; omega
theorem got_le (r b : Nat) (l : List (Nat × Nat)) (k : Nat) (hb : b ≤ 18446744073709551615) : got r b l k ≤ 18446744073709551615 := by
  have h : got r b l k ≤ b := by
    have h2 : tks r b l k ≤ b := Nat.min_le_right _ _
    unfold got; split <;> omega
  exact Nat.le_trans h hb
theorem sg_le (r b : Nat) (l : List (Nat × Nat)) (i : Nat) (hb : b ≤ 18446744073709551615) : ∀ d, sg r b l i d ≤ d * 18446744073709551615
  | 0 => by simp [sg]
  | d + 1 => by
    have h := sg_le r b l i hb d
    have h2 := got_le r b l (i + d) hb
    rw [sg, Nat.add_mul, Nat.one_mul]
    exact Nat.add_le_add h h2
theorem bound_s {d x g : Nat} (hd : d ≤ 60) (hx : x ≤ d * 18446744073709551615) (hg : g ≤ 18446744073709551615) : x + g < 340282366920938463463374607431768211456 := by
  have h : d * 18446744073709551615 ≤ 60 * 18446744073709551615 := Nat.mul_le_mul_right _ hd
  omega
theorem bound_m {d y p : Nat} (hd : d ≤ 60) (hy : y ≤ 18446744073709551615 + d * 79228162514264337593543950336) (hp : p < 79228162514264337593543950336) : y + p < 340282366920938463463374607431768211456 ∧ y + p ≤ 18446744073709551615 + (d + 1) * 79228162514264337593543950336 := by
  have h : d * 79228162514264337593543950336 ≤ 60 * 79228162514264337593543950336 := Nat.mul_le_mul_right _ hd
  rw [Nat.add_mul, Nat.one_mul]
  omega
theorem bound_m0 {d y : Nat} (hd : d ≤ 61) (hy : y ≤ 18446744073709551615 + d * 79228162514264337593543950336) : y < 340282366920938463463374607431768211456 := by
  have h : d * 79228162514264337593543950336 ≤ 61 * 79228162514264337593543950336 := Nat.mul_le_mul_right _ hd
  omega
theorem first_m {b d : Nat} (hb : b ≤ 18446744073709551615) : b ≤ 18446744073709551615 + d * 79228162514264337593543950336 := Nat.le_trans hb (Nat.le_add_right _ _)
end Go.Proofs.Ytgmiggnlhcldlaa.Conf
