/- Division of two words by one: how the numbers of the code hang together. No program in sight. -/
import Derived.Test.YtllfloapiliheaaDoorDivPlain
namespace Go.Proofs.YtllfloapiliheaaDoor.Div

theorem wraps (X Z d R : Nat) (h : X + d = Z + R) (hR : R < 18446744073709551616) :
    ((((X % 18446744073709551616 + d) % 18446744073709551616 : Nat) : Int) - ((Z % 18446744073709551616 : Nat) : Int)) % 18446744073709551616 = (R : Int) := by omega

theorem lin {u d1 d0 A C R R0 : Nat} (h1 : u * 4294967296 + d1 = A + R) (h2 : R * 4294967296 + d0 = C + R0) : u * 18446744073709551616 + (d1 * 4294967296 + d0) = A * 4294967296 + C + R0 := by
  have e1 : u * 18446744073709551616 = u * 4294967296 * 4294967296 := by rw [Nat.mul_assoc]
  rw [e1, ← Nat.add_assoc, ← Nat.add_mul, h1, Nat.add_mul, Nat.add_assoc, h2, Nat.add_assoc]

/-- N is what is divided, y by what; both doubled s times. -/
structure Parts (N y s Y u L : Nat) : Prop where
  eY : Y = y * 2 ^ s
  eN : N * 2 ^ s = u * 18446744073709551616 + L
  lt : L < 18446744073709551616
  low : u < Y
  nz : 0 < y

theorem quot {N y s Y u L d1 d0 Q R Q0 R0 : Nat} (p : Parts N y s Y u L) (hL : L = d1 * 4294967296 + d0) (h1 : u * 4294967296 + d1 = Q * Y + R) (h2 : R * 4294967296 + d0 = Q0 * Y + R0) (hR : R0 < Y) :
    N / y = Q * 4294967296 + Q0 ∧ N % y = R0 / 2 ^ s := by
  have hp : 0 < 2 ^ s := Nat.two_pow_pos s
  have hY : 0 < Y := by rw [p.eY]; exact Nat.mul_pos p.nz hp
  have e : N * 2 ^ s = (Q * 4294967296 + Q0) * Y + R0 := by
    have h3 : (Q * 4294967296 + Q0) * Y = Q * Y * 4294967296 + Q0 * Y := by rw [Nat.add_mul, Nat.mul_right_comm]
    have h4 := p.eN
    rw [h3, h4, hL]
    exact lin h1 h2
  have hd : N * 2 ^ s / Y = Q * 4294967296 + Q0 := by
    rw [e, Nat.mul_comm _ Y, Nat.mul_add_div hY, Nat.div_eq_of_lt hR, Nat.add_zero]
  have hm : N * 2 ^ s % Y = R0 := by
    rw [e, Nat.mul_comm _ Y, Nat.mul_add_mod, Nat.mod_eq_of_lt hR]
  rw [p.eY] at hd hm
  refine ⟨by rw [← hd, Nat.mul_div_mul_right _ _ hp], ?_⟩
  rw [Nat.mul_mod_mul_right] at hm
  rw [← hm, Nat.mul_div_cancel _ hp]
end Go.Proofs.YtllfloapiliheaaDoor.Div
