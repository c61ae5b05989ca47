/- Division of two words by one, in plain numbers: the digit by digit algorithm. No program in sight. -/
namespace Go.Proofs.YtllfloapiliheaaDoor.Div

/-- One digit: what holds of the guess q and the rest r in the loop: u * B + d is divided by Y = a * B + b. -/
structure Guess (u d a b q r : Nat) : Prop where
  rest : u = q * a + r
  high : (u * 4294967296 + d) / (a * 4294967296 + b) ≤ q
  le : q ≤ 4294967297

variable {u d a b q r : Nat}

theorem key_lt (p s : Nat) (h1 : u = p + r) (h2 : r * 4294967296 + d < s) : u * 4294967296 + d < p * 4294967296 + s := by
  rw [h1, Nat.add_mul, Nat.add_assoc]; exact Nat.add_lt_add_left h2 _
theorem key_le (p s : Nat) (h1 : u = p + r) (h2 : s ≤ r * 4294967296 + d) : p * 4294967296 + s ≤ u * 4294967296 + d := by subst h1; omega

theorem guess_start (ha : 2147483648 ≤ a) (hb : b < 4294967296) (hu : u < a * 4294967296 + b) (hd : d < 4294967296) : Guess u d a b (u / a) (u - u / a * a) := by
  have hda := Nat.div_add_mod u a
  have hc : a * (u / a) = u / a * a := Nat.mul_comm _ _
  refine ⟨by omega, ?_, ?_⟩
  · rw [Nat.div_le_iff_le_mul_add_pred (by omega)]
    have h1 : u < (u / a + 1) * a := by rw [Nat.add_mul, Nat.one_mul]; have := Nat.mod_lt u (show 0 < a by omega); omega
    have h2 : (u + 1) * 4294967296 ≤ (u / a + 1) * a * 4294967296 := Nat.mul_le_mul_right _ h1
    have e : (u / a + 1) * a * 4294967296 = u / a * (a * 4294967296) + a * 4294967296 := by rw [Nat.mul_assoc, Nat.add_mul, Nat.one_mul]
    have e2 : (a * 4294967296 + b) * (u / a) = u / a * (a * 4294967296) + b * (u / a) := by rw [Nat.add_mul, Nat.mul_comm (a * 4294967296)]
    rw [e2]
    have : 0 ≤ b * (u / a) := Nat.zero_le _
    omega
  · have h1 : u < (a + 1) * 4294967296 := by omega
    have h2 : u / a < 4294967298 := by
      rw [Nat.div_lt_iff_lt_mul (by omega)]
      omega
    omega

/-- The guess is too great: one less is still no less than the digit. -/
theorem guess_next (g : Guess u d a b q r) (hd : d < 4294967296) (hu : u < a * 4294967296 + b)
    (h : 4294967296 ≤ q ∨ r * 4294967296 + d < q * b) : Guess u d a b (q - 1) (r + a) ∧ 1 ≤ q := by
  have hlt : (u * 4294967296 + d) / (a * 4294967296 + b) < q := by
    rcases h with h | h
    · rw [Nat.div_lt_iff_lt_mul (by omega)]
      have h1 : 4294967296 * (a * 4294967296 + b) ≤ q * (a * 4294967296 + b) := Nat.mul_le_mul_right _ h
      omega
    · rw [Nat.div_lt_iff_lt_mul (by omega), Nat.mul_add q (a * 4294967296) b]
      have e : q * (a * 4294967296) = q * a * 4294967296 := (Nat.mul_assoc q a 4294967296).symm
      rw [e]
      exact key_lt _ _ g.rest h
  have h1 : 1 ≤ q := Nat.lt_of_le_of_lt (Nat.zero_le _) hlt
  have hk := Nat.le_sub_one_of_lt hlt
  obtain ⟨k, rfl⟩ : ∃ k, q = k + 1 := ⟨q - 1, (Nat.sub_add_cancel h1).symm⟩
  have hr := g.rest
  rw [Nat.add_mul, Nat.one_mul] at hr
  have := g.le
  exact ⟨⟨by rw [Nat.add_sub_cancel]; omega, hk, by omega⟩, h1⟩

/-- The guess is not too great: it is the digit. -/
theorem guess_done (g : Guess u d a b q r) (ha : 2147483648 ≤ a) (h : q * b ≤ r * 4294967296 + d) : q = (u * 4294967296 + d) / (a * 4294967296 + b) := by
  have h1 : q ≤ (u * 4294967296 + d) / (a * 4294967296 + b) := by
    rw [Nat.le_div_iff_mul_le (by omega), Nat.mul_add q (a * 4294967296) b]
    have e : q * (a * 4294967296) = q * a * 4294967296 := (Nat.mul_assoc q a 4294967296).symm
    rw [e]
    exact key_le _ _ g.rest h
  exact Nat.le_antisymm h1 g.high

/-- The rest has grown over a digit: the guess is the digit. -/
theorem guess_over (g : Guess u d a b q r) (ha : 2147483648 ≤ a) (hb : b < 4294967296) (hq : q ≤ 4294967296) (h : 4294967296 ≤ r) : q = (u * 4294967296 + d) / (a * 4294967296 + b) := by
  refine guess_done g ha ?_
  have h1 : q * b ≤ 4294967296 * 4294967295 := Nat.mul_le_mul hq (by omega)
  omega

/-- A digit is a digit. -/
theorem digit_lt (hd : d < 4294967296) (hu : u < a * 4294967296 + b) : (u * 4294967296 + d) / (a * 4294967296 + b) < 4294967296 := by
  rw [Nat.div_lt_iff_lt_mul (by omega)]; omega
end Go.Proofs.YtllfloapiliheaaDoor.Div
