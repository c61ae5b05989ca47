/- the reference of sat: MulDiv, DivUp. -/
import Derived.Test.YtgmiggnlhcldlaaSat4
import Derived.Deep.RegionHeld3
namespace Go.Proofs.Ytgmiggnlhcldlaa.Sat
open Go.RowKit Go.Proofs BigFrame
open Wide (four dg Gives of_any times_any)
open Bits (wrapN)

theorem bit_step (Q k n : Nat) (hn : n = Q / 2 ^ (k + 1) * 2 ^ (k + 1)) :
    (n + 2 ^ k ≤ Q → Q / 2 ^ k * 2 ^ k = n + 2 ^ k) ∧ (¬ n + 2 ^ k ≤ Q → Q / 2 ^ k * 2 ^ k = n) := by
  have hM : 0 < 2 ^ k := Nat.two_pow_pos k
  rw [Nat.pow_succ] at hn
  generalize 2 ^ k = M at *
  obtain ⟨q, r, hq, hQ, hr⟩ := Bits.divs Q (Y := M * 2) (by omega)
  rw [← hq] at hn
  have e1 : q * (M * 2) = 2 * q * M := by rw [Nat.mul_comm M 2, ← Nat.mul_assoc, Nat.mul_comm q 2]
  have e2 : (2 * q + 1) * M = 2 * q * M + M := by rw [Nat.add_mul, Nat.one_mul]
  have e3 : (2 * q + 1 + 1) * M = 2 * q * M + M + M := by rw [Nat.add_mul, Nat.one_mul, e2]
  refine ⟨fun h => ?_, fun h => ?_⟩
  · have : Q / M = 2 * q + 1 := Nat.div_eq_of_lt_le (by rw [e2]; omega) (by rw [e3]; omega)
    rw [this, e2]; omega
  · have : Q / M = 2 * q := Nat.div_eq_of_lt_le (by omega) (by rw [e2]; omega)
    rw [this]; omega

theorem bit_lt (Q k n : Nat) (hn : n = Q / 2 ^ (k + 1) * 2 ^ (k + 1)) (hk : k < 64) (hQ : Q ≤ 18446744073709551615) : n + 2 ^ k ≤ 18446744073709551615 := by
  have hM : 0 < 2 ^ k := Nat.two_pow_pos k
  have h1 : n ≤ Q := by rw [hn]; exact Nat.div_mul_le_self _ _
  have e64 : 2 ^ (63 - k) * 2 ^ (k + 1) = 18446744073709551616 := by
    rw [← Nat.pow_add, show 63 - k + (k + 1) = 64 by omega]
  have e : 2 ^ (k + 1) = 2 ^ k + 2 ^ k := by rw [Nat.pow_succ]; omega
  have h2 : Q / 2 ^ (k + 1) + 1 ≤ 2 ^ (63 - k) := by
    apply Nat.succ_le_of_lt
    rw [Nat.div_lt_iff_lt_mul (Nat.two_pow_pos _), e64]; omega
  have h3 := Nat.mul_le_mul_right (2 ^ (k + 1)) h2
  rw [e64, Nat.add_mul, Nat.one_mul, ← hn, e] at h3
  omega

theorem shl1 (k : Nat) (hk : k < 64) : IntKind.u64.wrap (2 ^ k) = ((2 ^ k : Nat) : Int) := by
  have h : 2 ^ k ≤ 2 ^ 63 := Nat.pow_le_pow_right (by omega) (by omega)
  have := wrapN (2 ^ k) (by simp only [Nat.reducePow] at h; omega)
  push_cast at this ⊢
  exact this

theorem keep4 {g : Nat} {v0 v1 v2 v3 : Value} {w : World} {V : Value} {f : FuncId} {args : Array Value} (h : Calls Try.prog f args w fun e w' => Gives w V e w')
    {B : World} (hS : Upd Nowhere B w ∧ w.cell? ⟨g, 0, none⟩ = some v0 ∧ w.cell? ⟨g, 1, none⟩ = some v1 ∧ w.cell? ⟨g, 2, none⟩ = some v2 ∧ w.cell? ⟨g, 3, none⟩ = some v3) :
    Calls Try.prog f args w fun e w' => e = .returned V ∧ Upd Nowhere B w' ∧ w'.cell? ⟨g, 0, none⟩ = some v0 ∧ w'.cell? ⟨g, 1, none⟩ = some v1 ∧ w'.cell? ⟨g, 2, none⟩ = some v2 ∧ w'.cell? ⟨g, 3, none⟩ = some v3 := by
  obtain ⟨hu, h0, h1, h2, h3⟩ := hS
  have hg := cell_lt h0
  exact h.mono fun e w' ⟨a, b⟩ => ⟨a, hu.trans b (fun _ _ h => h), (b.cell 0 hg (fun h => h)).trans h0, (b.cell 1 hg (fun h => h)).trans h1, (b.cell 2 hg (fun h => h)).trans h2, (b.cell 3 hg (fun h => h)).trans h3⟩

set_option maxHeartbeats 1000000
theorem ref_divup (a b : Nat) (ha : a ≤ 18446744073709551615) (hb : b ≤ 18446744073709551615) (w : World) :
    Calls Try.prog 40 #[.int .u64 a, .int .u64 b] w fun e w' => Gives w (.int .u64 (ups a b : Nat)) e w' := by
  rcases Nat.eq_zero_or_pos a with rfl | hap
  · simp only [ups, if_pos]
    go_enter Try.func40, Try.ntmps40
    go_wp2
    go_ret
    exact ⟨rfl, Upd.refl _ _⟩
  have e0 : ((a : Int) == 0) = false := by simp; omega
  rcases Nat.eq_zero_or_pos b with rfl | hbp
  · have eU : ups a 0 = 18446744073709551615 := by simp only [ups]; rw [if_neg (by omega)]; simp
    rw [eU]
    go_enter Try.func40, Try.ntmps40
    go_wp2
    go_ret
    exact ⟨rfl, Upd.refl _ _⟩
  have e00 : ((b : Int) == 0) = false := by simp; omega
  have h2 := fun m (hm : m ≤ 18446744073709551615) u => Lib.hid (times_any m b hm hb u)
  have h1 := fun u => Lib.hid (of_any a ha u)
  have h3 := fun m (hm : m ≤ 18446744073709551615) u => Lib.hid (less_num (m * b) a (Nat.lt_of_le_of_lt (prod_lt hm hb) (by omega)) (by omega) u)
  have eQ : Hid (ups a b = (a - 1) / b + 1) := Lib.hid (by simp only [ups]; rw [if_neg (by omega), if_neg (by omega)])
  have hcmp : ∀ m, (m ≤ (a - 1) / b ↔ m * b < a) := by
    intro m
    rw [Nat.le_div_iff_mul_le hbp]; omega
  have hQ : (a - 1) / b < 18446744073709551615 := by
    have := Nat.div_le_self (a - 1) b
    omega
  generalize (a - 1) / b = Q at *
  obtain ⟨V, hV⟩ : ∃ V : Nat → Value, ∀ m, four (dg (m * b)) = V m := ⟨_, fun _ => rfl⟩
  simp only [hV] at h2 h3
  clear hV
  generalize four (dg a) = P at h1 h3
  go_enter Try.func40, Try.ntmps40
  go_wp2_with fail
  go_loopw [5, 6] (fun n i wr => ∃ j : Nat, j ≤ 64 ∧ (∃ x : Int, i = .int .i64 x ∧ x = (j : Int) - 1) ∧ n = .int .u64 (Q / 2 ^ j * 2 ^ j : Nat) ∧ Upd Nowhere w wr) (fun _ i _ => (intOf i + 1).toNat)
  case atStart => exact ⟨64, by omega, ⟨63, rfl, rfl⟩, by rw [Nat.div_eq_of_lt (by simp only [Nat.reducePow]; omega), Nat.zero_mul]; rfl, Upd.refl _ _⟩
  case round =>
    obtain ⟨j, hj, ⟨x, rfl, hx⟩, rfl, hu⟩ := hrel
    rcases Nat.eq_zero_or_pos j with rfl | hjp
    · obtain rfl : x = -1 := by omega
      have eq0 : Q / 2 ^ 0 * 2 ^ 0 = Q := by rw [Nat.pow_zero, Nat.div_one, Nat.mul_one]
      rw [eq0]
      have eN : IntKind.u64.wrap ((Q : Int) + 1) = ((Q + 1 : Nat) : Int) := by
        have : (Q : Int) + 1 = ((Q + 1 : Nat) : Int) := by push_cast; rfl
        rw [this]; exact wrapN _ (by omega)
      clear h1 h2 h3 hcmp eq0 hQ hb hj hx
      go_wp2
      go_ret
      exact ⟨(congrArg (fun m : Nat => Ending.returned (.int .u64 (m : Int))) eQ.out).symm, hu⟩
    · obtain ⟨k, rfl⟩ : ∃ k, j = k + 1 := ⟨j - 1, by omega⟩
      obtain rfl : x = (k : Int) := by omega
      obtain ⟨n, hn⟩ : ∃ n, Q / 2 ^ (k + 1) * 2 ^ (k + 1) = n := ⟨_, rfl⟩
      rw [hn]
      have b1 := bit_lt Q k n hn.symm (by omega) (by omega)
      obtain ⟨s1, s2⟩ := bit_step Q k n hn.symm
      have hle := hcmp (n + 2 ^ k)
      have H2 := h2 (n + 2 ^ k) b1
      have H3 := h3 (n + 2 ^ k) b1
      have e1 := shl1 k (by omega)
      have e2 : IntKind.u64.wrap ((n : Int) + ((2 ^ k : Nat) : Int)) = ((n + 2 ^ k : Nat) : Int) := by
        have := wrapN (n + 2 ^ k) (by omega)
        rw [← this]; push_cast; rfl
      have hk : k < 64 := by omega
      have S1 := Lib.hid s1
      have S2 := Lib.hid s2
      have HL := Lib.hid hle
      generalize n + 2 ^ k = m at *
      obtain ⟨M, hM⟩ : ∃ M, 2 ^ k = M := ⟨_, rfl⟩
      rw [hM] at e1 e2 S1 S2
      have HM := Lib.hid hM
      clear hM
      clear h2 h3 hcmp s1 s2 hle hn b1 hQ ha hb hj hx hjp hap hbp
      rcases Decidable.em (m * b < a) with hd | hd
      · have ed : decide (m * b < a) = true := decide_eq_true hd
        simp only [ed] at H3
        have E : Hid (Q / M * M = m) := Lib.hid (S1.out (HL.out.2 hd))
        clear hd ed S1 S2 HL
        go_wp2_with fail
        refine (H2 _).out.mono ?_
        rintro e w1 ⟨rfl, u1⟩
        go_wp2_with fail
        refine (h1 _).out.mono ?_
        rintro e w2 ⟨rfl, u2⟩
        go_wp2_with fail
        refine (H3 _).out.mono ?_
        rintro e w3 ⟨rfl, u3⟩
        go_wp2_with fail
        go_roundw
        case rel => exact ⟨k, by omega, ⟨_, rfl, by go_num⟩, by rw [HM.out, E.out], ((hu.trans u1 (fun _ _ h => h)).trans u2 (fun _ _ h => h)).trans u3 (fun _ _ h => h)⟩
        case measure => simp [intOf]
      · have ed : decide (m * b < a) = false := decide_eq_false hd
        simp only [ed] at H3
        have E : Hid (Q / M * M = n) := Lib.hid (S2.out (fun h => hd (HL.out.1 h)))
        clear hd ed S1 S2 HL
        go_wp2_with fail
        refine (H2 _).out.mono ?_
        rintro e w1 ⟨rfl, u1⟩
        go_wp2_with fail
        refine (h1 _).out.mono ?_
        rintro e w2 ⟨rfl, u2⟩
        go_wp2_with fail
        refine (H3 _).out.mono ?_
        rintro e w3 ⟨rfl, u3⟩
        go_wp2_with fail
        go_roundw
        case rel => exact ⟨k, by omega, ⟨_, rfl, by go_num⟩, by rw [HM.out, E.out], ((hu.trans u1 (fun _ _ h => h)).trans u2 (fun _ _ h => h)).trans u3 (fun _ _ h => h)⟩
        case measure => simp [intOf]
end Go.Proofs.Ytgmiggnlhcldlaa.Sat
