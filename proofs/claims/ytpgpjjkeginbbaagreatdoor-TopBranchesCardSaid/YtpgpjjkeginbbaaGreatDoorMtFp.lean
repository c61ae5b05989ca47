/- HeapMatch, WheelPlain, FfsPlain, FfsPlain2, WheelPlain2, HeapCore, WheelCore, FfsPlain3, one behind the other. -/
import Derived.Test.YtpgpjjkeginbbaaGreatDoorMtA
import Derived.Lib.TrailingZeros
import Derived.Lib.BitFns
import Derived.Lib.ItoaNum
namespace Go.Proofs.YtpgpjjkeginbbaaGreatDoor.Wheel
open Heap
abbrev En := Ent Int
/-- The first digit in which a later time differs is this one. -/
def Where (now at' l : Nat) : Prop := now / 64 ^ (l + 1) = at' / 64 ^ (l + 1) ∧ now / 64 ^ l < at' / 64 ^ l
/-- Where the code looks for it. -/
def lvl (now at' : Nat) : Nat := (Go.Lib.bitLen (now ^^^ at') - 1) / 6
/-- The place in a level. -/
def plc (l at' : Nat) : Nat := at' / 64 ^ l % 64
/-- The lowest bit of a word. -/
theorem ctz_bits {u : Nat} (h0 : u ≠ 0) (h : u < 2 ^ 64) : u.testBit (Go.Lib.ctz 64 u) = true ∧ (∀ j, j < Go.Lib.ctz 64 u → u.testBit j = false) ∧ Go.Lib.ctz 64 u < 64 ∧ u &&& (u - 1) = u - 2 ^ Go.Lib.ctz 64 u ∧ 2 ^ Go.Lib.ctz 64 u ≤ u := by
 obtain ⟨m, hm, hlt⟩ := Go.Lib.ctzFrom_spec 64 u (Nat.pos_of_ne_zero h0) h
 have e : Go.Lib.ctz 64 u = Go.Lib.ctzFrom 64 u := by unfold Go.Lib.ctz; rw [if_neg h0]
 rw [e]
 generalize Go.Lib.ctzFrom 64 u = k at *
 have hk := Nat.pow_pos (n := k) (show 0 < 2 by omega)
 have hle : 2 ^ k ≤ u := by rw [hm]; exact Nat.le_mul_of_pos_right _ (by omega)
 have tb : ∀ j, u.testBit j = (decide (k ≤ j) && (2 * m + 1).testBit (j - k)) := fun j => by
  rw [hm, Nat.testBit_two_pow_mul]
 have e2 : u - 2 ^ k = 2 ^ k * (2 * m) := by rw [hm, Nat.mul_add, Nat.mul_one]; omega
 refine ⟨by rw [tb]; simp, fun j hj => by rw [tb]; simp; omega, hlt, ?_, hle⟩
 apply Nat.eq_of_testBit_eq
 intro j
 rw [Nat.testBit_and, tb j, e2, Nat.testBit_two_pow_mul]
 have e3 : u - 1 = 2 ^ k * (2 * m) + (2 ^ k - 1) := by rw [← e2]; omega
 rw [e3, Nat.testBit_two_pow_mul_add _ (by omega)]
 by_cases hj : j < k
 · rw [if_pos hj]
   have : ¬ k ≤ j := by omega
   simp [this]
 · rw [if_neg hj]
   have hkj : k ≤ j := by omega
   obtain ⟨d, rfl⟩ := Nat.exists_eq_add_of_le hkj
   simp only [Nat.add_sub_cancel_left, hkj, decide_true, Bool.true_and]
   cases d with
   | zero => simp
   | succ d =>
     rw [Nat.testBit_succ, Nat.testBit_succ]
     have e4 : (2 * m + 1) / 2 = m := by omega
     have e5 : 2 * m / 2 = m := by omega
     rw [e4, e5, Bool.and_self]
/-- A word without a bit that it has. -/
theorem drop_bit {u k : Nat} (h : u.testBit k = true) (j : Nat) : (u - 2 ^ k).testBit j = (u.testBit j && decide (j ≠ k)) := by
 rw [Nat.testBit_eq_decide_div_mod_eq, decide_eq_true_eq] at h
 obtain ⟨q, hq⟩ : ∃ q, u / 2 ^ k = 2 * q + 1 := ⟨u / 2 ^ k / 2, by omega⟩
 obtain ⟨r, hr⟩ : ∃ r, u % 2 ^ k = r := ⟨_, rfl⟩
 have hk := Nat.pow_pos (n := k) (show 0 < 2 by omega)
 have hrl : r < 2 ^ k := by rw [← hr]; exact Nat.mod_lt _ hk
 have e : u = 2 ^ k * (2 * q + 1) + r := by rw [← hq, ← hr]; exact (Nat.div_add_mod _ _).symm
 have e2 : u - 2 ^ k = 2 ^ k * (2 * q) + r := by rw [e, Nat.mul_add, Nat.mul_one]; omega
 rw [e2, e, Nat.testBit_two_pow_mul_add _ hrl, Nat.testBit_two_pow_mul_add _ hrl]
 by_cases hj : j < k
 · rw [if_pos hj, if_pos hj]
   have : j ≠ k := by omega
   simp [this]
 · rw [if_neg hj, if_neg hj]
   obtain ⟨d, rfl⟩ := Nat.exists_eq_add_of_le (Nat.le_of_not_lt hj)
   simp only [Nat.add_sub_cancel_left]
   cases d with
   | zero => simp
   | succ d =>
     rw [Nat.testBit_succ, Nat.testBit_succ, show 2 * q / 2 = q by omega, show (2 * q + 1) / 2 = q by omega]
     simp
/-- A word with one bit more. -/
theorem set_bit (u k j : Nat) : (u ||| 2 ^ k).testBit j = (u.testBit j || decide (j = k)) := by
 rw [Nat.testBit_or, Nat.testBit_two_pow]
 by_cases hjk : k = j
 · subst hjk; simp
 · have : j ≠ k := fun e => hjk e.symm
   simp [hjk, this]
end Go.Proofs.YtpgpjjkeginbbaaGreatDoor.Wheel
namespace Go.Proofs.YtpgpjjkeginbbaaGreatDoor.Ffs
/-- A level's bits, out of its words. -/
def bitOf (u : Nat → Nat) (j : Nat) : Bool := (u (j / 64)).testBit (j % 64)
/-- The next one from i on, below N. -/
def Nx (B : Nat → Bool) (N i : Nat) : Option Nat → Prop
 | some j => i ≤ j ∧ j < N ∧ B j = true ∧ ∀ k, i ≤ k → k < j → B k = false
 | none => ∀ k, i ≤ k → k < N → B k = false
theorem nx_big {B : Nat → Bool} {N i : Nat} (h : N ≤ i) : Nx B N i none := fun k h1 h2 => by omega
/-- The bits of a word from a place on. -/
theorem shr_bit (x s j : Nat) : (x / 2 ^ s).testBit j = x.testBit (s + j) := by rw [← Nat.shiftRight_eq_div_pow, Nat.testBit_shiftRight]
theorem bit_at {u : Nat → Nat} {w b : Nat} (hb : b < 64) : bitOf u (64 * w + b) = (u w).testBit b := by
 unfold bitOf
 rw [show (64 * w + b) / 64 = w by omega, show (64 * w + b) % 64 = b by omega]
/-- It is in the same word. -/
theorem nx_word {u : Nat → Nat} {W i : Nat} (hi : i < 64 * W) (ub : ∀ w, u w < 2 ^ 64) (h : u (i / 64) / 2 ^ (i % 64) ≠ 0) : Nx (bitOf u) (64 * W) i (some (i + Lib.ctz 64 (u (i / 64) / 2 ^ (i % 64)))) := by
 have hlt : u (i / 64) / 2 ^ (i % 64) < 2 ^ 64 := Nat.lt_of_le_of_lt (Nat.div_le_self _ _) (ub _)
 obtain ⟨h1, h2, h3, _, _⟩ := Wheel.ctz_bits h hlt
 generalize Lib.ctz 64 (u (i / 64) / 2 ^ (i % 64)) = c at *
 rw [shr_bit] at h1
 have hc : i % 64 + c < 64 := by
  rcases Nat.lt_or_ge (i % 64 + c) 64 with h4 | h4
  · exact h4
  · rw [Nat.testBit_lt_two_pow (Nat.lt_of_lt_of_le (ub (i / 64)) (Nat.pow_le_pow_right (by omega) h4))] at h1; cases h1
 have ei : ∀ d, d ≤ c → i + d = 64 * (i / 64) + (i % 64 + d) := fun d _ => by omega
 refine ⟨by omega, by omega, ?_, fun k hk1 hk2 => ?_⟩
 · rw [ei c (Nat.le_refl _), bit_at hc]; exact h1
 · obtain ⟨d, rfl⟩ := Nat.exists_eq_add_of_le hk1
   rw [ei d (by omega), bit_at (by omega), ← shr_bit]
   exact h2 d (by omega)
/-- Nothing in the same word. -/
theorem same_none {u : Nat → Nat} {i : Nat} (h : u (i / 64) / 2 ^ (i % 64) = 0) : ∀ k, i ≤ k → k < 64 * (i / 64 + 1) → bitOf u k = false := fun k h1 h2 => by
 obtain ⟨d, rfl⟩ := Nat.exists_eq_add_of_le h1
 rw [show i + d = 64 * (i / 64) + (i % 64 + d) by omega, bit_at (by omega), ← shr_bit, h, Nat.zero_testBit]
theorem nx_first {u : Nat → Nat} {i : Nat} (hi : i < 64 * 1) (h : u (i / 64) / 2 ^ (i % 64) = 0) : Nx (bitOf u) (64 * 1) i none := fun k h1 h2 => same_none h k h1 (by omega)
/-- No word behind has any. -/
theorem nx_up_none {B : Nat → Bool} {u : Nat → Nat} {W i : Nat} (h : u (i / 64) / 2 ^ (i % 64) = 0) (hup : ∀ w, w < W → (B w = true ↔ u w ≠ 0)) (hn : Nx B W (i / 64 + 1) none) : Nx (bitOf u) (64 * W) i none := fun k h1 h2 => by
 rcases Nat.lt_or_ge k (64 * (i / 64 + 1)) with h3 | h3
 · exact same_none h k h1 h3
 · have h4 : B (k / 64) = false := hn (k / 64) (by omega) (by omega)
   have h5 : u (k / 64) = 0 := Classical.byContradiction fun h6 => by rw [(hup (k / 64) (by omega)).2 h6] at h4; cases h4
   unfold bitOf
   rw [h5, Nat.zero_testBit]
/-- A word behind has some. -/
theorem nx_up_some {B : Nat → Bool} {u : Nat → Nat} {W i w : Nat} (ub : ∀ w, u w < 2 ^ 64) (h : u (i / 64) / 2 ^ (i % 64) = 0) (hup : ∀ w, w < W → (B w = true ↔ u w ≠ 0)) (hn : Nx B W (i / 64 + 1) (some w)) : Nx (bitOf u) (64 * W) i (some (64 * w + Lib.ctz 64 (u w))) := by
 obtain ⟨h1, h2, h3, h4⟩ := hn
 have h5 := (hup w h2).1 h3
 obtain ⟨g1, g2, g3, _, _⟩ := Wheel.ctz_bits h5 (ub w)
 generalize Lib.ctz 64 (u w) = c at *
 refine ⟨by omega, by omega, by rw [bit_at g3]; exact g1, fun k k1 k2 => ?_⟩
 rcases Nat.lt_or_ge k (64 * (i / 64 + 1)) with h6 | h6
 · exact same_none h k k1 h6
 · rcases Nat.lt_or_ge k (64 * w) with h7 | h7
   · have h8 : B (k / 64) = false := h4 (k / 64) (by omega) (by omega)
     have h9 : u (k / 64) = 0 := Classical.byContradiction fun h6 => by rw [(hup (k / 64) (by omega)).2 h6] at h8; cases h8
     unfold bitOf
     rw [h9, Nat.zero_testBit]
   · obtain ⟨d, rfl⟩ := Nat.exists_eq_add_of_le h7
     rw [bit_at (by omega)]
     exact g2 d (by omega)
end Go.Proofs.YtpgpjjkeginbbaaGreatDoor.Ffs
namespace Go.Proofs.YtpgpjjkeginbbaaGreatDoor.Ffs
/-- The words tell the same at each level. -/
structure Bts (L : Nat) (u : Nat → Nat → Nat) : Prop where
 ub : ∀ l w, u l w < 2 ^ 64
 up : ∀ l, l + 1 < L → ∀ w, w < 64 ^ (l + 1) → (bitOf (u l) w = true ↔ u (l + 1) w ≠ 0)
/-- Where a number stands at a level. -/
def pos (L l i : Nat) : Nat := i / 64 ^ (L - 1 - l)
theorem pos_last {L i : Nat} : pos L (L - 1) i = i := by unfold pos; rw [Nat.sub_self, Nat.pow_zero, Nat.div_one]
theorem pos_up {L l i : Nat} (h : l + 1 < L) : pos L l i = pos L (l + 1) i / 64 := by
 unfold pos
 rw [Nat.div_div_eq_div_mul, ← Nat.pow_succ]
 congr 2
 omega
theorem pos_lt {L l i : Nat} (hl : l < L) (hi : i < 64 ^ L) : pos L l i < 64 ^ (l + 1) := by
 unfold pos
 rw [Nat.div_lt_iff_lt_mul (Nat.pow_pos (by omega)), ← Nat.pow_add]
 rw [show l + 1 + (L - 1 - l) = L by omega]
 exact hi
/-- One more. -/
def putU (L : Nat) (u : Nat → Nat → Nat) (i : Nat) : Nat → Nat → Nat := fun l w => if w = pos L l i / 64 then u l w ||| 2 ^ (pos L l i % 64) else u l w
theorem bit_put (L : Nat) (u : Nat → Nat → Nat) (i l j : Nat) : bitOf (putU L u i l) j = (bitOf (u l) j || decide (j = pos L l i)) := by
 unfold bitOf putU
 by_cases h : j / 64 = pos L l i / 64
 · rw [if_pos h, Wheel.set_bit]
   congr 1
   rw [decide_eq_decide]
   omega
 · rw [if_neg h]
   have : j ≠ pos L l i := fun e => h (by rw [e])
   simp [this]
theorem bts_put {L : Nat} {u : Nat → Nat → Nat} (h : Bts L u) (i : Nat) : Bts L (putU L u i) := by
 refine ⟨fun l w => ?_, fun l hl w hw => ?_⟩
 · unfold putU
   split
   · exact Nat.or_lt_two_pow (h.ub l w) (Nat.pow_lt_pow_right (by omega) (Nat.mod_lt _ (by omega)))
   · exact h.ub l w
 · rw [bit_put, Bool.or_eq_true, decide_eq_true_eq, h.up l hl w hw]
   unfold putU
   by_cases e : w = pos L (l + 1) i / 64
   · rw [if_pos e]
     have hne : u (l + 1) w ||| 2 ^ (pos L (l + 1) i % 64) ≠ 0 := fun h0 => by
      have h1 := Wheel.set_bit (u (l + 1) w) (pos L (l + 1) i % 64) (pos L (l + 1) i % 64)
      rw [h0, Nat.zero_testBit] at h1
      simp at h1
     exact ⟨fun _ => hne, fun _ => .inr (by rw [pos_up hl]; exact e)⟩
   · rw [if_neg e]
     exact ⟨fun h1 => h1.elim id (fun h2 => absurd (by rw [h2, pos_up hl]) e), .inl⟩
/-- One less: at a level, and at those above it while a word is left empty. -/
def dropAt (u : Nat → Nat → Nat) (l p : Nat) : Nat → Nat → Nat := fun m w => if m = l ∧ w = p / 64 then u l w - 2 ^ (p % 64) else u m w
theorem bit_dropAt {u : Nat → Nat → Nat} {l p : Nat} (hb : bitOf (u l) p = true) (m j : Nat) : bitOf (dropAt u l p m) j = (bitOf (u m) j && !(decide (m = l ∧ j = p))) := by
 unfold bitOf dropAt
 by_cases h : m = l ∧ j / 64 = p / 64
 · obtain ⟨rfl, h⟩ := h
   rw [if_pos ⟨rfl, h⟩]
   have hb' : (u m (j / 64)).testBit (p % 64) = true := by rw [h]; exact hb
   rw [Wheel.drop_bit hb']
   congr 1
   by_cases e : j = p
   · subst e; simp
   · have : j % 64 ≠ p % 64 := by omega
     simp [e, this]
 · rw [if_neg h]
   have : ¬ (m = l ∧ j = p) := fun e => h ⟨e.1, by rw [e.2]⟩
   simp [this]
end Go.Proofs.YtpgpjjkeginbbaaGreatDoor.Ffs
namespace Go.Proofs.YtpgpjjkeginbbaaGreatDoor.Wheel
open Heap
/-- One thing put elsewhere. -/
def put {β : Type} (f : Nat → β) (o : Nat) (y : β) : Nat → β := fun i => if i = o then y else f i
/-- Where lists lie: by levels and places, and aside. -/
def isRow (o : Nat) : Prop := (o < 715 ∧ o % 65 ≠ 0) ∨ o = 715
instance (o : Nat) : Decidable (isRow o) := inferInstanceAs (Decidable (_ ∨ _))
/-- Each lies where it belongs. -/
structure Lies (now : Nat) (qs : Nat → List En) : Prop where
 late : ∀ e ∈ qs 715, e.1 ≤ now
 slot : ∀ l i, l < 11 → i < 64 → ∀ e ∈ qs (l * 65 + 1 + i), Where now e.1 l ∧ plc l e.1 = i
theorem Lies.nil (now : Nat) : Lies now (fun _ => []) := ⟨fun _ h => (List.not_mem_nil h).elim, fun _ _ _ _ _ h => (List.not_mem_nil h).elim⟩
/-- Where an entry is laid. -/
def off (now at' : Nat) : Nat := if at' ≤ now then 715 else lvl now at' * 65 + 1 + plc (lvl now at') at'
end Go.Proofs.YtpgpjjkeginbbaaGreatDoor.Wheel
namespace Go.Proofs.YtpgpjjkeginbbaaGreatDoor.Ffs
/-- A number is taken out of m levels, from the last of them on, while words are left empty. -/
def dropG (L i : Nat) : Nat → (Nat → Nat → Nat) → Nat → Nat → Nat
 | 0, u => u
 | m + 1, u => if dropAt u m (pos L m i) m (pos L m i / 64) ≠ 0 then dropAt u m (pos L m i) else dropG L i m (dropAt u m (pos L m i))
theorem dropAt_ne {u : Nat → Nat → Nat} {l p m : Nat} (h : m ≠ l) (w : Nat) : dropAt u l p m w = u m w := if_neg (fun h9 => h h9.1)
theorem dropG_up (L i : Nat) : ∀ (m : Nat) (u : Nat → Nat → Nat) (l w : Nat), m ≤ l → dropG L i m u l w = u l w
 | 0, _, _, _, _ => rfl
 | m + 1, u, l, w, h => by
   unfold dropG
   split
   · exact dropAt_ne (by omega) w
   · rw [dropG_up L i m _ l w (by omega)]; exact dropAt_ne (by omega) w
/-- What holds at each level but where the number is being taken out. -/
structure BtsX (L : Nat) (u : Nat → Nat → Nat) (m p : Nat) : Prop where
 ub : ∀ l w, u l w < 2 ^ 64
 up : ∀ l, l + 1 < L → ∀ w, w < 64 ^ (l + 1) → ¬ (l = m ∧ w = p) → (bitOf (u l) w = true ↔ u (l + 1) w ≠ 0)
 low : m + 1 < L → u (m + 1) p = 0
 bit : bitOf (u m) p = true
/-- On to the level above, where a word is left empty. -/
theorem btsX_next {L i m : Nat} {u : Nat → Nat → Nat} (hi : i < 64 ^ L) (hm : m + 1 < L) (hx : BtsX L u (m + 1) (pos L (m + 1) i)) (hz : dropAt u (m + 1) (pos L (m + 1) i) (m + 1) (pos L (m + 1) i / 64) = 0) : BtsX L (dropAt u (m + 1) (pos L (m + 1) i)) m (pos L m i) := by
 have hbt := bit_dropAt hx.bit
 have hpu := pos_up (i := i) hm
 have hpl := pos_lt (l := m) (i := i) (by omega) hi
 obtain ⟨p, hp⟩ : ∃ p, pos L (m + 1) i = p := ⟨_, rfl⟩
 rw [hp] at hx hbt hpu
 have hub : ∀ l w, dropAt u (m + 1) p l w < 2 ^ 64 := fun l w => by
  unfold dropAt
  split
  · exact Nat.lt_of_le_of_lt (Nat.sub_le _ _) (hx.ub _ w)
  · exact hx.ub l w
 -- the bit above is set: the word held the number
 have hw0 : u (m + 1) (p / 64) ≠ 0 := fun e => by
  have h9 := hx.bit
  unfold bitOf at h9
  rw [e, Nat.zero_testBit] at h9; cases h9
 have hup : ∀ l, l + 1 < L → ∀ w, w < 64 ^ (l + 1) → ¬ (l = m ∧ w = p / 64) → (bitOf (dropAt u (m + 1) p l) w = true ↔ dropAt u (m + 1) p (l + 1) w ≠ 0) := fun l hl w hw hne => by
  rw [hbt]
  by_cases e : l = m + 1 ∧ w = p
  · obtain ⟨rfl, rfl⟩ := e
    rw [dropAt_ne (by omega)]
    simp [hx.low hl]
  · have e2 : (!decide (l = m + 1 ∧ w = p)) = true := by simp only [e, decide_false, Bool.not_false]
    rw [e2, Bool.and_true]
    by_cases e3 : l = m
    · subst e3
      have e4 : w ≠ p / 64 := fun h9 => hne ⟨rfl, h9⟩
      have e5 : dropAt u (l + 1) p (l + 1) w = u (l + 1) w := if_neg (fun h9 => e4 h9.2)
      rw [e5]
      exact hx.up l hl w hw (fun h9 => by omega)
    · rw [dropAt_ne (by omega)]
      exact hx.up l hl w hw e
 have hbm : bitOf (dropAt u (m + 1) p m) (p / 64) = true := by
  rw [hbt]
  have e2 : (!decide (m = m + 1 ∧ p / 64 = p)) = true := by simp
  rw [e2, Bool.and_true]
  exact (hx.up m hm (p / 64) (by rw [← hpu]; exact hpl) (fun h9 => by omega)).2 hw0
 rw [hp] at hz
 rw [hp, hpu]
 exact ⟨hub, hup, fun _ => hz, hbm⟩
theorem bts_drop {L i : Nat} (hi : i < 64 ^ L) : ∀ (m : Nat) (u : Nat → Nat → Nat), m < L → BtsX L u m (pos L m i) → Bts L (dropG L i (m + 1) u) := by
 intro m
 induction m with
 | zero =>
   intro u hm hx
   have hbt := bit_dropAt hx.bit
   obtain ⟨p, hp⟩ : ∃ p, pos L 0 i = p := ⟨_, rfl⟩
   rw [hp] at hx hbt
   have h1 : Bts L (dropAt u 0 p) := by
    refine ⟨fun l w => ?_, fun l hl w hw => ?_⟩
    · unfold dropAt
      split
      · exact Nat.lt_of_le_of_lt (Nat.sub_le _ _) (hx.ub 0 w)
      · exact hx.ub l w
    · rw [hbt, dropAt_ne (by omega)]
      by_cases e : l = 0 ∧ w = p
      · obtain ⟨rfl, rfl⟩ := e
        simp [hx.low hl]
      · rw [← hx.up l hl w hw e]
        simp only [e, decide_false, Bool.not_false, Bool.and_true]
   unfold dropG
   rw [hp]
   split
   · exact h1
   · exact h1
 | succ m ih =>
   intro u hm hx
   have hbt := bit_dropAt hx.bit
   have hpu := pos_up (i := i) hm
   have hpl := pos_lt (l := m) (i := i) (by omega) hi
   obtain ⟨p, hp⟩ : ∃ p, pos L (m + 1) i = p := ⟨_, rfl⟩
   rw [hp] at hx hbt hpu
   have hub : ∀ l w, dropAt u (m + 1) p l w < 2 ^ 64 := fun l w => by
    unfold dropAt
    split
    · exact Nat.lt_of_le_of_lt (Nat.sub_le _ _) (hx.ub _ w)
    · exact hx.ub l w
   -- the bit above is set: the word held the number
   have hw0 : u (m + 1) (p / 64) ≠ 0 := fun e => by
    have h9 := hx.bit
    unfold bitOf at h9
    rw [e, Nat.zero_testBit] at h9; cases h9
   have hup : ∀ l, l + 1 < L → ∀ w, w < 64 ^ (l + 1) → ¬ (l = m ∧ w = p / 64) → (bitOf (dropAt u (m + 1) p l) w = true ↔ dropAt u (m + 1) p (l + 1) w ≠ 0) := fun l hl w hw hne => by
    rw [hbt]
    by_cases e : l = m + 1 ∧ w = p
    · obtain ⟨rfl, rfl⟩ := e
      rw [dropAt_ne (by omega)]
      simp [hx.low hl]
    · have e2 : (!decide (l = m + 1 ∧ w = p)) = true := by simp only [e, decide_false, Bool.not_false]
      rw [e2, Bool.and_true]
      by_cases e3 : l = m
      · subst e3
        have e4 : w ≠ p / 64 := fun h9 => hne ⟨rfl, h9⟩
        have e5 : dropAt u (l + 1) p (l + 1) w = u (l + 1) w := if_neg (fun h9 => e4 h9.2)
        rw [e5]
        exact hx.up l hl w hw (fun h9 => by omega)
      · rw [dropAt_ne (by omega)]
        exact hx.up l hl w hw e
   have hbm : bitOf (dropAt u (m + 1) p m) (p / 64) = true := by
    rw [hbt]
    have e2 : (!decide (m = m + 1 ∧ p / 64 = p)) = true := by simp
    rw [e2, Bool.and_true]
    exact (hx.up m hm (p / 64) (by rw [← hpu]; exact hpl) (fun h9 => by omega)).2 hw0
   unfold dropG
   rw [hp]
   split
   · rename_i hnz
     refine ⟨hub, fun l hl w hw => ?_⟩
     by_cases e : l = m ∧ w = p / 64
     · obtain ⟨rfl, rfl⟩ := e
       exact ⟨fun _ => hnz, fun _ => hbm⟩
     · exact hup l hl w hw e
   · rename_i hz
     have hz2 : dropAt u (m + 1) p (m + 1) (p / 64) = 0 := Classical.byContradiction hz
     have h9 := ih (dropAt u (m + 1) p) (by omega) (by rw [hpu]; exact ⟨hub, hup, fun _ => hz2, hbm⟩)
     exact h9
theorem bit_dropG {L i : Nat} {u : Nat → Nat → Nat} (hL : 1 ≤ L) (hb : bitOf (u (L - 1)) i = true) (j : Nat) : bitOf (dropG L i L u (L - 1)) j = (bitOf (u (L - 1)) j && !(decide (j = i))) := by
 obtain ⟨l, rfl⟩ : ∃ l, L = l + 1 := ⟨L - 1, by omega⟩
 have hp : pos (l + 1) l i = i := by have := pos_last (L := l + 1) (i := i); simpa using this
 have e : ∀ w, dropG (l + 1) i (l + 1) u l w = dropAt u l i l w := fun w => by
  rw [show dropG (l + 1) i (l + 1) u = if dropAt u l (pos (l + 1) l i) l (pos (l + 1) l i / 64) ≠ 0 then dropAt u l (pos (l + 1) l i) else dropG (l + 1) i l (dropAt u l (pos (l + 1) l i)) from rfl, hp]
  split
  · rfl
  · exact dropG_up _ _ _ _ _ _ (Nat.le_refl _)
 rw [Nat.add_sub_cancel] at hb ⊢
 have h1 := bit_dropAt hb l j
 unfold bitOf at h1 ⊢
 rw [e, h1]
 simp
end Go.Proofs.YtpgpjjkeginbbaaGreatDoor.Ffs

