/- WheelRPlain, WheelRPlain2, WheelRCore, WheelR, WheelRTake, WheelRLay, WheelRState, WheelRPass, WheelRAsk, WheelRHas, WheelROrd, Sorted, WheelRSrt, WheelRDue, WheelRNext, WheelRQ, one behind the other. -/
import Derived.Test.YtpgpjjkeginbbaaGreatDoorMtA
import Derived.Test.YtpgpjjkeginbbaaGreatDoorMtFp
import Derived.Lib.TrailingZeros
import Derived.Lib.BitFns
import Derived.Lib.ItoaNum
import Derived.Test.YtpgpjjkeginbbaaGreatDoorMtSat
import Derived.Test.YtpgpjjkeginbbaaGreatDoorMtOp
import Derived.Laws.Bits64b
import Derived.Deep.RegionLaw
import Derived.Test.YtpgpjjkeginbbaaGreatDoorTz
import Derived.Deep.CutBlock
import Derived.Deep.DeepCutAuto
import Derived.Deep.RegionHeld3
import Derived.BigQuiet
import Derived.Sort.Grow
import Derived.Sort.Statements
import Derived.Shelf.GgSortFunc.InsertionK
import Derived.Test.YtpgpjjkeginbbaaGreatDoorWheelRSort
import Derived.Shelf.SlSortCmp.NoneTotal
namespace Go.Proofs.YtpgpjjkeginbbaaGreatDoor.WheelR
open Heap
abbrev Ri := Nat × Nat
abbrev En := Ent Ri
/-- The first digit in which a later time differs is this one. -/
def Where (now at' l : Nat) : Prop := now / 64 ^ (l + 1) = at' / 64 ^ (l + 1) ∧ now / 64 ^ l < at' / 64 ^ l
theorem pow6 (l : Nat) : 2 ^ (6 * l) = 64 ^ l := by rw [Nat.pow_mul]
theorem where_lt {now at' l : Nat} (h : Where now at' l) : now < at' := by
 rcases Nat.lt_or_ge now at' with h1 | h1
 · exact h1
 · have := Nat.div_le_div_right (c := 64 ^ l) h1; have := h.2; omega
theorem div_up {x y l m : Nat} (h : x / 64 ^ l = y / 64 ^ l) (hm : l ≤ m) : x / 64 ^ m = y / 64 ^ m := by
 obtain ⟨d, rfl⟩ := Nat.exists_eq_add_of_le hm
 rw [Nat.pow_add, ← Nat.div_div_eq_div_mul, ← Nat.div_div_eq_div_mul, h]
/-- Where the code looks for it. -/
def lvl (now at' : Nat) : Nat := (Go.Lib.bitLen (now ^^^ at') - 1) / 6
theorem xor_zero' {a b : Nat} (h : a ^^^ b = 0) : a = b := by
 have h1 : (a ^^^ b) ^^^ b = a := by rw [Nat.xor_assoc, Nat.xor_self, Nat.xor_zero]
 rw [← h1, h, Nat.zero_xor]
theorem len_bounds {now at' : Nat} (h : now < at') (hb : at' ≤ 18446744073709551615) : 1 ≤ Go.Lib.bitLen (now ^^^ at') ∧ 2 ^ (Go.Lib.bitLen (now ^^^ at') - 1) ≤ now ^^^ at' ∧ now ^^^ at' < 2 ^ Go.Lib.bitLen (now ^^^ at') :=
 Go.Lib.bitLenAux_bounds 64 (now ^^^ at') (Nat.xor_lt_two_pow (by omega) (by omega)) (fun e => by have := xor_zero' e; omega)
theorem where_lvl {now at' : Nat} (h : now < at') (hb : at' ≤ 18446744073709551615) : Where now at' (lvl now at') := by
 obtain ⟨h0, h2, h1⟩ := len_bounds h hb
 obtain ⟨L, hL⟩ : ∃ L, Go.Lib.bitLen (now ^^^ at') = L := ⟨_, rfl⟩
 rw [hL] at h0 h1 h2
 unfold lvl
 rw [hL]
 have e1 : now / 64 ^ ((L - 1) / 6 + 1) = at' / 64 ^ ((L - 1) / 6 + 1) := by
  rw [← pow6, ← Nat.shiftRight_eq_div_pow, ← Nat.shiftRight_eq_div_pow]
  have h3 : (now ^^^ at') >>> (6 * ((L - 1) / 6 + 1)) = 0 := by
   rw [Nat.shiftRight_eq_div_pow]
   exact Nat.div_eq_of_lt (Nat.lt_of_lt_of_le h1 (Nat.pow_le_pow_right (by omega) (by omega)))
  rw [Nat.shiftRight_xor_distrib] at h3
  exact xor_zero' h3
 have e2 : now / 64 ^ ((L - 1) / 6) ≠ at' / 64 ^ ((L - 1) / 6) := by
  rw [← pow6, ← Nat.shiftRight_eq_div_pow, ← Nat.shiftRight_eq_div_pow]
  intro e
  have h3 : (now ^^^ at') >>> (6 * ((L - 1) / 6)) = 0 := by rw [Nat.shiftRight_xor_distrib, e, Nat.xor_self]
  rw [Nat.shiftRight_eq_div_pow] at h3
  have h4 : 2 ^ (6 * ((L - 1) / 6)) ≤ now ^^^ at' := Nat.le_trans (Nat.pow_le_pow_right (by omega) (by omega)) h2
  have := Nat.div_pos h4 (Nat.pow_pos (by omega))
  omega
 refine ⟨e1, ?_⟩
 have := Nat.div_le_div_right (c := 64 ^ ((L - 1) / 6)) (Nat.le_of_lt h)
 omega
theorem lvl_lt {now at' : Nat} (h1 : now ≤ 18446744073709551615) (h2 : at' ≤ 18446744073709551615) : lvl now at' ≤ 10 := by
 unfold lvl
 have h3 : now ^^^ at' < 2 ^ 64 := Nat.xor_lt_two_pow (by omega) (by omega)
 have := Go.Lib.bitLen_le _ 64 (by omega) h3
 omega
/-- The place in a level. -/
def plc (l at' : Nat) : Nat := at' / 64 ^ l % 64
theorem plc_lt (l at' : Nat) : plc l at' < 64 := Nat.mod_lt _ (by omega)
theorem div_split (x l : Nat) : x / 64 ^ l = 64 * (x / 64 ^ (l + 1)) + x / 64 ^ l % 64 := by
 rw [Nat.pow_succ, ← Nat.div_div_eq_div_mul]; omega
/-- What lies in a higher level, or behind the new time's place, stays as it lies. -/
theorem where_stays {now now' at' l : Nat} (h : Where now at' l) (hn : now < now') (hb : now' ≤ 18446744073709551615) (ht : lvl now now' < l ∨ (lvl now now' = l ∧ plc l now' < plc l at')) : Where now' at' l := by
 have hw := where_lvl hn hb
 rcases ht with ht | ⟨rfl, ht⟩
 · have e := div_up hw.1 (Nat.succ_le_of_lt ht)
   exact ⟨by rw [← h.1]; exact (div_up hw.1 (by omega)).symm, by rw [← e]; exact h.2⟩
 · refine ⟨by rw [← h.1]; exact hw.1.symm, ?_⟩
   have e1 := div_split now' (lvl now now')
   have e2 := div_split at' (lvl now now')
   have e3 : now' / 64 ^ (lvl now now' + 1) = at' / 64 ^ (lvl now now' + 1) := by rw [← h.1]; exact hw.1.symm
   unfold plc at ht
   omega
/-- Who lies in a lower level is due ahead. -/
theorem where_ahead {now x y l m : Nat} (hx : Where now x l) (hy : Where now y m) (h : l < m ∨ (l = m ∧ plc l x < plc l y)) : x < y := by
 rcases h with h | ⟨rfl, h⟩
 · have e : now / 64 ^ m = x / 64 ^ m := div_up hx.1 h
   have := hy.2
   rw [e] at this
   rcases Nat.lt_or_ge x y with h1 | h1
   · exact h1
   · have := Nat.div_le_div_right (c := 64 ^ m) h1; omega
 · have e1 := div_split x l
   have e2 := div_split y l
   have e3 : x / 64 ^ (l + 1) = y / 64 ^ (l + 1) := by rw [← hx.1, hy.1]
   unfold plc at h
   rcases Nat.lt_or_ge x y with h1 | h1
   · exact h1
   · have := Nat.div_le_div_right (c := 64 ^ l) h1; omega
/-- The lowest bit of a word. -/
theorem ctz_bits {u : Nat} (h0 : u ≠ 0) (h : u < 2 ^ 64) : u.testBit (Go.Lib.ctz 64 u) = true ∧ (∀ j, j < Go.Lib.ctz 64 u → u.testBit j = false) ∧ Go.Lib.ctz 64 u < 64 ∧ u &&& (u - 1) = u - 2 ^ Go.Lib.ctz 64 u ∧ 2 ^ Go.Lib.ctz 64 u ≤ u := by
 obtain ⟨m, hm, hlt⟩ := Go.Lib.ctzFrom_spec 64 u (Nat.pos_of_ne_zero h0) h
 have e : Go.Lib.ctz 64 u = Go.Lib.ctzFrom 64 u := by unfold Go.Lib.ctz; rw [if_neg h0]
 rw [e]
 generalize Go.Lib.ctzFrom 64 u = k at *
 have hk := Nat.pow_pos (n := k) (show 0 < 2 by omega)
 have hle : 2 ^ k ≤ u := by rw [hm]; exact Nat.le_mul_of_pos_right _ (by omega)
 have tb : ∀ j, u.testBit j = (decide (k ≤ j) && (2 * m + 1).testBit (j - k)) := fun j => by
  rw [hm, Nat.testBit_two_pow_mul]
 have e2 : u - 2 ^ k = 2 ^ k * (2 * m) := by rw [hm, Nat.mul_add, Nat.mul_one]; omega
 refine ⟨by rw [tb]; simp, fun j hj => by rw [tb]; simp; omega, hlt, ?_, hle⟩
 apply Nat.eq_of_testBit_eq
 intro j
 rw [Nat.testBit_and, tb j, e2, Nat.testBit_two_pow_mul]
 have e3 : u - 1 = 2 ^ k * (2 * m) + (2 ^ k - 1) := by rw [← e2]; omega
 rw [e3, Nat.testBit_two_pow_mul_add _ (by omega)]
 by_cases hj : j < k
 · rw [if_pos hj]
   have : ¬ k ≤ j := by omega
   simp [this]
 · rw [if_neg hj]
   have hkj : k ≤ j := by omega
   obtain ⟨d, rfl⟩ := Nat.exists_eq_add_of_le hkj
   simp only [Nat.add_sub_cancel_left, hkj, decide_true, Bool.true_and]
   cases d with
   | zero => simp
   | succ d =>
     rw [Nat.testBit_succ, Nat.testBit_succ]
     have e4 : (2 * m + 1) / 2 = m := by omega
     have e5 : 2 * m / 2 = m := by omega
     rw [e4, e5, Bool.and_self]
/-- A word without a bit that it has. -/
theorem drop_bit {u k : Nat} (h : u.testBit k = true) (j : Nat) : (u - 2 ^ k).testBit j = (u.testBit j && decide (j ≠ k)) := by
 rw [Nat.testBit_eq_decide_div_mod_eq, decide_eq_true_eq] at h
 obtain ⟨q, hq⟩ : ∃ q, u / 2 ^ k = 2 * q + 1 := ⟨u / 2 ^ k / 2, by omega⟩
 obtain ⟨r, hr⟩ : ∃ r, u % 2 ^ k = r := ⟨_, rfl⟩
 have hk := Nat.pow_pos (n := k) (show 0 < 2 by omega)
 have hrl : r < 2 ^ k := by rw [← hr]; exact Nat.mod_lt _ hk
 have e : u = 2 ^ k * (2 * q + 1) + r := by rw [← hq, ← hr]; exact (Nat.div_add_mod _ _).symm
 have e2 : u - 2 ^ k = 2 ^ k * (2 * q) + r := by rw [e, Nat.mul_add, Nat.mul_one]; omega
 rw [e2, e, Nat.testBit_two_pow_mul_add _ hrl, Nat.testBit_two_pow_mul_add _ hrl]
 by_cases hj : j < k
 · rw [if_pos hj, if_pos hj]
   have : j ≠ k := by omega
   simp [this]
 · rw [if_neg hj, if_neg hj]
   obtain ⟨d, rfl⟩ := Nat.exists_eq_add_of_le (Nat.le_of_not_lt hj)
   simp only [Nat.add_sub_cancel_left]
   cases d with
   | zero => simp
   | succ d =>
     rw [Nat.testBit_succ, Nat.testBit_succ, show 2 * q / 2 = q by omega, show (2 * q + 1) / 2 = q by omega]
     simp
/-- A word with one bit more. -/
theorem set_bit (u k j : Nat) : (u ||| 2 ^ k).testBit j = (u.testBit j || decide (j = k)) := by
 rw [Nat.testBit_or, Nat.testBit_two_pow]
 by_cases hjk : k = j
 · subst hjk; simp
 · have : j ≠ k := fun e => hjk e.symm
   simp [hjk, this]
end Go.Proofs.YtpgpjjkeginbbaaGreatDoor.WheelR
namespace Go.Proofs.YtpgpjjkeginbbaaGreatDoor.WheelR
open Heap
/-- One thing put elsewhere. -/
def put {β : Type} (f : Nat → β) (o : Nat) (y : β) : Nat → β := fun i => if i = o then y else f i
theorem put_at {β : Type} (f : Nat → β) (o : Nat) (y : β) : put f o y o = y := if_pos rfl
theorem put_ne {β : Type} (f : Nat → β) {o i : Nat} (y : β) (h : i ≠ o) : put f o y i = f i := if_neg h
/-- Where lists lie: by levels and places, and aside. -/
def isRow (o : Nat) : Prop := (o < 715 ∧ o % 65 ≠ 0) ∨ o = 715
instance (o : Nat) : Decidable (isRow o) := inferInstanceAs (Decidable (_ ∨ _))
def rws : List Nat := (List.range 716).filter (fun o => decide (isRow o))
theorem mem_rws {o : Nat} : o ∈ rws ↔ isRow o := by
 unfold rws
 rw [List.mem_filter, List.mem_range, decide_eq_true_eq]
 unfold isRow
 omega
theorem nodup_rws : rws.Nodup := List.Pairwise.filter _ List.nodup_range
theorem isRow_slot {l i : Nat} (hl : l < 11) (hi : i < 64) : isRow (l * 65 + 1 + i) := by unfold isRow; omega
theorem isRow_late : isRow 715 := .inr rfl
theorem isRow_cases {o : Nat} (h : isRow o) : o = 715 ∨ ∃ l i, l < 11 ∧ i < 64 ∧ o = l * 65 + 1 + i := by
 rcases h with ⟨h1, h2⟩ | h
 · exact .inr ⟨o / 65, o % 65 - 1, by omega, by omega, by omega⟩
 · exact .inl h
/-- All that waits. -/
def all (qs : Nat → List En) : List En := rws.flatMap qs
theorem flat_at {L : List Nat} (hn : L.Nodup) {o : Nat} (h : o ∈ L) (qs : Nat → List En) : ∃ r : List En, (L.flatMap qs).Perm (qs o ++ r) ∧ ∀ y, (L.flatMap (put qs o y)).Perm (y ++ r) := by
 induction L with
 | nil => cases h
 | cons a L ih =>
   have hn' := List.nodup_cons.1 hn
   by_cases hao : a = o
   · subst hao
     refine ⟨L.flatMap qs, by rw [List.flatMap_cons], fun y => ?_⟩
     rw [List.flatMap_cons, put_at]
     have e : L.flatMap (put qs a y) = L.flatMap qs := by
      unfold List.flatMap
      congr 1
      exact List.map_congr_left fun x hx => put_ne _ _ (fun e => hn'.1 (e ▸ hx))
     rw [e]
   · have ho : o ∈ L := by
      rcases List.mem_cons.1 h with e | e
      · exact absurd e.symm hao
      · exact e
     obtain ⟨r, h1, h2⟩ := ih hn'.2 ho
     have hc : ∀ y : List En, (qs a ++ (y ++ r)).Perm (y ++ (qs a ++ r)) := fun y => by
      rw [← List.append_assoc, ← List.append_assoc]
      exact List.perm_append_comm.append_right r
     refine ⟨qs a ++ r, ?_, fun y => ?_⟩
     · rw [List.flatMap_cons]
       exact (h1.append_left _).trans (hc _)
     · rw [List.flatMap_cons, put_ne _ _ hao]
       exact ((h2 y).append_left _).trans (hc _)
theorem all_at (qs : Nat → List En) {o : Nat} (h : isRow o) : ∃ r : List En, (all qs).Perm (qs o ++ r) ∧ ∀ y, (all (put qs o y)).Perm (y ++ r) := flat_at nodup_rws (mem_rws.2 h) qs
theorem all_push (qs : Nat → List En) {o : Nat} (h : isRow o) (e : En) : (all (put qs o (qs o ++ [e]))).Perm (e :: all qs) := by
 obtain ⟨r, h1, h2⟩ := all_at qs h
 refine (h2 _).trans ?_
 rw [List.append_assoc]
 refine List.perm_middle.trans ?_
 exact h1.symm.cons e
theorem all_take (qs : Nat → List En) {o : Nat} (h : isRow o) : (qs o ++ all (put qs o [])).Perm (all qs) := by
 obtain ⟨r, h1, h2⟩ := all_at qs h
 have h3 := h2 []
 rw [List.nil_append] at h3
 exact (h3.append_left _).trans h1.symm
theorem mem_all {qs : Nat → List En} {e : En} : e ∈ all qs ↔ ∃ o, isRow o ∧ e ∈ qs o := by
 unfold all
 rw [List.mem_flatMap]
 constructor
 · rintro ⟨o, h1, h2⟩; exact ⟨o, mem_rws.1 h1, h2⟩
 · rintro ⟨o, h1, h2⟩; exact ⟨o, mem_rws.2 h1, h2⟩
theorem all_nil : all (fun _ => []) = [] := by
 unfold all
 exact List.flatMap_eq_nil_iff.2 fun _ _ => rfl
/-- Each lies where it belongs. -/
structure Lies (now : Nat) (qs : Nat → List En) : Prop where
 late : ∀ e ∈ qs 715, e.1 ≤ now
 slot : ∀ l i, l < 11 → i < 64 → ∀ e ∈ qs (l * 65 + 1 + i), Where now e.1 l ∧ plc l e.1 = i
theorem Lies.nil (now : Nat) : Lies now (fun _ => []) := ⟨fun _ h => (List.not_mem_nil h).elim, fun _ _ _ _ _ h => (List.not_mem_nil h).elim⟩
/-- Where an entry is laid. -/
def off (now at' : Nat) : Nat := if at' ≤ now then 715 else lvl now at' * 65 + 1 + plc (lvl now at') at'
theorem off_row {now at' : Nat} (h1 : now ≤ 18446744073709551615) (h2 : at' ≤ 18446744073709551615) : isRow (off now at') := by
 unfold off
 split
 · exact isRow_late
 · exact isRow_slot (by have := lvl_lt h1 h2; omega) (plc_lt _ _)
theorem slot_inj {l i m j : Nat} (hi : i < 64) (hj : j < 64) (h : l * 65 + 1 + i = m * 65 + 1 + j) : l = m ∧ i = j := by omega
theorem Lies.lay {now : Nat} {qs : Nat → List En} (h : Lies now qs) (e : En) (hb : e.1 ≤ 18446744073709551615) : Lies now (put qs (off now e.1) (qs (off now e.1) ++ [e])) := by
 refine ⟨fun x hx => ?_, fun l i hl hi x hx => ?_⟩
 · unfold off at hx
   split at hx
   · rename_i hle
     rw [put_at] at hx
     rcases List.mem_append.1 hx with hx | hx
     · exact h.late x hx
     · simp only [List.mem_singleton] at hx; subst hx; exact hle
   · rename_i hle
     by_cases e9 : 715 = lvl now e.1 * 65 + 1 + plc (lvl now e.1) e.1
     · have := plc_lt (lvl now e.1) e.1; omega
     · rw [put_ne _ _ e9] at hx; exact h.late x hx
 · by_cases e9 : l * 65 + 1 + i = off now e.1
   · rw [e9, put_at] at hx
     rcases List.mem_append.1 hx with hx | hx
     · rw [← e9] at hx; exact h.slot l i hl hi x hx
     · simp only [List.mem_singleton] at hx
       subst hx
       unfold off at e9
       split at e9
       · omega
       · obtain ⟨h1, h2⟩ := slot_inj hi (plc_lt _ _) e9
         subst h1
         exact ⟨where_lvl (by omega) hb, h2.symm⟩
   · rw [put_ne _ _ e9] at hx; exact h.slot l i hl hi x hx
/-- All places up to a time were emptied. -/
def Passed (now now' : Nat) (qs : Nat → List En) : Prop := ∀ l i, l < 11 → i < 64 → (l < lvl now now' ∨ (l = lvl now now' ∧ i ≤ plc l now')) → qs (l * 65 + 1 + i) = []
theorem Lies.pass {now now' : Nat} {qs qs' : Nat → List En} (h : Lies now qs) (hn : now < now') (hb : now' ≤ 18446744073709551615) (hs : ∀ o, qs' o = qs o ∨ qs' o = []) (hp : Passed now now' qs') : Lies now' qs' := by
 have sub : ∀ o, ∀ e ∈ qs' o, e ∈ qs o := fun o e he => by
  rcases hs o with h1 | h1
  · rw [h1] at he; exact he
  · rw [h1] at he; cases he
 refine ⟨fun e he => Nat.le_trans (h.late e (sub _ e he)) (Nat.le_of_lt hn), fun l i hl hi e he => ?_⟩
 obtain ⟨h1, h2⟩ := h.slot l i hl hi e (sub _ e he)
 refine ⟨where_stays h1 hn hb ?_, h2⟩
 rcases Nat.lt_trichotomy l (lvl now now') with h3 | h3 | h3
 · rw [hp l i hl hi (.inl h3)] at he; cases he
 · rcases Nat.lt_or_ge (plc l now') i with h4 | h4
   · exact .inr ⟨h3.symm, by rw [h2]; exact h4⟩
   · rw [hp l i hl hi (.inr ⟨h3, h4⟩)] at he; cases he
 · exact .inl h3
theorem Lies.slot_gt {now : Nat} {qs : Nat → List En} (h : Lies now qs) {o : Nat} (ho : isRow o) (hne : o ≠ 715) : ∀ e ∈ qs o, now < e.1 := fun e he => by
 rcases isRow_cases ho with rfl | ⟨l, i, hl, hi, rfl⟩
 · exact absurd rfl hne
 · exact where_lt (h.slot l i hl hi e he).1
/-- What lies aside is what is due. -/
theorem Lies.due {now : Nat} {qs : Nat → List En} (h : Lies now qs) {s : List En} (hp : s.Perm (all qs)) : (s.filter fun e => decide (e.1 ≤ now)).Perm (qs 715) ∧ (s.filter fun e => decide (now < e.1)).Perm (all (put qs 715 [])) := by
 obtain ⟨r, h1, h2⟩ := all_at qs isRow_late
 have h3 := h2 []
 rw [List.nil_append] at h3
 have hr : ∀ e ∈ r, now < e.1 := fun e he => by
  obtain ⟨o, ho, heo⟩ := mem_all.1 (h3.mem_iff.2 he)
  by_cases e9 : o = 715
  · subst e9; rw [put_at] at heo; cases heo
  · rw [put_ne _ _ e9] at heo; exact h.slot_gt ho e9 e heo
 have hpp := hp.trans h1
 have f1 := hpp.filter (fun e => decide (e.1 ≤ now))
 have f2 := hpp.filter (fun e => decide (now < e.1))
 rw [List.filter_append] at f1 f2
 have a1 : (qs 715).filter (fun e => decide (e.1 ≤ now)) = qs 715 := List.filter_eq_self.2 fun e he => by simp [h.late e he]
 have a2 : r.filter (fun e => decide (e.1 ≤ now)) = [] := List.filter_eq_nil_iff.2 fun e he => by have := hr e he; simp; omega
 have a3 : (qs 715).filter (fun e => decide (now < e.1)) = [] := List.filter_eq_nil_iff.2 fun e he => by have := h.late e he; simp; omega
 have a4 : r.filter (fun e => decide (now < e.1)) = r := List.filter_eq_self.2 fun e he => by simp [hr e he]
 rw [a1, a2, List.append_nil] at f1
 rw [a3, a4, List.nil_append] at f2
 exact ⟨f1, f2.trans h3.symm⟩
/-- The earliest time of entries. -/
def leastOf (L : List En) : Nat := L.foldl (fun m e => min m e.1) 18446744073709551615
theorem foldl_min (L : List En) : ∀ m, L.foldl (fun m e => min m e.1) m ≤ m ∧ (∀ e ∈ L, L.foldl (fun m e => min m e.1) m ≤ e.1) ∧ (L.foldl (fun m e => min m e.1) m = m ∨ ∃ e ∈ L, L.foldl (fun m e => min m e.1) m = e.1) := by
 induction L with
 | nil => exact fun m => ⟨Nat.le_refl _, fun e h => (List.not_mem_nil h).elim, .inl rfl⟩
 | cons a L ih =>
   intro m
   obtain ⟨h1, h2, h3⟩ := ih (min m a.1)
   rw [List.foldl_cons]
   refine ⟨by omega, fun e he => ?_, ?_⟩
   · rcases List.mem_cons.1 he with rfl | he
     · omega
     · exact h2 e he
   · rcases h3 with h3 | ⟨e, he, h3⟩
     · rcases Nat.le_total m a.1 with h4 | h4
       · exact .inl (by rw [h3]; omega)
       · exact .inr ⟨a, List.mem_cons_self .., by rw [h3]; omega⟩
     · exact .inr ⟨e, List.mem_cons_of_mem _ he, h3⟩
theorem leastOf_eq {L : List En} {a : En} (ha : a ∈ L) (hm : ∀ e ∈ L, a.1 ≤ e.1) (hb : a.1 ≤ 18446744073709551615) : leastOf L = a.1 := by
 obtain ⟨_, h2, h3⟩ := foldl_min L 18446744073709551615
 have h4 := h2 a ha
 unfold leastOf
 rcases h3 with h3 | ⟨e, he, h3⟩
 · omega
 · have := hm e he; omega
theorem head_le {a : En} {s : List En} (ho : (a :: s).Pairwise (fun a b => ahd a b = true)) : ∀ e ∈ a :: s, a.1 ≤ e.1 := fun e he => by
 rcases List.mem_cons.1 he with rfl | he
 · exact Nat.le_refl _
 · have := ahd_iff.1 ((List.pairwise_cons.1 ho).1 e he); omega
/-- The earliest of all lies aside, if anything does. -/
theorem Lies.least_late {now : Nat} {qs : Nat → List En} (h : Lies now qs) {a : En} {s : List En} (hp : (a :: s).Perm (all qs)) (ho : (a :: s).Pairwise (fun a b => ahd a b = true)) (hb : a.1 ≤ 18446744073709551615) (hne : qs 715 ≠ []) : leastOf (qs 715) = a.1 := by
 have hall : ∀ e ∈ qs 715, a.1 ≤ e.1 := fun e he => head_le ho e (hp.mem_iff.2 (mem_all.2 ⟨715, isRow_late, he⟩))
 refine leastOf_eq ?_ hall hb
 obtain ⟨o, hr, hao⟩ := mem_all.1 (hp.mem_iff.1 (List.mem_cons_self ..))
 by_cases e9 : o = 715
 · subst e9; exact hao
 · have h1 := h.slot_gt hr e9 a hao
   cases hq : qs 715 with
   | nil => exact absurd hq hne
   | cons x r =>
     have hx : x ∈ qs 715 := by rw [hq]; exact List.mem_cons_self ..
     have := h.late x hx
     have := hall x hx
     omega
/-- Else it lies in the first place that is not empty. -/
theorem Lies.least_slot {now : Nat} {qs : Nat → List En} (h : Lies now qs) {a : En} {s : List En} (hp : (a :: s).Perm (all qs)) (ho : (a :: s).Pairwise (fun a b => ahd a b = true)) (hb : a.1 ≤ 18446744073709551615) (hl : qs 715 = [])
 {l i : Nat} (hl11 : l < 11) (hi64 : i < 64) (hne : qs (l * 65 + 1 + i) ≠ []) (hlow : ∀ m j, m < l → j < 64 → qs (m * 65 + 1 + j) = []) (hlow2 : ∀ j, j < i → qs (l * 65 + 1 + j) = []) : leastOf (qs (l * 65 + 1 + i)) = a.1 := by
 have hall : ∀ e ∈ qs (l * 65 + 1 + i), a.1 ≤ e.1 := fun e he => head_le ho e (hp.mem_iff.2 (mem_all.2 ⟨_, isRow_slot hl11 hi64, he⟩))
 refine leastOf_eq ?_ hall hb
 obtain ⟨o, hr, hao⟩ := mem_all.1 (hp.mem_iff.1 (List.mem_cons_self ..))
 rcases isRow_cases hr with rfl | ⟨m, j, hm, hj, rfl⟩
 · rw [hl] at hao; cases hao
 · by_cases e9 : m = l ∧ j = i
   · obtain ⟨rfl, rfl⟩ := e9; exact hao
   · exfalso
     have hgt : l < m ∨ (l = m ∧ i < j) := by
      rcases Nat.lt_trichotomy m l with h1 | h1 | h1
      · rw [hlow m j h1 hj] at hao; cases hao
      · subst h1
        rcases Nat.lt_trichotomy j i with h2 | h2 | h2
        · rw [hlow2 j h2] at hao; cases hao
        · exact absurd ⟨rfl, h2⟩ e9
        · exact .inr ⟨rfl, h2⟩
      · exact .inl h1
     cases hq : qs (l * 65 + 1 + i) with
     | nil => exact hne hq
     | cons x r =>
       have hx : x ∈ qs (l * 65 + 1 + i) := by rw [hq]; exact List.mem_cons_self ..
       obtain ⟨w1, p1⟩ := h.slot l i hl11 hi64 x hx
       obtain ⟨w2, p2⟩ := h.slot m j hm hj a hao
       have h9 := where_ahead w1 w2 (by rcases hgt with h1 | ⟨h1, h2⟩; exact .inl h1; exact .inr ⟨h1, by subst h1; rw [p1, p2]; exact h2⟩)
       have := hall x hx
       omega
end Go.Proofs.YtpgpjjkeginbbaaGreatDoor.WheelR
namespace Go.Proofs.YtpgpjjkeginbbaaGreatDoor.WheelR
open Go.RowKit Heap
/-- A wheel's own blocks. -/
def Own (b : Nat) (vs : Nat → Value) (k : Nat) : Prop := k = b ∨ ∃ o, isRow o ∧ (vs o).ownBlock = some k
/-- An entry's cells. -/
def KR (x : Ri) : List Value := [.int .i64 (x.1 : Nat), .int .u64 (x.2 : Nat)]
theorem wid (x : Ri) : (KR x).length + 2 = 4 := rfl
/-- An entry's cells. -/
def ec (e : En) : List Value := HeapW.ent KR e
abbrev es (l : List En) : List Value := HeapW.ents KR l
theorem es_snoc (l : List En) (e : En) : es (l ++ [e]) = es l ++ ec e := by unfold es; rw [HeapW.ents_append, HeapW.ents_one]; rfl
/-- The wheel at b: its numbers, and what lies in its places. -/
structure WIn (TW TE : TypeId) (A : Nat → Prop) (w0 w : World) (b now came room n : Nat) (vs : Nat → Value) (qs : Nat → List En) (us : Nat → Nat) : Prop where
 cur : ∃ c : Array Value, Blk w b c TW ∧ c.size = 720 ∧ (∀ l, l < 11 → c[l * 65]? = some (.int .u64 (us l : Nat))) ∧ (∀ o, isRow o → c[o]? = some (vs o)) ∧ c[716]? = some (.int .u64 now) ∧ c[717]? = some (.int .u64 came) ∧ c[718]? = some (.int .i64 n) ∧ c[719]? = some (.int .i64 room)
 row : ∀ o, isRow o → w.ownsRow 0 TE 4 (vs o) (qs o).length (es (qs o))
 ap : ∀ o o', isRow o → isRow o' → o ≠ o' → ∀ k, (vs o).ownBlock = some k → (vs o').ownBlock ≠ some k
 nb : ∀ o, isRow o → (vs o).ownBlock ≠ some b
 far : ∀ k, Own b vs k → w0.heap.size ≤ k ∧ ¬ A k
section
variable {TW TE : TypeId} {A A' : Nat → Prop} {w0 w w' wx w1 : World} {b now came room n : Nat} {vs : Nat → Value} {qs : Nat → List En} {us : Nat → Nat}
theorem WIn.lt (h : WIn TW TE A w0 w b now came room n vs qs us) : b < w.heap.size := by obtain ⟨c, h1, _⟩ := h.cur; exact h1.lt
theorem WIn.lts (h : WIn TW TE A w0 w b now came room n vs qs us) {k : Nat} (hk : Own b vs k) : k < w.heap.size := by
 rcases hk with rfl | ⟨o, ho, hk⟩
 · exact h.lt
 · exact ((h.row o ho).lt k hk).2
theorem WIn.low (h : WIn TW TE A w0 w b now came room n vs qs us) : w0.heap.size ≤ w.heap.size := by have := (h.far b (.inl rfl)).1; have := h.lt; omega
theorem WIn.at_used (h : WIn TW TE A w0 w b now came room n vs qs us) {l : Nat} (hl : l < 11) : w.cell? ⟨b, l * 65, none⟩ = some (.int .u64 (us l : Nat)) ∧ w.frozen? ⟨b, l * 65, none⟩ = false := by
 obtain ⟨c, h1, _, h2, _⟩ := h.cur; exact ⟨h1.cellAt (h2 l hl), h1.free _⟩
theorem WIn.at_row (h : WIn TW TE A w0 w b now came room n vs qs us) {o : Nat} (ho : isRow o) : w.cell? ⟨b, o, none⟩ = some (vs o) ∧ w.frozen? ⟨b, o, none⟩ = false := by
 obtain ⟨c, h1, _, _, h2, _⟩ := h.cur; exact ⟨h1.cellAt (h2 o ho), h1.free _⟩
theorem WIn.at_nums (h : WIn TW TE A w0 w b now came room n vs qs us) : w.cell? ⟨b, 716, none⟩ = some (.int .u64 now) ∧ w.cell? ⟨b, 717, none⟩ = some (.int .u64 came) ∧ w.cell? ⟨b, 718, none⟩ = some (.int .i64 n) ∧ w.cell? ⟨b, 719, none⟩ = some (.int .i64 room) ∧ ∀ i, w.frozen? ⟨b, i, none⟩ = false := by
 obtain ⟨c, h1, _, _, _, h2, h3, h4, h5⟩ := h.cur; exact ⟨h1.cellAt h2, h1.cellAt h3, h1.cellAt h4, h1.cellAt h5, fun _ => h1.free _⟩
theorem WIn.kept (h : WIn TW TE A w0 w b now came room n vs qs us) {S : Nat → Prop} (hu : Upd S w w') (hS : ∀ k, S k → k < w.heap.size → A k ∨ k < w0.heap.size) : WIn TW TE A w0 w' b now came room n vs qs us := by
 have hno : ∀ k, Own b vs k → ¬ S k := fun k hk hs => by
  rcases hS k hs (h.lts hk) with h1 | h1
  · exact (h.far k hk).2 h1
  · exact absurd (h.far k hk).1 (Nat.not_le.2 h1)
 obtain ⟨c, h1, h2⟩ := h.cur
 exact ⟨⟨c, h1.kept hu (hno b (.inl rfl)), h2⟩, fun o ho => ownsRow_upd (h.row o ho) hu (fun k hk => hno k (.inr ⟨o, ho, hk⟩)), h.ap, h.nb, h.far⟩
theorem WIn.old (h : WIn TW TE A w0 w b now came room n vs qs us) (hu : Upd Nowhere w w') : WIn TW TE A w0 w' b now came room n vs qs us := h.kept hu (fun _ h _ => h.elim)
theorem WIn.re (h : WIn TW TE A w0 w b now came room n vs qs us) (hA : ∀ k, A' k → A k ∨ w.heap.size ≤ k) : WIn TW TE A' w0 w b now came room n vs qs us :=
 ⟨h.cur, h.row, h.ap, h.nb, fun k hk => ⟨(h.far k hk).1, fun h1 => (hA k h1).elim (h.far k hk).2 (fun h2 => Nat.not_le.2 (h.lts hk) h2)⟩⟩
/-- A step that writes into the wheel's block alone. -/
theorem upd_blk (a : Addr) (v : Value) : Upd (fun k => k = a.block) w (w.setCell a v) := Upd.setCell (S := fun k => k = a.block) (a := a) (Upd.refl _ _) (fun _ => rfl) v
theorem WIn.setUsed (h : WIn TW TE A w0 w b now came room n vs qs us) {l : Nat} (hl : l < 11) (x : Nat) : WIn TW TE A w0 (w.setCell ⟨b, l * 65, none⟩ (.int .u64 (x : Nat))) b now came room n vs qs (put us l x) := by
 obtain ⟨c, h1, h2, h3, h4, h5, h6, h7, h8⟩ := h.cur
 have hu := upd_blk (w := w) ⟨b, l * 65, none⟩ (.int .u64 (x : Nat))
 have hne : ∀ i, i ≠ l * 65 → (c.setIfInBounds (l * 65) (.int .u64 (x : Nat)))[i]? = c[i]? := fun i hi => Array.getElem?_setIfInBounds_ne (Ne.symm hi)
 refine ⟨⟨_, h1.set _ _, by simpa using h2, fun m hm => ?_, fun o ho => ?_, ?_, ?_, ?_, ?_⟩, fun o ho => ownsRow_upd (h.row o ho) hu (fun k hk e => h.nb o ho (by rw [hk, e])), h.ap, h.nb, h.far⟩
 · by_cases e : m = l
   · subst e; rw [put_at]; exact Array.getElem?_setIfInBounds_self_of_lt (by omega)
   · rw [put_ne _ _ e, hne _ (by omega)]; exact h3 m hm
 · rw [hne _ (by unfold isRow at ho; omega)]; exact h4 o ho
 · rw [hne _ (by omega)]; exact h5
 · rw [hne _ (by omega)]; exact h6
 · rw [hne _ (by omega)]; exact h7
 · rw [hne _ (by omega)]; exact h8
theorem WIn.setNow (h : WIn TW TE A w0 w b now came room n vs qs us) (x : Nat) : WIn TW TE A w0 (w.setCell ⟨b, 716, none⟩ (.int .u64 (x : Nat))) b x came room n vs qs us := by
 obtain ⟨c, h1, h2, h3, h4, h5, h6, h7, h8⟩ := h.cur
 have hu := upd_blk (w := w) ⟨b, 716, none⟩ (.int .u64 (x : Nat))
 have hne : ∀ i, i ≠ 716 → (c.setIfInBounds 716 (.int .u64 (x : Nat)))[i]? = c[i]? := fun i hi => Array.getElem?_setIfInBounds_ne (Ne.symm hi)
 exact ⟨⟨_, h1.set _ _, by simpa using h2, fun m hm => by rw [hne _ (by omega)]; exact h3 m hm, fun o ho => by rw [hne _ (by unfold isRow at ho; omega)]; exact h4 o ho, Array.getElem?_setIfInBounds_self_of_lt (by omega), by rw [hne _ (by omega)]; exact h6, by rw [hne _ (by omega)]; exact h7, by rw [hne _ (by omega)]; exact h8⟩, fun o ho => ownsRow_upd (h.row o ho) hu (fun k hk e => h.nb o ho (by rw [hk, e])), h.ap, h.nb, h.far⟩
theorem WIn.setCame (h : WIn TW TE A w0 w b now came room n vs qs us) (x : Nat) : WIn TW TE A w0 (w.setCell ⟨b, 717, none⟩ (.int .u64 (x : Nat))) b now x room n vs qs us := by
 obtain ⟨c, h1, h2, h3, h4, h5, h6, h7, h8⟩ := h.cur
 have hu := upd_blk (w := w) ⟨b, 717, none⟩ (.int .u64 (x : Nat))
 have hne : ∀ i, i ≠ 717 → (c.setIfInBounds 717 (.int .u64 (x : Nat)))[i]? = c[i]? := fun i hi => Array.getElem?_setIfInBounds_ne (Ne.symm hi)
 exact ⟨⟨_, h1.set _ _, by simpa using h2, fun m hm => by rw [hne _ (by omega)]; exact h3 m hm, fun o ho => by rw [hne _ (by unfold isRow at ho; omega)]; exact h4 o ho, by rw [hne _ (by omega)]; exact h5, Array.getElem?_setIfInBounds_self_of_lt (by omega), by rw [hne _ (by omega)]; exact h7, by rw [hne _ (by omega)]; exact h8⟩, fun o ho => ownsRow_upd (h.row o ho) hu (fun k hk e => h.nb o ho (by rw [hk, e])), h.ap, h.nb, h.far⟩
theorem WIn.setN (h : WIn TW TE A w0 w b now came room n vs qs us) (x : Nat) : WIn TW TE A w0 (w.setCell ⟨b, 718, none⟩ (.int .i64 (x : Nat))) b now came room x vs qs us := by
 obtain ⟨c, h1, h2, h3, h4, h5, h6, h7, h8⟩ := h.cur
 have hu := upd_blk (w := w) ⟨b, 718, none⟩ (.int .i64 (x : Nat))
 have hne : ∀ i, i ≠ 718 → (c.setIfInBounds 718 (.int .i64 (x : Nat)))[i]? = c[i]? := fun i hi => Array.getElem?_setIfInBounds_ne (Ne.symm hi)
 exact ⟨⟨_, h1.set _ _, by simpa using h2, fun m hm => by rw [hne _ (by omega)]; exact h3 m hm, fun o ho => by rw [hne _ (by unfold isRow at ho; omega)]; exact h4 o ho, by rw [hne _ (by omega)]; exact h5, by rw [hne _ (by omega)]; exact h6, Array.getElem?_setIfInBounds_self_of_lt (by omega), by rw [hne _ (by omega)]; exact h8⟩, fun o ho => ownsRow_upd (h.row o ho) hu (fun k hk e => h.nb o ho (by rw [hk, e])), h.ap, h.nb, h.far⟩
/-- A list is laid anew at a place: the others stand, its own blocks are no other's. -/
theorem WIn.setRow (h : WIn TW TE A w0 w b now came room n vs qs us) {S : Nat → Prop} (hu : Upd S w w1) {o : Nat} (ho : isRow o) {v' : Value} {q' : List En} (hS : ∀ k, k < w.heap.size → S k → (vs o).ownBlock = some k)
 (hr : w1.ownsRow 0 TE 4 v' q'.length (es q')) (hv : ∀ k, v'.ownBlock = some k → (vs o).ownBlock = some k ∨ w.heap.size ≤ k) (hA : ∀ k, A k → k < w.heap.size) :
 WIn TW TE A w0 (w1.setCell ⟨b, o, none⟩ v') b now came room n (put vs o v') (put qs o q') us := by
 have hb : ¬ S b := fun e => h.nb o ho (hS b h.lt e)
 obtain ⟨c, h1, h2, h3, h4, h5, h6, h7, h8⟩ := h.cur
 have hu2 := upd_blk (w := w1) ⟨b, o, none⟩ v'
 have hne : ∀ i, i ≠ o → (c.setIfInBounds o v')[i]? = c[i]? := fun i hi => Array.getElem?_setIfInBounds_ne (Ne.symm hi)
 have hob : ∀ k, v'.ownBlock = some k → k ≠ b := fun k hk e => by
  subst e
  rcases hv k hk with h9 | h9
  · exact h.nb o ho h9
  · have := h.lt; omega
 have hx : o ≠ 716 ∧ o ≠ 717 ∧ o ≠ 718 ∧ o ≠ 719 := by unfold isRow at ho; omega
 refine ⟨⟨_, (h1.kept hu hb).set _ _, by simpa using h2, fun m hm => ?_, fun p hp => ?_, ?_, ?_, ?_, ?_⟩, fun p hp => ?_, fun p p' hp hp' hpp k hk => ?_, fun p hp => ?_, fun k hk => ?_⟩
 · rw [hne _ (by unfold isRow at ho; omega)]; exact h3 m hm
 · by_cases e : p = o
   · subst e; rw [put_at]; exact Array.getElem?_setIfInBounds_self_of_lt (by unfold isRow at ho; omega)
   · rw [put_ne _ _ e, hne _ e]; exact h4 p hp
 · rw [hne _ (Ne.symm hx.1)]; exact h5
 · rw [hne _ (Ne.symm hx.2.1)]; exact h6
 · rw [hne _ (Ne.symm hx.2.2.1)]; exact h7
 · rw [hne _ (Ne.symm hx.2.2.2)]; exact h8
 · by_cases e : p = o
   · subst e; rw [put_at, put_at]; exact ownsRow_upd hr hu2 (fun k hk => hob k hk)
   · rw [put_ne _ _ e, put_ne _ _ e]
     exact ownsRow_upd (ownsRow_upd (h.row p hp) hu (fun k hk hs => h.ap p o hp ho e k hk (hS k ((h.row p hp).lt k hk).2 hs))) hu2 (fun k hk e9 => h.nb p hp (by rw [hk, e9]))
 · by_cases e : p = o
   · subst e
     rw [put_at] at hk
     rw [put_ne _ _ (Ne.symm hpp)]
     intro hk'
     rcases hv k hk with h9 | h9
     · exact h.ap p p' hp hp' hpp k h9 hk'
     · have := ((h.row p' hp').lt k hk').2; omega
   · rw [put_ne _ _ e] at hk
     by_cases e' : p' = o
     · subst e'
       rw [put_at]
       intro hk'
       rcases hv k hk' with h9 | h9
       · exact h.ap p p' hp hp' hpp k hk h9
       · have := ((h.row p hp).lt k hk).2; omega
     · rw [put_ne _ _ e']; exact h.ap p p' hp hp' hpp k hk
 · by_cases e : p = o
   · subst e; rw [put_at]; exact fun hk => hob b hk rfl
   · rw [put_ne _ _ e]; exact h.nb p hp
 · rcases hk with rfl | ⟨p, hp, hk⟩
   · exact h.far k (.inl rfl)
   · by_cases e : p = o
     · subst e
       rw [put_at] at hk
       rcases hv k hk with h9 | h9
       · exact h.far k (.inr ⟨p, hp, h9⟩)
       · exact ⟨Nat.le_trans h.low h9, fun h8 => Nat.not_le.2 (hA k h8) h9⟩
     · rw [put_ne _ _ e] at hk; exact h.far k (.inr ⟨p, hp, hk⟩)
end
end Go.Proofs.YtpgpjjkeginbbaaGreatDoor.WheelR
namespace Go.Proofs.YtpgpjjkeginbbaaGreatDoor.WheelR
open Go.RowKit Go.Proofs BigFrame Heap
set_option maxHeartbeats 4000000
set_option maxRecDepth 1000000
abbrev TW : TypeId := 197
abbrev TE : TypeId := 282
theorem spot_any (now at' : Nat) (h : now < at') (hb : at' ≤ 18446744073709551615) (w : World) :
 Calls Tryz.prog 136 #[.int .u64 now, .int .u64 at'] w fun e w' => e = .returned (.tuple #[.int .i64 (lvl now at' : Nat), .int .i64 (plc (lvl now at') at' : Nat)]) ∧ ∃ k, w' = w.drewN k := by
 have hx : now ^^^ at' < 18446744073709551616 := Nat.xor_lt_two_pow (n := 64) (by omega) (by omega)
 have HL := fun u => Lib.hid (Bits.len64 ((now ^^^ at' : Nat) : Int) u (by omega) (by omega))
 have ex := bits_xor_u64_nat now at' (by omega) (by omega)
 obtain ⟨h0, h2, h1⟩ := len_bounds h hb
 have hl10 := lvl_lt (now := now) (at' := at') (by omega) hb
 obtain ⟨x, hxx⟩ : ∃ x, now ^^^ at' = x := ⟨_, rfl⟩
 obtain ⟨l, hl⟩ : ∃ l, lvl now at' = l := ⟨_, rfl⟩
 rw [hl] at hl10 ⊢
 unfold lvl at hl
 rw [hxx] at HL ex h0 hl hx
 have hle := Bits.bitLen_le x hx
 have en : (x : Int).toNat = x := Int.toNat_natCast x
 obtain ⟨L, hL⟩ : ∃ L, Lib.bitLen x = L := ⟨_, rfl⟩
 have HLe : ∀ u, Hid (Calls Tryz.prog 156 #[.int .u64 (x : Int)] u fun e w' => e = .returned (.int .i64 (L : Nat)) ∧ u = w') := fun u => Lib.hid (by have h9 := (HL u).out; rw [en, hL] at h9; exact h9)
 rw [hL] at h0 hl hle
 clear HL hL hxx h1 h2
 obtain ⟨L1, hL1⟩ : ∃ L1, L - 1 = L1 := ⟨_, rfl⟩
 rw [hL1] at hl
 have e1 : IntKind.i64.wrap ((L : Int) - 1) = (L1 : Int) := by rw [IntKind.wrap_i64]; omega
 have e2 : (L1 : Int).tdiv 6 = (l : Int) := by rw [Int.tdiv_eq_ediv_of_nonneg (by omega)]; omega
 have e3 : (L1 : Int) / 6 = (l : Int) := by omega
 obtain ⟨s, hs⟩ : ∃ s, 6 * l = s := ⟨_, rfl⟩
 have e4 : IntKind.i64.wrap (6 * (l : Int)) = (s : Int) := by rw [IntKind.wrap_i64]; omega
 have e5 : IntKind.i64.wrap (l : Int) = (l : Int) := by rw [IntKind.wrap_i64]; omega
 obtain ⟨y, hy⟩ : ∃ y, at' / 2 ^ s = y := ⟨_, rfl⟩
 obtain ⟨p, hp, hp64⟩ : ∃ p, y % 64 = p ∧ p < 64 := ⟨_, rfl, by omega⟩
 have e6 : (at' : Int) / 2 ^ s = (y : Int) := by rw [← hy]; push_cast; rfl
 have e7 : (y : Int).tmod 64 = (p : Int) := by rw [Int.tmod_eq_emod_of_nonneg (by omega)]; omega
 have e8 : IntKind.i64.wrap (p : Int) = (p : Int) := by rw [IntKind.wrap_i64]; omega
 have ep : plc l at' = p := by unfold plc; rw [← pow6, hs, hy, hp]
 rw [ep]
 clear hL1 hle hy hp ep
 go_enter Tryz.func136, Tryz.ntmps136
 go_wp2_with fail
 refine ((HLe _).out).mono ?_
 rintro e w' ⟨rfl, rfl⟩
 go_wp2_with fail
 go_quiet (fail)
 go_wp2_with fail
 go_ret2
 exact ⟨rfl, nq, rfl⟩
/-- A wheel's cells, when it is made. -/
def zv (o : Nat) : Value := if isRow o then .slice none 0 0 else if o < 718 then .int .u64 0 else .int .i64 0
theorem zeros : Tryz.zeroCells197 = ((List.range 720).map zv).toArray := by kernel_rfl
theorem zeros_at {o : Nat} (h : o < 720) : Tryz.zeroCells197[o]? = some (zv o) := by
 rw [zeros, List.getElem?_toArray, List.getElem?_map, List.getElem?_range h]; rfl
theorem zeros_size : Tryz.zeroCells197.size = 720 := by rw [zeros]; simp
theorem new_in (room : Nat) (w : World) : WIn TW TE (fun _ => False) w (w.alloc (.cells (Tryz.zeroCells197.setIfInBounds 719 (.int .i64 room)) TW)) w.heap.size 0 0 room 0 (fun _ => .slice none 0 0) (fun _ => []) (fun _ => 0) := by
 have hne : ∀ i, i < 719 → (Tryz.zeroCells197.setIfInBounds 719 (.int .i64 room))[i]? = some (zv i) := fun i hi => by
  rw [Array.getElem?_setIfInBounds_ne (by omega), zeros_at (by omega)]
 refine ⟨⟨_, Blk.new _ _ _, by rw [Array.size_setIfInBounds]; exact zeros_size, fun l hl => ?_, fun o ho => ?_, ?_, ?_, ?_, ?_⟩, fun o _ => ownsRow_nil _ _ _ _, fun o o' _ _ _ k hk => by simp [Value.ownBlock] at hk, fun o _ hk => by simp [Value.ownBlock] at hk, fun k hk => ⟨?_, id⟩⟩
 · rw [hne _ (by omega)]; unfold zv; rw [if_neg (by unfold isRow; omega), if_pos (by omega)]; rfl
 · have ho2 := ho
   unfold isRow at ho2
   rw [hne _ (by omega)]; unfold zv; rw [if_pos ho]
 · rw [hne _ (by omega)]; rfl
 · rw [hne _ (by omega)]; rfl
 · rw [hne _ (by omega)]; rfl
 · exact Array.getElem?_setIfInBounds_self_of_lt (by rw [zeros_size]; omega)
 · rcases hk with rfl | ⟨o, _, hk⟩
   · exact Nat.le_refl _
   · simp [Value.ownBlock] at hk
theorem new_good (room : Nat) (h1 : 1 ≤ room) (h2 : room ≤ 4096) (w : World) :
 Calls Tryz.prog 27 #[.int .i64 room] w fun e w' => e = .returned (.tuple #[.pointer (some ⟨w.heap.size, 0, none⟩), .int .i64 0]) ∧ WIn TW TE (fun _ => False) w w' w.heap.size 0 0 room 0 (fun _ => .slice none 0 0) (fun _ => []) (fun _ => 0) ∧ Upd Nowhere w w' := by
 have d1 : decide ((room : Int) < 1) = false := decide_eq_false (by omega)
 have d2 : decide ((room : Int) > 4096) = false := decide_eq_false (by omega)
 have d3 : decide (4096 < (room : Int)) = false := decide_eq_false (by omega)
 have d4 : decide (4096 < room) = false := decide_eq_false (by omega)
 go_enter Tryz.func27, Tryz.ntmps27
 go_wp2_with fail
 go_ret2
 exact ⟨rfl, new_in room w, (Upd.refl _ _).alloc _⟩
end Go.Proofs.YtpgpjjkeginbbaaGreatDoor.WheelR
namespace Go.Proofs.YtpgpjjkeginbbaaGreatDoor.WheelR
open Go.RowKit Go.Proofs BigFrame Heap
set_option maxHeartbeats 4000000
set_option maxRecDepth 1000000
theorem andNot_u64_nat (a b : Nat) (ha : a < 18446744073709551616) (hb : b < 18446744073709551616) : bits .andNot .u64 (a : Int) (b : Int) = ((a &&& (18446744073709551615 - b) : Nat) : Int) := by
 have hx : a &&& (18446744073709551615 - b) < 2 ^ 64 := Nat.and_lt_two_pow _ (by omega)
 have o1 : (BitVec.ofInt 64 (a : Int)).toNat = a := by rw [BitVec.ofInt_natCast, BitVec.toNat_ofNat]; exact Nat.mod_eq_of_lt (by omega)
 have o2 : (BitVec.ofInt 64 (b : Int)).toNat = b := by rw [BitVec.ofInt_natCast, BitVec.toNat_ofNat]; exact Nat.mod_eq_of_lt (by omega)
 show IntKind.u64.wrap ((BitVec.ofInt 64 (a : Int) &&& ~~~BitVec.ofInt 64 (b : Int)).toNat : Int) = _
 rw [BitVec.toNat_and, BitVec.toNat_not, o1, o2, IntKind.wrap_u64]
 have e : 2 ^ 64 - 1 - b = 18446744073709551615 - b := by omega
 rw [e]
 omega
theorem andNot_bit {u i : Nat} (hi : i < 64) (hu : u < 2 ^ 64) (h : u.testBit i = true) : u &&& (18446744073709551615 - 2 ^ i) = u - 2 ^ i := by
 apply Nat.eq_of_testBit_eq
 intro j
 rw [Nat.testBit_and, drop_bit h]
 by_cases hj : j < 64
 · have e : (18446744073709551615 - 2 ^ i).testBit j = decide (j ≠ i) := by
    have h1 : (18446744073709551615 : Nat) = 2 ^ 64 - 1 := by omega
    have h2 : (2 ^ 64 - 1).testBit i = true := by rw [Nat.testBit_two_pow_sub_one]; simp [hi]
    rw [h1, drop_bit h2, Nat.testBit_two_pow_sub_one]
    simp [hj]
   rw [e]
 · have e : u.testBit j = false := Nat.testBit_lt_two_pow (Nat.lt_of_lt_of_le hu (Nat.pow_le_pow_right (by omega) (by omega)))
   rw [e]; simp
theorem upd_at (w : World) (b o : Nat) (v : Value) : Upd (fun k => k = b) w (w.setCell ⟨b, o, none⟩ v) := upd_blk ⟨b, o, none⟩ v
theorem take_any {A : Nat → Prop} {w0 w : World} {b now came room n : Nat} {vs : Nat → Value} {qs : Nat → List En} {us : Nat → Nat} (h : WIn TW TE A w0 w b now came room n vs qs us) (hA : ∀ k, A k → k < w.heap.size) {l i : Nat} (hl : l < 11) (hi : i < 64) (hu : us l < 2 ^ 64) (hb : (us l).testBit i = true) :
 Calls Tryz.prog 137 #[.pointer (some ⟨b, 0, none⟩), .int .i64 l, .int .i64 i] w fun e w' => e = .returned (vs (l * 65 + 1 + i)) ∧
  WIn TW TE A w0 w' b now came room n (put vs (l * 65 + 1 + i) (.slice none 0 0)) (put qs (l * 65 + 1 + i) []) (put us l (us l - 2 ^ i)) ∧ Upd (fun k => k = b) w w' := by
 have ho := isRow_slot hl hi
 obtain ⟨c0, z0⟩ := h.at_row ho
 obtain ⟨c1, z1⟩ := h.at_used hl
 obtain ⟨v, hv⟩ : ∃ v, vs (l * 65 + 1 + i) = v := ⟨_, rfl⟩
 obtain ⟨u, hu'⟩ : ∃ u, us l = u := ⟨_, rfl⟩
 obtain ⟨u2, hu2⟩ : ∃ u2, u - 2 ^ i = u2 := ⟨_, rfl⟩
 rw [hu'] at hu hb c1 ⊢
 rw [hv] at c0 ⊢
 rw [hu2]
 have hp : 2 ^ i < 18446744073709551616 := Nat.lt_of_lt_of_eq (Nat.pow_lt_pow_right (a := 2) (by omega) hi) (by decide)
 obtain ⟨B, hB⟩ : ∃ B, 2 ^ i = B := ⟨_, rfl⟩
 have hb2 := andNot_bit hi hu hb
 rw [hB] at hp hu2 hb2
 have es : IntKind.u64.wrap ((2 : Int) ^ i) = (B : Int) := by
  have e9 : (2 : Int) ^ i = (B : Int) := by rw [← hB]; push_cast; rfl
  rw [e9, IntKind.wrap_u64]; omega
 have ea : bits .andNot .u64 (u : Int) (B : Int) = (u2 : Int) := by rw [andNot_u64_nat u B (by omega) hp, hb2, hu2]
 have p1 : (l : Int) < 11 := by omega
 have p2 : (i : Int) < 64 := by omega
 have H := Lib.hid h
 have HU0 := Lib.hid hu'
 clear h hb hb2 hB hu' hv hu2
 go_enter Tryz.func137, Tryz.ntmps137
 go_wp2_with fail
 have h1 := H.out.setRow (Upd.refl Nowhere w) ho (v' := .slice none 0 0) (q' := []) (fun _ _ hs => hs.elim) (ownsRow_nil _ _ _ _) (fun k hk => by simp [Value.ownBlock] at hk) hA
 have hu1 : Upd (fun k => k = b) w (w.setCell ⟨b, l * 65 + 1 + i, none⟩ (.slice none 0 0)) := upd_at _ _ _ _
 obtain ⟨w1, hw1⟩ : ∃ w1, w.setCell ⟨b, l * 65 + 1 + i, none⟩ (.slice none 0 0) = w1 := ⟨_, rfl⟩
 rw [hw1] at h1 hu1 ⊢
 obtain ⟨c2, z2⟩ := h1.at_used hl
 rw [HU0.out] at c2
 have H1 := Lib.hid h1
 have HU1 := Lib.hid hu1
 clear h1 hu1 c0 z0 c1 z1 hw1
 refine wp_region_tail 14 (by kernel_rfl) (by kernel_rfl) ?_
 simp only [List.take_succ_cons, List.take_zero, List.drop_succ_cons, List.drop_zero]
 repeat (go_big_quiet_step (fail))
 refine wpQuiet_nil ?_
 rintro _ ⟨nq, rfl⟩
 go_wp2
 refine Stage.out ?_
 go_wp2_with fail
 go_ret
 refine ⟨rfl, (H1.out.old ((Upd.refl Nowhere w1).drewN nq)).setUsed hl u2, (HU1.out.drewN nq).trans (upd_at _ _ _ _) (fun _ _ h => h)⟩
end Go.Proofs.YtpgpjjkeginbbaaGreatDoor.WheelR
namespace Go.Proofs.YtpgpjjkeginbbaaGreatDoor.WheelR
open Go.RowKit Go.Proofs BigFrame Heap
set_option maxHeartbeats 4000000
set_option maxRecDepth 1000000
abbrev Z : Value := .agg #[.int .u64 0, .int .u64 0, .int .i64 0, .int .u64 0]
theorem infoE : (Tryz.prog.info? TE).map (fun i => (i.zero, i.size, i.bytes)) = some (some Z, 4, 32) := by kernel_rfl
/-- An entry, as a value. -/
abbrev V (e : En) : Value := .agg #[.int .u64 (e.1 : Nat), .int .u64 (e.2.1 : Nat), .int .i64 (e.2.2.1 : Nat), .int .u64 (e.2.2.2 : Nat)]
theorem form6 {w : World} {v : Value} {n : Nat} {xs : List Value} (h : w.ownsRow 0 TE 4 v (n + 1) xs) : ∃ g c, v = .slice (some ⟨g, 0, none⟩) (n + 1) c := by
 rcases h.2 with ⟨_, h0⟩ | ⟨g, c, cur, rfl, _⟩
 · omega
 · exact ⟨g, c, rfl⟩
theorem form0 {w : World} {v : Value} {n : Nat} {xs : List Value} (h : w.ownsRow 0 TE 4 v n xs) : ∃ ad c, v = .slice ad n c := by
 rcases h.2 with ⟨rfl, h0⟩ | ⟨g, c, cur, rfl, _⟩
 · exact ⟨none, 0, by rw [h0]⟩
 · exact ⟨_, c, rfl⟩
/-- What stands once an entry was laid behind the others, ahead of the store. -/
structure Laid (A : Nat → Prop) (w0 w1 w6 : World) (b o now came room n : Nat) (vs : Nat → Value) (v6 : Value) (qs : Nat → List En) (us : Nat → Nat) (e : En) : Prop where
 next : ∀ w7, Upd Nowhere w6 w7 → WIn TW TE A w0 (w7.setCell ⟨b, o, none⟩ v6) b now came room n (put vs o v6) (put qs o (qs o ++ [e])) us
 upd : Upd (fun k => w0.heap.size ≤ k ∧ ¬ A k) w1 w6
 cell : w6.cell? ⟨b, o, none⟩ = some (vs o)
 free : w6.frozen? ⟨b, o, none⟩ = false
theorem lay_facts {A : Nat → Prop} {w0 w1 wx w6 : World} {b o now came room n m : Nat} {vs : Nat → Value} {v v6 : Value} {qs : Nat → List En} {us : Nat → Nat} (H : WIn TW TE A w0 w1 b now came room n vs qs us) (ho : isRow o) (e : En)
 (hown : w6.ownsRow 0 TE 4 v6 (m + 1) (es (qs o) ++ ec e)) (hu : Upd (fun k => v.ownBlock = some k) wx w6) (hn : OwnOrNew wx v v6) (hx : Upd Nowhere w1 wx) (hl : (qs o).length = m) (hv : vs o = v) (hA : ∀ k, A k → k < w1.heap.size) :
 Laid A w0 w1 w6 b o now came room n vs v6 qs us e := by
 have hu1 : Upd (fun k => v.ownBlock = some k) w1 w6 := (hx.any _).trans hu (fun _ _ h => h)
 have hnb : ¬ v.ownBlock = some b := by rw [← hv]; exact H.nb o ho
 obtain ⟨c1, z1⟩ := H.at_row ho
 refine ⟨fun w7 h7 => ?_, hu1.mono (fun k _ hk => H.far k (.inr ⟨o, ho, by rw [hv]; exact hk⟩)), ?_, ?_⟩
 · refine H.setRow (S := fun k => v.ownBlock = some k) (hu1.trans h7 (fun _ _ h => h.elim)) ho (fun k _ hk => by rw [hv]; exact hk) ?_ (fun k hk => ?_) hA
   · have e1 : (qs o ++ [e]).length = m + 1 := by simp [hl]
     rw [e1, es_snoc]
     exact ownsRow_upd hown h7 (fun _ _ h => h)
   · rcases hn k hk with h1 | h1
     · exact .inl (by rw [hv]; exact h1)
     · exact .inr (Nat.le_trans hx.size h1)
 · rw [hu1.cell _ H.lt hnb]; exact c1
 · rw [hu1.frozen _ H.lt hnb]; exact z1
theorem lay_late {A : Nat → Prop} {w0 w : World} {b now came room n : Nat} {vs : Nat → Value} {qs : Nat → List En} {us : Nat → Nat} (h : WIn TW TE A w0 w b now came room n vs qs us) (hA : ∀ k, A k → k < w.heap.size) (e : En) (he : e.1 ≤ now) (hlen : (qs 715).length ≤ 999999) :
 Calls Tryz.prog 102 #[.pointer (some ⟨b, 0, none⟩), V e] w fun x w' => x = .returned (.tuple #[]) ∧
  (∃ v', WIn TW TE A w0 w' b now came room n (put vs 715 v') (put qs 715 (qs 715 ++ [e])) us) ∧ Upd (fun k => w0.heap.size ≤ k ∧ ¬ A k) w w' := by
 obtain ⟨i0, hi, hz0, hz1, hz2⟩ := info_parts infoE
 have hro := h.row 715 isRow_late
 obtain ⟨m, hm⟩ : ∃ m, (qs 715).length = m := ⟨_, rfl⟩
 obtain ⟨v, hv⟩ : ∃ v, vs 715 = v := ⟨_, rfl⟩
 rw [hm, hv] at hro
 rw [hm] at hlen
 have hm9 : m ≤ 999999999 := by omega
 obtain ⟨ad, cp, rfl⟩ := form0 hro
 obtain ⟨e0, e1, e2, e3⟩ := e
 simp only at he
 have d1 : decide (e0 ≤ now) = true := decide_eq_true he
 have hblk : Blk (w.alloc (.cells #[.int .u64 (e0 : Nat), .int .u64 (e1 : Nat), .int .i64 (e2 : Nat), .int .u64 (e3 : Nat)] TE)) w.heap.size #[.int .u64 (e0 : Nat), .int .u64 (e1 : Nat), .int .i64 (e2 : Nat), .int .u64 (e3 : Nat)] TE := Blk.new _ _ _
 have H := Lib.hid (h.old ((Upd.refl Nowhere w).alloc (.cells #[.int .u64 (e0 : Nat), .int .u64 (e1 : Nat), .int .i64 (e2 : Nat), .int .u64 (e3 : Nat)] TE)))
 have hU : Upd Nowhere w (w.alloc (.cells #[.int .u64 (e0 : Nat), .int .u64 (e1 : Nat), .int .i64 (e2 : Nat), .int .u64 (e3 : Nat)] TE)) := (Upd.refl _ _).alloc _
 have hA2 : ∀ k, A k → k < (w.alloc (.cells #[.int .u64 (e0 : Nat), .int .u64 (e1 : Nat), .int .i64 (e2 : Nat), .int .u64 (e3 : Nat)] TE)).heap.size := fun k hk => Nat.lt_of_lt_of_le (hA k hk) hU.size
 have HM := Lib.hid hm
 have HV := Lib.hid hv
 have HFB := Lib.hid (h.far b (.inl rfl))
 clear h hA hm hv he hro hlen
 go_enter Tryz.func102, Tryz.ntmps102
 go_wp2_with fail
 generalize w.alloc (.cells #[.int .u64 (e0 : Nat), .int .u64 (e1 : Nat), .int .i64 (e2 : Nat), .int .u64 (e3 : Nat)] TE) = wF at *
 obtain ⟨a0, a1, a2, a3, _, _, _, _⟩ := cells4 hblk
 obtain ⟨c0, _, _, _, z0⟩ := H.out.at_nums
 clear hblk
 go_quiet (fail)
 have hU1 : Upd Nowhere wF (wF.drewN nq) := (Upd.refl _ _).drewN nq
 have H1 := Lib.hid (H.out.old hU1)
 have HU1 := Lib.hid (hU.drewN nq)
 have HA1 : Hid (∀ k, A k → k < (wF.drewN nq).heap.size) := Lib.hid hA2
 have b0 : (wF.drewN nq).cell? ⟨w.heap.size, 0, none⟩ = some (.int .u64 (e0 : Nat)) := a0
 have b1 : (wF.drewN nq).cell? ⟨w.heap.size, 1, none⟩ = some (.int .u64 (e1 : Nat)) := a1
 have b2 : (wF.drewN nq).cell? ⟨w.heap.size, 2, none⟩ = some (.int .i64 (e2 : Nat)) := a2
 have b3 : (wF.drewN nq).cell? ⟨w.heap.size, 3, none⟩ = some (.int .u64 (e3 : Nat)) := a3
 clear hU1 H hU hA2 a0 a1 a2 c0 z0
 generalize wF.drewN nq = w1 at *
 obtain ⟨c1, z1⟩ := H1.out.at_row isRow_late
 rw [HV.out] at c1
 have hro1 := H1.out.row 715 isRow_late
 rw [HM.out, HV.out] at hro1
 have HROW1 := Lib.hid hro1
 clear hro1
 have k0 : (w1.alloc (.cells #[.int .u64 (e0 : Nat), .int .u64 (e1 : Nat), .int .i64 (e2 : Nat), .int .u64 (e3 : Nat)] TE)).cell? ⟨b, 715, none⟩ = some (.slice ad m cp) := cell_old ((Upd.refl _ _).alloc _) c1
 go_wp2_with fail
 go_region_law (refine step_push rfl _ _ 191 rfl 0 TE i0 Z 4 32 Tryz.underlying191 hi hz0 hz1 hz2 rfl (by decide) (by decide) (.slice ad m cp) m _ rfl (ownsRow_upd HROW1.out (by repeat (first | with_reducible exact Upd.refl _ _ | with_reducible refine Upd.drew ?_ | with_reducible refine Upd.alloc ?_ _)) (fun _ _ h => h)) w1.heap.size 1 [.int .u64 (e0 : Nat), .int .u64 (e1 : Nat), .int .i64 (e2 : Nat), .int .u64 (e3 : Nat)] rfl rfl (new_cells w1 #[.int .u64 (e0 : Nat), .int .u64 (e1 : Nat), .int .i64 (e2 : Nat), .int .u64 (e3 : Nat)] _) (by simp [Value.oneCell']) hm9 (Nat.zero_le _) ?_; intro v6 w6 hown6 hu6 hn6; have H6 := Lib.hid (lay_facts H1.out isRow_late (e0, e1, e2, e3) hown6 hu6 hn6 (by repeat (first | with_reducible exact Upd.refl _ _ | with_reducible refine Upd.drew ?_ | with_reducible refine Upd.alloc ?_ _)) HM.out HV.out HA1.out); obtain ⟨g6, c6, rfl⟩ := form6 hown6; have b6 := H6.out.cell; have y6 := H6.out.free; clear hown6 hu6 hn6 c1 z1 k0 b0 b1 b2)
 all_goals
  go_wp2_with fail
  exact bodyPost_ret (results_none rfl _ _ _) rfl ⟨rfl, ⟨_, H6.out.next _ (by repeat (first | with_reducible exact Upd.refl _ _ | with_reducible refine Upd.drew ?_ | with_reducible refine Upd.drewN ?_ _))⟩, (HU1.out.any _).trans ((H6.out.upd.trans (show Upd Nowhere w6 _ from (by repeat (first | with_reducible exact Upd.refl _ _ | with_reducible refine Upd.drew ?_ | with_reducible refine Upd.drewN ?_ _))) (fun _ _ h => h.elim)).setCell (a := ⟨b, 715, none⟩) (fun _ => HFB.out) _) (fun _ _ h => h)⟩
theorem quiet_ex {P : Program} {f : FuncId} {args : Array Value} {w : World} {n : Nat} {v : Value}
 (h : Calls P f args (w.drewN n) fun e w' => e = .returned v ∧ ∃ m, w' = (w.drewN n).drewN m) : Calls P f args (w.drewN n) fun e w'' => e = .returned v ∧ ∃ m, w'' = w.drewN m :=
 h.mono fun _ _ ⟨he, m, hm⟩ => ⟨he, n + m, by rw [hm, World.drewN_drewN]⟩
theorem wp_world {P : Program} {c : Code} {Q : Exit → Act → World → Prop} {a : Act} {W : World} (h : ∀ w8, w8 = W → c.wp P Q a w8) : c.wp P Q a W := h _ rfl
theorem lay_slot {A : Nat → Prop} {w0 w : World} {b now came room n : Nat} {vs : Nat → Value} {qs : Nat → List En} {us : Nat → Nat} (h : WIn TW TE A w0 w b now came room n vs qs us) (hA : ∀ k, A k → k < w.heap.size) (e : En) (he : now < e.1) (hb : e.1 ≤ 18446744073709551615) {l i o : Nat} (hl : lvl now e.1 = l) (hi : plc l e.1 = i) (ho : l * 65 + 1 + i = o) (hus : us l < 2 ^ 64) (hlen : (qs o).length ≤ 999999) :
 Calls Tryz.prog 102 #[.pointer (some ⟨b, 0, none⟩), V e] w fun x w' => x = .returned (.tuple #[]) ∧
  (∃ v', WIn TW TE A w0 w' b now came room n (put vs o v') (put qs o (qs o ++ [e])) (put us l (us l ||| 2 ^ i))) ∧ Upd (fun k => w0.heap.size ≤ k ∧ ¬ A k) w w' := by
 obtain ⟨i0, hi, hz0, hz1, hz2⟩ := info_parts infoE
 have hl11 : l < 11 := by have := lvl_lt (now := now) (at' := e.1) (by omega) hb; omega
 have hi64 : i < 64 := by rw [← ‹plc l e.1 = i›]; exact plc_lt _ _
 have ho2 : isRow o := by rw [← ho]; exact isRow_slot hl11 hi64
 have hro := h.row o ho2
 obtain ⟨m, hm⟩ : ∃ m, (qs o).length = m := ⟨_, rfl⟩
 obtain ⟨v, hv⟩ : ∃ v, vs o = v := ⟨_, rfl⟩
 obtain ⟨u, hu⟩ : ∃ u, us l = u := ⟨_, rfl⟩
 obtain ⟨u2, hu2⟩ : ∃ u2, u ||| 2 ^ i = u2 := ⟨_, rfl⟩
 rw [hm, hv] at hro
 rw [hm] at hlen
 rw [hu] at hus ⊢
 rw [hu2]
 have hm9 : m ≤ 999999999 := by omega
 obtain ⟨ad, cp, rfl⟩ := form0 hro
 obtain ⟨e0, e1, e2, e3⟩ := e
 simp only at he hb hl
 have HSP := fun w => Lib.hid (spot_any now e0 he hb w)
 rw [hl, ‹plc l (e0, e1, e2, e3).1 = i›] at HSP
 have d1 : decide (e0 ≤ now) = false := decide_eq_false (by omega)
 have hp : 2 ^ i < 18446744073709551616 := Nat.lt_of_lt_of_eq (Nat.pow_lt_pow_right (a := 2) (by omega) hi64) (by decide)
 obtain ⟨B, hB⟩ : ∃ B, 2 ^ i = B := ⟨_, rfl⟩
 rw [hB] at hp hu2
 have es : IntKind.u64.wrap ((2 : Int) ^ i) = (B : Int) := by
  have e9 : (2 : Int) ^ i = (B : Int) := by rw [← hB]; push_cast; rfl
  rw [e9, IntKind.wrap_u64]; omega
 have ea : bits .or .u64 (u : Int) (B : Int) = (u2 : Int) := by rw [bits_or_u64_nat u B (by omega) hp, hu2]
 have p1 : (l : Int) < 11 := by omega
 have p2 : (i : Int) < 64 := by omega
 have hblk : Blk (w.alloc (.cells #[.int .u64 (e0 : Nat), .int .u64 (e1 : Nat), .int .i64 (e2 : Nat), .int .u64 (e3 : Nat)] TE)) w.heap.size #[.int .u64 (e0 : Nat), .int .u64 (e1 : Nat), .int .i64 (e2 : Nat), .int .u64 (e3 : Nat)] TE := Blk.new _ _ _
 have H := Lib.hid (h.old ((Upd.refl Nowhere w).alloc (.cells #[.int .u64 (e0 : Nat), .int .u64 (e1 : Nat), .int .i64 (e2 : Nat), .int .u64 (e3 : Nat)] TE)))
 have hU : Upd Nowhere w (w.alloc (.cells #[.int .u64 (e0 : Nat), .int .u64 (e1 : Nat), .int .i64 (e2 : Nat), .int .u64 (e3 : Nat)] TE)) := (Upd.refl _ _).alloc _
 have hA2 : ∀ k, A k → k < (w.alloc (.cells #[.int .u64 (e0 : Nat), .int .u64 (e1 : Nat), .int .i64 (e2 : Nat), .int .u64 (e3 : Nat)] TE)).heap.size := fun k hk => Nat.lt_of_lt_of_le (hA k hk) hU.size
 have HM := Lib.hid hm
 have HV := Lib.hid hv
 have HUS := Lib.hid hu
 have HO := Lib.hid ho
 have HFB := Lib.hid (h.far b (.inl rfl))
 clear h hA hm hv he hro hlen hb hl hu hu2 hB ho hus ‹plc l (e0, e1, e2, e3).1 = i›
 go_enter Tryz.func102, Tryz.ntmps102
 go_wp2_with fail
 generalize w.alloc (.cells #[.int .u64 (e0 : Nat), .int .u64 (e1 : Nat), .int .i64 (e2 : Nat), .int .u64 (e3 : Nat)] TE) = wF at *
 obtain ⟨a0, a1, a2, a3, _, _, _, _⟩ := cells4 hblk
 obtain ⟨c0, _, _, _, z0⟩ := H.out.at_nums
 go_quiet (fail)
 go_wp2_with fail
 have c0' : (wF.drewN nq).cell? ⟨b, 716, none⟩ = some (.int .u64 (now : Nat)) := c0
 have a0' : (wF.drewN nq).cell? ⟨w.heap.size, 0, none⟩ = some (.int .u64 (e0 : Nat)) := a0
 obtain ⟨wG, hwG⟩ : ∃ wG, wF.drewN nq = wG := ⟨_, rfl⟩
 have hUG : Upd Nowhere wF wG := by rw [← hwG]; exact (Upd.refl _ _).drewN nq
 rw [hwG] at c0' a0' ⊢
 clear hwG
 go_quiet ((go_at_call 136; exact quiet_ex (HSP _).out))
 have H1 := Lib.hid ((H.out.old hUG).old ((Upd.refl _ _).drewN nq))
 have HU1 := Lib.hid ((hU.trans hUG (fun _ _ h => h)).drewN nq)
 have HA1 : Hid (∀ k, A k → k < (wG.drewN nq).heap.size) := Lib.hid (fun k hk => Nat.lt_of_lt_of_le (hA2 k hk) hUG.size)
 have b0 : (wG.drewN nq).cell? ⟨w.heap.size, 0, none⟩ = some (.int .u64 (e0 : Nat)) := a0'
 have b1 : (wG.drewN nq).cell? ⟨w.heap.size, 1, none⟩ = some (.int .u64 (e1 : Nat)) := cell_old hUG a1
 have b2 : (wG.drewN nq).cell? ⟨w.heap.size, 2, none⟩ = some (.int .i64 (e2 : Nat)) := cell_old hUG a2
 have b3 : (wG.drewN nq).cell? ⟨w.heap.size, 3, none⟩ = some (.int .u64 (e3 : Nat)) := cell_old hUG a3
 clear H hU hA2 hUG a0 a1 a2 c0 z0 a0' c0' hblk HSP
 generalize wG.drewN nq = w1 at *
 obtain ⟨c1, z1⟩ := H1.out.at_row ho2
 rw [HV.out] at c1
 have hro1 := H1.out.row o ho2
 rw [HM.out, HV.out] at hro1
 have HROW1 := Lib.hid hro1
 have k0 : (w1.alloc (.cells #[.int .u64 (e0 : Nat), .int .u64 (e1 : Nat), .int .i64 (e2 : Nat), .int .u64 (e3 : Nat)] TE)).cell? ⟨b, o, none⟩ = some (.slice ad m cp) := cell_old ((Upd.refl _ _).alloc _) c1
 rw [← HO.out] at c1 z1 k0
 clear hro1
 go_wp2_with fail
 go_region_law (refine step_push rfl _ _ 191 rfl 0 TE i0 Z 4 32 Tryz.underlying191 hi hz0 hz1 hz2 rfl (by decide) (by decide) (.slice ad m cp) m _ rfl (ownsRow_upd HROW1.out (by repeat (first | with_reducible exact Upd.refl _ _ | with_reducible refine Upd.drew ?_ | with_reducible refine Upd.alloc ?_ _)) (fun _ _ h => h)) w1.heap.size 1 [.int .u64 (e0 : Nat), .int .u64 (e1 : Nat), .int .i64 (e2 : Nat), .int .u64 (e3 : Nat)] rfl rfl (new_cells w1 #[.int .u64 (e0 : Nat), .int .u64 (e1 : Nat), .int .i64 (e2 : Nat), .int .u64 (e3 : Nat)] _) (by simp [Value.oneCell']) hm9 (Nat.zero_le _) ?_; intro v6 w6 hown6 hu6 hn6; have H6 := Lib.hid (lay_facts H1.out ho2 (e0, e1, e2, e3) hown6 hu6 hn6 (by repeat (first | with_reducible exact Upd.refl _ _ | with_reducible refine Upd.drew ?_ | with_reducible refine Upd.alloc ?_ _)) HM.out HV.out HA1.out); obtain ⟨g6, c6, rfl⟩ := form6 hown6; have b6 := H6.out.cell; have y6 := H6.out.free; rw [← HO.out] at b6 y6; clear hown6 hu6 hn6 c1 z1 k0 b0 b1 b2)
 all_goals
  go_wp2_with fail
  refine wp_world (fun w8 hw8 => ?_)
  rw [HO.out] at hw8
  have h8 : WIn TW TE A w0 w8 b now came room n (put vs o (.slice (some ⟨g6, 0, none⟩) (m + 1) c6)) (put qs o (qs o ++ [(e0, e1, e2, e3)])) us := by rw [hw8]; exact H6.out.next _ (by repeat (first | with_reducible exact Upd.refl _ _ | with_reducible refine Upd.drew ?_ | with_reducible refine Upd.drewN ?_ _))
  have hu8 : Upd (fun k => w0.heap.size ≤ k ∧ ¬ A k) w w8 := by
   rw [hw8]
   exact (HU1.out.any _).trans ((H6.out.upd.trans (show Upd Nowhere w6 _ from (by repeat (first | with_reducible exact Upd.refl _ _ | with_reducible refine Upd.drew ?_ | with_reducible refine Upd.drewN ?_ _))) (fun _ _ h => h.elim)).setCell (a := ⟨b, o, none⟩) (fun _ => HFB.out) _) (fun _ _ h => h)
  obtain ⟨c2, z2⟩ := h8.at_used hl11
  rw [HUS.out] at c2
  have H8 := Lib.hid h8
  have HU8 := Lib.hid hu8
  clear h8 hu8 hw8 b6 y6 H6
  refine wp_region_tail 14 (by kernel_rfl) (by kernel_rfl) ?_
  simp only [List.take_succ_cons, List.take_zero, List.drop_succ_cons, List.drop_zero]
  repeat (go_big_quiet_step (fail))
  refine wpQuiet_nil ?_
  rintro _ ⟨nq9, rfl⟩
  go_wp2
  refine Stage.out ?_
  go_wp2_with fail
  exact bodyPost_end (results_none rfl _ _ _) rfl ⟨rfl, ⟨_, (H8.out.old ((Upd.refl Nowhere w8).drewN nq9)).setUsed hl11 u2⟩, (HU8.out.drewN nq9).setCell (a := ⟨b, l * 65, none⟩) (fun _ => HFB.out) _⟩
end Go.Proofs.YtpgpjjkeginbbaaGreatDoor.WheelR
namespace Go.Proofs.YtpgpjjkeginbbaaGreatDoor.WheelR
open Go.RowKit Heap
/-- Each lies where it belongs, and the words tell which places have some. -/
structure St (now : Nat) (qs : Nat → List En) (us : Nat → Nat) : Prop where
 lies : Lies now qs
 bit : ∀ l i, l < 11 → i < 64 → ((us l).testBit i = true ↔ qs (l * 65 + 1 + i) ≠ [])
 ub : ∀ l, l < 11 → us l < 2 ^ 64
 big : ∀ o, isRow o → ∀ e ∈ qs o, e.1 ≤ 18446744073709551615
theorem St.nil (now : Nat) : St now (fun _ => []) (fun _ => 0) := ⟨Lies.nil now, fun l i _ _ => by simp, fun _ _ => by decide, fun _ _ e h => (List.not_mem_nil h).elim⟩
/-- The words once an entry was laid. -/
def us_lay (now : Nat) (us : Nat → Nat) (e : En) : Nat → Nat := if e.1 ≤ now then us else put us (lvl now e.1) (us (lvl now e.1) ||| 2 ^ plc (lvl now e.1) e.1)
theorem St.lay {now : Nat} {qs : Nat → List En} {us : Nat → Nat} (h : St now qs us) (hn : now ≤ 18446744073709551615) (e : En) (he : e.1 ≤ 18446744073709551615) : St now (put qs (off now e.1) (qs (off now e.1) ++ [e])) (us_lay now us e) := by
 have hl11 := lvl_lt hn he
 have hi64 := plc_lt (lvl now e.1) e.1
 refine ⟨h.lies.lay e he, fun l i hl hi => ?_, fun l hl => ?_, fun o ho x hx => ?_⟩
 · unfold us_lay off
   by_cases hle : e.1 ≤ now
   · rw [if_pos hle, if_pos hle, put_ne _ _ (by omega)]; exact h.bit l i hl hi
   · rw [if_neg hle, if_neg hle]
     by_cases hll : l = lvl now e.1
     · subst hll
       rw [put_at, set_bit]
       by_cases hii : i = plc (lvl now e.1) e.1
       · subst hii; rw [put_at]; simp
       · rw [put_ne _ _ (by omega)]; simp only [hii, decide_false, Bool.or_false]; exact h.bit _ i hl hi
     · rw [put_ne _ _ hll, put_ne _ _ (by omega)]; exact h.bit l i hl hi
 · unfold us_lay
   split
   · exact h.ub l hl
   · by_cases hll : l = lvl now e.1
     · subst hll
       rw [put_at]
       exact Nat.or_lt_two_pow (h.ub _ hl) (Nat.pow_lt_pow_right (by omega) hi64)
     · rw [put_ne _ _ hll]; exact h.ub l hl
 · by_cases e9 : o = off now e.1
   · subst e9
     rw [put_at] at hx
     rcases List.mem_append.1 hx with hx | hx
     · exact h.big _ ho x hx
     · simp only [List.mem_singleton] at hx; subst hx; exact he
   · rw [put_ne _ _ e9] at hx; exact h.big o ho x hx
theorem St.sub {now : Nat} {qs qs' : Nat → List En} {us us' : Nat → Nat} (h : St now qs us) (hs : ∀ o, qs' o = qs o ∨ qs' o = []) (hb : ∀ l i, l < 11 → i < 64 → ((us' l).testBit i = true ↔ qs' (l * 65 + 1 + i) ≠ [])) (hu : ∀ l, l < 11 → us' l < 2 ^ 64) : St now qs' us' := by
 have sub : ∀ o, ∀ e ∈ qs' o, e ∈ qs o := fun o e he => by
  rcases hs o with h1 | h1
  · rw [h1] at he; exact he
  · rw [h1] at he; cases he
 exact ⟨⟨fun e he => h.lies.late e (sub _ e he), fun l i hl hi e he => h.lies.slot l i hl hi e (sub _ e he)⟩, hb, hu, fun o ho e he => h.big o ho e (sub o e he)⟩
/-- A place is emptied. -/
theorem St.take {now : Nat} {qs : Nat → List En} {us : Nat → Nat} (h : St now qs us) {l i : Nat} (hl : l < 11) (hi : i < 64) (hb : (us l).testBit i = true) : St now (put qs (l * 65 + 1 + i) []) (put us l (us l - 2 ^ i)) := by
 refine h.sub (fun o => ?_) (fun m j hm hj => ?_) (fun m hm => ?_)
 · by_cases e : o = l * 65 + 1 + i
   · subst e; right; exact put_at _ _ _
   · left; exact put_ne _ _ e
 · by_cases hml : m = l
   · subst hml
     rw [put_at, drop_bit hb]
     by_cases hji : j = i
     · subst hji; rw [put_at]; simp
     · rw [put_ne _ _ (by omega)]; simp only [hji, ne_eq, not_false_eq_true, decide_true, Bool.and_true]; exact h.bit m j hm hj
   · rw [put_ne _ _ hml, put_ne _ _ (by omega)]; exact h.bit m j hm hj
 · by_cases hml : m = l
   · subst hml; rw [put_at]; exact Nat.lt_of_le_of_lt (Nat.sub_le _ _) (h.ub m hm)
   · rw [put_ne _ _ hml]; exact h.ub m hm
/-- Time goes by. -/
theorem St.pass {now now' : Nat} {qs qs' : Nat → List En} {us us' : Nat → Nat} (h : St now qs us) (h' : St now qs' us') (hn : now < now') (hb : now' ≤ 18446744073709551615) (hs : ∀ o, qs' o = qs o ∨ qs' o = []) (hp : Passed now now' qs') : St now' qs' us' :=
 ⟨h.lies.pass hn hb hs hp, h'.bit, h'.ub, h'.big⟩
theorem len_all {qs : Nat → List En} {o : Nat} (ho : isRow o) : (qs o).length ≤ (all qs).length := by
 obtain ⟨r, h1, _⟩ := all_at qs ho
 rw [h1.length_eq, List.length_append]; omega
theorem es_one (l : List En) : ∀ u ∈ es l, u.oneCell' = true := by
 intro u hu
 induction l with
 | nil => cases hu
 | cons a r ih =>
   have e : es (a :: r) = [.int .u64 (a.1 : Nat), .int .u64 (a.2.1 : Nat), .int .i64 (a.2.2.1 : Nat), .int .u64 (a.2.2.2 : Nat)] ++ es r := rfl
   rw [e] at hu
   rcases List.mem_append.1 hu with hu | hu
   · simp only [List.mem_cons, List.not_mem_nil, or_false] at hu
     rcases hu with rfl | rfl | rfl | rfl <;> rfl
   · exact ih hu
theorem es_len (l : List En) : (es l).length = l.length * 4 := HeapW.ents_length wid l
theorem es_app (l m : List En) : es (l ++ m) = es l ++ es m := HeapW.ents_append l m
/-- A row of entries, as what is to be appended. -/
theorem row_src {TE : TypeId} {w : World} {v : Value} {l : List En} (h : w.ownsRow 0 TE 4 v l.length (es l)) : ∃ ad c, v = .slice ad l.length c ∧ (ad = none → l.length = 0 ∧ c = 0) ∧ ∀ b, ad = some b → ∀ j u, (es l)[j]? = some u → w.cell? (b.add j) = some u := by
 rcases id h.2 with ⟨rfl, h0⟩ | ⟨g, c, cur, rfl, _⟩
 · exact ⟨none, 0, by rw [h0], (fun _ => ⟨h0, rfl⟩), fun b hb => by cases hb⟩
 · refine ⟨some ⟨g, 0, none⟩, c, rfl, (fun hb => by cases hb), fun b hb j u hu => ?_⟩
   obtain rfl := Option.some.inj hb
   exact h.cells (g := g) rfl j u hu
end Go.Proofs.YtpgpjjkeginbbaaGreatDoor.WheelR
namespace Go.Proofs.YtpgpjjkeginbbaaGreatDoor.WheelR
open Go.RowKit Go.Proofs BigFrame Heap
set_option maxHeartbeats 4000000
set_option maxRecDepth 1000000
/-- The library's table, where the program's text lays it. -/
def Tab (w : World) : Prop := TabAt (Tryz.tz64_ren.g 1) Lib.deBruijn64tab w
theorem Tab.old {S : Nat → Prop} {w w' : World} (h : Tab w) (hu : Upd S w w') (hS : ¬ S (Tryz.tz64_ren.g 1)) : Tab w' := fun j hj => by
 have h1 := h j hj
 rw [hu.cell _ (cell_lt h1) hS]; exact h1
theorem tz_any (x : Nat) (hx : x < 2 ^ 64) (w : World) (hT : Tab w) :
 Calls Tryz.prog 100 #[.int .u64 x] w fun e w' => e = .returned (.int .i64 (Lib.ctz 64 x : Nat)) ∧ w' = w :=
 Any7.bits_TrailingZeros64 Tryz.tz64 x (by omega) w (fun _ => hT)
/-- What has been taken so far. -/
structure Took (A : Nat → Prop) (w0 w wr : World) (b now came room n : Nat) (ov : Value) (P : List En) (vs : Nat → Value) (qs0 qs : Nat → List En) (us : Nat → Nat) : Prop where
 out : wr.ownsRow w.heap.size TE 4 ov P.length (es P)
 mem : WIn TW TE A w0 wr b now came room n vs qs us
 st : St now qs us
 perm : (P ++ all qs).Perm (all qs0)
 sub : ∀ o, qs o = qs0 o ∨ qs o = []
 upd : Upd (fun k => k = b) w wr
 low : ∀ o, isRow o → ∀ k, (vs o).ownBlock = some k → k < w.heap.size
theorem Took.step {A : Nat → Prop} {w0 w wr w1 w2 : World} {b now came room n l i : Nat} {ov v2 : Value} {P : List En} {vs vs2 : Nat → Value} {qs0 qs : Nat → List En} {us : Nat → Nat} (h : Took A w0 w wr b now came room n ov P vs qs0 qs us) (hl : l < 11) (hi : i < 64) (hb : (us l).testBit i = true)
 (hm : WIn TW TE A w0 w1 b now came room n vs2 (put qs (l * 65 + 1 + i) []) (put us l (us l - 2 ^ i))) (hu1 : Upd (fun k => k = b) wr w1) (hown : w2.ownsRow w.heap.size TE 4 v2 (P.length + (qs (l * 65 + 1 + i)).length) (es P ++ es (qs (l * 65 + 1 + i)))) (hu2 : Upd (fun k => ov.ownBlock = some k) w1 w2)
 (hb' : b < w.heap.size) (hvs : ∀ o, isRow o → ∀ k, (vs2 o).ownBlock = some k → k < w.heap.size) :
 Took A w0 w w2 b now came room n v2 (P ++ qs (l * 65 + 1 + i)) vs2 qs0 (put qs (l * 65 + 1 + i) []) (put us l (us l - 2 ^ i)) := by
 have hlow : ∀ k, ov.ownBlock = some k → w.heap.size ≤ k := fun k hk => (h.out.lt k hk).1
 have hfar : ∀ k, Own b vs2 k → ov.ownBlock ≠ some k := fun k hk e => by
  have h1 := hlow k e
  rcases hk with rfl | ⟨o, ho, hk⟩
  · omega
  · have := hvs o ho k hk; omega
 refine ⟨?_, ?_, h.st.take hl hi hb, ?_, fun o => ?_, (h.upd.trans hu1 (fun _ _ h => h)).trans hu2 (fun k hk e => absurd hk (Nat.not_lt.2 (hlow k e))), hvs⟩
 · rw [List.length_append, es_app]; exact hown
 · obtain ⟨c, h1, h2⟩ := hm.cur
   exact ⟨⟨c, h1.kept hu2 (hfar b (.inl rfl)), h2⟩, fun o ho => ownsRow_upd (hm.row o ho) hu2 (fun k hk => hfar k (.inr ⟨o, ho, hk⟩)), hm.ap, hm.nb, hm.far⟩
 · rw [List.append_assoc]
   exact ((all_take qs (isRow_slot hl hi)).append_left P).trans h.perm
 · by_cases e : o = l * 65 + 1 + i
   · subst e; right; exact put_at _ _ _
   · rw [put_ne _ _ e]; exact h.sub o
/-- The walk's facts on a word of which the lowest bit goes. -/
theorem low_bit {u : Nat} (h0 : u ≠ 0) (h : u < 2 ^ 64) : IntKind.u64.wrap ((u : Int) - 1) = ((u - 1 : Nat) : Int) ∧ bits .and .u64 (u : Int) ((u - 1 : Nat) : Int) = ((u - 2 ^ Lib.ctz 64 u : Nat) : Int) ∧ u - 2 ^ Lib.ctz 64 u < u ∧ u.testBit (Lib.ctz 64 u) = true ∧ Lib.ctz 64 u < 64 := by
 obtain ⟨h1, _, h3, h4, h5⟩ := ctz_bits h0 h
 have hp := Nat.pow_pos (n := Lib.ctz 64 u) (show 0 < 2 by omega)
 refine ⟨by rw [IntKind.wrap_u64]; omega, ?_, by omega, h1, h3⟩
 rw [bits_and_u64_nat u (u - 1) (by omega) (by omega), h4]
theorem Took.len {A : Nat → Prop} {w0 w wr : World} {b now came room n : Nat} {ov : Value} {P : List En} {vs : Nat → Value} {qs0 qs : Nat → List En} {us : Nat → Nat} (h : Took A w0 w wr b now came room n ov P vs qs0 qs us) {o : Nat} (ho : isRow o) : P.length + (qs o).length ≤ (all qs0).length := by
 have h1 := h.perm.length_eq
 rw [List.length_append] at h1
 have := len_all (qs := qs) ho
 omega
theorem Took.old {A : Nat → Prop} {w0 w wr w1 : World} {b now came room n : Nat} {ov : Value} {P : List En} {vs : Nat → Value} {qs0 qs : Nat → List En} {us : Nat → Nat} (h : Took A w0 w wr b now came room n ov P vs qs0 qs us) (hu : Upd Nowhere wr w1) : Took A w0 w w1 b now came room n ov P vs qs0 qs us :=
 ⟨ownsRow_upd h.out hu (fun _ _ h => h), h.mem.old hu, h.st, h.perm, h.sub, h.upd.trans hu (fun _ _ h => h.elim), h.low⟩
/-- What a place gives, once it was taken. -/
theorem Took.src {A : Nat → Prop} {w0 w wr w1 : World} {b now came room n : Nat} {ov : Value} {P : List En} {vs : Nat → Value} {qs0 qs : Nat → List En} {us : Nat → Nat} (h : Took A w0 w wr b now came room n ov P vs qs0 qs us) (hu : Upd (fun k => k = b) wr w1) {o : Nat} (ho : isRow o) :
 ∃ ad c, vs o = .slice ad (qs o).length c ∧ (ad = none → (qs o).length = 0 ∧ c = 0) ∧ ∀ b, ad = some b → ∀ j u, (es (qs o))[j]? = some u → w1.cell? (b.add j) = some u :=
 row_src (ownsRow_upd (h.mem.row o ho) hu (fun k hk e => h.mem.nb o ho (by rw [hk, e])))
theorem put_low {vs : Nat → Value} {N o : Nat} (h : ∀ o, isRow o → ∀ k, (vs o).ownBlock = some k → k < N) : ∀ p, isRow p → ∀ k, (put vs o (.slice none 0 0) p).ownBlock = some k → k < N := fun p hp k hk => by
 by_cases e : p = o
 · subst e; rw [put_at] at hk; simp [Value.ownBlock] at hk
 · rw [put_ne _ _ e] at hk; exact h p hp k hk
theorem pass_any {A : Nat → Prop} {w0 w : World} {b now came room n : Nat} {vs : Nat → Value} {qs : Nat → List En} {us : Nat → Nat} (h : WIn TW TE A w0 w b now came room n vs qs us) (hs : St now qs us) (hA : ∀ k, A k → k < w.heap.size) (now' : Nat) (hn : now < now') (hb : now' ≤ 18446744073709551615) (hlen : (all qs).length ≤ 999999) (hT : Tab w) (hTb : b ≠ Tryz.tz64_ren.g 1) :
 Calls Tryz.prog 101 #[.pointer (some ⟨b, 0, none⟩), .int .u64 now'] w fun e w' => ∃ v P vs' qs' us', e = .returned v ∧ Took A w0 w w' b now came room n v P vs' qs qs' us' ∧ Passed now now' qs' := by
 obtain ⟨i0, hi, hz0, hz1, hz2⟩ := info_parts infoE
 have HSP := fun w => Lib.hid (spot_any now now' hn hb w)
 obtain ⟨top, htop⟩ : ∃ l, lvl now now' = l := ⟨_, rfl⟩
 obtain ⟨en, hen⟩ : ∃ l, plc (lvl now now') now' = l := ⟨_, rfl⟩
 rw [htop] at hen
 rw [htop, hen] at HSP
 have ht10 := lvl_lt (now := now) (at' := now') (by omega) hb
 rw [htop] at ht10
 have he64 : en < 64 := by rw [← hen]; exact plc_lt _ _
 obtain ⟨c0, _, _, _, z0⟩ := h.at_nums
 have HTK0 : Hid (Took A w0 w w b now came room n (.slice none 0 0) [] vs qs qs us) := Lib.hid ⟨ownsRow_nil _ _ _ _, h, hs, List.Perm.refl _, fun _ => .inl rfl, Upd.refl _ _, fun o ho k hk => h.lts (.inr ⟨o, ho, hk⟩)⟩
 have HTOP := Lib.hid htop
 have HEN := Lib.hid hen
 have HT := Lib.hid hT
 have HA := Lib.hid hA
 have HLEN := Lib.hid hlen
 have hbw := h.lt
 clear h hs htop hen hT hA hlen
 go_enter Tryz.func101, Tryz.ntmps101
 go_wp2_with fail
 refine (HSP _).out.mono ?_
 rintro e w' ⟨rfl, nq, rfl⟩
 have HTK := Lib.hid (HTK0.out.old ((Upd.refl Nowhere w).drewN nq))
 clear HTK0 HSP c0 z0
 go_wp2_with fail
 go_loopw [5, 22] (fun ov c wr => ∃ (k : Nat) (P : List En) (vs' : Nat → Value) (qs' : Nat → List En) (us' : Nat → Nat), k ≤ top ∧ c = .int .i64 k ∧ Took A w0 w wr b now came room n ov P vs' qs qs' us' ∧ ∀ m i, m < k → i < 64 → qs' (m * 65 + 1 + i) = []) (fun _ c _ => top - (intOf c).toNat)
 case atStart => exact ⟨0, [], _, _, _, by omega, rfl, HTK.out, fun m i hm _ => by omega⟩
 case round =>
  clear HTK
  obtain ⟨k, P, vs1, qs1, us1, hk, rfl, hTk, hE⟩ := hrel
  obtain ⟨wB, rfl⟩ : ∃ x, x = wr := ⟨_, rfl⟩
  by_cases hlt : k < top
  · have hI : (k : Int) < top := by omega
    have hk11 : k < 11 := by omega
    have hI2 : (k : Int) < 11 := by omega
    obtain ⟨c1, z1⟩ := hTk.mem.at_used hk11
    obtain ⟨u0, hu0⟩ : ∃ u, us1 k = u := ⟨_, rfl⟩
    rw [hu0] at c1
    have HTk := Lib.hid hTk
    have HE := Lib.hid hE
    have HU0 := Lib.hid hu0
    clear hTk hE hu0
    go_wp2_with fail
    go_loopw [5, 9] (fun ov uv wr => ∃ (u : Nat) (P : List En) (vs' : Nat → Value) (qs' : Nat → List En) (us' : Nat → Nat), uv = .int .u64 u ∧ us' k = u ∧ Took A w0 w wr b now came room n ov P vs' qs qs' us' ∧ ∀ m i, m < k → i < 64 → qs' (m * 65 + 1 + i) = []) (fun _ uv _ => (intOf uv).toNat)
    case atStart => exact ⟨u0, P, vs1, qs1, us1, rfl, HU0.out, HTk.out, HE.out⟩
    case round =>
     clear HTk HE HU0 c1 z1
     obtain ⟨u, P2, vs2, qs2, us2, rfl, hu, hTk2, hE2⟩ := hrel
     obtain ⟨wC, rfl⟩ : ∃ x, x = wr := ⟨_, rfl⟩
     by_cases hz : u = 0
     · subst hz
       have HTk2 := Lib.hid hTk2
       have HE2 := Lib.hid hE2
       have HU := Lib.hid hu
       clear hTk2 hE2 hu
       go_wp2_with fail
       go_roundw
       case rel => exact ⟨k + 1, P2, vs2, qs2, us2, by omega, by go_num, HTk2.out, fun m i hm hi => by
        rcases Nat.lt_or_ge m k with h9 | h9
        · exact HE2.out m i h9 hi
        · obtain rfl : m = k := by omega
          have h8 := (HTk2.out.st.bit m i hk11 hi)
          rw [HU.out, Nat.zero_testBit] at h8
          exact Classical.byContradiction fun h7 => Bool.noConfusion (h8.2 h7)⟩
       case measure => simp [intOf]; omega
     · have hub : u < 2 ^ 64 := by rw [← hu]; exact hTk2.st.ub k hk11
       obtain ⟨l1, l2, l3, l4, l5⟩ := low_bit hz hub
       have n1 : ((u : Int) != 0) = true := by simp; omega
       have n2 : ((u : Int) == 0) = false := by simp; omega
       have HTZ := Lib.hid (tz_any u hub wC (HT.out.old hTk2.upd (fun e => hTb e.symm)))
       obtain ⟨i, hi9⟩ : ∃ i, Lib.ctz 64 u = i := ⟨_, rfl⟩
       rw [hi9] at HTZ l2 l3 l4 l5
       obtain ⟨u2, hu2⟩ : ∃ x, u - 2 ^ i = x := ⟨_, rfl⟩
       obtain ⟨u3, hu3⟩ : ∃ x, u - 1 = x := ⟨_, rfl⟩
       rw [hu3] at l1 l2
       rw [hu2] at l2 l3
       have hbit : (us2 k).testBit i = true := by rw [hu]; exact l4
       have ho := isRow_slot hk11 l5
       have HTA := Lib.hid (take_any hTk2.mem (fun k hk => Nat.lt_of_lt_of_le (HA.out k hk) hTk2.upd.size) hk11 l5 (by rw [hu]; exact hub) hbit)
       have hln := hTk2.len ho
       have HTk2 := Lib.hid hTk2
       have HE2 := Lib.hid hE2
       have HU := Lib.hid hu
       have HB := Lib.hid hbit
       have HU2 := Lib.hid hu2
       have hlen9 := HLEN.out
       have hP9 : P2.length + (qs2 (k * 65 + 1 + i)).length ≤ 1000000000 := by omega
       clear hTk2 hE2 hu l4 hbit hu2 hu3 hi9 hln hlen9
       go_wp2_with fail
       refine HTZ.out.mono ?_
       rintro e w' ⟨rfl, rfl⟩
       go_wp2_with fail
       refine HTA.out.mono ?_
       rintro e w1 ⟨rfl, hm1, hu1⟩
       obtain ⟨ad, cc, hv, hnil, hsrc⟩ := HTk2.out.src hu1 ho
       rw [hv]
       have HM1 := Lib.hid hm1
       have HU1 := Lib.hid hu1
       have HOUT := Lib.hid (ownsRow_upd HTk2.out.out hu1 (fun q hq e => by have h8 := (HTk2.out.out.lt q hq).1; omega))
       have HSZ := Lib.hid (Nat.le_trans HTk2.out.upd.size hu1.size)
       clear hm1 hu1 HTZ HTA hv
       go_wp2_with (at_builtin; go_loud (refine wpList_app rfl _ _ 191 rfl w.heap.size TE i0 Z 4 32 Tryz.underlying191 hi hz0 hz1 hz2 rfl (by decide) (by decide) _ P2.length (es P2) rfl HOUT.out ad _ cc (es (qs2 (k * 65 + 1 + i))) rfl hnil (es_len _) hsrc (es_one _) hP9 HSZ.out ?_; intro v3 w3 hown3 hu3 hno3; have HTk3 := Lib.hid (HTk2.out.step hk11 l5 HB.out HM1.out HU1.out hown3 hu3 hbw (put_low HTk2.out.low)); clear hown3 hu3 hno3))
       go_roundw
       case rel => exact ⟨u2, P2 ++ qs2 (k * 65 + 1 + i), _, _, _, rfl, by rw [put_at, HU.out, HU2.out], HTk3.out, fun m j hm hj => by rw [put_ne _ _ (by omega)]; exact HE2.out m j hm hj⟩
       case measure => simp [intOf]; omega
  · have hI : ¬ (k : Int) < top := by omega
    obtain rfl : k = top := by omega
    have hk11 : k < 11 := by omega
    have hI2 : (k : Int) < 11 := by omega
    obtain ⟨c1, z1⟩ := hTk.mem.at_used hk11
    obtain ⟨u0, hu0⟩ : ∃ u, us1 k = u := ⟨_, rfl⟩
    rw [hu0] at c1
    have hub0 : u0 < 2 ^ 64 := by rw [← hu0]; exact hTk.st.ub k hk11
    have HTk := Lib.hid hTk
    have HE := Lib.hid hE
    have HU0 := Lib.hid hu0
    clear hTk hE hu0
    go_wp2_with fail
    go_loopw [5, 10] (fun ov uv wr => ∃ (u : Nat) (P : List En) (vs' : Nat → Value) (qs' : Nat → List En) (us' : Nat → Nat), uv = .int .u64 u ∧ u < 2 ^ 64 ∧ (∀ i, u.testBit i = true → (us' k).testBit i = true) ∧ (∀ i, i ≤ en → (us' k).testBit i = true → u.testBit i = true) ∧ Took A w0 w wr b now came room n ov P vs' qs qs' us' ∧ ∀ m i, m < k → i < 64 → qs' (m * 65 + 1 + i) = []) (fun _ uv _ => (intOf uv).toNat)
    case atStart => exact ⟨u0, P, vs1, qs1, us1, rfl, hub0, fun i h => by rw [HU0.out]; exact h, fun i _ h => by rw [HU0.out] at h; exact h, HTk.out, HE.out⟩
    case round =>
     clear HTk HE HU0 c1 z1 hub0
     obtain ⟨u, P2, vs2, qs2, us2, rfl, hub, hb1, hb2, hTk2, hE2⟩ := hrel
     obtain ⟨wC, rfl⟩ : ∃ x, x = wr := ⟨_, rfl⟩
     have HB1 := Lib.hid hb1
     have HB2 := Lib.hid hb2
     have HE2 := Lib.hid hE2
     by_cases hz : u = 0
     · subst hz
       have HTk2 := Lib.hid hTk2
       clear hTk2 hE2 hb1 hb2 hub
       go_wp2_with fail
       go_ret
       refine ⟨_, P2, vs2, qs2, us2, rfl, HTk2.out, fun m i hm hi hc => ?_⟩
       rw [HTOP.out] at hc
       rcases hc with h9 | ⟨rfl, h9⟩
       · exact HE2.out m i h9 hi
       · rw [HEN.out] at h9
         have h8 := HTk2.out.st.bit m i hm hi
         exact Classical.byContradiction fun h7 => by
          have h6 := HB2.out i h9 (h8.2 h7)
          rw [Nat.zero_testBit] at h6
          exact Bool.noConfusion h6
     · obtain ⟨l1, l2, l3, l4, l5⟩ := low_bit hz hub
       have n1 : ((u : Int) != 0) = true := by simp; omega
       have n2 : ((u : Int) == 0) = false := by simp; omega
       have HTZ := Lib.hid (tz_any u hub wC (HT.out.old hTk2.upd (fun e => hTb e.symm)))
       obtain ⟨i, hi9⟩ : ∃ i, Lib.ctz 64 u = i := ⟨_, rfl⟩
       rw [hi9] at HTZ l2 l3 l4 l5
       have HD := Lib.hid (drop_bit l4)
       have hbit : (us2 k).testBit i = true := hb1 i l4
       obtain ⟨u2, hu2⟩ : ∃ x, u - 2 ^ i = x := ⟨_, rfl⟩
       obtain ⟨u3, hu3⟩ : ∃ x, u - 1 = x := ⟨_, rfl⟩
       rw [hu3] at l1 l2
       rw [hu2] at l2 l3 HD
       have hub2 : u2 < 2 ^ 64 := by omega
       by_cases hie : i ≤ en
       · have d1 : (i : Int) ≤ en := by omega
         have ho := isRow_slot hk11 l5
         have HTA := Lib.hid (take_any hTk2.mem (fun k hk => Nat.lt_of_lt_of_le (HA.out k hk) hTk2.upd.size) hk11 l5 (hTk2.st.ub k hk11) hbit)
         have hln := hTk2.len ho
         have HTk2 := Lib.hid hTk2
         have HB := Lib.hid hbit
         have hlen9 := HLEN.out
         have hP9 : P2.length + (qs2 (k * 65 + 1 + i)).length ≤ 1000000000 := by omega
         clear hTk2 hE2 l4 hbit hu2 hu3 hi9 hln hlen9 hb1 hb2
         go_wp2_with fail
         refine HTZ.out.mono ?_
         rintro e w' ⟨rfl, rfl⟩
         go_wp2_with fail
         refine HTA.out.mono ?_
         rintro e w1 ⟨rfl, hm1, hu1⟩
         obtain ⟨ad, cc, hv, hnil, hsrc⟩ := HTk2.out.src hu1 ho
         rw [hv]
         have HM1 := Lib.hid hm1
         have HU1 := Lib.hid hu1
         have HOUT := Lib.hid (ownsRow_upd HTk2.out.out hu1 (fun q hq e => by have h8 := (HTk2.out.out.lt q hq).1; omega))
         have HSZ := Lib.hid (Nat.le_trans HTk2.out.upd.size hu1.size)
         clear hm1 hu1 HTZ HTA hv
         go_wp2_with (at_builtin; go_loud (refine wpList_app rfl _ _ 191 rfl w.heap.size TE i0 Z 4 32 Tryz.underlying191 hi hz0 hz1 hz2 rfl (by decide) (by decide) _ P2.length (es P2) rfl HOUT.out ad _ cc (es (qs2 (k * 65 + 1 + i))) rfl hnil (es_len _) hsrc (es_one _) hP9 HSZ.out ?_; intro v3 w3 hown3 hu3 hno3; have HTk3 := Lib.hid (HTk2.out.step hk11 l5 HB.out HM1.out HU1.out hown3 hu3 hbw (put_low HTk2.out.low)); clear hown3 hu3 hno3))
         go_roundw
         case rel =>
          refine ⟨u2, P2 ++ qs2 (k * 65 + 1 + i), _, _, _, rfl, hub2, fun j hj => ?_, fun j hj hj2 => ?_, HTk3.out, fun m j hm hj => by rw [put_ne _ _ (by omega)]; exact HE2.out m j hm hj⟩
          · rw [put_at, drop_bit HB.out]
            rw [HD.out] at hj
            simp only [Bool.and_eq_true] at hj ⊢
            exact ⟨HB1.out j hj.1, hj.2⟩
          · rw [put_at, drop_bit HB.out] at hj2
            rw [HD.out]
            simp only [Bool.and_eq_true] at hj2 ⊢
            exact ⟨HB2.out j hj hj2.1, hj2.2⟩
         case measure => simp [intOf]; omega
       · have d1 : ¬ (i : Int) ≤ en := by omega
         have HTk2 := Lib.hid hTk2
         clear hTk2 hE2 l4 hbit hu2 hu3 hi9 hb1 hb2
         go_wp2_with fail
         refine HTZ.out.mono ?_
         rintro e w' ⟨rfl, rfl⟩
         clear HTZ
         go_wp2_with fail
         go_roundw
         case rel =>
          refine ⟨u2, P2, vs2, qs2, us2, rfl, hub2, fun j hj => ?_, fun j hj hj2 => ?_, HTk2.out, HE2.out⟩
          · rw [HD.out] at hj
            simp only [Bool.and_eq_true] at hj
            exact HB1.out j hj.1
          · rw [HD.out]
            simp only [Bool.and_eq_true, decide_eq_true_eq]
            exact ⟨HB2.out j hj hj2, by omega⟩
         case measure => simp [intOf]; omega
end Go.Proofs.YtpgpjjkeginbbaaGreatDoor.WheelR
namespace Go.Proofs.YtpgpjjkeginbbaaGreatDoor.WheelR
open Go.RowKit Go.Proofs BigFrame Heap
set_option maxHeartbeats 4000000
set_option maxRecDepth 1000000
section
variable {A : Nat → Prop} {w0 w : World} {b now came room n : Nat} {vs : Nat → Value} {qs : Nat → List En} {us : Nat → Nat}
theorem len_any (h : WIn TW TE A w0 w b now came room n vs qs us) : Calls Tryz.prog 98 #[.pointer (some ⟨b, 0, none⟩)] w fun e w' => e = .returned (.int .i64 n) ∧ w = w' := by
 obtain ⟨_, _, c2, _, _⟩ := h.at_nums
 go_enter Tryz.func98, Tryz.ntmps98
 go_wp2_with fail
 go_ret
 exact ⟨rfl, rfl⟩
end
theorem row_at3 {w : World} {l : List En} {v : Value} (h : w.ownsRow 0 TE 4 v l.length (es l)) {j : Nat} {e : En} (he : l[j]? = some e) : ∃ g c, v = .slice (some ⟨g, 0, none⟩) l.length c ∧ w.cell? ⟨g, j * 4, none⟩ = some (.int .u64 (e.1 : Nat)) ∧ w.cell? ⟨g, j * 4 + 1, none⟩ = some (.int .u64 (e.2.1 : Nat)) ∧ w.cell? ⟨g, j * 4 + 2, none⟩ = some (.int .i64 (e.2.2.1 : Nat)) ∧ w.cell? ⟨g, j * 4 + 3, none⟩ = some (.int .u64 (e.2.2.2 : Nat)) := by
 have hj := get_lt he
 rcases id h.2 with ⟨_, h0⟩ | ⟨g, c, cur, rfl, _⟩
 · omega
 · have hat := HeapW.ents_at wid l j e he
   have hc := h.cells (g := g) rfl
   have hadd : ∀ j, (⟨g, 0, none⟩ : Addr).add j = ⟨g, j, none⟩ := fun j => by rw [add_at]; simp
   refine ⟨g, c, rfl, ?_, ?_, ?_, ?_⟩
   · have h9 := hc _ _ ((hat 0 (by decide)).trans rfl); rw [hadd] at h9; exact h9
   · have h9 := hc _ _ ((hat 1 (by decide)).trans rfl); rw [hadd] at h9; exact h9
   · have h9 := hc _ _ ((hat 2 (by decide)).trans rfl); rw [hadd] at h9; exact h9
   · have h9 := hc _ _ ((hat 3 (by decide)).trans rfl); rw [hadd] at h9; exact h9
theorem least_any {v : Value} {l : List En} (w : World) (h : w.ownsRow 0 TE 4 v l.length (es l)) (hlen : l.length ≤ 999999) (hb : ∀ e ∈ l, e.1 ≤ 18446744073709551615) :
 Calls Tryz.prog 99 #[v] w fun e w' => e = .returned (.tuple #[.int .u64 (leastOf l : Nat), .bool (decide (0 < l.length))]) ∧ Upd Nowhere w w' := by
 obtain ⟨n, hn⟩ : ∃ n, l.length = n := ⟨_, rfl⟩
 obtain ⟨ad, c, rfl⟩ := form0 h
 obtain ⟨r, hr⟩ : ∃ r, leastOf l = r := ⟨_, rfl⟩
 rw [hr]
 have H := Lib.hid h
 rw [hn] at H hlen ⊢
 have HN := Lib.hid hn
 have HR := Lib.hid hr
 have HB := Lib.hid hb
 obtain ⟨bo, hbo⟩ : ∃ x, decide (0 < n) = x := ⟨_, rfl⟩
 rw [hbo]
 have hbo2 : decide ((n : Int) > 0) = bo := by rw [← hbo]; simp
 clear h hr hn hb
 go_enter Tryz.func99, Tryz.ntmps99
 go_wp2_with fail
 go_loopw [4, 9] (fun mv i wr => ∃ (k m : Nat), k ≤ n ∧ i = .int .i64 k ∧ mv = .int .u64 m ∧ (l.take k).foldl (fun m e => min m e.1) 18446744073709551615 = m ∧ Upd Nowhere w wr) (fun _ i _ => n - (intOf i).toNat)
 case atStart => exact ⟨0, _, by omega, rfl, rfl, rfl, Upd.refl _ _⟩
 case round =>
  obtain ⟨k, m, hk, rfl, rfl, hm, hu⟩ := hrel
  obtain ⟨wB, rfl⟩ : ∃ x, x = wr := ⟨_, rfl⟩
  by_cases hlt : k < n
  · have hI : (k : Int) < n := by omega
    obtain ⟨e, he⟩ : ∃ e, l[k]? = some e := ⟨l[k]'(by rw [HN.out]; exact hlt), by simp⟩
    have hrow : w.ownsRow 0 TE 4 (.slice ad n c) l.length (es l) := by have h9 := H.out; rw [HN.out]; exact h9
    obtain ⟨g, c', hv, k0, k1, k2, k3⟩ := row_at3 hrow he
    obtain ⟨ead, _⟩ : ad = some ⟨g, 0, none⟩ ∧ c = c' := by injection hv with a b c; exact ⟨a, c⟩
    subst ead
    have htk : l.take (k + 1) = l.take k ++ [e] := by rw [List.take_add_one, he]; rfl
    have hmin : (l.take (k + 1)).foldl (fun m e => min m e.1) 18446744073709551615 = min m e.1 := by rw [htk, List.foldl_append, hm]; rfl
    obtain ⟨m2, hm2⟩ : ∃ x, min m e.1 = x := ⟨_, rfl⟩
    rw [hm2] at hmin
    have em : (if e.1 < m then (e.1 : Int) else (m : Int)) = (m2 : Int) := by rw [← hm2]; split <;> omega
    have em2 : min (m : Int) (e.1 : Int) = (m2 : Int) := by rw [← hm2]; omega
    have j0 := cell_old hu k0
    have j1 := cell_old hu k1
    have j2 := cell_old hu k2
    have j3 := cell_old hu k3
    have HMIN := Lib.hid hmin
    have HU := Lib.hid hu
    clear hrow hv k0 k1 k2 k3 htk hmin hm2 hm he hu
    go_wp2_with fail
    go_roundw
    case rel => exact ⟨k + 1, m2, by omega, by go_num, rfl, HMIN.out, HU.out.alloc _⟩
    case measure => simp [intOf]; omega
  · have hI : ¬ (k : Int) < n := by omega
    obtain rfl : k = n := by omega
    have e1 : (l.take k) = l := List.take_of_length_le (by rw [HN.out]; exact Nat.le_refl _)
    rw [e1] at hm
    have hmr : m = r := by rw [← hm]; exact HR.out
    subst hmr
    have HU := Lib.hid hu
    clear hm hu e1
    go_wp2_with fail
    go_ret2
    exact ⟨rfl, HU.out⟩
end Go.Proofs.YtpgpjjkeginbbaaGreatDoor.WheelR
namespace Go.Proofs.YtpgpjjkeginbbaaGreatDoor.WheelR
open Go.RowKit Go.Proofs BigFrame Heap
set_option maxHeartbeats 4000000
set_option maxRecDepth 1000000
/-- A wheel that was made since w0, off the blocks of A: s waits, in order. -/
def HasW (A : Nat → Prop) (w0 w : World) (b now came room : Nat) (s : List En) : Prop :=
 ∃ vs qs us, WIn TW TE A w0 w b now came room s.length vs qs us ∧ St now qs us ∧ Cal.Mt came (all qs) s ∧ s.length ≤ room ∧ room ≤ 4096 ∧ now ≤ 18446744073709551615
/-- The blocks that a wheel may write. -/
abbrev Free (A : Nat → Prop) (w0 : World) : Nat → Prop := fun k => w0.heap.size ≤ k ∧ ¬ A k
section
variable {A A' : Nat → Prop} {w0 w w' : World} {b now came room : Nat} {s : List En}
theorem HasW.kept (h : HasW A w0 w b now came room s) {S : Nat → Prop} (hu : Upd S w w') (hS : ∀ k, S k → k < w.heap.size → A k ∨ k < w0.heap.size) : HasW A w0 w' b now came room s := by
 obtain ⟨vs, qs, us, h1, h2⟩ := h
 exact ⟨vs, qs, us, h1.kept hu hS, h2⟩
theorem HasW.old (h : HasW A w0 w b now came room s) (hu : Upd Nowhere w w') : HasW A w0 w' b now came room s := h.kept hu (fun _ h _ => h.elim)
theorem HasW.re (h : HasW A w0 w b now came room s) (hA : ∀ k, A' k → A k ∨ w.heap.size ≤ k) : HasW A' w0 w b now came room s := by
 obtain ⟨vs, qs, us, h1, h2⟩ := h
 exact ⟨vs, qs, us, h1.re hA, h2⟩
theorem HasW.low (h : HasW A w0 w b now came room s) : w0.heap.size ≤ w.heap.size := by obtain ⟨vs, qs, us, h1, h2⟩ := h; exact h1.low
theorem HasW.blk (h : HasW A w0 w b now came room s) : w0.heap.size ≤ b ∧ ¬ A b := by obtain ⟨vs, qs, us, h1, h2⟩ := h; exact h1.far b (.inl rfl)
theorem HasW.old_all (h : HasW A w0 w b now came room s) : (∀ e ∈ s, e.2.1 < came) ∧ s.Pairwise (fun a b => ahd a b = true) ∧ ∀ e ∈ s, e.1 ≤ 18446744073709551615 := by
 obtain ⟨vs, qs, us, h1, h2, h3, h4⟩ := h
 exact ⟨h3.old, h3.ord, fun e he => by obtain ⟨o, ho, heo⟩ := mem_all.1 (h3.perm.mem_iff.1 he); exact h2.big o ho e heo⟩
theorem hasW_new (room : Nat) (h1 : 1 ≤ room) (h2 : room ≤ 4096) (w : World) :
 Calls Tryz.prog 27 #[.int .i64 room] w fun e w' => e = .returned (.tuple #[.pointer (some ⟨w.heap.size, 0, none⟩), .int .i64 0]) ∧ HasW (fun _ => False) w w' w.heap.size 0 0 room [] ∧ Upd Nowhere w w' :=
 (new_good room h1 h2 w).mono fun _ _ ⟨x, y, z⟩ => ⟨x, ⟨_, _, _, y, St.nil 0, by rw [all_nil]; exact Cal.Mt.nil, Nat.zero_le _, h2, Nat.zero_le _⟩, z⟩
theorem hasW_len (h : HasW A w0 w b now came room s) : Calls Tryz.prog 98 #[.pointer (some ⟨b, 0, none⟩)] w fun e w' => e = .returned (.int .i64 (s.length : Nat)) ∧ w = w' := by
 obtain ⟨vs, qs, us, h1, _⟩ := h; exact len_any h1
end
theorem lay_any {A : Nat → Prop} {w0 w : World} {b now came room n : Nat} {vs : Nat → Value} {qs : Nat → List En} {us : Nat → Nat} (h : WIn TW TE A w0 w b now came room n vs qs us) (hs : St now qs us) (hA : ∀ k, A k → k < w.heap.size) (e : En) (hn : now ≤ 18446744073709551615) (he : e.1 ≤ 18446744073709551615) (hlen : (all qs).length ≤ 999999) :
 Calls Tryz.prog 102 #[.pointer (some ⟨b, 0, none⟩), V e] w fun x w' => x = .returned (.tuple #[]) ∧
  (∃ vs' qs' us', WIn TW TE A w0 w' b now came room n vs' qs' us' ∧ St now qs' us' ∧ (all qs').Perm (e :: all qs)) ∧ Upd (Free A w0) w w' := by
 have hst := hs.lay hn e he
 have hro := off_row hn he
 have hl := len_all (qs := qs) hro
 have hpm := all_push qs hro e
 by_cases hle : e.1 ≤ now
 · have eo : off now e.1 = 715 := if_pos hle
   have eu : us_lay now us e = us := if_pos hle
   rw [eo] at hst hpm hl
   rw [eu] at hst
   refine (lay_late h hA e hle (by omega)).mono ?_
   rintro x w' ⟨rfl, ⟨v', h1⟩, h2⟩
   exact ⟨rfl, ⟨_, _, _, h1, hst, hpm⟩, h2⟩
 · have eo : off now e.1 = lvl now e.1 * 65 + 1 + plc (lvl now e.1) e.1 := if_neg hle
   have eu : us_lay now us e = put us (lvl now e.1) (us (lvl now e.1) ||| 2 ^ plc (lvl now e.1) e.1) := if_neg hle
   rw [eu] at hst
   refine (lay_slot h hA e (by omega) he rfl rfl eo.symm (hs.ub _ (by have := lvl_lt hn he; omega)) (by omega)).mono ?_
   rintro x w' ⟨rfl, ⟨v', h1⟩, h2⟩
   exact ⟨rfl, ⟨_, _, _, h1, hst, hpm⟩, h2⟩
abbrev TRi : TypeId := 105
theorem add_room {A : Nat → Prop} {w0 w : World} {b now came room : Nat} {s : List En} (h : HasW A w0 w b now came room s) (hl : s.length < room) (hA : ∀ k, A k → k < w.heap.size) (at' : Nat) (hat : at' ≤ 18446744073709551615) (x0 x1 : Nat) (hc : came < 18446744073709551615) :
 Calls Tryz.prog 74 #[.pointer (some ⟨b, 0, none⟩), .int .u64 at', .agg #[.int .i64 (x0 : Nat), .int .u64 (x1 : Nat)]] w fun e w' => e = .returned (.bool true) ∧ HasW A w0 w' b now (came + 1) room (Cal.insE (at', came, x0, x1) s) ∧ Upd (Free A w0) w w' := by
 obtain ⟨vs, qs, us, h1, hs, hm, h4, h5, h6⟩ := h
 have hall : (all qs).length ≤ 999999 := by have := hm.len; omega
 have hins : (Cal.insE (at', came, x0, x1) s).length = s.length + 1 := by rw [(Cal.insE_perm _ _).length_eq]; rfl
 obtain ⟨n, hn⟩ : ∃ n, s.length = n := ⟨_, rfl⟩
 obtain ⟨n1, hn1⟩ : ∃ n1, n + 1 = n1 := ⟨_, rfl⟩
 obtain ⟨d, hd⟩ : ∃ d, came + 1 = d := ⟨_, rfl⟩
 rw [hn] at h1 hl h4 hins
 have hUX : Upd Nowhere w (w.alloc (.cells #[.int .i64 (x0 : Nat), .int .u64 (x1 : Nat)] TRi)) := (Upd.refl _ _).alloc _
 obtain ⟨_, c1, c2, c3, z⟩ := (h1.old hUX).at_nums
 have d1 : decide ((n : Int) ≥ room) = false := decide_eq_false (by omega)
 have d2 : decide (room ≤ n) = false := decide_eq_false (by omega)
 have ed : IntKind.u64.wrap ((came : Int) + 1) = (d : Int) := by rw [IntKind.wrap_u64]; omega
 have en : IntKind.i64.wrap ((n : Int) + 1) = (n1 : Int) := by rw [IntKind.wrap_i64]; omega
 have hn1r : n1 ≤ room := by omega
 have HMt := Lib.hid hm
 have H1 := Lib.hid h1
 have HS := Lib.hid hs
 have HA := Lib.hid hA
 have HINS := Lib.hid (hins.trans hn1)
 have HD := Lib.hid hd
 have HN := Lib.hid hn
 have HFB := Lib.hid (h1.far b (.inl rfl))
 clear hm h1 hs hA hins hn1 hd hn
 go_enter Tryz.func74, Tryz.ntmps74
 go_wp2_with fail
 go_quiet (fail)
 have H2 := Lib.hid (H1.out.old ((((Upd.refl Nowhere w).alloc (.cells #[.int .i64 (x0 : Nat), .int .u64 (x1 : Nat)] TRi)).drewN nq)))
 have HU2 := Lib.hid ((((Upd.refl Nowhere w).alloc (.cells #[.int .i64 (x0 : Nat), .int .u64 (x1 : Nat)] TRi)).drewN nq))
 have HA2 : Hid (∀ k, A k → k < ((w.alloc (.cells #[.int .i64 (x0 : Nat), .int .u64 (x1 : Nat)] TRi)).drewN nq).heap.size) := Lib.hid (fun k hk => Nat.lt_of_lt_of_le (HA.out k hk) HU2.out.size)
 have hXB : Blk ((w.alloc (.cells #[.int .i64 (x0 : Nat), .int .u64 (x1 : Nat)] TRi)).drewN nq) w.heap.size #[.int .i64 (x0 : Nat), .int .u64 (x1 : Nat)] TRi := (Blk.new w _ TRi).drewN nq
 clear c1 c2 c3 z H1 hUX
 generalize (w.alloc (.cells #[.int .i64 (x0 : Nat), .int .u64 (x1 : Nat)] TRi)).drewN nq = w1 at *
 obtain ⟨kx0, kx1, _, _⟩ := cells2 hXB
 obtain ⟨_, c1, _, _, z⟩ := H2.out.at_nums
 have HLY := fun k => Lib.hid (lay_any (H2.out.old ((Upd.refl Nowhere w1).drewN k)) HS.out (by exact HA2.out) (at', came, x0, x1) h6 hat hall)
 go_wp2_with fail
 refine wp_region_tail 8 (by kernel_rfl) (by kernel_rfl) ?_
 simp only [List.take_succ_cons, List.take_zero, List.drop_succ_cons, List.drop_zero]
 repeat (go_big_quiet_step (fail))
 refine wpQuiet_nil ?_
 rintro _ ⟨nq2, rfl⟩
 go_wp2_with fail
 refine (HLY nq2).out.mono ?_
 rintro e w2 ⟨rfl, ⟨vs2, qs2, us2, h2, hs2, hp2⟩, hu2⟩
 obtain ⟨_, k1, k2, _, z2⟩ := h2.at_nums
 have y1 := z2 717
 have y2 := z2 718
 have HP := Lib.hid hp2
 have H3 := Lib.hid ((h2.setCame d).setN n1)
 have HS2 := Lib.hid hs2
 have HU3 := Lib.hid ((((HU2.out.drewN nq2).any _).trans hu2 (fun _ _ h => h)).setCell (a := ⟨b, 717, none⟩) (fun _ => HFB.out) (.int .u64 (d : Nat)) |>.setCell (a := ⟨b, 718, none⟩) (fun _ => HFB.out) (.int .i64 (n1 : Nat)))
 clear h2 hp2 hs2 hu2 c1 z z2 HLY
 go_wp2_with fail
 refine Stage.out ?_
 go_wp2_with fail
 go_ret
 refine ⟨rfl, ⟨vs2, qs2, us2, by rw [HINS.out, HD.out]; exact H3.out, HS2.out, ?_, by rw [HINS.out]; omega, h5, h6⟩, HU3.out⟩
 refine ⟨((Cal.insE_perm _ _).trans (HMt.out.perm.cons _)).trans HP.out.symm, Cal.insE_ord _ _ HMt.out.ord HMt.out.old, fun e he => ?_⟩
 rcases List.mem_cons.1 ((Cal.insE_perm _ _).mem_iff.1 he) with rfl | he
 · exact Nat.lt_succ_self _
 · exact Nat.lt_succ_of_lt (HMt.out.old e he)
end Go.Proofs.YtpgpjjkeginbbaaGreatDoor.WheelR
namespace Go.Proofs.YtpgpjjkeginbbaaGreatDoor.WheelR
open Go.RowKit Go.Proofs BigFrame Heap Go.Sort
set_option maxHeartbeats 4000000
set_option maxRecDepth 1000000
/-- How two numbers stand. -/
def c3 (x y : Nat) : Int := if x < y then -1 else if y < x then 1 else 0
theorem nan_any (x : Nat) (w : World) : Calls Tryz.prog 166 #[.int .u64 x] w fun e w' => e = .returned (.bool false) ∧ w = w' := by
 have n1 : ((x : Int) != x) = false := by simp
 go_enter Tryz.func166, Tryz.ntmps166
 go_wp2_with fail
 go_ret
 exact ⟨rfl, rfl⟩
theorem cmp_any (x y : Nat) (w : World) : Calls Tryz.prog 141 #[.int .u64 x, .int .u64 y] w fun e w' => e = .returned (.int .i64 (c3 x y)) ∧ w = w' := by
 have HN := fun (x : Nat) u => Lib.hid (nan_any x u)
 rcases Nat.lt_trichotomy x y with h | h | h
 · have d1 : decide (x < y) = true := decide_eq_true h
   have e : c3 x y = -1 := by unfold c3; rw [if_pos h]
   rw [e]
   go_enter Tryz.func141, Tryz.ntmps141
   go_wp2_with fail
   refine ((HN _ _).out).mono ?_
   rintro e w' ⟨rfl, rfl⟩
   go_wp2_with fail
   refine ((HN _ _).out).mono ?_
   rintro e w' ⟨rfl, rfl⟩
   go_wp2_with fail
   go_ret
   exact ⟨rfl, rfl⟩
 · subst h
   have d1 : decide (x < x) = false := decide_eq_false (Nat.lt_irrefl x)
   have e : c3 x x = 0 := by unfold c3; rw [if_neg (Nat.lt_irrefl x), if_neg (Nat.lt_irrefl x)]
   rw [e]
   go_enter Tryz.func141, Tryz.ntmps141
   go_wp2_with fail
   refine ((HN _ _).out).mono ?_
   rintro e w' ⟨rfl, rfl⟩
   go_wp2_with fail
   refine ((HN _ _).out).mono ?_
   rintro e w' ⟨rfl, rfl⟩
   go_wp2_with fail
   go_ret
   exact ⟨rfl, rfl⟩
 · have d1 : decide (x < y) = false := decide_eq_false (by omega)
   have d2 : decide (y < x) = true := decide_eq_true h
   have e : c3 x y = 1 := by unfold c3; rw [if_neg (by omega), if_pos h]
   rw [e]
   go_enter Tryz.func141, Tryz.ntmps141
   go_wp2_with fail
   refine ((HN _ _).out).mono ?_
   rintro e w' ⟨rfl, rfl⟩
   go_wp2_with fail
   refine ((HN _ _).out).mono ?_
   rintro e w' ⟨rfl, rfl⟩
   go_wp2_with fail
   go_ret
   exact ⟨rfl, rfl⟩
theorem or_any (g : Nat) (a b : Int) (c : Nat) (w : World) (h0 : w.cell? ⟨g, 0, none⟩ = some (.int .i64 a)) (h1 : w.cell? ⟨g, 1, none⟩ = some (.int .i64 b)) :
 Calls Tryz.prog 140 #[.slice (some ⟨g, 0, none⟩) 2 c] w fun e w' => e = .returned (.int .i64 (if a ≠ 0 then a else b)) ∧ w = w' := by
 by_cases ha : a = 0
 · subst ha
   rw [if_neg (by simp)]
   by_cases hb : b = 0
   · subst hb
     go_enter Tryz.func140, Tryz.ntmps140
     go_wp2_with fail
     go_loopw [8] (fun i wr => ∃ (k : Nat), k ≤ 2 ∧ i = .int .i64 k ∧ wr = w) (fun i _ => 2 - (intOf i).toNat)
     case atStart => exact ⟨0, by omega, rfl, rfl⟩
     case round =>
      obtain ⟨k, hk, rfl, rfl⟩ := hrel
      obtain rfl | rfl | rfl : k = 0 ∨ k = 1 ∨ k = 2 := by omega
      · go_wp2_with fail
        go_roundw
        case rel => exact ⟨1, by omega, by go_num, (by first | trivial | rfl)⟩
        case measure => simp [intOf]
      · go_wp2_with fail
        go_roundw
        case rel => exact ⟨2, by omega, by go_num, (by first | trivial | rfl)⟩
        case measure => simp [intOf]
      · go_wp2_with fail
        go_ret
        exact ⟨rfl, rfl⟩
   · have n1 : (b != 0) = true := by simpa using hb
     go_enter Tryz.func140, Tryz.ntmps140
     go_wp2_with fail
     go_loopw [8] (fun i wr => ∃ (k : Nat), k ≤ 1 ∧ i = .int .i64 k ∧ wr = w) (fun i _ => 2 - (intOf i).toNat)
     case atStart => exact ⟨0, by omega, rfl, rfl⟩
     case round =>
      obtain ⟨k, hk, rfl, rfl⟩ := hrel
      obtain rfl | rfl : k = 0 ∨ k = 1 := by omega
      · go_wp2_with fail
        go_roundw
        case rel => exact ⟨1, by omega, by go_num, (by first | trivial | rfl)⟩
        case measure => simp [intOf]
      · go_wp2_with fail
        go_ret
        exact ⟨rfl, rfl⟩
 · rw [if_pos ha]
   have n1 : (a != 0) = true := by simpa using ha
   go_enter Tryz.func140, Tryz.ntmps140
   go_wp2_with fail
   go_loopw [8] (fun i wr => i = .int .i64 0 ∧ wr = w) (fun i _ => 2 - (intOf i).toNat)
   case atStart => exact ⟨rfl, rfl⟩
   case round =>
    obtain ⟨rfl, rfl⟩ := hrel
    go_wp2_with fail
    go_ret
    exact ⟨rfl, rfl⟩
theorem or_eq {g : Nat} {a b r : Int} {c : Nat} {w : World} (hr : (if a ≠ 0 then a else b) = r) (h0 : w.cell? ⟨g, 0, none⟩ = some (.int .i64 a)) (h1 : w.cell? ⟨g, 1, none⟩ = some (.int .i64 b)) :
 Calls Tryz.prog 140 #[.slice (some ⟨g, 0, none⟩) 2 c] w fun e w' => e = .returned (.int .i64 r) ∧ w = w' := by rw [← hr]; exact or_any g a b c w h0 h1
/-- What order tells. -/
def cw (x y : En) : Int := if c3 x.1 y.1 ≠ 0 then c3 x.1 y.1 else c3 x.2.1 y.2.1
theorem keep4 {w w' : World} {a0 a1 a2 a3 : Addr} {v0 v1 v2 v3 : Value} (y : Upd Nowhere w w') (h : w.cell? a0 = some v0 ∧ w.cell? a1 = some v1 ∧ w.cell? a2 = some v2 ∧ w.cell? a3 = some v3) : w'.cell? a0 = some v0 ∧ w'.cell? a1 = some v1 ∧ w'.cell? a2 = some v2 ∧ w'.cell? a3 = some v3 := by
 obtain ⟨h0, h1, h2, h3⟩ := h
 exact ⟨cell_old y h0, cell_old y h1, cell_old y h2, cell_old y h3⟩
theorem order_any (x y : En) (w : World) :
 Calls Tryz.prog 104 #[V x, V y] w fun e w' => e = .returned (.int .i64 (cw x y)) ∧ ∃ q os', w' = grow (w.drewN q) os' := by
 obtain ⟨x0, x1, x2, x3⟩ := x
 obtain ⟨y0, y1, y2, y3⟩ := y
 have HC := fun (x y : Nat) u => Lib.hid (cmp_any x y u)
 obtain ⟨r, hr⟩ : ∃ r, cw (x0, x1, x2, x3) (y0, y1, y2, y3) = r := ⟨_, rfl⟩
 rw [hr]
 have HR : Hid ((if c3 x0 y0 ≠ 0 then c3 x0 y0 else c3 x1 y1) = r) := Lib.hid hr
 have hB : Blk ((w.alloc (.cells #[.int .u64 x0, .int .u64 x1, .int .i64 (x2 : Nat), .int .u64 (x3 : Nat)] TE)).alloc (.cells #[.int .u64 y0, .int .u64 y1, .int .i64 (y2 : Nat), .int .u64 (y3 : Nat)] TE)) w.heap.size #[.int .u64 x0, .int .u64 x1, .int .i64 (x2 : Nat), .int .u64 (x3 : Nat)] TE := (Blk.new _ _ _).alloc _
 have hC : Blk ((w.alloc (.cells #[.int .u64 x0, .int .u64 x1, .int .i64 (x2 : Nat), .int .u64 (x3 : Nat)] TE)).alloc (.cells #[.int .u64 y0, .int .u64 y1, .int .i64 (y2 : Nat), .int .u64 (y3 : Nat)] TE)) (w.heap.size + 1) #[.int .u64 y0, .int .u64 y1, .int .i64 (y2 : Nat), .int .u64 (y3 : Nat)] TE := Blk.new2 _ _ _ _
 obtain ⟨a0, a1, _, _, _, _, _, _⟩ := cells4 hB
 obtain ⟨b0, b1, _, _, _, _, _, _⟩ := cells4 hC
 have HW : Hid ((w.alloc (.cells #[.int .u64 x0, .int .u64 x1, .int .i64 (x2 : Nat), .int .u64 (x3 : Nat)] TE)).alloc (.cells #[.int .u64 y0, .int .u64 y1, .int .i64 (y2 : Nat), .int .u64 (y3 : Nat)] TE) = grow w #[.cells #[.int .u64 x0, .int .u64 x1, .int .i64 (x2 : Nat), .int .u64 (x3 : Nat)] TE, .cells #[.int .u64 y0, .int .u64 y1, .int .i64 (y2 : Nat), .int .u64 (y3 : Nat)] TE]) := Lib.hid (by rw [alloc_eq_grow, alloc_eq_grow, grow_grow]; rfl)
 clear hr hB hC
 go_enter Tryz.func104, Tryz.ntmps104
 go_wp2_with fail
 obtain ⟨wF, hwF⟩ : ∃ wF, (w.alloc (.cells #[.int .u64 x0, .int .u64 x1, .int .i64 (x2 : Nat), .int .u64 (x3 : Nat)] TE)).alloc (.cells #[.int .u64 y0, .int .u64 y1, .int .i64 (y2 : Nat), .int .u64 (y3 : Nat)] TE) = wF := ⟨_, rfl⟩
 rw [hwF] at a0 a1 b0 b1 HW ⊢
 clear hwF
 have n0 : (wF.alloc (.cells #[.int .i64 (c3 x0 y0), .int .i64 (c3 x1 y1)] 3)).drew.cell? ⟨wF.heap.size, 0, none⟩ = some (.int .i64 (c3 x0 y0)) := new_cells wF #[.int .i64 (c3 x0 y0), .int .i64 (c3 x1 y1)] _ 0 _ rfl
 have n1 : (wF.alloc (.cells #[.int .i64 (c3 x0 y0), .int .i64 (c3 x1 y1)] 3)).drew.cell? ⟨wF.heap.size, 1, none⟩ = some (.int .i64 (c3 x1 y1)) := new_cells wF #[.int .i64 (c3 x0 y0), .int .i64 (c3 x1 y1)] _ 1 _ rfl
 go_region_held3 (fun w' => w'.cell? ⟨w.heap.size, 0, none⟩ = some (.int .u64 x0) ∧ w'.cell? ⟨w.heap.size, 1, none⟩ = some (.int .u64 x1) ∧ w'.cell? ⟨w.heap.size + 1, 0, none⟩ = some (.int .u64 y0) ∧ w'.cell? ⟨w.heap.size + 1, 1, none⟩ = some (.int .u64 y1)) (first | exact ⟨a0, a1, b0, b1⟩ | assumption | exact keep4 (by repeat (first | with_reducible exact Upd.refl _ _ | with_reducible refine Upd.drew ?_ | with_reducible refine Upd.alloc ?_ _)) ⟨a0, a1, b0, b1⟩) (first | (go_at_call 141; refine (HC _ _ _).out.mono ?_; rintro e w9 ⟨rfl, rfl⟩) | (go_at_call 140; refine (or_eq HR.out n0 n1).mono ?_; rintro e w9 ⟨rfl, rfl⟩))
 go_wp2_with fail
 go_ret
 exact ⟨rfl, 1, _, by rw [HW.out, alloc_eq_grow, grow_grow]; rfl⟩
theorem c3_lt (x y : Nat) : c3 x y < 0 ↔ x < y := by unfold c3; split; simp [*]; split <;> simp <;> omega
theorem c3_eq (x y : Nat) : c3 x y = 0 ↔ x = y := by unfold c3; split; simp; omega; split <;> simp <;> omega
end Go.Proofs.YtpgpjjkeginbbaaGreatDoor.WheelR
namespace Go.Proofs.YtpgpjjkeginbbaaGreatDoor
open Go.RowKit Go.Sort
section
variable {α : Type} [Inhabited α]
theorem upd_mapBlock (w : World) (blk : Nat) (f : Array Value → Array Value) : Upd (fun q => q = blk) w (mapBlock w blk f) := by
 refine ⟨rfl, rfl, rfl, by simp [mapBlock], fun k _ hk => ?_⟩
 have : blk ≠ k := fun e => hk e.symm
 simp [mapBlock, Array.getElem?_modify, this]
theorem upd_grow {S : Nat → Prop} {w w' : World} (h : Upd S w w') (os : Array Obj) : Upd S w (grow w' os) :=
 ⟨h.os, h.tape, h.output, by have := h.size; simp; omega, fun k hk hs => by rw [← h.block k hk hs]; exact heap_grow_old _ _ (Nat.lt_of_lt_of_le hk h.size)⟩
theorem upd_ahead {S : Nat → Prop} {w w' : World} (h : Upd S w w') (n : Nat) : Upd S w (Sort.ahead w' n) := ⟨h.os, h.tape, h.output, h.size, h.block⟩
theorem upd_sort (enc : α → List Value) (k : Nat) (w : World) (blk off m : Nat) (d : Array α) (os : Array Obj) : Upd (fun q => q = blk) w (sortWorldK enc k w blk off m d os) := by
 unfold sortWorldK putRowK putRow
 refine upd_grow ?_ os
 exact (upd_ahead (Upd.refl (fun q => q = blk) w) m).trans (upd_mapBlock _ _ _) (fun _ _ h => h)
/-- Ahead of all later ones, by an order that parts whatever is unlike. -/
theorem sorted_list (lt : α → α → Bool) (hirr : ∀ x y, lt x y = true → lt y x = false) {d d' : Array α} {s : List α} (hp : PermIn 0 d.size d d') (hs : SortedIn lt 0 d.size d')
 (h1 : s.Perm d.toList) (h2 : s.Pairwise (fun a b => lt a b = true)) : d'.toList = s := by
 have hsz : d'.size = d.size := hp.1
 have hpp : d'.toList.Perm d.toList := by
  have h := hp.2.2
  rw [← hsz] at h
  have e1 : d'.extract 0 d'.size = d' := by simp
  have e2 : d.extract 0 d'.size = d := by rw [hsz]; simp
  rwa [e1, e2] at h
 have hps : d'.toList.Perm s := hpp.trans h1.symm
 refine List.Perm.eq_of_pairwise (le := fun a b => lt b a = false) ?_ ?_ (h2.imp (fun h => hirr _ _ h)) hps
 · intro a b ha hb h3 h4
   have ha' : a ∈ s := hps.subset ha
   rcases List.mem_iff_getElem.1 ha' with ⟨i, hi, rfl⟩
   rcases List.mem_iff_getElem.1 hb with ⟨j, hj, rfl⟩
   rcases Nat.lt_trichotomy i j with hij | rfl | hij
   · rw [List.pairwise_iff_getElem.1 h2 i j hi hj hij] at h4; cases h4
   · rfl
   · rw [List.pairwise_iff_getElem.1 h2 j i hj hi hij] at h3; cases h3
 · refine List.pairwise_iff_getElem.2 (fun i j hi hj hij => ?_)
   have h := hs i j (Nat.zero_le _) hij (by rw [← hsz]; simpa using hj)
   rwa [getElem!_pos d' i (by simpa using hi), getElem!_pos d' j (by simpa using hj)] at h
end
theorem new_cellsB (w : World) (o : Obj) (c : Array Value) (t : TypeId) : ∀ (j : Nat) (u : Value), c.toList[j]? = some u → ((w.alloc o).alloc (.cells c t)).cell? ⟨w.heap.size + 1, j, none⟩ = some u := fun j u hu => by
 have h := new_cells (w.alloc o) c t j u hu
 simpa using h
end Go.Proofs.YtpgpjjkeginbbaaGreatDoor
namespace Go.Proofs.YtpgpjjkeginbbaaGreatDoor.WheelR
open Go.RowKit Go.Proofs BigFrame Heap Go.Sort
set_option maxHeartbeats 1000000
set_option maxRecDepth 1000000
theorem lt_cw (x y : En) : ltOf cw x y = ahd x y := by
 unfold ltOf cw
 rw [Bool.eq_iff_iff, ahd_iff, decide_eq_true_eq]
 by_cases h : x.1 = y.1
 · have e := (c3_eq x.1 y.1).2 h
   rw [if_neg (by rw [e]; simp), c3_lt]; omega
 · have e : c3 x.1 y.1 ≠ 0 := fun e => h ((c3_eq x.1 y.1).1 e)
   rw [if_pos e, c3_lt]; omega
theorem swo_cw : SWO (ltOf cw) where
 irrefl x := by rw [lt_cw]; exact ahd_self x
 trans x y z h1 h2 := by rw [lt_cw, ahd_iff] at *; omega
 ntrans x y z h1 h2 := by rw [lt_cw, ahd_not] at *; omega
theorem cmp_lays (blk off size : Nat) (w : World) : CmpLays Tryz.prog 104 #[] ec 4 cw blk off size w :=
 fun _ _ _ _ x y => order_any x y _
theorem es_flat (l : List En) : ∀ t, t < l.length * 4 → (es l)[t]? = some (flatK ec 4 l.toArray)[t]! := by
 intro t ht
 obtain ⟨q, r, hr, rfl⟩ : ∃ q r, r < 4 ∧ t = q * 4 + r := ⟨t / 4, t % 4, by omega, by omega⟩
 have hk : q < l.length := by omega
 obtain ⟨e, he⟩ : ∃ e, l[q]? = some e := ⟨l[q], by simp⟩
 have hat := HeapW.ents_at wid l q e he
 rw [get_flatK _ _ _ _ (by simpa using ht), show (q * 4 + r) / 4 = q by omega, show (q * 4 + r) % 4 = r by omega]
 have hg : l.toArray[q]! = e := by
  rw [getElem!_pos _ _ (by simpa using hk)]
  simpa [List.getElem?_eq_getElem hk] using he
 rw [hg]
 obtain rfl | rfl | rfl | rfl : r = 0 ∨ r = 1 ∨ r = 2 ∨ r = 3 := by omega
 · exact (hat 0 hr).trans rfl
 · exact (hat 1 hr).trans rfl
 · exact (hat 2 hr).trans rfl
 · exact (hat 3 hr).trans rfl
theorem esK {w : World} {g c : Nat} {l : List En} (h : w.ownsRow 0 TE 4 (.slice (some ⟨g, 0, none⟩) l.length c) l.length (es l)) : HoldsK ec 4 w g 0 l.toArray := by
 intro t ht
 obtain ⟨cur, hb, _, h2, _, h3⟩ := Blk.own h
 have ht' : t < l.length * 4 := by simpa using ht
 refine ⟨?_, hb.free _⟩
 have h4 := es_flat l t ht'
 rw [← h3, List.getElem?_take_of_lt ht'] at h4
 rw [Nat.zero_add]
 exact hb.cellAt (by simpa using h4)
theorem holds_at {w : World} {g : Nat} {l : List En} (h : HoldsK ec 4 w g 0 l.toArray) {i : Nat} {e : En} (he : l[i]? = some e) :
 w.cell? ⟨g, i * 4, none⟩ = some (.int .u64 (e.1 : Nat)) ∧ w.cell? ⟨g, i * 4 + 1, none⟩ = some (.int .u64 (e.2.1 : Nat)) ∧ w.cell? ⟨g, i * 4 + 2, none⟩ = some (.int .i64 (e.2.2.1 : Nat)) ∧ w.cell? ⟨g, i * 4 + 3, none⟩ = some (.int .u64 (e.2.2.2 : Nat)) := by
 have hi := get_lt he
 have hg : l.toArray[i]! = e := by
  rw [getElem!_pos _ _ (by simpa using hi)]
  simpa [List.getElem?_eq_getElem hi] using he
 have h0 := (HoldsK.cell h (i := i) (c := 0) (by simpa using hi) (by decide)).1
 have h1 := (HoldsK.cell h (i := i) (c := 1) (by simpa using hi) (by decide)).1
 have h2 := (HoldsK.cell h (i := i) (c := 2) (by simpa using hi) (by decide)).1
 have h3 := (HoldsK.cell h (i := i) (c := 3) (by simpa using hi) (by decide)).1
 rw [hg] at h0 h1 h2 h3
 simp only [Nat.zero_add, Nat.add_zero] at h0 h1 h2 h3
 exact ⟨h0, h1, h2, h3⟩
theorem sort_any {w : World} {g c : Nat} {l s : List En} (h : HoldsK ec 4 w g 0 l.toArray) (hg : g < w.heap.size) (hl : l.length ≤ 999999) (hp : s.Perm l) (hs : s.Pairwise (fun a b => ahd a b = true)) :
 Calls Tryz.prog 103 #[.slice (some ⟨g, 0, none⟩) l.length c, .func (.func 104) #[] #[]] w fun e w' => e = .returned (.tuple #[]) ∧ HoldsK ec 4 w' g 0 s.toArray ∧ Upd (fun q => q = g) w w' := by
 have eg : ∀ args w, (callFunc 104 args).run Tryz.prog w = .ok (.enter 104 args) w := enters_of Tryz.func104 (by kernel_rfl) rfl
 have hcon := AnyQ.slices_SortFunc Tryz.sortW 4 Tryz.isAgg282 Tryz.sizeOf282 ec (fun _ => rfl) (fun x v hv => by simp [ec, HeapW.ent, KR] at hv; rcases hv with rfl | rfl | rfl | rfl <;> rfl) cw swo_cw 104 #[] g 0 c l.toArray w eg (cmp_lays g 0 _ w) h hg (by simp; omega)
 change Calls Tryz.prog 103 _ _ _ at hcon
 refine hcon.mono ?_
 rintro e w' ⟨rfl, d', n, os, hpi, hso, rfl⟩
 have hd : d'.toList = s := sorted_list (ltOf cw) (fun x y h => by rw [lt_cw] at *; exact ahd_asymm h) hpi hso hp (hs.imp (fun h => by rw [lt_cw]; exact h))
 have hd2 : d' = s.toArray := by rw [← hd]
 refine ⟨rfl, ?_, upd_sort _ _ _ _ _ _ _ _⟩
 rw [← hd2]
 refine holdsK_grow _ _ _ _ _ _ _ (by simp [putRowK, putRow, mapBlock, Sort.ahead]; exact hg) ?_
 exact holdsK_putRowK _ _ _ _ _ _ _ (holdsK_ahead _ _ _ _ _ _ _ h) hpi.1
end Go.Proofs.YtpgpjjkeginbbaaGreatDoor.WheelR
namespace Go.Proofs.YtpgpjjkeginbbaaGreatDoor.WheelR
open Go.RowKit Go.Proofs BigFrame Heap Go.Sort
set_option maxHeartbeats 4000000
set_option maxRecDepth 1000000
abbrev TI : TypeId := 105
theorem infoI : (Tryz.prog.info? TI).map (fun i => (i.zero, i.size, i.bytes)) = some (some (.agg #[.int .i64 0, .int .u64 0]), 2, 16) := by kernel_rfl
/-- What is due, and what is left. -/
def dueOf (now : Nat) (s : List En) : List En := s.filter fun e => decide (e.1 ≤ now)
def leftOf (now : Nat) (s : List En) : List En := s.filter fun e => decide (now < e.1)
theorem due_left (now : Nat) (s : List En) : (dueOf now s).length + (leftOf now s).length = s.length := by
 induction s with
 | nil => rfl
 | cons a r ih =>
   unfold dueOf leftOf at ih ⊢
   by_cases h : a.1 ≤ now
   · rw [List.filter_cons_of_pos (by simpa using h), List.filter_cons_of_neg (by simp; omega)]; simp only [List.length_cons]; omega
   · rw [List.filter_cons_of_neg (by simpa using h), List.filter_cons_of_pos (by simp; omega)]; simp only [List.length_cons]; omega
/-- What is handed out. -/
def outs (l : List En) : List Value := l.flatMap fun e => KR e.2.2
theorem WIn.re2 {A A' : Nat → Prop} {w0 w : World} {b now came room n : Nat} {vs : Nat → Value} {qs : Nat → List En} {us : Nat → Nat} (h : WIn TW TE A w0 w b now came room n vs qs us) (hA : ∀ k, A' k → A k ∨ ¬ Own b vs k) : WIn TW TE A' w0 w b now came room n vs qs us :=
 ⟨h.cur, h.row, h.ap, h.nb, fun k hk => ⟨(h.far k hk).1, fun h1 => (hA k h1).elim (h.far k hk).2 (fun h2 => h2 hk)⟩⟩
theorem upd_set_comm {S : Nat → Prop} {w w' : World} (hu : Upd S w w') (b i : Nat) (v : Value) : Upd S (w.setCell ⟨b, i, none⟩ v) (w'.setCell ⟨b, i, none⟩ v) := by
 have e1 : (w.setCell ⟨b, i, none⟩ v).heap.size = w.heap.size := by simp [World.setCell]
 have e2 : (w'.setCell ⟨b, i, none⟩ v).heap.size = w'.heap.size := by simp [World.setCell]
 refine ⟨hu.os, hu.tape, hu.output, by rw [e1, e2]; exact hu.size, fun k hk hs => ?_⟩
 rw [e1] at hk
 have h1 := hu.block k hk hs
 simp only [World.setCell, Array.getElem?_modify]
 rw [h1]
theorem St.late0 {now : Nat} {qs : Nat → List En} {us : Nat → Nat} (h : St now qs us) : St now (put qs 715 []) us :=
 h.sub (fun o => by
  by_cases e : o = 715
  · subst e; right; exact put_at _ _ _
  · left; exact put_ne _ _ e) (fun l i hl hi => by rw [put_ne _ _ (by omega)]; exact h.bit l i hl hi) h.ub
theorem sort_late {w : World} {v : Value} {l d : List En} (h : w.ownsRow 0 TE 4 v l.length (es l)) (hl : l.length ≤ 999999) (hp : d.Perm l) (hd : d.Pairwise (fun a b => ahd a b = true)) :
 Calls Tryz.prog 103 #[v, .func (.func 104) #[] #[]] w fun e w' => e = .returned (.tuple #[]) ∧ (∀ (j : Nat) (e : En), d[j]? = some e → ∃ g c, v = .slice (some ⟨g, 0, none⟩) l.length c ∧ w'.cell? ⟨g, j * 4, none⟩ = some (.int .u64 (e.1 : Nat)) ∧ w'.cell? ⟨g, j * 4 + 1, none⟩ = some (.int .u64 (e.2.1 : Nat)) ∧ w'.cell? ⟨g, j * 4 + 2, none⟩ = some (.int .i64 (e.2.2.1 : Nat)) ∧ w'.cell? ⟨g, j * 4 + 3, none⟩ = some (.int .u64 (e.2.2.2 : Nat))) ∧ Upd (fun k => v.ownBlock = some k) w w' := by
 rcases id h.2 with ⟨rfl, h0⟩ | ⟨g, c, cur, rfl, _⟩
 · have hcon := AnyF.slices_SortFunc_none Tryz.sortW none 0 (.func (.func 104) #[] #[]) w
   change Calls Tryz.prog 103 _ _ _ at hcon
   refine hcon.mono ?_
   rintro e w' ⟨rfl, rfl⟩
   refine ⟨rfl, fun j e he => ?_, Upd.refl _ _⟩
   have h1 := get_lt he
   rw [hp.length_eq] at h1
   omega
 · have hlt := (h.lt g rfl).2
   refine (sort_any (c := c) (esK h) hlt hl hp hd).mono ?_
   rintro e w' ⟨rfl, h1, h2⟩
   refine ⟨rfl, fun j e he => ?_, h2.mono (fun k _ hk => by rw [hk]; rfl)⟩
   obtain ⟨k0, k1, k2, k3⟩ := holds_at h1 he
   exact ⟨g, c, rfl, k0, k1, k2, k3⟩
theorem due_any {A : Nat → Prop} {w0 w : World} {b now came room : Nat} {s : List En} (h : HasW A w0 w b now came room s) (hA : ∀ k, A k → k < w.heap.size) (hT : Tab w) (hG : Tryz.tz64_ren.g 1 < w0.heap.size) (now' : Nat) (hn' : now' ≤ 18446744073709551615) :
 Calls Tryz.prog 61 #[.pointer (some ⟨b, 0, none⟩), .int .u64 now'] w fun e w' => ∃ v, e = .returned v ∧ w'.ownsRow w.heap.size TI 2 v (dueOf (max now now') s).length (outs (dueOf (max now now') s)) ∧ HasW (fun q => A q ∨ v.ownBlock = some q) w0 w' b (max now now') came room (leftOf (max now now') s) ∧ Upd (Free A w0) w w' := by
 obtain ⟨i0, hi, hz0, hz1, hz2⟩ := info_parts infoI
 have hbf := h.blk
 obtain ⟨vs, qs, us, h1, hs, hm, h4, h5, h6⟩ := h
 have hall : (all qs).length ≤ 999999 := by have := hm.len; omega
 obtain ⟨n, hn⟩ : ∃ n, s.length = n := ⟨_, rfl⟩
 rw [hn] at h1
 obtain ⟨nw, hnw⟩ : ∃ x, max now now' = x := ⟨_, rfl⟩
 rw [hnw]
 obtain ⟨c0, _, _, _, z0⟩ := h1.at_nums
 have H1 := Lib.hid h1
 have HS := Lib.hid hs
 have HM := Lib.hid hm
 have HA := Lib.hid hA
 have HT := Lib.hid hT
 have HALL := Lib.hid hall
 have HN := Lib.hid hn
 have hbw := h1.lt
 have hlow0 := h1.low
 clear h1 hs hm hA hT hall hn
 go_enter Tryz.func61, Tryz.ntmps61
 go_upto_if 18 with fail
 go_cut [5, 7] from 18 to 35 (fun _ _ wc => ∃ (vs1 : Nat → Value) (qs1 : Nat → List En) (us1 : Nat → Nat), WIn TW TE A w0 wc b nw came room n vs1 qs1 us1 ∧ St nw qs1 us1 ∧ (all qs1).Perm (all qs) ∧ Upd (Free A w0) w wc)
 case first =>
  by_cases hlt : now < now'
  · have d1 : decide (now < now') = true := decide_eq_true hlt
    obtain rfl : now' = nw := by omega
    have HPS := Lib.hid (pass_any H1.out HS.out HA.out now' hlt hn' HALL.out HT.out (fun e => by omega))
    go_wp2_with fail
    refine HPS.out.mono ?_
    rintro e w1 ⟨v, P, vs1, qs1, us1, rfl, htk, hps⟩
    have hst := HS.out.pass htk.st hlt hn' htk.sub hps
    have hbig : ∀ e ∈ P, e.1 ≤ 18446744073709551615 := fun e he => by
     obtain ⟨o, ho, heo⟩ := mem_all.1 (htk.perm.mem_iff.1 (List.mem_append_left _ he))
     exact HS.out.big o ho e heo
    have hPb : P.length ≤ 999999 := by have h9 := htk.perm.length_eq; rw [List.length_append] at h9; have := HALL.out; omega
    obtain ⟨N, hN⟩ : ∃ N, P.length = N := ⟨_, rfl⟩
    rw [hN] at hPb
    have hout := htk.out
    rw [hN] at hout
    obtain ⟨ad, c, hvf⟩ := form0 (ownsRow_base hout (Nat.zero_le _))
    obtain ⟨k0, _, _, _, y0⟩ := htk.mem.at_nums
    have hset : Upd (fun k => k = b) w1 (w1.setCell ⟨b, 716, none⟩ (.int .u64 (now' : Nat))) := upd_at _ _ _ _
    have hnp : ∀ k, v.ownBlock = some k → w.heap.size ≤ k := fun k hk => (hout.lt k hk).1
    have hm0 := (htk.mem.setNow now').re2 (A' := fun k => A k ∨ v.ownBlock = some k) (fun k hk => hk.elim .inl (fun h9 => .inr (fun ho => by
     have h8 := hnp k h9
     rcases ho with rfl | ⟨o, ho, hk2⟩
     · omega
     · have := htk.low o ho k hk2; omega)))
    have hrow0 := ownsRow_upd hout hset (fun k hk e => by have := hnp k hk; omega)
    have HM0 := Lib.hid hm0
    have HROW0 := Lib.hid hrow0
    have HST := Lib.hid hst
    have HPM := Lib.hid htk.perm
    have HBIG := Lib.hid hbig
    have HNN := Lib.hid hN
    have HNP := Lib.hid hnp
    have HVF := Lib.hid hvf
    have HU0 : Hid (Upd (Free A w0) w (w1.setCell ⟨b, 716, none⟩ (.int .u64 (now' : Nat)))) := Lib.hid ((htk.upd.trans hset (fun _ _ h => h)).mono (fun k _ hk => by rw [hk]; exact hbf))
    have hw1 : w.heap.size ≤ w1.heap.size := htk.upd.size
    clear htk hps hst hbig hN hout hset hnp hm0 hrow0 HPS
    subst hvf
    go_wp2_with fail
    have hsz1 : (w1.setCell ⟨b, 716, none⟩ (.int .u64 (now' : Nat))).heap.size = w1.heap.size := by simp [World.setCell]
    obtain ⟨w2, hw2⟩ : ∃ w2, w1.setCell ⟨b, 716, none⟩ (.int .u64 (now' : Nat)) = w2 := ⟨_, rfl⟩
    rw [hw2] at HM0 HROW0 HU0 hsz1 ⊢
    have hw2s : w.heap.size ≤ w2.heap.size := by omega
    clear hw2 hsz1 k0 y0
    go_loopw [28] (fun i wr => ∃ (k : Nat) (vs' : Nat → Value) (qs' : Nat → List En) (us' : Nat → Nat), k ≤ N ∧ i = .int .i64 k ∧ WIn TW TE (fun k => A k ∨ (Value.slice ad N c).ownBlock = some k) w0 wr b now' came room n vs' qs' us' ∧ St now' qs' us' ∧ (P.drop k ++ all qs').Perm (all qs) ∧ wr.ownsRow w.heap.size TE 4 (.slice ad N c) N (es P) ∧ Upd (Free A w0) w wr) (fun i _ => N - (intOf i).toNat)
    case atStart => exact ⟨0, vs1, qs1, us1, by omega, rfl, HM0.out, HST.out, HPM.out, HROW0.out, HU0.out⟩
    case round =>
     clear HM0 HROW0 HST HPM HU0
     obtain ⟨k, vs2, qs2, us2, hk, rfl, hm2, hs2, hp2, hr2, hu2⟩ := hrel
     obtain ⟨wB, rfl⟩ : ∃ x, x = wr := ⟨_, rfl⟩
     by_cases hlt2 : k < N
     · have hI : (k : Int) < N := by omega
       obtain ⟨e, he⟩ : ∃ e, P[k]? = some e := ⟨P[k]'(by rw [HNN.out]; exact hlt2), by simp⟩
       have hr0 : wB.ownsRow 0 TE 4 (.slice ad N c) P.length (es P) := by rw [HNN.out]; exact ownsRow_base hr2 (Nat.zero_le _)
       have hr0' : wB.ownsRow 0 TE 4 (.slice ad N c) P.length (es P) := hr0
       obtain ⟨g, c', hv, k0, k1, k2, k3⟩ := row_at3 hr0' he
       obtain ⟨ead, rfl⟩ : ad = some ⟨g, 0, none⟩ ∧ c = c' := by injection hv with a b c; exact ⟨a, c⟩
       subst ead
       have hdr : P.drop k = e :: P.drop (k + 1) := by
        rw [List.drop_eq_getElem_cons (by rw [HNN.out]; exact hlt2)]
        congr 1
        have := List.getElem?_eq_getElem (l := P) (i := k) (by rw [HNN.out]; exact hlt2)
        rw [this] at he; exact Option.some.inj he
       have hle2 : (all qs2).length ≤ 999999 := by
        have h9 := hp2.length_eq
        rw [List.length_append] at h9
        have := HALL.out
        omega
       have hal : Upd Nowhere wB (wB.alloc (.cells #[.int .u64 (e.1 : Nat), .int .u64 (e.2.1 : Nat), .int .i64 (e.2.2.1 : Nat), .int .u64 (e.2.2.2 : Nat)] TE)) := (Upd.refl _ _).alloc _
       have hAA : ∀ q, (A q ∨ (Value.slice (some ⟨g, 0, none⟩) N c).ownBlock = some q) → q < (wB.alloc (.cells #[.int .u64 (e.1 : Nat), .int .u64 (e.2.1 : Nat), .int .i64 (e.2.2.1 : Nat), .int .u64 (e.2.2.2 : Nat)] TE)).heap.size := fun q hq => Nat.lt_of_lt_of_le (by
        rcases hq with hq | hq
        · exact Nat.lt_of_lt_of_le (HA.out q hq) hu2.size
        · exact (hr2.lt q hq).2) hal.size
       have HLY := Lib.hid (lay_any (hm2.old hal) hs2 hAA e hn' (HBIG.out e (List.mem_of_getElem? he)) hle2)
       have HDR := Lib.hid hdr
       have HP2 := Lib.hid hp2
       have HR2 := Lib.hid (ownsRow_upd hr2 hal (fun _ _ h => h))
       have HU2 := Lib.hid (hu2.trans hal (fun _ _ h => h.elim))
       clear hr0 hr0' hv hdr hm2 hs2 hp2 hr2 hu2 he hal hAA hle2
       obtain ⟨e0, e1, e2, e3⟩ := e
       go_wp2_with fail
       refine HLY.out.mono ?_
       rintro x w3 ⟨rfl, ⟨vs3, qs3, us3, hm3, hs3, hp3⟩, hu3⟩
       have HM3 := Lib.hid hm3
       have HS3 := Lib.hid hs3
       have HP3 : Hid ((P.drop (k + 1) ++ all qs3).Perm (all qs)) := Lib.hid (by
        have h9 := HP2.out
        rw [HDR.out] at h9
        refine ((hp3.append_left _).trans ?_).trans h9
        exact List.perm_middle)
       have HR3 := Lib.hid (ownsRow_upd HR2.out hu3 (fun q hq e => e.2 (.inr hq)))
       have HU3 := Lib.hid (HU2.out.trans hu3 (fun q _ hq => ⟨hq.1, fun h9 => hq.2 (.inl h9)⟩))
       clear hm3 hs3 hp3 hu3 HLY
       go_wp2_with fail
       go_roundw
       case rel => exact ⟨k + 1, vs3, qs3, us3, by omega, by go_num, HM3.out, HS3.out, HP3.out, HR3.out, HU3.out⟩
       case measure => simp [intOf]; omega
     · have hI : ¬ (k : Int) < N := by omega
       obtain rfl : k = N := by omega
       have hdr : P.drop k = [] := List.drop_eq_nil_of_le (by rw [HNN.out]; exact Nat.le_refl _)
       rw [hdr, List.nil_append] at hp2
       have HM2 := Lib.hid (hm2.re (A' := A) (fun q hq => .inl (.inl hq)))
       have HS2 := Lib.hid hs2
       have HP2 := Lib.hid hp2
       have HU2 := Lib.hid hu2
       clear hm2 hs2 hp2 hu2 hr2 hdr
       go_wp2_with fail
       go_meet
       exact ⟨vs2, qs2, us2, HM2.out, HS2.out, HP2.out, HU2.out⟩
  · have d1 : decide (now < now') = false := decide_eq_false hlt
    obtain rfl : now = nw := by omega
    go_wp2_with fail
    go_meet
    exact ⟨vs, qs, us, H1.out, HS.out, List.Perm.refl _, Upd.refl _ _⟩
 case rest =>
  obtain ⟨vs1, qs1, us1, hm1, hs1, hp1, hu1⟩ := hcut
  obtain ⟨wS, rfl⟩ : ∃ x, x = wc := ⟨_, rfl⟩
  have hsp : s.Perm (all qs1) := HM.out.perm.trans hp1.symm
  obtain ⟨hd1, hd2⟩ := hs1.lies.due hsp
  have hdo : (dueOf nw s).Pairwise (fun a b => ahd a b = true) := HM.out.ord.filter _
  have hlo : (leftOf nw s).Pairwise (fun a b => ahd a b = true) := HM.out.ord.filter _
  have hl9 : (qs1 715).length ≤ 999999 := Nat.le_trans (len_all isRow_late) (by rw [hp1.length_eq]; exact HALL.out)
  obtain ⟨v1, hv1⟩ : ∃ v, vs1 715 = v := ⟨_, rfl⟩
  have hro := hm1.row 715 isRow_late
  rw [hv1] at hro
  have HSRT := Lib.hid (sort_late hro hl9 hd1 hdo)
  obtain ⟨N, hN⟩ : ∃ N, (dueOf nw s).length = N := ⟨_, rfl⟩
  have hqN : (qs1 715).length = N := by rw [← hN]; exact hd1.length_eq.symm
  rw [hqN] at hro HSRT hl9
  obtain ⟨ad1, cc1, hvf⟩ := form0 hro
  obtain ⟨n2, hn2⟩ : ∃ x, (leftOf nw s).length = x := ⟨_, rfl⟩
  have hnn := due_left nw s
  rw [hN, hn2, HN.out] at hnn
  obtain ⟨c1, z1⟩ := hm1.at_row isRow_late
  rw [hv1] at c1
  have hnb : v1.ownBlock ≠ some b := by rw [← hv1]; exact hm1.nb 715 isRow_late
  have hfar : ∀ k, v1.ownBlock = some k → Free A w0 k := fun k hk => hm1.far k (.inr ⟨715, isRow_late, by rw [hv1]; exact hk⟩)
  have hbS := hm1.lt
  have hsS : w.heap.size ≤ wS.heap.size := hu1.size
  have HM1 := Lib.hid hm1
  have HS1 := Lib.hid hs1
  have HU1 := Lib.hid hu1
  have HD2 := Lib.hid hd2
  have HLO := Lib.hid hlo
  have HNN := Lib.hid hN
  have HN2 := Lib.hid hn2
  have HV1 := Lib.hid hv1
  have HNB := Lib.hid hnb
  have HFAR := Lib.hid hfar
  have hn4 : n ≤ 4096 := by rw [← HN.out]; omega
  have en : IntKind.i64.wrap ((n : Int) - N) = (n2 : Int) := by rw [IntKind.wrap_i64]; omega
  clear hm1 hs1 hp1 hu1 hsp hd1 hd2 hdo hlo hro hN hqN hn2 hv1 hnb hfar hnn
  subst hvf
  go_wp2_with fail
  refine HSRT.out.mono ?_
  rintro e w2 ⟨rfl, hcel, hu2⟩
  have HCEL := Lib.hid hcel
  have HU2 := Lib.hid hu2
  have c2 : w2.cell? ⟨b, 715, none⟩ = some (.slice ad1 N cc1) := by rw [hu2.cell _ hbS HNB.out]; exact c1
  have hs2 : wS.heap.size ≤ w2.heap.size := hu2.size
  clear hcel hu2 c1 z1 HSRT
  go_wp2_with fail
  go_loopw [8, 46] (fun ov i wr => ∃ (k : Nat) (adq : Option Addr) (cq : Nat), k ≤ N ∧ i = .int .i64 k ∧ ov = .slice adq k cq ∧ wr.ownsRow w2.heap.size TI 2 ov k (outs ((dueOf nw s).take k)) ∧ Upd Nowhere w2 wr) (fun _ i _ => N - (intOf i).toNat)
  case atStart => exact ⟨0, none, 0, by omega, rfl, rfl, ownsRow_nil _ _ _ _, Upd.refl _ _⟩
  case round =>
   obtain ⟨k, adq, cq, hk, rfl, rfl, hown, hu⟩ := hrel
   obtain ⟨wB, rfl⟩ : ∃ x, x = wr := ⟨_, rfl⟩
   have HO := Lib.hid hown
   have HU := Lib.hid hu
   have hsz := hu.size
   clear hown hu
   by_cases hlt2 : k < N
   · have hI : (k : Int) < N := by omega
     obtain ⟨e, he⟩ : ∃ e, (dueOf nw s)[k]? = some e := ⟨(dueOf nw s)[k]'(by rw [HNN.out]; exact hlt2), by simp⟩
     obtain ⟨g, c', hv, j0, j1, j2, j3⟩ := HCEL.out k e he
     obtain ⟨ead, ecc⟩ : ad1 = some ⟨g, 0, none⟩ ∧ cc1 = c' := by injection hv with a b c; exact ⟨a, c⟩
     subst ead ecc
     have i0 := cell_old HU.out j0
     have i1 := cell_old HU.out j1
     have i2 := cell_old HU.out j2
     have i3 := cell_old HU.out j3
     have htk : outs ((dueOf nw s).take (k + 1)) = outs ((dueOf nw s).take k) ++ [.int .i64 (e.2.2.1 : Nat), .int .u64 (e.2.2.2 : Nat)] := by unfold outs; rw [List.take_add_one, he, List.flatMap_append]; rfl
     have HTK := Lib.hid htk
     clear hv j0 j1 j2 j3 htk he
     obtain ⟨e0, e1, e2, e3⟩ := e
     go_wp2_with (at_builtin; go_loud (refine wpList_push rfl _ _ 203 rfl w2.heap.size TI _ (.agg #[.int .i64 0, .int .u64 0]) 2 16 Tryz.underlying203 hi hz0 hz1 hz2 rfl (by decide) (by decide) _ _ _ rfl (ownsRow_upd HO.out (((Upd.refl _ _).alloc _).alloc _) (fun _ _ h => h)) (wB.heap.size + 1) 1 [.int .i64 (e2 : Nat), .int .u64 (e3 : Nat)] rfl rfl (new_cellsB _ _ #[_, _] _) (by simp [Value.oneCell']) (by omega) (by simp; omega) ?_; intro v4 w4 hown4 hu4 hn4; obtain ⟨ad4, c4, rfl⟩ : ∃ ad c, v4 = .slice ad (k + 1) c := by (rcases hown4.2 with ⟨rfl, h⟩ | ⟨g, cap, cur, rfl, _⟩); (exact absurd h (Nat.succ_ne_zero k)); (exact ⟨_, _, rfl⟩)))
     have HO4 := Lib.hid hown4
     have HU4 := Lib.hid (HU.out.trans (((((Upd.refl Nowhere wB).alloc _).alloc _).any _).trans hu4 (fun _ _ h => h)) (fun q hq h => absurd hq (Nat.not_lt.2 (HO.out.lt q h).1)))
     clear hown4 hu4 hn4
     go_wp2_with fail
     go_roundw
     case rel => exact ⟨k + 1, ad4, c4, by omega, by go_num, rfl, by rw [HTK.out]; exact HO4.out, HU4.out⟩
     case measure => simp [intOf]; omega
   · have hI : ¬ (k : Int) < N := by omega
     obtain rfl : k = N := by omega
     have htk : (dueOf nw s).take k = dueOf nw s := List.take_of_length_le (by rw [HNN.out]; exact Nat.le_refl _)
     have c3 := cell_old HU.out c2
     have HUS : Hid (Upd (fun q => (Value.slice ad1 k cc1).ownBlock = some q) wS wB) := Lib.hid (HU2.out.trans HU.out (fun _ _ h => h.elim))
     obtain ⟨_, _, d2, _, y⟩ := HM1.out.at_nums
     have c4 : wB.cell? ⟨b, 718, none⟩ = some (.int .i64 n) := by rw [HUS.out.cell _ hbS HNB.out]; exact d2
     have y4 : wB.frozen? ⟨b, 718, none⟩ = false := by rw [HUS.out.frozen _ hbS HNB.out]; exact y 718
     have y5 : wB.frozen? ⟨b, 715, none⟩ = false := by rw [HUS.out.frozen _ hbS HNB.out]; exact y 715
     have HTK := Lib.hid htk
     clear d2 y htk c2
     go_upto_region 18 with fail
     refine wp_region_tail 12 (by kernel_rfl) (by kernel_rfl) ?_
     simp only [List.take_succ_cons, List.take_zero, List.drop_succ_cons, List.drop_zero]
     repeat (go_big_quiet_step (fail))
     refine wpQuiet_nil ?_
     rintro _ ⟨nq, rfl⟩
     go_wp2
     refine Stage.out ?_
     have HUN := Lib.hid (upd_set_comm (HUS.out.drewN nq) b 718 (.int .i64 (n2 : Nat)))
     have HMN := Lib.hid ((HM1.out.setN n2).setRow HUN.out isRow_late (v' := .slice none 0 0) (q' := []) (fun q _ hq => by rw [HV1.out]; exact hq) (ownsRow_nil _ _ _ _) (fun q hq => by simp [Value.ownBlock] at hq) (fun q hq => by simp [World.setCell]; exact Nat.lt_of_lt_of_le (HA.out q hq) hsS))
     have HUF : Hid (Upd (Free A w0) w (((wB.drewN nq).setCell ⟨b, 718, none⟩ (.int .i64 (n2 : Nat))).setCell ⟨b, 715, none⟩ (.slice none 0 0))) := Lib.hid ((((HU1.out.trans HUS.out (fun q _ hq => HFAR.out q hq)).drewN nq).setCell (a := ⟨b, 718, none⟩) (fun _ => hbf) _).setCell (a := ⟨b, 715, none⟩) (fun _ => hbf) _)
     have HUB : Upd (fun q => q = b) wB (((wB.drewN nq).setCell ⟨b, 718, none⟩ (.int .i64 (n2 : Nat))).setCell ⟨b, 715, none⟩ (.slice none 0 0)) := (((Upd.refl (fun q => q = b) wB).drewN nq).trans (upd_at _ b 718 _) (fun _ _ h => h)).trans (upd_at _ b 715 _) (fun _ _ h => h)
     have HOF := Lib.hid (ownsRow_upd (ownsRow_base HO.out (show w.heap.size ≤ w2.heap.size by omega)) HUB (fun q hq e => by have h9 := (HO.out.lt q hq).1; omega))
     have HRE : Hid (∀ q, (A q ∨ (Value.slice adq k cq).ownBlock = some q) → A q ∨ ¬ Own b (put vs1 715 (.slice none 0 0)) q) := Lib.hid (fun q hq => hq.imp id (fun hv ho => by
      have g1 := (HO.out.lt q hv).1
      have g2 : q < wS.heap.size := by
       rcases ho with rfl | ⟨o, hr, hk⟩
       · exact HM1.out.lt
       · by_cases e : o = 715
         · subst e; simp [put, Value.ownBlock] at hk
         · exact HM1.out.lts (.inr ⟨o, hr, by simpa [put, e] using hk⟩)
      omega))
     clear HUB
     clear c4
     go_wp2_with fail
     go_ret
     refine ⟨_, rfl, by rw [HNN.out]; have h9 := HOF.out; rw [HTK.out] at h9; exact h9, ⟨_, _, us1, by rw [HN2.out]; exact HMN.out.re2 HRE.out, HS1.out.late0, ⟨HD2.out, HLO.out, fun e he => HM.out.old e (List.mem_filter.1 he).1⟩, ?_, h5, by omega⟩, HUF.out⟩
     have h9 := due_left nw s
     omega
end Go.Proofs.YtpgpjjkeginbbaaGreatDoor.WheelR
namespace Go.Proofs.YtpgpjjkeginbbaaGreatDoor.WheelR
open Go.RowKit Go.Proofs BigFrame Heap
set_option maxHeartbeats 4000000
set_option maxRecDepth 1000000
theorem keep2 {w w' B : World} {a0 a1 : Addr} {v0 v1 : Value} (y : Upd Nowhere w w') (h : Upd Nowhere B w ∧ w.cell? a0 = some v0 ∧ w.cell? a1 = some v1) : Upd Nowhere B w' ∧ w'.cell? a0 = some v0 ∧ w'.cell? a1 = some v1 := by
 obtain ⟨hu, h0, h1⟩ := h
 exact ⟨hu.trans y (fun _ _ h => h), cell_old y h0, cell_old y h1⟩
theorem keepM2 {P : Program} {f : FuncId} {args : Array Value} {w B : World} {v : Value} {a0 a1 : Addr} {v0 v1 : Value} (h : Calls P f args w fun e w' => e = .returned v ∧ Upd Nowhere w w') (hS : Upd Nowhere B w ∧ w.cell? a0 = some v0 ∧ w.cell? a1 = some v1) :
 Calls P f args w fun e w' => e = .returned v ∧ Upd Nowhere w w' ∧ (Upd Nowhere B w' ∧ w'.cell? a0 = some v0 ∧ w'.cell? a1 = some v1) := h.mono fun _ _ ⟨x, y⟩ => ⟨x, y, keep2 y hS⟩
theorem next_none {A : Nat → Prop} {w0 w : World} {b now came room : Nat} (h : HasW A w0 w b now came room []) :
 Calls Tryz.prog 60 #[.pointer (some ⟨b, 0, none⟩)] w fun e w' => e = .returned (.tuple #[.int .u64 0, .bool false]) ∧ w = w' := by
 have HL := Lib.hid (hasW_len h)
 clear h
 go_enter Tryz.func60, Tryz.ntmps60
 go_wp2_with fail
 refine (HL.out).mono ?_
 rintro e w' ⟨rfl, rfl⟩
 go_wp2_with fail
 go_ret2
 exact ⟨rfl, rfl⟩
theorem next_some {A : Nat → Prop} {w0 w : World} {b now came room : Nat} {a : En} {s : List En} (h : HasW A w0 w b now came room (a :: s)) (hT : Tab w) :
 Calls Tryz.prog 60 #[.pointer (some ⟨b, 0, none⟩)] w fun e w' => e = .returned (.tuple #[.int .u64 (a.1 : Nat), .bool true]) ∧ Upd Nowhere w w' := by
 have HL := Lib.hid (hasW_len h)
 have hba := h.old_all.2.2 a (List.mem_cons_self ..)
 have hord := h.old_all.2.1
 obtain ⟨vs, qs, us, h1, hs, hm, h4, h5, h6⟩ := h
 have hall : (all qs).length ≤ 999999 := by have := hm.len; simp only [List.length_cons] at *; omega
 have hn0 : ((((a :: s).length : Nat) : Int) == 0) = false := by simp; omega
 obtain ⟨N, hN⟩ : ∃ N, (a :: s).length = N := ⟨_, rfl⟩
 rw [hN] at HL hn0
 obtain ⟨c1, z1⟩ := h1.at_row isRow_late
 obtain ⟨lv, hlv⟩ : ∃ v, vs 715 = v := ⟨_, rfl⟩
 have hrl := h1.row 715 isRow_late
 rw [hlv] at c1 hrl
 have HLE := fun u (hu : Upd Nowhere w u) => Lib.hid (least_any u (ownsRow_upd hrl hu (fun _ _ h => h)) (Nat.le_trans (len_all isRow_late) hall) (hs.big 715 isRow_late))
 by_cases hz : qs 715 = []
 · rw [hz] at HLE
   simp only [List.length_nil] at HLE
   have d0 : decide (0 < 0) = false := by decide
   rw [d0] at HLE
   obtain ⟨l0, i0, hl0, hi0, hne⟩ : ∃ l i, l < 11 ∧ i < 64 ∧ qs (l * 65 + 1 + i) ≠ [] := by
    obtain ⟨o, ho, hao⟩ := mem_all.1 (hm.perm.mem_iff.1 (List.mem_cons_self ..))
    rcases isRow_cases ho with rfl | ⟨l, i, hl, hi, rfl⟩
    · rw [hz] at hao; cases hao
    · exact ⟨l, i, hl, hi, fun e => by rw [e] at hao; cases hao⟩
   have hu0 : us l0 ≠ 0 := fun e => by
    have := (hs.bit l0 i0 hl0 hi0).2 hne
    rw [e, Nat.zero_testBit] at this; cases this
   have H1 := Lib.hid h1
   have HS := Lib.hid hs
   have HM := Lib.hid hm
   have HZ := Lib.hid hz
   have HT := Lib.hid hT
   have HO := Lib.hid hord
   have HALL := Lib.hid hall
   clear h1 hs hm hz hT hord hN hrl hne h4 hlv hall
   go_enter Tryz.func60, Tryz.ntmps60
   go_wp2_with fail
   refine (HL.out).mono ?_
   rintro e w' ⟨rfl, rfl⟩
   go_wp2_with fail
   refine ((HLE _ (Upd.refl _ _)).out).mono ?_
   rintro e w1 ⟨rfl, u1⟩
   have HU1 := Lib.hid u1
   clear u1 c1 z1
   go_wp2_with fail
   go_loopw [6] (fun lv wr => ∃ (l : Nat), l ≤ l0 ∧ lv = .int .i64 l ∧ (∀ m, m < l → us m = 0) ∧ wr = w1) (fun lv _ => l0 - (intOf lv).toNat)
   case atStart => exact ⟨0, by omega, rfl, fun m hm => by omega, rfl⟩
   case round =>
    obtain ⟨l, hl, rfl, hlow, rfl⟩ := hrel
    obtain ⟨wB, rfl⟩ : ∃ x, x = wr := ⟨_, rfl⟩
    have hl11 : l < 11 := by omega
    have p1 : (l : Int) < 11 := by omega
    have HB := Lib.hid (H1.out.old HU1.out)
    obtain ⟨c2, z2⟩ := HB.out.at_used hl11
    obtain ⟨u, hu⟩ : ∃ u, us l = u := ⟨_, rfl⟩
    rw [hu] at c2
    by_cases huz : u = 0
    · subst huz
      have hll : l ≠ l0 := fun e => hu0 (by rw [← e]; exact hu)
      have HLOW : Hid (∀ m, m < l + 1 → us m = 0) := Lib.hid (fun m hm => by
       rcases Nat.lt_or_ge m l with h9 | h9
       · exact hlow m h9
       · obtain rfl : m = l := by omega
         exact hu)
      clear hlow hu
      go_wp2_with fail
      go_roundw
      case rel => exact ⟨l + 1, by omega, by go_num, HLOW.out, (by first | trivial | rfl)⟩
      case measure => simp [intOf]; omega
    · have n1 : ((u : Int) == 0) = false := by simp; omega
      have hub : u < 2 ^ 64 := by rw [← hu]; exact HS.out.ub l hl11
      obtain ⟨l4, l4', l5, _, _⟩ := ctz_bits huz hub
      have HTZ := fun w' (hw : Upd Nowhere w w') => Lib.hid (tz_any u hub w' (HT.out.old hw id))
      obtain ⟨i, hi⟩ : ∃ i, Lib.ctz 64 u = i := ⟨_, rfl⟩
      rw [hi] at HTZ l4 l4' l5
      have p2 : (i : Int) < 64 := by omega
      have ho := isRow_slot hl11 l5
      obtain ⟨c3, z3⟩ := HB.out.at_row ho
      obtain ⟨v, hv⟩ : ∃ v, vs (l * 65 + 1 + i) = v := ⟨_, rfl⟩
      have hro := HB.out.row _ ho
      rw [hv] at c3 hro
      have hne : qs (l * 65 + 1 + i) ≠ [] := (HS.out.bit l i hl11 l5).1 (by rw [hu]; exact l4)
      have hlst := HS.out.lies.least_slot HM.out.perm HO.out hba HZ.out hl11 l5 hne (fun m j hm hj => by
       have h8 := HS.out.bit m j (by omega) hj
       rw [hlow m hm, Nat.zero_testBit] at h8
       exact Classical.byContradiction fun h7 => Bool.noConfusion (h8.2 h7)) (fun j hj => by
       have h8 := HS.out.bit l j hl11 (by omega)
       rw [hu, l4' j hj] at h8
       exact Classical.byContradiction fun h7 => Bool.noConfusion (h8.2 h7))
      have hpos : decide (0 < (qs (l * 65 + 1 + i)).length) = true := decide_eq_true (List.length_pos_iff.2 hne)
      have HLS := fun w' (hw : Upd Nowhere wB w') => Lib.hid (least_any w' (ownsRow_upd hro hw (fun _ _ h => h)) (Nat.le_trans (len_all ho) HALL.out) (HS.out.big _ ho))
      rw [hlst, hpos] at HLS
      have hS0 := (Upd.refl Nowhere wB).drew
      clear hlst hpos hne hlow hu l4 l4' hi hv hro
      go_wp2_with fail
      go_region_held3 (fun w' => Upd Nowhere wB w' ∧ w'.cell? ⟨b, l * 65, none⟩ = some (.int .u64 (u : Nat)) ∧ w'.cell? ⟨b, l * 65 + 1 + i, none⟩ = some v) (first | exact ⟨hS0, c2, c3⟩ | assumption | exact keep2 (by repeat (first | with_reducible exact Upd.refl _ _ | with_reducible refine Upd.drew ?_)) ⟨Upd.refl _ _, c2, c3⟩) (first | (go_at_call 100; refine (HTZ _ (HU1.out.trans (show Upd Nowhere wB _ from (by repeat (first | with_reducible exact Upd.refl _ _ | with_reducible refine Upd.drew ?_))) (fun _ _ h => h))).out.mono ?_; rintro e w9 ⟨rfl, rfl⟩) | (go_at_call 99; refine (keepM2 (HLS _ (show Upd Nowhere wB _ from (by repeat (first | with_reducible exact Upd.refl _ _ | with_reducible refine Upd.drew ?_)))).out (by assumption)).mono ?_; rintro e w9 ⟨rfl, u9, hS9⟩))
      all_goals
       rename_i hSF
       have hUF := HU1.out.trans hSF.1 (fun _ _ h => h)
       clear hSF
       go_wp2_with fail
       go_ret2
       exact ⟨rfl, hUF⟩
 · have hlst := hs.lies.least_late hm.perm hord hba hz
   have hpos : decide (0 < (qs 715).length) = true := decide_eq_true (List.length_pos_iff.2 hz)
   rw [hlst, hpos] at HLE
   clear h1 hs hm hz hlst hpos hrl hlv hN hord hT hall
   go_enter Tryz.func60, Tryz.ntmps60
   go_wp2_with fail
   refine (HL.out).mono ?_
   rintro e w' ⟨rfl, rfl⟩
   go_wp2_with fail
   refine ((HLE _ (Upd.refl _ _)).out).mono ?_
   rintro e w1 ⟨rfl, u1⟩
   go_wp2_with fail
   go_ret2
   exact ⟨rfl, u1⟩
end Go.Proofs.YtpgpjjkeginbbaaGreatDoor.WheelR
namespace Go.Proofs.YtpgpjjkeginbbaaGreatDoor.WheelR
open Go.RowKit Go.Proofs BigFrame Heap
set_option maxHeartbeats 1000000
/-- A wheel of the blocks own at which H is held, in order; at most c came. -/
def Wq (w : World) (b : Nat) (own : Nat → Prop) (room now c : Nat) (H : List (Nat × Ri)) : Prop :=
 ∃ w0 came s, HasW (fun k => k < w.heap.size ∧ ¬ own k) w0 w b now came room s ∧ Cal.itms s = H ∧ came ≤ c ∧ (∀ k, own k → k < w.heap.size) ∧ Tryz.tz64_ren.g 1 < w0.heap.size
section
variable {w w' : World} {b room now c : Nat} {own : Nat → Prop} {H : List (Nat × Ri)}
theorem Wq.lts (h : Wq w b own room now c H) {k : Nat} (hk : own k) : k < w.heap.size := by
 obtain ⟨w0, came, s, _, _, _, ho, _⟩ := h
 exact ho k hk
theorem Wq.kept (h : Wq w b own room now c H) {S : Nat → Prop} (hu : Upd S w w') (hS : ∀ k, own k → ¬ S k) : Wq w' b own room now c H := by
 obtain ⟨w0, came, s, h1, h2, h3, ho, h4⟩ := h
 have h5 := h1.re (A' := fun k => k < w'.heap.size ∧ ¬ own k) (fun k hk => by
  rcases Nat.lt_or_ge k w.heap.size with h | h
  · exact .inl ⟨h, hk.2⟩
  · exact .inr h)
 exact ⟨w0, came, s, h5.kept hu (fun k hk hlt => .inl ⟨Nat.lt_of_lt_of_le hlt hu.size, fun hown => hS k hown hk⟩), h2, h3, fun k hk => Nat.lt_of_lt_of_le (ho k hk) hu.size, h4⟩
theorem Wq.more (h : Wq w b own room now c H) {c' : Nat} (hc : c ≤ c') : Wq w b own room now c' H := by
 obtain ⟨w0, came, s, h1, h2, h3, h4⟩ := h
 exact ⟨w0, came, s, h1, h2, by omega, h4⟩
def wheelC (b room now c : Nat) (H : List (Nat × Ri)) : Comp := ⟨fun w o => Wq w b o room now c H, fun h hu hS => h.kept hu hS, fun h hk => h.lts hk⟩
/-- What is left behind a call that wrote to the wheel, or to new blocks. -/
theorem turned {w0 : World} {now' came' : Nat} {s' : List En} (ho : ∀ k, own k → k < w.heap.size) (h : HasW (fun k => k < w.heap.size ∧ ¬ own k) w0 w' b now' came' room s') (hu : Upd (Free (fun k => k < w.heap.size ∧ ¬ own k) w0) w w') (hc : came' ≤ c) (hg : Tryz.tz64_ren.g 1 < w0.heap.size) :
 ∃ own', Wq w' b own' room now' c (Cal.itms s') ∧ Fol w own w' own' := by
 refine ⟨fun k => own k ∨ (w.heap.size ≤ k ∧ k < w'.heap.size), ⟨w0, came', s', h.re (fun k hk => .inl ?_), rfl, hc, fun k hk => ?_, hg⟩, ⟨fun k hk => hk.imp id (fun h => h.1), hu.mono fun k hlt hk => ?_⟩⟩
 · rcases Nat.lt_or_ge k w.heap.size with h9 | h9
   · exact ⟨h9, fun h => hk.2 (.inl h)⟩
   · exact absurd (.inr ⟨h9, hk.1⟩) hk.2
 · exact hk.elim (fun h => Nat.lt_of_lt_of_le (ho k h) hu.size) (fun h => h.2)
 · exact Classical.not_not.1 fun hn => hk.2 ⟨hlt, hn⟩
theorem w_new (room : Nat) (h1 : 1 ≤ room) (h2 : room ≤ 4096) (w : World) (hG : Tryz.tz64_ren.g 1 < w.heap.size) :
 Calls Tryz.prog 27 #[.int .i64 room] w fun e w' => e = .returned (.tuple #[.pointer (some ⟨w.heap.size, 0, none⟩), .int .i64 0]) ∧ (∃ own, Wq w' w.heap.size own room 0 0 [] ∧ ∀ k, own k → w.heap.size ≤ k) ∧ Upd Nowhere w w' := by
 refine (hasW_new room h1 h2 w).mono ?_
 rintro e w' ⟨rfl, h, hu⟩
 refine ⟨rfl, ⟨fun k => w.heap.size ≤ k ∧ k < w'.heap.size, ⟨w, 0, [], ?_, rfl, Nat.le_refl _, fun k hk => hk.2, hG⟩, fun k hk => hk.1⟩, hu⟩
 obtain ⟨vs, qs, us, g1, g2⟩ := h
 exact ⟨vs, qs, us, ⟨g1.cur, g1.row, g1.ap, g1.nb, fun k hk => ⟨(g1.far k hk).1, fun h => h.2 ⟨(g1.far k hk).1, h.1⟩⟩⟩, g2⟩
theorem w_add (h : Wq w b own room now c H) (hl : H.length < room) (hc : c < 18446744073709551615) (at' : Nat) (hat : at' ≤ 18446744073709551615) (x0 x1 : Nat) :
 Calls Tryz.prog 74 #[.pointer (some ⟨b, 0, none⟩), .int .u64 at', .agg #[.int .i64 (x0 : Nat), .int .u64 (x1 : Nat)]] w fun e w' => e = .returned (.bool true) ∧ ∃ own', Wq w' b own' room now (c + 1) (Cal.ins at' (x0, x1) H) ∧ Fol w own w' own' := by
 obtain ⟨w0, came, s, h1, rfl, h3, ho, hg⟩ := h
 rw [Cal.itms_len] at hl
 refine (add_room h1 hl (fun k hk => hk.1) at' hat x0 x1 (by omega)).mono ?_
 rintro e w' ⟨rfl, h4, hu⟩
 obtain ⟨own', h5, h6⟩ := turned (c := c + 1) ho h4 hu (by omega) hg
 refine ⟨rfl, own', ?_, h6⟩
 have e1 := Cal.itms_ins (at', came, x0, x1) s
 rw [e1] at h5
 exact h5
theorem w_next0 (h : Wq w b own room now c []) :
 Calls Tryz.prog 60 #[.pointer (some ⟨b, 0, none⟩)] w fun e w' => e = .returned (.tuple #[.int .u64 0, .bool false]) ∧ Upd Nowhere w w' := by
 obtain ⟨w0, came, s, h1, h2, _⟩ := h
 cases s with
 | cons a s => cases h2
 | nil => exact (next_none h1).mono fun e w' ⟨x, y⟩ => ⟨x, by rw [y]; exact Upd.refl _ _⟩
theorem w_next {t : Nat} {x : Ri} {r : List (Nat × Ri)} (h : Wq w b own room now c ((t, x) :: r)) (hT : Tab w) :
 Calls Tryz.prog 60 #[.pointer (some ⟨b, 0, none⟩)] w fun e w' => e = .returned (.tuple #[.int .u64 (t : Nat), .bool true]) ∧ Upd Nowhere w w' := by
 obtain ⟨w0, came, s, h1, h2, _⟩ := h
 cases s with
 | nil => cases h2
 | cons a s =>
   injection h2 with e1 e2
   have h3 := next_some h1 hT
   have e3 : a.1 = t := congrArg Prod.fst e1
   rw [e3] at h3
   exact h3
/-- What is due, and what is left. -/
theorem due_itms (nw : Nat) (s : List En) : Cal.itms (dueOf nw s) = (Cal.itms s).filter (fun a => decide (a.1 ≤ nw)) := by
 unfold Cal.itms dueOf; rw [List.filter_map]; rfl
theorem left_itms (nw : Nat) (s : List En) : Cal.itms (leftOf nw s) = (Cal.itms s).filter (fun a => decide (nw < a.1)) := by
 unfold Cal.itms leftOf; rw [List.filter_map]; rfl
theorem outs_itms (l : List En) : outs l = (Cal.itms l).flatMap (fun a => KR a.2) := by
 unfold outs Cal.itms; rw [List.flatMap_map]; rfl
theorem w_due (h : Wq w b own room now c H) (hT : Tab w) (now' : Nat) (hn' : now' ≤ 18446744073709551615) :
 Calls Tryz.prog 61 #[.pointer (some ⟨b, 0, none⟩), .int .u64 now'] w fun e w' => ∃ v, e = .returned v ∧
  w'.ownsRow w.heap.size TI 2 v (H.filter (fun a => decide (a.1 ≤ max now now'))).length ((H.filter (fun a => decide (a.1 ≤ max now now'))).flatMap (fun a => KR a.2)) ∧
  ∃ own', Wq w' b own' room (max now now') c (H.filter (fun a => decide (max now now' < a.1))) ∧ Fol w own w' own' ∧ ∀ k, v.ownBlock = some k → ¬ own' k := by
 obtain ⟨w0, came, s, h1, rfl, h3, ho, hg⟩ := h
 refine (due_any h1 (fun k hk => hk.1) hT hg now' hn').mono ?_
 rintro e w' ⟨v, rfl, h4, h5, hu⟩
 refine ⟨v, rfl, ?_, fun k => (own k ∨ (w.heap.size ≤ k ∧ k < w'.heap.size)) ∧ v.ownBlock ≠ some k, ⟨w0, came, _, h5.re (fun k hk => .inl ?_), left_itms _ _, h3, fun k hk => ?_, hg⟩, ⟨fun k hk => hk.1.imp id (fun h => h.1), hu.mono fun k hlt hk => ?_⟩, fun k hk h => h.2 hk⟩
 · rw [← due_itms, ← outs_itms, Cal.itms_len]; exact h4
 · by_cases hv : v.ownBlock = some k
   · exact .inr hv
   · rcases Nat.lt_or_ge k w.heap.size with h9 | h9
     · exact .inl ⟨h9, fun h => hk.2 ⟨.inl h, hv⟩⟩
     · exact absurd ⟨.inr ⟨h9, hk.1⟩, hv⟩ hk.2
 · exact hk.1.elim (fun h => Nat.lt_of_lt_of_le (ho k h) hu.size) (fun h => h.2)
 · exact Classical.not_not.1 fun hn => hk.2 ⟨hlt, hn⟩
end
end Go.Proofs.YtpgpjjkeginbbaaGreatDoor.WheelR

