/- Wheel, WheelTake, WheelLay, WheelState, WheelPass, Ffs, Ffs2, Ffs3, Ffs4, Ffs5, Ffs6, Ffs7, one behind the other. -/
import Derived.Test.YtpgpjjkeginbbaaGreatDoorMtFp
import Derived.Test.YtpgpjjkeginbbaaGreatDoorMtSat
import Derived.Test.YtpgpjjkeginbbaaGreatDoorMtOp
import Derived.Laws.Bits64b
import Derived.Test.YtpgpjjkeginbbaaGreatDoorMtA
import Derived.Deep.RegionLaw
import Derived.Test.YtpgpjjkeginbbaaGreatDoorTz
import Derived.Deep.CutBlock
import Derived.Deep.DeepCutAuto
import Derived.OwnWalk
namespace Go.Proofs.YtpgpjjkeginbbaaGreatDoor.Wheel
open Go.RowKit Go.Proofs BigFrame Heap
set_option maxHeartbeats 4000000
set_option maxRecDepth 1000000
theorem andNot_u64_nat (a b : Nat) (ha : a < 18446744073709551616) (hb : b < 18446744073709551616) : bits .andNot .u64 (a : Int) (b : Int) = ((a &&& (18446744073709551615 - b) : Nat) : Int) := by
 have hx : a &&& (18446744073709551615 - b) < 2 ^ 64 := Nat.and_lt_two_pow _ (by omega)
 have o1 : (BitVec.ofInt 64 (a : Int)).toNat = a := by rw [BitVec.ofInt_natCast, BitVec.toNat_ofNat]; exact Nat.mod_eq_of_lt (by omega)
 have o2 : (BitVec.ofInt 64 (b : Int)).toNat = b := by rw [BitVec.ofInt_natCast, BitVec.toNat_ofNat]; exact Nat.mod_eq_of_lt (by omega)
 show IntKind.u64.wrap ((BitVec.ofInt 64 (a : Int) &&& ~~~BitVec.ofInt 64 (b : Int)).toNat : Int) = _
 rw [BitVec.toNat_and, BitVec.toNat_not, o1, o2, IntKind.wrap_u64]
 have e : 2 ^ 64 - 1 - b = 18446744073709551615 - b := by omega
 rw [e]
 omega
theorem andNot_bit {u i : Nat} (hi : i < 64) (hu : u < 2 ^ 64) (h : u.testBit i = true) : u &&& (18446744073709551615 - 2 ^ i) = u - 2 ^ i := by
 apply Nat.eq_of_testBit_eq
 intro j
 rw [Nat.testBit_and, drop_bit h]
 by_cases hj : j < 64
 · have e : (18446744073709551615 - 2 ^ i).testBit j = decide (j ≠ i) := by
    have h1 : (18446744073709551615 : Nat) = 2 ^ 64 - 1 := by omega
    have h2 : (2 ^ 64 - 1).testBit i = true := by rw [Nat.testBit_two_pow_sub_one]; simp [hi]
    rw [h1, drop_bit h2, Nat.testBit_two_pow_sub_one]
    simp [hj]
   rw [e]
 · have e : u.testBit j = false := Nat.testBit_lt_two_pow (Nat.lt_of_lt_of_le hu (Nat.pow_le_pow_right (by omega) (by omega)))
   rw [e]; simp
end Go.Proofs.YtpgpjjkeginbbaaGreatDoor.Wheel
namespace Go.Proofs.YtpgpjjkeginbbaaGreatDoor.Wheel
open Go.RowKit Go.Proofs BigFrame Heap
set_option maxHeartbeats 4000000
set_option maxRecDepth 1000000
/-- The library's table, where the program's text lays it. -/
def Tab (w : World) : Prop := TabAt (Tryz.tz64_ren.g 1) Lib.deBruijn64tab w
theorem Tab.old {S : Nat → Prop} {w w' : World} (h : Tab w) (hu : Upd S w w') (hS : ¬ S (Tryz.tz64_ren.g 1)) : Tab w' := fun j hj => by
 have h1 := h j hj
 rw [hu.cell _ (cell_lt h1) hS]; exact h1
theorem tz_any (x : Nat) (hx : x < 2 ^ 64) (w : World) (hT : Tab w) :
 Calls Tryz.prog 100 #[.int .u64 x] w fun e w' => e = .returned (.int .i64 (Lib.ctz 64 x : Nat)) ∧ w' = w :=
 Any7.bits_TrailingZeros64 Tryz.tz64 x (by omega) w (fun _ => hT)
end Go.Proofs.YtpgpjjkeginbbaaGreatDoor.Wheel
namespace Go.Proofs.YtpgpjjkeginbbaaGreatDoor.Ffs
open Go.RowKit Go.Proofs BigFrame
open Wheel (Tab tz_any)
set_option maxHeartbeats 4000000
set_option maxRecDepth 1000000
abbrev TS : TypeId := 315
abbrev TU : TypeId := 25
/-- A set's blocks. -/
def FOwn (sb lb L : Nat) (g : Nat → Nat) (k : Nat) : Prop := k = sb ∨ k = lb ∨ ∃ l, l < L ∧ k = g l
/-- A set: its words, level by level. -/
structure FIn (A : Nat → Prop) (w0 w : World) (sb lb cap L n : Nat) (g : Nat → Nat) (u : Nat → Nat → Nat) : Prop where
 blk : Blk w sb #[.slice (some ⟨lb, 0, none⟩) L cap, .int .i64 n] TS
 lev : ∀ l, l < L → w.cell? ⟨lb, l, none⟩ = some (.slice (some ⟨g l, 0, none⟩) (64 ^ l) (64 ^ l))
 row : ∀ l, l < L → ∃ c : Array Value, Blk w (g l) c TU ∧ c.size = 64 ^ l ∧ ∀ i, i < 64 ^ l → c[i]? = some (.int .u64 (u l i : Nat))
 one : 1 ≤ L ∧ L ≤ 3
 ap : lb ≠ sb ∧ ∀ l, l < L → g l ≠ sb ∧ g l ≠ lb ∧ ∀ m, m < L → m ≠ l → g m ≠ g l
 far : ∀ k, FOwn sb lb L g k → w0.heap.size ≤ k ∧ ¬ A k
/-- As the code tells it. -/
def toI : Option Nat → Int
 | some j => (j : Nat)
 | none => -1
section
variable {A : Nat → Prop} {w0 w : World} {sb lb cap L n : Nat} {g : Nat → Nat} {u : Nat → Nat → Nat}
theorem FIn.lts (h : FIn A w0 w sb lb cap L n g u) {k : Nat} (hk : FOwn sb lb L g k) : k < w.heap.size := by
 rcases hk with rfl | rfl | ⟨l, hl, rfl⟩
 · exact h.blk.lt
 · exact cell_lt (h.lev 0 (by have := h.one; omega))
 · obtain ⟨c, h1, _⟩ := h.row l hl; exact h1.lt
theorem FIn.kept {w' : World} (h : FIn A w0 w sb lb cap L n g u) {S : Nat → Prop} (hu : Upd S w w') (hS : ∀ k, S k → k < w.heap.size → A k ∨ k < w0.heap.size) : FIn A w0 w' sb lb cap L n g u := by
 have hno : ∀ k, FOwn sb lb L g k → ¬ S k := fun k hk hs => by
  rcases hS k hs (h.lts hk) with h1 | h1
  · exact (h.far k hk).2 h1
  · exact absurd (h.far k hk).1 (Nat.not_le.2 h1)
 refine ⟨h.blk.kept hu (hno sb (.inl rfl)), fun l hl => ?_, fun l hl => ?_, h.one, h.ap, h.far⟩
 · have h1 := h.lev l hl
   rw [hu.cell _ (cell_lt h1) (hno lb (.inr (.inl rfl)))]; exact h1
 · obtain ⟨c, h1, h2⟩ := h.row l hl
   exact ⟨c, h1.kept hu (hno _ (.inr (.inr ⟨l, hl, rfl⟩))), h2⟩
theorem FIn.old {w' : World} (h : FIn A w0 w sb lb cap L n g u) (hu : Upd Nowhere w w') : FIn A w0 w' sb lb cap L n g u := h.kept hu (fun _ h _ => h.elim)
/-- A word of a level. -/
def setW (u : Nat → Nat → Nat) (l i x : Nat) : Nat → Nat → Nat := fun m j => if m = l ∧ j = i then x else u m j
theorem FIn.setWord (h : FIn A w0 w sb lb cap L n g u) {l i : Nat} (hl : l < L) (hi : i < 64 ^ l) (x : Nat) : FIn A w0 (w.setCell ⟨g l, i, none⟩ (.int .u64 (x : Nat))) sb lb cap L n g (setW u l i x) := by
 obtain ⟨a1, a2⟩ := h.ap
 obtain ⟨b1, b2, b3⟩ := a2 l hl
 refine ⟨h.blk.setOther (a := ⟨g l, i, none⟩) (fun e => b1 e.symm) _, fun m hm => ?_, fun m hm => ?_, h.one, h.ap, h.far⟩
 · have h1 := h.lev m hm
   rw [World.cell?_of_block (w := w) (Below.heap_setCell _ _ _ _ (fun e => b2 e.symm))]; exact h1
 · obtain ⟨c, c1, c2, c3⟩ := h.row m hm
   by_cases e : m = l
   · subst e
     refine ⟨_, c1.set i _, by simpa using c2, fun j hj => ?_⟩
     unfold setW
     by_cases ej : j = i
     · subst ej; rw [if_pos ⟨rfl, rfl⟩]; exact Array.getElem?_setIfInBounds_self_of_lt (by omega)
     · rw [if_neg (fun h9 => ej h9.2), Array.getElem?_setIfInBounds_ne (Ne.symm ej)]; exact c3 j hj
   · refine ⟨c, c1.setOther (a := ⟨g l, i, none⟩) (b3 m hm e) _, c2, fun j hj => ?_⟩
     unfold setW
     rw [if_neg (fun h9 => e h9.1)]; exact c3 j hj
theorem FIn.setN (h : FIn A w0 w sb lb cap L n g u) (x : Nat) : FIn A w0 (w.setCell ⟨sb, 1, none⟩ (.int .i64 (x : Nat))) sb lb cap L x g u := by
 obtain ⟨a1, a2⟩ := h.ap
 refine ⟨by simpa using h.blk.set 1 (.int .i64 (x : Nat)), fun m hm => ?_, fun m hm => ?_, h.one, h.ap, h.far⟩
 · have h1 := h.lev m hm
   rw [World.cell?_of_block (w := w) (Below.heap_setCell _ _ _ _ (fun e => a1 e))]; exact h1
 · obtain ⟨c, c1, c2⟩ := h.row m hm
   exact ⟨c, c1.setOther (a := ⟨sb, 1, none⟩) (a2 m hm).1 _, c2⟩
theorem FIn.word (h : FIn A w0 w sb lb cap L n g u) {l i : Nat} (hl : l < L) (hi : i < 64 ^ l) : w.cell? ⟨g l, i, none⟩ = some (.int .u64 (u l i : Nat)) := by
 obtain ⟨c, h1, _, h2⟩ := h.row l hl; exact h1.cellAt (h2 i hi)
theorem len_any (h : FIn A w0 w sb lb cap L n g u) : Calls Tryz.prog 228 #[.pointer (some ⟨sb, 0, none⟩)] w fun e w' => e = .returned (.int .i64 n) ∧ w = w' := by
 obtain ⟨_, c1, _, _⟩ := cells2 h.blk
 go_enter Tryz.func228, Tryz.ntmps228
 go_wp2_with fail
 go_ret
 exact ⟨rfl, rfl⟩
theorem pow_le {l : Nat} (hl : l < 3) : 64 ^ l ≤ 4096 ∧ 1 ≤ 64 ^ l := by
 obtain rfl | rfl | rfl : l = 0 ∨ l = 1 ∨ l = 2 := by omega
 all_goals decide
theorem above_step (h : FIn A w0 w sb lb cap L n g u) (hb : Bts L u) (hT : Tab w) (l i : Nat) (hl : l < L) (hi : i ≤ 1000000)
 (ih : ∀ l', l = l' + 1 → Calls Tryz.prog 238 #[.pointer (some ⟨sb, 0, none⟩), .int .i64 l', .int .i64 (i / 64 + 1 : Nat)] w fun e w' => (∃ r, e = .returned (.int .i64 (toI r)) ∧ Nx (bitOf (u l')) (64 * 64 ^ l') (i / 64 + 1) r) ∧ w' = w) :
 Calls Tryz.prog 238 #[.pointer (some ⟨sb, 0, none⟩), .int .i64 l, .int .i64 i] w fun e w' => (∃ r, e = .returned (.int .i64 (toI r)) ∧ Nx (bitOf (u l)) (64 * 64 ^ l) i r) ∧ w' = w := by
 have hone := h.one
 obtain ⟨hW1, hW2⟩ := pow_le (show l < 3 by omega)
 obtain ⟨W, hW⟩ : ∃ W, 64 ^ l = W := ⟨_, rfl⟩
 obtain ⟨W6, hW6⟩ : ∃ W6, 64 * W = W6 := ⟨_, rfl⟩
 obtain ⟨c0, _, _, _⟩ := cells2 h.blk
 have c1 := h.lev l hl
 rw [hW] at hW1 hW2 c1 ⊢
 have e1 : IntKind.i64.wrap (64 * (W : Int)) = (W6 : Int) := by rw [IntKind.wrap_i64]; omega
 have p1 : (l : Int) < L := by omega
 by_cases hbig : W6 ≤ i
 · have d1 : decide ((i : Int) ≥ W6) = true := decide_eq_true (by omega)
   have d2 : decide (W6 ≤ i) = true := decide_eq_true hbig
   have hnx : Nx (bitOf (u l)) (64 * W) i none := nx_big (by omega)
   have HNX := Lib.hid hnx
   clear hnx hW hW6 h hb hT ih
   go_enter Tryz.func238, Tryz.ntmps238
   go_wp2_with fail
   go_ret
   exact ⟨⟨none, rfl, HNX.out⟩, rfl⟩
 · have d1 : decide ((i : Int) ≥ W6) = false := decide_eq_false (by omega)
   have d2 : decide (W6 ≤ i) = false := decide_eq_false hbig
   obtain ⟨q, hq⟩ : ∃ q, i / 64 = q := ⟨_, rfl⟩
   obtain ⟨s, hs⟩ : ∃ s, i % 64 = s := ⟨_, rfl⟩
   have hqW : q < W := by omega
   have c2 := h.word hl (show q < 64 ^ l by rw [hW]; exact hqW)
   obtain ⟨x, hx⟩ : ∃ x, u l q = x := ⟨_, rfl⟩
   rw [hx] at c2
   obtain ⟨y, hy⟩ : ∃ y, x / 2 ^ s = y := ⟨_, rfl⟩
   have q1 : (i : Int).tdiv 64 = (q : Int) := by rw [Int.tdiv_eq_ediv_of_nonneg (by omega)]; omega
   have q2 : (i : Int) / 64 = (q : Int) := by omega
   have q3 : (i : Int).tmod 64 = (s : Int) := by rw [Int.tmod_eq_emod_of_nonneg (by omega)]; omega
   have q4 : (i : Int) % 64 = (s : Int) := by omega
   have q5 : (x : Int) / 2 ^ s = (y : Int) := by rw [← hy]; push_cast; rfl
   have p2 : (q : Int) < W := by omega
   have hsb : s < 64 := by omega
   have hybd : y < 2 ^ 64 := by rw [← hy, ← hx]; exact Nat.lt_of_le_of_lt (Nat.div_le_self _ _) (hb.ub l q)
   have hyy : u l (i / 64) / 2 ^ (i % 64) = y := by rw [hq, hs, hx, hy]
   by_cases hz : y = 0
   · have hz0 : u l (i / 64) / 2 ^ (i % 64) = 0 := by rw [hyy]; exact hz
     subst hz
     rcases Nat.eq_zero_or_pos l with hl0 | hl0
     · subst hl0
       have hW0 : W = 1 := hW.symm
       have hnx : Nx (bitOf (u 0)) (64 * W) i none := by rw [hW0]; exact nx_first (by omega) hz0
       have HNX := Lib.hid hnx
       clear hnx hW hW6 h hb hT ih hq hs hx hy hyy hz0
       go_enter Tryz.func238, Tryz.ntmps238
       go_wp2_with fail
       go_ret
       exact ⟨⟨none, rfl, HNX.out⟩, rfl⟩
     · obtain ⟨l', hl'⟩ : ∃ l', l = l' + 1 := ⟨l - 1, by omega⟩
       obtain ⟨q1', hq1⟩ : ∃ x, q + 1 = x := ⟨_, rfl⟩
       have hih := ih l' hl'
       rw [hq, hq1] at hih
       have hW' : 64 * 64 ^ l' = W := by rw [← hW, hl', Nat.pow_succ]; omega
       rw [hW'] at hih
       have HIH := Lib.hid hih
       have hup : ∀ w, w < W → (bitOf (u l') w = true ↔ u l w ≠ 0) := fun w hw => by rw [hl']; exact hb.up l' (by omega) w (by rw [← hl', hW]; exact hw)
       have HNone : Hid (Nx (bitOf (u l')) W q1' none → Nx (bitOf (u l)) (64 * W) i none) := Lib.hid (fun hn => nx_up_none hz0 hup (by rw [hq, hq1]; exact hn))
       have HSome : Hid (∀ a, Nx (bitOf (u l')) W q1' (some a) → Nx (bitOf (u l)) (64 * W) i (some (64 * a + Lib.ctz 64 (u l a)))) := Lib.hid (fun a hn => nx_up_some (hb.ub l) hz0 hup (by rw [hq, hq1]; exact hn))
       have HWD := fun (a : Nat) (ha : a < W) => Lib.hid (h.word hl (show a < 64 ^ l by rw [hW]; exact ha))
       have HUB := fun (a : Nat) => Lib.hid (hb.ub l a)
       have HUNZ := fun (a : Nat) (ha : a < W) (hB : bitOf (u l') a = true) => Lib.hid ((hup a ha).1 hB)
       have HT := Lib.hid hT
       have n0 : ((l : Int) == 0) = false := by simp; omega
       have q6 : IntKind.i64.wrap ((l : Int) - 1) = (l' : Int) := by rw [IntKind.wrap_i64]; omega
       have q7 : IntKind.i64.wrap ((q : Int) + 1) = (q1' : Int) := by rw [IntKind.wrap_i64]; omega
       clear hih hup hW hW' hW6 h hb hT ih hq hq1 hs hx hy hyy hz0 hl'
       go_enter Tryz.func238, Tryz.ntmps238
       go_wp2_with fail
       refine HIH.out.mono ?_
       rintro e w' ⟨⟨r, rfl, hr⟩, rfl⟩
       cases r with
       | none =>
         have HNX := Lib.hid (HNone.out hr)
         have et : toI none = -1 := rfl
         rw [et]
         clear hr
         go_wp2_with fail
         go_ret
         exact ⟨⟨none, rfl, HNX.out⟩, rfl⟩
       | some a =>
         obtain ⟨_, haW, haB, _⟩ := id hr
         have hnz := (HUNZ a haW haB).out
         have hub := (HUB a).out
         have HNX := Lib.hid (HSome.out a hr)
         have c9 := (HWD a haW).out
         obtain ⟨x9, hx9⟩ : ∃ x, u l a = x := ⟨_, rfl⟩
         have HTZ := Lib.hid (tz_any (u l a) hub w' HT.out)
         have hct := (Wheel.ctz_bits hnz hub).2.2.1
         rw [hx9] at c9 HNX HTZ hct
         obtain ⟨t, ht⟩ : ∃ t, Lib.ctz 64 x9 = t := ⟨_, rfl⟩
         rw [ht] at HNX HTZ hct
         obtain ⟨a6, ha6⟩ : ∃ x, 64 * a = x := ⟨_, rfl⟩
         rw [ha6] at HNX
         obtain ⟨j, hj⟩ : ∃ j, a6 + t = j := ⟨_, rfl⟩
         rw [hj] at HNX
         have et : toI (some a) = (a : Int) := rfl
         rw [et]
         have d3 : decide ((a : Int) < 0) = false := decide_eq_false (by omega)
         have q8 : IntKind.i64.wrap (64 * (a : Int)) = (a6 : Int) := by rw [IntKind.wrap_i64]; omega
         have q9 : IntKind.i64.wrap ((a6 : Int) + t) = (j : Int) := by rw [IntKind.wrap_i64]; omega
         have p3 : (a : Int) < W := by omega
         clear hr haB hnz hub hx9 ht ha6 hj HNone HSome HWD HUB HUNZ HIH
         go_wp2_with fail
         refine HTZ.out.mono ?_
         rintro e w9 ⟨rfl, rfl⟩
         go_wp2_with fail
         go_ret
         exact ⟨⟨some j, rfl, HNX.out⟩, rfl⟩
   · have hnx : Nx (bitOf (u l)) (64 * W) i (some (i + Lib.ctz 64 y)) := by
      have h9 := nx_word (u := u l) (W := W) (i := i) (by omega) (hb.ub l) (by rw [hyy]; exact hz)
      rw [hyy] at h9; exact h9
     have HTZ := Lib.hid (tz_any y hybd w hT)
     have hct := (Wheel.ctz_bits hz hybd).2.2.1
     obtain ⟨t, ht⟩ : ∃ t, Lib.ctz 64 y = t := ⟨_, rfl⟩
     rw [ht] at hnx HTZ hct
     obtain ⟨j, hj⟩ : ∃ j, i + t = j := ⟨_, rfl⟩
     rw [hj] at hnx
     have q6 : IntKind.i64.wrap ((i : Int) + t) = (j : Int) := by rw [IntKind.wrap_i64]; omega
     have n1 : ((y : Int) != 0) = true := by simp; omega
     have HNX := Lib.hid hnx
     clear hnx hW hW6 h hb hT ih hq hs hx hy hyy ht hj
     go_enter Tryz.func238, Tryz.ntmps238
     go_wp2_with fail
     refine HTZ.out.mono ?_
     rintro e w' ⟨rfl, rfl⟩
     go_wp2_with fail
     go_ret
     exact ⟨⟨some j, rfl, HNX.out⟩, rfl⟩
theorem above_any (h : FIn A w0 w sb lb cap L n g u) (hb : Bts L u) (hT : Tab w) : ∀ (l i : Nat), l < L → i ≤ 1000000 →
 Calls Tryz.prog 238 #[.pointer (some ⟨sb, 0, none⟩), .int .i64 l, .int .i64 i] w fun e w' => (∃ r, e = .returned (.int .i64 (toI r)) ∧ Nx (bitOf (u l)) (64 * 64 ^ l) i r) ∧ w' = w := by
 intro l
 induction l with
 | zero => exact fun i hl hi => above_step h hb hT 0 i hl hi (fun l' h9 => by omega)
 | succ l ih => exact fun i hl hi => above_step h hb hT (l + 1) i hl hi (fun l' h9 => by
  obtain rfl : l = l' := by omega
  exact ih (i / 64 + 1) (by omega) (by omega))
end
end Go.Proofs.YtpgpjjkeginbbaaGreatDoor.Ffs
namespace Go.Proofs.YtpgpjjkeginbbaaGreatDoor.Ffs
open Go.RowKit Go.Proofs BigFrame
open Wheel (Tab tz_any)
set_option maxHeartbeats 4000000
set_option maxRecDepth 1000000
section
variable {A : Nat → Prop} {w0 w : World} {sb lb cap L n : Nat} {g : Nat → Nat} {u : Nat → Nat → Nat}
theorem size_any (h : FIn A w0 w sb lb cap L n g u) {l N : Nat} (hl : l + 1 = L) (hN : 64 * 64 ^ l = N) : Calls Tryz.prog 92 #[.pointer (some ⟨sb, 0, none⟩)] w fun e w' => e = .returned (.int .i64 N) ∧ ∃ k, w' = w.drewN k := by
 obtain ⟨c0, _, _, _⟩ := cells2 h.blk
 have hone := h.one
 obtain ⟨hW1, hW2⟩ := pow_le (show l < 3 by omega)
 obtain ⟨W, hW⟩ : ∃ W, 64 ^ l = W := ⟨_, rfl⟩
 have c1 := h.lev l (by omega)
 rw [hW] at hW1 hW2 c1 hN
 have e1 : IntKind.i64.wrap (64 * (W : Int)) = (N : Int) := by rw [IntKind.wrap_i64]; omega
 have e2 : IntKind.i64.wrap ((L : Int) - 1) = (l : Int) := by rw [IntKind.wrap_i64]; omega
 have n0 : ((L : Int) == 0) = false := by simp; omega
 have p1 : (l : Int) < L := by omega
 clear h hW hl hN
 go_enter Tryz.func92, Tryz.ntmps92
 go_wp2_with fail
 go_quiet (fail)
 go_wp2_with fail
 go_ret
 exact ⟨rfl, nq, rfl⟩
theorem has_any (h : FIn A w0 w sb lb cap L n g u) (hb : Bts L u) {l N i : Nat} (hl : l + 1 = L) (hN : 64 * 64 ^ l = N) (hi : i < N) : Calls Tryz.prog 233 #[.pointer (some ⟨sb, 0, none⟩), .int .i64 i] w fun e w' => e = .returned (.bool (bitOf (u l) i)) ∧ ∃ k, w' = w.drewN k := by
 have HSZ := Lib.hid (size_any h hl hN)
 obtain ⟨c0, _, _, _⟩ := cells2 h.blk
 have hone := h.one
 obtain ⟨hW1, hW2⟩ := pow_le (show l < 3 by omega)
 obtain ⟨W, hW⟩ : ∃ W, 64 ^ l = W := ⟨_, rfl⟩
 have c1 := h.lev l (by omega)
 rw [hW] at hW1 hW2 c1 hN
 have e2 : IntKind.i64.wrap ((L : Int) - 1) = (l : Int) := by rw [IntKind.wrap_i64]; omega
 have p1 : (l : Int) < L := by omega
 have d1 : decide ((i : Int) < 0) = false := decide_eq_false (by omega)
 have d2 : decide ((i : Int) ≥ N) = false := decide_eq_false (by omega)
 have d3 : decide (N ≤ i) = false := decide_eq_false (by omega)
 obtain ⟨q, hq⟩ : ∃ q, i / 64 = q := ⟨_, rfl⟩
 obtain ⟨s, hs⟩ : ∃ s, i % 64 = s := ⟨_, rfl⟩
 have hqW : q < W := by omega
 have c2 := h.word (show l < L by omega) (show q < 64 ^ l by rw [hW]; exact hqW)
 have hub := hb.ub l q
 have hbit : bitOf (u l) i = (u l q).testBit s := by unfold bitOf; rw [hq, hs]
 obtain ⟨x, hx⟩ : ∃ x, u l q = x := ⟨_, rfl⟩
 rw [hx] at c2 hub hbit
 obtain ⟨y, hy⟩ : ∃ y, x / 2 ^ s = y := ⟨_, rfl⟩
 obtain ⟨z, hz⟩ : ∃ z, y % 2 = z := ⟨_, rfl⟩
 have hyb : y < 2 ^ 64 := by rw [← hy]; exact Nat.lt_of_le_of_lt (Nat.div_le_self _ _) hub
 have q1 : (i : Int).tdiv 64 = (q : Int) := by rw [Int.tdiv_eq_ediv_of_nonneg (by omega)]; omega
 have q2 : (i : Int) / 64 = (q : Int) := by omega
 have q3 : (i : Int).tmod 64 = (s : Int) := by rw [Int.tmod_eq_emod_of_nonneg (by omega)]; omega
 have q4 : (i : Int) % 64 = (s : Int) := by omega
 have q5 : (x : Int) / 2 ^ s = (y : Int) := by rw [← hy]; push_cast; rfl
 have q6 : bits .and .u64 (y : Int) 1 = (z : Int) := by
  have h9 := bits_and_u64_nat y 1 (by omega) (by omega)
  rw [Nat.and_one_is_mod, hz] at h9
  exact h9
 have p2 : (q : Int) < W := by omega
 have hsb : s < 64 := by omega
 obtain ⟨b, hbb⟩ : ∃ b, bitOf (u l) i = b := ⟨_, rfl⟩
 have q7 : ((z : Int) == 1) = b := by
  rw [← hbb, hbit, Nat.testBit_eq_decide_div_mod_eq, hy, hz]
  rw [Bool.eq_iff_iff]; simp; omega
 rw [hbb]
 clear h hW hl hN hb hq hs hx hy hz hbit hbb hub
 go_enter Tryz.func233, Tryz.ntmps233
 go_wp2_with fail
 refine HSZ.out.mono ?_
 rintro e w' ⟨rfl, mq, rfl⟩
 go_wp2_with fail
 have c0' : (w.drewN mq).cell? ⟨sb, 0, none⟩ = some (.slice (some ⟨lb, 0, none⟩) L cap) := c0
 have c1' : (w.drewN mq).cell? ⟨lb, l, none⟩ = some (.slice (some ⟨g l, 0, none⟩) W W) := c1
 have c2' : (w.drewN mq).cell? ⟨g l, q, none⟩ = some (.int .u64 (x : Nat)) := c2
 obtain ⟨w1, hw1⟩ : ∃ w1, w.drewN mq = w1 := ⟨_, rfl⟩
 rw [hw1] at c0' c1' c2' ⊢
 go_quiet (fail)
 go_wp2_with fail
 go_ret
 exact ⟨rfl, mq + nq, by rw [← hw1, World.drewN_drewN]⟩
theorem from_any (h : FIn A w0 w sb lb cap L n g u) (hb : Bts L u) (hT : Tab w) (hn : 0 < n) {l N i : Nat} (hl : l + 1 = L) (hN : 64 * 64 ^ l = N) (hi : i ≤ 1000000) : Calls Tryz.prog 230 #[.pointer (some ⟨sb, 0, none⟩), .int .i64 i] w fun e w' => (∃ r, e = .returned (.tuple #[.int .i64 (toI r), .bool true]) ∧ ((r ≠ none ∧ Nx (bitOf (u l)) N i r) ∨ (Nx (bitOf (u l)) N i none ∧ Nx (bitOf (u l)) N 0 r))) ∧ w' = w := by
 have HLN := Lib.hid (len_any h)
 have HA := fun (i : Nat) (hi : i ≤ 1000000) => Lib.hid (above_any h hb hT l i (by omega) hi)
 rw [hN] at HA
 obtain ⟨c0, _, _, _⟩ := cells2 h.blk
 have hone := h.one
 have e2 : IntKind.i64.wrap ((L : Int) - 1) = (l : Int) := by rw [IntKind.wrap_i64]; omega
 have n0 : ((n : Int) == 0) = false := by simp; omega
 have e3 : (if (i : Int) < 0 then (0 : Int) else (i : Int)) = (i : Int) := by rw [if_neg (by omega)]
 have e3' : max (i : Int) 0 = (i : Int) := by omega
 have H0 : Hid (Calls Tryz.prog 238 #[.pointer (some ⟨sb, 0, none⟩), .int .i64 l, .int .i64 0] w fun e w' => (∃ r, e = .returned (.int .i64 (toI r)) ∧ Nx (bitOf (u l)) N 0 r) ∧ w' = w) := HA 0 (by omega)
 have HI := HA i hi
 clear h hb hT hl hN HA
 go_enter Tryz.func230, Tryz.ntmps230
 go_wp2_with fail
 refine (HLN.out).mono ?_
 rintro e w' ⟨rfl, rfl⟩
 go_wp2_with fail
 refine HI.out.mono ?_
 rintro e w' ⟨⟨r, rfl, hr⟩, rfl⟩
 have HR := Lib.hid hr
 cases r with
 | none =>
   have et : toI none = -1 := rfl
   rw [et]
   clear hr
   go_wp2_with fail
   refine H0.out.mono ?_
   rintro e w' ⟨⟨r0, rfl, hr0⟩, rfl⟩
   have HR0 := Lib.hid hr0
   clear hr0
   go_wp2_with fail
   go_ret2
   exact ⟨⟨r0, rfl, .inr ⟨HR.out, HR0.out⟩⟩, rfl⟩
 | some j =>
   have et : toI (some j) = (j : Int) := rfl
   rw [et]
   have d3 : decide ((j : Int) ≥ 0) = true := decide_eq_true (by omega)
   clear hr
   go_wp2_with fail
   go_ret2
   exact ⟨⟨some j, rfl, .inl ⟨by simp, HR.out⟩⟩, rfl⟩
end
end Go.Proofs.YtpgpjjkeginbbaaGreatDoor.Ffs
namespace Go.Proofs.YtpgpjjkeginbbaaGreatDoor.Ffs
open Go.RowKit Go.Proofs BigFrame
set_option maxHeartbeats 4000000
set_option maxRecDepth 1000000
theorem FIn.congr {A : Nat → Prop} {w0 w : World} {sb lb cap L n : Nat} {g : Nat → Nat} {u u' : Nat → Nat → Nat} (h : FIn A w0 w sb lb cap L n g u) (hu : ∀ l i, l < L → u l i = u' l i) : FIn A w0 w sb lb cap L n g u' :=
 ⟨h.blk, h.lev, fun l hl => by obtain ⟨c, h1, h2, h3⟩ := h.row l hl; exact ⟨c, h1, h2, fun i hi => by rw [← hu l i hl]; exact h3 i hi⟩, h.one, h.ap, h.far⟩
theorem put_any {A : Nat → Prop} {w0 w : World} {sb lb cap L n : Nat} {g : Nat → Nat} {u : Nat → Nat → Nat} (h : FIn A w0 w sb lb cap L n g u) (hb : Bts L u) {l N i : Nat} (hl : l + 1 = L) (hN : 64 * 64 ^ l = N) (hi : i < N) (hbit : bitOf (u l) i = false) (hn : n ≤ 1000000) :
 Calls Tryz.prog 236 #[.pointer (some ⟨sb, 0, none⟩), .int .i64 i] w fun e w' => e = .returned (.bool true) ∧ FIn A w0 w' sb lb cap L (n + 1) g (putU L u i) ∧ Upd (fun k => w0.heap.size ≤ k ∧ ¬ A k) w w' := by
 have HSZ := Lib.hid (size_any h hl hN)
 have HHS := fun w' (hu : Upd Nowhere w w') => Lib.hid (has_any (h.old hu) hb hl hN hi)
 rw [hbit] at HHS
 obtain ⟨n1, hn1⟩ : ∃ x, n + 1 = x := ⟨_, rfl⟩
 rw [hn1]
 have hone := h.one
 have hNb : N ≤ 300000 := by have := pow_le (show l < 3 by omega); omega
 have hiL : i < 64 ^ L := by rw [← hl, Nat.pow_succ]; omega
 have d1 : decide ((i : Int) < 0) = false := decide_eq_false (by omega)
 have d2 : decide ((i : Int) ≥ N) = false := decide_eq_false (by omega)
 have d3 : decide (N ≤ i) = false := decide_eq_false (by omega)
 have e1 : IntKind.i64.wrap ((n : Int) + 1) = (n1 : Int) := by rw [IntKind.wrap_i64]; omega
 have e2 : IntKind.i64.wrap ((L : Int) - 1) = (l : Int) := by rw [IntKind.wrap_i64]; omega
 have H := Lib.hid h
 have HB := Lib.hid hb
 have HFS := Lib.hid (h.far sb (.inl rfl))
 have HFG := fun (m : Nat) (hm : m < L) => Lib.hid (h.far (g m) (.inr (.inr ⟨m, hm, rfl⟩)))
 clear h hb hbit hn1 hN
 go_enter Tryz.func236, Tryz.ntmps236
 go_wp2_with fail
 refine HSZ.out.mono ?_
 rintro e w' ⟨rfl, nq, rfl⟩
 have hu1 : Upd Nowhere w (w.drewN nq) := (Upd.refl _ _).drewN nq
 go_wp2_with fail
 refine (HHS _ hu1).out.mono ?_
 rintro e w' ⟨rfl, nq2, rfl⟩
 have hu2 : Upd Nowhere w ((w.drewN nq).drewN nq2) := hu1.drewN nq2
 obtain ⟨w1, hw1⟩ : ∃ w1, (w.drewN nq).drewN nq2 = w1 := ⟨_, rfl⟩
 rw [hw1] at hu2 ⊢
 clear hw1 hu1 HSZ HHS
 have H1 := Lib.hid (H.out.old hu2)
 obtain ⟨c0, c1, z0, z1⟩ := cells2 H1.out.blk
 go_wp2_with fail
 have H2 := Lib.hid (H1.out.setN n1)
 have HU2 := Lib.hid ((hu2.any (fun k => w0.heap.size ≤ k ∧ ¬ A k)).setCell (a := ⟨sb, 1, none⟩) (fun _ => HFS.out) (.int .i64 (n1 : Nat)))
 obtain ⟨w2, hw2⟩ : ∃ w2, w1.setCell ⟨sb, 1, none⟩ (.int .i64 (n1 : Nat)) = w2 := ⟨_, rfl⟩
 rw [hw2] at H2 HU2 ⊢
 clear hw2 c0 c1 z0 z1 hu2 H1 H
 go_loopw [1, 5] (fun iv lv wr => ∃ (m p : Nat) (x : Int) (v : Nat → Nat → Nat), m ≤ L ∧ lv = .int .i64 x ∧ x = (m : Int) - 1 ∧ iv = .int .i64 p ∧ p ≤ 300000 ∧ (1 ≤ m → p = pos L (m - 1) i) ∧ FIn A w0 wr sb lb cap L n1 g v ∧ (∀ a j, a < L → v a j = if m ≤ a then putU L u i a j else u a j) ∧ Upd (fun k => w0.heap.size ≤ k ∧ ¬ A k) w wr) (fun _ lv _ => (intOf lv + 1).toNat)
 case atStart => exact ⟨L, i, (l : Int), u, by omega, by first | rfl | exact congrArg (Value.int IntKind.i64) e2, by omega, rfl, by omega, fun _ => pos_last.symm, H2.out, fun a j ha => by rw [if_neg (by omega)], HU2.out⟩
 case round =>
  obtain ⟨m, p, x, v, hm, rfl, hx, rfl, hp, hpos, hf, hv, hu⟩ := hrel
  obtain ⟨wB, rfl⟩ : ∃ x, x = wr := ⟨_, rfl⟩
  clear H2 HU2
  have HU := Lib.hid hu
  have HV := Lib.hid hv
  have HF := Lib.hid hf
  by_cases hm0 : m = 0
  · subst hm0
    have hx1 : x = -1 := by omega
    subst hx1
    have HR := Lib.hid (hf.congr (u' := putU L u i) (fun a j ha => by rw [hv a j ha, if_pos (Nat.zero_le _)]))
    clear hf hv hu hx hpos
    go_wp2_with fail
    go_ret
    exact ⟨rfl, HR.out, HU.out⟩
  · obtain ⟨m', rfl⟩ : ∃ m', m = m' + 1 := ⟨m - 1, by omega⟩
    have hx1 : x = (m' : Int) := by omega
    subst hx1
    have hpp := hpos (by omega)
    rw [Nat.add_sub_cancel] at hpp
    have hml : m' < L := by omega
    have hplt := pos_lt (i := i) hml hiL
    rw [← hpp] at hplt
    obtain ⟨q, hq⟩ : ∃ q, p / 64 = q := ⟨_, rfl⟩
    obtain ⟨s, hs⟩ : ∃ s, p % 64 = s := ⟨_, rfl⟩
    have hqW : q < 64 ^ m' := by rw [Nat.pow_succ] at hplt; omega
    have hvq : v m' q = u m' q := by rw [hv m' q hml, if_neg (by omega)]
    obtain ⟨W, hW⟩ : ∃ W, 64 ^ m' = W := ⟨_, rfl⟩
    obtain ⟨c0, _, _, _⟩ := cells2 hf.blk
    have c1 := hf.lev m' hml
    have c2 := hf.word hml hqW
    have z2 : wB.frozen? ⟨g m', q, none⟩ = false := by obtain ⟨c, k1, _⟩ := hf.row m' hml; exact k1.free _
    rw [hW] at c1
    obtain ⟨y, hy⟩ : ∃ y, u m' q = y := ⟨_, rfl⟩
    rw [hvq, hy] at c2
    have hyb : y < 2 ^ 64 := by rw [← hy]; exact HB.out.ub m' q
    have hsb : s < 64 := by omega
    obtain ⟨B, hB⟩ : ∃ B, 2 ^ s = B := ⟨_, rfl⟩
    have hBb : B < 18446744073709551616 := by rw [← hB]; exact Nat.lt_of_lt_of_eq (Nat.pow_lt_pow_right (a := 2) (by omega) hsb) (by decide)
    obtain ⟨x2, hx2⟩ : ∃ x2, y ||| B = x2 := ⟨_, rfl⟩
    have es : IntKind.u64.wrap ((2 : Int) ^ s) = (B : Int) := by
     have e9 : (2 : Int) ^ s = (B : Int) := by rw [← hB]; push_cast; rfl
     rw [e9, IntKind.wrap_u64]; omega
    have ea : bits .or .u64 (y : Int) (B : Int) = (x2 : Int) := by rw [bits_or_u64_nat y B (by omega) hBb, hx2]
    have q1 : (p : Int).tdiv 64 = (q : Int) := by rw [Int.tdiv_eq_ediv_of_nonneg (by omega)]; omega
    have q2 : (p : Int) / 64 = (q : Int) := by omega
    have q3 : (p : Int).tmod 64 = (s : Int) := by rw [Int.tmod_eq_emod_of_nonneg (by omega)]; omega
    have q4 : (p : Int) % 64 = (s : Int) := by omega
    have p1 : (m' : Int) < L := by omega
    have p2 : (q : Int) < W := by rw [hW] at hqW; omega
    have d4 : decide ((m' : Int) ≥ 0) = true := decide_eq_true (by omega)
    have HV2 : Hid (∀ a j, a < L → setW v m' q x2 a j = if m' ≤ a then putU L u i a j else u a j) := Lib.hid (fun a j ha => by
     unfold setW
     by_cases hc : a = m' ∧ j = q
     · obtain ⟨rfl, rfl⟩ := hc
       rw [if_pos ⟨rfl, rfl⟩, if_pos (Nat.le_refl _)]
       unfold putU
       rw [← hpp, hq, if_pos rfl, hs, hy, hB, hx2]
     · rw [if_neg hc, HV.out a j ha]
       by_cases ham : a = m'
       · subst ham
         have hjq : j ≠ q := fun e => hc ⟨rfl, e⟩
         rw [if_neg (by omega), if_pos (Nat.le_refl _)]
         unfold putU
         rw [← hpp, hq, if_neg hjq]
       · by_cases hle : m' ≤ a
         · rw [if_pos (by omega), if_pos hle]
         · rw [if_neg (by omega), if_neg hle])
    have HP2 : Hid (1 ≤ m' → q = pos L (m' - 1) i) := Lib.hid (fun h1 => by
     have h9 := pos_up (L := L) (l := m' - 1) (i := i) (by omega)
     rw [show m' - 1 + 1 = m' by omega, ← hpp, hq] at h9
     exact h9.symm)
    have hqb : q ≤ 300000 := by omega
    have HQW := Lib.hid hqW
    clear hf hv hu hx hpos hpp hplt hq hs hvq hW hy hB hx2 hqW
    go_wp2_with fail
    refine wp_region_tail 16 (by kernel_rfl) (by kernel_rfl) ?_
    simp only [List.take_succ_cons, List.take_zero, List.drop_succ_cons, List.drop_zero]
    repeat (go_big_quiet_step (fail))
    refine wpQuiet_nil ?_
    rintro _ ⟨nq9, rfl⟩
    go_wp2
    refine Stage.out ?_
    have HF9 := Lib.hid ((HF.out.old ((Upd.refl Nowhere wB).drewN nq9)).setWord hml HQW.out x2)
    have HU9 := Lib.hid ((HU.out.drewN nq9).setCell (a := ⟨g m', q, none⟩) (fun _ => (HFG m' hml).out) (.int .u64 (x2 : Nat)))
    clear c0 c1 c2 z2
    go_wp2_with fail
    go_roundw
    case rel => exact ⟨m', q, (m' : Int) - 1, _, by omega, by go_num, rfl, rfl, hqb, HP2.out, HF9.out, HV2.out, HU9.out⟩
    case measure => simp [intOf]
end Go.Proofs.YtpgpjjkeginbbaaGreatDoor.Ffs
namespace Go.Proofs.YtpgpjjkeginbbaaGreatDoor.Ffs
open Go.RowKit Go.Proofs BigFrame
set_option maxHeartbeats 4000000
set_option maxRecDepth 1000000
theorem drop_any {A : Nat → Prop} {w0 w : World} {sb lb cap L n : Nat} {g : Nat → Nat} {u : Nat → Nat → Nat} (h : FIn A w0 w sb lb cap L n g u) (hb : Bts L u) {l N i : Nat} (hl : l + 1 = L) (hN : 64 * 64 ^ l = N) (hi : i < N) (hbit : bitOf (u l) i = true) (hn : n ≤ 1000000) (hn0 : 0 < n) :
 Calls Tryz.prog 225 #[.pointer (some ⟨sb, 0, none⟩), .int .i64 i] w fun e w' => e = .returned (.bool true) ∧ FIn A w0 w' sb lb cap L (n - 1) g (dropG L i L u) ∧ Upd (fun k => w0.heap.size ≤ k ∧ ¬ A k) w w' := by
 have HHS := Lib.hid (has_any h hb hl hN hi)
 have hX0 : BtsX L u (L - 1) (pos L (L - 1) i) := ⟨hb.ub, fun a ha j hj _ => hb.up a ha j hj, fun h9 => by omega, by rw [pos_last, ← hl, Nat.add_sub_cancel]; exact hbit⟩
 have HX0 := Lib.hid hX0
 rw [hbit] at HHS
 obtain ⟨n1, hn1⟩ : ∃ x, n - 1 = x := ⟨_, rfl⟩
 rw [hn1]
 have hone := h.one
 have hNb : N ≤ 300000 := by have := pow_le (show l < 3 by omega); omega
 have hiL : i < 64 ^ L := by rw [← hl, Nat.pow_succ]; omega
 have e1 : IntKind.i64.wrap ((n : Int) - 1) = (n1 : Int) := by rw [IntKind.wrap_i64]; omega
 have e2 : IntKind.i64.wrap ((L : Int) - 1) = (l : Int) := by rw [IntKind.wrap_i64]; omega
 have H := Lib.hid h
 have HB := Lib.hid hb
 have HFS := Lib.hid (h.far sb (.inl rfl))
 have HFG := fun (m : Nat) (hm : m < L) => Lib.hid (h.far (g m) (.inr (.inr ⟨m, hm, rfl⟩)))
 clear h hb hbit hn1 hN hX0
 go_enter Tryz.func225, Tryz.ntmps225
 go_wp2_with fail
 refine HHS.out.mono ?_
 rintro e w' ⟨rfl, nq, rfl⟩
 have hu2 : Upd Nowhere w (w.drewN nq) := (Upd.refl _ _).drewN nq
 obtain ⟨w1, hw1⟩ : ∃ w1, w.drewN nq = w1 := ⟨_, rfl⟩
 rw [hw1] at hu2 ⊢
 clear hw1 HHS
 have H1 := Lib.hid (H.out.old hu2)
 obtain ⟨c0, c1, z0, z1⟩ := cells2 H1.out.blk
 go_wp2_with fail
 have H2 := Lib.hid (H1.out.setN n1)
 have HU2 := Lib.hid ((hu2.any (fun k => w0.heap.size ≤ k ∧ ¬ A k)).setCell (a := ⟨sb, 1, none⟩) (fun _ => HFS.out) (.int .i64 (n1 : Nat)))
 obtain ⟨w2, hw2⟩ : ∃ w2, w1.setCell ⟨sb, 1, none⟩ (.int .i64 (n1 : Nat)) = w2 := ⟨_, rfl⟩
 rw [hw2] at H2 HU2 ⊢
 clear hw2 c0 c1 z0 z1 hu2 H1 H
 go_loopw [1, 5] (fun iv lv wr => ∃ (m p : Nat) (x : Int) (v : Nat → Nat → Nat), m ≤ L ∧ lv = .int .i64 x ∧ x = (m : Int) - 1 ∧ iv = .int .i64 p ∧ p ≤ 300000 ∧ (1 ≤ m → p = pos L (m - 1) i) ∧ FIn A w0 wr sb lb cap L n1 g v ∧ dropG L i m v = dropG L i L u ∧ (1 ≤ m → BtsX L v (m - 1) (pos L (m - 1) i)) ∧ Upd (fun k => w0.heap.size ≤ k ∧ ¬ A k) w wr) (fun _ lv _ => (intOf lv + 1).toNat)
 case atStart => exact ⟨L, i, (l : Int), u, by omega, by first | rfl | exact congrArg (Value.int IntKind.i64) e2, by omega, rfl, by omega, fun _ => pos_last.symm, H2.out, rfl, fun _ => HX0.out, HU2.out⟩
 case round =>
  obtain ⟨m, p, x, v, hm, rfl, hx, rfl, hp, hpos, hf, hv, hbx, hu⟩ := hrel
  obtain ⟨wB, rfl⟩ : ∃ x, x = wr := ⟨_, rfl⟩
  clear H2 HU2 HX0
  have HU := Lib.hid hu
  have HV := Lib.hid hv
  have HF := Lib.hid hf
  by_cases hm0 : m = 0
  · subst hm0
    have hx1 : x = -1 := by omega
    subst hx1
    have HR := Lib.hid (hf.congr (u' := dropG L i L u) (fun a j _ => by rw [← hv]; rfl))
    clear hf hv hu hx hpos hbx
    go_wp2_with fail
    go_ret
    exact ⟨rfl, HR.out, HU.out⟩
  · obtain ⟨m', rfl⟩ : ∃ m', m = m' + 1 := ⟨m - 1, by omega⟩
    have hx1 : x = (m' : Int) := by omega
    subst hx1
    have hpp := hpos (by omega)
    rw [Nat.add_sub_cancel] at hpp
    have hml : m' < L := by omega
    have hplt := pos_lt (i := i) hml hiL
    rw [← hpp] at hplt
    obtain ⟨q, hq⟩ : ∃ q, p / 64 = q := ⟨_, rfl⟩
    obtain ⟨s, hs⟩ : ∃ s, p % 64 = s := ⟨_, rfl⟩
    have hqW : q < 64 ^ m' := by rw [Nat.pow_succ] at hplt; omega
    have hbx1 := hbx (by omega)
    rw [Nat.add_sub_cancel] at hbx1
    have hbit1 : (v m' q).testBit s = true := by have h9 := hbx1.bit; unfold bitOf at h9; rw [← hpp, hq, hs] at h9; exact h9
    obtain ⟨W, hW⟩ : ∃ W, 64 ^ m' = W := ⟨_, rfl⟩
    obtain ⟨c0, _, _, _⟩ := cells2 hf.blk
    have c1 := hf.lev m' hml
    have c2 := hf.word hml hqW
    have z2 : wB.frozen? ⟨g m', q, none⟩ = false := by obtain ⟨c, k1, _⟩ := hf.row m' hml; exact k1.free _
    rw [hW] at c1
    obtain ⟨y, hy⟩ : ∃ y, v m' q = y := ⟨_, rfl⟩
    rw [hy] at c2 hbit1
    have hyb : y < 2 ^ 64 := by rw [← hy]; exact hbx1.ub m' q
    have hsb : s < 64 := by omega
    obtain ⟨B, hB⟩ : ∃ B, 2 ^ s = B := ⟨_, rfl⟩
    have hBb : B < 18446744073709551616 := by rw [← hB]; exact Nat.lt_of_lt_of_eq (Nat.pow_lt_pow_right (a := 2) (by omega) hsb) (by decide)
    obtain ⟨x2, hx2⟩ : ∃ x2, y - B = x2 := ⟨_, rfl⟩
    have es : IntKind.u64.wrap ((2 : Int) ^ s) = (B : Int) := by
     have e9 : (2 : Int) ^ s = (B : Int) := by rw [← hB]; push_cast; rfl
     rw [e9, IntKind.wrap_u64]; omega
    have ea : bits .andNot .u64 (y : Int) (B : Int) = (x2 : Int) := by
     have h9 := Wheel.andNot_bit hsb hyb hbit1
     rw [hB] at h9
     rw [Wheel.andNot_u64_nat y B (by omega) hBb, h9, hx2]
    have q1 : (p : Int).tdiv 64 = (q : Int) := by rw [Int.tdiv_eq_ediv_of_nonneg (by omega)]; omega
    have q2 : (p : Int) / 64 = (q : Int) := by omega
    have q3 : (p : Int).tmod 64 = (s : Int) := by rw [Int.tmod_eq_emod_of_nonneg (by omega)]; omega
    have q4 : (p : Int) % 64 = (s : Int) := by omega
    have p1 : (m' : Int) < L := by omega
    have p2 : (q : Int) < W := by rw [hW] at hqW; omega
    have d4 : decide ((m' : Int) ≥ 0) = true := decide_eq_true (by omega)
    have hsw : setW v m' q x2 = dropAt v m' (pos L m' i) := by
     funext a j
     unfold setW dropAt
     rw [← hpp, hq, hs]
     by_cases hc : a = m' ∧ j = q
     · obtain ⟨rfl, rfl⟩ := hc
       rw [if_pos ⟨rfl, rfl⟩, if_pos ⟨rfl, rfl⟩, hy, hB, hx2]
     · rw [if_neg hc, if_neg hc]
    have hdw : dropAt v m' (pos L m' i) m' q = x2 := by
     rw [← hsw]; unfold setW; rw [if_pos ⟨rfl, rfl⟩]
    have HSW := Lib.hid hsw
    have HDW := Lib.hid hdw
    have HVE : Hid ((if x2 ≠ 0 then dropAt v m' (pos L m' i) else dropG L i m' (dropAt v m' (pos L m' i))) = dropG L i L u) := Lib.hid (by
     rw [← HV.out]
     show _ = (if dropAt v m' (pos L m' i) m' (pos L m' i / 64) ≠ 0 then dropAt v m' (pos L m' i) else dropG L i m' (dropAt v m' (pos L m' i)))
     rw [← hpp, hq, hpp, hdw])
    have HBX2 : Hid (x2 = 0 → 1 ≤ m' → BtsX L (dropAt v m' (pos L m' i)) (m' - 1) (pos L (m' - 1) i)) := Lib.hid (fun h0 h1 => by
     obtain ⟨m2, rfl⟩ : ∃ m2, m' = m2 + 1 := ⟨m' - 1, by omega⟩
     rw [Nat.add_sub_cancel]
     exact btsX_next hiL hml hbx1 (by rw [← hpp, hq, hpp, hdw, h0]))
    have HP2 : Hid (1 ≤ m' → q = pos L (m' - 1) i) := Lib.hid (fun h1 => by
     have h9 := pos_up (L := L) (l := m' - 1) (i := i) (by omega)
     rw [show m' - 1 + 1 = m' by omega, ← hpp, hq] at h9
     exact h9.symm)
    have hqb : q ≤ 300000 := by omega
    have HQW := Lib.hid hqW
    clear hf hv hu hx hpos hpp hplt hq hs hW hy hB hx2 hqW hbx hbx1 hbit1 hsw hdw
    go_wp2_with fail
    refine wp_region_tail 16 (by kernel_rfl) (by kernel_rfl) ?_
    simp only [List.take_succ_cons, List.take_zero, List.drop_succ_cons, List.drop_zero]
    repeat (go_big_quiet_step (fail))
    refine wpQuiet_nil ?_
    rintro _ ⟨nq9, rfl⟩
    go_wp2
    refine Stage.out ?_
    have HF9 := Lib.hid ((HF.out.old ((Upd.refl Nowhere wB).drewN nq9)).setWord hml HQW.out x2)
    have HU9 := Lib.hid ((HU.out.drewN nq9).setCell (a := ⟨g m', q, none⟩) (fun _ => (HFG m' hml).out) (.int .u64 (x2 : Nat)))
    clear c0 c1 c2 z2
    rw [HSW.out] at HF9
    obtain ⟨w9, hw9⟩ : ∃ w9, (wB.drewN nq9).setCell ⟨g m', q, none⟩ (.int .u64 (x2 : Nat)) = w9 := ⟨_, rfl⟩
    rw [hw9] at HF9 HU9 ⊢
    clear hw9
    obtain ⟨c0, _, _, _⟩ := cells2 HF9.out.blk
    have c1 := HF9.out.lev m' hml
    have c2 := HF9.out.word hml HQW.out
    rw [HDW.out] at c2
    obtain ⟨W', hW'⟩ : ∃ W, 64 ^ m' = W := ⟨_, rfl⟩
    have hqW' : (q : Int) < W' := by have := HQW.out; omega
    rw [hW'] at c1
    by_cases hx0 : x2 = 0
    · have n1 : ((x2 : Int) != 0) = false := by simp [hx0]
      have n1' : ((x2 : Int) == 0) = true := by simp [hx0]
      have hve := HVE.out
      rw [if_neg (by simp [hx0])] at hve
      have HVE2 := Lib.hid hve
      have HBX3 := Lib.hid (HBX2.out hx0)
      have HX0 := Lib.hid hx0
      clear hve hW' hx0
      go_wp2_with fail
      go_roundw
      case rel => exact ⟨m', q, (m' : Int) - 1, _, by omega, by go_num, rfl, rfl, hqb, HP2.out, HF9.out, HVE2.out, HBX3.out, HU9.out⟩
      case measure => simp [intOf]
    · have n1 : ((x2 : Int) != 0) = true := by simp; omega
      have n1' : ((x2 : Int) == 0) = false := by simp; omega
      have hve := HVE.out
      rw [if_pos hx0] at hve
      rw [hve] at HF9
      clear hve hW'
      go_wp2_with fail
      go_ret
      exact ⟨rfl, HF9.out, HU9.out⟩
end Go.Proofs.YtpgpjjkeginbbaaGreatDoor.Ffs
namespace Go.Proofs.YtpgpjjkeginbbaaGreatDoor.Ffs
open Go.RowKit Go.Proofs BigFrame
set_option maxHeartbeats 4000000
set_option maxRecDepth 1000000
theorem infoU : (Tryz.prog.info? TU).map (fun i => (i.zero, i.size, i.bytes)) = some (some (.int .u64 0), 1, 8) := by kernel_rfl
abbrev TL : TypeId := 22
theorem infoL : (Tryz.prog.info? TL).map (fun i => (i.zero, i.size, i.bytes)) = some (some (.slice none 0 0), 1, 24) := by kernel_rfl
/-- The levels, as values. -/
def lvs (g : Nat → Nat) (k : Nat) : List Value := (List.range k).map fun l => .slice (some ⟨g l, 0, none⟩) (64 ^ l) (64 ^ l)
/-- k levels have been made. -/
structure Mk (w wr : World) (lv : Value) (k : Nat) (g : Nat → Nat) : Prop where
 blk : Blk wr w.heap.size #[lv, .int .i64 0] TS
 own : wr.ownsRow (w.heap.size + 1) TL 1 lv k (lvs g k)
 row : ∀ l, l < k → ∃ c : Array Value, Blk wr (g l) c TU ∧ c.size = 64 ^ l ∧ ∀ i, i < 64 ^ l → c[i]? = some (.int .u64 0)
 ap : ∀ l, l < k → w.heap.size < g l ∧ lv.ownBlock ≠ some (g l) ∧ ∀ m, m < k → m ≠ l → g m ≠ g l
 upd : Upd Nowhere w wr
end Go.Proofs.YtpgpjjkeginbbaaGreatDoor.Ffs
namespace Go.Proofs.YtpgpjjkeginbbaaGreatDoor.Ffs
open Go.RowKit Go.Proofs BigFrame
set_option maxHeartbeats 4000000
set_option maxRecDepth 1000000
theorem new_cells2 (w : World) (o : Obj) (c : Array Value) (t : TypeId) : ∀ (j : Nat) (u : Value), c.toList[j]? = some u → ((w.alloc o).alloc (.cells c t)).cell? ⟨w.heap.size + 1, j, none⟩ = some u := fun j u hu => by
 have h := new_cells (w.alloc o) c t j u hu
 simpa using h
theorem form_of {E : TypeId} {size base n : Nat} {w : World} {v : Value} {xs : List Value} (h : w.ownsRow base E size v n xs) : ∃ ad c, v = .slice ad n c := by
 rcases h.2 with ⟨rfl, h0⟩ | ⟨g, c, cur, rfl, _⟩
 · exact ⟨none, 0, by rw [h0]⟩
 · exact ⟨_, c, rfl⟩
theorem make_u (W : Nat) (h : W ≤ 4096) : ∃ cs : Array Value, (cs.size = W ∧ ∀ i, i < W → cs[i]? = some (.int .u64 0)) ∧ ∀ u : World, (Instr.makeSlice 22 (.int .i64 W) (.int .i64 W)).run Tryz.prog u = .ok (.slice (some ⟨u.heap.size, 0, none⟩) W W) (u.alloc (.cells cs TU)) := by
 obtain ⟨i0, hi, hz0, hz1, hz2⟩ := info_parts infoU
 refine ⟨madeCells #[.int .u64 0] W, ⟨by simp [madeCells], fun i hi => by simp [madeCells, hi, Nat.mod_one]⟩, fun u => ?_⟩
 have h := Go.run_make (P := Tryz.prog) u 22 TU i0 (.int .u64 0) Tryz.underlying22 hi hz0 .i64 .i64 W W (by omega) (by omega) (by rw [hz2]; omega) (by omega)
 rw [h, hz1]
 simp [Value.cells]
theorem lvs_snoc (g : Nat → Nat) (k x : Nat) : lvs (fun l => if l = k then x else g l) (k + 1) = lvs g k ++ [.slice (some ⟨x, 0, none⟩) (64 ^ k) (64 ^ k)] := by
 unfold lvs
 rw [List.range_succ, List.map_append, List.map_singleton]
 congr 1
 · exact List.map_congr_left fun l hl => by rw [List.mem_range] at hl; simp [show ¬ l = k by omega]
 · simp
theorem Mk.grow {w wB W3 w6 : World} {k : Nat} {lv : Value} {g : Nat → Nat} {v6 : Value} {cs : Array Value} {W : Nat} (hW : 64 ^ k = W) (h : Mk w wB lv k g) (hcs : cs.size = W ∧ ∀ i, i < W → cs[i]? = some (.int .u64 0)) (hb : Blk W3 wB.heap.size cs TU) (hu3 : Upd Nowhere wB W3)
 (hown : w6.ownsRow (w.heap.size + 1) TL 1 v6 (k + 1) (lvs g k ++ [.slice (some ⟨wB.heap.size, 0, none⟩) W W])) (hu : Upd (fun x => lv.ownBlock = some x) W3 w6) (hn : OwnOrNew W3 lv v6) :
 Blk w6 w.heap.size #[lv, .int .i64 0] TS ∧ ∀ w7, Upd Nowhere w6 w7 → Mk w (w7.setCell ⟨w.heap.size, 0, none⟩ v6) v6 (k + 1) (fun l => if l = k then wB.heap.size else g l) := by
 subst hW
 have ho : ∀ x, lv.ownBlock = some x → w.heap.size + 1 ≤ x ∧ x < wB.heap.size := fun x hx => h.own.lt x hx
 have h0 : Blk w6 w.heap.size #[lv, .int .i64 0] TS := (h.blk.kept hu3 id).kept hu (fun e => by have := ho _ e; omega)
 have h6 : ∀ x, v6.ownBlock = some x → w.heap.size + 1 ≤ x ∧ (lv.ownBlock = some x ∨ W3.heap.size ≤ x) := fun x hx => ⟨(hown.lt x hx).1, hn x hx⟩
 have hlt3 := hb.lt
 have hlt : ∀ l, l < k → g l < wB.heap.size := fun l hl => by obtain ⟨c, h1, _⟩ := h.row l hl; exact h1.lt
 refine ⟨h0, fun w7 h7 => ?_⟩
 have b7 := h0.kept h7 id
 have hset : ∀ {x : Nat} {c : Array Value} {t : TypeId}, x ≠ w.heap.size → Blk w7 x c t → Blk (w7.setCell ⟨w.heap.size, 0, none⟩ v6) x c t := fun hx hb => hb.setOther hx v6
 refine ⟨by simpa using b7.set 0 v6, ?_, fun l hl => ?_, fun l hl => ⟨?_, ?_, fun m hm hml => ?_⟩, ?_⟩
 · rw [lvs_snoc]
   refine ownsRow_upd (ownsRow_upd hown h7 (fun _ _ h => h)) (Upd.setCell (S := fun x => x = w.heap.size) (Upd.refl _ _) (fun _ => rfl) v6) (fun x hx hv => ?_)
   first | (have := h6 x hv; omega) | (have := h6 x hx; omega)
 · by_cases hlk : l = k
   · subst hlk
     refine ⟨cs, ?_, hcs⟩
     simp only [if_true]
     refine hset (by have := h.blk.lt; omega) ((hb.kept hu (fun e => ?_)).kept h7 id)
     have := ho _ e; omega
   · obtain ⟨c, h1, h2, h3⟩ := h.row l (by omega)
     simp only [hlk, if_false]
     have hap := h.ap l (by omega)
     exact ⟨c, hset (by omega) (((h1.kept hu3 id).kept hu hap.2.1).kept h7 id), h2, h3⟩
 · have hbl := h.blk.lt
   by_cases hlk : l = k
   · simp only [hlk, if_true]; exact hbl
   · simp only [hlk, if_false]; exact (h.ap l (by omega)).1
 · intro e
   by_cases hlk : l = k
   · simp only [hlk, if_true] at e
     rcases (h6 _ e).2 with h8 | h8
     · have := ho _ h8; omega
     · omega
   · simp only [hlk, if_false] at e
     rcases (h6 _ e).2 with h8 | h8
     · exact (h.ap l (by omega)).2.1 h8
     · have := hlt l (by omega); have := hu3.size; omega
 · by_cases hlk : l = k <;> by_cases hmk : m = k <;> simp only [hlk, hmk, if_true, if_false]
   · omega
   · have := hlt m (by omega); omega
   · have := hlt l (by omega); omega
   · exact (h.ap l (by omega)).2.2 m (by omega) hml
 · exact (((h.upd.trans hu3 (fun _ _ h => h)).trans hu (fun x hx he => by have := ho x he; omega)).trans h7 (fun _ _ h => h)).setNew (Nat.le_refl _) v6
theorem new_good (L : Nat) (h1 : 1 ≤ L) (h2 : L ≤ 3) (w : World) :
 Calls Tryz.prog 90 #[.int .i64 L] w fun e w' => e = .returned (.tuple #[.pointer (some ⟨w.heap.size, 0, none⟩), .int .i64 0]) ∧ ∃ lv g, Mk w w' lv L g := by
 obtain ⟨i0, hi, hz0, hz1, hz2⟩ := info_parts infoU
 obtain ⟨i1, gi, gz0, gz1, gz2⟩ := info_parts infoL
 have d1 : decide ((L : Int) < 1) = false := decide_eq_false (by omega)
 have d2 : decide ((L : Int) > 3) = false := decide_eq_false (by omega)
 have d3 : decide (3 < L) = false := decide_eq_false (by omega)
 have hm0 : Mk w (w.alloc (.cells #[.slice none 0 0, .int .i64 0] TS)) (.slice none 0 0) 0 (fun _ => 0) := ⟨Blk.new _ _ _, ownsRow_nil _ _ _ _, fun l hl => by omega, fun l hl => by omega, (Upd.refl _ _).alloc _⟩
 go_enter Tryz.func90, Tryz.ntmps90
 go_wp2_with fail
 go_loopw [5] (fun sv wr => ∃ (k W : Nat) (lv : Value) (g : Nat → Nat), k ≤ L ∧ 64 ^ k = W ∧ sv = .int .i64 W ∧ Mk w wr lv k g) (fun sv _ => 262145 - (intOf sv).toNat)
 case atStart => exact ⟨0, 1, _, _, by omega, rfl, rfl, hm0⟩
 case round =>
  clear hm0
  obtain ⟨k, W, lv, g, hk, hW, rfl, hm⟩ := hrel
  obtain ⟨wB, rfl⟩ : ∃ x, x = wr := ⟨_, rfl⟩
  obtain ⟨ad, c, rfl⟩ : ∃ ad c, lv = .slice ad k c := by
   rcases hm.own.2 with ⟨rfl, h0⟩ | ⟨g, c, cur, rfl, _⟩
   · exact ⟨none, 0, by rw [h0]⟩
   · exact ⟨_, c, rfl⟩
  obtain ⟨c0, c1, z0, z1⟩ := cells2 hm.blk
  have HM := Lib.hid hm
  have HWE := Lib.hid hW
  by_cases hlt : k < L
  · have e1 : decide ((k : Int) < L) = true := decide_eq_true (by omega)
    have hI : (k : Int) < L := by omega
    obtain ⟨hW1, hW2⟩ := pow_le (show k < 3 by omega)
    rw [hW] at hW1 hW2
    have hsz : w.heap.size < wB.heap.size := hm.blk.lt
    clear hm hW
    obtain ⟨cs, hcs, hmk⟩ := make_u W (by omega)
    have HCS := Lib.hid hcs
    clear hcs
    have b0 : ∀ x, (wB.alloc x).cell? ⟨w.heap.size, 0, none⟩ = some (.slice ad k c) := fun x => cell_old ((Upd.refl _ _).alloc _) c0
    go_upto_region 7 with fail
    have HOWN := Lib.hid HM.out.own
    go_region_law (first | (go_loud (refine step_push rfl _ _ 313 rfl (w.heap.size + 1) TL i1 (.slice none 0 0) 1 24 Tryz.underlying313 gi gz0 gz1 gz2 rfl (by decide) (by decide) (.slice ad k c) k _ rfl (ownsRow_upd HOWN.out (by repeat (first | with_reducible exact Upd.refl _ _ | with_reducible refine Upd.drew ?_ | with_reducible refine Upd.alloc ?_ _)) (fun _ _ h => h)) (wB.heap.size + 1) 1 [.slice (some ⟨wB.heap.size, 0, none⟩) W W] rfl rfl (fun j u hu => by have h9 := new_cells2 wB (.cells cs TU) #[.slice (some ⟨wB.heap.size, 0, none⟩) W W] TL j u hu; first | exact h9 | (simp at h9 ⊢; exact h9)) (by simp [Value.oneCell']) (by omega) (by simp; omega) ?_; intro v6 w6 hown6 hu6 hn6; have H6 := Lib.hid (HM.out.grow HWE.out HCS.out (((Blk.new wB cs TU).kept (S := Nowhere) (by repeat (first | with_reducible exact Upd.refl _ _ | with_reducible refine Upd.drew ?_ | with_reducible refine Upd.alloc ?_ _)) id)) (by repeat (first | with_reducible exact Upd.refl _ _ | with_reducible refine Upd.drew ?_ | with_reducible refine Upd.alloc ?_ _)) hown6 hu6 hn6); obtain ⟨ad6, c6, rfl⟩ := form_of hown6; obtain ⟨k0, k1, y0, y1⟩ := cells2 H6.out.1; clear hown6 hu6 hn6)))
    all_goals
     go_wp2_with fail
     go_roundw
     case rel => exact ⟨k + 1, W * 64, _, _, by omega, by rw [Nat.pow_succ, HWE.out], by go_num, H6.out.2 _ (by repeat (first | with_reducible exact Upd.refl _ _ | with_reducible refine Upd.drew ?_ | with_reducible refine Upd.drewN ?_ _))⟩
     case measure =>
      have e9 : intOf (.int .i64 ((W : Int) * 64)) = (W : Int) * 64 := rfl
      simp only [intOf]
      simp
      omega
  · obtain rfl : k = L := by omega
    have e1 : decide ((k : Int) < k) = false := decide_eq_false (by omega)
    clear hm
    go_wp2_with fail
    go_ret2
    exact ⟨rfl, _, _, HM.out⟩
end Go.Proofs.YtpgpjjkeginbbaaGreatDoor.Ffs
namespace Go.Proofs.YtpgpjjkeginbbaaGreatDoor.Ffs
open Go.RowKit Go.Proofs BigFrame
open Wheel (Tab)
open Pool (upd upd_at upd_off)
set_option maxHeartbeats 4000000
set_option maxRecDepth 1000000
/-- What is there already is not put in. -/
theorem put_there {A : Nat → Prop} {w0 w : World} {sb lb cap L n : Nat} {g : Nat → Nat} {u : Nat → Nat → Nat} (h : FIn A w0 w sb lb cap L n g u) (hb : Bts L u) {l N i : Nat} (hl : l + 1 = L) (hN : 64 * 64 ^ l = N) (hi : i < N) (hbit : bitOf (u l) i = true) :
 Calls Tryz.prog 236 #[.pointer (some ⟨sb, 0, none⟩), .int .i64 i] w fun e w' => e = .returned (.bool false) ∧ ∃ k, w' = w.drewN k := by
 have HSZ := Lib.hid (size_any h hl hN)
 have HHS := fun w' (hu : Upd Nowhere w w') => Lib.hid (has_any (h.old hu) hb hl hN hi)
 rw [hbit] at HHS
 have d1 : decide ((i : Int) < 0) = false := decide_eq_false (by omega)
 have d2 : decide ((i : Int) ≥ N) = false := decide_eq_false (by omega)
 have d3 : decide (N ≤ i) = false := decide_eq_false (by omega)
 clear h hb hbit
 go_enter Tryz.func236, Tryz.ntmps236
 go_wp2_with fail
 refine HSZ.out.mono ?_
 rintro e w' ⟨rfl, nq, rfl⟩
 have hu1 : Upd Nowhere w (w.drewN nq) := (Upd.refl _ _).drewN nq
 go_wp2_with fail
 refine (HHS _ hu1).out.mono ?_
 rintro e w' ⟨rfl, nq2, rfl⟩
 go_wp2_with fail
 go_ret
 exact ⟨rfl, _, rfl⟩
/-- How many there are below N. -/
def cnt (B : Nat → Bool) : Nat → Nat
 | 0 => 0
 | n + 1 => cnt B n + if B n then 1 else 0
theorem cnt_le (B : Nat → Bool) (N : Nat) : cnt B N ≤ N := by
 induction N with
 | zero => exact Nat.le_refl _
 | succ n ih => unfold cnt; split <;> omega
theorem cnt_congr {B B' : Nat → Bool} : ∀ {N : Nat}, (∀ i, i < N → B i = B' i) → cnt B N = cnt B' N
 | 0, _ => rfl
 | n + 1, h => by unfold cnt; rw [cnt_congr (fun i hi => h i (by omega)), h n (by omega)]
theorem cnt_zero {B : Nat → Bool} {N : Nat} (h : ∀ i, i < N → B i = false) : cnt B N = 0 := by
 induction N with
 | zero => rfl
 | succ n ih => unfold cnt; rw [ih (fun i hi => h i (by omega)), h n (by omega)]; rfl
theorem cnt_pos {B : Nat → Bool} {N i : Nat} (hi : i < N) (h : B i = true) : 0 < cnt B N := by
 induction N with
 | zero => omega
 | succ n ih =>
   unfold cnt
   by_cases e : i = n
   · subst e; rw [h]; simp
   · have := ih (by omega); omega
theorem cnt_set {B : Nat → Bool} {N i : Nat} (hi : i < N) (h : B i = false) : cnt (upd B i true) N = cnt B N + 1 := by
 induction N with
 | zero => omega
 | succ n ih =>
   unfold cnt
   by_cases e : i = n
   · subst e
     rw [upd_at, h, cnt_congr (B := upd B i true) (B' := B) (fun j hj => upd_off _ _ _ (by omega))]; simp
   · rw [ih (by omega), upd_off _ _ _ (show n ≠ i by omega)]; omega
theorem cnt_clr {B : Nat → Bool} {N i : Nat} (hi : i < N) (h : B i = true) : cnt (upd B i false) N = cnt B N - 1 := by
 have h1 := cnt_set (B := upd B i false) hi (upd_at _ _ _)
 rw [cnt_congr (B := upd (upd B i false) i true) (B' := B) (fun j hj => by
  by_cases e : j = i
  · subst e; rw [upd_at, h]
  · rw [upd_off _ _ _ e, upd_off _ _ _ e])] at h1
 omega
/-- A set of the blocks own: whether each number below N is in it. -/
def Dy (w : World) (sb : Nat) (own : Nat → Prop) (N : Nat) (B : Nat → Bool) : Prop :=
 ∃ w0 lb cap L n g u l, FIn (fun k => ¬ own k) w0 w sb lb cap L n g u ∧ Bts L u ∧ l + 1 = L ∧ 64 * 64 ^ l = N ∧ (∀ i, i < N → bitOf (u l) i = B i) ∧ n = cnt B N ∧ ∀ k, own k ↔ FOwn sb lb L g k
section
variable {w w' : World} {sb N : Nat} {own : Nat → Prop} {B : Nat → Bool}
theorem Dy.lts (h : Dy w sb own N B) {k : Nat} (hk : own k) : k < w.heap.size := by
 obtain ⟨w0, lb, cap, L, n, g, u, l, hf, _, _, _, _, _, ho⟩ := h
 exact hf.lts ((ho k).1 hk)
theorem Dy.kept (h : Dy w sb own N B) {S : Nat → Prop} (hu : Upd S w w') (hS : ∀ k, own k → ¬ S k) : Dy w' sb own N B := by
 obtain ⟨w0, lb, cap, L, n, g, u, l, hf, hr⟩ := h
 exact ⟨w0, lb, cap, L, n, g, u, l, hf.kept hu (fun k hk _ => .inl fun ho => hS k ho hk), hr⟩
theorem Dy.size (h : Dy w sb own N B) : 64 ≤ N ∧ N ≤ 262144 := by
 obtain ⟨w0, lb, cap, L, n, g, u, l, hf, hb, hl, hN, _⟩ := h
 have := pow_le (show l < 3 by have := hf.one; omega)
 omega
theorem Dy.congr {B' : Nat → Bool} (h : Dy w sb own N B) (hB : ∀ i, i < N → B' i = B i) : Dy w sb own N B' := by
 obtain ⟨w0, lb, cap, L, n, g, u, l, hf, hb, hl, hN, hbit, hn, ho⟩ := h
 exact ⟨w0, lb, cap, L, n, g, u, l, hf, hb, hl, hN, fun i hi => by rw [hbit i hi, hB i hi], by rw [hn, cnt_congr (fun i hi => (hB i hi).symm)], ho⟩
theorem d_size (h : Dy w sb own N B) : Calls Tryz.prog 92 #[.pointer (some ⟨sb, 0, none⟩)] w fun e w' => e = .returned (.int .i64 N) ∧ ∃ k, w' = w.drewN k := by
 obtain ⟨w0, lb, cap, L, n, g, u, l, hf, hb, hl, hN, hbit, hn, ho⟩ := h
 exact size_any hf hl hN
theorem d_len (h : Dy w sb own N B) : Calls Tryz.prog 228 #[.pointer (some ⟨sb, 0, none⟩)] w fun e w' => e = .returned (.int .i64 (cnt B N)) ∧ w = w' := by
 obtain ⟨w0, lb, cap, L, n, g, u, l, hf, hb, hl, hN, hbit, hn, ho⟩ := h
 rw [← hn]
 exact len_any hf
theorem d_from (h : Dy w sb own N B) (hT : Tab w) {i j : Nat} (hi : i < N) (hj : j < N) (hB : B j = true) : Calls Tryz.prog 230 #[.pointer (some ⟨sb, 0, none⟩), .int .i64 i] w fun e w' =>
 (∃ r : Nat, e = .returned (.tuple #[.int .i64 r, .bool true]) ∧ r < N ∧ B r = true ∧ ((i ≤ r ∧ ∀ k, i ≤ k → k < r → B k = false) ∨ ((∀ k, i ≤ k → k < N → B k = false) ∧ ∀ k, k < r → B k = false))) ∧ w' = w := by
 obtain ⟨w0, lb, cap, L, n, g, u, l, hf, hb, hl, hN, hbit, hn, ho⟩ := h
 have hsz : N ≤ 262144 := by
  have := pow_le (show l < 3 by have := hf.one; omega)
  omega
 refine (from_any hf hb hT (by rw [hn]; exact cnt_pos hj hB) hl hN (show i ≤ 1000000 by omega)).mono ?_
 rintro e w' ⟨⟨r, rfl, hr⟩, rfl⟩
 refine ⟨?_, rfl⟩
 rcases hr with ⟨h0, h1⟩ | ⟨h0, h1⟩
 · cases r with
   | none => exact absurd rfl h0
   | some r =>
     obtain ⟨a1, a2, a3, a4⟩ := h1
     exact ⟨r, rfl, a2, by rw [← hbit r a2]; exact a3, .inl ⟨a1, fun k h1 h2 => by rw [← hbit k (by omega)]; exact a4 k h1 h2⟩⟩
 · cases r with
   | none =>
     have := h1 j (Nat.zero_le _) hj
     rw [hbit j hj, hB] at this; cases this
   | some r =>
     obtain ⟨a1, a2, a3, a4⟩ := h1
     exact ⟨r, rfl, a2, by rw [← hbit r a2]; exact a3, .inr ⟨fun k h1 h2 => by rw [← hbit k h2]; exact h0 k h1 h2, fun k h2 => by rw [← hbit k (by omega)]; exact a4 k (Nat.zero_le _) h2⟩⟩
theorem d_put (h : Dy w sb own N B) {i : Nat} (hi : i < N) : Calls Tryz.prog 236 #[.pointer (some ⟨sb, 0, none⟩), .int .i64 i] w fun e w' => (∃ b, e = .returned (.bool b)) ∧ Dy w' sb own N (upd B i true) ∧ Upd own w w' := by
 have hh := h
 obtain ⟨w0, lb, cap, L, n, g, u, l, hf, hb, hl, hN, hbit, hn, ho⟩ := h
 cases hB : B i with
 | false =>
   refine (put_any hf hb hl hN hi (by rw [hbit i hi, hB]) (by have := cnt_le B N; have := hh.size; omega)).mono ?_
   rintro e w' ⟨rfl, h1, h2⟩
   refine ⟨⟨_, rfl⟩, ⟨w0, lb, cap, L, _, g, _, l, h1, bts_put hb i, hl, hN, fun j hj => ?_, by rw [cnt_set hi hB, hn], ho⟩, h2.mono fun k _ hk => Classical.not_not.1 hk.2⟩
   rw [bit_put, hbit j hj, show l = L - 1 by omega, pos_last]
   by_cases e : j = i
   · subst e; rw [upd_at]; simp
   · rw [upd_off _ _ _ e]; simp [e]
 | true =>
   refine (put_there hf hb hl hN hi (by rw [hbit i hi, hB])).mono ?_
   rintro e w' ⟨rfl, k, rfl⟩
   refine ⟨⟨_, rfl⟩, (hh.kept (S := Nowhere) ((Upd.refl _ _).drewN k) (fun _ _ h => h)).congr fun j hj => ?_, (Upd.refl _ _).drewN k⟩
   by_cases e : j = i
   · subst e; rw [upd_at, hB]
   · rw [upd_off _ _ _ e]
theorem d_drop (h : Dy w sb own N B) {i : Nat} (hi : i < N) (hB : B i = true) : Calls Tryz.prog 225 #[.pointer (some ⟨sb, 0, none⟩), .int .i64 i] w fun e w' => (∃ b, e = .returned (.bool b)) ∧ Dy w' sb own N (upd B i false) ∧ Upd own w w' := by
 have hh := h
 obtain ⟨w0, lb, cap, L, n, g, u, l, hf, hb, hl, hN, hbit, hn, ho⟩ := h
 have hbi : bitOf (u l) i = true := by rw [hbit i hi, hB]
 have hone := hf.one
 have hL : l = L - 1 := by omega
 have hiL : i < 64 ^ L := by rw [← hl, Nat.pow_succ]; omega
 refine (drop_any hf hb hl hN hi hbi (by have := cnt_le B N; have := hh.size; omega) (by rw [hn]; exact cnt_pos hi hB)).mono ?_
 rintro e w' ⟨rfl, h1, h2⟩
 have hX0 : BtsX L u (L - 1) (pos L (L - 1) i) := ⟨hb.ub, fun a ha j hj _ => hb.up a ha j hj, fun h9 => by omega, by rw [pos_last, ← hL]; exact hbi⟩
 have hbd := bts_drop hiL (L - 1) u (by omega) hX0
 rw [show L - 1 + 1 = L by omega] at hbd
 refine ⟨⟨_, rfl⟩, ⟨w0, lb, cap, L, _, g, _, l, h1, hbd, hl, hN, fun j hj => ?_, by rw [cnt_clr hi hB, hn], ho⟩, h2.mono fun k _ hk => Classical.not_not.1 hk.2⟩
 rw [hL, bit_dropG (by omega) (by rw [← hL]; exact hbi), ← hL, hbit j hj]
 by_cases e : j = i
 · subst e; rw [upd_at]; simp
 · rw [upd_off _ _ _ e]; simp [e]
theorem d_new {L l N : Nat} (hl : l + 1 = L) (hL : L ≤ 3) (hN : 64 * 64 ^ l = N) (w : World) :
 Calls Tryz.prog 90 #[.int .i64 L] w fun e w' => e = .returned (.tuple #[.pointer (some ⟨w.heap.size, 0, none⟩), .int .i64 0]) ∧ ∃ own, Dy w' w.heap.size own N (fun _ => false) ∧ (∀ k, own k → w.heap.size ≤ k) ∧ Upd Nowhere w w' := by
 refine (new_good L (by omega) hL w).mono ?_
 rintro e w' ⟨rfl, lv, g, m⟩
 refine ⟨rfl, ?_⟩
 rcases m.own.2 with ⟨_, h0⟩ | ⟨lb, cap, cur, rfl, hb, hB, h1, h2, h3, h4⟩
 · omega
 · have hB : Blk w' lb cur TL := hB
   have far : ∀ k, FOwn w.heap.size lb L g k → w.heap.size ≤ k := fun k hk => by
    rcases hk with rfl | rfl | ⟨l, hl, rfl⟩
    · exact Nat.le_refl _
    · omega
    · exact Nat.le_of_lt (m.ap l hl).1
   refine ⟨FOwn w.heap.size lb L g, ⟨w, lb, cap, L, 0, g, fun _ _ => 0, l, ⟨m.blk, fun j hj => ?_, fun j hj => ?_, ⟨by omega, hL⟩, ⟨by omega, fun j hj => ⟨?_, fun e => ?_, (m.ap j hj).2.2⟩⟩, fun k hk => ⟨far k hk, fun h => h hk⟩⟩, ⟨fun _ _ => by show 0 < 2 ^ 64; decide, fun a _ j _ => ?_⟩, hl, hN, fun i _ => ?_, (cnt_zero fun _ _ => rfl).symm, fun _ => Iff.rfl⟩, far, m.upd⟩
   · refine hB.cellAt ?_
     have e1 : (lvs g L)[j]? = some (.slice (some ⟨g j, 0, none⟩) (64 ^ j) (64 ^ j)) := by simp [lvs, hj]
     rw [← h4, List.getElem?_take_of_lt (by omega)] at e1
     simpa using e1
   · obtain ⟨c, c1, c2, c3⟩ := m.row j hj
     exact ⟨c, c1, c2, fun i hi => c3 i hi⟩
   · have := (m.ap j hj).1; omega
   · exact (m.ap j hj).2.1 (by rw [e]; rfl)
   · simp [bitOf]
   · simp [bitOf]
end
end Go.Proofs.YtpgpjjkeginbbaaGreatDoor.Ffs

