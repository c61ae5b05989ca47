/- Plan, Plan2, Plan3, Plan4, Plan5, Egs3, one behind the other. -/
import Derived.Test.YtdddfmdcjjbegaaGreatProg
import Derived.Test.YtdddfmdcjjbegaaGreatMeA
import Derived.Lib.Hide
import Derived.Laws.Bits64b
import Derived.Test.YtdddfmdcjjbegaaGreatMeRg
import Derived.Stop.RegionWithIn
import Derived.Test.YtdddfmdcjjbegaaGreatMeSat
namespace Go.Proofs.YtdddfmdcjjbegaaGreat.Plan
open Go.RowKit Go.Proofs BigFrame
abbrev TS : TypeId := 81
/-- A slot that may be. -/
def rng (s : Nat × Nat) : Bool := decide (1 ≤ s.2) && decide (s.2 ≤ 4294967296)
/-- A plan that may be. -/
def ok (l : List (Nat × Nat)) : Bool := decide (1 ≤ l.length) && (decide (l.length ≤ 64) && l.all rng)
/-- The slots of a plan, in memory. -/
def At (w : World) (g o : Nat) (l : List (Nat × Nat)) : Prop :=
 ∀ (i a s : Nat), l[i]? = some (a, s) → w.cell? ⟨g, o + i * 2, none⟩ = some (.int .u8 a) ∧ w.cell? ⟨g, o + i * 2 + 1, none⟩ = some (.int .u64 s) ∧ a < 256 ∧ s < 18446744073709551616
theorem At.old {w w' : World} {g o : Nat} {l : List (Nat × Nat)} (h : At w g o l) (hu : Upd Nowhere w w') : At w' g o l :=
 fun i a s hi => ⟨cell_old hu (h i a s hi).1, cell_old hu (h i a s hi).2.1, (h i a s hi).2.2⟩
theorem ok_no {l : List (Nat × Nat)} {i : Nat} {s : Nat × Nat} (h : l[i]? = some s) (hs : rng s = false) : ok l = false := by
 unfold ok
 have : l.all rng = false := by
  rw [List.all_eq_false]
  exact ⟨s, List.mem_of_getElem? h, by simp [hs]⟩
 rw [this]; simp
theorem ok_yes {l : List (Nat × Nat)} (h1 : 1 ≤ l.length) (h2 : l.length ≤ 64) (h : ∀ (i : Nat) (s : Nat × Nat), l[i]? = some s → rng s = true) : ok l = true := by
 unfold ok
 have : l.all rng = true := by
  rw [List.all_eq_true]
  intro s hs
  obtain ⟨i, hi, e⟩ := List.getElem_of_mem hs
  exact h i s (by rw [List.getElem?_eq_getElem hi, e])
 rw [this]; simp [h1, h2]
set_option maxHeartbeats 1000000
/-- What Check says. -/
def chk (l : List (Nat × Nat)) : Int := if ok l then 0 else 6
theorem check_size {l : List (Nat × Nat)} {ad : Option Addr} {c : Nat} (w : World) (h : l.length < 1 ∨ 64 < l.length) :
 Calls Tryz.prog 50 #[.slice ad l.length c] w fun e w' => e = .returned (.int .i64 (chk l)) ∧ Upd Nowhere w w' := by
 have e0 : chk l = 6 := by
  unfold chk
  have : ok l = false := by unfold ok; rcases h with h | h <;> simp <;> omega
  rw [this]; rfl
 rw [e0]
 obtain ⟨n, hn⟩ : ∃ n, l.length = n := ⟨_, rfl⟩
 rw [hn] at h ⊢
 clear hn e0
 rcases h with h | h
 · have d1 : decide (n < 1) = true := by simp; omega
   have d2 : decide (n = 0) = true := by simp; omega
   go_enter Tryz.func50, Tryz.ntmps50
   go_wp2_with fail
   go_ret
   exact ⟨rfl, Upd.refl _ _⟩
 · have d1 : decide (n < 1) = false := by simp; omega
   have d2 : decide (n = 0) = false := by simp; omega
   have d3 : decide (64 < n) = true := by simp; omega
   go_enter Tryz.func50, Tryz.ntmps50
   go_wp2_with fail
   go_ret
   exact ⟨rfl, Upd.refl _ _⟩
theorem check_any {w : World} {l : List (Nat × Nat)} {g o c : Nat} (h : At w g o l) (h1 : 1 ≤ l.length) (h2 : l.length ≤ 64) :
 Calls Tryz.prog 50 #[.slice (some ⟨g, o, none⟩) l.length c] w fun e w' => e = .returned (.int .i64 (chk l)) ∧ Upd Nowhere w w' := by
 obtain ⟨R, hR⟩ : ∃ R, chk l = R := ⟨_, rfl⟩
 rw [hR]
 have HR := Lib.hid hR
 have HA := Lib.hid h
 obtain ⟨n, hn⟩ : ∃ n, l.length = n := ⟨_, rfl⟩
 rw [hn] at h1 h2 ⊢
 have HN := Lib.hid hn
 have d1 : decide (n < 1) = false := by simp; omega
 have d2 : decide (n = 0) = false := by simp; omega
 have d3 : decide (64 < n) = false := by simp; omega
 clear h hn hR
 go_enter Tryz.func50, Tryz.ntmps50
 go_wp2_with fail
 go_loopw [15] (fun v wr => ∃ (k : Nat), v = .int .i64 k ∧ k ≤ n ∧ Hid (∀ (i : Nat) (s : Nat × Nat), i < k → l[i]? = some s → rng s = true) ∧ Upd Nowhere w wr) (fun v _ => n - (intOf v).toNat)
 case atStart => exact ⟨0, rfl, by omega, Lib.hid (fun i s hi => by omega), Upd.refl _ _⟩
 case round =>
  obtain ⟨k, rfl, hk, hall, hu⟩ := hrel
  obtain ⟨wB, rfl⟩ : ∃ x, x = wr := ⟨_, rfl⟩
  by_cases hlt : k < n
  · obtain ⟨⟨a, s⟩, hx⟩ : ∃ x, l[k]? = some x := ⟨l[k]'(by rw [HN.out]; exact hlt), by simp⟩
    obtain ⟨c0, c1, -⟩ := (HA.out.old hu) k a s hx
    have HX := Lib.hid hx
    have HU := Lib.hid hu
    clear hx hu
    by_cases hs : rng (a, s) = true
    · have hs' := hs
      unfold rng at hs'
      simp at hs'
      have e1 : decide (s < 1) = false := by simp; omega
      have e2 : decide (s = 0) = false := by simp; omega
      have e3 : decide (4294967296 < s) = false := by simp; omega
      go_wp2_with fail
      go_roundw
      case rel =>
       refine ⟨k + 1, by go_num, by omega, Lib.hid (fun i s' hi hx => ?_), ?_⟩
       · by_cases hik : i = k
         · subst hik
           rw [← Option.some.inj (HX.out.symm.trans hx)]; exact hs
         · exact hall.out i s' (by omega) hx
       · exact HU.out.alloc _
      case measure => simp [intOf]; omega
    · have hb : ok l = false := ok_no HX.out (by simpa using hs)
      have hs' := hs
      unfold rng at hs'
      simp at hs'
      have e4 : (6 : Int) = R := by rw [← HR.out]; unfold chk; rw [hb]; rfl
      subst e4
      have HU2 := Lib.hid (HU.out.alloc (.cells #[.int .u8 a, .int .u64 s] TS))
      clear hb hs HU
      rcases Nat.lt_or_ge s 1 with h0 | h0
      · have e1 : decide (s < 1) = true := by simp; omega
        have e2 : decide (s = 0) = true := by simp; omega
        go_wp2_with fail
        go_ret
        exact ⟨rfl, HU2.out⟩
      · have e1 : decide (s < 1) = false := by simp; omega
        have e2 : decide (s = 0) = false := by simp; omega
        have e3 : decide (4294967296 < s) = true := by simp; omega
        go_wp2_with fail
        go_ret
        exact ⟨rfl, HU2.out⟩
  · have e0 : (0 : Int) = R := by
     rw [← HR.out]; unfold chk
     rw [ok_yes (by rw [HN.out]; exact h1) (by rw [HN.out]; exact h2) (fun i s hx => hall.out i s (by
      have : i < l.length := by
       rcases Nat.lt_or_ge i l.length with h' | h'
       · exact h'
       · rw [List.getElem?_eq_none h'] at hx; cases hx
      have := HN.out; omega) hx)]; rfl
    subst e0
    go_wp2_with fail
    go_ret
    exact ⟨rfl, hu⟩
end Go.Proofs.YtdddfmdcjjbegaaGreat.Plan
namespace Go.Proofs.YtdddfmdcjjbegaaGreat.Plan
open Go.RowKit Go.Proofs BigFrame
set_option maxHeartbeats 1000000
/-- Is a class open in a slot? -/
def opn (k : Nat) (s : Nat × Nat) : Bool := decide (s.1 / 2 ^ k % 2 = 1)
theorem and1_u8 (m : Nat) (h : m < 256) : bits .and .u8 (m : Int) 1 = ((m % 2 : Nat) : Int) := by
 have hx : m &&& 1 < 2 ^ 8 := Nat.and_lt_two_pow _ (by omega)
 have h1 : (BitVec.ofInt 8 (m : Int)).toNat = m := by
  rw [BitVec.ofInt_natCast, BitVec.toNat_ofNat]; exact Nat.mod_eq_of_lt (by omega)
 have h2 : (BitVec.ofInt 8 (1 : Int)).toNat = 1 := by decide
 show IntKind.u8.wrap ((BitVec.ofInt 8 (m : Int) &&& BitVec.ofInt 8 (1 : Int)).toNat : Int) = _
 rw [BitVec.toNat_and, h1, h2, IntKind.wrap_u8, Nat.and_one_is_mod]
 omega
/-- What the walk shows of a class's bit. -/
theorem opn_bits {a s k : Nat} (h : a < 256) : ∃ z : Nat, bits .and .u8 ((a : Int) / 2 ^ k) 1 = (z : Int) ∧ ((z : Int) == 1) = opn k (a, s) ∧ ((z : Int) == 0) = !(opn k (a, s)) := by
 have e : (a : Int) / 2 ^ k = ((a / 2 ^ k : Nat) : Int) := by push_cast; rfl
 refine ⟨a / 2 ^ k % 2, ?_, ?_, ?_⟩
 · rw [e, and1_u8 _ (Nat.lt_of_le_of_lt (Nat.div_le_self _ _) h)]
 · unfold opn; rw [Bool.eq_iff_iff]; simp; omega
 · unfold opn; rw [Bool.eq_iff_iff]; simp; omega
theorem always_any {w : World} {l : List (Nat × Nat)} {g o c k : Nat} (h : At w g o l) (h2 : l.length ≤ 64) (hk : k < 8) :
 Calls Tryz.prog 76 #[.slice (some ⟨g, o, none⟩) l.length c, .int .i64 k] w fun e w' => e = .returned (.bool (l.all (opn k))) ∧ Upd Nowhere w w' := by
 obtain ⟨R, hR⟩ : ∃ R, l.all (opn k) = R := ⟨_, rfl⟩
 rw [hR]
 have HR := Lib.hid hR
 have HA := Lib.hid h
 obtain ⟨n, hn⟩ : ∃ n, l.length = n := ⟨_, rfl⟩
 rw [hn] at h2 ⊢
 have HN := Lib.hid hn
 clear h hn hR
 go_enter Tryz.func76, Tryz.ntmps76
 go_wp2_with fail
 go_loopw [9] (fun v wr => ∃ (j : Nat), v = .int .i64 j ∧ j ≤ n ∧ Hid (∀ (i : Nat) (s : Nat × Nat), i < j → l[i]? = some s → opn k s = true) ∧ Upd Nowhere w wr) (fun v _ => n - (intOf v).toNat)
 case atStart => exact ⟨0, rfl, by omega, Lib.hid (fun i s hi => by omega), Upd.refl _ _⟩
 case round =>
  obtain ⟨j, rfl, hj, hall, hu⟩ := hrel
  obtain ⟨wB, rfl⟩ : ∃ x, x = wr := ⟨_, rfl⟩
  by_cases hlt : j < n
  · obtain ⟨⟨a, s⟩, hx⟩ : ∃ x, l[j]? = some x := ⟨l[j]'(by rw [HN.out]; exact hlt), by simp⟩
    obtain ⟨c0, c1, ha8, -⟩ := (HA.out.old hu) j a s hx
    obtain ⟨z, e1, -, e3⟩ := opn_bits (s := s) (k := k) ha8
    have HX := Lib.hid hx
    have HU := Lib.hid hu
    clear hx hu ha8
    cases hb : opn k (a, s) with
    | true =>
      rw [hb] at e3
      have e4 : ((z : Int) == 0) = false := e3
      clear e3
      have HB := Lib.hid hb
      clear hb
      go_wp2_with fail
      go_roundw
      case rel =>
       refine ⟨j + 1, by go_num, by omega, Lib.hid (fun i s' hi hx => ?_), HU.out.alloc _⟩
       by_cases hik : i = j
       · subst hik
         rw [← Option.some.inj (HX.out.symm.trans hx)]; exact HB.out
       · exact hall.out i s' (by omega) hx
      case measure => simp [intOf]; omega
    | false =>
      rw [hb] at e3
      have e4 : ((z : Int) == 0) = true := e3
      have e5 : false = R := by
       rw [← HR.out]; symm; rw [List.all_eq_false]
       exact ⟨(a, s), List.mem_of_getElem? HX.out, by simp [hb]⟩
      subst e5
      clear e3 hb
      go_wp2_with fail
      go_ret
      exact ⟨rfl, HU.out.alloc _⟩
  · have e0 : true = R := by
     rw [← HR.out]; symm; rw [List.all_eq_true]
     intro s hs
     obtain ⟨i, hi, e⟩ := List.getElem_of_mem hs
     exact hall.out i s (by have := HN.out; omega) (by rw [List.getElem?_eq_getElem hi, e])
    subst e0
    go_wp2_with fail
    go_ret
    exact ⟨rfl, hu⟩
/-- How long a round is. -/
def sum (l : List (Nat × Nat)) : Nat := (l.map (·.2)).sum
theorem sum_take {l : List (Nat × Nat)} {k a s : Nat} (h : l[k]? = some (a, s)) : sum (l.take (k + 1)) = sum (l.take k) + s := by
 unfold sum
 rw [List.take_add_one, h]
 simp
theorem sum_le {l : List (Nat × Nat)} (h : ok l = true) (k : Nat) : sum (l.take k) ≤ k * 4294967296 := by
 induction k with
 | zero => simp [sum]
 | succ k ih =>
   rcases Nat.lt_or_ge k l.length with hk | hk
   · obtain ⟨⟨a, s⟩, hx⟩ : ∃ x, l[k]? = some x := ⟨l[k]'hk, by simp⟩
     rw [sum_take hx]
     have : rng (a, s) = true := by
      unfold ok at h
      simp only [Bool.and_eq_true, List.all_eq_true] at h
      exact h.2.2 _ (List.mem_of_getElem? hx)
     unfold rng at this
     simp at this
     rw [Nat.add_mul, Nat.one_mul]
     exact Nat.add_le_add ih this.2
   · rw [List.take_of_length_le (Nat.le_succ_of_le hk)]
     rw [List.take_of_length_le hk] at ih
     exact Nat.le_trans ih (Nat.mul_le_mul_right _ (Nat.le_succ _))
theorem sum_pos {l : List (Nat × Nat)} (h : ok l = true) : 1 ≤ sum l := by
 unfold ok at h
 simp only [Bool.and_eq_true, List.all_eq_true, decide_eq_true_eq] at h
 cases l with
 | nil => simp at h
 | cons x r =>
   have := h.2.2 x (by simp)
   unfold rng at this
   simp at this
   unfold sum
   simp; omega
theorem ok_len {l : List (Nat × Nat)} (h : ok l = true) : 1 ≤ l.length ∧ l.length ≤ 64 := by
 unfold ok at h
 simp only [Bool.and_eq_true, decide_eq_true_eq] at h
 exact ⟨h.1, h.2.1⟩
theorem round_any {w : World} {l : List (Nat × Nat)} {g o c : Nat} (h : At w g o l) (hok : ok l = true) :
 Calls Tryz.prog 126 #[.slice (some ⟨g, o, none⟩) l.length c] w fun e w' => e = .returned (.int .u64 (sum l : Nat)) ∧ Upd Nowhere w w' := by
 obtain ⟨h1, h2⟩ := ok_len hok
 have hC := check_any (c := c) h h1 h2
 have e0 : chk l = 0 := by unfold chk; rw [hok]; rfl
 rw [e0] at hC
 have HC := Lib.hid hC
 obtain ⟨R, hR⟩ : ∃ R, sum l = R := ⟨_, rfl⟩
 rw [hR]
 have HR := Lib.hid hR
 have HA := Lib.hid h
 have HO := Lib.hid hok
 obtain ⟨n, hn⟩ : ∃ n, l.length = n := ⟨_, rfl⟩
 rw [hn] at h1 h2 HC ⊢
 have HN := Lib.hid hn
 clear h hn hR hC hok e0
 go_enter Tryz.func126, Tryz.ntmps126
 go_wp2_with fail
 refine HC.out.mono ?_
 rintro e w1 ⟨rfl, hu1⟩
 have HU1 := Lib.hid hu1
 clear hu1 HC
 go_wp2_with fail
 go_loopw [3, 11] (fun v3 v wr => ∃ (j : Nat), v = .int .i64 j ∧ v3 = .int .u64 (sum (l.take j) : Nat) ∧ j ≤ n ∧ Upd Nowhere w wr) (fun _ v _ => n - (intOf v).toNat)
 case atStart => exact ⟨0, rfl, by simp [sum], by omega, HU1.out⟩
 case round =>
  obtain ⟨j, rfl, rfl, hj, hu⟩ := hrel
  obtain ⟨wB, rfl⟩ : ∃ x, x = wr := ⟨_, rfl⟩
  by_cases hlt : j < n
  · obtain ⟨⟨a, s⟩, hx⟩ : ∃ x, l[j]? = some x := ⟨l[j]'(by rw [HN.out]; exact hlt), by simp⟩
    obtain ⟨c0, c1, -⟩ := (HA.out.old hu) j a s hx
    have hs := sum_take hx
    have hb := sum_le HO.out (j + 1)
    obtain ⟨q, hq⟩ : ∃ q, sum (l.take j) = q := ⟨_, rfl⟩
    rw [hq] at hs ⊢
    rw [hs] at hb
    have hqs : q + s < 18446744073709551616 := by omega
    have eq : IntKind.u64.wrap ((q : Int) + s) = ((q + s : Nat) : Int) := by rw [IntKind.wrap_u64]; omega
    have HS := Lib.hid hs
    have HU := Lib.hid hu
    clear hx hu hb hq hs
    go_wp2_with fail
    go_roundw
    case rel => exact ⟨j + 1, by go_num, by rw [HS.out]; first | rfl | exact congrArg (Value.int .u64) eq | (push_cast; rfl), by omega, HU.out.alloc _⟩
    case measure => simp [intOf]; omega
  · have hjn : j = n := by omega
    have e1 : sum (l.take j) = R := by rw [← HR.out, List.take_of_length_le (by rw [HN.out]; omega)]
    rw [e1]
    go_wp2_with fail
    go_ret
    exact ⟨rfl, hu⟩
end Go.Proofs.YtdddfmdcjjbegaaGreat.Plan
namespace Go.Proofs.YtdddfmdcjjbegaaGreat.Plan
open Go.RowKit Go.Proofs BigFrame
set_option maxHeartbeats 1000000
/-- The slot of a time within a round, and what is left of it. -/
def spt : List (Nat × Nat) → Nat → Nat × Nat
 | [], _ => (0, 0)
 | x :: r, t => if t < x.2 then (0, x.2 - t) else ((spt r (t - x.2)).1 + 1, (spt r (t - x.2)).2)
theorem spt_lt : ∀ (l : List (Nat × Nat)) (t : Nat), t < sum l → (spt l t).1 < l.length ∧ ∃ a s, l[(spt l t).1]? = some (a, s) ∧ 1 ≤ (spt l t).2 ∧ (spt l t).2 ≤ s
 | [], t, h => by simp [sum] at h
 | (a, s) :: r, t, h => by
   have e : sum ((a, s) :: r) = s + sum r := by simp [sum]
   rw [e] at h
   unfold spt
   by_cases hs : t < s
   · simp only [hs, if_true]
     exact ⟨by simp, a, s, rfl, by omega, by omega⟩
   · simp only [hs, if_false]
     obtain ⟨h1, a2, s2, h2, h3⟩ := spt_lt r (t - s) (by omega)
     exact ⟨by simp; omega, a2, s2, by simpa using h2, h3⟩
theorem sum_drop {l : List (Nat × Nat)} {j a s : Nat} (h : l[j]? = some (a, s)) : l.drop j = (a, s) :: l.drop (j + 1) ∧ sum (l.drop j) = s + sum (l.drop (j + 1)) := by
 have hj : j < l.length := by
  rcases Nat.lt_or_ge j l.length with h' | h'
  · exact h'
  · rw [List.getElem?_eq_none h'] at h; cases h
 have e : l.drop j = (a, s) :: l.drop (j + 1) := by
  rw [List.getElem?_eq_getElem hj] at h
  rw [List.drop_eq_getElem_cons hj, Option.some.inj h]
 exact ⟨e, by rw [e]; simp [sum]⟩
theorem spt_here {l : List (Nat × Nat)} {j a s t : Nat} (h : l[j]? = some (a, s)) (ht : t < s) : spt (l.drop j) t = (0, s - t) := by
 rw [(sum_drop h).1]; unfold spt; simp [ht]
theorem spt_on {l : List (Nat × Nat)} {j a s t : Nat} (h : l[j]? = some (a, s)) (ht : s ≤ t) : spt (l.drop j) t = ((spt (l.drop (j + 1)) (t - s)).1 + 1, (spt (l.drop (j + 1)) (t - s)).2) := by
 rw [(sum_drop h).1]; simp only [spt]; rw [if_neg (by omega)]
theorem spot_any {w : World} {l : List (Nat × Nat)} {g o c at_ : Nat} (h : At w g o l) (hok : ok l = true) (hat : at_ < 18446744073709551616) :
 Calls Tryz.prog 110 #[.slice (some ⟨g, o, none⟩) l.length c, .int .u64 at_] w fun e w' => e = .returned (.tuple #[.int .i64 ((spt l (at_ % sum l)).1 : Nat), .int .u64 ((spt l (at_ % sum l)).2 : Nat)]) ∧ Upd Nowhere w w' := by
 have HC := Lib.hid (round_any (c := c) h hok)
 obtain ⟨h1, h2⟩ := ok_len hok
 obtain ⟨T, hT⟩ : ∃ T, sum l = T := ⟨_, rfl⟩
 have hTp := sum_pos hok
 have hTl := sum_le hok l.length
 rw [List.take_length] at hTl
 have hT2 : l.length * 4294967296 ≤ 274877906944 := Nat.mul_le_mul_right 4294967296 h2
 rw [hT] at HC hTp hTl ⊢
 have hTm : T < 18446744073709551616 := by omega
 obtain ⟨t0, ht0⟩ : ∃ t0, at_ % T = t0 := ⟨_, rfl⟩
 have ht0l : t0 < T := by rw [← ht0]; exact Nat.mod_lt _ (by omega)
 have em : ((at_ : Int)).tmod T = (t0 : Int) := by rw [Int.tmod_eq_emod_of_nonneg (by omega)]; rw [← ht0]; rfl
 have em2 : (at_ : Int) % T = (t0 : Int) := by rw [← ht0]; rfl
 have eT : ((T : Int) == 0) = false := by simp; omega
 have eT2 : decide (T = 0) = false := by simp; omega
 rw [ht0]
 obtain ⟨I, hI⟩ : ∃ I, (spt l t0).1 = I := ⟨_, rfl⟩
 obtain ⟨L, hL⟩ : ∃ L, (spt l t0).2 = L := ⟨_, rfl⟩
 rw [hI, hL]
 have HS : Hid (t0 < sum (l.drop 0) ∧ (spt (l.drop 0) t0).1 + 0 = I ∧ (spt (l.drop 0) t0).2 = L) := Lib.hid ⟨by rw [List.drop_zero, hT]; exact ht0l, by rw [List.drop_zero]; omega, by rw [List.drop_zero]; exact hL⟩
 have HA := Lib.hid h
 obtain ⟨n, hn⟩ : ∃ n, l.length = n := ⟨_, rfl⟩
 rw [hn] at h1 h2 HC ⊢
 have HN := Lib.hid hn
 have htm : t0 < 18446744073709551616 := by omega
 have hT0 : ¬ T = 0 := by omega
 clear h hn hok hTl hT2 hT ht0 hI hL
 go_enter Tryz.func110, Tryz.ntmps110
 go_wp2_with fail
 refine HC.out.mono ?_
 rintro e w1 ⟨rfl, hu1⟩
 have HU1 := Lib.hid hu1
 clear hu1 HC
 go_wp2_with fail
 go_loopw [1, 6] (fun v1 v6 wr => ∃ (j t : Nat), v1 = .int .u64 t ∧ v6 = .int .i64 j ∧ t < 18446744073709551616 ∧ Hid (t < sum (l.drop j) ∧ (spt (l.drop j) t).1 + j = I ∧ (spt (l.drop j) t).2 = L) ∧ Upd Nowhere w wr) (fun _ v _ => n - (intOf v).toNat)
 case atStart => exact ⟨0, t0, rfl, rfl, htm, HS, HU1.out⟩
 case round =>
  clear HS
  obtain ⟨j, t, rfl, rfl, htl, hs, hu⟩ := hrel
  obtain ⟨wB, rfl⟩ : ∃ x, x = wr := ⟨_, rfl⟩
  have hlt : j < n := by
   have h1 := hs.out.1
   rcases Nat.lt_or_ge j n with h' | h'
   · exact h'
   · rw [List.drop_eq_nil_of_le (by rw [HN.out]; exact h')] at h1; simp [sum] at h1
  obtain ⟨⟨a, s⟩, hx⟩ : ∃ x, l[j]? = some x := ⟨l[j]'(by rw [HN.out]; exact hlt), by simp⟩
  obtain ⟨c0, c1, -, hs64⟩ := (HA.out.old hu) j a s hx
  have HX := Lib.hid hx
  have HU := Lib.hid hu
  clear hx hu
  by_cases hts : t < s
  · have hp := spt_here HX.out hts
    have hj : j = I := by have := hs.out.2.1; rw [hp] at this; simpa using this
    have hl : s - t = L := by have := hs.out.2.2; rw [hp] at this; exact this
    subst hj
    have e1 : (s : Int) - t = (L : Int) := by omega
    have d1 : decide (s ≤ t) = false := by simp; omega
    have hLm : L < 18446744073709551616 := by omega
    clear hp hs hl
    go_wp2_with fail
    go_quiet (fail)
    go_wp2_with fail
    go_ret2
    exact ⟨rfl, HU.out.drewN _⟩
  · have d1 : decide (s ≤ t) = true := by simp; omega
    obtain ⟨t2, ht2⟩ : ∃ t2, t - s = t2 := ⟨_, rfl⟩
    have e1 : (t : Int) - s = (t2 : Int) := by omega
    have ht2l : t2 < 18446744073709551616 := by omega
    have HT2 := Lib.hid ht2
    clear ht2
    go_wp2_with fail
    go_roundw
    case rel =>
     refine ⟨j + 1, t2, rfl, by go_num, ht2l, Lib.hid ?_, HU.out⟩
     have hp := spt_on HX.out (show s ≤ t by omega)
     have hd := (sum_drop HX.out).2
     obtain ⟨q1, q2, q3⟩ := hs.out
     rw [hp] at q2 q3
     rw [hd] at q1
     rw [HT2.out] at q2 q3
     have := HT2.out
     exact ⟨by omega, by simp at q2; omega, q3⟩
    case measure => simp [intOf]; omega
end Go.Proofs.YtdddfmdcjjbegaaGreat.Plan
namespace Go.Proofs.YtdddfmdcjjbegaaGreat.Plan
open Go.RowKit Go.Proofs BigFrame
attribute [local go_sem] Oper.semAt_some
set_option maxHeartbeats 2000000
set_option maxRecDepth 1000000
/-- The runs of ticks from a place on: is the class open, for how long. -/
def strs (l : List (Nat × Nat)) (k : Nat) : Nat → Nat → Nat → List (Bool × Nat)
 | 0, _, _ => []
 | f + 1, i, left => (opn k (l.getD i (0, 0)), left) :: strs l k f ((i + 1) % l.length) (l.getD ((i + 1) % l.length) (0, 0)).2
def encS (x : Bool × Nat) : Value := .agg #[.bool x.1, .int .u64 x.2]
def stopS (x : Bool × Nat) : Bool := !x.1
def runs (l : List (Nat × Nat)) (k at_ : Nat) : List (Bool × Nat) := strs l k (2 * l.length + 1) (spt l (at_ % sum l)).1 (spt l (at_ % sum l)).2
theorem strs_len (l : List (Nat × Nat)) (k : Nat) : ∀ f i left, (strs l k f i left).length = f
 | 0, _, _ => rfl
 | f + 1, i, left => by simp [strs, strs_len l k f]
theorem strs_split {l : List (Nat × Nat)} {k m : Nat} {X : List (Bool × Nat)} {j i left a s : Nat} (hj : j < m) (hd : X.drop j = strs l k (m - j) i left) (hx : l[i]? = some (a, s)) :
 X[j]? = some (opn k (a, s), left) ∧ X = X.take j ++ (opn k (a, s), left) :: X.drop (j + 1) ∧ X.take (j + 1) = X.take j ++ [(opn k (a, s), left)] ∧
   ∀ a' s', l[(i + 1) % l.length]? = some (a', s') → X.drop (j + 1) = strs l k (m - (j + 1)) ((i + 1) % l.length) s' := by
 obtain ⟨f, hf⟩ : ∃ f, m - j = f + 1 := ⟨m - j - 1, by omega⟩
 rw [hf] at hd
 have hg : l.getD i (0, 0) = (a, s) := by rw [List.getD_eq_getElem?_getD, hx]; rfl
 unfold strs at hd
 rw [hg] at hd
 have hx0 : X[j]? = some (opn k (a, s), left) := by
  have := congrArg (·[0]?) hd
  simpa using this
 have hjl : j < X.length := by
  rcases Nat.lt_or_ge j X.length with h' | h'
  · exact h'
  · rw [List.getElem?_eq_none h'] at hx0; cases hx0
 have he : X.drop j = X[j] :: X.drop (j + 1) := List.drop_eq_getElem_cons hjl
 have hx1 : X[j] = (opn k (a, s), left) := by rw [List.getElem?_eq_getElem hjl] at hx0; exact Option.some.inj hx0
 refine ⟨hx0, ?_, by rw [List.take_add_one, hx0]; rfl, fun a' s' h' => ?_⟩
 · conv => lhs; rw [← List.take_append_drop j X, he, hx1]
 · rw [he] at hd
   have hg' : l.getD ((i + 1) % l.length) (0, 0) = (a', s') := by rw [List.getD_eq_getElem?_getD, h']; rfl
   rw [hg'] at hd
   rw [show m - (j + 1) = f by omega]
   exact (List.cons.inj hd).2
theorem tw_stop {X : List (Bool × Nat)} {j : Nat} {x : Bool × Nat} (he : X = X.take j ++ x :: X.drop (j + 1)) (h : (X.take j).any stopS = false) (hx : stopS x = true) :
 X.any stopS = true ∧ X.takeWhile (fun x => !stopS x) = X.take j := by
 rw [List.any_eq_false] at h
 refine ⟨?_, ?_⟩
 · rw [he, List.any_append, List.any_cons, hx]; simp
 · conv => lhs; rw [he]
   rw [List.takeWhile_append_of_pos (fun y hy => by simpa using h y hy), List.takeWhile_cons_of_neg (by simp [hx]), List.append_nil]
theorem str_in {w : World} {l : List (Nat × Nat)} {g o c at_ k b1 b2 b3 : Nat} (hok : ok l = true) (hat : at_ < 18446744073709551616) (hk : k < 8) {S : Nat → Prop}
 (hK : ∀ W, Upd S w W → At W g o l ∧ W.cell? ⟨b1, 0, none⟩ = some (.slice (some ⟨g, o, none⟩) l.length c) ∧ W.cell? ⟨b2, 0, none⟩ = some (.int .u64 at_) ∧ W.cell? ⟨b3, 0, none⟩ = some (.int .i64 k)) :
 TellsB Tryz.prog 109 #[] #[.pointer (some ⟨b1, 0, none⟩), .pointer (some ⟨b2, 0, none⟩), .pointer (some ⟨b3, 0, none⟩)] S encS stopS (runs l k at_) w := by
 intro lp J F W hu0 hJu hFu hY hZ h0
 obtain ⟨hA0, c1, c2, c3⟩ := hK W (hu0.any S)
 have HSP := Lib.hid (spot_any (c := c) hA0 hok hat)
 have hT := spt_lt l (at_ % sum l) (Nat.mod_lt _ (sum_pos hok))
 unfold runs at hY hZ ⊢
 obtain ⟨i0, hi0⟩ : ∃ i0, (spt l (at_ % sum l)).1 = i0 := ⟨_, rfl⟩
 obtain ⟨L0, hL0⟩ : ∃ L0, (spt l (at_ % sum l)).2 = L0 := ⟨_, rfl⟩
 rw [hi0, hL0] at hY hZ HSP hT ⊢
 obtain ⟨h1, h2⟩ := ok_len hok
 obtain ⟨hi0n, -⟩ := hT
 obtain ⟨n, hn⟩ : ∃ n, l.length = n := ⟨_, rfl⟩
 rw [hn] at h1 h2 hi0n c1 HSP hY hZ hK ⊢
 obtain ⟨X, hX⟩ : ∃ X, strs l k (2 * n + 1) i0 L0 = X := ⟨_, rfl⟩
 have hXl : X.length = 2 * n + 1 := by rw [← hX]; exact strs_len _ _ _ _ _
 rw [hX] at hY hZ ⊢
 have HK := Lib.hid hK
 have HN := Lib.hid hn
 have HX := Lib.hid hX
 have HXL := Lib.hid hXl
 have HY := Lib.hid hY
 have HZ := Lib.hid hZ
 have HJU := Lib.hid hJu
 have HFU := Lib.hid hFu
 have H0 := Lib.hid h0
 have HU0 := Lib.hid hu0
 clear hi0 hL0 hA0 hok hn hX hXl hY hZ hJu hFu h0 hu0 hK c3
 refine callsIn_of_wp Tryz.func109 rfl trivial ?_ rfl
 simp only [Tryz.ntmps109, List.size_toArray, List.length_cons, List.length_nil, Nat.reduceAdd, Nat.reduceSub, Array.replicate_succ, Array.replicate_zero, List.push_toArray, List.append_toArray, List.nil_append, List.cons_append]
 obtain ⟨m, hm⟩ : ∃ m, 2 * n + 1 = m := ⟨_, rfl⟩
 have em : 2 * (n : Int) + 1 = (m : Int) := by omega
 have hm64 : m ≤ 129 := by omega
 have HM := Lib.hid hm
 clear hm
 gi_wp2_with (refine ⟨trivial, rfl, ?_⟩; gi_at_call 110; refine (callsIn_wide.2 HSP.out).mono ?_; rintro e w1 ⟨rfl, hu1⟩; have b1' := cell_old hu1 c1; have HU1 := Lib.hid hu1; clear hu1 HSP c1 c2)
 have H1 : Hid (J (X.take 0) w1) := Lib.hid (HJU.out _ _ _ H0.out HU1.out)
 have HUA : Hid (Upd S w w1) := Lib.hid ((HU0.out.trans HU1.out (fun _ _ h => h)).any S)
 have hXs : X.drop 0 = strs l k (m - 0) i0 L0 := by rw [List.drop_zero, Nat.sub_zero, ← HM.out]; exact HX.out.symm
 have HXS := Lib.hid hXs
 clear HU1 HU0 H0 hXs b1'
 gi_loopw [5, 6, 17] (fun v5 v6 v17 wr => ∃ (j i left : Nat), v5 = .int .i64 i ∧ v6 = .int .u64 left ∧ v17 = .int .i64 j ∧ j ≤ m ∧ i < n ∧ Hid (X.drop j = strs l k (m - j) i left) ∧ Hid ((X.take j).any stopS = false) ∧ Hid (J (X.take j) wr) ∧ Upd S w wr) (fun _ _ v _ => m - (intOf v).toNat)
 case atStart => exact ⟨0, i0, L0, rfl, rfl, rfl, by omega, hi0n, HXS, Lib.hid rfl, H1, HUA.out⟩
 case round =>
  clear HXS H1 HUA
  obtain ⟨j, i, left, rfl, rfl, rfl, hj, hi, hd, hany, hJ, hu⟩ := hrel
  obtain ⟨wB, rfl⟩ : ∃ x, x = wr := ⟨_, rfl⟩
  obtain ⟨hAB, a1, -, a3⟩ := HK.out wB hu
  have HU := Lib.hid hu
  by_cases hlt : j < m
  · obtain ⟨⟨a, s⟩, hx⟩ : ∃ x, l[i]? = some x := ⟨l[i]'(by rw [HN.out]; exact hi), by simp⟩
    obtain ⟨c0, -, ha8, -⟩ := hAB i a s hx
    obtain ⟨z, e1, e2, -⟩ := opn_bits (s := s) (k := k) ha8
    obtain ⟨i2, hi2⟩ : ∃ i2, (i + 1) % n = i2 := ⟨_, rfl⟩
    have hi2n : i2 < n := by rw [← hi2]; exact Nat.mod_lt _ (by omega)
    obtain ⟨⟨a', s'⟩, hx'⟩ : ∃ x, l[i2]? = some x := ⟨l[i2]'(by rw [HN.out]; exact hi2n), by simp⟩
    obtain ⟨hXj, hXe, hXt, hXd⟩ := strs_split hlt hd.out hx
    have HXD : Hid (X.drop (j + 1) = strs l k (m - (j + 1)) i2 s') := Lib.hid (by have := hXd a' s' (by rw [HN.out, hi2]; exact hx'); rw [HN.out, hi2] at this; exact this)
    have HX' := Lib.hid hx'
    have HXE := Lib.hid hXe
    have HXT := Lib.hid hXt
    have ei2 : ((i : Int) + 1).tmod n = (i2 : Int) := by rw [Int.tmod_eq_emod_of_nonneg (by omega), ← hi2]; rfl
    have ei3 : ((i : Int) + 1) % n = (i2 : Int) := by rw [← hi2]; rfl
    have en0 : ¬ n = 0 := by omega
    have en1 : decide (n = 0) = false := by simp; omega
    clear hx hx' hXj hXe hXt hXd hi2 ha8
    cases hb : opn k (a, s) with
    | true =>
      rw [hb] at e2 HXE HXT
      obtain ⟨fn, tmps, assign, body, hy, hR⟩ := HY.out (X.take j) (true, left) wB.drew (HJU.out _ _ _ hJ.out (Upd.refl _ _).drew) ⟨_, HXE.out⟩ rfl
      unfold encS at hy
      dsimp only at hy
      clear hb hu
      gi_wp2
      gi_region_with (refine ⟨rfl, hR.mono ?_⟩; rintro e W3 ⟨rfl, hJ3, hB3⟩)
      all_goals
       have hu3 : Upd S w W3 := HU.out.drew.trans hB3 (fun _ _ h => h)
       obtain ⟨hA3, a4, -, -⟩ := HK.out W3 hu3
       obtain ⟨-, c1', -, -⟩ := hA3 i2 a' s' HX'.out
       have HJ3 : Hid (J (X.take (j + 1)) W3) := Lib.hid (by rw [HXT.out]; exact hJ3)
       have HA3 : Hid ((X.take (j + 1)).any stopS = false) := Lib.hid (by rw [HXT.out, List.any_append, hany.out]; rfl)
       have HU3 := Lib.hid hu3
       clear hJ3 hB3 hu3 hA3 hAB a1 a3 c0
       gi_wp2
       go_roundw
       case rel => exact ⟨j + 1, i2, s', rfl, rfl, by go_num, by omega, hi2n, HXD, HA3, HJ3, HU3.out⟩
       case measure => simp [intOf]; omega
    | false =>
      rw [hb] at e2 HXE HXT
      obtain ⟨fn, tmps, assign, body, hy, hR⟩ := HZ.out (X.take j) (false, left) wB.drew (HJU.out _ _ _ hJ.out (Upd.refl _ _).drew) ⟨_, HXE.out⟩ rfl
      unfold encS at hy
      dsimp only at hy
      obtain ⟨t1, t2⟩ := tw_stop HXE.out hany.out rfl
      have HT1 := Lib.hid t1
      have HT2 := Lib.hid t2
      clear hb hu t1 t2
      gi_wp2
      gi_region_with (refine ⟨rfl, hR.mono ?_⟩; rintro e W3 ⟨rfl, hF3, hB3⟩)
      all_goals
       have HF3 := Lib.hid hF3
       clear hF3 hB3 hAB
       gi_wp2
       refine bodyPost_ret (results_none rfl _ _ _) rfl ⟨⟨_, rfl⟩, .inr ⟨HT1.out, ?_⟩⟩
       rw [HT2.out]; exact HF3.out
  · have hjm : j = m := by omega
    have e0 : X.take j = X := List.take_of_length_le (by have := HXL.out; have := HM.out; omega)
    rw [e0] at hany hJ
    clear e0 hAB
    gi_wp2
    go_end0
    exact ⟨⟨_, rfl⟩, .inl ⟨hany.out, hJ.out⟩⟩
end Go.Proofs.YtdddfmdcjjbegaaGreat.Plan
namespace Go.Proofs.YtdddfmdcjjbegaaGreat.Plan
open Go.RowKit Go.Proofs BigFrame
attribute [local go_sem] Oper.semAt_some
set_option maxHeartbeats 2000000
set_option maxRecDepth 1000000
theorem may_ok {w : World} {l : List (Nat × Nat)} {g o c k : Nat} (h : At w g o l) (hok : ok l = true) (hk : k < 8) :
 Calls Tryz.prog 75 #[.slice (some ⟨g, o, none⟩) l.length c, .int .i64 k] w fun e w' => e = .returned (.bool true) ∧ Upd Nowhere w w' := by
 obtain ⟨h1, h2⟩ := ok_len hok
 have hC := check_any (c := c) h h1 h2
 have e0 : chk l = 0 := by unfold chk; rw [hok]; rfl
 rw [e0] at hC
 have HC := Lib.hid hC
 have d1 : decide ((k : Int) ≥ 0) = true := decide_eq_true (by omega)
 have d2 : decide ((0 : Int) ≤ (k : Int)) = true := decide_eq_true (by omega)
 have d3 : decide ((k : Int) < 8) = true := decide_eq_true (by omega)
 have d4 : decide (k < 8) = true := decide_eq_true hk
 clear h hok hC e0
 generalize l.length = n at *
 go_enter Tryz.func75, Tryz.ntmps75
 go_wp2_with fail
 refine (HC.out).mono ?_
 rintro e w1 ⟨rfl, hu1⟩
 go_wp2_with fail
 go_ret
 exact ⟨rfl, hu1⟩
theorem stretches_any {w : World} {g o n c k at_ : Nat} :
 Calls Tryz.prog 77 #[.slice (some ⟨g, o, none⟩) n c, .int .i64 k, .int .u64 at_] w fun e w' => e = .returned (.func (.func 109) #[] #[.pointer (some ⟨w.heap.size, 0, none⟩), .pointer (some ⟨w.heap.size + 2, 0, none⟩), .pointer (some ⟨w.heap.size + 1, 0, none⟩)]) ∧
  w' = ((w.alloc (.cells #[.slice (some ⟨g, o, none⟩) n c] 23)).alloc (.cells #[.int .i64 k] 3)).alloc (.cells #[.int .u64 at_] 24) := by
 go_enter Tryz.func77, Tryz.ntmps77
 go_wp2_with fail
 go_ret
 exact ⟨rfl, rfl⟩
/-- How long a class stays open from a time on; false: it is always open. -/
def sumS (xs : List (Bool × Nat)) : Nat := (xs.map (·.2)).sum
def stn (l : List (Nat × Nat)) (k at_ : Nat) : Nat × Bool := if l.all (opn k) then (0, false) else (sumS ((runs l k at_).takeWhile (fun x => !stopS x)), true)
theorem stays_all {w : World} {l : List (Nat × Nat)} {g o c k at_ : Nat} (h : At w g o l) (hok : ok l = true) (hk : k < 8) (hall : l.all (opn k) = true) :
 Calls Tryz.prog 43 #[.slice (some ⟨g, o, none⟩) l.length c, .int .i64 k, .int .u64 at_] w fun e w' => e = .returned (.tuple #[.int .u64 ((stn l k at_).1 : Nat), .bool (stn l k at_).2]) ∧ Upd Nowhere w w' := by
 have e : stn l k at_ = (0, false) := by unfold stn; rw [hall]; rfl
 rw [e]
 have HM := Lib.hid (may_ok (c := c) h hok hk)
 have HAL := fun u (hu : Upd Nowhere w u) => Lib.hid (always_any (c := c) (h.old hu) (ok_len hok).2 hk)
 rw [hall] at HAL
 clear h hok hall e
 generalize l.length = n at *
 go_enter Tryz.func43, Tryz.ntmps43
 go_wp2_with fail
 refine (HM.out).mono ?_
 rintro e w1 ⟨rfl, hu1⟩
 go_wp2_with fail
 refine ((HAL w1 hu1).out).mono ?_
 rintro e w2 ⟨rfl, hu2⟩
 go_wp2_with fail
 go_ret2
 exact ⟨rfl, hu1.trans hu2 (fun _ _ h => h)⟩
theorem sumS_app (a b : List (Bool × Nat)) : sumS (a ++ b) = sumS a + sumS b := by unfold sumS; simp
theorem sumS_cons (x : Bool × Nat) (b : List (Bool × Nat)) : sumS (x :: b) = x.2 + sumS b := by unfold sumS; simp
theorem strs_sum {l : List (Nat × Nat)} {k M : Nat} (h : ∀ (i : Nat) (s : Nat × Nat), l[i]? = some s → s.2 ≤ M) : ∀ (f i left : Nat), left ≤ M → sumS (strs l k f i left) ≤ f * M
 | 0, _, _, _ => by unfold strs sumS; simp
 | f + 1, i, left, hl => by
   unfold strs
   rw [sumS_cons, Nat.add_mul, Nat.one_mul, Nat.add_comm (f * M)]
   refine Nat.add_le_add hl (strs_sum h f _ _ ?_)
   rw [List.getD_eq_getElem?_getD]
   cases hx : l[(i + 1) % l.length]? with
   | none => simp
   | some s => exact h _ s hx
theorem runs_sum {l : List (Nat × Nat)} (hok : ok l = true) (k at_ : Nat) : sumS (runs l k at_) ≤ 554050781184 := by
 have h : ∀ (i : Nat) (s : Nat × Nat), l[i]? = some s → s.2 ≤ 4294967296 := fun i s hs => by
  have h := hok
  unfold ok at h
  simp only [Bool.and_eq_true, List.all_eq_true] at h
  have h2 := h.2.2 s (List.mem_of_getElem? hs)
  unfold rng at h2
  simp at h2
  exact h2.2
 obtain ⟨h1, a, s, h2, _, h3⟩ := spt_lt l (at_ % sum l) (Nat.mod_lt _ (sum_pos hok))
 have h4 := strs_sum (k := k) h (2 * l.length + 1) (spt l (at_ % sum l)).1 (spt l (at_ % sum l)).2 (Nat.le_trans h3 (h _ _ h2))
 have h5 := (ok_len hok).2
 exact Nat.le_trans h4 (Nat.mul_le_mul_right 4294967296 (show 2 * l.length + 1 ≤ 129 by omega))
theorem At.kept {w w' : World} {g o : Nat} {l : List (Nat × Nat)} {S : Nat → Prop} (h : At w g o l) (hu : Upd S w w') (hg : g < w.heap.size) (hs : ¬ S g) : At w' g o l :=
 fun i a s hi => ⟨(hu.cell _ hg hs).trans (h i a s hi).1, (hu.cell _ hg hs).trans (h i a s hi).2.1, (h i a s hi).2.2⟩
theorem tw_all : ∀ {X : List (Bool × Nat)}, X.any stopS = false → X.takeWhile (fun x => !stopS x) = X
 | [], _ => rfl
 | x :: r, h => by
   rw [List.any_cons, Bool.or_eq_false_iff] at h
   rw [List.takeWhile_cons_of_pos (by simp [h.1]), tw_all h.2]
theorem stays_some {w : World} {l : List (Nat × Nat)} {g o c k at_ : Nat} (h : At w g o l) (hg : g < w.heap.size) (hok : ok l = true) (hk : k < 8) (hat : at_ < 18446744073709551616) (hall : l.all (opn k) = false) :
 Calls Tryz.prog 43 #[.slice (some ⟨g, o, none⟩) l.length c, .int .i64 k, .int .u64 at_] w fun e w' => e = .returned (.tuple #[.int .u64 ((stn l k at_).1 : Nat), .bool (stn l k at_).2]) ∧ Upd Nowhere w w' := by
 have e : stn l k at_ = (sumS ((runs l k at_).takeWhile (fun x => !stopS x)), true) := by unfold stn; rw [hall]; rfl
 rw [e]
 have HM := Lib.hid (may_ok (c := c) h hok hk)
 have HAL := fun u (hu : Upd Nowhere w u) => Lib.hid (always_any (c := c) (h.old hu) (ok_len hok).2 hk)
 rw [hall] at HAL
 have HA := Lib.hid h
 have HOK := Lib.hid hok
 have HG := Lib.hid hg
 obtain ⟨X, hX⟩ : ∃ X, runs l k at_ = X := ⟨_, rfl⟩
 rw [hX]
 have HX := Lib.hid hX
 obtain ⟨n, hn⟩ : ∃ n, l.length = n := ⟨_, rfl⟩
 rw [hn] at HM HAL ⊢
 have HN := Lib.hid hn
 clear h hok hall e hn hX hg
 refine callsIn_wide.1 (callsIn_of_wp_marks (n := 1) Tryz.func43 rfl trivial ?_ rfl)
 simp only [Tryz.ntmps43, List.size_toArray, List.length_cons, List.length_nil, Nat.reduceAdd, Nat.reduceSub, Array.replicate_succ, Array.replicate_zero, List.push_toArray, List.append_toArray, List.nil_append, List.cons_append]
 gi_wp2_with (first
  | (refine ⟨trivial, ?_⟩; gi_at_call 75; refine (callsIn_wide.2 HM.out).mono ?_; rintro e w1 ⟨rfl, hu1⟩; have HAL1 := Lib.hid (HAL w1 hu1).out; have HU1 := Lib.hid hu1; clear hu1 HAL HM)
  | (refine ⟨trivial, ?_⟩; gi_at_call 76; refine (callsIn_wide.2 HAL1.out).mono ?_; rintro e w2 ⟨rfl, hu2⟩; have HU2 := Lib.hid (HU1.out.trans hu2 (fun _ _ h => h)); clear hu2 HAL1 HU1)
  | (refine ⟨trivial, ?_⟩; gi_at_call 77; refine (callsIn_wide.2 stretches_any).mono ?_; rintro e w3 ⟨rfl, hw3⟩))
 have HXB : Hid (sumS X ≤ 554050781184) := Lib.hid (by rw [← HX.out]; exact runs_sum HOK.out k at_)
 obtain ⟨nb, hnb⟩ : ∃ nb, w2.heap.size = nb := ⟨_, rfl⟩
 have hsz : (w2.alloc (.cells #[.int .u64 0] 24)).heap.size = nb + 1 := by rw [World.size_alloc, hnb]
 have hB0 : Blk w3 nb #[.int .u64 0] 24 := by rw [hw3, ← hnb]; exact (((Blk.new _ _ _).alloc _).alloc _).alloc _
 have hB1 : Blk w3 (nb + 1) #[.slice (some ⟨g, o, none⟩) n c] 23 := by rw [hw3, ← hsz]; exact ((Blk.new _ _ _).alloc _).alloc _
 have hB2 : Blk w3 (nb + 2) #[.int .i64 k] 3 := by
  have h8 : ((w2.alloc (.cells #[.int .u64 0] 24)).alloc (.cells #[.slice (some ⟨g, o, none⟩) n c] 23)).heap.size = nb + 2 := by rw [World.size_alloc, hsz]
  rw [hw3, ← h8]; exact (Blk.new _ _ _).alloc _
 have hB3 : Blk w3 (nb + 3) #[.int .u64 at_] 24 := by
  have h9 : (((w2.alloc (.cells #[.int .u64 0] 24)).alloc (.cells #[.slice (some ⟨g, o, none⟩) n c] 23)).alloc (.cells #[.int .i64 k] 3)).heap.size = nb + 3 := by rw [World.size_alloc, World.size_alloc, hsz]
  rw [hw3, ← h9]; exact Blk.new _ _ _
 have hU3 : Upd Nowhere w w3 := by rw [hw3]; exact (((HU2.out.alloc _).alloc _).alloc _).alloc _
 have hgn : g < nb := by rw [← hnb]; exact Nat.lt_of_lt_of_le HG.out HU2.out.size
 have hwn : w.heap.size ≤ nb := by rw [← hnb]; exact HU2.out.size
 have hn3 := hB3.lt
 rw [← hw3]
 simp only [hnb]
 clear hnb hsz hw3 HU2
 obtain ⟨S, hS⟩ : ∃ S : Nat → Prop, S = fun q => q = nb ∨ w3.heap.size ≤ q := ⟨_, rfl⟩
 have hSn : ∀ q, q < w3.heap.size → q ≠ nb → ¬ S q := fun q h1 h2 h3 => by rw [hS] at h3; rcases h3 with h3 | h3 <;> omega
 have hSw : ∀ q, q < w.heap.size → S q → Nowhere q := fun q h1 h3 => by rw [hS] at h3; rcases h3 with h3 | h3 <;> omega
 have HT := Lib.hid (str_in (w := w3) (l := l) (g := g) (o := o) (c := c) (at_ := at_) (k := k) (b1 := nb + 1) (b2 := nb + 3) (b3 := nb + 2) (S := S) HOK.out hat hk (fun W hW => ⟨(HA.out.old hU3).kept hW (by omega) (hSn _ (by omega) (by omega)), by rw [HN.out]; exact (hB1.kept hW (hSn _ hB1.lt (by omega))).cellAt rfl, (hB3.kept hW (hSn _ hB3.lt (by omega))).cellAt rfl, (hB2.kept hW (hSn _ hB2.lt (by omega))).cellAt rfl⟩))
 rw [HX.out] at HT
 clear hB1 hB2 hB3 hSn
 refine wp_tellsB (gf := 109) (first := #[]) (cap := #[.pointer (some ⟨nb + 1, 0, none⟩), .pointer (some ⟨nb + 3, 0, none⟩), .pointer (some ⟨nb + 2, 0, none⟩)]) (S := S) rfl (enters_of Tryz.func109 (by kernel_rfl) rfl) HT.out (fun q hq => by rw [hS]; exact .inr hq) rfl
  (fun pre W => Blk W nb #[.int .u64 (sumS pre : Nat)] 24 ∧ Upd S w3 W) (fun pre W => Blk W nb #[.int .u64 (sumS pre : Nat)] 24 ∧ Upd S w3 W)
  (fun pre W W' hI hu => ⟨hI.1.kept hu id, hI.2.trans hu (fun _ _ h => h.elim)⟩) (fun pre W W' hI hu => ⟨hI.1.kept hu id, hI.2.trans hu (fun _ _ h => h.elim)⟩)
  (fun pre W l o o' hI hl _ _ => ⟨hI.1.kept (upd_put (S := fun q => q = l) rfl) (by omega), hI.2.trans (upd_put (S := fun q => q = l) rfl) (fun q _ e => by rw [hS, e]; exact .inr hl)⟩) (fun pre W l o o' hI hl _ _ => ⟨hI.1.kept (upd_put (S := fun q => q = l) rfl) (by omega), hI.2.trans (upd_put (S := fun q => q = l) rfl) (fun q _ e => by rw [hS, e]; exact .inr hl)⟩)
  ⟨hB0, Upd.refl _ _⟩ 0
  (fun x N => { tmps := #[.slice (some ⟨g, o, none⟩) n c, .int .i64 k, .int .u64 at_, undef, undef, undef, .int .u64 0, .bool false, .pointer (some ⟨nb, 0, none⟩), .pointer (some ⟨N, 0, none⟩), .slice (some ⟨g, o, none⟩) n c, .int .i64 k, .bool true, .bool false, .bool false, .slice (some ⟨g, o, none⟩) n c, .int .i64 k, .bool false, .bool false, .slice (some ⟨g, o, none⟩) n c, .int .i64 k, .int .u64 at_, .func (.func 109) #[] #[.pointer (some ⟨nb + 1, 0, none⟩), .pointer (some ⟨nb + 3, 0, none⟩), .pointer (some ⟨nb + 2, 0, none⟩)], .agg #[.bool x.1, .int .u64 x.2], undef, undef, undef, undef, undef, undef, undef, undef], defers := [] })
  (fun x => .cells #[.bool x.1, .int .u64 x.2] 187) ?assign ?body ?done ?stop
 case assign =>
  intro l x W K hK
  unfold encS
  gi_wp2
  exact hK
 case body =>
  have HS := Lib.hid hS
  clear hS
  rintro l pre ⟨o', s⟩ N W ⟨hb, hu⟩ ⟨r, hr⟩ hN hNo
  have hNb : Blk W N #[.bool o', .int .u64 s] 187 := hNo
  obtain ⟨m0, m1, -⟩ := cells2 hNb
  obtain ⟨b0, z0⟩ := cells1 hb
  have hsum := HXB.out
  rw [hr, sumS_app, sumS_cons] at hsum
  dsimp only at hsum
  obtain ⟨q, hq⟩ : ∃ q, sumS pre = q := ⟨_, rfl⟩
  rw [hq] at hsum b0
  have ew : IntKind.u64.wrap ((q : Int) + s) = (q : Int) + s := by rw [IntKind.wrap_u64]; omega
  have HQ := Lib.hid hq
  have HB := Lib.hid hb
  have HU := Lib.hid hu
  clear hr hq hNo hb hu
  cases o' with
  | false =>
    gi_wp2
    exact ⟨KeepsOthers.refl _, Upd.refl _ _, rfl, HB.out, HU.out⟩
  | true =>
    gi_wp2
    have hu2 : Upd S W (W.setCell ⟨nb, 0, none⟩ (.int .u64 ((q : Int) + s))) := (Upd.refl _ _).setCell (a := ⟨nb, 0, none⟩) (fun _ => by rw [HS.out]; exact .inl rfl) _
    refine ⟨KeepsOthers.setCell _ _ _, hu2, rfl, ?_, HU.out.trans hu2 (fun _ _ h => h)⟩
    have e : ((sumS (pre ++ [(true, s)]) : Nat) : Int) = (q : Int) + s := by rw [sumS_app, HQ.out]; simp [sumS]
    rw [e]
    exact HB.out.set 0 _
 case done =>
  have HS := Lib.hid hS
  clear hS
  rintro D W hD hs ⟨hb, hu⟩ hK
  have E1 := Lib.hid (tw_all hs)
  obtain ⟨b0, z0⟩ := cells1 hb
  have HU := Lib.hid hu
  have HD := Lib.hid hD
  clear hu hD hs
  gi_wp2
  refine ⟨by simp, .inl ⟨_, _, rfl, run_takeDeferred hK, ?_⟩⟩
  exact ⟨_, results_tmp2 rfl _ _ _, by rw [E1.out]; rfl, (hU3.trans (HU.out.trans (upd_put (S := fun q => q = D) rfl) (fun q _ e => by rw [HS.out, e]; exact .inr HD.out)) hSw)⟩
 case stop =>
  have HS := Lib.hid hS
  clear hS
  rintro D W hD hs ⟨hb, hu⟩ hK
  obtain ⟨b0, z0⟩ := cells1 hb
  have HU := Lib.hid hu
  have HD := Lib.hid hD
  clear hu hD hs
  gi_wp2
  refine ⟨by simp, .inl ⟨_, _, rfl, run_takeDeferred hK, ?_⟩⟩
  exact ⟨_, results_tmp2 rfl _ _ _, rfl, (hU3.trans (HU.out.trans (upd_put (S := fun q => q = D) rfl) (fun q _ e => by rw [HS.out, e]; exact .inr HD.out)) hSw)⟩
theorem stays_any {w : World} {l : List (Nat × Nat)} {g o c k at_ : Nat} (h : At w g o l) (hg : g < w.heap.size) (hok : ok l = true) (hk : k < 8) (hat : at_ < 18446744073709551616) :
 Calls Tryz.prog 43 #[.slice (some ⟨g, o, none⟩) l.length c, .int .i64 k, .int .u64 at_] w fun e w' => e = .returned (.tuple #[.int .u64 ((stn l k at_).1 : Nat), .bool (stn l k at_).2]) ∧ Upd Nowhere w w' := by
 cases hall : l.all (opn k) with
 | true => exact stays_all h hok hk hall
 | false => exact stays_some h hg hok hk hat hall
end Go.Proofs.YtdddfmdcjjbegaaGreat.Plan
namespace Go.Proofs.YtdddfmdcjjbegaaGreat.Egs
open Go.RowKit Go.Proofs BigFrame RingW First
set_option maxHeartbeats 1000000
set_option maxRecDepth 1000000
/-- Is a class open from a time on, for so many ticks? -/
def opens (l : List (Nat × Nat)) (i now t : Nat) : Bool := if l.length = 0 then true else if (Plan.stn l i now).2 then decide (0 < (Plan.stn l i now).1) && decide (t ≤ (Plan.stn l i now).1) else true
theorem open_none {w : World} {e i t : Nat} {ad : Option Addr} {c : Nat} (h : w.cell? ⟨e, 1, none⟩ = some (.slice ad 0 c)) :
 Calls Tryz.prog 69 #[.pointer (some ⟨e, 0, none⟩), .int .i64 i, .int .u64 t] w fun e w' => e = .returned (.bool true) ∧ w = w' := by
 go_enter Tryz.func69, Tryz.ntmps69
 go_wp2_with fail
 go_ret
 exact ⟨rfl, rfl⟩
theorem keepU2 {P : Program} {f : FuncId} {args : Array Value} {w B : World} {V : Value} {a0 a1 : Addr} {v0 v1 : Value} (h : ∀ u, Upd Nowhere B u → Hid (Calls P f args u fun e w' => e = .returned V ∧ Upd Nowhere u w')) (hS : Upd Nowhere B w ∧ w.cell? a0 = some v0 ∧ w.cell? a1 = some v1) :
 Calls P f args w fun e w' => e = .returned V ∧ Upd Nowhere B w' ∧ w'.cell? a0 = some v0 ∧ w'.cell? a1 = some v1 := keepC2 (h w hS.1).out hS
theorem open_plan {w : World} {l : List (Nat × Nat)} {e i t g o c now : Nat} (h : Plan.At w g o l) (hg : g < w.heap.size) (hok : Plan.ok l = true) (hi : i < 8) (hn : now < 18446744073709551616)
 (h1 : w.cell? ⟨e, 1, none⟩ = some (.slice (some ⟨g, o, none⟩) l.length c)) (h3 : w.cell? ⟨e, 3, none⟩ = some (.int .u64 now)) :
 Calls Tryz.prog 69 #[.pointer (some ⟨e, 0, none⟩), .int .i64 i, .int .u64 t] w fun e w' => e = .returned (.bool (opens l i now t)) ∧ Upd Nowhere w w' := by
 have HST := fun u (hu : Upd Nowhere w u) => Lib.hid (Plan.stays_any (c := c) (h.old hu) (Nat.lt_of_lt_of_le hg hu.size) hok hi hn)
 have hl := (Plan.ok_len hok).1
 have hE : opens l i now t = if (Plan.stn l i now).2 then decide (0 < (Plan.stn l i now).1) && decide (t ≤ (Plan.stn l i now).1) else true := by unfold opens; rw [if_neg (by omega)]
 obtain ⟨N, hN⟩ : ∃ N, (Plan.stn l i now).1 = N := ⟨_, rfl⟩
 obtain ⟨b, hb⟩ : ∃ b, (Plan.stn l i now).2 = b := ⟨_, rfl⟩
 rw [hN, hb] at HST hE
 rw [hE]
 obtain ⟨R, hR⟩ : ∃ R, (if b then decide (0 < N) && decide (t ≤ N) else true) = R := ⟨_, rfl⟩
 rw [hR]
 have HR := Lib.hid hR
 clear hR
 obtain ⟨n, hn⟩ : ∃ n, l.length = n := ⟨_, rfl⟩
 rw [hn] at h1 HST hl
 have d0 : ((n : Int) == 0) = false := by simp; omega
 clear h hg hok hE hN hb hn
 have hS0 : Upd Nowhere w w.drew := (Upd.refl _ _).drew
 go_enter Tryz.func69, Tryz.ntmps69
 go_wp2_with fail
 go_region_held3 (fun w' => Upd Nowhere w w' ∧ w'.cell? ⟨e, 1, none⟩ = some (.slice (some ⟨g, o, none⟩) n c) ∧ w'.cell? ⟨e, 3, none⟩ = some (.int .u64 now)) (first | exact ⟨hS0, h1, h3⟩ | assumption) (first
  | (go_at_call 43; refine (keepU2 HST (by assumption)).mono ?_; rintro e w' ⟨rfl, _⟩))
 rename_i hSF
 obtain ⟨hu, -, -⟩ := hSF
 cases b with
 | false =>
   obtain rfl : true = R := by have := HR.out; simpa using this
   go_wp2_with fail
   go_ret
   exact ⟨rfl, hu⟩
 | true =>
   by_cases p0 : 0 < N
   · have e1 : decide (0 < N) = true := decide_eq_true p0
     obtain rfl : decide (t ≤ N) = R := by have := HR.out; simpa [p0] using this
     go_wp2_with fail
     go_ret
     exact ⟨rfl, hu⟩
   · have e1 : decide (0 < N) = false := decide_eq_false p0
     obtain rfl : false = R := by have := HR.out; simpa [p0] using this
     go_wp2_with fail
     go_ret
     exact ⟨rfl, hu⟩
end Go.Proofs.YtdddfmdcjjbegaaGreat.Egs

