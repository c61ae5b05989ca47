/- Bits, Wide, Times, Sat, Len, Div, Div2, Sat2, Egs2, one behind the other. -/
import Derived.Test.YtdddfmdcjjbegaaGreatProg
import Derived.Test.YtdddfmdcjjbegaaGreatMeA
import Derived.Lib.Mul64
import Derived.Lib.Hide
import Derived.Laws.Externs
import Derived.Laws.MathBits
import Derived.Lib.Tables
import Derived.Lib.BitFns
import Derived.Test.YtdddfmdcjjbegaaGreatMeB
import Derived.Deep.DeepCutAuto
import Derived.Deep.CutBlock
import Derived.Test.YtdddfmdcjjbegaaGreatMeRing
namespace Go.Proofs.YtdddfmdcjjbegaaGreat.Bits
open Go.RowKit Go.Proofs

theorem maskN (a : Nat) (ha : a < 18446744073709551616) : bits .and .u64 (a : Int) 4294967295 = ((a % 4294967296 : Nat) : Int) := by
 rw [and_low32 a (by omega) (by omega)]; rfl
theorem divN (a : Nat) : (a : Int) / 4294967296 = ((a / 4294967296 : Nat) : Int) := rfl
theorem mulN (a b : Nat) : (a : Int) * (b : Int) = ((a * b : Nat) : Int) := (Int.natCast_mul a b).symm
theorem addN (a b : Nat) : (a : Int) + (b : Int) = ((a + b : Nat) : Int) := (Int.natCast_add a b).symm
theorem wrapN (a : Nat) (ha : a < 18446744073709551616) : IntKind.u64.wrap (a : Int) = (a : Int) := by rw [IntKind.wrap_u64]; omega
theorem wrapM (a : Nat) : IntKind.u64.wrap (a : Int) = ((a % 18446744073709551616 : Nat) : Int) := by rw [IntKind.wrap_u64]; omega

set_option maxHeartbeats 1000000
theorem mul64 (x y : Nat) (hx : x < 18446744073709551616) (hy : y < 18446744073709551616) (w : World) :
 Calls Tryz.prog 122 #[.int .u64 x, .int .u64 y] w fun e w' => e = .returned (.tuple #[.int .u64 (x * y / 18446744073709551616 : Nat), .int .u64 (x * y % 18446744073709551616 : Nat)]) ∧ w = w' := by
 obtain ⟨bd, bt, bw, hhi⟩ := Lib.mul64_hi x y hx hy
 have ba := Lib.half_mul_le (a := x / 4294967296) (b := y / 4294967296) (by omega) (by omega)
 have bb := Lib.half_mul_le (a := x / 4294967296) (b := y % 4294967296) (by omega) (by omega)
 have bc := Lib.half_mul_le (a := x % 4294967296) (b := y / 4294967296) (by omega) (by omega)
 have ba' : x / 4294967296 * (y / 4294967296) < 18446744073709551616 := by omega
 have bb' : x / 4294967296 * (y % 4294967296) < 18446744073709551616 := by omega
 have bc' : x % 4294967296 * (y / 4294967296) < 18446744073709551616 := by omega
 have bh1 : x / 4294967296 * (y / 4294967296) + (x / 4294967296 * (y % 4294967296) + x % 4294967296 * (y % 4294967296) / 4294967296) / 4294967296 < 18446744073709551616 := by omega
 have bh : x / 4294967296 * (y / 4294967296) + (x / 4294967296 * (y % 4294967296) + x % 4294967296 * (y % 4294967296) / 4294967296) / 4294967296 + ((x / 4294967296 * (y % 4294967296) + x % 4294967296 * (y % 4294967296) / 4294967296) % 4294967296 + x % 4294967296 * (y / 4294967296)) / 4294967296 < 18446744073709551616 := by omega
 go_enter Tryz.func122, Tryz.ntmps122
 go_wp2
 simp only [maskN x hx, maskN y hy, divN, mulN, addN, wrapN _ bd, wrapN _ bb', wrapN _ bt, maskN _ bt, wrapN _ bc', wrapN _ bw, wrapN _ ba', wrapN _ bh1, wrapN _ bh, wrapM (x * y)]
 rw [hhi]
 go_ret2
 exact ⟨rfl, rfl⟩

theorem run_add (x y : Nat) (w : World) : (callFunc 78 #[.int .u64 x, .int .u64 y, .int .u64 0]).run Tryz.prog w =
 .ok (.value (.tuple #[.int .u64 ((x + y) % 18446744073709551616 : Nat), .int .u64 ((x + y) / 18446744073709551616 : Nat)])) w := by
 rw [run_callFunc_extern (e := add64Entry) Tryz.func78 (by kernel_rfl) (by kernel_rfl) (by kernel_rfl) (by kernel_rfl)]
 have h := run_add64 (P := Tryz.prog) x y 0 (by omega) (by omega) (by omega) (by omega) w
 rw [h]
 simp [Result.andThen]

theorem sat_add (x y : Nat) (w : World) (hx : x ≤ 18446744073709551615) (hy : y ≤ 18446744073709551615) :
 Calls Tryz.prog 46 #[.int .u64 x, .int .u64 y] w fun e w' => e = .returned (.int .u64 (min (x + y) 18446744073709551615 : Nat)) ∧ w = w' := by
 have hc := run_add x y
 rcases Nat.lt_or_ge (x + y) 18446744073709551616 with hlt | hge
 · have e1 : (x + y) % 18446744073709551616 = x + y := Nat.mod_eq_of_lt hlt
   have e2 : (x + y) / 18446744073709551616 = 0 := Nat.div_eq_of_lt hlt
   have e3 : min (x + y) 18446744073709551615 = x + y := by omega
   rw [e1, e2] at hc
   rw [e3]
   clear e1 e2 e3 hlt hx hy
   generalize x + y = z at hc ⊢
   go_enter Tryz.func46, Tryz.ntmps46
   go_wp2
   go_ret
   exact ⟨rfl, rfl⟩
 · have e2 : (x + y) / 18446744073709551616 = 1 := by omega
   have e3 : min (x + y) 18446744073709551615 = 18446744073709551615 := by omega
   rw [e2] at hc
   rw [e3]
   generalize (x + y) % 18446744073709551616 = z at hc
   clear e2 e3 hge hx hy
   go_enter Tryz.func46, Tryz.ntmps46
   go_wp2
   go_ret
   exact ⟨rfl, rfl⟩
end Go.Proofs.YtdddfmdcjjbegaaGreat.Bits
namespace Go.Proofs.YtdddfmdcjjbegaaGreat.Wide
open Go.RowKit Go.Proofs BigFrame

/-- Four digits, as a value. -/
def four (a : Nat → Nat) : Value := .agg #[.int .u64 (a 0), .int .u64 (a 1), .int .u64 (a 2), .int .u64 (a 3)]
/-- A number's digits to the base 2^32. -/
def dg (n : Nat) (i : Nat) : Nat := n / 4294967296 ^ i % 4294967296
theorem four_congr {a b : Nat → Nat} (h : ∀ i, i < 4 → a i = b i) : four a = four b := by
 unfold four; rw [h 0 (by omega), h 1 (by omega), h 2 (by omega), h 3 (by omega)]
theorem four_at (a : Nat → Nat) {k : Nat} (hk : k < 4) : #[Value.int .u64 (a 0), .int .u64 (a 1), .int .u64 (a 2), .int .u64 (a 3)][k]? = some (.int .u64 (a k)) := by
 match k, hk with
 | 0, _ => rfl
 | 1, _ => rfl
 | 2, _ => rfl
 | 3, _ => rfl
/-- A call that hands back a value and makes memory alone. -/
def Gives (w : World) (v : Value) (e : Ending) (w' : World) : Prop := e = .returned v ∧ Upd Nowhere w w'

set_option maxHeartbeats 1000000
theorem of_any (x : Nat) (hx : x ≤ 18446744073709551615) (w : World) :
 Calls Tryz.prog 45 #[.int .u64 x] w fun e w' => Gives w (four (dg x)) e w' := by
 have e : four (dg x) = .agg #[.int .u64 (x % 4294967296 : Nat), .int .u64 (x / 4294967296 : Nat), .int .u64 0, .int .u64 0] := by
  have h0 : dg x 0 = x % 4294967296 := by simp [dg]
  have h1 : dg x 1 = x / 4294967296 := by simp [dg]; omega
  have h2 : dg x 2 = 0 := by simp [dg]; omega
  have h3 : dg x 3 = 0 := by simp [dg]; omega
  unfold four; rw [h0, h1, h2, h3]; rfl
 rw [e]
 clear e
 go_enter Tryz.func45, Tryz.ntmps45
 go_wp2
 exact bodyPost_ret (v := .agg #[.int .u64 (x % 4294967296 : Nat), .int .u64 (x / 4294967296 : Nat), .int .u64 0, .int .u64 0]) (by simp [results, Tryz.results45, go_sem]) rfl ⟨rfl, (Upd.refl _ _).alloc _⟩

/-- Less, digit by digit from the top. -/
def lowB (a b : Nat → Nat) : Nat → Bool
 | 0 => false
 | k + 1 => if a k = b k then lowB a b k else decide (a k < b k)

theorem less_any (a b : Nat → Nat) (w : World) :
 Calls Tryz.prog 137 #[four a, four b] w fun e w' => Gives w (.bool (lowB a b 4)) e w' := by
 unfold four
 go_enter Tryz.func137, Tryz.ntmps137
 go_wp2
 go_loopw [5] (fun i wr => ∃ k : Nat, k ≤ 4 ∧ i = .int .i64 ((k : Int) - 1) ∧ lowB a b 4 = lowB a b k ∧ Blk wr w.heap.size #[.int .u64 (a 0), .int .u64 (a 1), .int .u64 (a 2), .int .u64 (a 3)] 116 ∧
  Blk wr (w.heap.size + 1) #[.int .u64 (b 0), .int .u64 (b 1), .int .u64 (b 2), .int .u64 (b 3)] 116 ∧ Upd Nowhere w wr) (fun i _ => (intOf i + 1).toNat)
 case atStart => exact ⟨4, by omega, rfl, rfl, (Blk.new _ _ _).alloc _, by simpa using Blk.new (w.alloc _) _ _, ((Upd.refl _ _).alloc _).alloc _⟩
 case round =>
  obtain ⟨k, hk, rfl, hlow, hA, hB, hu⟩ := hrel
  have Hl := Lib.hid hlow
  have HA := Lib.hid hA
  have HB := Lib.hid hB
  clear hlow hA hB
  cases k with
  | zero =>
    go_wp2
    go_ret
    exact ⟨ret_bool Hl.out.symm, hu⟩
  | succ k =>
    have e0 : ((k + 1 : Nat) : Int) - 1 = (k : Int) := by omega
    have ha : wr.cell? ⟨w.heap.size, k, none⟩ = some (.int .u64 (a k)) := HA.out.cellAt (four_at a (by omega))
    have hb : wr.cell? ⟨w.heap.size + 1, k, none⟩ = some (.int .u64 (b k)) := HB.out.cellAt (four_at b (by omega))
    have hk4 : (k : Int) < 4 := by omega
    rw [e0]
    clear e0
    by_cases hab : a k = b k
    · have hne : ((a k : Int) != (b k : Int)) = false := by simp [hab]
      have Hl2 : Hid (lowB a b 4 = lowB a b k) := by
       show lowB a b 4 = lowB a b k
       rw [Hl.out]; unfold lowB; rw [if_pos hab]; cases k <;> rfl
      clear hab Hl
      generalize a k = x at *
      generalize b k = y at *
      go_wp2
      go_quiet (fail)
      go_wp2
      go_roundw
      case rel => exact ⟨k, by omega, rfl, Hl2.out, HA.out, HB.out, hu.drewN _⟩
      case measure => simp [intOf]
    · have hne : ((a k : Int) != (b k : Int)) = true := by simp; omega
      have Hl2 : Hid (lowB a b 4 = decide (a k < b k)) := by
       show lowB a b 4 = decide (a k < b k)
       rw [Hl.out]; unfold lowB; rw [if_neg hab]
      clear hab Hl
      generalize a k = x at *
      generalize b k = y at *
      go_wp2
      go_quiet (fail)
      go_wp2
      go_quiet (fail)
      go_wp2
      go_ret
      exact ⟨ret_bool (by rw [Hl2.out]), (hu.drewN _).drewN _⟩

/-- The carry into a digit of a sum. -/
def carry (a b : Nat → Nat) : Nat → Nat
 | 0 => 0
 | k + 1 => (a k + b k + carry a b k) / 4294967296
def plusD (a b : Nat → Nat) (i : Nat) : Nat := (a i + b i + carry a b i) % 4294967296

theorem cap_any (a : Nat → Nat) (ha : ∀ i, i < 4 → a i < 4294967296) (w : World) :
 Calls Tryz.prog 41 #[four a] w fun e w' => Gives w (.int .u64 (if a 2 = 0 ∧ a 3 = 0 then a 1 * 4294967296 + a 0 else 18446744073709551615 : Nat)) e w' := by
 have h0 := ha 0 (by omega)
 have h1 := ha 1 (by omega)
 clear ha
 unfold four
 generalize a 0 = x0 at *
 generalize a 1 = x1 at *
 generalize a 2 = x2 at *
 generalize a 3 = x3 at *
 by_cases c2 : x2 = 0
 · subst c2
   by_cases c3 : x3 = 0
   · subst c3
     rw [if_pos ⟨rfl, rfl⟩]
     go_enter Tryz.func41, Tryz.ntmps41
     go_wp2
     go_ret
     exact ⟨ret_int (by simp), (Upd.refl _ _).alloc _⟩
   · have d3 : ((x3 : Int) != 0) = true := by simp; omega
     rw [if_neg (by omega)]
     clear c3
     go_enter Tryz.func41, Tryz.ntmps41
     go_wp2
     go_ret
     exact ⟨rfl, (Upd.refl _ _).alloc _⟩
 · have d2 : ((x2 : Int) != 0) = true := by simp; omega
   rw [if_neg (by omega)]
   clear c2
   go_enter Tryz.func41, Tryz.ntmps41
   go_wp2
   go_ret
   exact ⟨rfl, (Upd.refl _ _).alloc _⟩

theorem carry_le (a b : Nat → Nat) (ha : ∀ i, i < 4 → a i < 4294967296) (hb : ∀ i, i < 4 → b i < 4294967296) : ∀ k, k ≤ 4 → carry a b k ≤ 1
 | 0, _ => Nat.zero_le _
 | k + 1, h => by
   have h1 := ha k (by omega)
   have h2 := hb k (by omega)
   have h3 := carry_le a b ha hb k (by omega)
   unfold carry; omega

/-- The digits below k are there. -/
def upto (f : Nat → Nat) (k : Nat) : Array Value := #[.int .u64 (if 0 < k then f 0 else 0 : Nat), .int .u64 (if 1 < k then f 1 else 0 : Nat), .int .u64 (if 2 < k then f 2 else 0 : Nat), .int .u64 (if 3 < k then f 3 else 0 : Nat)]
theorem upto_set (f : Nat → Nat) {k : Nat} (hk : k < 4) : (upto f k).setIfInBounds k (.int .u64 (f k)) = upto f (k + 1) := by
 match k, hk with
 | 0, _ => rfl
 | 1, _ => rfl
 | 2, _ => rfl
 | 3, _ => rfl
theorem upto_some (f : Nat → Nat) (k : Nat) {i : Nat} (hi : i < 4) : ∃ v, (upto f k)[i]? = some v := by
 match i, hi with
 | 0, _ => exact ⟨_, rfl⟩
 | 1, _ => exact ⟨_, rfl⟩
 | 2, _ => exact ⟨_, rfl⟩
 | 3, _ => exact ⟨_, rfl⟩

abbrev TW : TypeId := 116

theorem plus_any (a b : Nat → Nat) (ha : ∀ i, i < 4 → a i < 4294967296) (hb : ∀ i, i < 4 → b i < 4294967296) (w : World) :
 Calls Tryz.prog 44 #[four a, four b] w fun e w' => Gives w (four (plusD a b)) e w' := by
 have Ha := Lib.hid ha
 have Hb := Lib.hid hb
 clear ha hb
 unfold four
 go_enter Tryz.func44, Tryz.ntmps44
 go_wp2
 go_loopw [6, 7] (fun c i wr => ∃ k : Nat, k ≤ 4 ∧ i = .int .i64 k ∧ c = .int .u64 (carry a b k) ∧ Blk wr w.heap.size #[.int .u64 (a 0), .int .u64 (a 1), .int .u64 (a 2), .int .u64 (a 3)] TW ∧
  Blk wr (w.heap.size + 1) #[.int .u64 (b 0), .int .u64 (b 1), .int .u64 (b 2), .int .u64 (b 3)] TW ∧ Blk wr (w.heap.size + 1 + 1) #[.int .u64 0, .int .u64 0, .int .u64 0, .int .u64 0] TW ∧
  Blk wr (w.heap.size + 1 + 1 + 1) (upto (plusD a b) k) TW ∧ Upd Nowhere w wr) (fun _ i _ => 4 - (intOf i).toNat)
 case atStart => exact ⟨0, by omega, rfl, rfl, (((Blk.new _ _ _).alloc _).alloc _).alloc _, ((by simpa using Blk.new (w.alloc _) _ _ : Blk _ (w.heap.size + 1) _ TW).alloc _).alloc _, (by simpa using Blk.new ((w.alloc _).alloc _) _ _ : Blk _ (w.heap.size + 1 + 1) _ TW).alloc _, by simpa [upto] using Blk.new (((w.alloc _).alloc _).alloc _) _ _, ((((Upd.refl _ _).alloc _).alloc _).alloc _).alloc _⟩
 case round =>
  obtain ⟨k, hk, rfl, rfl, hA, hB, hC, hD, hu⟩ := hrel
  have HA := Lib.hid hA
  have HB := Lib.hid hB
  have HC := Lib.hid hC
  have HD := Lib.hid hD
  clear hA hB hC hD
  by_cases hlt : k < 4
  · have e1 : wr.cell? ⟨w.heap.size, k, none⟩ = some (.int .u64 (a k)) := HA.out.cellAt (four_at a hlt)
    have e2 : wr.cell? ⟨w.heap.size + 1, k, none⟩ = some (.int .u64 (b k)) := HB.out.cellAt (four_at b hlt)
    obtain ⟨v, hv⟩ := upto_some (plusD a b) k hlt
    have e3 : wr.cell? ⟨w.heap.size + 1 + 1 + 1, k, none⟩ = some v := HD.out.cellAt hv
    have z3 := HD.out.free k
    have hk4 : (k : Int) < 4 := by omega
    have b1 := Ha.out k hlt
    have b2 := Hb.out k hlt
    have b3 := carry_le a b Ha.out Hb.out k hk
    have hc : Hid ((a k + b k + carry a b k) / 4294967296 = carry a b (k + 1)) := rfl
    have hd : Hid ((a k + b k + carry a b k) % 4294967296 = plusD a b k) := rfl
    have hset := Lib.hid (upto_set (plusD a b) hlt)
    generalize plusD a b k = d at *
    generalize carry a b k = c at *
    generalize a k = x at *
    generalize b k = y at *
    clear hv
    go_wp2
    go_quiet (fail)
    go_wp2
    go_roundw
    case rel =>
     refine ⟨k + 1, by omega, by go_num, ?_, HA.out.setOther (a := ⟨w.heap.size + 1 + 1 + 1, k, none⟩) (by simp; omega) _, HB.out.setOther (a := ⟨w.heap.size + 1 + 1 + 1, k, none⟩) (by simp) _, HC.out.setOther (a := ⟨w.heap.size + 1 + 1 + 1, k, none⟩) (by simp) _, ?_, ?_⟩
     · rw [← hc.out]; rfl
     · have h := HD.out.set k (.int .u64 (d : Int))
       rw [hset.out] at h
       rw [← hd.out] at h
       exact h
     · exact (hu.drewN _).setNew (a := ⟨w.heap.size + 1 + 1 + 1, k, none⟩) (by simp; omega) _
    case measure => simp [intOf]; omega
  · obtain rfl : k = 4 := by omega
    have e : upto (plusD a b) 4 = #[.int .u64 (plusD a b 0), .int .u64 (plusD a b 1), .int .u64 (plusD a b 2), .int .u64 (plusD a b 3)] := rfl
    rw [e] at HD
    obtain ⟨d0, e1'⟩ : ∃ d, plusD a b 0 = d := ⟨_, rfl⟩
    obtain ⟨d1, e2'⟩ : ∃ d, plusD a b 1 = d := ⟨_, rfl⟩
    obtain ⟨d2, e3'⟩ : ∃ d, plusD a b 2 = d := ⟨_, rfl⟩
    obtain ⟨d3, e4'⟩ : ∃ d, plusD a b 3 = d := ⟨_, rfl⟩
    rw [e1', e2', e3', e4'] at HD
    have E1 := Lib.hid e1'
    have E2 := Lib.hid e2'
    have E3 := Lib.hid e3'
    have E4 := Lib.hid e4'
    clear e1' e2' e3' e4'
    have c0 : wr.cell? ⟨w.heap.size + 1 + 1 + 1, 0, none⟩ = some (.int .u64 d0) := HD.out.cellAt rfl
    have c1 : wr.cell? ⟨w.heap.size + 1 + 1 + 1, 1, none⟩ = some (.int .u64 d1) := HD.out.cellAt rfl
    have c2 : wr.cell? ⟨w.heap.size + 1 + 1 + 1, 2, none⟩ = some (.int .u64 d2) := HD.out.cellAt rfl
    have c3 : wr.cell? ⟨w.heap.size + 1 + 1 + 1, 3, none⟩ = some (.int .u64 d3) := HD.out.cellAt rfl
    have r0 : wr.cell? ⟨w.heap.size + 1 + 1, 0, none⟩ = some (.int .u64 0) := HC.out.cellAt rfl
    have r1 : wr.cell? ⟨w.heap.size + 1 + 1, 1, none⟩ = some (.int .u64 0) := HC.out.cellAt rfl
    have r2 : wr.cell? ⟨w.heap.size + 1 + 1, 2, none⟩ = some (.int .u64 0) := HC.out.cellAt rfl
    have r3 : wr.cell? ⟨w.heap.size + 1 + 1, 3, none⟩ = some (.int .u64 0) := HC.out.cellAt rfl
    have z0 := HC.out.free 0
    have z1 := HC.out.free 1
    have z2 := HC.out.free 2
    have z3 := HC.out.free 3
    go_wp2
    exact bodyPost_ret (v := .agg #[.int .u64 d0, .int .u64 d1, .int .u64 d2, .int .u64 d3]) (by simp [results, Tryz.results44, go_sem, r0, r1, r2, r3]) rfl
     ⟨by rw [E1.out, E2.out, E3.out, E4.out], ((((hu.setNew (a := ⟨w.heap.size + 1 + 1, 0, none⟩) (by simp; omega) _).setNew (a := ⟨w.heap.size + 1 + 1, 1, none⟩) (by simp; omega) _).setNew (a := ⟨w.heap.size + 1 + 1, 2, none⟩) (by simp; omega) _).setNew (a := ⟨w.heap.size + 1 + 1, 3, none⟩) (by simp; omega) _)⟩

def row4 (f : Nat → Nat) : Array Value := #[.int .u64 (f 0), .int .u64 (f 1), .int .u64 (f 2), .int .u64 (f 3)]
def put (f : Nat → Nat) (p v : Nat) : Nat → Nat := fun i => if i = p then v else f i
theorem row4_set (f : Nat → Nat) {p : Nat} (hp : p < 4) (v : Nat) : (row4 f).setIfInBounds p (.int .u64 v) = row4 (put f p v) := by
 match p, hp with
 | 0, _ => rfl
 | 1, _ => rfl
 | 2, _ => rfl
 | 3, _ => rfl
theorem row4_at (f : Nat → Nat) {p : Nat} (hp : p < 4) : (row4 f)[p]? = some (.int .u64 (f p)) := four_at f hp

/-- One row of a product, piece by piece: the digits and the carry behind j steps of row i. -/
def rowI (x y : Nat → Nat) (i : Nat) (o : Nat → Nat) : Nat → (Nat → Nat) × Nat
 | 0 => (o, 0)
 | j + 1 => (put (rowI x y i o j).1 (i + j) ((x i * y j + (rowI x y i o j).1 (i + j) + (rowI x y i o j).2) % 4294967296), (x i * y j + (rowI x y i o j).1 (i + j) + (rowI x y i o j).2) / 4294967296)
def rowO (x y : Nat → Nat) : Nat → Nat → Nat
 | 0 => fun _ => 0
 | i + 1 => put (rowI x y i (rowO x y i) 2).1 (i + 2) ((rowI x y i (rowO x y i) 2).1 (i + 2) + (rowI x y i (rowO x y i) 2).2)

theorem mul_small {a b : Nat} (ha : a < 4294967296) (hb : b < 4294967296) : a * b ≤ 18446744065119617025 := Nat.mul_le_mul (Nat.le_of_lt_succ ha) (Nat.le_of_lt_succ hb)

theorem rowI_lt (x y : Nat → Nat) (hx : ∀ i, i < 4 → x i < 4294967296) (hy : ∀ i, i < 4 → y i < 4294967296) {i : Nat} (hi : i < 2) (o : Nat → Nat) (ho : ∀ p, o p < 8589934592) (hoo : ∀ p, p < i + 2 → o p < 4294967296) :
 ∀ j, j ≤ 2 → (∀ p, (rowI x y i o j).1 p < 8589934592) ∧ (∀ p, p < i + 2 → (rowI x y i o j).1 p < 4294967296) ∧ (rowI x y i o j).2 < 4294967296
 | 0, _ => ⟨ho, hoo, by simp [rowI]⟩
 | j + 1, hj => by
   obtain ⟨h1, h2, h3⟩ := rowI_lt x y hx hy hi o ho hoo j (by omega)
   have h4 := mul_small (hx i (by omega)) (hy j (by omega))
   have h5 := h2 (i + j) (by omega)
   refine ⟨fun p => ?_, fun p hp => ?_, ?_⟩
   · simp only [rowI, put]; split
     · omega
     · exact h1 p
   · simp only [rowI, put]; split
     · omega
     · exact h2 p hp
   · simp only [rowI]; omega
theorem rowO_lt (x y : Nat → Nat) (hx : ∀ i, i < 4 → x i < 4294967296) (hy : ∀ i, i < 4 → y i < 4294967296) : ∀ i, i ≤ 2 → (∀ p, rowO x y i p < 8589934592) ∧ (∀ p, p < i + 2 → rowO x y i p < 4294967296)
 | 0, _ => ⟨fun p => by simp [rowO], fun p _ => by simp [rowO]⟩
 | i + 1, hi => by
   obtain ⟨h1, h2⟩ := rowO_lt x y hx hy i (by omega)
   obtain ⟨g1, g2, g3⟩ := rowI_lt x y hx hy (by omega : i < 2) (rowO x y i) h1 h2 2 (by omega)
   have hz : (rowI x y i (rowO x y i) 2).1 (i + 2) = 0 := by
    have e : i = 0 ∨ i = 1 := by omega
    rcases e with rfl | rfl
    · simp [rowI, rowO, put]
    · simp [rowI, rowO, put]
   refine ⟨fun p => ?_, fun p hp => ?_⟩
   · simp only [rowO, put]; split
     · rw [hz]; omega
     · exact g1 p
   · simp only [rowO, put]; split
     · rw [hz]; omega
     · exact g2 p (by omega)
end Go.Proofs.YtdddfmdcjjbegaaGreat.Wide
namespace Go.Proofs.YtdddfmdcjjbegaaGreat.Wide
open Go.RowKit Go.Proofs BigFrame

/-- What stands in memory in the loops of Times: the result's block R, the factors at B and B + 1, the digits so far at B + 2. -/
structure Mem (w wr : World) (R B : Nat) (x y o : Nat → Nat) : Prop where
 bx : Blk wr B (row4 x) TW
 by_ : Blk wr (B + 1) (row4 y) TW
 bo : Blk wr (B + 1 + 1) (row4 o) TW
 br : Blk wr R (row4 fun _ => 0) TW
 low : w.heap.size ≤ R
 lt : R < B
 upd : Upd Nowhere w wr

theorem Mem.put {w wr : World} {R B : Nat} {x y o : Nat → Nat} (h : Mem w wr R B x y o) {p : Nat} (hp : p < 4) (v : Nat) : Mem w (wr.setCell ⟨B + 1 + 1, p, none⟩ (.int .u64 v)) R B x y (Wide.put o p v) := by
 have hl := h.low
 have ht := h.lt
 exact ⟨h.bx.setOther (a := ⟨B + 1 + 1, p, none⟩) (by simp; omega) _, h.by_.setOther (a := ⟨B + 1 + 1, p, none⟩) (by simp) _, by rw [← row4_set o hp v]; exact h.bo.set p _,
  h.br.setOther (a := ⟨B + 1 + 1, p, none⟩) (by simp; omega) _, h.low, h.lt, h.upd.setNew (a := ⟨B + 1 + 1, p, none⟩) (by simp; omega) _⟩
theorem Mem.drewN {w wr : World} {R B : Nat} {x y o : Nat → Nat} (h : Mem w wr R B x y o) (n : Nat) : Mem w (wr.drewN n) R B x y o := ⟨h.bx, h.by_, h.bo, h.br, h.low, h.lt, h.upd.drewN n⟩

theorem Mem.start {w w1 : World} {x y : Nat → Nat} (h : Upd Nowhere (w.alloc (.cells (row4 fun _ => 0) TW)) w1) :
 Mem w (((w1.alloc (.cells (row4 x) TW)).alloc (.cells (row4 y) TW)).alloc (.cells (row4 fun _ => 0) TW)) w.heap.size w1.heap.size x y (fun _ => 0) := by
 have hs : w.heap.size < w1.heap.size := by have := h.size; simp at this; omega
 exact ⟨((Blk.new _ _ _).alloc _).alloc _, (by simpa using Blk.new (w1.alloc (.cells (row4 x) TW)) (row4 y) TW : Blk _ (w1.heap.size + 1) _ _).alloc _, by simpa using Blk.new ((w1.alloc (.cells (row4 x) TW)).alloc (.cells (row4 y) TW)) (row4 fun _ => 0) TW,
  ((((Blk.new w _ _).kept h id).alloc _).alloc _).alloc _, Nat.le_refl _, hs, ((((Upd.refl Nowhere w).alloc _).trans h (fun _ _ h => h)).alloc _ |>.alloc _).alloc _⟩

set_option maxHeartbeats 1000000
theorem times_walk (a b : Nat) (ha : a ≤ 18446744073709551615) (hb : b ≤ 18446744073709551615) (w : World) :
 Calls Tryz.prog 42 #[.int .u64 a, .int .u64 b] w fun e w' => Gives w (four (rowO (dg a) (dg b) 2)) e w' := by
 have hX : Hid (∀ i, i < 4 → dg a i < 4294967296) := fun i _ => Nat.mod_lt _ (by omega)
 have hY : Hid (∀ i, i < 4 → dg b i < 4294967296) := fun i _ => Nat.mod_lt _ (by omega)
 have hAll : Hid (∀ w2, Upd Nowhere (w.alloc (.cells (row4 fun _ => 0) TW)) w2 → Mem w (((w2.alloc (.cells (row4 (dg a)) TW)).alloc (.cells (row4 (dg b)) TW)).alloc (.cells (row4 fun _ => 0) TW)) w.heap.size w2.heap.size (dg a) (dg b) (fun _ => 0)) := fun w2 h => Mem.start h
 generalize hx : dg a = x at *
 generalize hy : dg b = y at *
 have Hx := Lib.hid hx
 have Hy := Lib.hid hy
 clear hx hy
 go_enter Tryz.func42, Tryz.ntmps42
 go_wp2_with fail
 refine (of_any a ha _).mono ?_
 rw [Hx.out]
 unfold four
 rintro e w1 ⟨rfl, hu1⟩
 have U1 := Lib.hid hu1
 clear hu1
 go_wp2_with fail
 refine (of_any b hb _).mono ?_
 rw [Hy.out]
 unfold four
 rintro e w2 ⟨rfl, hu2⟩
 have hM := hAll.out w2 (U1.out.trans hu2 (fun _ _ h => h))
 have hs2 : w.heap.size < w2.heap.size := hM.lt
 have HM := Lib.hid hM
 clear hu2 hM hAll ha hb
 go_wp2_with fail
 go_loopw [8] (fun iv wr => ∃ i : Nat, i ≤ 2 ∧ iv = .int .i64 i ∧ Mem w wr w.heap.size w2.heap.size x y (rowO x y i)) (fun iv _ => 2 - (intOf iv).toNat)
 case atStart => exact ⟨0, by omega, rfl, HM.out⟩
 case round =>
  clear HM
  obtain ⟨i, hi, rfl, hM⟩ := hrel
  have HM := Lib.hid hM
  clear hM
  by_cases hi2 : i < 2
  · have hlt0 := Lib.hid (rowO_lt x y hX.out hY.out i (by omega))
    go_wp2
    go_loopw [9, 10] (fun c jv wr => ∃ j : Nat, j ≤ 2 ∧ jv = .int .i64 j ∧ c = .int .u64 (rowI x y i (rowO x y i) j).2 ∧ Mem w wr w.heap.size w2.heap.size x y (rowI x y i (rowO x y i) j).1) (fun _ jv _ => 2 - (intOf jv).toNat)
    case atStart => exact ⟨0, by omega, rfl, rfl, HM.out⟩
    case round =>
     clear HM
     obtain ⟨j, hj, rfl, rfl, hM⟩ := hrel
     have HM := Lib.hid hM
     clear hM
     obtain ⟨l1, l2, l3⟩ := rowI_lt x y hX.out hY.out hi2 (rowO x y i) hlt0.out.1 hlt0.out.2 j hj
     by_cases hj2 : j < 2
     · have hij : (i + j) < 4 := by omega
       have e1 : wr.cell? ⟨w2.heap.size, i, none⟩ = some (.int .u64 (x i)) := HM.out.bx.cellAt (row4_at x (by omega))
       have e2 : wr.cell? ⟨w2.heap.size + 1, j, none⟩ = some (.int .u64 (y j)) := HM.out.by_.cellAt (row4_at y (by omega))
       have e3 := HM.out.bo.cellAt (row4_at (rowI x y i (rowO x y i) j).1 hij)
       have z3 := HM.out.bo.free (i + j)
       have hm := mul_small (hX.out i (by omega)) (hY.out j (by omega))
       have l2' := l2 (i + j) (by omega)
       clear l1 l2
       have hn1 : Hid ((rowI x y i (rowO x y i) (j + 1)).2 = (x i * y j + (rowI x y i (rowO x y i) j).1 (i + j) + (rowI x y i (rowO x y i) j).2) / 4294967296) := rfl
       have hn2 : Hid ((rowI x y i (rowO x y i) (j + 1)).1 = put (rowI x y i (rowO x y i) j).1 (i + j) ((x i * y j + (rowI x y i (rowO x y i) j).1 (i + j) + (rowI x y i (rowO x y i) j).2) % 4294967296)) := rfl
       have hput := Lib.hid (fun q => (HM.out.drewN q).put hij ((x i * y j + (rowI x y i (rowO x y i) j).1 (i + j) + (rowI x y i (rowO x y i) j).2) % 4294967296))
       clear HM
       generalize (rowI x y i (rowO x y i) j).2 = c at *
       generalize (rowI x y i (rowO x y i) j).1 (i + j) = d at *
       have hmul : (x i : Int) * (y j : Int) = ((x i * y j : Nat) : Int) := (Int.natCast_mul _ _).symm
       generalize x i * y j = p at *
       generalize x i = xi at *
       generalize y j = yj at *
       have hI : (i : Int) + j < 4 := by omega
       have hI1 : (i : Int) < 4 := by omega
       have hI2 : (j : Int) < 4 := by omega
       go_wp2
       go_quiet (fail)
       go_wp2
       go_roundw
       case rel => exact ⟨j + 1, by omega, by go_num, by rw [hn1.out]; rfl, by rw [hn2.out]; exact hput.out nq⟩
       case measure => simp [intOf]; omega
     · obtain rfl : j = 2 := by omega
       have hij : (i + 2) < 4 := by omega
       have e3 := HM.out.bo.cellAt (row4_at (rowI x y i (rowO x y i) 2).1 hij)
       have z3 := HM.out.bo.free (i + 2)
       have l1' := l1 (i + 2)
       clear l1 l2
       have hn2 : Hid (rowO x y (i + 1) = put (rowI x y i (rowO x y i) 2).1 (i + 2) ((rowI x y i (rowO x y i) 2).1 (i + 2) + (rowI x y i (rowO x y i) 2).2)) := rfl
       have hput := Lib.hid (HM.out.put hij ((rowI x y i (rowO x y i) 2).1 (i + 2) + (rowI x y i (rowO x y i) 2).2))
       clear HM
       generalize (rowI x y i (rowO x y i) 2).2 = c at *
       generalize (rowI x y i (rowO x y i) 2).1 (i + 2) = d at *
       have hI : (i : Int) + 2 < 4 := by omega
       go_wp2
       go_roundw
       case rel => exact ⟨i + 1, by omega, by go_num, by rw [hn2.out]; exact hput.out⟩
       case measure => simp [intOf]; omega
  · obtain rfl : i = 2 := by omega
    have hD := HM.out.bo
    have hC := HM.out.br
    have hu := HM.out.upd
    have hlt : w.heap.size < w2.heap.size := HM.out.lt
    generalize hf : rowO x y 2 = f at *
    have Hf := Lib.hid hf
    clear hf
    have c0 := hD.cellAt (row4_at f (by omega : 0 < 4))
    have c1 := hD.cellAt (row4_at f (by omega : 1 < 4))
    have c2 := hD.cellAt (row4_at f (by omega : 2 < 4))
    have c3 := hD.cellAt (row4_at f (by omega : 3 < 4))
    have r0 : wr.cell? ⟨w.heap.size, 0, none⟩ = some (.int .u64 0) := hC.cellAt rfl
    have r1 : wr.cell? ⟨w.heap.size, 1, none⟩ = some (.int .u64 0) := hC.cellAt rfl
    have r2 : wr.cell? ⟨w.heap.size, 2, none⟩ = some (.int .u64 0) := hC.cellAt rfl
    have r3 : wr.cell? ⟨w.heap.size, 3, none⟩ = some (.int .u64 0) := hC.cellAt rfl
    have z0 := hC.free 0
    have z1 := hC.free 1
    have z2 := hC.free 2
    have z3 := hC.free 3
    have hne : w2.heap.size + 1 + 1 ≠ w.heap.size := by omega
    clear hD hC HM
    go_wp2
    exact bodyPost_ret (v := .agg #[.int .u64 (f 0), .int .u64 (f 1), .int .u64 (f 2), .int .u64 (f 3)]) (by simp [results, Tryz.results42, go_sem, r0, r1, r2, r3]) rfl
     ⟨by rw [Hf.out]; rfl, ((((hu.setNew (a := ⟨w.heap.size, 0, none⟩) (by simp) _).setNew (a := ⟨w.heap.size, 1, none⟩) (by simp) _).setNew (a := ⟨w.heap.size, 2, none⟩) (by simp) _).setNew (a := ⟨w.heap.size, 3, none⟩) (by simp) _)⟩

theorem dg_of (n d0 d1 d2 d3 : Nat) (h0 : d0 < 4294967296) (h1 : d1 < 4294967296) (h2 : d2 < 4294967296) (h3 : d3 < 4294967296)
 (hn : n = d0 + d1 * 4294967296 + d2 * 18446744073709551616 + d3 * 79228162514264337593543950336) : dg n 0 = d0 ∧ dg n 1 = d1 ∧ dg n 2 = d2 ∧ dg n 3 = d3 := by
 subst hn
 refine ⟨?_, ?_, ?_, ?_⟩ <;> simp only [dg, Nat.reducePow, Nat.pow_zero, Nat.pow_one, Nat.div_one] <;> omega

theorem rowO_digits (x0 x1 y0 y1 : Nat) (hx0 : x0 < 4294967296) (hx1 : x1 < 4294967296) (hy0 : y0 < 4294967296) (hy1 : y1 < 4294967296) (x y : Nat → Nat) (e0 : x 0 = x0) (e1 : x 1 = x1) (f0 : y 0 = y0) (f1 : y 1 = y1) :
 rowO x y 2 0 < 4294967296 ∧ rowO x y 2 1 < 4294967296 ∧ rowO x y 2 2 < 4294967296 ∧ rowO x y 2 3 < 4294967296 ∧
 (x0 + x1 * 4294967296) * (y0 + y1 * 4294967296) = rowO x y 2 0 + rowO x y 2 1 * 4294967296 + rowO x y 2 2 * 18446744073709551616 + rowO x y 2 3 * 79228162514264337593543950336 := by
 have m00 := mul_small hx0 hy0
 have m01 := mul_small hx0 hy1
 have m10 := mul_small hx1 hy0
 have m11 := mul_small hx1 hy1
 have ex : (x0 + x1 * 4294967296) * (y0 + y1 * 4294967296) = x0 * y0 + (x0 * y1 + x1 * y0) * 4294967296 + x1 * y1 * 18446744073709551616 := by
  rw [Nat.add_mul, Nat.mul_add, Nat.mul_add, Nat.add_mul]
  rw [show x1 * 4294967296 * y0 = x1 * y0 * 4294967296 by rw [Nat.mul_right_comm], show x1 * 4294967296 * (y1 * 4294967296) = x1 * y1 * 18446744073709551616 by
   rw [Nat.mul_mul_mul_comm], show x0 * (y1 * 4294967296) = x0 * y1 * 4294967296 by rw [Nat.mul_assoc]]
  omega
 rw [ex]
 simp only [rowO, rowI, put, e0, e1, f0, f1, Nat.reduceAdd, Nat.reduceEqDiff, if_true, if_false, Nat.zero_add, Nat.add_zero]
 generalize x0 * y0 = p00 at *
 generalize x0 * y1 = p01 at *
 generalize x1 * y0 = p10 at *
 generalize x1 * y1 = p11 at *
 simp
 omega

theorem two_digits (a : Nat) (ha : a ≤ 18446744073709551615) : a = dg a 0 + dg a 1 * 4294967296 := by
 simp only [dg, Nat.pow_zero, Nat.pow_one, Nat.div_one]; omega

theorem times_any (a b : Nat) (ha : a ≤ 18446744073709551615) (hb : b ≤ 18446744073709551615) (w : World) :
 Calls Tryz.prog 42 #[.int .u64 a, .int .u64 b] w fun e w' => Gives w (four (dg (a * b))) e w' := by
 have e : four (rowO (dg a) (dg b) 2) = four (dg (a * b)) := by
  have h := rowO_digits (dg a 0) (dg a 1) (dg b 0) (dg b 1) (Nat.mod_lt _ (by omega)) (Nat.mod_lt _ (by omega)) (Nat.mod_lt _ (by omega)) (Nat.mod_lt _ (by omega)) (dg a) (dg b) rfl rfl rfl rfl
  rw [← two_digits a ha, ← two_digits b hb] at h
  obtain ⟨g0, g1, g2, g3, g4⟩ := h
  obtain ⟨k0, k1, k2, k3⟩ := dg_of _ _ _ _ _ g0 g1 g2 g3 g4
  unfold four
  rw [k0, k1, k2, k3]
 rw [← e]
 exact times_walk a b ha hb w
end Go.Proofs.YtdddfmdcjjbegaaGreat.Wide
namespace Go.Proofs.YtdddfmdcjjbegaaGreat.Sat
open Go.RowKit Go.Proofs BigFrame
open Wide (four dg lowB Gives plusD carry)
open Bits (mul64 sat_add)

theorem dg_lt (n i : Nat) : dg n i < 4294967296 := Nat.mod_lt _ (by omega)
theorem lowB_dg (m n : Nat) (hm : m < 340282366920938463463374607431768211456) (hn : n < 340282366920938463463374607431768211456) : lowB (dg m) (dg n) 4 = decide (m < n) := by
 have e (a : Nat) (ha : a < 340282366920938463463374607431768211456) : dg a 0 + dg a 1 * 4294967296 + dg a 2 * 18446744073709551616 + dg a 3 * 79228162514264337593543950336 = a := by
  simp only [dg, Nat.reducePow, Nat.pow_zero, Nat.pow_one, Nat.div_one]; omega
 have em := e m hm
 have en := e n hn
 have l (a i : Nat) := dg_lt a i
 have m0 := l m 0; have m1 := l m 1; have m2 := l m 2; have m3 := l m 3
 have n0 := l n 0; have n1 := l n 1; have n2 := l n 2; have n3 := l n 3
 simp only [lowB]
 generalize dg m 0 = a0 at *; generalize dg m 1 = a1 at *; generalize dg m 2 = a2 at *; generalize dg m 3 = a3 at *
 generalize dg n 0 = b0 at *; generalize dg n 1 = b1 at *; generalize dg n 2 = b2 at *; generalize dg n 3 = b3 at *
 subst em en
 rw [Bool.eq_iff_iff]
 repeat' split
 all_goals simp only [decide_eq_true_eq, Bool.false_eq_true, false_iff]
 all_goals omega
theorem split32 (x : Nat) : ∃ q r, x / 4294967296 = q ∧ x % 4294967296 = r ∧ x = q * 4294967296 + r ∧ r < 4294967296 := ⟨_, _, rfl, rfl, by omega, by omega⟩
theorem dg_sum (a : Nat) (ha : a < 340282366920938463463374607431768211456) : dg a 0 + dg a 1 * 4294967296 + dg a 2 * 18446744073709551616 + dg a 3 * 79228162514264337593543950336 = a := by
 simp only [dg, Nat.reducePow, Nat.pow_zero, Nat.pow_one, Nat.div_one]; omega
theorem plusD_dg (m n : Nat) (h : m + n < 340282366920938463463374607431768211456) : four (plusD (dg m) (dg n)) = four (dg (m + n)) := by
 have em := dg_sum m (by omega)
 have en := dg_sum n (by omega)
 have h0 : plusD (dg m) (dg n) 0 = (dg m 0 + dg n 0 + 0) % 4294967296 := rfl
 have h1 : plusD (dg m) (dg n) 1 = (dg m 1 + dg n 1 + (dg m 0 + dg n 0 + 0) / 4294967296) % 4294967296 := rfl
 have h2 : plusD (dg m) (dg n) 2 = (dg m 2 + dg n 2 + (dg m 1 + dg n 1 + (dg m 0 + dg n 0 + 0) / 4294967296) / 4294967296) % 4294967296 := rfl
 have h3 : plusD (dg m) (dg n) 3 = (dg m 3 + dg n 3 + (dg m 2 + dg n 2 + (dg m 1 + dg n 1 + (dg m 0 + dg n 0 + 0) / 4294967296) / 4294967296) / 4294967296) % 4294967296 := rfl
 obtain ⟨q0, r0, d0, d0', k0, l0⟩ := split32 (dg m 0 + dg n 0 + 0)
 rw [d0'] at h0
 rw [d0] at h1 h2 h3
 obtain ⟨q1, r1, d1, d1', k1, l1⟩ := split32 (dg m 1 + dg n 1 + q0)
 rw [d1'] at h1
 rw [d1] at h2 h3
 obtain ⟨q2, r2, d2, d2', k2, l2⟩ := split32 (dg m 2 + dg n 2 + q1)
 rw [d2'] at h2
 rw [d2] at h3
 obtain ⟨q3, r3, d3, d3', k3, l3⟩ := split32 (dg m 3 + dg n 3 + q2)
 rw [d3'] at h3
 clear d0 d0' d1 d1' d2 d2' d3 d3'
 obtain ⟨g0, g1, g2, g3⟩ := Wide.dg_of (m + n) r0 r1 r2 r3 l0 l1 l2 l3 (by omega)
 unfold four
 rw [h0, h1, h2, h3, g0, g1, g2, g3]
theorem cap_dg (n : Nat) (hn : n < 340282366920938463463374607431768211456) : (if dg n 2 = 0 ∧ dg n 3 = 0 then dg n 1 * 4294967296 + dg n 0 else 18446744073709551615) = min n 18446744073709551615 := by
 simp only [dg, Nat.reducePow, Nat.pow_zero, Nat.pow_one, Nat.div_one]
 split <;> omega
theorem prod_lt {a b : Nat} (ha : a ≤ 18446744073709551615) (hb : b ≤ 18446744073709551615) : a * b ≤ 340282366920938463426481119284349108225 := Nat.mul_le_mul ha hb

set_option maxHeartbeats 1000000
theorem less_num (m n : Nat) (hm : m < 340282366920938463463374607431768211456) (hn : n < 340282366920938463463374607431768211456) (w : World) :
 Calls Tryz.prog 137 #[four (dg m), four (dg n)] w fun e w' => Gives w (.bool (decide (m < n))) e w' := by
 rw [← lowB_dg m n hm hn]; exact Wide.less_any _ _ w
theorem plus_num (m n : Nat) (h : m + n < 340282366920938463463374607431768211456) (w : World) :
 Calls Tryz.prog 44 #[four (dg m), four (dg n)] w fun e w' => Gives w (four (dg (m + n))) e w' := by
 rw [← plusD_dg m n h]; exact Wide.plus_any _ _ (fun i _ => dg_lt _ _) (fun i _ => dg_lt _ _) w
theorem cap_num (n : Nat) (hn : n < 340282366920938463463374607431768211456) (w : World) :
 Calls Tryz.prog 41 #[four (dg n)] w fun e w' => Gives w (.int .u64 (min n 18446744073709551615 : Nat)) e w' := by
 rw [← cap_dg n hn]; exact Wide.cap_any _ (fun i _ => dg_lt _ _) w
end Go.Proofs.YtdddfmdcjjbegaaGreat.Sat
namespace Go.Proofs.YtdddfmdcjjbegaaGreat.Bits
open Go.RowKit Go.Proofs
theorem get_len (i : Int) (h0 : 0 ≤ i) (h1 : i ≤ 255) {h : i.toNat < Lib.len8tab.size} : (((Lib.len8tab[i.toNat]'h).toNat : Nat) : Int) = (Lib.bitLen i.toNat : Nat) := by
 have e := Lib.len8_of i h0 h1
 rw [← e]
 simp only [Lib.len8, ByteArray.getElem?_lt' _ _ h, Option.getD_some]
theorem le_len (n : Nat) (h : n ≤ 255) : Lib.bitLen n ≤ 8 := Lib.bitLen_le8 ⟨n, by omega⟩
theorem wrap_len (k : Int) (K L : Nat) (hkK : k = K) (hk : K ≤ 64) (hL : L ≤ 8) : wrap64 (k + wrap64 (L : Int)) = ((K + L : Nat) : Int) := by
 subst hkK
 have e1 : wrap64 (L : Int) = L := IntWalk.wrap64_in _ ⟨by omega, by omega⟩
 rw [e1, IntWalk.wrap64_in _ ⟨by omega, by omega⟩]
 omega
theorem wrap_len0 (L : Nat) (hL : L ≤ 8) : wrap64 (wrap64 (L : Int)) = (L : Int) := by
 have e1 : wrap64 (L : Int) = L := IntWalk.wrap64_in _ ⟨by omega, by omega⟩
 rw [e1, IntWalk.wrap64_in _ ⟨by omega, by omega⟩]
set_option maxHeartbeats 4000000
set_option maxRecDepth 100000
theorem len64 (x : Int) (w : World) (h0 : 0 ≤ x) (h1 : x ≤ 18446744073709551615) :
 Calls Tryz.prog 140 #[.int .u64 x] w fun e w' => e = .returned (.int .i64 (Lib.bitLen x.toNat)) ∧ w = w' := by
 go_enter Tryz.func140, Tryz.ntmps140
 go_wp2
 all_goals first
  | (go_ret; refine ⟨congrArg Ending.returned (congrArg (Value.int IntKind.i64) ?_), rfl⟩)
  | (exfalso
     have hs := Lib.len8tab_size
     omega)
 all_goals first
  | (rw [get_len (x / 4294967296 / 65536 / 256) (by omega) (by omega)]
     have e : (x / 4294967296 / 65536 / 256).toNat = x.toNat / 72057594037927936 := by omega
     have s := Lib.bitLen_shift56 x.toNat (by omega) (by omega)
     have l := le_len (x.toNat / 72057594037927936) (by omega)
     rw [e, s]
     exact wrap_len _ _ _ rfl (by omega) (by omega))
  | (rw [get_len (x / 4294967296 / 65536) (by omega) (by omega)]
     have e : (x / 4294967296 / 65536).toNat = x.toNat / 281474976710656 := by omega
     have s := Lib.bitLen_shift48 x.toNat (by omega) (by omega)
     have l := le_len (x.toNat / 281474976710656) (by omega)
     rw [e, s]
     exact wrap_len _ _ _ rfl (by omega) (by omega))
  | (rw [get_len (x / 4294967296 / 256) (by omega) (by omega)]
     have e : (x / 4294967296 / 256).toNat = x.toNat / 1099511627776 := by omega
     have s := Lib.bitLen_shift40 x.toNat (by omega) (by omega)
     have l := le_len (x.toNat / 1099511627776) (by omega)
     rw [e, s]
     exact wrap_len _ _ _ rfl (by omega) (by omega))
  | (rw [get_len (x / 4294967296) (by omega) (by omega)]
     have e : (x / 4294967296).toNat = x.toNat / 4294967296 := by omega
     have s := Lib.bitLen_shift32 x.toNat (by omega) (by omega)
     have l := le_len (x.toNat / 4294967296) (by omega)
     rw [e, s]
     exact wrap_len _ _ _ rfl (by omega) (by omega))
  | (rw [get_len (x / 65536 / 256) (by omega) (by omega)]
     have e : (x / 65536 / 256).toNat = x.toNat / 16777216 := by omega
     have s := Lib.bitLen_shift24 x.toNat (by omega) (by omega)
     have l := le_len (x.toNat / 16777216) (by omega)
     rw [e, s]
     exact wrap_len _ _ _ rfl (by omega) (by omega))
  | (rw [get_len (x / 65536) (by omega) (by omega)]
     have e : (x / 65536).toNat = x.toNat / 65536 := by omega
     have s := Lib.bitLen_shift16 x.toNat (by omega) (by omega)
     have l := le_len (x.toNat / 65536) (by omega)
     rw [e, s]
     exact wrap_len _ _ _ rfl (by omega) (by omega))
  | (rw [get_len (x / 256) (by omega) (by omega)]
     have e : (x / 256).toNat = x.toNat / 256 := by omega
     have s := Lib.bitLen_shift8 x.toNat (by omega) (by omega)
     have l := le_len (x.toNat / 256) (by omega)
     rw [e, s]
     exact wrap_len _ _ _ rfl (by omega) (by omega))
  | (rw [get_len x (by omega) (by omega)]
     have l := le_len x.toNat (by omega)
     exact wrap_len0 _ (by omega))

/-- How many bits: between which powers of 2 a number lies. -/
theorem bitLen_spec : ∀ (n x : Nat), x ≤ n → x < 18446744073709551616 → x < 2 ^ Lib.bitLen x ∧ (x ≠ 0 → 1 ≤ Lib.bitLen x ∧ 2 ^ (Lib.bitLen x - 1) ≤ x) := by
 intro n
 induction n with
 | zero => intro x hx _; obtain rfl : x = 0 := by omega
           exact ⟨by decide, fun h => absurd rfl h⟩
 | succ n ih =>
   intro x hx hlt
   by_cases h0 : x = 0
   · subst h0; exact ⟨by decide, fun h => absurd rfl h⟩
   · have hh := Lib.bitLen_half x h0 (by simpa using hlt)
     obtain ⟨i1, i2⟩ := ih (x / 2) (by omega) (by omega)
     rw [hh]
     have e : 2 ^ (1 + Lib.bitLen (x / 2)) = 2 * 2 ^ Lib.bitLen (x / 2) := by rw [Nat.pow_add]
     refine ⟨by rw [e]; omega, fun _ => ⟨by omega, ?_⟩⟩
     rw [show 1 + Lib.bitLen (x / 2) - 1 = Lib.bitLen (x / 2) by omega]
     by_cases h2 : x / 2 = 0
     · rw [h2]; have : Lib.bitLen 0 = 0 := by decide
       rw [this]; simp; omega
     · obtain ⟨j1, j2⟩ := i2 h2
       have e2 : 2 ^ Lib.bitLen (x / 2) = 2 * 2 ^ (Lib.bitLen (x / 2) - 1) := by
        obtain ⟨m, hm⟩ : ∃ m, Lib.bitLen (x / 2) = m + 1 := ⟨Lib.bitLen (x / 2) - 1, by omega⟩
        rw [hm, Nat.add_sub_cancel, Nat.pow_succ, Nat.mul_comm]
       omega
theorem bitLen_le (x : Nat) (h : x < 18446744073709551616) : Lib.bitLen x ≤ 64 := by
 obtain ⟨_, h2⟩ := bitLen_spec x x (Nat.le_refl _) h
 by_cases h0 : x = 0
 · subst h0; decide
 · obtain ⟨h3, h4⟩ := h2 h0
   rcases Nat.lt_or_ge 64 (Lib.bitLen x) with hlt | hge
   · exfalso
     have h5 : 2 ^ 64 ≤ 2 ^ (Lib.bitLen x - 1) := Nat.pow_le_pow_right (by omega) (by omega)
     have h6 : (2 : Nat) ^ 64 = 18446744073709551616 := by decide
     omega
   · exact hge

theorem lz64 (x : Int) (w : World) (h0 : 0 ≤ x) (h1 : x ≤ 18446744073709551615) :
 Calls Tryz.prog 135 #[.int .u64 x] w fun e w' => e = .returned (.int .i64 (64 - Lib.bitLen x.toNat : Nat)) ∧ w = w' := by
 have hl := bitLen_le x.toNat (by omega)
 have h := Lib.hid (len64 x w h0 h1)
 generalize Lib.bitLen x.toNat = L at *
 clear h0 h1
 go_enter Tryz.func135, Tryz.ntmps135
 go_wp2_with fail
 refine h.out.mono ?_
 rintro e w' ⟨rfl, rfl⟩
 go_wp2_with fail
 go_ret
 exact ⟨ret_int (by omega), rfl⟩
end Go.Proofs.YtdddfmdcjjbegaaGreat.Bits
namespace Go.Proofs.YtdddfmdcjjbegaaGreat.Bits
open Go.RowKit Go.Proofs BigFrame
open Go.Proofs.YtdddfmdcjjbegaaGreat.Div
set_option maxHeartbeats 1000000
set_option maxRecDepth 100000

theorem div64_zero (lo y : Nat) (hy : 0 < y) (hl : lo ≤ 18446744073709551615) (hy2 : y ≤ 18446744073709551615) (w : World) :
 Calls Tryz.prog 123 #[.int .u64 0, .int .u64 lo, .int .u64 y] w fun e w' => e = .returned (.tuple #[.int .u64 (lo / y : Nat), .int .u64 (lo % y : Nat)]) ∧ ∃ k, w' = w.drewN k := by
 have d1 : ((y : Int) == 0) = false := by simp; omega
 have d2 : decide (y ≤ 0) = false := by simp; omega
 have d3 : ((y : Int) ≠ 0) := by omega
 go_enter Tryz.func123, Tryz.ntmps123
 go_wp2
 go_quiet (fail)
 go_wp2
 go_ret2
 have e : IntKind.u64.wrap ((lo : Int) / (y : Int)) = ((lo / y : Nat) : Int) := by
  rw [← Int.natCast_ediv]; exact wrapN _ (Nat.lt_of_le_of_lt (Nat.div_le_self _ _) (by omega))
 have e2 : ((lo : Int) % (y : Int)) = ((lo % y : Nat) : Int) := (Int.natCast_emod _ _).symm
 exact ⟨congrArg Ending.returned (by show Value.tuple #[.int .u64 (IntKind.u64.wrap ((lo : Int) / (y : Int))), .int .u64 ((lo : Int) % (y : Int))] = _; rw [e, e2]), _, rfl⟩

theorem div64_walk (hi lo y s Y a b L d1 d0 u Q R Q0 N1 N2 t1 t2 t3 t5 t6 t7 t8 t9 : Nat) (hh : 0 < hi) (hlt : hi < y) (_hl : lo ≤ 18446744073709551615) (hy2 : y ≤ 18446744073709551615) (hs : s ≤ 63) (hS : Hid (64 - Lib.bitLen y = s)) (w : World)
 (eY : IntKind.u64.wrap ((y : Int) * 2 ^ s) = (Y : Int)) (ea : (Y : Int) / 4294967296 = (a : Int)) (eb : bits .and .u64 (Y : Int) 4294967295 = (b : Int)) (ha : 2147483648 ≤ a)
 (eL : IntKind.u64.wrap ((lo : Int) * 2 ^ s) = (L : Int)) (e1 : (L : Int) / 4294967296 = (d1 : Int)) (e0 : bits .and .u64 (L : Int) 4294967295 = (d0 : Int))
 (eu : bits .or .u64 (IntKind.u64.wrap ((hi : Int) * 2 ^ s)) ((lo : Int) / 2 ^ (64 - s)) = (u : Int)) (hb : b < 4294967296) (hu : u < a * 4294967296 + b) (hd1 : d1 < 4294967296) (ha2 : a < 4294967296)
 (hQ : Hid (Q = (u * 4294967296 + d1) / (a * 4294967296 + b)))
 (e5 : IntKind.u64.wrap ((u : Int) * 4294967296) = (t1 : Int)) (e6 : IntKind.u64.wrap ((t1 : Int) + (d1 : Int)) = (t2 : Int)) (e7 : IntKind.u64.wrap ((Q : Int) * (Y : Int)) = (t3 : Int)) (e8 : IntKind.u64.wrap ((t2 : Int) - (t3 : Int)) = (R : Int))
 (hR : R < a * 4294967296 + b) (hd0 : d0 < 4294967296) (hQ0 : Hid (Q0 = (R * 4294967296 + d0) / (a * 4294967296 + b)))
 (e9 : IntKind.u64.wrap ((Q : Int) * 4294967296) = (t5 : Int)) (e10 : IntKind.u64.wrap ((t5 : Int) + (Q0 : Int)) = (N1 : Int)) (e11 : IntKind.u64.wrap ((R : Int) * 4294967296) = (t6 : Int)) (e12 : IntKind.u64.wrap ((t6 : Int) + (d0 : Int)) = (t7 : Int))
 (e13 : IntKind.u64.wrap ((Q0 : Int) * (Y : Int)) = (t8 : Int)) (e14 : IntKind.u64.wrap ((t7 : Int) - (t8 : Int)) = (t9 : Int)) (e15 : (t9 : Int) / 2 ^ s = (N2 : Int)) :
 Calls Tryz.prog 123 #[.int .u64 hi, .int .u64 lo, .int .u64 y] w fun e w' => e = .returned (.tuple #[.int .u64 N1, .int .u64 N2]) ∧ ∃ k, w' = w.drewN k := by
 have f1 : ((y : Int) == 0) = false := by simp; omega
 have f2 : decide (y ≤ hi) = false := by simp; omega
 have f3 : ((hi : Int) == 0) = false := by simp; omega
 have f4 : ((a : Int) == 0) = false := by simp; omega
 have f5 : (a : Int) ≠ 0 := by omega
 have hz := lz64 y w (by omega) (by omega)
 rw [Int.toNat_natCast, hS.out] at hz
 have Hz := Lib.hid hz
 clear hz
 have hs' : (s : Int) ≤ 63 := by omega
 have hg := guess_start ha hb hu hd1
 have hq0 : u / a ≤ 4294967297 := hg.le
 have hr0 : u - u / a * a < a := by
  have h1 := Nat.div_add_mod u a
  have h2 := Nat.mod_lt u (show 0 < a by omega)
  have h3 : a * (u / a) = u / a * a := Nat.mul_comm _ _
  omega
 have hle : u / a * a ≤ u := Nat.div_mul_le_self _ _
 have hu64 : u < 18446744073709551616 := by omega
 have eq1 : IntKind.u64.wrap ((u : Int) / (a : Int)) = ((u / a : Nat) : Int) := by rw [← Int.natCast_ediv]; exact wrapN _ (by omega)
 have eq2 : IntKind.u64.wrap (((u / a : Nat) : Int) * (a : Int)) = ((u / a * a : Nat) : Int) := by rw [mulN]; exact wrapN _ (by omega)
 have eq3 : IntKind.u64.wrap ((u : Int) - ((u / a * a : Nat) : Int)) = ((u - u / a * a : Nat) : Int) := by rw [← Int.natCast_sub hle]; exact wrapN _ (by omega)
 have Hg := Lib.hid hg
 clear hg hle
 generalize u - u / a * a = r0 at *
 generalize u / a * a = p0 at *
 generalize u / a = q0 at *
 have hg2 := guess_start ha hb hR hd0
 have hk0 : R / a ≤ 4294967297 := hg2.le
 have hs0 : R - R / a * a < a := by
  have h1 := Nat.div_add_mod R a
  have h2 := Nat.mod_lt R (show 0 < a by omega)
  have h3 : a * (R / a) = R / a * a := Nat.mul_comm _ _
  omega
 have hle2 : R / a * a ≤ R := Nat.div_mul_le_self _ _
 have hR64 : R < 18446744073709551616 := by omega
 have er1 : IntKind.u64.wrap ((R : Int) / (a : Int)) = ((R / a : Nat) : Int) := by rw [← Int.natCast_ediv]; exact wrapN _ (by omega)
 have er2 : IntKind.u64.wrap (((R / a : Nat) : Int) * (a : Int)) = ((R / a * a : Nat) : Int) := by rw [mulN]; exact wrapN _ (by omega)
 have er3 : IntKind.u64.wrap ((R : Int) - ((R / a * a : Nat) : Int)) = ((R - R / a * a : Nat) : Int) := by rw [← Int.natCast_sub hle2]; exact wrapN _ (by omega)
 have Hg2 := Lib.hid hg2
 clear hg2 hle2
 generalize R - R / a * a = s0 at *
 generalize R / a * a = p1 at *
 generalize R / a = k0 at *
 go_enter Tryz.func123, Tryz.ntmps123
 go_upto_block 0 with (go_at_call 135; refine Hz.out.mono ?_; rintro e w' ⟨rfl, rfl⟩)
 go_cut [15] from 67 to 85 (fun q wr => q = .int .u64 Q ∧ wr = w)
 case first =>
  go_wp2
  clear eY ea eb eL e1 e0 eu f1 f2 f3 eq1 eq2 eq3 Hz e5 e6 e7 e8 e9 e10 e11 e12 e13 e14 e15 er1 er2 er3 hR hd0 hk0 hs0 Hg2 hR64
  go_loop [15, 16] (fun qv rv => ∃ q r : Nat, qv = .int .u64 q ∧ rv = .int .u64 r ∧ Guess u d1 a b q r ∧ r < 4294967296) (fun qv _ => (intOf qv).toNat)
  case atStart => exact ⟨q0, r0, rfl, rfl, Hg.out, by omega⟩
  case round =>
   clear Hg hq0 hr0
   obtain ⟨q, r, rfl, rfl, hg, hr⟩ := hrel
   have hq := hg.le
   have HG := Lib.hid hg
   clear hg
   by_cases hA : 4294967296 ≤ q
   · have dA : decide (4294967296 ≤ q) = true := by simpa using hA
     have dA' : decide ((4294967296 : Int) ≤ (q : Int)) = true := by simp; omega
     obtain ⟨hn, h1⟩ := guess_next HG.out hd1 hu (.inl hA)
     have HN := Lib.hid hn
     clear hn
     by_cases hB : 4294967296 ≤ r + a
     · have dB : decide (4294967296 ≤ (r : Int) + a) = true := by simp; omega
       have hQ1 := guess_over HN.out ha hb (by omega) hB
       have HQ1 := Lib.hid (hQ1.trans hQ.out.symm)
       clear hQ1 hA hB hu ha hb hd1 hlt hy2 hs hs' hu64 hh
       go_wp2
       go_meet
       exact ⟨by rw [← HQ1.out]; exact congrArg (Value.int .u64) (by omega), rfl⟩
     · have dB : decide (4294967296 ≤ (r : Int) + a) = false := by simp; omega
       have hra : r + a ≤ 4294967295 := by omega
       clear hA hB hu ha hb hd1 hlt hy2 hs hs' hu64 hh
       go_wp2
       go_round
       case rel => exact ⟨q - 1, r + a, congrArg (Value.int .u64) (by omega), congrArg (Value.int .u64) (by omega), HN.out, by omega⟩
       case measure => simp [intOf]; omega
   · have dA : decide (4294967296 ≤ q) = false := by simpa using hA
     have dA' : decide ((4294967296 : Int) ≤ (q : Int)) = false := by simp; omega
     have hm := Nat.mul_le_mul (show q ≤ 4294967295 by omega) (show b ≤ 4294967295 by omega)
     have eqb : IntKind.u64.wrap ((q : Int) * (b : Int)) = ((q * b : Nat) : Int) := by rw [mulN]; exact wrapN _ (by omega)
     by_cases hC : r * 4294967296 + d1 < q * b
     · obtain ⟨hn, h1⟩ := guess_next HG.out hd1 hu (.inr hC)
       have HN := Lib.hid hn
       clear hn
       have hC' : Hid (r * 4294967296 + d1 < q * b) := hC
       clear hC
       generalize q * b = m at *
       have dC : decide (4294967296 * (r : Int) + (d1 : Int) < (m : Int)) = true := by have := hC'.out; simp; omega
       by_cases hB : 4294967296 ≤ r + a
       · have dB : decide (4294967296 ≤ (r : Int) + a) = true := by simp; omega
         have hQ1 := guess_over HN.out ha hb (by omega) hB
         have HQ1 := Lib.hid (hQ1.trans hQ.out.symm)
         clear hQ1 hA hB hu ha hb hlt hy2 hs hs' hu64 hh
         go_wp2
         go_meet
         exact ⟨by rw [← HQ1.out]; exact congrArg (Value.int .u64) (by omega), rfl⟩
       · have dB : decide (4294967296 ≤ (r : Int) + a) = false := by simp; omega
         have hra : r + a ≤ 4294967295 := by omega
         clear hA hB hu ha hb hlt hy2 hs hs' hu64 hh
         go_wp2
         go_round
         case rel => exact ⟨q - 1, r + a, congrArg (Value.int .u64) (by omega), congrArg (Value.int .u64) (by omega), HN.out, by omega⟩
         case measure => simp [intOf]; omega
     · have hQ1 := guess_done HG.out ha (by omega)
       have HQ1 := Lib.hid (hQ1.trans hQ.out.symm)
       have hC' : Hid (¬ r * 4294967296 + d1 < q * b) := hC
       clear hC hQ1
       generalize q * b = m at *
       have dC : decide (4294967296 * (r : Int) + (d1 : Int) < (m : Int)) = false := by have := hC'.out; simp; omega
       clear hA hu ha hb hlt hy2 hs hs' hu64 hh
       go_wp2
       go_meet
       exact ⟨by rw [← HQ1.out], rfl⟩
 case rest =>
  obtain ⟨rfl, hwx⟩ := hcut
  replace hwx := hwx.symm
  subst hwx
  clear eY ea eb eL e1 e0 eu f1 f2 f3 eq1 eq2 eq3 Hz hu hd1 Hg hq0 hr0 hu64 hQ hlt hy2 hS
  go_upto_block 2 with fail
  go_cut [18] from 102 to 120 (fun q wx => q = .int .u64 Q0 ∧ wx = w)
  case first =>
   go_wp2
   clear e5 e6 e7 e8 e9 e10 e11 e12 e13 e14 e15 er1 er2 er3
   go_loop [18, 16] (fun qv rv => ∃ q r : Nat, qv = .int .u64 q ∧ rv = .int .u64 r ∧ Guess R d0 a b q r ∧ r < 4294967296) (fun qv _ => (intOf qv).toNat)
   case atStart => exact ⟨k0, s0, rfl, rfl, Hg2.out, by omega⟩
   case round =>
    clear Hg2 hk0 hs0
    obtain ⟨q, r, rfl, rfl, hg, hr⟩ := hrel
    have hq := hg.le
    have HG := Lib.hid hg
    clear hg
    by_cases hA : 4294967296 ≤ q
    · have dA : decide (4294967296 ≤ q) = true := by simpa using hA
      have dA' : decide ((4294967296 : Int) ≤ (q : Int)) = true := by simp; omega
      obtain ⟨hn, h1⟩ := guess_next HG.out hd0 hR (.inl hA)
      have HN := Lib.hid hn
      clear hn
      by_cases hB : 4294967296 ≤ r + a
      · have dB : decide (4294967296 ≤ (r : Int) + a) = true := by simp; omega
        have hQ1 := guess_over HN.out ha hb (by omega) hB
        have HQ1 := Lib.hid (hQ1.trans hQ0.out.symm)
        clear hQ1 hA hB hR ha hb hd0 hs hs' hR64 hh
        go_wp2
        go_meet
        exact ⟨by rw [← HQ1.out]; exact congrArg (Value.int .u64) (by omega), rfl⟩
      · have dB : decide (4294967296 ≤ (r : Int) + a) = false := by simp; omega
        have hra : r + a ≤ 4294967295 := by omega
        clear hA hB hR ha hb hd0 hs hs' hR64 hh
        go_wp2
        go_round
        case rel => exact ⟨q - 1, r + a, congrArg (Value.int .u64) (by omega), congrArg (Value.int .u64) (by omega), HN.out, by omega⟩
        case measure => simp [intOf]; omega
    · have dA : decide (4294967296 ≤ q) = false := by simpa using hA
      have dA' : decide ((4294967296 : Int) ≤ (q : Int)) = false := by simp; omega
      have hm := Nat.mul_le_mul (show q ≤ 4294967295 by omega) (show b ≤ 4294967295 by omega)
      have eqb : IntKind.u64.wrap ((q : Int) * (b : Int)) = ((q * b : Nat) : Int) := by rw [mulN]; exact wrapN _ (by omega)
      by_cases hC : r * 4294967296 + d0 < q * b
      · obtain ⟨hn, h1⟩ := guess_next HG.out hd0 hR (.inr hC)
        have HN := Lib.hid hn
        clear hn
        have hC' : Hid (r * 4294967296 + d0 < q * b) := hC
        clear hC
        generalize q * b = m at *
        have dC : decide (4294967296 * (r : Int) + (d0 : Int) < (m : Int)) = true := by have := hC'.out; simp; omega
        by_cases hB : 4294967296 ≤ r + a
        · have dB : decide (4294967296 ≤ (r : Int) + a) = true := by simp; omega
          have hQ1 := guess_over HN.out ha hb (by omega) hB
          have HQ1 := Lib.hid (hQ1.trans hQ0.out.symm)
          clear hQ1 hA hB hR ha hb hs hs' hR64 hh
          go_wp2
          go_meet
          exact ⟨by rw [← HQ1.out]; exact congrArg (Value.int .u64) (by omega), rfl⟩
        · have dB : decide (4294967296 ≤ (r : Int) + a) = false := by simp; omega
          have hra : r + a ≤ 4294967295 := by omega
          clear hA hB hR ha hb hs hs' hR64 hh
          go_wp2
          go_round
          case rel => exact ⟨q - 1, r + a, congrArg (Value.int .u64) (by omega), congrArg (Value.int .u64) (by omega), HN.out, by omega⟩
          case measure => simp [intOf]; omega
      · have hQ1 := guess_done HG.out ha (by omega)
        have HQ1 := Lib.hid (hQ1.trans hQ0.out.symm)
        have hC' : Hid (¬ r * 4294967296 + d0 < q * b) := hC
        clear hC hQ1
        generalize q * b = m at *
        have dC : decide (4294967296 * (r : Int) + (d0 : Int) < (m : Int)) = false := by have := hC'.out; simp; omega
        clear hA hR ha hb hs hs' hR64 hh
        go_wp2
        go_meet
        exact ⟨by rw [← HQ1.out], rfl⟩

  case rest =>
   obtain ⟨rfl, hwx⟩ := hcut
   replace hwx := hwx.symm
   subst hwx
   clear er1 er2 er3 e5 e6 e7 e8
   go_wp2
   go_ret2
   exact ⟨rfl, 0, rfl⟩
end Go.Proofs.YtdddfmdcjjbegaaGreat.Bits
namespace Go.Proofs.YtdddfmdcjjbegaaGreat.Bits
open Go.RowKit Go.Proofs
open Go.Proofs.YtdddfmdcjjbegaaGreat.Div

theorem bits_or_high (x z s : Nat) (hx : x * 2 ^ s < 18446744073709551616) (hz : z < 2 ^ s) (hz2 : z < 18446744073709551616) :
 bits .or .u64 ((x * 2 ^ s : Nat) : Int) (z : Int) = ((x * 2 ^ s + z : Nat) : Int) := by
 have e : x * 2 ^ s ||| z = x * 2 ^ s + z := by
  rw [Nat.mul_comm x, Nat.two_pow_add_eq_or_of_lt hz]
 have hlt : x * 2 ^ s + z < 18446744073709551616 := by
  rw [← e]; exact Nat.or_lt_two_pow (n := 64) hx hz2
 have h3 : (BitVec.ofInt 64 ((x * 2 ^ s : Nat) : Int) ||| BitVec.ofInt 64 (z : Int)).toNat = x * 2 ^ s + z := by
  rw [BitVec.toNat_or, BitVec.ofInt_natCast, BitVec.toNat_ofNat, BitVec.ofInt_natCast, BitVec.toNat_ofNat, Nat.mod_eq_of_lt hx, Nat.mod_eq_of_lt hz2, e]
 have h4 : bits .or .u64 ((x * 2 ^ s : Nat) : Int) (z : Int) = IntKind.u64.wrap (((BitVec.ofInt 64 ((x * 2 ^ s : Nat) : Int) ||| BitVec.ofInt 64 (z : Int)).toNat : Nat) : Int) := rfl
 rw [h4, h3]
 exact wrapN _ hlt

theorem pow_split {s : Nat} (hs : s ≤ 64) : 2 ^ (64 - s) * 2 ^ s = 18446744073709551616 := by
 rw [← Nat.pow_add, Nat.sub_add_cancel hs]

theorem divs (n : Nat) {Y : Nat} (h : 0 < Y) : ∃ q r, q = n / Y ∧ n = q * Y + r ∧ r < Y := ⟨_, _, rfl, by rw [Nat.mul_comm]; exact (Nat.div_add_mod n Y).symm, Nat.mod_lt _ h⟩

/-- The numbers of the code. -/
theorem parts (hi lo y s : Nat) (hlt : hi < y) (hl : lo < 18446744073709551616) (hs : s ≤ 64) :
 Parts (hi * 18446744073709551616 + lo) y s (y * 2 ^ s) (hi * 2 ^ s + lo / 2 ^ (64 - s)) (lo * 2 ^ s % 18446744073709551616) := by
 have hp : 0 < 2 ^ s := Nat.two_pow_pos s
 have h64 := pow_split hs
 have hdiv : lo * 2 ^ s / 18446744073709551616 = lo / 2 ^ (64 - s) := by rw [← h64, Nat.mul_div_mul_right _ _ hp]
 have hlo := Nat.div_add_mod (lo * 2 ^ s) 18446744073709551616
 rw [hdiv] at hlo
 have eN : (hi * 18446744073709551616 + lo) * 2 ^ s = (hi * 2 ^ s + lo / 2 ^ (64 - s)) * 18446744073709551616 + lo * 2 ^ s % 18446744073709551616 := by
  rw [Nat.add_mul, Nat.add_mul, Nat.mul_right_comm hi, Nat.add_assoc, Nat.mul_comm (lo / _), hlo]
 refine ⟨rfl, eN, Nat.mod_lt _ (by omega), ?_, by omega⟩
 have h1 : (hi * 18446744073709551616 + lo) * 2 ^ s < y * 2 ^ s * 18446744073709551616 := by
  rw [Nat.mul_right_comm]
  refine Nat.mul_lt_mul_of_pos_right ?_ hp
  have : (hi + 1) * 18446744073709551616 ≤ y * 18446744073709551616 := Nat.mul_le_mul_right _ hlt
  rw [Nat.add_mul, Nat.one_mul] at this
  omega
 rw [eN] at h1
 exact Nat.lt_of_mul_lt_mul_right (Nat.lt_of_le_of_lt (Nat.le_add_right _ _) h1)

theorem andN (n : Nat) (h : n < 18446744073709551616) : bits .and .u64 (n : Int) 4294967295 = ((n % 4294967296 : Nat) : Int) := maskN n h
theorem wrapI (x : Int) (n : Nat) (h : x % 18446744073709551616 = (n : Int)) : IntKind.u64.wrap x = (n : Int) := by rw [IntKind.wrap_u64]; exact h
theorem wrapNN (n : Nat) : IntKind.u64.wrap (n : Int) = ((n % 18446744073709551616 : Nat) : Int) := wrapM n

theorem litN (n : Nat) : IntKind.u64.wrap ((n : Int) * 4294967296) = ((n * 4294967296 % 18446744073709551616 : Nat) : Int) := by
 rw [show (n : Int) * 4294967296 = ((n * 4294967296 : Nat) : Int) from (Int.natCast_mul n 4294967296).symm]; exact wrapNN _

set_option maxHeartbeats 1000000
theorem div64 (hi lo y : Nat) (hlt : hi < y) (hl : lo ≤ 18446744073709551615) (hy : y ≤ 18446744073709551615) (w : World) :
 Calls Tryz.prog 123 #[.int .u64 hi, .int .u64 lo, .int .u64 y] w fun e w' => e = .returned (.tuple #[.int .u64 ((hi * 18446744073709551616 + lo) / y : Nat), .int .u64 ((hi * 18446744073709551616 + lo) % y : Nat)]) ∧ ∃ k, w' = w.drewN k := by
 rcases Nat.eq_zero_or_pos hi with rfl | hh
 · have h := div64_zero lo y hlt hl hy w
   rw [Nat.zero_mul, Nat.zero_add]
   exact h
 obtain ⟨b1, b2⟩ := bitLen_spec y y (Nat.le_refl _) (by omega)
 obtain ⟨b3, b4⟩ := b2 (by omega)
 have b5 := bitLen_le y (by omega)
 obtain ⟨s, hs⟩ : ∃ s, 64 - Lib.bitLen y = s := ⟨_, rfl⟩
 have hs63 : s ≤ 63 := by omega
 have hp : 0 < 2 ^ s := Nat.two_pow_pos s
 have P := parts hi lo y s hlt (by omega) (by omega)
 have hY1 : y * 2 ^ s < 18446744073709551616 := by
  have h1 : y * 2 ^ s < 2 ^ Lib.bitLen y * 2 ^ s := Nat.mul_lt_mul_of_pos_right b1 hp
  rw [← Nat.pow_add, show Lib.bitLen y + s = 64 by omega] at h1
  exact h1
 have hY2 : 9223372036854775808 ≤ y * 2 ^ s := by
  have h1 : 2 ^ (Lib.bitLen y - 1) * 2 ^ s ≤ y * 2 ^ s := Nat.mul_le_mul_right _ b4
  rw [← Nat.pow_add, show Lib.bitLen y - 1 + s = 63 by omega] at h1
  exact h1
 have hu2 : hi * 2 ^ s < 18446744073709551616 := Nat.lt_of_le_of_lt (Nat.le_trans (Nat.le_add_right _ _) (Nat.le_of_lt P.low)) hY1
 have hlow : lo / 2 ^ (64 - s) < 2 ^ s := by
  rw [Nat.div_lt_iff_lt_mul (Nat.two_pow_pos _), Nat.mul_comm, pow_split (by omega)]; omega
 have eor := bits_or_high hi (lo / 2 ^ (64 - s)) s hu2 hlow (Nat.lt_of_le_of_lt (Nat.div_le_self _ _) (by omega))
 have c1 : ((hi * 2 ^ s : Nat) : Int) = (hi : Int) * 2 ^ s := by push_cast; rfl
 have c2 : ((lo / 2 ^ (64 - s) : Nat) : Int) = (lo : Int) / 2 ^ (64 - s) := by push_cast; rfl
 have c3 : ((lo * 2 ^ s : Nat) : Int) = (lo : Int) * 2 ^ s := by push_cast; rfl
 have c4 : ((y * 2 ^ s : Nat) : Int) = (y : Int) * 2 ^ s := by push_cast; rfl
 have eL : IntKind.u64.wrap ((lo : Int) * 2 ^ s) = ((lo * 2 ^ s % 18446744073709551616 : Nat) : Int) := by rw [← c3]; exact wrapNN _
 have eY : IntKind.u64.wrap ((y : Int) * 2 ^ s) = ((y * 2 ^ s : Nat) : Int) := by rw [← c4]; exact wrapN _ hY1
 have eu : bits .or .u64 (IntKind.u64.wrap ((hi : Int) * 2 ^ s)) ((lo : Int) / 2 ^ (64 - s)) = ((hi * 2 ^ s + lo / 2 ^ (64 - s) : Nat) : Int) := by
  rw [← c1, ← c2, wrapN _ hu2]; exact eor
 clear eor c1 c2 c3 c4 b1 b2 b3 b4 hlow hu2
 generalize hi * 2 ^ s + lo / 2 ^ (64 - s) = u at *
 generalize lo * 2 ^ s % 18446744073709551616 = L at *
 generalize y * 2 ^ s = Y at *
 have hLt := P.lt
 have hlow := P.low
 have eYab : Y = Y / 4294967296 * 4294967296 + Y % 4294967296 := by omega
 have eLd : L = L / 4294967296 * 4294967296 + L % 4294967296 := by omega
 have hYp : 0 < Y := by omega
 obtain ⟨Q, R, hQ, q1, m1⟩ := divs (u * 4294967296 + L / 4294967296) hYp
 obtain ⟨Q0, R0, hQ0, q2, m2⟩ := divs (R * 4294967296 + L % 4294967296) hYp
 obtain ⟨g1, g2⟩ := quot P eLd q1 q2 m2
 have hN1 : (hi * 18446744073709551616 + lo) / y < 18446744073709551616 := by
  rw [Nat.div_lt_iff_lt_mul (by omega)]
  have h1 : (hi + 1) * 18446744073709551616 ≤ y * 18446744073709551616 := Nat.mul_le_mul_right _ hlt
  rw [Nat.add_mul, Nat.one_mul, Nat.mul_comm y] at h1
  omega
 have w1 := wraps (u * 4294967296) (Q * Y) (L / 4294967296) R q1 (Nat.lt_trans m1 hY1)
 have w2 := wraps (R * 4294967296) (Q0 * Y) (L % 4294967296) R0 q2 (Nat.lt_trans m2 hY1)
 rw [g1, g2]
 rw [g1] at hN1
 refine div64_walk hi lo y s Y (Y / 4294967296) (Y % 4294967296) L (L / 4294967296) (L % 4294967296) u Q R Q0 (Q * 4294967296 + Q0) (R0 / 2 ^ s) (u * 4294967296 % 18446744073709551616) ((u * 4294967296 % 18446744073709551616 + L / 4294967296) % 18446744073709551616) (Q * Y % 18446744073709551616)
  (Q * 4294967296 % 18446744073709551616) (R * 4294967296 % 18446744073709551616) ((R * 4294967296 % 18446744073709551616 + L % 4294967296) % 18446744073709551616) (Q0 * Y % 18446744073709551616) R0
  hh hlt hl hy hs63 hs w eY rfl (andN Y hY1) (by omega) eL rfl (andN L hLt) eu (Nat.mod_lt _ (by omega)) (by omega) (by omega) (by omega) ?_ ?_ ?_ ?_ ?_ (by omega) (Nat.mod_lt _ (by omega)) ?_ ?_ ?_ ?_ ?_ ?_ ?_ ?_
 · show Q = _
   rw [← eYab]; exact hQ
 · exact litN u
 · rw [addN]; exact wrapNN _
 · rw [mulN]; exact wrapNN _
 · exact wrapI _ _ w1
 · show Q0 = _
   rw [← eYab]; exact hQ0
 · exact litN Q
 · rw [addN, Nat.mod_eq_of_lt (Nat.lt_of_le_of_lt (Nat.le_add_right _ _) hN1)]; exact wrapN _ hN1
 · exact litN R
 · rw [addN]; exact wrapNN _
 · rw [mulN]; exact wrapNN _
 · exact wrapI _ _ w2
 · push_cast; rfl
end Go.Proofs.YtdddfmdcjjbegaaGreat.Bits
namespace Go.Proofs.YtdddfmdcjjbegaaGreat.Sat
open Go.RowKit Go.Proofs BigFrame
open Bits (mul64 sat_add div64 mulN addN wrapN wrapM)

theorem sat_sub (a b : Nat) (ha : a ≤ 18446744073709551615) (hb : b ≤ 18446744073709551615) (w : World) :
 Calls Tryz.prog 124 #[.int .u64 a, .int .u64 b] w fun e w' => e = .returned (.int .u64 (a - b : Nat)) ∧ w = w' := by
 rcases Nat.lt_or_ge a b with hlt | hge
 · have e1 : a - b = 0 := by omega
   rw [e1]
   go_enter Tryz.func124, Tryz.ntmps124
   go_wp2
   go_ret
   exact ⟨rfl, rfl⟩
 · have e1 : IntKind.u64.wrap ((a : Int) - (b : Int)) = ((a - b : Nat) : Int) := by rw [IntKind.wrap_u64]; omega
   have e2 : ((a - b : Nat) : Int) = (a : Int) - (b : Int) := by omega
   go_enter Tryz.func124, Tryz.ntmps124
   go_wp2
   go_ret
   exact ⟨by simp [e2], rfl⟩

theorem sat_mul (a b : Nat) (ha : a ≤ 18446744073709551615) (hb : b ≤ 18446744073709551615) (w : World) :
 Calls Tryz.prog 103 #[.int .u64 a, .int .u64 b] w fun e w' => e = .returned (.int .u64 (min (a * b) 18446744073709551615 : Nat)) ∧ w = w' := by
 have h1 := fun u => Lib.hid (mul64 a b (by omega) (by omega) u)
 generalize a * b = m at *
 rcases Nat.eq_zero_or_pos (m / 18446744073709551616) with h0 | hp
 · have e1 : m % 18446744073709551616 = m := by omega
   have e2 : min m 18446744073709551615 = m := by omega
   rw [h0, e1] at h1
   rw [e2]
   clear h0 e1 e2 ha hb
   go_enter Tryz.func103, Tryz.ntmps103
   go_wp2_with fail
   refine (h1 _).out.mono ?_
   rintro e w' ⟨rfl, rfl⟩
   go_wp2_with fail
   go_ret
   exact ⟨rfl, rfl⟩
 · have e2 : min m 18446744073709551615 = 18446744073709551615 := by omega
   rw [e2]
   generalize m / 18446744073709551616 = q at *
   generalize m % 18446744073709551616 = r at *
   clear e2 ha hb
   go_enter Tryz.func103, Tryz.ntmps103
   go_wp2_with fail
   refine (h1 _).out.mono ?_
   rintro e w' ⟨rfl, rfl⟩
   go_wp2_with fail
   go_ret
   exact ⟨rfl, rfl⟩

/-- A product through a third. -/
def through (a b c : Nat) : Nat := if c = 0 then 18446744073709551615 else min (a * b / c) 18446744073709551615

theorem sat_muldiv (a b c : Nat) (ha : a ≤ 18446744073709551615) (hb : b ≤ 18446744073709551615) (hc : c ≤ 18446744073709551615) (w : World) :
 Calls Tryz.prog 102 #[.int .u64 a, .int .u64 b, .int .u64 c] w fun e w' => e = .returned (.int .u64 (through a b c : Nat)) ∧ ∃ k, w' = w.drewN k := by
 have h1 := fun u => Lib.hid (mul64 a b (by omega) (by omega) u)
 simp only [through]
 generalize a * b = m at *
 rcases Nat.lt_or_ge (m / 18446744073709551616) c with hlt | hge
 · have h2 := fun u => Lib.hid (div64 (m / 18446744073709551616) (m % 18446744073709551616) c hlt (by omega) hc u)
   have e1 : m / 18446744073709551616 * 18446744073709551616 + m % 18446744073709551616 = m := by omega
   have e3 : m / c ≤ 18446744073709551615 := by
    have : m / c < 18446744073709551616 := by
     rw [Nat.div_lt_iff_lt_mul (by omega)]
     have h4 : (m / 18446744073709551616 + 1) * 18446744073709551616 ≤ c * 18446744073709551616 := Nat.mul_le_mul_right _ hlt
     rw [Nat.mul_comm 18446744073709551616 c]
     omega
    omega
   have e2 : (if c = 0 then 18446744073709551615 else min (m / c) 18446744073709551615) = m / c := by
    rw [if_neg (by omega)]; omega
   rw [e1] at h2
   rw [e2]
   generalize m / 18446744073709551616 = q at *
   generalize m % 18446744073709551616 = r at *
   generalize m / c = x at *
   generalize m % c = y at *
   clear e1 e2 e3 ha hb
   go_enter Tryz.func102, Tryz.ntmps102
   go_wp2_with fail
   refine (h1 _).out.mono ?_
   rintro e w' ⟨rfl, rfl⟩
   go_wp2_with fail
   refine (h2 _).out.mono ?_
   rintro e w' ⟨rfl, k, rfl⟩
   go_wp2_with fail
   go_ret
   exact ⟨rfl, k, rfl⟩
 · have e2 : (if c = 0 then 18446744073709551615 else min (m / c) 18446744073709551615) = 18446744073709551615 := by
    split
    · rfl
    · have : 18446744073709551615 ≤ m / c := by
       rw [Nat.le_div_iff_mul_le (by omega)]
       have h4 : c * 18446744073709551616 ≤ m / 18446744073709551616 * 18446744073709551616 := Nat.mul_le_mul_right _ hge
       omega
      omega
   rw [e2]
   generalize m / 18446744073709551616 = q at *
   generalize m % 18446744073709551616 = r at *
   clear e2 ha hb
   go_enter Tryz.func102, Tryz.ntmps102
   go_wp2_with fail
   refine (h1 _).out.mono ?_
   rintro e w' ⟨rfl, rfl⟩
   go_wp2_with fail
   go_ret
   exact ⟨rfl, 0, rfl⟩

end Go.Proofs.YtdddfmdcjjbegaaGreat.Sat
namespace Go.Proofs.YtdddfmdcjjbegaaGreat.Egs
open Go.RowKit Go.Proofs BigFrame RingW First
set_option maxHeartbeats 1000000
set_option maxRecDepth 1000000
abbrev TP : TypeId := 43
abbrev VP (f i l : Nat) : Value := .agg #[.int .u32 (f : Nat), .int .u32 (i : Nat), .int .u64 (l : Nat)]
/-- The class at a place; none at another one. -/
theorem class_no {w : World} {e : Nat} {ad : Option Addr} {n c : Nat} {i : Int} (h : w.cell? ⟨e, 0, none⟩ = some (.slice ad n c)) (hi : i < 0 ∨ (n : Int) ≤ i) :
 Calls Tryz.prog 36 #[.pointer (some ⟨e, 0, none⟩), .int .i64 i] w fun e w' => e = .returned (.pointer none) ∧ w = w' := by
 by_cases h0 : i < 0
 · have d1 : decide (i < 0) = true := decide_eq_true h0
   go_enter Tryz.func36, Tryz.ntmps36
   go_wp2_with fail
   go_ret
   exact ⟨rfl, rfl⟩
 · have d1 : decide (i < 0) = false := decide_eq_false h0
   have d2 : decide ((n : Int) ≤ i) = true := decide_eq_true (by omega)
   go_enter Tryz.func36, Tryz.ntmps36
   go_wp2_with fail
   go_ret
   exact ⟨rfl, rfl⟩
theorem class_at {w : World} {e g n c i k : Nat} (h : w.cell? ⟨e, 0, none⟩ = some (.slice (some ⟨g, 0, none⟩) n c)) (hi : i < n) (hk : w.cell? ⟨g, i, none⟩ = some (.pointer (some ⟨k, 0, none⟩))) :
 Calls Tryz.prog 36 #[.pointer (some ⟨e, 0, none⟩), .int .i64 i] w fun e w' => e = .returned (.pointer (some ⟨k, 0, none⟩)) ∧ w = w' := by
 have d1 : decide ((i : Int) < 0) = false := by simp
 have d2 : decide (n ≤ i) = false := by simp; omega
 go_enter Tryz.func36, Tryz.ntmps36
 go_wp2_with fail
 go_ret
 exact ⟨rfl, rfl⟩
theorem takes_any {w : World} {e f i l pace : Nat} (hp : w.cell? ⟨e, 2, none⟩ = some (.int .u64 pace)) (hl : l < 18446744073709551616) (hpc : pace < 18446744073709551616) :
 Calls Tryz.prog 70 #[.pointer (some ⟨e, 0, none⟩), VP f i l] w fun e w' => e = .returned (.int .u64 (min (l * pace) 18446744073709551615 : Nat)) ∧ Upd Nowhere w w' := by
 have hU : Upd Nowhere w (w.alloc (.cells #[.int .u32 f, .int .u32 i, .int .u64 l] TP)) := (Upd.refl _ _).alloc _
 have hB : Blk (w.alloc (.cells #[.int .u32 f, .int .u32 i, .int .u64 l] TP)) w.heap.size #[.int .u32 f, .int .u32 i, .int .u64 l] TP := Blk.new _ _ _
 have c2 := cell_old hU hp
 obtain ⟨k0, k1, k2, -⟩ := cells3 hB
 have HM := fun u => Lib.hid (Sat.sat_mul l pace (by omega) (by omega) u)
 clear hp hB
 go_enter Tryz.func70, Tryz.ntmps70
 go_upto_region 1 with fail
 generalize w.alloc (.cells #[.int .u32 f, .int .u32 i, .int .u64 l] TP) = w1 at *
 go_quiet ((go_at_call 103; exact quiet_same (HM _).out))
 go_wp2_with fail
 go_ret
 exact ⟨rfl, hU.drewN _⟩
end Go.Proofs.YtdddfmdcjjbegaaGreat.Egs

