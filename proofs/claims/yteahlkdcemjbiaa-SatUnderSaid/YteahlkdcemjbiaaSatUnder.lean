/- SatUnder. -/
import Derived.Test.YteahlkdcemjbiaaSatLives
import Derived.Deep.RegionHeld3
import Derived.ChangeKeysEq
namespace Go.Proofs.Yteahlkdcemjbiaa.Sat
open Go.RowKit Go.Proofs BigFrame
open Wide (Gives four dg)
set_option maxHeartbeats 1000000
set_option maxRecDepth 100000
/-- Two wide numbers, held against each other. -/
theorem eql_wide (m n : Nat) (hm : m < 340282366920938463463374607431768211456) (hn : n < 340282366920938463463374607431768211456) (w : World) :
    (binOp .eql 33 (four (dg m)) (four (dg n))).run Try.prog w = .ok (.bool (decide (m = n))) w := by
  have h1 := dg_sum m hm
  have h2 := dg_sum n hn
  have e : decide (m = n) = ((dg m 0 == dg n 0) && ((dg m 1 == dg n 1) && ((dg m 2 == dg n 2) && (dg m 3 == dg n 3)))) := by
    rw [Bool.eq_iff_iff]; simp only [decide_eq_true_eq, Bool.and_eq_true, beq_iff_eq]
    constructor
    · rintro rfl; exact ⟨rfl, rfl, rfl, rfl⟩
    · rintro ⟨a, b, c, d⟩; rw [a, b, c, d] at h1; omega
  rw [e]
  generalize dg m = x
  generalize dg n = y
  have harr : (Op.equalIn 9999 31 (.agg #[.int .u64 (x 0), .int .u64 (x 1), .int .u64 (x 2), .int .u64 (x 3)]) (.agg #[.int .u64 (y 0), .int .u64 (y 1), .int .u64 (y 2), .int .u64 (y 3)])).run Try.prog w =
      .ok ((x 0 == y 0) && ((x 1 == y 1) && ((x 2 == y 2) && (x 3 == y 3)))) w := by
    obtain ⟨i0, hi⟩ : ∃ i, Try.prog.info? 22 = some i := Option.isSome_iff_exists.1 (by kernel_rfl)
    rw [run_equalIn_array w 9998 _ _ Try.underlying31 hi]
    have hc : Try.prog.cellsOf 22 = 1 := by kernel_rfl
    have hr : List.range 4 = [0, 1, 2, 3] := rfl
    rw [hc, hr]
    simp only [Op.eqItems]
    go_simp
    by_cases g0 : x 0 = y 0 <;> by_cases g1 : x 1 = y 1 <;> by_cases g2 : x 2 = y 2 <;> by_cases g3 : x 3 = y 3 <;> simp [g0, g1, g2, g3, Int.ofNat_inj]
  simp only [four]
  have H := Lib.hid harr
  clear harr
  go_simp
  rw [H.out]
  cases ((x 0 == y 0) && ((x 1 == y 1) && ((x 2 == y 2) && (x 3 == y 3)))) <;> rfl
theorem lt_of_prod {n : Nat} (h : n ≤ 340282366920938463426481119284349108225) : n < 340282366920938463463374607431768211456 := by omega
theorem under_walk (a b c d : Nat) (ha : a ≤ 18446744073709551615) (hb : b ≤ 18446744073709551615) (hc : c ≤ 18446744073709551615) (hd : d ≤ 18446744073709551615) (A B : Value) (F : Nat → Nat → Nat → Nat → Bool) (T : Nat → Nat → Value) (X Y S : Bool) (hX : F a b c d = X) (hY : F c d a b = Y) (hXY : (X && Y) = false) (hS : S = !(X || Y)) (hA : T a b = A) (hB : T c d = B) (w : World)
    (H1 : ∀ a b c d u, a ≤ 18446744073709551615 → b ≤ 18446744073709551615 → c ≤ 18446744073709551615 → d ≤ 18446744073709551615 → Hid (Calls Try.prog 34 #[.int .u64 (a : Nat), .int .u64 (b : Nat), .int .u64 (c : Nat), .int .u64 (d : Nat)] u fun e w' => e = .returned (.bool (F a b c d)) ∧ u = w'))
    (H3 : ∀ a b u, a ≤ 18446744073709551615 → b ≤ 18446744073709551615 → Hid (Calls Try.prog 26 #[.int .u64 (a : Nat), .int .u64 (b : Nat)] u fun e w' => Gives u (T a b) e w'))
    (H5 : ∀ u, Hid (Calls Try.prog 35 #[.int .u64 a, .int .u64 b, .int .u64 c, .int .u64 d] u fun e w' => Gives u (.bool X) e w'))
    (hG : ∀ x y u, (eqGuard .eql 33 x y A B).run Try.prog u = .ok () u) (hE : ∀ u, (binOp .eql 33 A B).run Try.prog u = .ok (.bool S) u) :
    Calls Try.prog 9 #[.agg #[.int .u64 a, .int .u64 b, .int .u64 c, .int .u64 d]] w fun e w' => e = .returned (.bool true) ∧ Upd Nowhere w w' := by
  have H6 := fun u => Lib.hid (lives u)
  have h3 : (X = true ∧ Y = false ∧ S = false) ∨ (X = false ∧ Y = true ∧ S = false) ∨ (X = false ∧ Y = false ∧ S = true) := by
    subst hS; clear hX hY H5 hE; revert hXY; cases X <;> cases Y <;> simp
  clear hXY hS
  rcases h3 with ⟨rfl, rfl, rfl⟩ | ⟨rfl, rfl, rfl⟩ | ⟨rfl, rfl, rfl⟩
  all_goals
    go_enter Try.func9, Try.ntmps9
    go_wp2_with fail
    go_quiet ((go_at_call 34; exact quiet_same (H1 _ _ _ _ _ (by omega) (by omega) (by omega) (by omega)).out))
    rw [hX, hY]
    have hK : Blk ((w.alloc (.cells #[.int .u64 a, .int .u64 b, .int .u64 c, .int .u64 d] 31)).drewN nq).drew w.heap.size #[.int .u64 a, .int .u64 b, .int .u64 c, .int .u64 d] 31 := ((Blk.new _ _ _).drewN _).drew
    have hS0 : Upd Nowhere w ((w.alloc (.cells #[.int .u64 a, .int .u64 b, .int .u64 c, .int .u64 d] 31)).drewN nq).drew := (((Upd.refl _ _).alloc _).drewN _).drew
    clear hX hY
    go_wp2_with fail
    go_region_held3 (fun w' => Upd Nowhere w w' ∧ w'.cell? ⟨w.heap.size, 0, none⟩ = some (.int .u64 a) ∧ w'.cell? ⟨w.heap.size, 1, none⟩ = some (.int .u64 b) ∧ w'.cell? ⟨w.heap.size, 2, none⟩ = some (.int .u64 c) ∧ w'.cell? ⟨w.heap.size, 3, none⟩ = some (.int .u64 d)) (first | exact ⟨hS0, hK.cellAt rfl, hK.cellAt rfl, hK.cellAt rfl, hK.cellAt rfl⟩ | assumption)
      ((go_at_call 26; refine (keep4 (H3 _ _ _ (by omega) (by omega)).out (by assumption)).mono ?_; rintro e w' ⟨rfl, _⟩))
    rename_i hS1
    go_wp2_with fail
    refine ((H5 _).out).mono ?_
    rintro e w5 ⟨rfl, u5⟩
    go_wp2_with fail
    refine ((H6 _).out).mono ?_
    rintro e w6 ⟨rfl, u6⟩
    go_wp2_with fail
    go_ret
    exact ⟨rfl, (hS1.1.trans u5 (fun _ _ h => h)).trans u6 (fun _ _ h => h)⟩
theorem under_law (a b c d : Nat) (ha : a ≤ 18446744073709551615) (hb : b ≤ 18446744073709551615) (hc : c ≤ 18446744073709551615) (hd : d ≤ 18446744073709551615) (w : World) :
    Calls Try.prog 9 #[.agg #[.int .u64 a, .int .u64 b, .int .u64 c, .int .u64 d]] w fun e w' => e = .returned (.bool true) ∧ Upd Nowhere w w' := by
  refine under_walk a b c d ha hb hc hd (four (dg (a * b))) (four (dg (c * d))) (fun a b c d => decide (a * b < c * d)) (fun a b => four (dg (a * b))) (decide (a * b < c * d)) (decide (c * d < a * b)) (decide (a * b = c * d)) rfl rfl ?_ ?_ rfl rfl w ?_ ?_ ?_ ?_ ?_
  · simp; omega
  · rw [Bool.eq_iff_iff]; simp; omega
  · exact fun a b c d u ha hb hc hd => Lib.hid (under_any a b c d ha hb hc hd u)
  · exact fun a b u ha hb => Lib.hid (Wide.times_any a b ha hb u)
  · exact fun u => Lib.hid (ref_under a b c d ha hb hc hd u)
  · exact fun x y u => run_eqGuard_agg u .eql _ x y _ _ (by kernel_rfl)
  · exact fun u => eql_wide (a * b) (c * d) (lt_of_prod (prod_lt ha hb)) (lt_of_prod (prod_lt hc hd)) u
end Go.Proofs.Yteahlkdcemjbiaa.Sat
