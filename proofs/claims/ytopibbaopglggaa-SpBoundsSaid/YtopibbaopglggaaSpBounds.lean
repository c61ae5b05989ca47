/- SpBounds. -/
import Derived.Test.YtopibbaopglggaaSpI5
import Derived.Test.YtopibbaopglggaaSpLives
import Derived.Test.YtopibbaopglggaaMix
import Derived.Test.YtopibbaopglggaaClose
namespace Go.Proofs.Ytopibbaopglggaa.Sp
open Go.RowKit Go.Proofs BigFrame
open SpI (Has has_new has_push has_pop has_len has_bounds brow brow_at brow_len)
set_option maxHeartbeats 2000000
set_option maxRecDepth 100000
theorem pushed_under {n : Nat} {bs : Nat → Nat} {r p most most' : Nat} (h : ∀ j, j < n → bs j ≤ most) (hm : most ≤ most') (hr : r ≤ most') : ∀ j, j < n → pushed bs r p j ≤ most' := fun j hj => by
  have := h j hj
  unfold pushed
  split
  · unfold sunk; omega
  · unfold upd; split <;> omega
theorem bounds_walk (N : Nat) (_hN : N ≤ 255) (ad : Option Addr) (ca : Nat) (l : List Int) (hl : l.length ≤ 300) (hb : ∀ x ∈ l, 0 ≤ x ∧ x ≤ 18446744073709551615) (w : World)
    (ha0 : ad = none → l.map (Value.int .u64) = [] ∧ ca = 0) (ha1 : ∀ b, ad = some b → ∀ j u, (l.map (Value.int .u64))[j]? = some u → b.spot = none ∧ w.cell? ⟨b.block, b.off + j, none⟩ = some u) :
    Calls Try.prog 5 #[.int .u8 N, .slice ad l.length ca] w fun e w' => e = .returned (.bool true) ∧ Upd Nowhere w w' := by
  obtain ⟨m, hm⟩ : ∃ m, l.length = m := ⟨_, rfl⟩
  rw [hm] at hl ⊢
  have t0 : decide ((m : Int) > 300) = false := decide_eq_false (by omega)
  have t1 : decide (300 < (m : Int)) = false := decide_eq_false (by omega)
  have eN : (N : Int) % 32 = ((N % 32 : Nat) : Int) := rfl
  have hq : N % 32 < 32 := Nat.mod_lt _ (by omega)
  generalize N % 32 = q at *
  obtain ⟨n, hn⟩ : ∃ n, q + 1 = n := ⟨_, rfl⟩
  have eq1 : (q : Int) + 1 = (n : Int) := by omega
  have hn1 : 1 ≤ n := by omega
  have hn2 : n ≤ 32 := by omega
  have HN := Lib.hid (has_new w 4096 n (by omega) (by omega) hn1 hn2)
  have Hm := Lib.hid hm
  have Hb := Lib.hid hb
  have Ha0 := Lib.hid ha0
  have Ha := Lib.hid ha1
  have HL := fun u => Lib.hid (lives u)
  clear hm hb ha0 ha1
  go_enter Try.func5, Try.ntmps5
  go_wp2_with fail
  refine HN.out.mono ?_
  rintro e w1 ⟨s, rfl, hS⟩
  have HS := Lib.hid hS
  clear hS HN
  go_wp2_with fail
  go_loopw [7, 30] (fun mv i wr => ∃ (k most : Nat) (bs : Nat → Nat) (qs : Nat → List (Int × Int)), k ≤ m ∧ i = .int .i64 k ∧ mv = .int .u64 most ∧ most ≤ 18446744073709551615 ∧ Has w wr s n 4096 k bs qs ∧ ∀ j, j < n → bs j ≤ most) (fun _ i _ => m - (intOf i).toNat)
  case atStart => exact ⟨0, 0, _, _, by omega, rfl, rfl, by omega, HS.out, fun _ _ => Nat.le_refl _⟩
  case round =>
    obtain ⟨k, most, bs, qs, hk, rfl, rfl, hmo, hS, hun⟩ := hrel
    have HS2 := Lib.hid hS
    have HU := Lib.hid hun
    clear hS hun HS
    obtain ⟨wB, rfl⟩ : ∃ x, x = wr := ⟨_, rfl⟩
    by_cases hlt : k < m
    · have hI : (k : Int) < m := by omega
      obtain ⟨x, hx⟩ : ∃ a, l[k]? = some a := ⟨l[k]'(by rw [Hm.out]; exact hlt), by simp⟩
      obtain ⟨hx1, hx2⟩ := Hb.out x (List.mem_of_getElem? hx)
      obtain ⟨r, rfl⟩ : ∃ r : Nat, x = r := ⟨x.toNat, by omega⟩
      obtain ⟨ga, oa, rfl, hc0⟩ := row_at (fun h => ⟨(Ha0.out h).1, trivial⟩) Ha.out (i := k) (u := .int .u64 (r : Int)) (by simp [hx])
      have r0 := cell_old HS2.out.upd hc0
      obtain ⟨most', hm', hm1, hm2, hm3⟩ : ∃ most' : Nat, max most r = most' ∧ most ≤ most' ∧ r ≤ most' ∧ most' ≤ 18446744073709551615 := ⟨_, rfl, by omega, by omega, by omega⟩
      have e1 : (if (r : Int) < (most : Int) then (most : Int) else (r : Int)) = (most' : Int) := by split <;> omega
      have e2 : (if (most : Int) < (r : Int) then (r : Int) else (most : Int)) = (most' : Int) := by split <;> omega
      have e3 : (if r < most then (most : Int) else (r : Int)) = (most' : Int) := by split <;> omega
      have e4 : (if most < r then (r : Int) else (most : Int)) = (most' : Int) := by split <;> omega
      obtain ⟨p, hp⟩ : ∃ p, pick bs r (n - 1) = p := ⟨_, rfl⟩
      have hP := Lib.hid (has_push HS2.out (Upd.refl _ _) (by omega) r (by omega) (k : Int) p hp)
      have HU2 := Lib.hid (pushed_under (p := p) HU.out hm1 hm2)
      clear hx hx1 hx2 hc0 hp hm'
      go_wp2_with fail
      refine hP.out.mono ?_
      rintro e w3 ⟨rfl, hS3, hu3⟩
      have HS3 := Lib.hid hS3
      clear hP hS3 hu3 HS2 HU r0 e1 e2 e3 e4
      generalize pushed bs r p = bs3 at *
      generalize upd qs p (qs p ++ [((r : Int), (k : Int))]) = qs3 at *
      have hBo := Lib.hid (has_bounds HS3.out)
      go_wp2_with fail
      refine hBo.out.mono ?_
      rintro e w4 ⟨v, rfl, hrow, hu4⟩
      obtain ⟨bd, bc, rfl, hb0, hb1⟩ := hrow
      simp only [brow_len]
      have HB0 := Lib.hid hb0
      have HB1 := Lib.hid hb1
      have HS4 := Lib.hid (HS3.out.old hu4)
      have HF := Lib.hid HS3.out.fit
      clear hBo hu4 hb0 hb1 HS3
      go_wp2_with fail
      go_loopw [51] (fun i wr => ∃ j, j ≤ n ∧ i = .int .i64 j ∧ Upd Nowhere w4 wr) (fun i _ => n - (intOf i).toNat)
      case atStart => exact ⟨0, by omega, rfl, Upd.refl _ _⟩
      case round =>
        obtain ⟨j, hj, rfl, huj⟩ := hrel
        by_cases hjn : j < n
        · have hJ : (j : Int) < n := by omega
          obtain ⟨gd, od, rfl, hcj⟩ := row_at (fun h => ⟨(HB0.out h).1, trivial⟩) HB1.out (brow_at bs3 hjn)
          have hcj' := cell_old huj hcj
          have hle := HU2.out j hjn
          have d1 : decide (most' < bs3 j) = false := decide_eq_false (by omega)
          rcases Nat.eq_zero_or_pos j with rfl | hj0
          · have d2 : decide (((0 : Nat) : Int) > 0) = false := by decide
            rw [Nat.add_zero] at hcj'
            clear hcj
            generalize bs3 0 = b0 at *
            go_wp2_with fail
            go_quiet (fail)
            go_wp2_with fail
            go_roundw
            case rel => exact ⟨0 + 1, by omega, by go_num, huj.drewN _⟩
            case measure => simp [intOf]; omega
          · have hcp := cell_old huj (HB1.out _ rfl (j - 1) _ (brow_at bs3 (i := j - 1) (by omega))).2
            simp only at hcp
            have d2 : decide ((j : Int) > 0) = true := decide_eq_true (by omega)
            have d3 : (0 : Int) < j := by omega
            have d4 : decide (bs3 j < bs3 (j - 1)) = false := decide_eq_false (by have := HF.out.mono (j - 1) j (by omega) hjn; omega)
            have d5 : IntKind.i64.wrap ((j : Int) - 1) = ((j - 1 : Nat) : Int) := by rw [IntKind.wrap_i64]; omega
            have d6 : ((j - 1 : Nat) : Int) < n := by omega
            clear hcj
            generalize bs3 j = b0 at *
            generalize bs3 (j - 1) = b1 at *
            generalize hjj : j - 1 = jp at *
            go_wp2_with fail
            go_quiet (fail)
            go_wp2_with fail
            go_roundw
            case rel => exact ⟨j + 1, by omega, by go_num, huj.drewN _⟩
            case measure => simp [intOf]; omega
        · have hJ : ¬ (j : Int) < n := by omega
          go_wp2_with fail
          go_roundw
          case rel => exact ⟨k + 1, most', bs3, qs3, by omega, by go_num, rfl, hm3, HS4.out.old huj, HU2.out⟩
          case measure => simp [intOf]; omega
    · obtain rfl : m = k := by omega
      go_wp2_with fail
      refine ((HL _).out).mono ?_
      rintro e w5 ⟨rfl, u5⟩
      go_wp2_with fail
      go_ret
      exact ⟨rfl, HS2.out.upd.trans u5 (fun _ _ h => h)⟩
end Go.Proofs.Ytopibbaopglggaa.Sp
