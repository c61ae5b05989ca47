/- sppifo: rises; numbers as an argument. -/
import Derived.Test.YtopibbaopglggaaProg
import Derived.Test.YtopibbaopglggaaRef12Core
import Derived.Test.YtopibbaopglggaaMix
import Derived.Lib.Hide
namespace Go.Proofs.Ytopibbaopglggaa.SpI
open Go.RowKit Go.Proofs BigFrame
set_option maxHeartbeats 1000000
set_option maxRecDepth 100000
/-- The numbers never fall, as far as the first k. -/
def rs (f : Nat → Nat) : Nat → Bool
  | 0 => true
  | k + 1 => rs f k && (decide (k = 0) || decide (f (k - 1) ≤ f k))
theorem rs_le {f : Nat → Nat} : ∀ {n : Nat}, rs f n = true → ∀ i j, i ≤ j → j < n → f i ≤ f j
  | 0, _, i, j, _, h => by omega
  | k + 1, h, i, j, hij, hj => by
    rw [rs, Bool.and_eq_true] at h
    rcases Nat.lt_or_ge j k with hjk | hjk
    · exact rs_le h.1 i j hij hjk
    · obtain rfl : j = k := by omega
      rcases Nat.lt_or_ge i j with h1 | h1
      · have h2 := h.2
        have h0 : decide (j = 0) = false := decide_eq_false (by omega)
        rw [h0, Bool.false_or] at h2
        have h3 := of_decide_eq_true h2
        have h4 := rs_le h.1 i (j - 1) (by omega) (by omega)
        omega
      · obtain rfl : i = j := by omega
        exact Nat.le_refl _
theorem rs_false {f : Nat → Nat} {k : Nat} (h : rs f k = false) : ∀ n, k ≤ n → rs f n = false := by
  intro n hn
  induction hn with
  | refl => exact h
  | step _ ih => rw [rs, ih]; rfl
/-- Numbers as an argument. -/
structure Nums (w : World) (ad : Option Addr) (n : Nat) (f : Nat → Nat) : Prop where
  nil : ad = none → n = 0
  cell : ∀ g, ad = some g → ∀ i, i < n → g.spot = none ∧ w.cell? ⟨g.block, g.off + i, none⟩ = some (.int .u64 (f i : Nat))
theorem Nums.old {w w' : World} {ad : Option Addr} {n : Nat} {f : Nat → Nat} (h : Nums w ad n f) (hu : Upd Nowhere w w') : Nums w' ad n f := ⟨h.nil, fun g hg i hi => ⟨(h.cell g hg i hi).1, cell_old hu (h.cell g hg i hi).2⟩⟩
theorem Nums.at {w : World} {ad : Option Addr} {n : Nat} {f : Nat → Nat} (h : Nums w ad n f) {i : Nat} (hi : i < n) : ∃ g o, ad = some ⟨g, o, none⟩ ∧ ∀ i, i < n → w.cell? ⟨g, o + i, none⟩ = some (.int .u64 (f i : Nat)) := by
  cases ad with
  | none => have := h.nil rfl; omega
  | some a =>
    have hs := (h.cell a rfl i hi).1
    obtain ⟨g, o, sp⟩ := a
    simp only at hs
    subst hs
    exact ⟨g, o, rfl, fun i hi => (h.cell _ rfl i hi).2⟩
theorem rises_any {w : World} {ad : Option Addr} {n : Nat} {f : Nat → Nat} (h : Nums w ad n f) (hn : n ≤ 1000) (ca : Nat) :
    Calls Try.prog 71 #[.slice ad n ca] w fun e w' => e = .returned (.bool (rs f n)) ∧ ∃ k, w' = w.drewN k := by
  have H := Lib.hid h
  obtain ⟨R, hR⟩ : ∃ R, rs f n = R := ⟨_, rfl⟩
  rw [hR]
  have HR := Lib.hid hR
  clear h hR
  go_enter Try.func71, Try.ntmps71
  go_wp2_with fail
  go_loopw [6] (fun i wr => ∃ k : Nat, k ≤ n ∧ i = .int .i64 k ∧ rs f k = true ∧ ∃ q, wr = w.drewN q) (fun i _ => n - (intOf i).toNat)
  case atStart => exact ⟨0, by omega, rfl, rfl, 0, rfl⟩
  case round =>
    obtain ⟨k, hk, rfl, hrs, q, rfl⟩ := hrel
    have HRS := Lib.hid hrs
    clear hrs
    by_cases hlt : k < n
    · have hI : (k : Int) < n := by omega
      obtain ⟨g, o, rfl, hc⟩ := H.out.at hlt
      have k0 := hc k hlt
      have e1 : rs f (k + 1) = (rs f k && (decide (k = 0) || decide (f (k - 1) ≤ f k))) := rfl
      rw [HRS.out, Bool.true_and] at e1
      rcases Nat.eq_zero_or_pos k with rfl | hpos
      · have e2 : rs f 1 = true := e1
        have E2 := Lib.hid e2
        clear hc e1 e2
        go_wp2_with fail
        go_quiet (fail)
        go_wp2_with fail
        go_roundw
        case rel => exact ⟨1, by omega, by go_num, E2.out, q + nq, rfl⟩
        case measure => simp [intOf]; omega
      · obtain ⟨p, rfl⟩ : ∃ p, k = p + 1 := ⟨k - 1, by omega⟩
        have k1 := hc p (by omega)
        have d0 : decide (((p + 1 : Nat) : Int) > 0) = true := decide_eq_true (by omega)
        have d1 : decide ((0 : Int) < ((p + 1 : Nat) : Int)) = true := decide_eq_true (by omega)
        rw [decide_eq_false (show ¬ (p + 1 = 0) by omega), Bool.false_or] at e1
        have e1' : rs f (p + 1 + 1) = decide (f p ≤ f (p + 1)) := e1
        have E1 := Lib.hid e1'
        generalize f p = fp at *
        generalize f (p + 1) = fq at *
        have e5 : IntKind.i64.wrap ((((p + 1 : Nat) : Int)) - 1) = (p : Int) := by rw [IntKind.wrap_i64]; omega
        obtain ⟨kk, hkk⟩ : ∃ kk, p + 1 = kk := ⟨_, rfl⟩
        have d9 : decide (0 < p + 1) = true := decide_eq_true (by omega)
        rw [hkk] at d9 k0 d0 d1 hI e5 hlt HRS E1 ⊢
        have HKK := Lib.hid hkk
        have hpn : (p : Int) < n := by omega
        clear hc e1 e1' hkk hpos hk
        by_cases hle : fp ≤ fq
        · have d2 : decide (fq < fp) = false := decide_eq_false (by omega)
          have d3 : decide ((fq : Int) < fp) = false := decide_eq_false (by omega)
          rw [decide_eq_true hle] at E1
          clear hle
          go_wp2_with fail
          go_quiet (fail)
          go_wp2_with fail
          go_roundw
          case rel => exact ⟨kk + 1, by omega, by go_num, E1.out, q + nq, rfl⟩
          case measure => simp [intOf]; omega
        · have d2 : decide (fq < fp) = true := decide_eq_true (by omega)
          have d3 : decide ((fq : Int) < fp) = true := decide_eq_true (by omega)
          rw [decide_eq_false hle] at E1
          clear hle
          go_wp2_with fail
          go_quiet (fail)
          go_wp2_with fail
          go_ret
          exact ⟨ret_bool (by rw [← HR.out]; exact (rs_false E1.out n (by omega)).symm), _, World.drewN_drewN _ _ _⟩
    · obtain rfl : k = n := by omega
      go_wp2_with fail
      go_ret
      exact ⟨ret_bool (by rw [← HR.out]; exact HRS.out.symm), q, rfl⟩
end Go.Proofs.Ytopibbaopglggaa.SpI
