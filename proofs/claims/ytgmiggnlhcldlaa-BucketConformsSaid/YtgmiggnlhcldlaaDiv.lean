/- math/bits: Div64. -/
import Derived.Test.YtgmiggnlhcldlaaLen
import Derived.Test.YtgmiggnlhcldlaaDivPlain
import Derived.Deep.DeepCutAuto
import Derived.Deep.CutBlock
namespace Go.Proofs.Ytgmiggnlhcldlaa.Bits
open Go.RowKit Go.Proofs BigFrame
open Go.Proofs.Ytgmiggnlhcldlaa.Div
set_option maxHeartbeats 1000000
set_option maxRecDepth 100000

theorem div64_zero (lo y : Nat) (hy : 0 < y) (hl : lo ≤ 18446744073709551615) (hy2 : y ≤ 18446744073709551615) (w : World) :
    Calls Try.prog 65 #[.int .u64 0, .int .u64 lo, .int .u64 y] w fun e w' => e = .returned (.tuple #[.int .u64 (lo / y : Nat), .int .u64 (lo % y : Nat)]) ∧ ∃ k, w' = w.drewN k := by
  have d1 : ((y : Int) == 0) = false := by simp; omega
  have d2 : decide (y ≤ 0) = false := by simp; omega
  have d3 : ((y : Int) ≠ 0) := by omega
  go_enter Try.func65, Try.ntmps65
  go_wp2
  go_quiet (fail)
  go_wp2
  go_ret2
  have e : IntKind.u64.wrap ((lo : Int) / (y : Int)) = ((lo / y : Nat) : Int) := by
    rw [← Int.natCast_ediv]; exact wrapN _ (Nat.lt_of_le_of_lt (Nat.div_le_self _ _) (by omega))
  have e2 : ((lo : Int) % (y : Int)) = ((lo % y : Nat) : Int) := (Int.natCast_emod _ _).symm
  exact ⟨congrArg Ending.returned (by show Value.tuple #[.int .u64 (IntKind.u64.wrap ((lo : Int) / (y : Int))), .int .u64 ((lo : Int) % (y : Int))] = _; rw [e, e2]), _, rfl⟩

theorem div64_walk (hi lo y s Y a b L d1 d0 u Q R Q0 N1 N2 t1 t2 t3 t5 t6 t7 t8 t9 : Nat) (hh : 0 < hi) (hlt : hi < y) (_hl : lo ≤ 18446744073709551615) (hy2 : y ≤ 18446744073709551615) (hs : s ≤ 63) (hS : Hid (64 - Lib.bitLen y = s)) (w : World)
    (eY : IntKind.u64.wrap ((y : Int) * 2 ^ s) = (Y : Int)) (ea : (Y : Int) / 4294967296 = (a : Int)) (eb : bits .and .u64 (Y : Int) 4294967295 = (b : Int)) (ha : 2147483648 ≤ a)
    (eL : IntKind.u64.wrap ((lo : Int) * 2 ^ s) = (L : Int)) (e1 : (L : Int) / 4294967296 = (d1 : Int)) (e0 : bits .and .u64 (L : Int) 4294967295 = (d0 : Int))
    (eu : bits .or .u64 (IntKind.u64.wrap ((hi : Int) * 2 ^ s)) ((lo : Int) / 2 ^ (64 - s)) = (u : Int)) (hb : b < 4294967296) (hu : u < a * 4294967296 + b) (hd1 : d1 < 4294967296) (ha2 : a < 4294967296)
    (hQ : Hid (Q = (u * 4294967296 + d1) / (a * 4294967296 + b)))
    (e5 : IntKind.u64.wrap ((u : Int) * 4294967296) = (t1 : Int)) (e6 : IntKind.u64.wrap ((t1 : Int) + (d1 : Int)) = (t2 : Int)) (e7 : IntKind.u64.wrap ((Q : Int) * (Y : Int)) = (t3 : Int)) (e8 : IntKind.u64.wrap ((t2 : Int) - (t3 : Int)) = (R : Int))
    (hR : R < a * 4294967296 + b) (hd0 : d0 < 4294967296) (hQ0 : Hid (Q0 = (R * 4294967296 + d0) / (a * 4294967296 + b)))
    (e9 : IntKind.u64.wrap ((Q : Int) * 4294967296) = (t5 : Int)) (e10 : IntKind.u64.wrap ((t5 : Int) + (Q0 : Int)) = (N1 : Int)) (e11 : IntKind.u64.wrap ((R : Int) * 4294967296) = (t6 : Int)) (e12 : IntKind.u64.wrap ((t6 : Int) + (d0 : Int)) = (t7 : Int))
    (e13 : IntKind.u64.wrap ((Q0 : Int) * (Y : Int)) = (t8 : Int)) (e14 : IntKind.u64.wrap ((t7 : Int) - (t8 : Int)) = (t9 : Int)) (e15 : (t9 : Int) / 2 ^ s = (N2 : Int)) :
    Calls Try.prog 65 #[.int .u64 hi, .int .u64 lo, .int .u64 y] w fun e w' => e = .returned (.tuple #[.int .u64 N1, .int .u64 N2]) ∧ ∃ k, w' = w.drewN k := by
  have f1 : ((y : Int) == 0) = false := by simp; omega
  have f2 : decide (y ≤ hi) = false := by simp; omega
  have f3 : ((hi : Int) == 0) = false := by simp; omega
  have f4 : ((a : Int) == 0) = false := by simp; omega
  have f5 : (a : Int) ≠ 0 := by omega
  have hz := lz64 y w (by omega) (by omega)
  rw [Int.toNat_natCast, hS.out] at hz
  have Hz := Lib.hid hz
  clear hz
  have hs' : (s : Int) ≤ 63 := by omega
  have hg := guess_start ha hb hu hd1
  have hq0 : u / a ≤ 4294967297 := hg.le
  have hr0 : u - u / a * a < a := by
    have h1 := Nat.div_add_mod u a
    have h2 := Nat.mod_lt u (show 0 < a by omega)
    have h3 : a * (u / a) = u / a * a := Nat.mul_comm _ _
    omega
  have hle : u / a * a ≤ u := Nat.div_mul_le_self _ _
  have hu64 : u < 18446744073709551616 := by omega
  have eq1 : IntKind.u64.wrap ((u : Int) / (a : Int)) = ((u / a : Nat) : Int) := by rw [← Int.natCast_ediv]; exact wrapN _ (by omega)
  have eq2 : IntKind.u64.wrap (((u / a : Nat) : Int) * (a : Int)) = ((u / a * a : Nat) : Int) := by rw [mulN]; exact wrapN _ (by omega)
  have eq3 : IntKind.u64.wrap ((u : Int) - ((u / a * a : Nat) : Int)) = ((u - u / a * a : Nat) : Int) := by rw [← Int.natCast_sub hle]; exact wrapN _ (by omega)
  have Hg := Lib.hid hg
  clear hg hle
  generalize u - u / a * a = r0 at *
  generalize u / a * a = p0 at *
  generalize u / a = q0 at *
  have hg2 := guess_start ha hb hR hd0
  have hk0 : R / a ≤ 4294967297 := hg2.le
  have hs0 : R - R / a * a < a := by
    have h1 := Nat.div_add_mod R a
    have h2 := Nat.mod_lt R (show 0 < a by omega)
    have h3 : a * (R / a) = R / a * a := Nat.mul_comm _ _
    omega
  have hle2 : R / a * a ≤ R := Nat.div_mul_le_self _ _
  have hR64 : R < 18446744073709551616 := by omega
  have er1 : IntKind.u64.wrap ((R : Int) / (a : Int)) = ((R / a : Nat) : Int) := by rw [← Int.natCast_ediv]; exact wrapN _ (by omega)
  have er2 : IntKind.u64.wrap (((R / a : Nat) : Int) * (a : Int)) = ((R / a * a : Nat) : Int) := by rw [mulN]; exact wrapN _ (by omega)
  have er3 : IntKind.u64.wrap ((R : Int) - ((R / a * a : Nat) : Int)) = ((R - R / a * a : Nat) : Int) := by rw [← Int.natCast_sub hle2]; exact wrapN _ (by omega)
  have Hg2 := Lib.hid hg2
  clear hg2 hle2
  generalize R - R / a * a = s0 at *
  generalize R / a * a = p1 at *
  generalize R / a = k0 at *
  go_enter Try.func65, Try.ntmps65
  go_upto_block 0 with (go_at_call 68; refine Hz.out.mono ?_; rintro e w' ⟨rfl, rfl⟩)
  go_cut [15] from 67 to 85 (fun q wr => q = .int .u64 Q ∧ wr = w)
  case first =>
    go_wp2
    clear eY ea eb eL e1 e0 eu f1 f2 f3 eq1 eq2 eq3 Hz e5 e6 e7 e8 e9 e10 e11 e12 e13 e14 e15 er1 er2 er3 hR hd0 hk0 hs0 Hg2 hR64
    go_loop [15, 16] (fun qv rv => ∃ q r : Nat, qv = .int .u64 q ∧ rv = .int .u64 r ∧ Guess u d1 a b q r ∧ r < 4294967296) (fun qv _ => (intOf qv).toNat)
    case atStart => exact ⟨q0, r0, rfl, rfl, Hg.out, by omega⟩
    case round =>
      clear Hg hq0 hr0
      obtain ⟨q, r, rfl, rfl, hg, hr⟩ := hrel
      have hq := hg.le
      have HG := Lib.hid hg
      clear hg
      by_cases hA : 4294967296 ≤ q
      · have dA : decide (4294967296 ≤ q) = true := by simpa using hA
        have dA' : decide ((4294967296 : Int) ≤ (q : Int)) = true := by simp; omega
        obtain ⟨hn, h1⟩ := guess_next HG.out hd1 hu (.inl hA)
        have HN := Lib.hid hn
        clear hn
        by_cases hB : 4294967296 ≤ r + a
        · have dB : decide (4294967296 ≤ (r : Int) + a) = true := by simp; omega
          have hQ1 := guess_over HN.out ha hb (by omega) hB
          have HQ1 := Lib.hid (hQ1.trans hQ.out.symm)
          clear hQ1 hA hB hu ha hb hd1 hlt hy2 hs hs' hu64 hh
          go_wp2
          go_meet
          exact ⟨by rw [← HQ1.out]; exact congrArg (Value.int .u64) (by omega), rfl⟩
        · have dB : decide (4294967296 ≤ (r : Int) + a) = false := by simp; omega
          have hra : r + a ≤ 4294967295 := by omega
          clear hA hB hu ha hb hd1 hlt hy2 hs hs' hu64 hh
          go_wp2
          go_round
          case rel => exact ⟨q - 1, r + a, congrArg (Value.int .u64) (by omega), congrArg (Value.int .u64) (by omega), HN.out, by omega⟩
          case measure => simp [intOf]; omega
      · have dA : decide (4294967296 ≤ q) = false := by simpa using hA
        have dA' : decide ((4294967296 : Int) ≤ (q : Int)) = false := by simp; omega
        have hm := Nat.mul_le_mul (show q ≤ 4294967295 by omega) (show b ≤ 4294967295 by omega)
        have eqb : IntKind.u64.wrap ((q : Int) * (b : Int)) = ((q * b : Nat) : Int) := by rw [mulN]; exact wrapN _ (by omega)
        by_cases hC : r * 4294967296 + d1 < q * b
        · obtain ⟨hn, h1⟩ := guess_next HG.out hd1 hu (.inr hC)
          have HN := Lib.hid hn
          clear hn
          have hC' : Hid (r * 4294967296 + d1 < q * b) := hC
          clear hC
          generalize q * b = m at *
          have dC : decide (4294967296 * (r : Int) + (d1 : Int) < (m : Int)) = true := by have := hC'.out; simp; omega
          by_cases hB : 4294967296 ≤ r + a
          · have dB : decide (4294967296 ≤ (r : Int) + a) = true := by simp; omega
            have hQ1 := guess_over HN.out ha hb (by omega) hB
            have HQ1 := Lib.hid (hQ1.trans hQ.out.symm)
            clear hQ1 hA hB hu ha hb hlt hy2 hs hs' hu64 hh
            go_wp2
            go_meet
            exact ⟨by rw [← HQ1.out]; exact congrArg (Value.int .u64) (by omega), rfl⟩
          · have dB : decide (4294967296 ≤ (r : Int) + a) = false := by simp; omega
            have hra : r + a ≤ 4294967295 := by omega
            clear hA hB hu ha hb hlt hy2 hs hs' hu64 hh
            go_wp2
            go_round
            case rel => exact ⟨q - 1, r + a, congrArg (Value.int .u64) (by omega), congrArg (Value.int .u64) (by omega), HN.out, by omega⟩
            case measure => simp [intOf]; omega
        · have hQ1 := guess_done HG.out ha (by omega)
          have HQ1 := Lib.hid (hQ1.trans hQ.out.symm)
          have hC' : Hid (¬ r * 4294967296 + d1 < q * b) := hC
          clear hC hQ1
          generalize q * b = m at *
          have dC : decide (4294967296 * (r : Int) + (d1 : Int) < (m : Int)) = false := by have := hC'.out; simp; omega
          clear hA hu ha hb hlt hy2 hs hs' hu64 hh
          go_wp2
          go_meet
          exact ⟨by rw [← HQ1.out], rfl⟩
  case rest =>
    obtain ⟨rfl, hwx⟩ := hcut
    replace hwx := hwx.symm
    subst hwx
    clear eY ea eb eL e1 e0 eu f1 f2 f3 eq1 eq2 eq3 Hz hu hd1 Hg hq0 hr0 hu64 hQ hlt hy2 hS
    go_upto_block 2 with fail
    go_cut [18] from 102 to 120 (fun q wx => q = .int .u64 Q0 ∧ wx = w)
    case first =>
      go_wp2
      clear e5 e6 e7 e8 e9 e10 e11 e12 e13 e14 e15 er1 er2 er3
      go_loop [18, 16] (fun qv rv => ∃ q r : Nat, qv = .int .u64 q ∧ rv = .int .u64 r ∧ Guess R d0 a b q r ∧ r < 4294967296) (fun qv _ => (intOf qv).toNat)
      case atStart => exact ⟨k0, s0, rfl, rfl, Hg2.out, by omega⟩
      case round =>
        clear Hg2 hk0 hs0
        obtain ⟨q, r, rfl, rfl, hg, hr⟩ := hrel
        have hq := hg.le
        have HG := Lib.hid hg
        clear hg
        by_cases hA : 4294967296 ≤ q
        · have dA : decide (4294967296 ≤ q) = true := by simpa using hA
          have dA' : decide ((4294967296 : Int) ≤ (q : Int)) = true := by simp; omega
          obtain ⟨hn, h1⟩ := guess_next HG.out hd0 hR (.inl hA)
          have HN := Lib.hid hn
          clear hn
          by_cases hB : 4294967296 ≤ r + a
          · have dB : decide (4294967296 ≤ (r : Int) + a) = true := by simp; omega
            have hQ1 := guess_over HN.out ha hb (by omega) hB
            have HQ1 := Lib.hid (hQ1.trans hQ0.out.symm)
            clear hQ1 hA hB hR ha hb hd0 hs hs' hR64 hh
            go_wp2
            go_meet
            exact ⟨by rw [← HQ1.out]; exact congrArg (Value.int .u64) (by omega), rfl⟩
          · have dB : decide (4294967296 ≤ (r : Int) + a) = false := by simp; omega
            have hra : r + a ≤ 4294967295 := by omega
            clear hA hB hR ha hb hd0 hs hs' hR64 hh
            go_wp2
            go_round
            case rel => exact ⟨q - 1, r + a, congrArg (Value.int .u64) (by omega), congrArg (Value.int .u64) (by omega), HN.out, by omega⟩
            case measure => simp [intOf]; omega
        · have dA : decide (4294967296 ≤ q) = false := by simpa using hA
          have dA' : decide ((4294967296 : Int) ≤ (q : Int)) = false := by simp; omega
          have hm := Nat.mul_le_mul (show q ≤ 4294967295 by omega) (show b ≤ 4294967295 by omega)
          have eqb : IntKind.u64.wrap ((q : Int) * (b : Int)) = ((q * b : Nat) : Int) := by rw [mulN]; exact wrapN _ (by omega)
          by_cases hC : r * 4294967296 + d0 < q * b
          · obtain ⟨hn, h1⟩ := guess_next HG.out hd0 hR (.inr hC)
            have HN := Lib.hid hn
            clear hn
            have hC' : Hid (r * 4294967296 + d0 < q * b) := hC
            clear hC
            generalize q * b = m at *
            have dC : decide (4294967296 * (r : Int) + (d0 : Int) < (m : Int)) = true := by have := hC'.out; simp; omega
            by_cases hB : 4294967296 ≤ r + a
            · have dB : decide (4294967296 ≤ (r : Int) + a) = true := by simp; omega
              have hQ1 := guess_over HN.out ha hb (by omega) hB
              have HQ1 := Lib.hid (hQ1.trans hQ0.out.symm)
              clear hQ1 hA hB hR ha hb hs hs' hR64 hh
              go_wp2
              go_meet
              exact ⟨by rw [← HQ1.out]; exact congrArg (Value.int .u64) (by omega), rfl⟩
            · have dB : decide (4294967296 ≤ (r : Int) + a) = false := by simp; omega
              have hra : r + a ≤ 4294967295 := by omega
              clear hA hB hR ha hb hs hs' hR64 hh
              go_wp2
              go_round
              case rel => exact ⟨q - 1, r + a, congrArg (Value.int .u64) (by omega), congrArg (Value.int .u64) (by omega), HN.out, by omega⟩
              case measure => simp [intOf]; omega
          · have hQ1 := guess_done HG.out ha (by omega)
            have HQ1 := Lib.hid (hQ1.trans hQ0.out.symm)
            have hC' : Hid (¬ r * 4294967296 + d0 < q * b) := hC
            clear hC hQ1
            generalize q * b = m at *
            have dC : decide (4294967296 * (r : Int) + (d0 : Int) < (m : Int)) = false := by have := hC'.out; simp; omega
            clear hA hR ha hb hs hs' hR64 hh
            go_wp2
            go_meet
            exact ⟨by rw [← HQ1.out], rfl⟩

    case rest =>
      obtain ⟨rfl, hwx⟩ := hcut
      replace hwx := hwx.symm
      subst hwx
      clear er1 er2 er3 e5 e6 e7 e8
      go_wp2
      go_ret2
      exact ⟨rfl, 0, rfl⟩
end Go.Proofs.Ytgmiggnlhcldlaa.Bits
