/- Adm0, one behind the other. -/
import Derived.Test.YtpgpjjkeginbbaaGreatDoorMtTab
import Derived.Test.YtpgpjjkeginbbaaGreatDoorMtSat
namespace Go.Proofs.YtpgpjjkeginbbaaGreatDoor.Adm
open Go.RowKit Go.Proofs BigFrame
set_option maxHeartbeats 4000000
set_option maxRecDepth 1000000
set_option linter.unusedSimpArgs false
abbrev VW (p b : Nat) : Value := .agg #[.int .i64 (p : Nat), .int .u64 (b : Nat)]
theorem plus_any (p b n : Nat) (w : World) (hp : p ≤ 4096) (hb : b + n ≤ 18446744073709551615) : Calls Tryz.prog 144 #[VW p b, .int .u64 n] w fun e w' => e = .returned (VW (p + 1) (b + n)) ∧ Upd Nowhere w w' := by
 have e0 : IntKind.u64.wrap ((b : Int) + (n : Int)) = ((b + n : Nat) : Int) := by rw [IntKind.wrap_u64]; omega
 have e1 : IntKind.i64.wrap ((p : Int) + 1) = ((p + 1 : Nat) : Int) := by rw [IntKind.wrap_i64]; omega
 go_enter Tryz.func144, Tryz.ntmps144
 go_wp2_with fail
 exact bodyPost_ret (v := .agg #[.int .i64 (p + 1 : Nat), .int .u64 (b + n : Nat)]) (by simp [results, Tryz.results144, go_sem]) rfl ⟨rfl, ((Upd.refl _ _).alloc _).alloc _⟩
theorem less_any (p b n : Nat) (w : World) (hp : 1 ≤ p) (hp2 : p ≤ 4096) (hb : n ≤ b) (hb2 : b ≤ 18446744073709551615) : Calls Tryz.prog 112 #[VW p b, .int .u64 n] w fun e w' => e = .returned (VW (p - 1) (b - n)) ∧ Upd Nowhere w w' := by
 have e0 : IntKind.u64.wrap ((b : Int) - (n : Int)) = ((b - n : Nat) : Int) := by rw [IntKind.wrap_u64]; omega
 have e1 : IntKind.i64.wrap ((p : Int) - 1) = ((p - 1 : Nat) : Int) := by rw [IntKind.wrap_i64]; omega
 go_enter Tryz.func112, Tryz.ntmps112
 go_wp2_with fail
 exact bodyPost_ret (v := .agg #[.int .i64 (p - 1 : Nat), .int .u64 (b - n : Nat)]) (by simp [results, Tryz.results112, go_sem]) rfl ⟨rfl, ((Upd.refl _ _).alloc _).alloc _⟩
/-- The first place of a number, or -1. -/
def idx (l : List Nat) (x : Nat) : Int := match l.findIdx? (· == x) with
 | none => -1
 | some i => i
theorem idx_at {l : List Nat} {x i : Nat} (h1 : l[i]? = some x) (h2 : ∀ j y, j < i → l[j]? = some y → y ≠ x) : idx l x = i := by
 have : l.findIdx? (· == x) = some i := by
  have hi : i < l.length := by
   rcases Nat.lt_or_ge i l.length with h | h
   · exact h
   · rw [List.getElem?_eq_none h] at h1; cases h1
  rw [List.findIdx?_eq_some_iff_getElem]
  refine ⟨hi, ?_, fun j hj => ?_⟩
  · rw [List.getElem?_eq_getElem hi] at h1; simpa using Option.some.inj h1
  · have := h2 j (l[j]'(by omega)) hj (List.getElem?_eq_getElem _)
    simpa using this
 unfold idx
 rw [this]
theorem idx_none {l : List Nat} {x : Nat} (h2 : ∀ (j y : Nat), l[j]? = some y → y ≠ x) : idx l x = -1 := by
 have : l.findIdx? (· == x) = none := by
  rw [List.findIdx?_eq_none_iff]
  intro y hy
  obtain ⟨j, hj, e⟩ := List.getElem_of_mem hy
  have := h2 j y (by rw [List.getElem?_eq_getElem hj, e])
  simpa using this
 unfold idx
 rw [this]
abbrev TU32 : TypeId := 42
/-- The numbers in memory. -/
theorem index_any {w : World} {ad : Option Addr} {n c : Nat} {l : List Nat} (hn : l.length = n) (hc : ∀ i x, l[i]? = some x → ∃ g o, ad = some ⟨g, o, none⟩ ∧ w.cell? ⟨g, o + i, none⟩ = some (.int .u32 (x : Nat))) (hl : n ≤ 4096) (x : Nat) :
 Calls Tryz.prog 135 #[.slice ad n c, .int .u32 x] w fun e w' => e = .returned (.int .i64 (idx l x)) ∧ w = w' := by
 obtain ⟨R, hR⟩ : ∃ R, idx l x = R := ⟨_, rfl⟩
 rw [hR]
 have HR := Lib.hid hR
 have HC := Lib.hid hc
 have HN := Lib.hid hn
 clear hR hc hn
 go_enter Tryz.func135, Tryz.ntmps135
 go_wp2_with fail
 go_loopg [5, 8] (n + 1) (fun gk _ v8 wr => ∃ (i : Nat), n - i < gk ∧ i ≤ n ∧ v8 = .int .i64 i ∧ Hid (∀ j y, j < i → l[j]? = some y → y ≠ x) ∧ wr = w)
 case atStart => exact ⟨0, by omega, Nat.zero_le _, rfl, Lib.hid (fun j y hj => absurd hj (Nat.not_lt_zero _)), rfl⟩
 case round =>
  obtain ⟨i, hgk, hin, rfl, HA, rfl⟩ := hrel
  have HGK := Lib.hid hgk
  clear hgk
  rcases Nat.lt_or_ge i n with hlt | hge
  · obtain ⟨y, hy⟩ : ∃ y, l[i]? = some y := ⟨l[i]'(by rw [HN.out]; exact hlt), by simp⟩
    obtain ⟨g, o, rfl, hcell⟩ := HC.out i y hy
    have hI : (i : Int) < n := by omega
    have HY := Lib.hid hy
    clear hy
    by_cases e : y = x
    · subst e
      have hRi : R = i := by rw [← HR.out]; exact idx_at HY.out HA.out
      subst hRi
      go_wp2_with fail
      go_ret
      exact ⟨rfl, rfl⟩
    · have b0 : ((x : Int) == (y : Int)) = false := by simp; omega
      have b1 : (x == y) = false := by simp; omega
      have b2 : decide ((x : Int) = (y : Int)) = false := by simp; omega
      go_wp2_with fail
      go_roundg (n - i)
      case rel =>
       refine ⟨i + 1, by omega, by omega, rfl, Lib.hid (fun j z hj hz => ?_), rfl⟩
       by_cases ej : j = i
       · subst ej; rw [HY.out] at hz; cases hz; exact e
       · exact HA.out j z (by omega) hz
      case measure => have := HGK.out; omega
  · obtain rfl : i = n := by omega
    have dI : decide ((i : Int) < i) = false := by simp
    have hRi : R = -1 := by
     rw [← HR.out]
     exact idx_none (fun j y hy => HA.out j y (by rcases Nat.lt_or_ge j l.length with h | h; exact (by rw [HN.out] at h; exact h); exact absurd hy (by rw [List.getElem?_eq_none h]; simp)) hy)
    subst hRi
    go_wp2_with fail
    go_ret
    exact ⟨rfl, rfl⟩
theorem idx_any (l : List Nat) (x : Nat) : decide (idx l x ≥ 0) = l.any (· == x) := by
 unfold idx
 cases h : l.findIdx? (· == x) with
 | none =>
   have h2 : l.any (· == x) = false := by
    rw [List.findIdx?_eq_none_iff] at h
    rw [List.any_eq_false]
    intro y hy
    rw [h y hy]; simp
   rw [h2]; simp
 | some i =>
   have h2 : l.any (· == x) = true := by
    rw [List.findIdx?_eq_some_iff_getElem] at h
    obtain ⟨hi, h1, _⟩ := h
    rw [List.any_eq_true]
    exact ⟨_, List.getElem_mem hi, h1⟩
   rw [h2]; simp
theorem contains_any {w : World} {ad : Option Addr} {n c : Nat} {l : List Nat} (hn : l.length = n) (hc : ∀ i x, l[i]? = some x → ∃ g o, ad = some ⟨g, o, none⟩ ∧ w.cell? ⟨g, o + i, none⟩ = some (.int .u32 (x : Nat))) (hl : n ≤ 4096) (x : Nat) :
 Calls Tryz.prog 97 #[.slice ad n c, .int .u32 x] w fun e w' => e = .returned (.bool (l.any (· == x))) ∧ w = w' := by
 have HI := Lib.hid (index_any (c := c) hn hc hl x)
 rw [← idx_any]
 clear hc hn
 generalize idx l x = R at *
 go_enter Tryz.func97, Tryz.ntmps97
 go_wp2_with fail
 refine (HI.out).mono ?_
 rintro e w' ⟨rfl, rfl⟩
 go_wp2_with fail
 go_ret
 exact ⟨rfl, rfl⟩
end Go.Proofs.YtpgpjjkeginbbaaGreatDoor.Adm

