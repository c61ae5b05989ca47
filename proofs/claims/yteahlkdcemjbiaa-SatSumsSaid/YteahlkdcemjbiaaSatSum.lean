/- Sum, of sat and of the reference. -/
import Derived.Test.YteahlkdcemjbiaaSat5
namespace Go.Proofs.Yteahlkdcemjbiaa.Sat
open Go.RowKit Go.Proofs BigFrame
open Wide (Gives)
open Bits (sat_add)

/-- The row of these numbers. -/
def nums (l : List Nat) : List Value := l.map fun (x : Nat) => Value.int .u64 (x : Int)
theorem nums_len (l : List Nat) : (nums l).length = l.length := by simp [nums]
theorem nums_at {l : List Nat} {i : Nat} {x : Nat} (h : l[i]? = some x) : (nums l)[i]? = some (Value.int .u64 (x : Int)) := by simp [nums, h]
/-- A sum, capped. -/
def tot (l : List Nat) : Nat := min l.sum 18446744073709551615
theorem tot_le (l : List Nat) : tot l ≤ 18446744073709551615 := Nat.min_le_right _ _
theorem tot_step {l : List Nat} {k x : Nat} (h : l[k]? = some x) : min (tot (l.take k) + x) 18446744073709551615 = tot (l.take (k + 1)) := by
  have e : l.take (k + 1) = l.take k ++ [x] := by rw [List.take_add_one, h]; rfl
  simp only [tot, e, List.sum_append, List.sum_cons, List.sum_nil]; omega

set_option maxHeartbeats 1000000
theorem sat_sum (w : World) (va : Value) (l : List Nat) (ha : RowAt w va (nums l)) (hl : l.length ≤ 1000000) (hb : ∀ (i x : Nat), l[i]? = some x → x ≤ 18446744073709551615) :
    Calls Try.prog 28 #[va] w fun e w' => e = .returned (.int .u64 (tot l : Nat)) ∧ ∃ k, w' = w.drewN k := by
  obtain ⟨ad, ca, rfl, ha0, ha1⟩ := ha
  rw [nums_len]
  obtain ⟨n, hn⟩ : ∃ n, l.length = n := ⟨_, rfl⟩
  rw [hn] at hl ⊢
  have Hn := Lib.hid hn
  have Hb := Lib.hid hb
  clear hn hb
  go_enter Try.func28, Try.ntmps28
  go_wp2
  go_loopw [3, 8] (fun c i wr => ∃ k : Nat, k ≤ n ∧ i = .int .i64 k ∧ c = .int .u64 (tot (l.take k) : Nat) ∧ ∃ q, wr = w.drewN q) (fun _ i _ => n - (intOf i).toNat)
  case atStart => exact ⟨0, by omega, rfl, rfl, 0, rfl⟩
  case round =>
    obtain ⟨k, hk, rfl, rfl, q, rfl⟩ := hrel
    by_cases hlt : k < n
    · obtain ⟨x, hx⟩ : ∃ x, l[k]? = some x := ⟨l[k]'(by rw [Hn.out]; exact hlt), by simp⟩
      have hxb := Hb.out k x hx
      have hs := tot_step hx
      have hle := tot_le (l.take k)
      have hA := fun u => Lib.hid (sat_add (tot (l.take k)) x u hle hxb)
      rw [hs] at hA
      cases ad with
      | none => have := (ha0 rfl).1; have h3 := nums_at hx; rw [this] at h3; simp at h3
      | some aa =>
      obtain ⟨hsa, ea⟩ := ha1 aa rfl k _ (nums_at hx)
      obtain ⟨ga, oa, sa⟩ := aa
      simp only at hsa ea
      subst hsa
      have hI : (k : Int) < n := by omega
      generalize tot (l.take k) = c at *
      obtain ⟨c', hc'⟩ : ∃ c', tot (l.take (k + 1)) = c' := ⟨_, rfl⟩
      rw [hc'] at hA
      have HC := Lib.hid hc'.symm
      clear hc' hs hx ha0 ha1 hxb hle
      go_wp2_with fail
      refine (hA _).out.mono ?_
      rintro e w' ⟨rfl, rfl⟩
      go_wp2_with fail
      go_roundw
      case rel => exact ⟨k + 1, by omega, by go_num, by rw [HC.out], q, rfl⟩
      case measure => simp [intOf]; omega
    · obtain rfl : k = n := by omega
      have e : l.take k = l := List.take_of_length_le (by rw [Hn.out]; exact Nat.le_refl _)
      rw [e]
      obtain ⟨c, hc⟩ : ∃ c, tot l = c := ⟨_, rfl⟩
      rw [hc]
      have Hc := Lib.hid hc
      clear hc ha0 ha1
      go_wp2
      go_ret
      exact ⟨(congrArg (fun m : Nat => Ending.returned (.int .u64 (m : Int))) Hc.out).symm, q, rfl⟩

theorem ref_sum (w : World) (va : Value) (l : List Nat) (ha : RowAt w va (nums l)) (hl : l.length ≤ 1000000) (hb : ∀ (i x : Nat), l[i]? = some x → x ≤ 18446744073709551615) :
    Calls Try.prog 29 #[va] w fun e w' => Gives w (.int .u64 (tot l : Nat)) e w' := by
  obtain ⟨ad, ca, rfl, ha0, ha1⟩ := ha
  rw [nums_len]
  obtain ⟨n, hn⟩ : ∃ n, l.length = n := ⟨_, rfl⟩
  rw [hn] at hl ⊢
  have Hn := Lib.hid hn
  have Hb := Lib.hid hb
  clear hn hb
  go_enter Try.func29, Try.ntmps29
  go_wp2
  go_loopw [3, 4] (fun c i wr => ∃ k : Nat, k ≤ n ∧ i = .int .i64 k ∧ c = .int .u64 (tot (l.take k) : Nat) ∧ Upd Nowhere w wr) (fun _ i _ => n - (intOf i).toNat)
  case atStart => exact ⟨0, by omega, rfl, rfl, Upd.refl _ _⟩
  case round =>
    obtain ⟨k, hk, rfl, rfl, hu⟩ := hrel
    by_cases hlt : k < n
    · obtain ⟨x, hx⟩ : ∃ x, l[k]? = some x := ⟨l[k]'(by rw [Hn.out]; exact hlt), by simp⟩
      have hxb := Hb.out k x hx
      have hs := tot_step hx
      have hle := tot_le (l.take k)
      have hA := fun u => Lib.hid (ref_add (tot (l.take k)) x hle hxb u)
      rw [hs] at hA
      cases ad with
      | none => have := (ha0 rfl).1; have h3 := nums_at hx; rw [this] at h3; simp at h3
      | some aa =>
      obtain ⟨hsa, ea⟩ := ha1 aa rfl k _ (nums_at hx)
      obtain ⟨ga, oa, sa⟩ := aa
      simp only at hsa ea
      subst hsa
      have ea' : wr.cell? ⟨ga, oa + k, none⟩ = some (.int .u64 x) := (hu.cell _ (cell_lt ea) (fun h => h)).trans ea
      have hI : (k : Int) < n := by omega
      generalize tot (l.take k) = c at *
      obtain ⟨c', hc'⟩ : ∃ c', tot (l.take (k + 1)) = c' := ⟨_, rfl⟩
      rw [hc'] at hA
      have HC := Lib.hid hc'.symm
      clear hc' hs hx ha0 ha1 hxb hle
      go_wp2_with fail
      refine (hA _).out.mono ?_
      rintro e w1 ⟨rfl, u1⟩
      go_wp2_with fail
      go_roundw
      case rel => exact ⟨k + 1, by omega, by go_num, by rw [HC.out], hu.trans u1 (fun _ _ h => h)⟩
      case measure => simp [intOf]; omega
    · obtain rfl : k = n := by omega
      have e : l.take k = l := List.take_of_length_le (by rw [Hn.out]; exact Nat.le_refl _)
      rw [e]
      obtain ⟨c, hc⟩ : ∃ c, tot l = c := ⟨_, rfl⟩
      rw [hc]
      have Hc := Lib.hid hc
      clear hc ha0 ha1
      go_wp2
      go_ret
      exact ⟨(congrArg (fun m : Nat => Ending.returned (.int .u64 (m : Int))) Hc.out).symm, hu⟩
end Go.Proofs.Yteahlkdcemjbiaa.Sat
