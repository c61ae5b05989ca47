/- The reference's Last on rows of int. -/
import Derived.Test.YtcjneckhaempkaaRef06
namespace Go.Proofs.Ytcjneckhaempkaa.Ref06
open Go.RowKit Go.Proofs BigFrame
set_option maxHeartbeats 400000
theorem wrap_sub {L k : Nat} (h : k ≤ L) (hl : L ≤ 1000000) : IntKind.i64.wrap ((L : Int) - (k : Int)) = ((L - k : Nat) : Int) := by
  rw [Int.ofNat_sub h]
  rw [IntKind.wrap_i64]; omega
theorem last_ref (w : World) (va : Value) (la : List Int) (n : Int) (ha : RowAt w va (ints la)) (hl : la.length ≤ 1000000) :
    Calls Try.prog 26 #[va, .int .i64 n] w fun e w' => NewRow w w' e (la.drop (la.length - min (max n 0).toNat la.length)) := by
  obtain ⟨i0, hi, hz0, hz1, hz2⟩ := info_parts info
  have HA := Lib.hid ha
  rcases ha.form with ⟨ad, c, rfl, hnil⟩ | ⟨g, o, c, rfl, hc⟩
  · have hla : la = [] := by simpa [ints] using hnil
    subst hla
    clear ha
    go_enter Try.func26, Try.ntmps26
    go_wp2_with fail
    go_loopw [5, 6] (fun o i wr => o = .slice none 0 0 ∧ i = .int .i64 0 ∧ wr = w) (fun _ _ _ => 0)
    case atStart => exact ⟨rfl, rfl, rfl⟩
    case round =>
      obtain ⟨rfl, rfl, rfl⟩ := hrel
      go_wp2_with fail
      go_ret
      exact ⟨⟨_, rfl, by simpa [ints] using ownsRow_nil _ _ _ _⟩, Upd.refl _ _⟩
  · clear ha
    rw [ints_len]
    obtain ⟨L, hL⟩ : ∃ L, la.length = L := ⟨_, rfl⟩
    rw [hL] at hl ⊢
    obtain ⟨s, hs⟩ : ∃ s : Nat, L - min (max n 0).toNat L = s := ⟨_, rfl⟩
    rw [hs]
    have HL := Lib.hid hL
    have Hc := Lib.hid hc
    have Hs := Lib.hid hs
    clear hL hc hs
    go_enter Try.func26, Try.ntmps26
    go_wp2_with fail
    go_loopw [5, 6] (fun ov i wr => ∃ k : Nat, k ≤ L ∧ i = .int .i64 k ∧ wr.ownsRow w.heap.size 3 1 ov (k - s) (ints ((la.drop s).take (k - s))) ∧ Upd Nowhere w wr) (fun _ i _ => L - (intOf i).toNat)
    case atStart => exact ⟨0, Nat.zero_le _, rfl, by simpa [ints] using ownsRow_nil _ _ _ _, Upd.refl _ _⟩
    case round =>
      obtain ⟨k, hk1, rfl, hown, hu⟩ := hrel
      by_cases hlt : k < L
      · have hI : (k : Int) < L := by omega
        have ew := wrap_sub hk1 hl
        obtain ⟨x, hx⟩ : ∃ x, la[k]? = some x := ⟨la[k]'(by rw [HL.out]; exact hlt), by simp⟩
        have hcell : w.cell? ⟨g, o + k, none⟩ = some (.int .i64 x) := Hc.out k _ (ints_at hx)
        have hcell' : wr.cell? ⟨g, o + k, none⟩ = some (.int .i64 x) := cell_old hu hcell
        clear hcell
        have Hx := Lib.hid hx
        clear hx
        have hle : w.heap.size ≤ wr.heap.size := hu.size
        by_cases hin : s ≤ k
        · have t1 : decide (((L - k : Nat) : Int) ≤ n) = true := decide_eq_true (by have := Hs.out; omega)
          go_wp2_with (at_builtin; refine wpList_push rfl _ _ 22 rfl w.heap.size 3 i0 (.int .i64 0) 1 8 Try.underlying22 hi hz0 hz1 hz2 rfl (by decide) (by decide) _ _ _ rfl (hown.alloc _) wr.heap.size 1 [.int .i64 x] rfl rfl (new_cells _ #[_] _) (by simp [Value.oneCell']) (by omega) (by simp; omega) ?_; intro v2 w2 hown2 hu2 hn2)
          go_roundw
          case rel =>
            refine ⟨k + 1, by omega, by go_num, ?_, ?_⟩
            · have e1 : k + 1 - s = k - s + 1 := by omega
              have e2 : (la.drop s).take (k - s + 1) = (la.drop s).take (k - s) ++ [x] := by
                rw [List.take_add_one]
                have : (la.drop s)[k - s]? = some x := by rw [List.getElem?_drop, show s + (k - s) = k by omega]; exact Hx.out
                rw [this]; rfl
              rw [e1, e2]
              simpa [ints] using hown2
            · exact (hu.alloc _).trans hu2 (fun i hi2 hi3 => absurd (hown.lt i hi3).1 (Nat.not_le.2 hi2))
          case measure => simp [intOf]; omega
        · have t1 : decide (((L - k : Nat) : Int) ≤ n) = false := decide_eq_false (by have := Hs.out; omega)
          go_wp2_with fail
          go_roundw
          case rel =>
            refine ⟨k + 1, by omega, by go_num, ?_, hu⟩
            have e1 : k - s = 0 := by omega
            have e2 : k + 1 - s = 0 := by omega
            rw [e1] at hown
            rw [e2]
            exact hown
          case measure => simp [intOf]; omega
      · have hkl : k = L := by omega
        have hI : ¬ (k : Int) < L := by omega
        go_wp2_with fail
        go_ret
        refine ⟨⟨_, rfl, ?_⟩, hu⟩
        have e : (la.drop s).take (k - s) = la.drop s := List.take_of_length_le (by rw [List.length_drop, HL.out]; omega)
        have e2 : (la.drop s).length = k - s := by rw [List.length_drop, HL.out]; omega
        rw [e] at hown
        rw [e2]
        exact hown
end Go.Proofs.Ytcjneckhaempkaa.Ref06
