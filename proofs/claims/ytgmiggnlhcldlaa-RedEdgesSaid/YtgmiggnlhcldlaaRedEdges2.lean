/- RedEdges: the law. -/
import Derived.Test.YtgmiggnlhcldlaaRedEdges
import Derived.Test.YtgmiggnlhcldlaaClose
namespace Go.Proofs.Ytgmiggnlhcldlaa.Red
open Go.RowKit Go.Proofs BigFrame
open Wide (Gives)
open Root (slo fol)
set_option maxHeartbeats 2000000
set_option maxRecDepth 100000
theorem edges_big (A B P hi n : Nat) (s : Int) (ad : Option Addr) (ca : Nat) (h : 300 < n) (w : World) :
    Calls Try.prog 11 #[.agg #[.int .u64 A, .int .u64 B, .int .u64 P, .int .i64 s], .slice ad (n : Nat) ca, .int .u64 hi] w fun e w' => e = .returned (.bool true) ∧ Upd Nowhere w w' := by
  have HL := fun u => Lib.hid (lives u)
  have t0 : decide ((n : Int) > 300) = true := decide_eq_true (by omega)
  have t1 : decide (300 < (n : Int)) = true := decide_eq_true (by omega)
  clear h
  go_enter Try.func11, Try.ntmps11
  go_wp2_with fail
  refine ((HL _).out).mono ?_
  rintro e w1 ⟨rfl, u1⟩
  go_wp2_with fail
  go_ret
  exact ⟨rfl, ((Upd.refl _ _).alloc _).trans u1 (fun _ _ h => h)⟩
theorem edges_no (A B P hi n : Nat) (s : Int) (ad : Option Addr) (ca : Nat) (h : n ≤ 300) (hc : ¬ok A B P s) (w : World) :
    Calls Try.prog 11 #[.agg #[.int .u64 A, .int .u64 B, .int .u64 P, .int .i64 s], .slice ad (n : Nat) ca, .int .u64 hi] w fun e w' => e = .returned (.bool true) ∧ Upd Nowhere w w' := by
  have HL := fun u => Lib.hid (lives u)
  have H1 := fun u => Lib.hid (may_no A B P s hc u)
  have t0 : decide ((n : Int) > 300) = false := decide_eq_false (by omega)
  have t1 : decide (300 < (n : Int)) = false := decide_eq_false (by omega)
  clear h hc
  go_enter Try.func11, Try.ntmps11
  go_wp2_with fail
  refine ((H1 _).out).mono ?_
  rintro e w1 ⟨rfl, u1⟩
  go_wp2_with fail
  refine ((HL _).out).mono ?_
  rintro e w2 ⟨rfl, u2⟩
  go_wp2_with fail
  go_ret
  exact ⟨rfl, (((Upd.refl _ _).alloc _).trans u1 (fun _ _ h => h)).trans u2 (fun _ _ h => h)⟩
theorem edges_law (A B P hi : Nat) (s : Int) (v : Value) (l : List Int) (w : World) (ha : RowAt w v (l.map (.int .u64))) (hw : ∀ n ∈ l, (Lit.int .u64 n).wf = true) (_hlen : l.length ≤ 9223372036854775807) :
    Calls Try.prog 11 #[.agg #[.int .u64 A, .int .u64 B, .int .u64 P, .int .i64 s], v, .int .u64 hi] w fun e w' => e = .returned (.bool true) ∧ Upd Nowhere w w' := by
  have e : l.map (Value.int .u64) = nums (l.map Int.toNat) := by
    unfold nums
    rw [List.map_map]
    refine List.map_congr_left fun n hn => ?_
    have := bd64 (hw n hn)
    simp only [Function.comp]
    congr 1; omega
  rw [e] at ha
  have hb : ∀ (i x : Nat), (l.map Int.toNat)[i]? = some x → x ≤ 18446744073709551615 := fun i x h => by
    have := List.mem_of_getElem? h
    obtain ⟨n, hn, rfl⟩ := List.mem_map.1 this
    have := bd64 (hw n hn)
    omega
  generalize l.map Int.toNat = q at *
  clear e hw
  obtain ⟨ad, ca, rfl, h0, hc⟩ := ha
  rcases Nat.lt_or_ge 300 q.length with hbig | hsm
  · have hq := nums_len q
    rw [hq]
    exact edges_big A B P hi _ s ad ca hbig w
  · by_cases h : ok A B P s
    · obtain ⟨S, rfl⟩ : ∃ S : Nat, s = S := ⟨s.toNat, by have := h.2.2.2.2.1; omega⟩
      rcases Nat.eq_zero_or_pos A with hA | hA
      · exact edges_zero A B P hi S ad ca q h hA hsm hb w h0 hc
      · exact edges_pos A B P hi S ad ca q h hA hsm hb w h0 hc
    · have hq := nums_len q
      rw [hq]
      exact edges_no A B P hi _ s ad ca hsm h w
end Go.Proofs.Ytgmiggnlhcldlaa.Red
