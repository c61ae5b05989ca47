/- SpLays: all its cases. -/
import Derived.Test.YtopibbaopglggaaSpLays2
import Derived.Test.YtopibbaopglggaaOpen
namespace Go.Proofs.Ytopibbaopglggaa.SpI
open Go.RowKit Go.Proofs BigFrame
open PairI (TR TE el flat)
set_option maxHeartbeats 1000000
set_option maxRecDepth 1000000
theorem lays_big (w : World) (adb : Option Addr) (nb cb : Nat) (ad1 : Option Addr) (nq c1 : Nat) (adh : Option Addr) (N ch : Nat) (h : 40 < nq ∨ 40 < nb ∨ 40 < N) :
    Calls Try.prog 11 #[.slice adb nb cb, .slice ad1 nq c1, .slice adh N ch] w fun e w' => e = .returned (.bool true) ∧ Upd Nowhere w w' := by
  obtain ⟨m1, hm1⟩ : ∃ m1, IntKind.i64.wrap ((if (nb : Int) < 1 then (1 : Int) else nb) - 1) = m1 := ⟨_, rfl⟩
  rcases Nat.lt_or_ge 40 nq with h1 | h1
  · have t0 : decide ((nq : Int) > 40) = true := decide_eq_true (by omega)
    have t1 : decide (40 < (nq : Int)) = true := decide_eq_true (by omega)
    have t2 : decide (40 < nq) = true := decide_eq_true (by omega)
    clear h h1
    go_enter Try.func11, Try.ntmps11
    go_wp2_with fail
    refine ((Sp.lives _)).mono ?_
    rintro e w3 ⟨rfl, u3⟩
    go_wp2_with fail
    go_ret
    exact ⟨rfl, u3⟩
  have t0 : decide ((nq : Int) > 40) = false := decide_eq_false (by omega)
  have t1 : decide (40 < (nq : Int)) = false := decide_eq_false (by omega)
  have t0' : decide (40 < nq) = false := decide_eq_false (by omega)
  rcases Nat.lt_or_ge 40 nb with h2 | h2
  · have t2 : decide ((nb : Int) > 40) = true := decide_eq_true (by omega)
    have t3 : decide (40 < (nb : Int)) = true := decide_eq_true (by omega)
    have t4 : decide (40 < nb) = true := decide_eq_true (by omega)
    clear h h1 h2
    go_enter Try.func11, Try.ntmps11
    go_wp2_with fail
    refine ((Sp.lives _)).mono ?_
    rintro e w3 ⟨rfl, u3⟩
    go_wp2_with fail
    go_ret
    exact ⟨rfl, u3⟩
  have t2 : decide ((nb : Int) > 40) = false := decide_eq_false (by omega)
  have t3 : decide (40 < (nb : Int)) = false := decide_eq_false (by omega)
  have t3' : decide (40 < nb) = false := decide_eq_false (by omega)
  have h3 : 40 < N := by omega
  have t4 : decide ((N : Int) > 40) = true := decide_eq_true (by omega)
  have t5 : decide (40 < (N : Int)) = true := decide_eq_true (by omega)
  have t6 : decide (40 < N) = true := decide_eq_true (by omega)
  clear h h1 h2 h3
  go_enter Try.func11, Try.ntmps11
  go_wp2_with fail
  refine ((Sp.lives _)).mono ?_
  rintro e w3 ⟨rfl, u3⟩
  go_wp2_with fail
  go_ret
  exact ⟨rfl, u3⟩
/-- A row of acts, by its list. -/
def Acts (w : World) (v : Value) : Prop := ∃ l : List Ac, (∀ a ∈ l, a.1 ≤ 255 ∧ a.2.1 ≤ 18446744073709551615) ∧ RowsAt w v l.length (l.flatMap act)
theorem one_at : ∀ (l : List Value) (i : Nat) (v : Value), l[i]? = some v → (l.flatMap fun v => [v])[i]? = some v
  | [], i, v, h => by simp at h
  | a :: l, 0, v, h => by simpa using h
  | a :: l, i + 1, v, h => by
    rw [List.flatMap_cons]
    have := one_at l i v (by simpa using h)
    simpa using this
theorem qs_of {w : World} {ad : Option Addr} (l : List Value) (hg : ∀ v ∈ l, Acts w v) (h0 : ad = none → l.length = 0)
    (hc : ∀ b, ad = some b → ∀ (j : Nat) (u : Value), (l.flatMap fun v => [v])[j]? = some u → b.spot = none ∧ w.cell? ⟨b.block, b.off + j, none⟩ = some u) :
    ∃ (qv : Nat → Value) (Q : Nat → List Ac), Qs w ad l.length qv Q := by
  have hQ : ∀ i, ∃ q : List Ac, i < l.length → RowsAt w (l.getD i (.bool false)) q.length (q.flatMap act) := fun i => by
    by_cases hi : i < l.length
    · obtain ⟨q, _, hq⟩ := hg l[i] (List.getElem_mem hi)
      refine ⟨q, fun _ => ?_⟩
      rw [List.getD_eq_getElem?_getD, List.getElem?_eq_getElem hi]
      exact hq
    · exact ⟨[], fun h => absurd h hi⟩
  refine ⟨fun i => l.getD i (.bool false), fun i => (hQ i).choose, h0, fun g hg i hi => ?_, fun i hi => (hQ i).choose_spec hi⟩
  exact hc g hg i _ (one_at l i _ (by rw [List.getD_eq_getElem?_getD, List.getElem?_eq_getElem hi]; rfl))
theorem lays_law (v0 : Value) (l0 : List Int) (v1 : Value) (l1 : List Value) (v2 : Value) (l2 : List Ac) (w : World) (r0 : RowAt w v0 (l0.map (.int .u64))) (w0 : ∀ n ∈ l0, (Lit.int .u64 n).wf = true)
    (hg1 : ∀ v ∈ l1, Acts w v) (r1 : RowsAt w v1 l1.length (l1.flatMap fun v => [v])) (hg2 : ∀ a ∈ l2, a.1 ≤ 255 ∧ a.2.1 ≤ 18446744073709551615) (r2 : RowsAt w v2 l2.length (l2.flatMap act)) :
    Calls Try.prog 11 #[v0, v1, v2] w fun e w' => e = .returned (.bool true) ∧ Upd Nowhere w w' := by
  obtain ⟨adb, cb, rfl, h0, hc0⟩ := r0
  obtain ⟨ad1, c1, rfl, h1, _, _, hc1⟩ := r1
  obtain ⟨adh, ch, rfl, h2, _, _, hc2⟩ := r2
  rw [List.length_map]
  by_cases hbig : 40 < l1.length ∨ 40 < l0.length ∨ 40 < l2.length
  · exact lays_big w adb _ cb ad1 _ c1 adh _ ch hbig
  have hget : ∀ i, i < l0.length → ∃ x : Nat, l0[i]? = some (x : Int) ∧ x ≤ 18446744073709551615 := fun i hi => by
    have := bd64 (w0 l0[i] (List.getElem_mem hi))
    exact ⟨l0[i].toNat, by rw [List.getElem?_eq_getElem hi, Int.toNat_of_nonneg this.1], by omega⟩
  have hD : ∀ i (x : Nat), l0[i]? = some (x : Int) → (l0.map Int.toNat).getD i 0 = x := fun i x h => by
    rw [List.getD_eq_getElem?_getD, List.getElem?_map, h]; rfl
  have hf : Nums w adb l0.length (fun i => (l0.map Int.toNat).getD i 0) := ⟨fun h => by have := (h0 h).1; simpa using this, fun g hg i hi => by
    obtain ⟨x, hx, _⟩ := hget i hi
    have := hc0 g hg i (.int .u64 x) (by rw [List.getElem?_map, hx]; rfl)
    rw [hD i x hx]
    exact this⟩
  obtain ⟨qv, Q, hq⟩ := qs_of l1 hg1 (fun h => (h1 h).1) hc1
  refine lays_ok w adb _ cb _ hf (fun i hi => ?_) (fun h0' g hg => ?_) (by omega) ad1 _ c1 qv Q hq (by omega) adh ch l2 (by omega) (fun i a h => hg2 a (List.mem_of_getElem? h)) (fun h => (h2 h).1) hc2
  · obtain ⟨x, hx, hb⟩ := hget i hi
    rw [hD i x hx]; exact hb
  · obtain ⟨x, hx, _⟩ := hget 0 h0'
    have h9 := cell_lt (hc0 g hg 0 (.int .u64 x) (by rw [List.getElem?_map, hx]; rfl)).2
    exact h9
end Go.Proofs.Ytopibbaopglggaa.SpI
