/- DrrPlays: the law. -/
import Derived.Test.YtopibbaopglggaaDrrPlays2
namespace Go.Proofs.Ytopibbaopglggaa.Drr
open Go.RowKit Go.Proofs BigFrame
set_option maxHeartbeats 1000000
set_option maxRecDepth 1000000
theorem plays_big (ad : Option Addr) (n ca : Nat) (ad2 : Option Addr) (N ca2 : Nat) (w : World) (h : 100 < n ∨ 200 < N) :
    Calls Try.prog 9 #[.slice ad n ca, .slice ad2 N ca2] w fun e w' => e = .returned (.bool true) ∧ Upd Nowhere w w' := by
  by_cases h1 : 100 < n
  · have t0 : decide ((n : Int) > 100) = true := decide_eq_true (by omega)
    have t1 : decide (100 < (n : Int)) = true := decide_eq_true (by omega)
    clear h h1
    go_enter Try.func9, Try.ntmps9
    go_wp2_with fail
    refine ((lives _)).mono ?_
    rintro e w3 ⟨rfl, u3⟩
    go_wp2_with fail
    go_ret
    exact ⟨rfl, u3⟩
  · have t0 : decide ((n : Int) > 100) = false := decide_eq_false (by omega)
    have t1 : decide (100 < (n : Int)) = false := decide_eq_false (by omega)
    have t2 : decide ((N : Int) > 200) = true := decide_eq_true (by omega)
    have t3 : decide (200 < (N : Int)) = true := decide_eq_true (by omega)
    clear h h1
    go_enter Try.func9, Try.ntmps9
    go_wp2_with fail
    refine ((lives _)).mono ?_
    rintro e w3 ⟨rfl, u3⟩
    go_wp2_with fail
    go_ret
    exact ⟨rfl, u3⟩
theorem plays_len (ad : Option Addr) (ca : Nat) (l : List Nat) (ad2 : Option Addr) (N ca2 : Nat) (w : World) (h : l.length = 0 ∨ 64 < l.length) (h1 : l.length ≤ 100) (h2 : N ≤ 200)
    (h0 : ad = none → l = []) (hc : ∀ g, ad = some g → ∀ j x, l[j]? = some x → g.spot = none ∧ w.cell? ⟨g.block, g.off + j, none⟩ = some (.int .u64 (x : Nat))) :
    Calls Try.prog 9 #[.slice ad l.length ca, .slice ad2 N ca2] w fun e w' => e = .returned (.bool true) ∧ Upd Nowhere w w' := by
  have HN := Lib.hid (new_len w ad l.length ca h)
  have HK := Lib.hid (Ref29.check_any w ad ca l h0 hc)
  have hck : checkOf l = 29 := by unfold checkOf; rw [if_pos h]
  rw [hck] at HK
  clear h0 hc h hck
  generalize l.length = n at *
  have t0 : decide ((n : Int) > 100) = false := decide_eq_false (by omega)
  have t1 : decide (100 < (n : Int)) = false := decide_eq_false (by omega)
  have t2 : decide ((N : Int) > 200) = false := decide_eq_false (by omega)
  have t3 : decide (200 < (N : Int)) = false := decide_eq_false (by omega)
  clear h1 h2
  go_enter Try.func9, Try.ntmps9
  go_wp2_with fail
  refine (HN.out).mono ?_
  rintro e w1 ⟨rfl, rfl⟩
  go_wp2_with fail
  refine (HK.out).mono ?_
  rintro e w2 ⟨rfl, rfl⟩
  go_wp2_with fail
  refine ((lives _)).mono ?_
  rintro e w3 ⟨rfl, u3⟩
  go_wp2_with fail
  go_ret
  exact ⟨rfl, u3⟩
theorem plays_bad (ad : Option Addr) (ca : Nat) (l : List Nat) (ad2 : Option Addr) (N ca2 : Nat) (w : World) (h1 : 1 ≤ l.length) (h64 : l.length ≤ 64) (hg : l.all good = false) (h2 : N ≤ 200)
    (h0 : ad = none → l = []) (hc : ∀ g, ad = some g → ∀ j x, l[j]? = some x → g.spot = none ∧ w.cell? ⟨g.block, g.off + j, none⟩ = some (.int .u64 (x : Nat))) :
    Calls Try.prog 9 #[.slice ad l.length ca, .slice ad2 N ca2] w fun e w' => e = .returned (.bool true) ∧ Upd Nowhere w w' := by
  have HN := Lib.hid (new_some w ad ca l h1 h64 h0 hc)
  have HK := fun u (hu : Upd Nowhere w u) => Lib.hid (Ref29.check_any u ad ca l h0 (fun g hg j x hx => ⟨(hc g hg j x hx).1, cell_old hu (hc g hg j x hx).2⟩))
  have hck : checkOf l = 6 := by unfold checkOf; rw [if_neg (by omega), if_neg (by rw [hg]; simp)]
  rw [hck] at HK
  have HG := Lib.hid hg
  clear h0 hc hck hg
  generalize l.length = n at *
  have t0 : decide ((n : Int) > 100) = false := decide_eq_false (by omega)
  have t1 : decide (100 < (n : Int)) = false := decide_eq_false (by omega)
  have t2 : decide ((N : Int) > 200) = false := decide_eq_false (by omega)
  have t3 : decide (200 < (N : Int)) = false := decide_eq_false (by omega)
  clear h1 h2 h64
  go_enter Try.func9, Try.ntmps9
  go_wp2_with fail
  refine HN.out.mono ?_
  rintro e w1 ⟨u1, hres⟩
  rcases hres with ⟨rfl, -⟩ | ⟨hgood, -⟩
  · have HU1 := Lib.hid u1
    clear u1
    go_wp2_with fail
    refine (HK _ HU1.out).out.mono ?_
    rintro e w2 ⟨rfl, rfl⟩
    go_wp2_with fail
    refine ((lives _)).mono ?_
    rintro e w3 ⟨rfl, u3⟩
    go_wp2_with fail
    go_ret
    exact ⟨rfl, HU1.out.trans u3 (fun _ _ h => h)⟩
  · rw [HG.out] at hgood; cases hgood
theorem plays_law (v : Value) (l : List Int) (v2 : Value) (acts : List (Bool × Int × Nat)) (w : World) (hr : RowAt w v (l.map (.int .u64))) (hw : ∀ n ∈ l, (Lit.int .u64 n).wf = true) (hb : ∀ a ∈ acts, a.2.2 ≤ 18446744073709551615) (hv : RowsAt w v2 acts.length (acts.flatMap actv)) :
    Calls Try.prog 9 #[v, v2] w fun e w' => e = .returned (.bool true) ∧ Upd Nowhere w w' := by
  obtain ⟨ad2, ca2, rfl, h02, _, _, hc2⟩ := hv
  have hb64 : ∀ x ∈ l, 0 ≤ x ∧ x ≤ 18446744073709551615 := fun x hx => by have := bd64 (hw x hx); omega
  have hnr : RowAt w v (nrow .u64 (l.map Int.toNat)) := by
    have e : nrow .u64 (l.map Int.toNat) = l.map (.int .u64) := by
      unfold nrow
      rw [List.map_map]
      exact List.map_congr_left fun x hx => by show Value.int .u64 ((x.toNat : Nat) : Int) = _; rw [Int.toNat_of_nonneg (hb64 x hx).1]
    rw [e]; exact hr
  obtain ⟨ad, ca, rfl, h0, hc⟩ := nrow_parts hnr
  generalize l.map Int.toNat = m at *
  by_cases hbig : 100 < m.length ∨ 200 < acts.length
  · exact plays_big ad _ ca ad2 _ ca2 w hbig
  · by_cases hlen : m.length = 0 ∨ 64 < m.length
    · exact plays_len ad ca m ad2 _ ca2 w hlen (by omega) (by omega) h0 hc
    · cases hg : m.all good with
      | false => exact plays_bad ad ca m ad2 _ ca2 w (by omega) (by omega) hg (by omega) h0 hc
      | true =>
        obtain ⟨x0, hx0⟩ : ∃ x, m[0]? = some x := ⟨m[0]'(by omega), by simp⟩
        cases ad with
        | none => have := h0 rfl; rw [this] at hx0; cases hx0
        | some g =>
          obtain ⟨hs, hcell⟩ := hc g rfl 0 x0 hx0
          obtain ⟨gb, go, sp⟩ := g
          simp only at hs
          subst hs
          exact plays_ok gb go ca m (by omega) (by omega) hg ad2 ca2 acts (by omega) hb w (fun j x hx => (hc _ rfl j x hx).2) (cell_lt hcell) (fun h => List.eq_nil_of_length_eq_zero (h02 h).1) hc2
end Go.Proofs.Ytopibbaopglggaa.Drr
