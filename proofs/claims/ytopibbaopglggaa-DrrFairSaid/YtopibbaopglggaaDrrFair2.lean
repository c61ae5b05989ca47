/- DrrFair: the law. -/
import Derived.Test.YtopibbaopglggaaDrrFair
namespace Go.Proofs.Ytopibbaopglggaa.Drr
open Go.RowKit Go.Proofs BigFrame
set_option maxHeartbeats 16000000
set_option maxRecDepth 1000000
theorem fair_big (ad : Option Addr) (n ca : Nat) (ad2 : Option Addr) (n2 ca2 : Nat) (F G K : Nat) (w : World) (h : n < 2 ∨ 8 < n ∨ n2 = 0 ∨ 300 < n2) :
    Calls Try.prog 6 #[.slice ad n ca, .slice ad2 n2 ca2, .agg #[.int .u8 F, .int .u8 G, .int .u8 K]] w fun e w' => e = .returned (.bool true) ∧ Upd Nowhere w w' := by
  have HL := fun u => Lib.hid (lives u)
  have hA1 : Blk (w.alloc (.cells #[.int .u8 F, .int .u8 G, .int .u8 K] T3)) w.heap.size #[.int .u8 F, .int .u8 G, .int .u8 K] T3 := Blk.new _ _ _
  have hUa : Upd Nowhere w (w.alloc (.cells #[.int .u8 F, .int .u8 G, .int .u8 K] T3)) := (Upd.refl _ _).alloc _
  by_cases h0 : n < 2
  · have t0 : decide ((n : Int) < 2) = true := decide_eq_true (by omega)
    have t0' : decide (n < 2) = true := decide_eq_true h0
    clear h
    go_enter Try.func6, Try.ntmps6
    go_wp2_with fail
    generalize w.alloc (.cells #[.int .u8 F, .int .u8 G, .int .u8 K] T3) = wF at *
    obtain ⟨a0, a1, a2, _, _, _⟩ := cells3 hA1
    clear hA1
    go_quiet (fail)
    go_wp2_with fail
    refine ((HL _).out).mono ?_
    rintro e w1 ⟨rfl, u1⟩
    go_wp2_with fail
    go_ret
    exact ⟨rfl, (hUa.drewN _).trans u1 (fun _ _ h => h)⟩
  have t0 : decide ((n : Int) < 2) = false := decide_eq_false (by omega)
  have t0' : decide (n < 2) = false := decide_eq_false h0
  by_cases h1 : 8 < n
  · have t1 : decide ((n : Int) > 8) = true := decide_eq_true (by omega)
    have t2 : decide (8 < n) = true := decide_eq_true h1
    clear h h0
    go_enter Try.func6, Try.ntmps6
    go_wp2_with fail
    generalize w.alloc (.cells #[.int .u8 F, .int .u8 G, .int .u8 K] T3) = wF at *
    obtain ⟨a0, a1, a2, _, _, _⟩ := cells3 hA1
    clear hA1
    go_quiet (fail)
    go_wp2_with fail
    refine ((HL _).out).mono ?_
    rintro e w1 ⟨rfl, u1⟩
    go_wp2_with fail
    go_ret
    exact ⟨rfl, (hUa.drewN _).trans u1 (fun _ _ h => h)⟩
  have t1 : decide ((n : Int) > 8) = false := decide_eq_false (by omega)
  have t2 : decide (8 < n) = false := decide_eq_false h1
  by_cases h2 : n2 = 0
  · subst h2
    clear h h0
    go_enter Try.func6, Try.ntmps6
    go_wp2_with fail
    generalize w.alloc (.cells #[.int .u8 F, .int .u8 G, .int .u8 K] T3) = wF at *
    obtain ⟨a0, a1, a2, _, _, _⟩ := cells3 hA1
    clear hA1
    go_quiet (fail)
    go_wp2_with fail
    refine ((HL _).out).mono ?_
    rintro e w1 ⟨rfl, u1⟩
    go_wp2_with fail
    go_ret
    exact ⟨rfl, (hUa.drewN _).trans u1 (fun _ _ h => h)⟩
  have t2' : ((n2 : Int) == 0) = false := by simp; omega
  have t3 : decide ((n2 : Int) > 300) = true := decide_eq_true (by omega)
  have t4 : decide (300 < n2) = true := decide_eq_true (by omega)
  clear h h0
  go_enter Try.func6, Try.ntmps6
  go_wp2_with fail
  generalize w.alloc (.cells #[.int .u8 F, .int .u8 G, .int .u8 K] T3) = wF at *
  obtain ⟨a0, a1, a2, _, _, _⟩ := cells3 hA1
  clear hA1
  go_quiet (fail)
  go_wp2_with fail
  refine ((HL _).out).mono ?_
  rintro e w1 ⟨rfl, u1⟩
  go_wp2_with fail
  go_ret
  exact ⟨rfl, (hUa.drewN _).trans u1 (fun _ _ h => h)⟩
theorem row16 {v : Value} {l : List Int} {w : World} (hr : RowAt w v (l.map (.int .u16))) (hw : ∀ n ∈ l, (Lit.int .u16 n).wf = true) : (∃ ad c, v = .slice ad (l.map Int.toNat).length c ∧ (ad = none → l.map Int.toNat = []) ∧ ∀ g, ad = some g → ∀ (j x : Nat), (l.map Int.toNat)[j]? = some x → g.spot = none ∧ w.cell? ⟨g.block, g.off + j, none⟩ = some (.int .u16 (x : Nat))) ∧ ∀ x ∈ l.map Int.toNat, x ≤ 65535 := by
  have hb16 : ∀ x ∈ l, 0 ≤ x ∧ x ≤ 65535 := fun x hx => by have := bd16 (hw x hx); omega
  have hnr : RowAt w v (nrow .u16 (l.map Int.toNat)) := by
    have e : nrow .u16 (l.map Int.toNat) = l.map (.int .u16) := by
      unfold nrow
      rw [List.map_map]
      exact List.map_congr_left fun x hx => by show Value.int .u16 ((x.toNat : Nat) : Int) = _; rw [Int.toNat_of_nonneg (hb16 x hx).1]
    rw [e]; exact hr
  exact ⟨nrow_parts hnr, fun x hx => by obtain ⟨y, hy, rfl⟩ := List.mem_map.1 hx; have := hb16 y hy; omega⟩
theorem fair_law (v : Value) (l : List Int) (v2 : Value) (szs : List Int) (F G K : Nat) (hF : F ≤ 255) (hG : G ≤ 255) (hK : K ≤ 255) (w : World) (hr : RowAt w v (l.map (.int .u16))) (hw : ∀ n ∈ l, (Lit.int .u16 n).wf = true) (hr2 : RowAt w v2 (szs.map (.int .u16))) (hw2 : ∀ n ∈ szs, (Lit.int .u16 n).wf = true) :
    Calls Try.prog 6 #[v, v2, .agg #[.int .u8 F, .int .u8 G, .int .u8 K]] w fun e w' => e = .returned (.bool true) ∧ Upd Nowhere w w' := by
  obtain ⟨⟨ad, ca, rfl, h0, hc⟩, hl⟩ := row16 hr hw
  obtain ⟨⟨ad2, ca2, rfl, h02, hc2⟩, hl2⟩ := row16 hr2 hw2
  by_cases hbig : (l.map Int.toNat).length < 2 ∨ 8 < (l.map Int.toNat).length ∨ (szs.map Int.toNat).length = 0 ∨ 300 < (szs.map Int.toNat).length
  · exact fair_big ad _ ca ad2 _ ca2 F G K w hbig
  · exact fair_walk ad ca (l.map Int.toNat) (by omega) (by omega) hl ad2 ca2 (szs.map Int.toNat) (by omega) (by omega) hl2 F G K hF hG hK w h0 hc h02 hc2
end Go.Proofs.Ytopibbaopglggaa.Drr
