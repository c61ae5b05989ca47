/- SpPlays: stands. -/
import Derived.Test.YtopibbaopglggaaSpI7
import Derived.Test.YtopibbaopglggaaRef12c
import Derived.Test.YtopibbaopglggaaSame12
import Derived.Test.YtopibbaopglggaaSameNum
import Derived.Deep.RegionHeld3
import Derived.Deep.CutBlock
namespace Go.Proofs.Ytopibbaopglggaa.SpI
open Go.RowKit Go.Proofs BigFrame
open PairI (TR TE el flat)
open Ref12 (Ref RefOf TQ TL TI)
set_option maxHeartbeats 2000000
set_option maxRecDepth 1000000
/-- A pair of a number, as the program's things are told. -/
def up (p : Nat × Int) : Int × Int := ((p.1 : Int), p.2)
def upq (ps : Nat → List (Nat × Int)) : Nat → List (Int × Int) := fun i => (ps i).map up
theorem flat_up (l : List (Nat × Int)) : flat (l.map up) = pcs l := by
  induction l with
  | nil => rfl
  | cons a r ih => simp only [List.map_cons, flat, pcs, ih]; rfl
theorem tot_upq (ps : Nat → List (Nat × Int)) : ∀ n, tot (upq ps) n = tot ps n
  | 0 => rfl
  | n + 1 => by simp [tot, tot_upq ps n, upq]
theorem brow_us (bs : Nat → Nat) (n : Nat) : brow bs n = Ref12n.us ((List.range n).map fun i => ((bs i : Nat) : Int)) := by unfold brow Ref12n.us; rw [List.map_map]; rfl
theorem nums_us (bs : Nat → Nat) (n : Nat) : Ref12.nums bs n = Ref12n.us ((List.range n).map fun i => ((bs i : Nat) : Int)) := by unfold Ref12.nums Ref12.vals Ref12n.us; rw [List.map_map]; rfl
section
variable {A : Nat → Prop} {B : Nat} {w0 w : World} {s b n room cnt : Nat} {bv lv : Value} {vs : Nat → Value} {bs : Nat → Nat} {ps : Nat → List (Nat × Int)}
/-- What a region of stands keeps. -/
def Kp (wd w1 : World) (a1 : Addr) (v1 : Value) (a2 : Addr) (v2 : Value) : Prop := Upd Nowhere wd w1 ∧ w1.cell? a1 = some v1 ∧ w1.cell? a2 = some v2
theorem Kp.old {wd w1 w2 : World} {a1 a2 : Addr} {v1 v2 : Value} (h : Kp wd w1 a1 v1 a2 v2) (hu : Upd Nowhere w1 w2) : Kp wd w2 a1 v1 a2 v2 := ⟨h.1.trans hu (fun _ _ h => h), cell_old hu h.2.1, cell_old hu h.2.2⟩
section
variable {wd w1 : World} {a1 a2 : Addr} {v1 v2 : Value}
theorem s_queue (h : HasA A w0 wd s n room cnt bs (upq ps)) {k : Nat} (hk : k < n) (hS : Upd Nowhere wd w1 ∧ w1.cell? a1 = some v1 ∧ w1.cell? a2 = some v2) :
    Calls Try.prog 43 #[.pointer (some ⟨s, 0, none⟩), .int .i64 k] w1 fun e w2 => ∃ v, e = .returned v ∧ PRow 95 w1.heap.size w2 v (ps k) ∧ Upd Nowhere w1 w2 ∧ (Upd Nowhere wd w2 ∧ w2.cell? a1 = some v1 ∧ w2.cell? a2 = some v2) := by
  refine (hasA_queue (h.old hS.1) hk).mono ?_
  rintro e w2 ⟨⟨v, rfl, ho⟩, hu⟩
  unfold upq at ho
  rw [flat_up, List.length_map] at ho
  exact ⟨v, rfl, ho, hu, Kp.old hS hu⟩
theorem s_out (h : HasA A w0 wd s n room cnt bs (upq ps)) {i : Int} (hi : i < 0 ∨ (n : Int) ≤ i) (hS : Upd Nowhere wd w1 ∧ w1.cell? a1 = some v1 ∧ w1.cell? a2 = some v2) :
    Calls Try.prog 43 #[.pointer (some ⟨s, 0, none⟩), .int .i64 i] w1 fun e w2 => e = .returned (.slice none 0 0) ∧ Upd Nowhere w1 w2 ∧ (Upd Nowhere wd w2 ∧ w2.cell? a1 = some v1 ∧ w2.cell? a2 = some v2) := by
  refine (hasA_queue_out (h.old hS.1) hi).mono ?_
  rintro e w2 ⟨rfl, hu⟩
  exact ⟨rfl, hu, Kp.old hS hu⟩
theorem s_len (h : HasA A w0 wd s n room cnt bs (upq ps)) (hS : Upd Nowhere wd w1 ∧ w1.cell? a1 = some v1 ∧ w1.cell? a2 = some v2) :
    Calls Try.prog 17 #[.pointer (some ⟨s, 0, none⟩)] w1 fun e w2 => e = .returned (.int .i64 cnt) ∧ Upd Nowhere w1 w2 ∧ (Upd Nowhere wd w2 ∧ w2.cell? a1 = some v1 ∧ w2.cell? a2 = some v2) := by
  refine (hasA_len (h.old hS.1)).mono ?_
  rintro e w2 ⟨rfl, rfl⟩
  exact ⟨rfl, Upd.refl _ _, hS⟩
theorem s_rlen (h : Ref B wd b room n bv lv vs bs ps) (hn : 0 < n) (hn2 : n ≤ 32) (ht : tot ps n = cnt) (hc : cnt ≤ 4096) (hS : Upd Nowhere wd w1 ∧ w1.cell? a1 = some v1 ∧ w1.cell? a2 = some v2) :
    Calls Try.prog 60 #[.pointer (some ⟨b, 0, none⟩)] w1 fun e w2 => e = .returned (.int .i64 cnt) ∧ Upd Nowhere w1 w2 ∧ (Upd Nowhere wd w2 ∧ w2.cell? a1 = some v1 ∧ w2.cell? a2 = some v2) := by
  refine (Ref12.len_any (h.old hS.1) hn hn2 (by omega)).mono ?_
  rintro e w2 ⟨rfl, rfl⟩
  exact ⟨by rw [ht], Upd.refl _ _, hS⟩
theorem s_bounds (h : HasA A w0 wd s n room cnt bs (upq ps)) (hS : Upd Nowhere wd w1 ∧ w1.cell? a1 = some v1 ∧ w1.cell? a2 = some v2) :
    Calls Try.prog 18 #[.pointer (some ⟨s, 0, none⟩)] w1 fun e w2 => ∃ v, e = .returned v ∧ RowAt w2 v (brow bs n) ∧ Upd Nowhere w1 w2 ∧ (Upd Nowhere wd w2 ∧ w2.cell? a1 = some v1 ∧ w2.cell? a2 = some v2) := by
  refine (hasA_bounds (h.old hS.1)).mono ?_
  rintro e w2 ⟨v, rfl, hr, hu⟩
  exact ⟨v, rfl, hr, hu, Kp.old hS hu⟩
theorem s_same {va vb : Value} {ba bb : Nat} {l : List (Nat × Int)} (ha : PRow 95 ba w1 va l) (hb : PRow 96 bb wd vb l) (hl : l.length ≤ 1000000) (hS : Upd Nowhere wd w1 ∧ w1.cell? a1 = some v1 ∧ w1.cell? a2 = some v2) :
    Calls Try.prog 65 #[va, vb] w1 fun e w2 => e = .returned (.bool true) ∧ Upd Nowhere w1 w2 ∧ (Upd Nowhere wd w2 ∧ w2.cell? a1 = some v1 ∧ w2.cell? a2 = some v2) := by
  refine (Same12.same_eq ha (ownsRow_upd hb hS.1 (fun _ _ h => h)) hl).mono ?_
  rintro e w2 ⟨rfl, hu⟩
  exact ⟨rfl, hu, Kp.old hS hu⟩
theorem s_nums {va : Value} (ha : RowAt w1 va (brow bs n)) (hb : Ref B wd b room n bv lv vs bs ps) (hn2 : n ≤ 32) (hS : Upd Nowhere wd w1 ∧ w1.cell? a1 = some v1 ∧ w1.cell? a2 = some v2) :
    Calls Try.prog 66 #[va, bv] w1 fun e w2 => e = .returned (.bool true) ∧ Upd Nowhere w1 w2 ∧ (Upd Nowhere wd w2 ∧ w2.cell? a1 = some v1 ∧ w2.cell? a2 = some v2) := by
  rw [brow_us] at ha
  have hb2 := ownsRow_rowAt (hb.old hS.1).bnd
  rw [nums_us] at hb2
  refine (Ref12n.same_any w1 va bv _ _ ha hb2 (by simp; omega) (by simp; omega)).mono ?_
  rintro e w2 ⟨rfl, q, rfl⟩
  have hu : Upd Nowhere w1 (w1.drewN q) := (Upd.refl _ _).drewN q
  exact ⟨by simp, hu, Kp.old hS hu⟩
end
theorem stands_any (h : HasA A w0 w s n room cnt bs (upq ps)) (h2 : Ref B w b room n bv lv vs bs ps) (hn : 0 < n) (hn2 : n ≤ 32) (hr : room ≤ 4096) :
    Calls Try.prog 32 #[.pointer (some ⟨s, 0, none⟩), .pointer (some ⟨b, 0, none⟩)] w fun e w' => e = .returned (.bool true) ∧ Upd Nowhere w w' := by
  obtain ⟨g, c, rfl⟩ := h2.lform hn
  obtain ⟨gb, cb, rfl⟩ := h2.bform hn
  obtain ⟨c0, c1, c2, z0, z1, z2⟩ := cells3 h2.blk
  have hcr := h.le
  have htot : tot ps n = cnt := by rw [← tot_upq]; exact h.tot_
  have H := Lib.hid h
  have H2 := Lib.hid h2
  have HT := Lib.hid htot
  clear h h2 z0 z1 z2 htot
  go_enter Try.func32, Try.ntmps32
  go_wp2_with fail
  go_loopw [11] (fun i wr => ∃ k : Nat, k ≤ n ∧ i = .int .i64 k ∧ Upd Nowhere w wr) (fun i _ => n - (intOf i).toNat)
  case atStart => exact ⟨0, by omega, rfl, Upd.refl _ _⟩
  case round =>
    obtain ⟨k, hk, rfl, hu⟩ := hrel
    obtain ⟨wB, rfl⟩ : ∃ x, x = wr := ⟨_, rfl⟩
    have HU := Lib.hid hu
    clear hu
    by_cases hlt : k < n
    · have hI : (k : Int) < n := by omega
      have HB := Lib.hid (H.out.old HU.out)
      have H2B := H2.out.old HU.out
      have b2 := cell_old HU.out c2
      obtain ⟨k0, f0⟩ := H2B.lcell hlt
      have HR := Lib.hid (H2B.row k hlt)
      have hqk : (ps k).length ≤ 1000000 := by have := tot_le ps hlt; have := HT.out; omega
      generalize vs k = vk at *
      clear H2B f0
      go_upto_region 4 with fail
      have hS0 := (Upd.refl Nowhere wB).drew
      go_region_held3 (fun w' => Upd Nowhere wB w' ∧ w'.cell? ⟨b, 2, none⟩ = some (.slice (some ⟨g, 0, none⟩) n c) ∧ w'.cell? ⟨g, k, none⟩ = some vk) (first | exact ⟨hS0, b2, k0⟩ | assumption) (first
        | (go_at_call 43; refine (s_queue HB.out hlt (by assumption)).mono ?_; rintro e w4 ⟨v4, rfl, hr4, hu4, hS4⟩)
        | (go_at_call 65; refine (s_same hr4 HR.out hqk (by assumption)).mono ?_; rintro e w5 ⟨rfl, hu5, hS5⟩))
      rename_i hSF
      go_wp2_with fail
      go_roundw
      case rel => exact ⟨k + 1, by omega, by go_num, HU.out.trans hSF.1 (fun _ _ h => h)⟩
      case measure => simp [intOf]; omega
    · obtain rfl : k = n := by omega
      have b1 := cell_old HU.out c1
      have b2 := cell_old HU.out c2
      have HK := Lib.hid (H.out.old HU.out)
      have HK2 := Lib.hid (H2.out.old HU.out)
      go_upto_region 7 with fail
      have hS0 := (Upd.refl Nowhere wB).drew
      have hwr : IntKind.i64.wrap (0 + 0) = 0 := by decide
      go_region_held3 (fun w' => Upd Nowhere wB w' ∧ w'.cell? ⟨b, 1, none⟩ = some (.slice (some ⟨gb, 0, none⟩) k cb) ∧ w'.cell? ⟨b, 2, none⟩ = some (.slice (some ⟨g, 0, none⟩) k c)) (first | exact ⟨hS0, b1, b2⟩ | assumption) (first
        | (go_at_call 17; refine (s_len HK.out (by assumption)).mono ?_; rintro e w11 ⟨rfl, hu11, hS11⟩)
        | (go_at_call 60; refine (s_rlen HK2.out hn hn2 HT.out (by omega) (by assumption)).mono ?_; rintro e w12 ⟨rfl, hu12, hS12⟩)
        | (go_at_call 18; refine (s_bounds HK.out (by assumption)).mono ?_; rintro e w13 ⟨v13, rfl, hr13, hu13, hS13⟩)
        | (go_at_call 66; refine (s_nums (by first | exact hr13 | exact hr13.old hu11 | exact hr13.old hu12 | exact (hr13.old hu11).old hu12 | exact (hr13.old hu12).old hu11) HK2.out hn2 (by assumption)).mono ?_; rintro e w14 ⟨rfl, hu14, hS14⟩)
        | (go_at_call 43; refine (s_out HK.out (by omega) (by assumption)).mono ?_; rintro e w15 ⟨rfl, hu15, hS15⟩))
      all_goals
        rename_i hSF
        go_wp2_with fail
        go_ret
        exact ⟨rfl, HU.out.trans hSF.1 (fun _ _ h => h)⟩
end
end Go.Proofs.Ytopibbaopglggaa.SpI
