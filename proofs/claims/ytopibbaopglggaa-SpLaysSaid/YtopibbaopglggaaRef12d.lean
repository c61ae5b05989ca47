/- The reference's queues: Lay. -/
import Derived.Test.YtopibbaopglggaaRef12c
import Derived.Test.YtopibbaopglggaaNest
import Derived.Test.YtopibbaopglggaaSpRise
namespace Go.Proofs.Ytopibbaopglggaa.Ref12
open Go.RowKit Go.Proofs BigFrame
open SpI (Nums rs rs_false rs_le)
set_option maxHeartbeats 1000000
set_option maxRecDepth 1000000
/-- Queues that are laid. -/
structure HalfG (B : Nat) (w : World) (b room nb nl : Nat) (bv lv : Value) (f : Nat → Nat) (vs : Nat → Value) : Prop where
  blk : Blk w b #[.int .i64 room, bv, lv] TQ
  bnd : w.ownsRow B TU 1 bv nb (nums f nb)
  lst : w.ownsRow B TL 1 lv nl (vals vs nl)
  low : B ≤ b
  ob : bv.ownBlock ≠ some b
  ol : lv.ownBlock ≠ some b
  bl : ∀ k, bv.ownBlock = some k → lv.ownBlock ≠ some k
section
variable {B : Nat} {w wx w1 : World} {b room nb nl : Nat} {bv lv v : Value} {f : Nat → Nat} {vs : Nat → Value}
theorem HalfG.old (h : HalfG B w b room nb nl bv lv f vs) (hu : Upd Nowhere w wx) : HalfG B wx b room nb nl bv lv f vs :=
  { h with blk := h.blk.kept hu id, bnd := ownsRow_upd h.bnd hu (fun _ _ h => h), lst := ownsRow_upd h.lst hu (fun _ _ h => h) }
theorem HalfG.growB (h : HalfG B w b room nb nl bv lv f vs) (hx : Upd Nowhere w wx) (ho : w1.ownsRow B TU 1 v (nb + 1) (nums f nb ++ [.int .u64 (f nb : Nat)])) (hu : Upd (fun k => bv.ownBlock = some k) wx w1) (hn : OwnOrNew wx bv v) :
    HalfG B (w1.setCell ⟨b, 1, none⟩ v) b room (nb + 1) nl v lv f vs ∧ Blk w1 b #[.int .i64 room, bv, lv] TQ := by
  have hb1 : Blk w1 b #[.int .i64 room, bv, lv] TQ := (h.blk.kept hx id).kept hu (fun e => h.ob e)
  have hu2 : Upd (fun k => k = b) w1 (w1.setCell ⟨b, 1, none⟩ v) := (Upd.refl (fun k => k = b) w1).setCell (a := ⟨b, 1, none⟩) (fun _ => rfl) _
  have hvb : v.ownBlock ≠ some b := fun e => by
    rcases hn b e with h1 | h1
    · exact h.ob h1
    · exact absurd (h.blk.kept hx id).lt (Nat.not_lt.2 h1)
  have hl1 := ownsRow_upd (ownsRow_upd h.lst hx (fun _ _ h => h)) hu (fun k hk e => h.bl k e hk)
  refine ⟨⟨hb1.set 1 _, ?_, ownsRow_upd hl1 hu2 (fun k hk e => h.ol (by rw [hk, e])), h.low, hvb, h.ol, fun k hk hk2 => ?_⟩, hb1⟩
  · rw [nums_succ]
    exact ownsRow_upd ho hu2 (fun k hk e => hvb (by rw [hk, e]))
  · rcases hn k hk with h1 | h1
    · exact h.bl k h1 hk2
    · exact absurd (h.lst.lt k hk2).2 (Nat.not_lt.2 (Nat.le_trans hx.size h1))
theorem HalfG.growL (h : HalfG B w b room nb nl bv lv f vs) (hx : Upd Nowhere w wx) (ho : w1.ownsRow B TL 1 v (nl + 1) (vals vs nl ++ [vs nl])) (hu : Upd (fun k => lv.ownBlock = some k) wx w1) (hn : OwnOrNew wx lv v) :
    HalfG B (w1.setCell ⟨b, 2, none⟩ v) b room nb (nl + 1) bv v f vs ∧ Blk w1 b #[.int .i64 room, bv, lv] TQ := by
  have hb1 : Blk w1 b #[.int .i64 room, bv, lv] TQ := (h.blk.kept hx id).kept hu (fun e => h.ol e)
  have hu2 : Upd (fun k => k = b) w1 (w1.setCell ⟨b, 2, none⟩ v) := (Upd.refl (fun k => k = b) w1).setCell (a := ⟨b, 2, none⟩) (fun _ => rfl) _
  have hvb : v.ownBlock ≠ some b := fun e => by
    rcases hn b e with h1 | h1
    · exact h.ol h1
    · exact absurd (h.blk.kept hx id).lt (Nat.not_lt.2 h1)
  have hl1 := ownsRow_upd (ownsRow_upd h.bnd hx (fun _ _ h => h)) hu (fun k hk e => h.bl k hk e)
  refine ⟨⟨hb1.set 2 _, ownsRow_upd hl1 hu2 (fun k hk e => h.ob (by rw [hk, e])), ?_, h.low, h.ob, hvb, fun k hk hk2 => ?_⟩, hb1⟩
  · rw [vals_range]
    exact ownsRow_upd ho hu2 (fun k hk e => hvb (by rw [hk, e]))
  · rcases hn k hk2 with h1 | h1
    · exact h.bl k hk h1
    · exact absurd (h.bnd.lt k hk).2 (Nat.not_lt.2 (Nat.le_trans hx.size h1))
end
/-- Nothing laid yet. -/
abbrev Half0 (B : Nat) (w : World) (b room : Nat) (f : Nat → Nat) (vs : Nat → Value) : Prop := HalfG B w b room 0 0 (.slice none 0 0) (.slice none 0 0) f vs
section
variable {B : Nat} {w : World} {b room n : Nat} {bv lv : Value} {vs : Nat → Value} {bs : Nat → Nat} {qs : Nat → List (Nat × Int)}
theorem lay_len (h : Ref B w b room n bv lv vs bs qs) (hn : 0 < n) (ad al : Option Addr) (n1 n2 c1 c2 : Nat) (hne : n1 ≠ n ∨ n2 ≠ n) :
    Calls Try.prog 42 #[.pointer (some ⟨b, 0, none⟩), .slice ad n1 c1, .slice al n2 c2] w fun e w' => e = .returned (.int .i64 6) ∧ w = w' := by
  obtain ⟨gb, cb, rfl⟩ := h.bform hn
  obtain ⟨k0, k1, k2, z0, z1, z2⟩ := cells3 h.blk
  clear h
  by_cases h1 : n1 = n
  · subst h1
    have d1 : ((n2 : Int) != n1) = true := by simp; omega
    have d2 : ((n1 : Int) != n1) = false := by simp
    clear hne
    go_enter Try.func42, Try.ntmps42
    go_wp2_with fail
    go_ret
    exact ⟨rfl, rfl⟩
  · have d2 : ((n1 : Int) != n) = true := by simp; omega
    clear hne h1
    go_enter Try.func42, Try.ntmps42
    go_wp2_with fail
    go_ret
    exact ⟨rfl, rfl⟩
/-- What Lay tells of as many bounds and rows as there are queues. -/
def layC (f : Nat → Nat) (qs : Nat → List (Nat × Int)) (n room : Nat) : Nat := if rs f n = true then (if room < tot qs n then 25 else 0) else 6
theorem lay_any (h : Ref B w b room n bv lv vs bs qs) (hn : 0 < n) (hn2 : n ≤ 32) {ad : Option Addr} {f : Nat → Nat} (hf : Nums w ad n f) (hf64 : ∀ i, i < n → f i ≤ 18446744073709551615) {l2 : Value} {vs2 : Nat → Value} {qs2 : Nat → List (Nat × Int)} (hN : Nest TI TL B w l2 vs2 qs2 n) (hNb : ∀ k, NestOf l2 vs2 n k → k ≠ b) (htot : tot qs2 n ≤ 1000000) (hB : B ≤ w.heap.size) (hgb : ∀ g, ad = some g → g.block ≠ b) (ca : Nat) :
    Calls Try.prog 42 #[.pointer (some ⟨b, 0, none⟩), .slice ad n ca, l2] w fun e w' => e = .returned (.int .i64 (layC f qs2 n room : Nat)) ∧
      (layC f qs2 n room ≠ 0 → Upd Nowhere w w') ∧ (layC f qs2 n room = 0 → ∃ bv' lv', Ref B w' b room n bv' lv' vs2 f qs2 ∧ (∀ k, RefOf b n bv' lv' vs2 k → k = b ∨ NestOf l2 vs2 n k ∨ w.heap.size ≤ k) ∧ Upd (fun k => k = b) w w') := by
  obtain ⟨i0, hi, hz0, hz1, hz2⟩ := info_parts infoU
  obtain ⟨j0, hj, jz0, jz1, jz2⟩ := info_parts infoL
  obtain ⟨gb, cb, rfl⟩ := h.bform hn
  obtain ⟨g2, c2', rfl, hl2⟩ := hN.cell hn
  obtain ⟨ga, oa, rfl, hfc⟩ := hf.at hn
  have hgab : ga ≠ b := hgb _ rfl
  clear hgb
  obtain ⟨k0, k1, k2, z0, z1, z2⟩ := cells3 h.blk
  obtain ⟨C, hC⟩ : ∃ C, layC f qs2 n room = C := ⟨_, rfl⟩
  have d1 : ((n : Int) != n) = false := by simp
  have H := Lib.hid h
  have HN := Lib.hid hN
  have HNb := Lib.hid hNb
  have HFC := Lib.hid hfc
  have HL2 := Lib.hid hl2
  have HTOT := Lib.hid htot
  have HF64 := Lib.hid hf64
  rw [hC]
  have HC := Lib.hid hC
  clear h hN hNb hf hfc hl2 htot hC hf64
  go_enter Try.func42, Try.ntmps42
  go_wp2_with fail
  go_loopw [7, 8] (fun s i wr => ∃ k : Nat, k ≤ n ∧ i = .int .i64 k ∧ s = .int .i64 (tot qs2 k : Nat) ∧ rs f k = true ∧ ∃ q, wr = w.drewN q) (fun _ i _ => n - (intOf i).toNat)
  case atStart => exact ⟨0, by omega, rfl, rfl, rfl, 0, rfl⟩
  case round =>
    obtain ⟨k, hk, rfl, rfl, hrs, q, rfl⟩ := hrel
    have HRS := Lib.hid hrs
    clear hrs
    by_cases hlt : k < n
    · have hI : (k : Int) < n := by omega
      have kf := HFC.out k hlt
      have kl := HL2.out k hlt
      obtain ⟨av, cv, hv⟩ := (HN.out.row k hlt).form
      rw [hv] at kl
      have e1 : rs f (k + 1) = (rs f k && (decide (k = 0) || decide (f (k - 1) ≤ f k))) := rfl
      rw [HRS.out, Bool.true_and] at e1
      have htk : tot qs2 (k + 1) = tot qs2 k + (qs2 k).length := rfl
      have htn := tot_mono qs2 (show k + 1 ≤ n from hlt)
      have htt := HTOT.out
      have e8 : IntKind.i64.wrap ((tot qs2 k : Nat) + ((qs2 k).length : Nat)) = ((tot qs2 (k + 1) : Nat) : Int) := by rw [IntKind.wrap_i64]; omega
      obtain ⟨t2, ht2⟩ : ∃ t2, tot qs2 (k + 1) = t2 := ⟨_, rfl⟩
      rw [ht2] at e8
      have HT2 := Lib.hid ht2
      generalize (qs2 k).length = m at *
      generalize tot qs2 k = t at *
      clear hv htk htn htt ht2
      rcases Nat.eq_zero_or_pos k with rfl | hpos
      · have e2 : rs f 1 = true := e1
        have E2 := Lib.hid e2
        generalize f 0 = fq at *
        clear e1 e2
        go_wp2_with fail
        go_quiet (fail)
        go_wp2_with fail
        go_roundw
        case rel => exact ⟨1, by omega, by go_num, by rw [← HT2.out], E2.out, q + nq, rfl⟩
        case measure => simp [intOf]; omega
      · obtain ⟨p, rfl⟩ : ∃ p, k = p + 1 := ⟨k - 1, by omega⟩
        have kp := HFC.out p (by omega)
        have d0 : decide (((p + 1 : Nat) : Int) > 0) = true := decide_eq_true (by omega)
        have d1' : decide ((0 : Int) < ((p + 1 : Nat) : Int)) = true := decide_eq_true (by omega)
        have d9 : decide (0 < p + 1) = true := decide_eq_true (by omega)
        rw [decide_eq_false (show ¬ (p + 1 = 0) by omega), Bool.false_or] at e1
        have e1' : rs f (p + 1 + 1) = decide (f p ≤ f (p + 1)) := e1
        have E1 := Lib.hid e1'
        generalize f p = fp at *
        generalize f (p + 1) = fq at *
        have e5 : IntKind.i64.wrap ((((p + 1 : Nat) : Int)) - 1) = (p : Int) := by rw [IntKind.wrap_i64]; omega
        obtain ⟨kk, hkk⟩ : ∃ kk, p + 1 = kk := ⟨_, rfl⟩
        rw [hkk] at kf kl d9 d0 d1' hI e5 hlt HRS E1 HT2 ⊢
        have HKK := Lib.hid hkk
        have hpn : (p : Int) < n := by omega
        clear e1 e1' hkk hpos hk
        by_cases hle : fp ≤ fq
        · have d2 : decide (fq < fp) = false := decide_eq_false (by omega)
          have d3 : decide ((fq : Int) < fp) = false := decide_eq_false (by omega)
          rw [decide_eq_true hle] at E1
          clear hle
          go_wp2_with fail
          go_quiet (fail)
          go_wp2_with fail
          go_roundw
          case rel => exact ⟨kk + 1, by omega, by go_num, by rw [← HT2.out], E1.out, q + nq, rfl⟩
          case measure => simp [intOf]; omega
        · have d2 : decide (fq < fp) = true := decide_eq_true (by omega)
          have d3 : decide ((fq : Int) < fp) = true := decide_eq_true (by omega)
          rw [decide_eq_false hle] at E1
          have hC6 : C = 6 := by rw [← HC.out]; unfold layC; rw [if_neg (by rw [rs_false E1.out n (by omega)]; simp)]
          have HC6 := Lib.hid hC6
          clear hle hC6
          go_wp2_with fail
          go_quiet (fail)
          go_wp2_with fail
          go_ret
          rw [HC6.out]
          exact ⟨rfl, fun _ => ((Upd.refl _ _).drewN _).drewN _, fun h => absurd h (by decide)⟩
    · obtain rfl : k = n := by omega
      have htt := HTOT.out
      by_cases hcap : room < tot qs2 k
      · have hC25 : C = 25 := by rw [← HC.out]; unfold layC; rw [if_pos HRS.out, if_pos hcap]
        have HC25 := Lib.hid hC25
        generalize tot qs2 k = t at *
        have d2 : decide ((t : Int) > room) = true := decide_eq_true (by omega)
        have d3 : decide ((room : Int) < t) = true := decide_eq_true (by omega)
        have d4 : decide (room < t) = true := decide_eq_true hcap
        clear hcap hC25
        go_wp2_with fail
        go_ret
        rw [HC25.out]
        exact ⟨rfl, fun _ => (Upd.refl _ _).drewN _, fun h => absurd h (by decide)⟩
      · have hC0 : C = 0 := by rw [← HC.out]; unfold layC; rw [if_pos HRS.out, if_neg hcap]
        have HC0 := Lib.hid hC0
        have d2 : decide (((tot qs2 k : Nat) : Int) > room) = false := decide_eq_false (by omega)
        have d3 : decide ((room : Int) < (tot qs2 k : Nat)) = false := decide_eq_false (by omega)
        have d4 : decide (room < tot qs2 k) = false := decide_eq_false hcap
        clear hcap hC0
        go_upto_region 14 with fail
        have hz : Half0 B ((((w.drewN q).setCell ⟨b, 1, none⟩ (.slice none 0 0)).setCell ⟨b, 2, none⟩ (.slice none 0 0))) b room f vs2 := by
          have hb0 := H.out.blk.drewN q
          exact ⟨(hb0.set 1 (.slice none 0 0)).set 2 (.slice none 0 0), ownsRow_nil _ _ _ _, ownsRow_nil _ _ _ _, H.out.low, by simp [Value.ownBlock], by simp [Value.ownBlock], by simp [Value.ownBlock]⟩
        have hu0 : Upd (fun q => q = b) w ((((w.drewN q).setCell ⟨b, 1, none⟩ (.slice none 0 0)).setCell ⟨b, 2, none⟩ (.slice none 0 0))) := (((Upd.refl (fun q => q = b) w).drewN q).setCell (a := ⟨b, 1, none⟩) (fun _ => rfl) _).setCell (a := ⟨b, 2, none⟩) (fun _ => rfl) _
        obtain ⟨w5, hw5⟩ : ∃ w5, ((((w.drewN q).setCell ⟨b, 1, none⟩ (.slice none 0 0)).setCell ⟨b, 2, none⟩ (.slice none 0 0))) = w5 := ⟨_, rfl⟩
        rw [hw5] at hz hu0 ⊢
        have HZ := Lib.hid hz
        have HU0 := Lib.hid hu0
        clear hz hu0 hw5 k0 k1 k2 z0 z1 z2
        go_wp2_with fail
        go_loopw [9] (fun i wr => ∃ (j : Nat) (bv' lv' : Value), j ≤ k ∧ i = .int .i64 j ∧ HalfG B wr b room j j bv' lv' f vs2 ∧ (∀ q, bv'.ownBlock = some q → w.heap.size ≤ q) ∧ (∀ q, lv'.ownBlock = some q → w.heap.size ≤ q) ∧ Upd (fun q => q = b) w wr) (fun i _ => k - (intOf i).toNat)
        case atStart => exact ⟨0, _, _, by omega, rfl, HZ.out, (fun q e => by cases e), (fun q e => by cases e), HU0.out⟩
        case round =>
          obtain ⟨j, bv', lv', hj', rfl, hH, hlb, hll, hu⟩ := hrel
          obtain ⟨wB, rfl⟩ : ∃ x, x = wr := ⟨_, rfl⟩
          by_cases hlt2 : j < k
          · have hJ : (j : Int) < k := by omega
            obtain ⟨c0, c1, c2, z0, z1, z2⟩ := cells3 hH.blk
            obtain ⟨ab, cbx, rfl⟩ := own_form hH.bnd
            obtain ⟨al, clx, rfl⟩ := own_form hH.lst
            have hg2b : g2 ≠ b := HNb.out g2 (.inl rfl)
            have kf := HFC.out j hlt2
            have kf' : wB.cell? ⟨ga, oa + j, none⟩ = some (.int .u64 (f j : Nat)) := (hu.cell _ (cell_lt kf) hgab).trans kf
            have kl := HL2.out j hlt2
            have kl' : wB.cell? ⟨g2, j, none⟩ = some (vs2 j) := (hu.cell _ (cell_lt kl) hg2b).trans kl
            obtain ⟨x, hx⟩ : ∃ x, f j = x := ⟨_, rfl⟩
            rw [hx] at kf'
            obtain ⟨av, cv, hv⟩ := (HN.out.row j hlt2).form
            rw [hv] at kl'
            have HX := Lib.hid hx
            have HV := Lib.hid hv
            have HH := Lib.hid hH
            have HU := Lib.hid hu
            have HLB := Lib.hid hlb
            have HLL := Lib.hid hll
            have hszB : B ≤ wB.heap.size := Nat.le_trans hB hu.size
            have a1 : (wB.alloc (.cells #[.int .u64 (x : Nat)] TU)).cell? ⟨b, 1, none⟩ = some (.slice ab j cbx) := cell_old ((Upd.refl _ _).alloc _) c1
            have HG2 := Lib.hid kl'
            have hglt := cell_lt kl'
            clear hH hu hlb hll hx hv kf kl kl' c0 c2 z0 z2
            go_upto_region 17 with fail
            go_region_law (refine step_push rfl _ _ 38 rfl B TU i0 (.int .u64 0) 1 8 Try.underlying38 hi hz0 hz1 hz2 rfl (by decide) (by decide) (.slice ab j cbx) j _ rfl (ownsRow_upd HH.out.bnd (by repeat (first | with_reducible exact Upd.refl _ _ | with_reducible refine Upd.drew ?_ | with_reducible refine Upd.alloc ?_ _)) (fun _ _ h => h)) wB.heap.size 1 [.int .u64 (x : Nat)] rfl rfl (new_cells wB #[.int .u64 (x : Nat)] _) (by simp [Value.oneCell']) (by omega) (Nat.le_trans hszB (Upd.size (S := Nowhere) (by repeat (first | with_reducible exact Upd.refl _ _ | with_reducible refine Upd.drew ?_ | with_reducible refine Upd.alloc ?_ _)))) ?_; intro v3 w3 hown hu3 hno; have hg := HH.out.growB (by repeat (first | with_reducible exact Upd.refl _ _ | with_reducible refine Upd.drew ?_ | with_reducible refine Upd.alloc ?_ _)) (by rw [HX.out]; exact hown) hu3 hno; have hu4 : Upd (fun q => q = b) w w3 := HU.out.trans (Upd.trans (S := fun q => (Value.slice ab j cbx).ownBlock = some q) (by repeat (first | with_reducible exact Upd.refl _ _ | with_reducible refine Upd.drew ?_ | with_reducible refine Upd.alloc ?_ _)) hu3 (fun _ _ h => h)) (fun q hq h => absurd hq (Nat.not_lt.2 (HLB.out q h))); have HU3 := Lib.hid hu4; have HLB3 := Lib.hid (fun q (e : v3.ownBlock = some q) => (show w.heap.size ≤ q by rcases hno q e with h | h; exact HLB.out q h; exact Nat.le_trans (Nat.le_trans HU.out.size (Upd.size (S := Nowhere) (by repeat (first | with_reducible exact Upd.refl _ _ | with_reducible refine Upd.drew ?_ | with_reducible refine Upd.alloc ?_ _)))) h)); have HH3 := Lib.hid hg.1; obtain ⟨y0, y1, y2, f0, f1, f2⟩ := cells3 hg.2; obtain ⟨ab3, cb3, rfl⟩ := own_form hown; clear hg hown hu3 hno hu4)
            all_goals
              go_upto_region 18 with fail
              obtain ⟨w5', hw5⟩ : ∃ w5', w3.setCell ⟨b, 1, none⟩ (.slice ab3 (j + 1) cb3) = w5' := ⟨_, rfl⟩
              have HU5 := Lib.hid (HU3.out.setCell (a := ⟨b, 1, none⟩) (fun _ => rfl) (.slice ab3 (j + 1) cb3))
              rw [hw5] at HH3 HU5 ⊢
              clear y0 y1 y2 f0 f1 f2 hw5 kf' a1
              obtain ⟨e0, e1, e2, y0, y1, y2⟩ := cells3 HH3.out.blk
              have kl5 : w5'.cell? ⟨g2, j, none⟩ = some (.slice av (qs2 j).length cv) := by
                have h := HL2.out j hlt2
                rw [HV.out] at h
                exact (HU5.out.cell _ (cell_lt h) hg2b).trans h
              generalize (qs2 j).length = mj at *
              have hsz5 : B ≤ w5'.heap.size := Nat.le_trans hB HU5.out.size
              have a2 : (w5'.alloc (.cells #[.slice av mj cv] TL)).cell? ⟨b, 2, none⟩ = some (.slice al j clx) := cell_old ((Upd.refl _ _).alloc _) e2
              clear e0 e1 y0 y1
              go_region_law (refine step_push rfl _ _ 91 rfl B TL j0 (.slice none 0 0) 1 24 Try.underlying91 hj jz0 jz1 jz2 rfl (by decide) (by decide) (.slice al j clx) j _ rfl (ownsRow_upd HH3.out.lst (by repeat (first | with_reducible exact Upd.refl _ _ | with_reducible refine Upd.drew ?_ | with_reducible refine Upd.alloc ?_ _)) (fun _ _ h => h)) w5'.heap.size 1 [.slice av mj cv] rfl rfl (new_cells w5' #[.slice av mj cv] _) (by simp [Value.oneCell']) (by omega) (Nat.le_trans hsz5 (Upd.size (S := Nowhere) (by repeat (first | with_reducible exact Upd.refl _ _ | with_reducible refine Upd.drew ?_ | with_reducible refine Upd.alloc ?_ _)))) ?_; intro v6 w6 hown hu6 hno; have hg := HH3.out.growL (by repeat (first | with_reducible exact Upd.refl _ _ | with_reducible refine Upd.drew ?_ | with_reducible refine Upd.alloc ?_ _)) (by rw [HV.out]; exact hown) hu6 hno; have hu7 : Upd (fun q => q = b) w w6 := HU5.out.trans (Upd.trans (S := fun q => (Value.slice al j clx).ownBlock = some q) (by repeat (first | with_reducible exact Upd.refl _ _ | with_reducible refine Upd.drew ?_ | with_reducible refine Upd.alloc ?_ _)) hu6 (fun _ _ h => h)) (fun q hq h => absurd hq (Nat.not_lt.2 (HLL.out q h))); have HU6 := Lib.hid hu7; have HLL6 := Lib.hid (fun q (e : v6.ownBlock = some q) => (show w.heap.size ≤ q by rcases hno q e with h | h; exact HLL.out q h; exact Nat.le_trans (Nat.le_trans HU5.out.size (Upd.size (S := Nowhere) (by repeat (first | with_reducible exact Upd.refl _ _ | with_reducible refine Upd.drew ?_ | with_reducible refine Upd.alloc ?_ _)))) h)); have HH6 := Lib.hid hg.1; obtain ⟨x0, x1, x2, p0, p1, p2⟩ := cells3 hg.2; obtain ⟨al6, cl6, rfl⟩ := own_form hown; clear hg hown hu6 hno hu7)
              all_goals
                go_wp2_with fail
                go_roundw
                case rel => exact ⟨j + 1, _, _, by omega, by go_num, HH6.out, HLB3.out, HLL6.out, HU6.out.setCell (a := ⟨b, 2, none⟩) (fun _ => rfl) _⟩
                case measure => simp [intOf]; omega
          · obtain rfl : j = k := by omega
            go_wp2_with fail
            go_ret
            rw [HC0.out]
            refine ⟨rfl, fun h => absurd rfl h, fun _ => ⟨bv', lv', ⟨hH.blk, hH.bnd, hH.lst, fun i hi => ownsRow_upd (HN.out.row i hi) hu (fun q hq e => HNb.out q (.inr ⟨i, hi, hq⟩) e), hH.low, hH.ob, hH.ol, hH.bl, fun i hi q hq => ⟨HNb.out q (.inr ⟨i, hi, hq⟩), fun e => absurd ((HN.out.row i hi).lt q hq).2 (Nat.not_lt.2 (hll q e))⟩⟩, fun q hq => ?_, hu⟩⟩
            rcases hq with h | h | h | ⟨i, hi, h⟩
            · exact .inl h
            · exact .inr (.inr (hlb q h))
            · exact .inr (.inr (hll q h))
            · exact .inr (.inl (.inr ⟨i, hi, h⟩))
end
end Go.Proofs.Ytopibbaopglggaa.Ref12
