/- drr: New, Push. -/
import Derived.Test.YtopibbaopglggaaDrr
import Derived.Test.YtopibbaopglggaaSpCore2
namespace Go.Proofs.Ytopibbaopglggaa.Drr
open Go.RowKit Go.Proofs BigFrame
open PairD (TR TE el)
set_option maxHeartbeats 4000000
set_option maxRecDepth 1000000
def good (x : Nat) : Bool := decide (64 ≤ x) && decide (x ≤ 4294967296)
theorem good_iff {x : Nat} : good x = true ↔ 64 ≤ x ∧ x ≤ 4294967296 := by simp [good]
/-- What New tells. -/
def checkOf (l : List Nat) : Int := if l.length = 0 ∨ 64 < l.length then 29 else if l.all good then 0 else 6
/-- What New leaves. -/
def Made (w w' : World) (t : Nat) (l : List Nat) : Prop := ∃ gc cc rb, D w' t gc cc l.length 0 (.slice none 0 0) fresh (fun i => l.getD i 0) rb (fun _ => none) (fun _ => []) ∧ ∀ k, DrrOf t gc l.length (.slice none 0 0) rb (fun _ => none) k → w.heap.size ≤ k
theorem new_len (w : World) (ad : Option Addr) (n ca : Nat) (h : n = 0 ∨ 64 < n) : Calls Try.prog 20 #[.slice ad n ca] w fun e w' => e = .returned (.tuple #[.pointer none, .int .i64 29]) ∧ w = w' := by
  rcases h with rfl | h
  · go_enter Try.func20, Try.ntmps20
    go_wp2_with fail
    go_ret2
    exact ⟨rfl, rfl⟩
  · have d0 : ((n : Int) == 0) = false := by simp; omega
    have d1 : decide ((n : Int) > 64) = true := decide_eq_true (by omega)
    have d2 : decide (64 < n) = true := decide_eq_true h
    go_enter Try.func20, Try.ntmps20
    go_wp2_with fail
    go_ret2
    exact ⟨rfl, rfl⟩
theorem new_some (w : World) (ad : Option Addr) (ca : Nat) (l : List Nat) (h1 : 1 ≤ l.length) (h2 : l.length ≤ 64) (h0 : ad = none → l = []) (hc : ∀ g, ad = some g → ∀ j x, l[j]? = some x → g.spot = none ∧ w.cell? ⟨g.block, g.off + j, none⟩ = some (.int .u64 (x : Nat))) :
    Calls Try.prog 20 #[.slice ad l.length ca] w fun e w' => Upd Nowhere w w' ∧ ((e = .returned (.tuple #[.pointer none, .int .i64 6]) ∧ l.all good = false) ∨ (l.all good = true ∧ ∃ t, e = .returned (.tuple #[.pointer (some ⟨t, 0, none⟩), .int .i64 0]) ∧ Made w w' t l)) := by
  obtain ⟨i0, hi, hz0, hz1, hz2⟩ := info_parts infoC
  obtain ⟨n, hn⟩ : ∃ n, l.length = n := ⟨_, rfl⟩
  have hMade : ∀ w' t, Made w w' t l = ∃ gc cc rb, D w' t gc cc n 0 (.slice none 0 0) fresh (fun i => l.getD i 0) rb (fun _ => none) (fun _ => []) ∧ ∀ k, DrrOf t gc n (.slice none 0 0) rb (fun _ => none) k → w.heap.size ≤ k := fun w' t => by unfold Made; rw [hn]
  rw [hn] at h1 h2 ⊢
  obtain ⟨gb, hgb⟩ : ∃ gb, l.all good = gb := ⟨_, rfl⟩
  rw [hgb]
  have HGB := Lib.hid hgb
  clear hgb
  have d0 : ((n : Int) == 0) = false := by simp; omega
  have d1 : decide ((n : Int) > 64) = false := decide_eq_false (by omega)
  have d2 : decide (64 < n) = false := decide_eq_false (by omega)
  have HM := Lib.hid hMade
  have HN := Lib.hid hn
  have H0 := Lib.hid h0
  have HC := Lib.hid hc
  have HR := fun u => Lib.hid (PairD.new_ok u 1024 (by omega) (by omega))
  clear hMade hn h0 hc
  go_enter Try.func20, Try.ntmps20
  go_wp2_with fail
  have hT1 : Blk (w.alloc (.cells #[.slice none 0 0, .slice none 0 0, .bool false, .int .i64 0] TT)) w.heap.size #[.slice none 0 0, .slice none 0 0, .bool false, .int .i64 0] TT := Blk.new _ _ _
  have hU1 : Upd Nowhere w (w.alloc (.cells #[.slice none 0 0, .slice none 0 0, .bool false, .int .i64 0] TT)) := (Upd.refl _ _).alloc _
  have hlt : w.heap.size < (w.alloc (.cells #[.slice none 0 0, .slice none 0 0, .bool false, .int .i64 0] TT)).heap.size := hT1.lt
  generalize w.alloc (.cells #[.slice none 0 0, .slice none 0 0, .bool false, .int .i64 0] TT) = w1 at *
  go_loopw [21] (fun c wr => ∃ (k : Nat) (ad2 : Option Addr) (c2 : Nat) (rb : Nat → Nat), k ≤ n ∧ c = .int .i64 k ∧ Classes TR TE TC w.heap.size w1 wr (.slice ad2 k c2) (fun i => l.getD i 0) rb k ∧ Blk wr w.heap.size #[.slice ad2 k c2, .slice none 0 0, .bool false, .int .i64 0] TT ∧ (l.take k).all good = true) (fun c _ => n - (intOf c).toNat)
  case atStart => exact ⟨0, none, 0, fun _ => 0, by omega, rfl, Classes.start _ _ _ _ _ _ _, hT1, rfl⟩
  case round =>
    obtain ⟨k, ad2, c2, rb, hk, rfl, hC, hT, hg⟩ := hrel
    have HCl := Lib.hid hC
    have HT := Lib.hid hT
    have HG := Lib.hid hg
    obtain ⟨w2, rfl⟩ : ∃ x, x = wr := ⟨_, rfl⟩
    have HU := Lib.hid (hU1.trans hC.upd (fun b hb e => by omega))
    clear hC hT hg hT1
    by_cases hlt2 : k < n
    · have hI : (k : Int) < n := by omega
      obtain ⟨x, hx⟩ : ∃ x, l[k]? = some x := ⟨l[k]'(by rw [HN.out]; exact hlt2), by simp⟩
      obtain ⟨ga, oa, rfl, hcx⟩ : ∃ g o, ad = some ⟨g, o, none⟩ ∧ w.cell? ⟨g, o + k, none⟩ = some (.int .u64 (x : Nat)) := by
        cases ad with
        | none => rw [H0.out rfl] at hx; cases hx
        | some g =>
          obtain ⟨hs, hcc⟩ := HC.out g rfl k x hx
          obtain ⟨g, o, sp⟩ := g
          simp only at hs
          subst hs
          exact ⟨g, o, rfl, hcc⟩
      have hcx2 := cell_old HU.out hcx
      have HX := Lib.hid hx
      clear hcx hx
      by_cases hlo : x < 64
      · have e1 : decide ((x : Int) < 64) = true := decide_eq_true (by omega)
        have e2 : decide (x < 64) = true := decide_eq_true hlo
        go_wp2_with fail
        go_ret2
        refine ⟨HU.out, .inl ⟨rfl, ?_⟩⟩
        rw [← HGB.out, List.all_eq_false]
        exact ⟨x, List.mem_of_getElem? HX.out, by simp [good]; omega⟩
      · have e1 : decide ((x : Int) < 64) = false := decide_eq_false (by omega)
        have e2 : decide (x < 64) = false := decide_eq_false hlo
        by_cases hhi : 4294967296 < x
        · have e3 : decide ((x : Int) > 4294967296) = true := decide_eq_true (by omega)
          have e4 : decide (4294967296 < x) = true := decide_eq_true hhi
          go_wp2_with fail
          go_ret2
          refine ⟨HU.out, .inl ⟨rfl, ?_⟩⟩
          rw [← HGB.out, List.all_eq_false]
          exact ⟨x, List.mem_of_getElem? HX.out, by simp [good]; omega⟩
        · have e3 : decide ((x : Int) > 4294967296) = false := decide_eq_false (by omega)
          have e4 : decide (4294967296 < x) = false := decide_eq_false hhi
          go_wp2_with fail
          refine ((HR _).out).mono ?_
          rintro e w3 ⟨rfl, hr3, u3⟩
          have hT3 := HT.out.kept u3 id
          obtain ⟨c0, c1, _, _, z0, z1, _, _⟩ := cells4 hT3
          have hsz3 := u3.size
          have hszw := HCl.out.upd.size
          have hown := ownsRow_upd HCl.out.row u3 (fun _ _ h => h)
          have hne : ∀ b, (Value.slice ad2 k c2).ownBlock = some b → w1.heap.size ≤ b := fun b hb => (HCl.out.row.lt b hb).1
          have HNE := Lib.hid hne
          have HR3 := Lib.hid hr3
          have HU3 := Lib.hid u3
          clear hne hr3 u3
          go_wp2_with (at_builtin; refine wpList_push rfl _ _ 117 rfl w1.heap.size TC i0 (.agg #[.int .u64 0, .int .u64 0, .pointer none]) 3 24 Try.underlying117 hi hz0 hz1 hz2 rfl (by decide) (by decide) _ _ _ rfl (hown.alloc _) w3.heap.size 1 [.int .u64 (x : Nat), .int .u64 0, .pointer (some ⟨w2.heap.size, 0, none⟩)] rfl rfl (new_cells _ #[_, _, _] _) (by simp [Value.oneCell']) (by omega) (by simp; omega) ?_; intro v4 w4 hown4 hu4 hn4; have hT4 := (hT3.alloc (.cells #[.int .u64 (x : Nat), .int .u64 0, .pointer (some ⟨w2.heap.size, 0, none⟩)] TC)).kept hu4 (fun e => by have := HNE.out _ e; omega); have y0 := hT4.free 0; have k0 := hT4.cellAt (i := 0) rfl; obtain ⟨ad4, c4, rfl⟩ : ∃ ad c, v4 = .slice ad (k + 1) c := by (rcases hown4.2 with ⟨rfl, h⟩ | ⟨g, cap, cur, rfl, _⟩); (exact absurd h (Nat.succ_ne_zero k)); (exact ⟨_, _, rfl⟩))
          go_roundw
          case rel =>
            have hq : l.getD k 0 = x := by simp [List.getD_eq_getElem?_getD, HX.out]
            have hP := HCl.out.push hlt (HU3.out.alloc (.cells #[.int .u64 (x : Nat), .int .u64 0, .pointer (some ⟨w2.heap.size, 0, none⟩)] TC)) (HR3.out.kept ((Upd.refl _ _).alloc _) (fun _ _ h => h)) (by rw [hq]; exact hown4) hu4 hn4
            refine ⟨k + 1, ad4, c4, _, by omega, by go_num, hP, by simpa using hT4.set 0 _, ?_⟩
            rw [List.take_add_one, HX.out, List.all_append, HG.out]
            simp [good]; omega
          case measure => simp [intOf]; omega
    · have hI : ¬ (k : Int) < n := by omega
      obtain rfl : k = n := by omega
      go_wp2_with fail
      go_ret2
      have hall : l.all good = true := by have := HG.out; rwa [List.take_of_length_le (by rw [HN.out]; exact Nat.le_refl _)] at this
      refine ⟨HU.out, .inr ⟨by rw [← HGB.out]; exact hall, _, rfl, ?_⟩⟩
      rw [HM.out]
      have hne : ∀ b, (Value.slice ad2 k c2).ownBlock = some b → w1.heap.size ≤ b := fun b hb => (HCl.out.row.lt b hb).1
      rcases HCl.out.row.2 with ⟨_, h⟩ | ⟨gc, cc, cur, he, hb1, hb2, hb3, _, hb5, hb6⟩
      · omega
      · cases he
        have hlow := HCl.out.low
        refine ⟨gc, c2, rb, ⟨HT.out, ⟨cur, hb2, fun i hi => ?_⟩, fun i hi => HCl.out.ring i hi, .inl ⟨rfl, rfl⟩, by omega, h2, by omega, fun i hi q hq => ?_, fun i j hi hj hij q hq hq2 => ?_, fun q hq => by cases hq⟩, fun q hq => ?_⟩
        · obtain ⟨a1, a2, a3⟩ := crow_at (fun i => l.getD i 0) rb hi
          have hl := crow_len (fun i => l.getD i 0) rb k
          exact ⟨took_at hb6 a1 (by omega), took_at hb6 a2 (by omega), took_at hb6 a3 (by omega)⟩
        · rcases hq with rfl | hq
          · have := hlow i hi
            refine ⟨by omega, fun e => HCl.out.off i hi ?_⟩
            simp [Value.ownBlock, e]
          · cases hq
        · rcases hq with rfl | hq
          · rcases hq2 with hq2 | hq2
            · exact HCl.out.apart i j hi hj hij hq2
            · cases hq2
          · cases hq
        · rcases hq with rfl | rfl | hq | ⟨i, hi, hq⟩
          · exact Nat.le_refl _
          · omega
          · cases hq
          · rcases hq with rfl | hq
            · have := hlow i hi; omega
            · cases hq
end Go.Proofs.Ytopibbaopglggaa.Drr
