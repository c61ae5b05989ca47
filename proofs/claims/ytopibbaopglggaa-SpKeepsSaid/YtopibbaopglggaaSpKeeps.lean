/- SpKeeps. -/
import Derived.Test.YtopibbaopglggaaSpI6
import Derived.Test.YtopibbaopglggaaSpLives
import Derived.Test.YtopibbaopglggaaSpKeepsPlain
import Derived.Test.YtopibbaopglggaaMix
import Derived.Test.YtopibbaopglggaaClose
namespace Go.Proofs.Ytopibbaopglggaa.Sp
open Go.RowKit Go.Proofs BigFrame
open SpI (HasA has_new hasA_push hasA_pop hasA_len)
open Keeps (lv fl row pushedTo)
set_option maxHeartbeats 2000000
set_option maxRecDepth 100000
theorem infoI : (Try.prog.info? 3).map (fun i => (i.zero, i.size, i.bytes)) = some (some (.int .i64 0), 1, 8) := by kernel_rfl
theorem infoB : (Try.prog.info? 4).map (fun i => (i.zero, i.size, i.bytes)) = some (some (.bool false), 1, 1) := by kernel_rfl
/-- Ranks, bounds, places. -/
def rkOf (l : List Int) (k : Nat) : Nat := (l.getD k 0).toNat
def bsq (l : List Int) (n : Nat) : Nat → Nat → Nat
  | 0 => fun _ => 0
  | k + 1 => pushed (bsq l n k) (rkOf l k) (pick (bsq l n k) (rkOf l k) (n - 1))
def avOf (l : List Int) (n k : Nat) : Nat := pick (bsq l n k) (rkOf l k) (n - 1)
def arow (av : Nat → Nat) (k : Nat) : List Value := (List.range k).map fun j => .int .i64 (av j : Nat)
theorem arow_len (av : Nat → Nat) (k : Nat) : (arow av k).length = k := by simp [arow]
theorem arow_succ (av : Nat → Nat) (k : Nat) : arow av (k + 1) = arow av k ++ [.int .i64 (av k : Nat)] := by unfold arow; rw [List.range_succ, List.map_append]; rfl
theorem arow_at (av : Nat → Nat) {k i : Nat} (h : i < k) : (arow av k)[i]? = some (.int .i64 (av i : Nat)) := by simp [arow, h]
theorem keeps_walk (N : Nat) (_hN : N ≤ 255) (ad : Option Addr) (ca : Nat) (l : List Int) (hl : l.length ≤ 300) (hb : ∀ x ∈ l, 0 ≤ x ∧ x ≤ 18446744073709551615) (w : World)
    (ha0 : ad = none → l.map (Value.int .u64) = [] ∧ ca = 0) (ha1 : ∀ b, ad = some b → ∀ j u, (l.map (Value.int .u64))[j]? = some u → b.spot = none ∧ w.cell? ⟨b.block, b.off + j, none⟩ = some u) :
    Calls Try.prog 4 #[.int .u8 N, .slice ad l.length ca] w fun e w' => e = .returned (.bool true) ∧ Upd Nowhere w w' := by
  obtain ⟨m, hm⟩ : ∃ m, l.length = m := ⟨_, rfl⟩
  rw [hm] at hl ⊢
  have t0 : decide ((m : Int) > 300) = false := decide_eq_false (by omega)
  have t1 : decide (300 < (m : Int)) = false := decide_eq_false (by omega)
  have eN : (N : Int) % 32 = ((N % 32 : Nat) : Int) := rfl
  have hq : N % 32 < 32 := Nat.mod_lt _ (by omega)
  generalize N % 32 = q at *
  obtain ⟨n, hn⟩ : ∃ n, q + 1 = n := ⟨_, rfl⟩
  have eq1 : (q : Int) + 1 = (n : Int) := by omega
  have hn1 : 1 ≤ n := by omega
  have hn2 : n ≤ 32 := by omega
  obtain ⟨ii, hi, hz0, hz1, hz2⟩ := info_parts infoI
  obtain ⟨ib, hbi, hbz0, hbz1, hbz2⟩ := info_parts infoB
  have HN := Lib.hid (has_new w 4096 n (by omega) (by omega) hn1 hn2)
  have Hm := Lib.hid hm
  have Ha0 := Lib.hid ha0
  have Ha := Lib.hid ha1
  have HL := fun u => Lib.hid (lives u)
  have HR : Hid (∀ k, k < m → l[k]? = some ((rkOf l k : Nat) : Int) ∧ rkOf l k ≤ 18446744073709551615) := Lib.hid (fun k hk => by
    have hx : l[k]? = some (l[k]'(by omega)) := by simp
    have := hb _ (List.mem_of_getElem? hx)
    unfold rkOf
    rw [List.getD_eq_getElem?_getD, hx]
    simp only [Option.getD_some, Option.some.injEq]
    omega)
  clear hm hb ha0 ha1
  go_enter Try.func4, Try.ntmps4
  go_wp2_with fail
  refine HN.out.mono ?_
  rintro e w1 ⟨s, rfl, hS⟩
  have HS := Lib.hid hS
  clear hS HN
  go_wp2_with fail
  go_loopw [8, 36] (fun rv i wr => ∃ (k : Nat), k ≤ m ∧ i = .int .i64 k ∧ HasA (fun b => rv.ownBlock = some b) w wr s n 4096 k (bsq l n k) (pushedTo (avOf l n) (rkOf l) k) ∧ wr.ownsRow w.heap.size 3 1 rv k (arow (avOf l n) k) ∧ Upd Nowhere w wr) (fun _ i _ => m - (intOf i).toNat)
  case atStart => exact ⟨0, by omega, rfl, HS.out.off.re (fun k h => by cases h), ownsRow_nil _ _ _ _, HS.out.upd⟩
  case round =>
    obtain ⟨k, hk, rfl, hS, hown, hU⟩ := hrel
    have HS2 := Lib.hid hS
    have HO := Lib.hid hown
    have HUw := Lib.hid hU
    clear hS hown hU HS
    obtain ⟨wB, rfl⟩ : ∃ x, x = wr := ⟨_, rfl⟩
    by_cases hlt : k < m
    · have hI : (k : Int) < m := by omega
      obtain ⟨hx, hrb⟩ := HR.out k hlt
      obtain ⟨ga, oa, rfl, hc0⟩ := row_at (fun h => ⟨(Ha0.out h).1, trivial⟩) Ha.out (i := k) (u := .int .u64 ((rkOf l k : Nat) : Int)) (by simp [hx])
      have r0 := cell_old HUw.out hc0
      have hpn : avOf l n k < n := by have := pick_le (bsq l n k) (rkOf l k) (n - 1); unfold avOf; omega
      have hP := Lib.hid (hasA_push HS2.out (fun b hb => (HO.out.lt b hb).2) (by omega) (rkOf l k) hrb (k : Int) (avOf l n k) rfl)
      have EQ : Hid (upd (pushedTo (avOf l n) (rkOf l) k) (avOf l n k) (pushedTo (avOf l n) (rkOf l) k (avOf l n k) ++ [((rkOf l k : Int), (k : Int))]) = pushedTo (avOf l n) (rkOf l) (k + 1)) := Lib.hid (Keeps.pushedTo_succ _ _ _).symm
      have EB : Hid (pushed (bsq l n k) (rkOf l k) (avOf l n k) = bsq l n (k + 1)) := Lib.hid rfl
      have EA : Hid (arow (avOf l n) (k + 1) = arow (avOf l n) k ++ [.int .i64 (avOf l n k : Nat)]) := Lib.hid (arow_succ _ _)
      rw [EQ.out, EB.out] at hP
      clear hx hc0 EQ EB
      generalize rkOf l k = r at *
      generalize avOf l n k = p at *
      have d1 : decide ((p : Int) < 0) = false := decide_eq_false (by omega)
      have d2 : decide (n ≤ p) = false := decide_eq_false (by omega)
      go_wp2_with fail
      refine hP.out.mono ?_
      rintro e w3 ⟨rfl, hS3, hu3⟩
      have hown3 := ownsRow_upd HO.out hu3 (fun b hb h => h.2 hb)
      have HS3 := Lib.hid hS3
      have hU3 := HUw.out.trans hu3 (fun b hb h => absurd h.1 (Nat.not_le.2 hb))
      have hsz := hU3.size
      have HU3 := Lib.hid hU3
      clear hP hS3 hu3 HS2 r0 hU3
      go_wp2_with (at_builtin; refine wpList_push rfl _ _ 39 rfl w.heap.size 3 ii (.int .i64 0) 1 8 Try.underlying39 hi hz0 hz1 hz2 rfl (by decide) (by decide) _ _ _ rfl (hown3.alloc _) w3.heap.size 1 [.int .i64 p] rfl rfl (new_cells _ #[_] _) (by simp [Value.oneCell']) (by omega) (by simp; omega) ?_; intro v4 w4 hown4 hu4 hn4)
      go_roundw
      case rel =>
        refine ⟨k + 1, by omega, by go_num, ?_, by rw [EA.out]; exact hown4, (HU3.out.alloc _).trans hu4 (fun b hb hk => absurd (hown3.lt b hk).1 (Nat.not_le.2 hb))⟩
        exact (((HS3.out.old ((Upd.refl _ _).alloc _)).re (A' := fun b => u8.ownBlock = some b ∨ v4.ownBlock = some b) (fun b hb => hb.elim .inl (hn4 b))).kept hu4 (fun b hb _ => .inl (.inl hb))).re (fun b hb => .inl (.inr hb))
      case measure => simp [intOf]; omega
    · obtain rfl : m = k := by omega
      obtain ⟨rad, rca, rfl, hr0, hr1⟩ := ownsRow_rowAt HO.out
      simp only [arow_len]
      have HR0 := Lib.hid hr0
      have HR1 := Lib.hid hr1
      have hszB := HUw.out.size
      clear hr0 hr1 hk
      go_wp2_with (refine wpList_make_full _ rfl _ _ 40 rfl wB.heap.size 4 ib (.bool false) 1 Try.underlying40 hbi hbz0 hbz1 .i64 .i64 _ _ m rfl rfl rfl rfl (by rw [hbz2]; omega) (by unfold maxLen; omega) (Nat.le_refl _) ?_; intro w5 howng hgr)
      have hu5 : Upd Nowhere wB w5 := (Upd.refl Nowhere wB).grown hgr (fun k _ h => by cases h)
      obtain ⟨cur, hcur, _, _, hcs, hct⟩ := Blk.own howng
      have hcs' : cur.size = m := by omega
      have hA5 := ((HS2.out.re (A' := fun b => rad.map (·.block) = some b ∨ b = wB.heap.size) (fun b hb => hb.elim (fun h => .inl (by rw [← h]; cases rad <;> rfl)) (fun h => .inr (Nat.le_of_eq h.symm)))).old hu5)
      rw [Keeps.pushedTo_all] at hA5
      have HA5 := Lib.hid hA5
      have HU5 := Lib.hid (HUw.out.trans hu5 (fun _ _ h => h))
      have hgone : ∀ j, j < m → cur[j]? = some (.bool (!lv (avOf l n) 0 (-1) j)) := fun j hj => by
        have e : lv (avOf l n) 0 (-1) j = true := Keeps.lv_iff.2 (by omega)
        rw [e]; exact made_at hct hj
      have HG := Lib.hid hgone
      have HROW := Lib.hid (show RowAt w5 (.slice rad (arow (avOf l n) m).length rca) (arow (avOf l n) m) from RowAt.old ⟨rad, rca, rfl, HR0.out, HR1.out⟩ hu5)
      have HRB : Hid (∀ b, rad.map (·.block) = some b → b < wB.heap.size) := Lib.hid (fun b hb => (HO.out.lt b (by rw [← hb]; cases rad <;> rfl)).2)
      obtain ⟨bsm, hbsm⟩ : ∃ b, bsq l n m = b := ⟨_, rfl⟩
      rw [hbsm] at HA5
      clear hA5 hu5 hgone howng hgr hct hcs HO HS2 HR0 HR1 hbsm
      go_loopw [14, 15, 69] (fun qv tv i wr => ∃ (c q : Nat) (t : Int) (cur : Array Value), c ≤ m ∧ i = .int .i64 c ∧ qv = .int .i64 q ∧ tv = .int .i64 t ∧ HasA (fun b => rad.map (·.block) = some b ∨ b = wB.heap.size) w wr s n 4096 (m - c) bsm (fun i => row (rkOf l) (fl (avOf l n) m q t i)) ∧ Blk wr wB.heap.size cur 4 ∧ cur.size = m ∧ (∀ j, j < m → cur[j]? = some (.bool (!lv (avOf l n) q t j))) ∧ RowAt wr (.slice rad (arow (avOf l n) m).length rca) (arow (avOf l n) m) ∧ Upd Nowhere w wr) (fun _ _ i _ => m - (intOf i).toNat)
      case atStart => exact ⟨0, 0, -1, cur, by omega, rfl, rfl, rfl, HA5.out, hcur, hcs', HG.out, HROW.out, HU5.out⟩
      case round =>
        clear HA5 hcur hcs' HG HROW HU5
        obtain ⟨c, q, t, cur, hc, rfl, rfl, rfl, hA, hB, hcs, hg, hrow, hU⟩ := hrel
        obtain ⟨wC, rfl⟩ : ∃ x, x = wr := ⟨_, rfl⟩
        have HA := Lib.hid hA
        have HB := Lib.hid hB
        have HG := Lib.hid hg
        have HROW := Lib.hid hrow
        have HUC := Lib.hid hU
        have hgl := hB.lt
        clear hA hB hg hrow hU
        by_cases hlt : c < m
        · have hI : (c : Int) < m := by omega
          obtain ⟨i, hin, hlow, hpos⟩ := Keeps.first_of _ n (by rw [HA.out.tot_]; omega)
          obtain ⟨x, r, hxr⟩ : ∃ x r, fl (avOf l n) m q t i = x :: r := by
            cases h : fl (avOf l n) m q t i with
            | nil => rw [h] at hpos; simp [row] at hpos
            | cons x r => exact ⟨x, r, rfl⟩
          obtain ⟨hxm, hax, hqi, hqt, hlx, hfl, hnew⟩ := Keeps.step (fun k hk => by have := hlow k hk; simpa [row] using this) hxr
          have hT := hasA_pop HA.out (fun b hb => hb.elim (fun h => by
            have := HA.out
            obtain ⟨rad', rca', he, h0, h1⟩ := HROW.out
            cases he
            cases rad with
            | none => cases h
            | some a =>
              obtain rfl := Option.some.inj h
              exact cell_lt (a := ⟨a.block, a.off + x, none⟩) (h1 a rfl x _ (arow_at _ hxm)).2) (fun h => by rw [h]; exact hgl)) i ((rkOf l x : Nat) : Int) (x : Int) (row (rkOf l) r) hin hlow (by show row (rkOf l) _ = _; rw [hxr]; rfl)
          have eq2 : upd (fun i => row (rkOf l) (fl (avOf l n) m q t i)) i (row (rkOf l) r) = fun k => row (rkOf l) (fl (avOf l n) m i x k) := by
            funext k; unfold upd; rw [hfl k]; split <;> rfl
          rw [eq2, show m - c - 1 = m - (c + 1) by omega] at hT
          have HT := Lib.hid hT
          have HNW := Lib.hid hnew
          obtain ⟨hxl, _⟩ := HR.out x hxm
          obtain ⟨ga, oa, rfl, hc0⟩ := row_at (fun h => ⟨(Ha0.out h).1, trivial⟩) Ha.out (i := x) (u := .int .u64 ((rkOf l x : Nat) : Int)) (by simp [hxl])
          have hg0 := HG.out x hxm
          rw [hlx] at hg0
          clear hT eq2 hfl hnew hxr hlow hpos hxl hlx
          go_wp2_with fail
          refine HT.out.mono ?_
          rintro e w6 ⟨rfl, hA6, hu6⟩
          have hB6 := HB.out.kept hu6 (fun h => h.2 (.inr rfl))
          have hR6 := HROW.out.upd hu6 (fun k hk h => h.2 (.inl (by cases rad with
            | none => cases hk
            | some a => exact hk)))
          have hU6 := HUC.out.trans hu6 (fun b hb h => absurd h.1 (Nat.not_le.2 hb))
          have cg := hB6.cellAt hg0
          have zg := hB6.free x
          have cr := cell_old hU6 hc0
          obtain ⟨rad', rca', he, hq0, hq1⟩ := id hR6
          cases he
          obtain ⟨gr, orr, rfl, cat⟩ := row_at (fun h => ⟨(hq0 h).1, trivial⟩) hq1 (arow_at (avOf l n) hxm)
          rw [hax] at cat
          have HA6 := Lib.hid hA6
          have HB6 := Lib.hid hB6
          have HR6 := Lib.hid hR6
          have HU6 := Lib.hid hU6
          have d1 : decide ((x : Int) < 0) = false := decide_eq_false (by omega)
          have d2 : decide (m ≤ x) = false := decide_eq_false (by omega)
          have d3 : decide (i < q) = false := decide_eq_false (by omega)
          have d4 : (x : Int) < m := by omega
          clear HT hA6 hu6 hB6 hR6 hU6 hq0 hq1 HA HB HROW HUC hc0 hg0
          obtain ⟨rx, hrx⟩ : ∃ a, rkOf l x = a := ⟨_, rfl⟩
          rw [hrx] at cr ⊢
          by_cases hiq : i = q
          · have d5 : decide ((x : Int) < t) = false := decide_eq_false (by have := hqt hiq; omega)
            subst hiq
            clear hqt hqi
            go_wp2_with fail
            go_roundw
            case rel =>
              have hset : Upd (fun b => b = wB.heap.size) w6 (w6.setCell ⟨wB.heap.size, x, none⟩ (.bool true)) := Upd.setCell (S := fun b => b = wB.heap.size) (a := ⟨wB.heap.size, x, none⟩) (Upd.refl _ _) (fun _ => rfl) _
              refine ⟨c + 1, i, (x : Int), cur.setIfInBounds x (.bool true), by omega, by go_num, rfl, rfl, HA6.out.kept hset (fun b hb _ => .inl (.inr hb)), HB6.out.set x _, by simpa using hcs, fun j hj => ?_, HR6.out.upd hset (fun k hk e => ?_), HU6.out.setNew (a := ⟨wB.heap.size, x, none⟩) hszB _⟩
              · rw [HNW.out j hj]
                by_cases hjx : j = x
                · subst hjx
                  rw [Array.getElem?_setIfInBounds_self_of_lt (by omega)]
                  simp
                · rw [Array.getElem?_setIfInBounds_ne (Ne.symm hjx), HG.out j hj]
                  simp [hjx]
              · have := HRB.out k hk
                omega
            case measure => simp [intOf]; omega
          · have d5 : ((i : Int) == (q : Int)) = false := by simp; omega
            have d6 : (i == q) = false := by simp; omega
            clear hqt
            go_wp2_with fail
            go_roundw
            case rel =>
              have hset : Upd (fun b => b = wB.heap.size) w6 (w6.setCell ⟨wB.heap.size, x, none⟩ (.bool true)) := Upd.setCell (S := fun b => b = wB.heap.size) (a := ⟨wB.heap.size, x, none⟩) (Upd.refl _ _) (fun _ => rfl) _
              refine ⟨c + 1, i, (x : Int), cur.setIfInBounds x (.bool true), by omega, by go_num, rfl, rfl, HA6.out.kept hset (fun b hb _ => .inl (.inr hb)), HB6.out.set x _, by simpa using hcs, fun j hj => ?_, HR6.out.upd hset (fun k hk e => ?_), HU6.out.setNew (a := ⟨wB.heap.size, x, none⟩) hszB _⟩
              · rw [HNW.out j hj]
                by_cases hjx : j = x
                · subst hjx
                  rw [Array.getElem?_setIfInBounds_self_of_lt (by omega)]
                  simp
                · rw [Array.getElem?_setIfInBounds_ne (Ne.symm hjx), HG.out j hj]
                  simp [hjx]
              · have := HRB.out k hk
                omega
            case measure => simp [intOf]; omega
        · have hI : ¬ (c : Int) < m := by omega
          have hz : m - c = 0 := by omega
          rw [hz] at HA
          go_wp2_with fail
          refine (hasA_len HA.out).mono ?_
          rintro e w4 ⟨rfl, rfl⟩
          go_wp2_with fail
          refine ((HL _).out).mono ?_
          rintro e w5 ⟨rfl, u5⟩
          go_wp2_with fail
          go_ret
          exact ⟨rfl, HUC.out.trans u5 (fun _ _ h => h)⟩
end Go.Proofs.Ytopibbaopglggaa.Sp
