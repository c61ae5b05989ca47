/- The reference's turns: Check, New, Count, first. -/
import Derived.Test.YtopibbaopglggaaProg
import Derived.Test.YtopibbaopglggaaRef29Core
import Derived.Test.YtopibbaopglggaaDrr2
import Derived.Test.YtopibbaopglggaaMix
import Derived.Lib.Hide
import Derived.Laws.MakeOwn
import Derived.Deep.RegionLaw
namespace Go.Proofs.Ytopibbaopglggaa.Ref29
open Go.RowKit Go.Proofs BigFrame
open Ref12 (nums vals)
open Drr (checkOf good)
set_option maxHeartbeats 1000000
set_option maxRecDepth 1000000
abbrev TT : TypeId := 85
abbrev TU : TypeId := 28
abbrev TI : TypeId := 78
abbrev TJ : TypeId := 3
theorem infoU : (Try.prog.info? TU).map (fun i => (i.zero, i.size, i.bytes)) = some (some (.int .u64 0), 1, 8) := by kernel_rfl
theorem infoI : (Try.prog.info? TI).map (fun i => (i.zero, i.size, i.bytes)) = some (some (.agg #[.int .i64 0, .int .u64 0, .int .i64 0]), 3, 24) := by kernel_rfl
theorem infoJ : (Try.prog.info? TJ).map (fun i => (i.zero, i.size, i.bytes)) = some (some (.int .i64 0), 1, 8) := by kernel_rfl
abbrev R (B : Nat) (w : World) (b n m gq oq cq : Nat) (cv iv rv : Value) (q cr : Nat → Nat) (its : List It) (row : List Nat) (bg : Bool) : Prop := R29 TT TU TI TJ B w b n m gq oq cq cv iv rv q cr its row bg
theorem own_form {E : TypeId} {size base n : Nat} {w : World} {v : Value} {xs : List Value} (h : w.ownsRow base E size v n xs) : ∃ ad c, v = .slice ad n c := by
  rcases h.2 with ⟨rfl, h0⟩ | ⟨g, c, cur, rfl, _⟩
  · exact ⟨none, 0, by rw [h0]⟩
  · exact ⟨_, c, rfl⟩
theorem check_any (w : World) (ad : Option Addr) (ca : Nat) (l : List Nat) (h0 : ad = none → l = []) (hc : ∀ g, ad = some g → ∀ j x, l[j]? = some x → g.spot = none ∧ w.cell? ⟨g.block, g.off + j, none⟩ = some (.int .u64 (x : Nat))) :
    Calls Try.prog 35 #[.slice ad l.length ca] w fun e w' => e = .returned (.int .i64 (checkOf l)) ∧ w = w' := by
  obtain ⟨n, hn⟩ : ∃ n, l.length = n := ⟨_, rfl⟩
  obtain ⟨r, hr⟩ : ∃ r, checkOf l = r := ⟨_, rfl⟩
  have hr' := hr
  unfold checkOf at hr'
  rw [hn] at hr' ⊢
  rw [hr]
  by_cases h1 : n = 0
  · have d1 : decide ((n : Int) < 1) = true := decide_eq_true (by omega)
    have d2 : decide (n < 1) = true := decide_eq_true (by omega)
    rw [if_pos (.inl h1)] at hr'
    subst hr'
    clear h1 hn hr h0 hc
    go_enter Try.func35, Try.ntmps35
    go_wp2_with fail
    go_ret
    exact ⟨rfl, rfl⟩
  · have d1 : decide ((n : Int) < 1) = false := decide_eq_false (by omega)
    have d2 : decide (n < 1) = false := decide_eq_false (by omega)
    by_cases h2 : 64 < n
    · have d3 : decide ((n : Int) > 64) = true := decide_eq_true (by omega)
      have d4 : decide (64 < (n : Int)) = true := decide_eq_true (by omega)
      rw [if_pos (.inr h2)] at hr'
      subst hr'
      clear h1 h2 hn hr h0 hc
      go_enter Try.func35, Try.ntmps35
      go_wp2_with fail
      go_ret
      exact ⟨rfl, rfl⟩
    · have d3 : decide ((n : Int) > 64) = false := decide_eq_false (by omega)
      have d4 : decide (64 < (n : Int)) = false := decide_eq_false (by omega)
      rw [if_neg (by omega)] at hr'
      obtain ⟨ga, oa, rfl⟩ : ∃ ga oa, ad = some ⟨ga, oa, none⟩ := by
        cases ad with
        | none => have := h0 rfl; rw [this] at hn; simp at hn; omega
        | some b =>
          have hl0 : l[0]? = some (l[0]'(by omega)) := by simp
          have hs := (hc b rfl 0 _ hl0).1
          obtain ⟨g, o, sp⟩ := b
          simp only at hs
          subst hs
          exact ⟨g, o, rfl⟩
      have HR := Lib.hid hr'
      have HN := Lib.hid hn
      have HC := Lib.hid hc
      have hn64 : n ≤ 64 := by omega
      clear hr' hr hn h0 hc h1 h2
      go_enter Try.func35, Try.ntmps35
      go_wp2_with fail
      go_loopw [3] (fun i wr => ∃ k : Nat, k ≤ n ∧ i = .int .i64 k ∧ (l.take k).all good = true ∧ w = wr) (fun i _ => n - (intOf i).toNat)
      case atStart => exact ⟨0, by omega, rfl, rfl, rfl⟩
      case round =>
        obtain ⟨k, hk, rfl, hall, rfl⟩ := hrel
        have HALL := Lib.hid hall
        clear hall
        by_cases hlt : k < n
        · have hI : (k : Int) < n := by omega
          obtain ⟨x, hx⟩ : ∃ x, l[k]? = some x := ⟨l[k]'(by rw [HN.out]; exact hlt), by simp⟩
          have k0 := (HC.out _ rfl k x hx).2
          have HX := Lib.hid hx
          simp only at k0
          clear hx
          by_cases hg : good x = true
          · have hg' : 64 ≤ x ∧ x ≤ 4294967296 := by unfold good at hg; simpa using hg
            have d5 : decide ((x : Int) < 64) = false := decide_eq_false (by omega)
            have d6 : decide ((x : Int) > 4294967296) = false := decide_eq_false (by omega)
            have d7 : decide (4294967296 < (x : Int)) = false := decide_eq_false (by omega)
            have HG := Lib.hid hg
            clear hg hg'
            go_wp2_with fail
            go_roundw
            case rel => exact ⟨k + 1, by omega, by go_num, by rw [List.take_add_one, HX.out, List.all_append, HALL.out]; simp [HG.out], trivial⟩
            case measure => simp [intOf]; omega
          · have hg' : x < 64 ∨ 4294967296 < x := by unfold good at hg; simp at hg; omega
            have hr6 : r = 6 := by
              rw [← HR.out, if_neg (fun h => hg (List.all_eq_true.1 h x (List.mem_of_getElem? HX.out)))]
            have HR6 := Lib.hid hr6
            clear hg hr6
            rcases hg' with h | h
            · have d5 : decide ((x : Int) < 64) = true := decide_eq_true (by omega)
              clear h
              go_wp2_with fail
              go_ret
              exact ⟨ret_int HR6.out.symm, rfl⟩
            · have d5 : decide ((x : Int) < 64) = false := decide_eq_false (by omega)
              have d6 : decide ((x : Int) > 4294967296) = true := decide_eq_true (by omega)
              have d7 : decide (4294967296 < (x : Int)) = true := decide_eq_true (by omega)
              clear h
              go_wp2_with fail
              go_ret
              exact ⟨ret_int HR6.out.symm, rfl⟩
        · obtain rfl : k = n := by omega
          have hr0 : r = 0 := by
            have h := HALL.out
            rw [List.take_of_length_le (by rw [HN.out]; exact Nat.le_refl _)] at h
            rw [← HR.out, if_pos h]
          have HR0 := Lib.hid hr0
          clear hr0
          go_wp2_with fail
          go_ret
          exact ⟨ret_int HR0.out.symm, rfl⟩
theorem new_any (w : World) (n gq oq cq : Nat) (q : Nat → Nat) (hn : n ≤ 64) (hq : ∀ i, i < n → w.cell? ⟨gq, oq + i, none⟩ = some (.int .u64 (q i : Nat))) (hg : gq < w.heap.size) :
    Calls Try.prog 36 #[.slice (some ⟨gq, oq, none⟩) n cq] w fun e w' => ∃ cv, e = .returned (.pointer (some ⟨w.heap.size, 0, none⟩)) ∧ R w.heap.size w' w.heap.size n n gq oq cq cv (.slice none 0 0) (.slice none 0 0) q (fun _ => 0) [] [] false ∧ Upd Nowhere w w' := by
  obtain ⟨i0, hi, hz0, hz1, hz2⟩ := info_parts infoU
  have HQ := Lib.hid hq
  have HG := Lib.hid hg
  clear hq hg
  go_enter Try.func36, Try.ntmps36
  go_wp2_with fail
  go_loopw [4] (fun i wr => ∃ (k : Nat) (cv : Value), k ≤ n ∧ i = .int .i64 k ∧ R w.heap.size wr w.heap.size n k gq oq cq cv (.slice none 0 0) (.slice none 0 0) q (fun _ => 0) [] [] false ∧ Upd Nowhere w wr) (fun i _ => n - (intOf i).toNat)
  case atStart =>
    have hu : Upd Nowhere w (w.alloc (.cells #[.slice (some ⟨gq, oq, none⟩) n cq, .slice none 0 0, .slice none 0 0, .slice none 0 0, .bool false] TT)) := (Upd.refl _ _).alloc _
    exact ⟨0, _, by omega, rfl, ⟨Blk.new _ _ _, fun i hi => cell_old hu (HQ.out i hi), HG.out, ownsRow_nil _ _ _ _, ownsRow_nil _ _ _ _, ownsRow_nil _ _ _ _, Nat.le_refl _, by simp [Value.ownBlock], by simp [Value.ownBlock], by simp [Value.ownBlock], by simp [Value.ownBlock], by simp [Value.ownBlock], by simp [Value.ownBlock]⟩, hu⟩
  case round =>
    obtain ⟨k, cv, hk, rfl, hH, hu⟩ := hrel
    obtain ⟨wB, rfl⟩ : ∃ x, x = wr := ⟨_, rfl⟩
    by_cases hlt : k < n
    · have hI : (k : Int) < n := by omega
      obtain ⟨c0, c1, c2, c3, c4, z0, z1, z2, z3, z4⟩ := cells5 hH.blk
      obtain ⟨ab, cb, rfl⟩ := own_form hH.crd
      have HH := Lib.hid hH
      have HU := Lib.hid hu
      have hsz := hu.size
      clear hH hu c0 c2 c3 c4
      go_wp2_with (at_builtin; refine wpList_push rfl _ _ 38 rfl w.heap.size TU i0 (.int .u64 0) 1 8 Try.underlying38 hi hz0 hz1 hz2 rfl (by decide) (by decide) _ _ _ rfl (ownsRow_upd HH.out.crd ((Upd.refl _ _).alloc _) (fun _ _ h => h)) wB.heap.size 1 [.int .u64 0] rfl rfl (new_cells wB #[_] _) (by simp [Value.oneCell']) (by omega) (by simp; omega) ?_; intro v3 w3 hown hu3 hno; have hg := HH.out.newCr (m' := k + 1) (cr' := fun _ => 0) ((Upd.refl _ _).alloc _) hu3 (by unfold nums; rw [show Ref12.vals (fun i => Value.int .u64 ((fun _ => 0 : Nat → Nat) i : Nat)) (k + 1) = Ref12.vals (fun i => Value.int .u64 ((fun _ => 0 : Nat → Nat) i : Nat)) k ++ [.int .u64 0] from by unfold Ref12.vals; rw [List.range_succ, List.map_append]; rfl]; exact hown) hno; have HU3 := Lib.hid ((HU.out.alloc (.cells #[.int .u64 0] TU)).trans hu3 (fun q hq h => absurd hq (Nat.not_lt.2 (HH.out.crd.lt q h).1))); have HH3 := Lib.hid hg.1; obtain ⟨x0, x1, x2, x3, x4, e0, e1, e2, e3, e4⟩ := cells5 hg.2; obtain ⟨ab3, cb3, rfl⟩ := own_form hown; clear hg hown hu3 hno)
      go_roundw
      case rel => exact ⟨k + 1, _, by omega, by go_num, HH3.out, HU3.out.setNew (a := ⟨w.heap.size, 1, none⟩) (Nat.le_refl _) _⟩
      case measure => simp [intOf]; omega
    · obtain rfl : k = n := by omega
      go_wp2_with fail
      go_ret
      exact ⟨cv, rfl, hH, hu⟩
/-- How many items a class has. -/
def cof (its : List It) (c : Nat) : Nat := (its.filter (fun e => e.1 == c)).length
theorem cof_le (its : List It) (c : Nat) : cof its c ≤ its.length := List.length_filter_le _ _
section
variable {B : Nat} {w : World} {b n m gq oq cq : Nat} {cv iv rv : Value} {q cr : Nat → Nat} {its : List It} {row : List Nat} {bg : Bool}
theorem count_any (h : R B w b n m gq oq cq cv iv rv q cr its row bg) (hl : its.length ≤ 1000000) (c : Nat) :
    Calls Try.prog 70 #[.pointer (some ⟨b, 0, none⟩), .int .i64 c] w fun e w' => e = .returned (.int .i64 (cof its c : Nat)) ∧ w = w' := by
  obtain ⟨c0, c1, c2, c3, c4, z0, z1, z2, z3, z4⟩ := cells5 h.blk
  obtain ⟨ai, ci, rfl⟩ := own_form h.itm
  obtain ⟨L, hL⟩ : ∃ L, its.length = L := ⟨_, rfl⟩
  have H := Lib.hid h
  have HL := Lib.hid hL
  rw [hL] at c2 hl
  clear h hL z0 z1 z2 z3 z4
  go_enter Try.func70, Try.ntmps70
  go_wp2_with fail
  go_loopw [5, 6] (fun s i wr => ∃ k : Nat, k ≤ L ∧ i = .int .i64 k ∧ s = .int .i64 (cof (its.take k) c : Nat) ∧ w = wr) (fun _ i _ => L - (intOf i).toNat)
  case atStart => exact ⟨0, by omega, rfl, rfl, rfl⟩
  case round =>
    obtain ⟨k, hk, rfl, rfl, rfl⟩ := hrel
    by_cases hlt : k < L
    · have hI : (k : Int) < L := by omega
      obtain ⟨e, he⟩ : ∃ e, its[k]? = some e := ⟨its[k]'(by rw [HL.out]; exact hlt), by simp⟩
      obtain ⟨g, cc, hv, k0, k1, k2⟩ := H.out.icell he
      injection hv with hv1 hv2 hv3
      subst hv1 hv3
      clear hv2
      have hcl : cof (its.take k) c ≤ k := Nat.le_trans (cof_le _ _) (by rw [List.length_take]; omega)
      have htk : its.take (k + 1) = its.take k ++ [e] := by rw [List.take_add_one, he]; rfl
      have hcs : cof (its.take (k + 1)) c = cof (its.take k) c + (if e.1 = c then 1 else 0) := by
        rw [htk]; unfold cof; rw [List.filter_append, List.length_append]
        by_cases hec : e.1 = c <;> simp [hec]
      obtain ⟨e1, e2, e3⟩ := e
      obtain ⟨s2, hs2⟩ : ∃ s2, cof (its.take (k + 1)) c = s2 := ⟨_, rfl⟩
      rw [hs2] at hcs
      have HS2 := Lib.hid hs2
      generalize cof (its.take k) c = s at *
      clear he htk hs2 k1 k2
      by_cases hec : e1 = c
      · have d1 : ((e1 : Int) == c) = true := by simp [hec]
        rw [if_pos hec] at hcs
        have e9 : IntKind.i64.wrap ((s : Int) + 1) = ((s2 : Nat) : Int) := by rw [IntKind.wrap_i64]; omega
        have HEC := Lib.hid hec
        have HCS := Lib.hid hcs
        clear hec hcs
        go_wp2_with fail
        go_roundw
        case rel => exact ⟨k + 1, by omega, by go_num, by rw [HS2.out, HCS.out] <;> rfl, trivial⟩
        case measure => simp [intOf]; omega
      · have d1 : ((e1 : Int) == c) = false := by simp; omega
        rw [if_neg hec] at hcs
        have HCS := Lib.hid hcs
        clear hec hcs
        go_wp2_with fail
        go_roundw
        case rel => exact ⟨k + 1, by omega, by go_num, by rw [HS2.out, HCS.out] <;> rfl, trivial⟩
        case measure => simp [intOf]; omega
    · obtain rfl : k = L := by omega
      go_wp2_with fail
      go_ret
      exact ⟨ret_int (by rw [List.take_of_length_le (by rw [HL.out]; exact Nat.le_refl _)]), rfl⟩
theorem first_any (h : R B w b n m gq oq cq cv iv rv q cr its row bg) (hl : its.length ≤ 1000000) (c i : Nat) {e : It} (he : its[i]? = some e) (hc : e.1 = c) (hlo : ∀ j, j < i → ∀ e', its[j]? = some e' → e'.1 ≠ c) :
    Calls Try.prog 68 #[.pointer (some ⟨b, 0, none⟩), .int .i64 c] w fun e w' => e = .returned (.int .i64 i) ∧ w = w' := by
  obtain ⟨c0, c1, c2, c3, c4, z0, z1, z2, z3, z4⟩ := cells5 h.blk
  obtain ⟨g, ci, rfl, -⟩ := h.icell he
  obtain ⟨L, hL⟩ : ∃ L, its.length = L := ⟨_, rfl⟩
  have hiL : i < L := by rw [← hL]; exact (List.getElem?_eq_some_iff.1 he).1
  have H := Lib.hid h
  have HL := Lib.hid hL
  have HE := Lib.hid he
  have HC := Lib.hid hc
  have HLO := Lib.hid hlo
  rw [hL] at c2 hl
  clear h hL he hc hlo z0 z1 z2 z3 z4
  go_enter Try.func68, Try.ntmps68
  go_wp2_with fail
  go_loopw [5] (fun a wr => ∃ k : Nat, k ≤ i ∧ a = .int .i64 k ∧ w = wr) (fun a _ => L - (intOf a).toNat)
  case atStart => exact ⟨0, by omega, rfl, rfl⟩
  case round =>
    obtain ⟨k, hk, rfl, rfl⟩ := hrel
    have hI : (k : Int) < L := by omega
    obtain ⟨e', he'⟩ : ∃ e, its[k]? = some e := ⟨its[k]'(by rw [HL.out]; omega), by simp⟩
    obtain ⟨g', cc, hv, k0, k1, k2⟩ := H.out.icell he'
    injection hv with hv1 hv2 hv3
    injection hv1 with hv1
    injection hv1 with hv1 hv4 hv5
    subst hv1
    clear hv2 hv3 hv4 hv5 k1 k2
    by_cases hki : k = i
    · have h1 : e'.1 = c := by
        have h2 := HE.out
        rw [← hki, he'] at h2
        rw [Option.some.inj h2]; exact HC.out
      obtain ⟨e1, e2, e3⟩ := e'
      simp only at h1 k0
      have d1 : ((e1 : Int) != c) = false := by simp [h1]
      have HKI := Lib.hid hki
      clear h1 hki he'
      go_wp2_with fail
      go_ret
      exact ⟨ret_int (by rw [HKI.out]), rfl⟩
    · have h1 : e'.1 ≠ c := HLO.out k (by omega) e' he'
      obtain ⟨e1, e2, e3⟩ := e'
      simp only at h1 k0
      have d1 : ((e1 : Int) != c) = true := by simp; omega
      clear h1 he'
      go_wp2_with fail
      go_roundw
      case rel => exact ⟨k + 1, by omega, by go_num, trivial⟩
      case measure => simp [intOf]; omega
end
end Go.Proofs.Ytopibbaopglggaa.Ref29
