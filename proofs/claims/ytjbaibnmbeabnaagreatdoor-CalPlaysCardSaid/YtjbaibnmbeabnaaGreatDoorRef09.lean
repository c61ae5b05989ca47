/- The reference's list of those that wait: May, First, Push, Rest. -/
import Derived.Test.YtjbaibnmbeabnaaGreatDoorProg
import Derived.Test.YtjbaibnmbeabnaaGreatDoorPcs
import Derived.Test.YtjbaibnmbeabnaaGreatDoorMix
import Derived.Test.YtjbaibnmbeabnaaGreatDoorCells
import Derived.Lib.Hide
import Derived.Laws.MakeOwn
import Derived.BigQuiet
namespace Go.Proofs.YtjbaibnmbeabnaaGreatDoor.Ref09
open Go.RowKit Go.Proofs BigFrame
abbrev TI : TypeId := 62
set_option maxHeartbeats 1000000
set_option maxRecDepth 1000000
theorem infoI : (Tryz.prog.info? TI).map (fun i => (i.zero, i.size, i.bytes)) = some (some (.agg #[.int .u64 0, .int .i64 0]), 2, 16) := by kernel_rfl
def mayB (room : Int) : Bool := decide (1 ≤ room ∧ room ≤ 4096)
theorem first_nil {w : World} {v : Value} {base : Nat} (h : PRow TI base w v []) :
    Calls Tryz.prog 7 #[v] w fun e w' => e = .returned (.tuple #[.int .u64 0, .int .i64 0, .bool false]) ∧ Upd Nowhere w w' := by
  obtain ⟨ad, c, rfl⟩ := h.form
  clear h
  go_enter Tryz.func7, Tryz.ntmps7
  go_wp2_with fail
  go_ret3
  exact ⟨rfl, Upd.refl _ _⟩
theorem first_some {w : World} {v : Value} {base : Nat} {a : Nat × Int} {l : List (Nat × Int)} (h : PRow TI base w v (a :: l)) :
    Calls Tryz.prog 7 #[v] w fun e w' => e = .returned (.tuple #[.int .u64 a.1, .int .i64 a.2, .bool true]) ∧ Upd Nowhere w w' := by
  obtain ⟨g, c, rfl, hg, c0, c1⟩ := h.cell (i := 0) (e := a) rfl
  obtain ⟨a0, a1⟩ := a
  clear h
  obtain ⟨n, hn⟩ : ∃ n, (((a0, a1) : Nat × Int) :: l).length = n := ⟨_, rfl⟩
  have hn0 : 0 < n := by rw [← hn]; simp
  have hd : ((n : Int) == 0) = false := by simp; omega
  rw [hn]
  clear hn
  go_enter Tryz.func7, Tryz.ntmps7
  go_wp2_with fail
  go_quiet (fail)
  go_wp2_with fail
  go_ret3
  exact ⟨rfl, (Upd.refl _ _).drewN _⟩
theorem keep_in {E : TypeId} {base n g off : Nat} {wB w3 : World} {v u : Value} {xs : List Value} {o : Obj} (hO : wB.ownsRow base E 2 v n xs) (hu : Upd (fun q => v.ownBlock = some q) (wB.alloc o) w3) (hg : g < base) (h : wB.cell? ⟨g, off, none⟩ = some u) : w3.cell? ⟨g, off, none⟩ = some u := by
  have h1 : (wB.alloc o).cell? ⟨g, off, none⟩ = some u := cell_old ((Upd.refl _ _).alloc o) h
  exact (hu.cell off (cell_lt h1) (fun e => absurd hg (Nat.not_lt.2 (hO.lt g e).1))).trans h1
theorem prow_form {E : TypeId} {base n : Nat} {w : World} {v : Value} {xs : List Value} (h : w.ownsRow base E 2 v (n + 1) xs) : ∃ ad c, v = .slice ad (n + 1) c := by
  rcases h.2 with ⟨_, h0⟩ | ⟨g, c, cur, rfl, _⟩
  · omega
  · exact ⟨_, c, rfl⟩
/-- A list that was made. -/
def Made (w w' : World) (v : Value) (l : List (Nat × Int)) : Prop := PRow TI w.heap.size w' v l ∧ Upd Nowhere w w'
theorem push_any {w : World} {v : Value} {base : Nat} {l : List (Nat × Int)} (h : PRow TI base w v l) (hl : l.length ≤ 4096) (r : Nat) (x : Int) :
    Calls Tryz.prog 9 #[v, .int .u64 r, .int .i64 x] w fun e w' => ∃ v', e = .returned v' ∧ Made w w' v' (insR (r, x) l) := by
  obtain ⟨i0, hi, hz0, hz1, hz2⟩ := info_parts infoI
  obtain ⟨ad, c, rfl⟩ := h.form
  obtain ⟨n, hn⟩ : ∃ n, l.length = n := ⟨_, rfl⟩
  obtain ⟨R, hR⟩ : ∃ R, insR (r, x) l = R := ⟨_, rfl⟩
  have hRl : R.length = n + 1 := by rw [← hR, insR_length, hn]
  rw [hR]
  have H0 := Lib.hid h
  have HN := Lib.hid hn
  have HRL := Lib.hid hRl
  have HR : Hid ([] ++ (if false then l.drop 0 else insR (r, x) (l.drop 0)) = R) := Lib.hid (by simpa using hR)
  rw [hn] at hl ⊢
  clear h hn hR hRl
  go_enter Tryz.func9, Tryz.ntmps9
  go_wp2_with fail
  go_loopw [7, 8, 9] (fun ov iv i wr => ∃ (k : Nat) (part : List (Nat × Int)) (inn : Bool), k ≤ n ∧ i = .int .i64 k ∧ iv = .bool inn ∧ PRow TI w.heap.size wr ov part ∧ Hid (part ++ (if inn then l.drop k else insR (r, x) (l.drop k)) = R) ∧ Upd Nowhere w wr) (fun _ _ i _ => n - (intOf i).toNat)
  case atStart => exact ⟨0, [], false, by omega, rfl, rfl, PRow.nil _ _ _, HR, Upd.refl _ _⟩
  case round =>
    obtain ⟨k, part, inn, hk, rfl, rfl, hP, HQ, hu⟩ := hrel
    obtain ⟨wB, rfl⟩ : ∃ x, x = wr := ⟨_, rfl⟩
    obtain ⟨ad2, c2, rfl⟩ := hP.form
    obtain ⟨pn, hpn⟩ : ∃ pn, part.length = pn := ⟨_, rfl⟩
    have hpl : pn ≤ n + 1 := by
      have h1 := congrArg List.length HQ.out
      rw [HRL.out, List.length_append] at h1
      omega
    have hown0 : wB.ownsRow w.heap.size TI 2 (.slice ad2 part.length c2) part.length (pcs part) := hP
    rw [hpn] at hown0 ⊢
    have HO := Lib.hid hown0
    have HPN := Lib.hid hpn
    have HU := Lib.hid hu
    clear hP hown0 hpn hu HR
    by_cases hlt : k < n
    · have hI : (k : Int) < n := by omega
      obtain ⟨a, ha⟩ : ∃ a, l[k]? = some a := ⟨l[k]'(by rw [HN.out]; exact hlt), by simp⟩
      have hdr : l.drop k = a :: l.drop (k + 1) := by
        have hkl : k < l.length := by rw [HN.out]; exact hlt
        rw [List.drop_eq_getElem_cons hkl]
        rw [List.getElem?_eq_getElem hkl] at ha
        rw [Option.some.inj ha]
      obtain ⟨g, cc, he, hg, b0, b1⟩ := H0.out.cell ha
      rw [HN.out] at he
      injection he with he1 he2 he3
      subst he1; subst he3
      clear he2
      obtain ⟨a0, a1⟩ := a
      have k0 : wB.cell? ⟨g, k * 2, none⟩ = some (.int .u64 (a0 : Nat)) := cell_old HU.out b0
      have k1 : wB.cell? ⟨g, k * 2 + 1, none⟩ = some (.int .i64 a1) := cell_old HU.out b1
      have HDR := Lib.hid hdr
      have hszB := HU.out.size
      clear b0 b1 ha hdr
      have hpn9 : pn ≤ 999999999 := by omega
      have hpn8 : pn + 1 ≤ 999999999 := by omega
      cases inn with
      | true =>
        go_wp2_with (at_builtin; refine wpList_push rfl _ _ 29 rfl w.heap.size TI i0 (.agg #[.int .u64 0, .int .i64 0]) 2 16 Tryz.underlying29 hi hz0 hz1 hz2 rfl (by decide) (by decide) (.slice ad2 pn c2) pn _ rfl (ownsRow_upd HO.out ((Upd.refl _ _).alloc _) (fun _ _ h => h)) wB.heap.size 1 [.int .u64 a0, .int .i64 a1] rfl rfl (new_cells wB #[.int .u64 a0, .int .i64 a1] _) (by simp [Value.oneCell']) hpn9 (by simp; omega) ?_; intro v3 w3 hown hu hno)
        have HM := Lib.hid (PRow.push (a0, a1) (by rw [HPN.out]) hown)
        have HU2 := Lib.hid (HU.out.trans ((((Upd.refl Nowhere wB).alloc _).any _).trans hu (fun _ _ h => h)) (fun q hq h => absurd hq (Nat.not_lt.2 (HO.out.lt q h).1)))
        clear hown hu hno
        go_wp2_with fail
        go_roundw
        case rel => exact ⟨k + 1, _, true, by omega, by go_num, rfl, HM.out, Lib.hid (by rw [← HQ.out, HDR.out]; simp), HU2.out⟩
        case measure => simp [intOf]; omega
      | false =>
        by_cases hlt2 : r < a0
        · have d1 : decide (r < a0) = true := decide_eq_true hlt2
          go_wp2_with (at_builtin; first | (refine wpList_push rfl _ _ 29 rfl w.heap.size TI i0 (.agg #[.int .u64 0, .int .i64 0]) 2 16 Tryz.underlying29 hi hz0 hz1 hz2 rfl (by decide) (by decide) (.slice ad2 pn c2) pn _ rfl (ownsRow_upd HO.out ((Upd.refl _ _).alloc _) (fun _ _ h => h)) wB.heap.size 1 [.int .u64 r, .int .i64 x] rfl rfl (new_cells wB #[.int .u64 r, .int .i64 x] _) (by simp [Value.oneCell']) hpn9 (by simp; omega) ?_; intro v3 w3 hown hu hno; have k0x := keep_in HO.out hu hg k0; have k1x := keep_in HO.out hu hg k1; have hM3 := Lib.hid (PRow.push (r, x) (by rw [HPN.out]) hown); have HO3 := Lib.hid hown; have HU3 := Lib.hid (HU.out.trans ((((Upd.refl Nowhere wB).alloc _).any _).trans hu (fun _ _ h => h)) (fun q hq h => absurd hq (Nat.not_lt.2 (HO.out.lt q h).1))); have hsz3 := HU3.out.size; obtain ⟨ad3, c3, rfl⟩ := prow_form hown; clear hown hu hno) | (refine wpList_push rfl _ _ 29 rfl w.heap.size TI i0 (.agg #[.int .u64 0, .int .i64 0]) 2 16 Tryz.underlying29 hi hz0 hz1 hz2 rfl (by decide) (by decide) (.slice ad3 (pn + 1) c3) (pn + 1) _ rfl (ownsRow_upd HO3.out ((Upd.refl _ _).alloc _) (fun _ _ h => h)) w3.heap.size 1 [.int .u64 a0, .int .i64 a1] rfl rfl (new_cells w3 #[.int .u64 a0, .int .i64 a1] _) (by simp [Value.oneCell']) hpn8 (by simp; omega) ?_; intro v4 w4 hown hu hno))
          have HM := Lib.hid (PRow.push (l := part ++ [(r, x)]) (a0, a1) (by rw [List.length_append, HPN.out]) (by rw [pcs_append]; exact hown))
          have HU2 := Lib.hid (HU3.out.trans ((((Upd.refl Nowhere w3).alloc _).any _).trans hu (fun _ _ h => h)) (fun q hq h => absurd hq (Nat.not_lt.2 (HO3.out.lt q h).1)))
          clear hown hu hno
          go_wp2_with fail
          go_roundw
          case rel => exact ⟨k + 1, _, true, by omega, by go_num, rfl, HM.out, Lib.hid (by rw [← HQ.out, HDR.out]; simp [insR, hlt2]), HU2.out⟩
          case measure => simp [intOf]; omega
        · have d1 : decide (r < a0) = false := decide_eq_false hlt2
          go_wp2_with (at_builtin; refine wpList_push rfl _ _ 29 rfl w.heap.size TI i0 (.agg #[.int .u64 0, .int .i64 0]) 2 16 Tryz.underlying29 hi hz0 hz1 hz2 rfl (by decide) (by decide) (.slice ad2 pn c2) pn _ rfl (ownsRow_upd HO.out ((Upd.refl _ _).alloc _) (fun _ _ h => h)) wB.heap.size 1 [.int .u64 a0, .int .i64 a1] rfl rfl (new_cells wB #[.int .u64 a0, .int .i64 a1] _) (by simp [Value.oneCell']) hpn9 (by simp; omega) ?_; intro v3 w3 hown hu hno)
          have HM := Lib.hid (PRow.push (a0, a1) (by rw [HPN.out]) hown)
          have HU2 := Lib.hid (HU.out.trans ((((Upd.refl Nowhere wB).alloc _).any _).trans hu (fun _ _ h => h)) (fun q hq h => absurd hq (Nat.not_lt.2 (HO.out.lt q h).1)))
          clear hown hu hno
          go_wp2_with fail
          go_roundw
          case rel => exact ⟨k + 1, _, false, by omega, by go_num, rfl, HM.out, Lib.hid (by rw [← HQ.out, HDR.out]; simp [insR, hlt2]), HU2.out⟩
          case measure => simp [intOf]; omega
    · obtain rfl : n = k := by omega
      have hq := HQ.out
      rw [List.drop_eq_nil_of_le (by rw [HN.out]; exact Nat.le_refl _)] at hq
      cases inn with
      | true =>
        rw [if_pos rfl, List.append_nil] at hq
        subst hq
        go_wp2_with fail
        go_ret
        exact ⟨_, rfl, by have := HO.out; rw [← HPN.out] at this ⊢; exact this, HU.out⟩
      | false =>
        rw [if_neg (by simp)] at hq
        subst hq
        have hpn9 : pn ≤ 999999999 := by omega
        have hszB := HU.out.size
        go_wp2_with (at_builtin; refine wpList_push rfl _ _ 29 rfl w.heap.size TI i0 (.agg #[.int .u64 0, .int .i64 0]) 2 16 Tryz.underlying29 hi hz0 hz1 hz2 rfl (by decide) (by decide) (.slice ad2 pn c2) pn _ rfl (ownsRow_upd HO.out ((Upd.refl _ _).alloc _) (fun _ _ h => h)) wB.heap.size 1 [.int .u64 r, .int .i64 x] rfl rfl (new_cells wB #[.int .u64 r, .int .i64 x] _) (by simp [Value.oneCell']) hpn9 (by simp; omega) ?_; intro v3 w3 hown hu hno)
        have hM := Lib.hid (PRow.push (r, x) (by rw [HPN.out]) hown)
        have HU2 := Lib.hid (HU.out.trans ((((Upd.refl Nowhere wB).alloc _).any _).trans hu (fun _ _ h => h)) (fun q hq h => (HO.out.lt q h).1 |> fun h2 => absurd hq (Nat.not_lt.2 h2)))
        clear hown hu hno
        go_wp2_with fail
        go_ret
        exact ⟨_, rfl, hM.out, HU2.out⟩
theorem rest_any {w : World} {v : Value} {base : Nat} {l : List (Nat × Int)} (h : PRow TI base w v l) (hl : l.length ≤ 4097) :
    Calls Tryz.prog 11 #[v] w fun e w' => ∃ v', e = .returned v' ∧ Made w w' v' l.tail := by
  obtain ⟨i0, hi, hz0, hz1, hz2⟩ := info_parts infoI
  obtain ⟨ad, c, rfl⟩ := h.form
  obtain ⟨n, hn⟩ : ∃ n, l.length = n := ⟨_, rfl⟩
  obtain ⟨R, hR⟩ : ∃ R, l.tail = R := ⟨_, rfl⟩
  have hRl : R.length ≤ n := by rw [← hR, List.length_tail, hn]; omega
  rw [hR]
  have H0 := Lib.hid h
  have HN := Lib.hid hn
  have HRL := Lib.hid hRl
  have HR : Hid ([] ++ l.drop 1 = R) := Lib.hid (by rw [← hR]; simp)
  rw [hn] at hl ⊢
  clear h hn hR hRl
  go_enter Tryz.func11, Tryz.ntmps11
  go_wp2_with fail
  go_loopw [3, 4] (fun ov i wr => ∃ (k : Nat) (part : List (Nat × Int)), k ≤ n + 1 ∧ i = .int .i64 k ∧ PRow TI w.heap.size wr ov part ∧ Hid (part ++ l.drop k = R) ∧ Upd Nowhere w wr) (fun _ i _ => n - (intOf i).toNat)
  case atStart => exact ⟨1, [], by omega, rfl, PRow.nil _ _ _, HR, Upd.refl _ _⟩
  case round =>
    obtain ⟨k, part, hk, rfl, hP, HQ, hu⟩ := hrel
    obtain ⟨wB, rfl⟩ : ∃ x, x = wr := ⟨_, rfl⟩
    obtain ⟨ad2, c2, rfl⟩ := hP.form
    obtain ⟨pn, hpn⟩ : ∃ pn, part.length = pn := ⟨_, rfl⟩
    have hpl : pn ≤ n := by
      have h1 := congrArg List.length HQ.out
      have h2 := HRL.out
      rw [List.length_append] at h1
      omega
    have hown0 : wB.ownsRow w.heap.size TI 2 (.slice ad2 part.length c2) part.length (pcs part) := hP
    rw [hpn] at hown0 ⊢
    have HO := Lib.hid hown0
    have HPN := Lib.hid hpn
    have HU := Lib.hid hu
    clear hP hown0 hpn hu HR
    by_cases hlt : k < n
    · have hI : (k : Int) < n := by omega
      obtain ⟨a, ha⟩ : ∃ a, l[k]? = some a := ⟨l[k]'(by rw [HN.out]; exact hlt), by simp⟩
      have hdr : l.drop k = a :: l.drop (k + 1) := by
        have hkl : k < l.length := by rw [HN.out]; exact hlt
        rw [List.drop_eq_getElem_cons hkl]
        rw [List.getElem?_eq_getElem hkl] at ha
        rw [Option.some.inj ha]
      obtain ⟨g, cc, he, hg, b0, b1⟩ := H0.out.cell ha
      rw [HN.out] at he
      injection he with he1 he2 he3
      subst he1; subst he3
      clear he2
      obtain ⟨a0, a1⟩ := a
      have k0 : wB.cell? ⟨g, k * 2, none⟩ = some (.int .u64 (a0 : Nat)) := cell_old HU.out b0
      have k1 : wB.cell? ⟨g, k * 2 + 1, none⟩ = some (.int .i64 a1) := cell_old HU.out b1
      have HDR := Lib.hid hdr
      have hszB := HU.out.size
      clear b0 b1 ha hdr
      have hpn9 : pn ≤ 999999999 := by omega
      go_wp2_with (at_builtin; refine wpList_push rfl _ _ 29 rfl w.heap.size TI i0 (.agg #[.int .u64 0, .int .i64 0]) 2 16 Tryz.underlying29 hi hz0 hz1 hz2 rfl (by decide) (by decide) (.slice ad2 pn c2) pn _ rfl (ownsRow_upd HO.out ((Upd.refl _ _).alloc _) (fun _ _ h => h)) wB.heap.size 1 [.int .u64 a0, .int .i64 a1] rfl rfl (new_cells wB #[.int .u64 a0, .int .i64 a1] _) (by simp [Value.oneCell']) hpn9 (by simp; omega) ?_; intro v3 w3 hown hu hno)
      have HM := Lib.hid (PRow.push (a0, a1) (by rw [HPN.out]) hown)
      have HU2 := Lib.hid (HU.out.trans ((((Upd.refl Nowhere wB).alloc _).any _).trans hu (fun _ _ h => h)) (fun q hq h => absurd hq (Nat.not_lt.2 (HO.out.lt q h).1)))
      clear hown hu hno
      go_wp2_with fail
      go_roundw
      case rel => exact ⟨k + 1, _, by omega, by go_num, HM.out, Lib.hid (by rw [← HQ.out, HDR.out]; simp), HU2.out⟩
      case measure => simp [intOf]; omega
    · have hq := HQ.out
      rw [List.drop_eq_nil_of_le (by rw [HN.out]; omega), List.append_nil] at hq
      subst hq
      go_wp2_with fail
      go_ret
      exact ⟨_, rfl, by have := HO.out; rw [← HPN.out] at this ⊢; exact this, HU.out⟩
end Go.Proofs.YtjbaibnmbeabnaaGreatDoor.Ref09
