/- The reference's Due. -/
import Derived.Test.YtjbaibnmbeabnaaDoorRef09
import Derived.Test.YtjbaibnmbeabnaaDoorWheelDue
namespace Go.Proofs.YtjbaibnmbeabnaaDoor.Wheel
open Go.RowKit Go.Proofs BigFrame Heap
set_option maxHeartbeats 4000000
set_option maxRecDepth 1000000
abbrev TR : TypeId := 106
/-- A slice's length. -/
def lenS : Value → Nat
  | .slice _ n _ => n
  | _ => 0
/-- Items that are due. -/
theorem rdue_any {w : World} {v : Value} {base : Nat} {l : List (Nat × Int)} (h : PRow TR base w v l) (hl : l.length ≤ 4096) (hbase : base ≤ w.heap.size) (now : Nat) :
    Calls Tryd.prog 27 #[v, .int .u64 now] w fun e w' => ∃ ov lv, e = .returned (.tuple #[ov, lv]) ∧ w'.ownsRow w.heap.size TI 1 ov (l.takeWhile fun e => decide (e.1 ≤ now)).length ((l.takeWhile fun e => decide (e.1 ≤ now)).map fun e => .int .i64 e.2) ∧ PRow TR base w' lv (l.dropWhile fun e => decide (e.1 ≤ now)) ∧ (∀ q, lv.ownBlock = some q → v.ownBlock = some q ∨ w.heap.size ≤ q) ∧ Upd Nowhere w w' := by
  obtain ⟨i0, hi, hz0, hz1, hz2⟩ := info_parts infoI
  have H := Lib.hid h
  obtain ⟨n0, hn0⟩ : ∃ x, l.length = x := ⟨_, rfl⟩
  clear h
  go_enter Tryd.func27, Tryd.ntmps27
  go_wp2_with fail
  go_loopw [0, 6] (fun lv ov wr => ∃ (G R : List (Nat × Int)), PRow TR base wr lv R ∧ R.length ≤ n0 ∧ wr.ownsRow w.heap.size TI 1 ov G.length (G.map fun e => .int .i64 e.2) ∧ G ++ R.takeWhile (fun e => decide (e.1 ≤ now)) = l.takeWhile (fun e => decide (e.1 ≤ now)) ∧ R.dropWhile (fun e => decide (e.1 ≤ now)) = l.dropWhile (fun e => decide (e.1 ≤ now)) ∧ (∀ q, ov.ownBlock = some q → lv.ownBlock ≠ some q) ∧ (∀ q, lv.ownBlock = some q → v.ownBlock = some q ∨ w.heap.size ≤ q) ∧ Upd Nowhere w wr) (fun lv _ _ => lenS lv)
  case atStart => exact ⟨[], l, H.out, by omega, ownsRow_nil _ _ _ _, rfl, rfl, (fun q hq => by simp [Value.ownBlock] at hq), (fun q hq => .inl hq), Upd.refl _ _⟩
  case round =>
    obtain ⟨G, R, hP, hRn, hown, e1, e2, hap, hnv, hu⟩ := hrel
    obtain ⟨wB, rfl⟩ : ∃ x, x = wr := ⟨_, rfl⟩
    obtain ⟨ad, c, rfl⟩ := hP.form
    have HO := Lib.hid hown
    have HU := Lib.hid hu
    have HNV := Lib.hid hnv
    have hsz := hu.size
    clear hnv
    cases R with
    | nil =>
      have E1 := Lib.hid e1
      have E2 := Lib.hid e2
      have HP := Lib.hid hP
      clear hown hu e1 e2 hP hap
      go_wp2_with fail
      go_ret2
      refine ⟨_, _, rfl, ?_, ?_, HNV.out, HU.out⟩
      · rw [← E1.out, List.takeWhile_nil, List.append_nil]; exact HO.out
      · rw [← E2.out]; exact HP.out
    | cons a r =>
      by_cases hle : a.1 ≤ now
      · have t1 : (a :: r).takeWhile (fun e => decide (e.1 ≤ now)) = a :: r.takeWhile (fun e => decide (e.1 ≤ now)) := List.takeWhile_cons_of_pos (by simpa using hle)
        have t2 : (a :: r).dropWhile (fun e => decide (e.1 ≤ now)) = r.dropWhile (fun e => decide (e.1 ≤ now)) := List.dropWhile_cons_of_pos (by simpa using hle)
        rw [t1] at e1
        rw [t2] at e2
        obtain ⟨g, c', hv, hg, c0, c1⟩ := hP.cell (i := 0) (e := a) rfl
        obtain ⟨ead, rfl⟩ : ad = some ⟨g, 0, none⟩ ∧ c = c' := by injection hv with a b c; exact ⟨a, c⟩
        subst ead
        have HAP := Lib.hid hap
        have HP := Lib.hid hP
        have E1 := Lib.hid e1
        have E2 := Lib.hid e2
        obtain ⟨n1, hn1⟩ : ∃ x, (a :: r).length = x := ⟨_, rfl⟩
        have hn2 : r.length + 1 = n1 := by rw [← hn1]; rfl
        rw [hn1] at hRn ⊢
        have HN1 := Lib.hid hn1
        have hGl : G.length ≤ 4096 := by
          have h9 := congrArg List.length e1
          rw [List.length_append] at h9
          have h8 : (l.takeWhile fun e => decide (e.1 ≤ now)).length ≤ l.length := (List.takeWhile_sublist _).length_le
          omega
        have d1 : decide ((n1 : Int) > 0) = true := decide_eq_true (by omega)
        have d2 : decide (0 < n1) = true := decide_eq_true (by omega)
        have d3 : decide (a.1 ≤ now) = true := decide_eq_true hle
        obtain ⟨a0, a1⟩ := a
        have hp1 : (0 : Int) < n1 := by omega
        clear hown hu e1 e2 hP hv hn1 t1 t2 hap
        go_wp2_with (at_builtin; go_loud (refine wpList_push rfl _ _ 46 rfl w.heap.size TI i0 (.int .i64 0) 1 8 Tryd.underlying46 hi hz0 hz1 hz2 rfl (by decide) (by decide) _ _ _ rfl (ownsRow_upd HO.out ((Upd.refl _ _).alloc _) (fun _ _ h => h)) wB.heap.size 1 [.int .i64 a1] rfl rfl (new_cells wB #[_] _) (by simp [Value.oneCell']) (by omega) (by simp; omega) ?_; intro v3 w3 hown3 hu3 hn3; have HO3 : Hid (w3.ownsRow w.heap.size TI 1 v3 (G ++ [(a0, a1)]).length ((G ++ [(a0, a1)]).map fun e => .int .i64 e.2)) := Lib.hid (by rw [List.length_append, List.map_append]; exact hown3); have HU3 := Lib.hid (HU.out.trans ((((Upd.refl Nowhere wB).alloc _).any _).trans hu3 (fun _ _ h => h)) (fun q hq h => absurd hq (Nat.not_lt.2 (HO.out.lt q h).1))); have HP3 := Lib.hid (ownsRow_upd (ownsRow_upd HP.out ((Upd.refl Nowhere wB).alloc (.cells #[.int .i64 a1] 3)) (fun _ _ h => h)) hu3 (fun q hq h => HAP.out q h hq)); clear hown3 hu3 hn3))
        have HPr : PRow TR base w3 (.slice (some ⟨g, 0, none⟩) n1 c) ((a0, a1) :: r) := by
          have h9 := HP3.out
          show w3.ownsRow base TR 2 (.slice (some ⟨g, 0, none⟩) n1 c) ((a0, a1) :: r).length (pcs ((a0, a1) :: r))
          rw [HN1.out] at h9 ⊢
          exact h9
        have HRS := Lib.hid (Ref09.rest_any HPr (by rw [HN1.out]; omega))
        clear HPr c0 c1
        refine HRS.out.mono ?_
        rintro e w4 ⟨v4, rfl, hm1, hm2⟩
        obtain ⟨ad4, c4, rfl⟩ := hm1.form
        have hs3 := HU3.out.size
        have HM1 := Lib.hid hm1
        have HO4 := Lib.hid (ownsRow_upd HO3.out hm2 (fun _ _ h => h))
        have HU4 := Lib.hid (HU3.out.trans hm2 (fun _ _ h => h.elim))
        have HA4 : Hid (∀ q, v3.ownBlock = some q → (Value.slice ad4 r.length c4).ownBlock ≠ some q) := Lib.hid (fun q hq h9 => by
          have h8 := (HO3.out.lt q hq).2
          have h7 := (hm1.lt q h9).1
          omega)
        have HN4 : Hid (∀ q, (Value.slice ad4 r.length c4).ownBlock = some q → v.ownBlock = some q ∨ w.heap.size ≤ q) := Lib.hid (fun q hq => .inr (Nat.le_trans hs3 (hm1.lt q hq).1))
        have hrl : (List.tail ((a0, a1) :: r)).length = r.length := rfl
        clear hm1 hm2 HRS
        go_wp2_with fail
        go_roundw
        case rel => exact ⟨G ++ [(a0, a1)], r, ownsRow_base HM1.out (by omega), by omega, HO4.out, by rw [List.append_assoc]; exact E1.out, E2.out, HA4.out, HN4.out, HU4.out⟩
        case measure => simp [lenS]; omega
      · have t1 : (a :: r).takeWhile (fun e => decide (e.1 ≤ now)) = [] := List.takeWhile_cons_of_neg (by simpa using hle)
        have t2 : (a :: r).dropWhile (fun e => decide (e.1 ≤ now)) = a :: r := List.dropWhile_cons_of_neg (by simpa using hle)
        rw [t1, List.append_nil] at e1
        rw [t2] at e2
        obtain ⟨g, c', hv, hg, c0, c1⟩ := hP.cell (i := 0) (e := a) rfl
        obtain ⟨ead, rfl⟩ : ad = some ⟨g, 0, none⟩ ∧ c = c' := by injection hv with a b c; exact ⟨a, c⟩
        subst ead
        have HP := Lib.hid hP
        have E1 := Lib.hid e1
        have E2 := Lib.hid e2
        obtain ⟨n1, hn1⟩ : ∃ x, (a :: r).length = x := ⟨_, rfl⟩
        have hn2 : r.length + 1 = n1 := by rw [← hn1]; rfl
        have HPn : Hid (PRow TR base wB (.slice (some ⟨g, 0, none⟩) n1 c) (a :: r)) := Lib.hid (by rw [← hn1]; exact hP)
        rw [hn1] at hRn ⊢
        have d1 : decide ((n1 : Int) > 0) = true := decide_eq_true (by omega)
        have d2 : decide (0 < n1) = true := decide_eq_true (by omega)
        have d3 : decide (a.1 ≤ now) = false := decide_eq_false hle
        have hp1 : (0 : Int) < n1 := by omega
        obtain ⟨a0, a1⟩ := a
        clear hown hu e1 e2 hP hv hn1 t1 t2 hap
        go_wp2_with fail
        go_ret2
        exact ⟨_, _, rfl, by rw [← E1.out]; exact HO.out, by rw [← E2.out]; exact HPn.out, (by have h9 := HNV.out; exact h9), HU.out⟩
end Go.Proofs.YtjbaibnmbeabnaaDoor.Wheel
