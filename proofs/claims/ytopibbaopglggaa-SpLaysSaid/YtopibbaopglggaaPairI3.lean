/- A ring of pacemaker/heappifo.Item[int] (two cells each): All. -/
import Derived.Test.YtopibbaopglggaaPairI2
import Derived.Test.YtopibbaopglggaaSorted
namespace Go.Proofs.Ytopibbaopglggaa.PairI
open Go.RowKit Go.Proofs BigFrame
set_option maxHeartbeats 1000000
/-- The cells of things, one behind the other. -/
def flat : List (Int × Int) → List Value
  | [] => []
  | x :: r => .int .u64 x.1 :: Value.int .i64 x.2 :: flat r
theorem flat_append (l m : List (Int × Int)) : flat (l ++ m) = flat l ++ flat m := by
  induction l with
  | nil => rfl
  | cons e r ih => simp only [List.cons_append, flat, ih]
theorem last_all (w : World) (b : Nat) (g : Option Nat) (room fr len : Nat) (xs : List (Int × Int)) (h : PairIn TR TE w b g room (xs.map el) fr len) :
   Calls Try.prog 87 #[.pointer (some ⟨b, 0, none⟩), .int .i64 xs.length] w fun e w' => (∃ v, e = .returned v ∧ w'.ownsRow w.heap.size TE 2 v xs.length (flat xs)) ∧ Upd Nowhere w w' := by
  obtain ⟨i0, hi, hz0, hz1, hz2⟩ := info_parts info
  have h2 := h.c2
  have hl1 := h.le1
  have hl2 := h.le2
  have hl3 := h.le3
  rw [List.length_map] at h2 hl1
  have H := Lib.hid h
  obtain ⟨L, hL⟩ : ∃ L, xs.length = L := ⟨_, rfl⟩
  rw [hL] at h2 hl1 ⊢
  have HL := Lib.hid hL
  clear hL h
  have m0 : max (L : Int) 0 = L := by omega
  have m1 : min (L : Int) L = L := by omega
  go_enter Try.func87, Try.ntmps87
  go_wp2_with (go_at_call 81; refine (len_any _ _ _ h2).mono ?_; rintro e w' ⟨rfl, rfl⟩)
  all_goals
    go_loopw [5, 6] (fun o i wr => ∃ (k : Nat), k ≤ L ∧ i = .int .i64 k ∧ wr.ownsRow w.heap.size TE 2 o k (flat (xs.take k)) ∧ Upd Nowhere w wr) (fun _ i _ => L - (intOf i).toNat)
    case atStart => exact ⟨0, Nat.zero_le _, rfl, ownsRow_nil _ _ _ _, Upd.refl _ _⟩
    case round =>
      obtain ⟨k, hk2, rfl, hown, hu⟩ := hrel
      have hR := H.out.kept hu (fun _ _ h => h)
      have e2 := (hu.cell 2 H.out.lt id).trans h2
      by_cases hlt : k < L
      · obtain ⟨x, hx⟩ : ∃ x, xs[k]? = some x := ⟨xs[k]'(by have := HL.out; omega), by simp⟩
        obtain ⟨kk, hkk, hc, hcb⟩ := hR.atI (i := k) (v := el x) (by simp [hx])
        subst hkk
        have e0 : wr.cell? ⟨b, 0, none⟩ = some (.slice (some ⟨kk, 0, none⟩) len len) := hR.c0
        have e1 := hR.c1
        obtain ⟨hkb, hf, _⟩ := hR.arr kk rfl
        obtain ⟨j, hj⟩ : ∃ j, (fr + k) % len = j := ⟨_, rfl⟩
        have hjl : j < len := by rw [← hj]; exact Nat.mod_lt _ (by omega)
        rw [hj] at hc hcb
        obtain ⟨x0, x1⟩ := x
        have hc : wr.cell? ⟨kk, j * 2, none⟩ = some (.int .u64 x0) := hc
        have hcb : wr.cell? ⟨kk, j * 2 + 1, none⟩ = some (Value.int .i64 x1) := hcb
        have Hj := Lib.hid hj
        have Hx := Lib.hid hx
        clear hj hx h2
        go_wp2_with (go_at_call 81; refine (len_any _ _ _ e2).mono ?_; rintro e w' ⟨rfl, rfl⟩)
        refine wp_region_tail 10 (by kernel_rfl) (by kernel_rfl) ?_
        simp only [List.take_succ_cons, List.take_zero, List.drop_succ_cons, List.drop_zero]
        repeat (go_big_quiet_step ((go_at_call 80; refine Calls.quiet_of (slot_any b fr k j _ _ _ _ (by exact e0) (by exact e1) (by omega) (by omega) (by omega) (by omega) Hj))))
        refine wpQuiet_nil ?_
        rintro _ ⟨nq, rfl⟩
        have hle : w.heap.size ≤ wr.heap.size := hu.size
        go_wp2_with (at_builtin; refine wpList_push rfl _ _ 92 rfl w.heap.size TE i0 Z 2 16 Try.underlying92 hi hz0 hz1 hz2 rfl (by decide) (by decide) _ _ _ rfl ((ownsRow_drewN hown nq).alloc _) wr.heap.size 1 [.int .u64 x0, Value.int .i64 x1] rfl rfl (new_cells (wr.drewN nq) #[_, _] _) (by simp [Value.oneCell']) (by omega) (by simp; omega) ?_; intro v' w3 hown3 hu3 _)
        refine Stage.out ?_
        go_wp2
        go_roundw
        case rel =>
          refine ⟨k + 1, by omega, by go_num, ?_, ?_⟩
          · have e2 : xs.take (k + 1) = xs.take k ++ [(x0, x1)] := by rw [List.take_add_one, Hx.out]; rfl
            rw [e2, flat_append]
            exact hown3
          · exact ((hu.drewN nq).alloc _).trans hu3 (fun i hi2 hi3 => absurd (hown.lt i hi3).1 (Nat.not_le.2 hi2))
        case measure => simp [intOf]; omega
      · have hkl : k = L := by omega
        subst hkl
        go_wp2_with (go_at_call 81; refine (len_any _ _ _ e2).mono ?_; rintro e w' ⟨rfl, rfl⟩)
        go_ret
        refine ⟨⟨_, rfl, ?_⟩, hu⟩
        have e : xs.take k = xs := List.take_of_length_le (by rw [HL.out]; exact Nat.le_refl _)
        rw [e] at hown
        exact hown
theorem all_any (w : World) (b : Nat) (g : Option Nat) (room fr len : Nat) (xs : List (Int × Int)) (h : PairIn TR TE w b g room (xs.map el) fr len) :
   Calls Try.prog 72 #[.pointer (some ⟨b, 0, none⟩)] w fun e w' => (∃ v, e = .returned v ∧ w'.ownsRow w.heap.size TE 2 v xs.length (flat xs)) ∧ Upd Nowhere w w' := by
  have h2 := h.c2
  rw [List.length_map] at h2
  have H := Lib.hid (last_all w b g room fr len xs h)
  obtain ⟨L, hL⟩ : ∃ L, xs.length = L := ⟨_, rfl⟩
  rw [hL] at h2 H ⊢
  clear h hL
  go_enter Try.func72, Try.ntmps72
  go_wp2_with fail
  refine (len_any _ _ _ h2).mono ?_
  rintro e w' ⟨rfl, rfl⟩
  go_wp2_with fail
  refine H.out.mono ?_
  rintro e w' ⟨⟨v, rfl, hv⟩, hu⟩
  go_wp2_with fail
  go_ret
  exact ⟨⟨_, rfl, hv⟩, hu⟩
end Go.Proofs.Ytopibbaopglggaa.PairI
