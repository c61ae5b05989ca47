/- A ring of uint64: Last, All, New. -/
import Derived.Test.YtgppbclgabdkoaaRingU2
namespace Go.Proofs.Ytgppbclgabdkoaa.RingU
open Go.RowKit Go.Proofs BigFrame

set_option maxHeartbeats 400000
/-- The last things. -/
def lastOf {α : Type} (xs : List α) (n : Int) : List α := xs.drop (xs.length - min (max n 0).toNat xs.length)

theorem last_any (w : World) (b : Nat) (g : Option Nat) (room fr len : Nat) (xs : List Int) (n : Int) (h1n : -9223372036854775808 ≤ n) (h2n : n ≤ 9223372036854775807)
   (h : RingIn TR TE w b g room (xs.map (Value.int .u64 ·)) fr len) :
   Calls Try.prog 30 #[.pointer (some ⟨b, 0, none⟩), .int .i64 n] w fun e w' => (∃ v, e = .returned v ∧ w'.ownsRow w.heap.size TE 1 v (lastOf xs n).length ((lastOf xs n).map (Value.int .u64 ·))) ∧ Upd Nowhere w w' := by
  obtain ⟨i0, hi, hz0, hz1, hz2⟩ := info_parts info
  have h2 := h.c2
  have hl1 := h.le1
  have hl2 := h.le2
  have hl3 := h.le3
  rw [List.length_map] at h2 hl1
  have H := Lib.hid h
  obtain ⟨L, hL⟩ : ∃ L, xs.length = L := ⟨_, rfl⟩
  obtain ⟨s, hs, hsl⟩ : ∃ s : Nat, s = L - min (max n 0).toNat L ∧ s ≤ L := ⟨_, rfl, by omega⟩
  have hlast : lastOf xs n = xs.drop s := by unfold lastOf; rw [hL, hs]
  rw [hlast]
  rw [hL] at h2 hl1
  have HL := Lib.hid hL
  have Hs := Lib.hid hs
  clear hL hs h hlast
  go_enter Try.func30, Try.ntmps30
  go_wp2_with (go_at_call 31; refine (len_any _ _ _ h2).mono ?_; rintro e w' ⟨rfl, rfl⟩)
  all_goals
    go_loopw [5, 6] (fun o i wr => ∃ (k : Nat), s ≤ k ∧ k ≤ L ∧ i = .int .i64 k ∧ wr.ownsRow w.heap.size TE 1 o (k - s) (((xs.drop s).take (k - s)).map (Value.int .u64 ·)) ∧ Upd Nowhere w wr) (fun _ i _ => L - (intOf i).toNat)
    case atStart => exact ⟨s, Nat.le_refl _, hsl, congrArg (Value.int .i64) (by have := Hs.out; split at * <;> omega), ⟨by simp, .inl ⟨rfl, by omega⟩⟩, Upd.refl _ _⟩
    case round =>
      obtain ⟨k, hk1, hk2, rfl, hown, hu⟩ := hrel
      have hR := H.out.kept hu (fun _ _ h => h)
      have e2 := (hu.cell 2 H.out.lt id).trans h2
      by_cases hlt : k < L
      · obtain ⟨x, hx⟩ : ∃ x, xs[k]? = some x := ⟨xs[k]'(by have := HL.out; omega), by simp⟩
        obtain ⟨kk, hkk, hc⟩ := hR.atI (i := k) (v := Value.int .u64 x) (by simp [hx])
        subst hkk
        have e0 : wr.cell? ⟨b, 0, none⟩ = some (.slice (some ⟨kk, 0, none⟩) len len) := hR.c0
        have e1 := hR.c1
        obtain ⟨hkb, hf, _⟩ := hR.arr kk rfl
        obtain ⟨j, hj⟩ : ∃ j, (fr + k) % len = j := ⟨_, rfl⟩
        have hjl : j < len := by rw [← hj]; exact Nat.mod_lt _ (by omega)
        rw [hj] at hc
        have Hj := Lib.hid hj
        have Hx := Lib.hid hx
        clear hj hx h2
        go_wp2_with (go_at_call 31; refine (len_any _ _ _ e2).mono ?_; rintro e w' ⟨rfl, rfl⟩)
        refine wp_region_tail 10 (by kernel_rfl) (by kernel_rfl) ?_
        simp only [List.take_succ_cons, List.take_zero, List.drop_succ_cons, List.drop_zero]
        repeat (go_big_quiet_step ((go_at_call 28; refine Calls.quiet_of (slot_any b fr k j _ _ _ _ (by exact e0) (by exact e1) (by omega) (by omega) (by omega) (by omega) Hj))))
        refine wpQuiet_nil ?_
        rintro _ ⟨nq, rfl⟩
        have hle : w.heap.size ≤ wr.heap.size := hu.size
        go_wp2_with (at_builtin; refine wpList_push rfl _ _ 25 rfl w.heap.size TE i0 (Value.int .u64 0) 1 8 Try.underlying25 hi hz0 hz1 hz2 rfl (by decide) (by decide) _ _ _ rfl ((ownsRow_drewN hown nq).alloc _) wr.heap.size 1 [Value.int .u64 x] rfl rfl (fun i u hu => by cases i <;> simp_all [World.cell?, World.alloc]) (by simp [Value.oneCell']) (by omega) (by simp; omega) ?_; intro v' w3 hown3 hu3 _)
        refine Stage.out ?_
        go_wp2
        go_roundw
        case rel =>
          refine ⟨k + 1, by omega, by omega, by go_num, ?_, ?_⟩
          · have e1 : k + 1 - s = k - s + 1 := by omega
            have e2 : (xs.drop s).take (k - s + 1) = (xs.drop s).take (k - s) ++ [x] := by
              rw [List.take_add_one]
              have : (xs.drop s)[k - s]? = some x := by rw [List.getElem?_drop, show s + (k - s) = k by omega]; exact Hx.out
              rw [this]; rfl
            rw [e1, e2, List.map_append]
            exact hown3
          · exact ((hu.drewN nq).alloc _).trans hu3 (fun i hi2 hi3 => absurd (hown.lt i hi3).1 (Nat.not_le.2 hi2))
        case measure => simp [intOf]; omega
      · have hkl : k = L := by omega
        subst hkl
        go_wp2_with (go_at_call 31; refine (len_any _ _ _ e2).mono ?_; rintro e w' ⟨rfl, rfl⟩)
        go_ret
        refine ⟨⟨_, rfl, ?_⟩, hu⟩
        have e : (xs.drop s).take (k - s) = xs.drop s := List.take_of_length_le (by rw [List.length_drop, HL.out]; exact Nat.le_refl _)
        rw [e] at hown
        rw [List.length_drop, HL.out]
        exact hown

theorem last_nil (n : Int) (w : World) :
   Calls Try.prog 30 #[.pointer none, .int .i64 n] w fun e w' => e = .returned (.slice none 0 0) ∧ w = w' := by
  go_enter Try.func30, Try.ntmps30
  go_wp2_with (go_at_call 31; refine (len_nil _).mono ?_; rintro e w' ⟨rfl, rfl⟩)
  all_goals
    go_loop [5, 6] (fun o i => o = .slice none 0 0 ∧ i = .int .i64 0) (fun _ _ => 0)
    case atStart => exact ⟨rfl, congrArg (Value.int .i64) (by repeat' (split at * <;> try omega))⟩
    case round =>
      obtain ⟨rfl, rfl⟩ := hrel
      go_wp2_with (go_at_call 31; refine (len_nil _).mono ?_; rintro e w' ⟨rfl, rfl⟩)
      go_ret
      exact ⟨rfl, rfl⟩

theorem all_nil (w : World) :
   Calls Try.prog 24 #[.pointer none] w fun e w' => e = .returned (.slice none 0 0) ∧ w = w' := by
  go_enter Try.func24, Try.ntmps24
  go_wp2_with (first | (go_at_call 31; refine (len_nil _).mono ?_; rintro e w' ⟨rfl, rfl⟩) | (go_at_call 30; refine (last_nil _ _).mono ?_; rintro e w' ⟨rfl, rfl⟩))
  go_ret
  exact ⟨rfl, rfl⟩

theorem lastOf_all {α : Type} (xs : List α) : lastOf xs xs.length = xs := by unfold lastOf; simp

theorem all_any (w : World) (b : Nat) (g : Option Nat) (room fr len : Nat) (xs : List Int) (h : RingIn TR TE w b g room (xs.map (Value.int .u64 ·)) fr len) :
   Calls Try.prog 24 #[.pointer (some ⟨b, 0, none⟩)] w fun e w' => (∃ v, e = .returned v ∧ w'.ownsRow w.heap.size TE 1 v xs.length (xs.map (Value.int .u64 ·))) ∧ Upd Nowhere w w' := by
  have h2 := h.c2
  have hl1 := h.le1
  have hl2 := h.le2
  have hl3 := h.le3
  rw [List.length_map] at h2 hl1
  have hl := last_any w b g room fr len xs xs.length (by omega) (by omega) h
  rw [lastOf_all] at hl
  have Hl := Lib.hid hl
  clear hl h hl1 hl2 hl3
  go_enter Try.func24, Try.ntmps24
  go_wp2_with (first | (go_at_call 31; refine (len_any _ _ _ h2).mono ?_; rintro e w' ⟨rfl, rfl⟩) | (go_at_call 30; refine Hl.out.mono ?_; rintro e w' ⟨⟨v, rfl, hv⟩, hu⟩; have Hv := Lib.hid hv; have Hu := Lib.hid hu; clear hv hu))
  go_ret
  exact ⟨⟨v, rfl, Hv.out⟩, Hu.out⟩

end Go.Proofs.Ytgppbclgabdkoaa.RingU
