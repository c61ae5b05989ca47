/- The reference's queues: Len, First, Peek, Pop. -/
import Derived.Test.YtopibbaopglggaaRef12
import Derived.Deep.RegionWith
namespace Go.Proofs.Ytopibbaopglggaa.Ref12
open Go.RowKit Go.Proofs BigFrame
set_option maxHeartbeats 1000000
set_option maxRecDepth 1000000
section
variable {B : Nat} {w : World} {b room n : Nat} {bv lv : Value} {vs : Nat → Value} {bs : Nat → Nat} {qs : Nat → List (Nat × Int)}
theorem len_any (h : Ref B w b room n bv lv vs bs qs) (hn : 0 < n) (hn2 : n ≤ 32) (ht : tot qs n ≤ 1000000) :
    Calls Try.prog 60 #[.pointer (some ⟨b, 0, none⟩)] w fun e w' => e = .returned (.int .i64 (tot qs n : Nat)) ∧ w = w' := by
  obtain ⟨g, c, rfl⟩ := h.lform hn
  obtain ⟨c0, c1, c2, z0, z1, z2⟩ := cells3 h.blk
  have H := Lib.hid h
  have HT := Lib.hid ht
  clear h ht
  go_enter Try.func60, Try.ntmps60
  go_wp2_with fail
  go_loopw [3, 4] (fun s i wr => ∃ (k : Nat), k ≤ n ∧ i = .int .i64 k ∧ s = .int .i64 (tot qs k : Nat) ∧ w = wr) (fun _ i _ => n - (intOf i).toNat)
  case atStart => exact ⟨0, by omega, rfl, rfl, rfl⟩
  case round =>
    obtain ⟨k, hk, rfl, rfl, rfl⟩ := hrel
    by_cases hlt : k < n
    · have hI : (k : Int) < n := by omega
      obtain ⟨k0, f0⟩ := H.out.lcell hlt
      obtain ⟨ad, cc, hf⟩ := (H.out.row k hlt).form
      rw [hf] at k0
      have e1 : tot qs (k + 1) = tot qs k + (qs k).length := rfl
      have e2 : IntKind.i64.wrap ((tot qs k : Nat) + ((qs k).length : Nat)) = ((tot qs (k + 1) : Nat) : Int) := by
        have := HT.out
        have h3 := tot_mono qs (show k + 1 ≤ n from hlt)
        rw [IntKind.wrap_i64]; omega
      have E2 := Lib.hid e2
      generalize (qs k).length = m at *
      generalize tot qs k = t at *
      obtain ⟨t2, ht2⟩ : ∃ t2, tot qs (k + 1) = t2 := ⟨_, rfl⟩
      rw [ht2] at e2
      have HT2 := Lib.hid ht2
      clear hf e1 ht2
      go_wp2_with fail
      go_roundw
      case rel => exact ⟨k + 1, by omega, by go_num, by rw [HT2.out], trivial⟩
      case measure => simp [intOf]; omega
    · obtain rfl : k = n := by omega
      go_wp2_with fail
      go_ret
      exact ⟨rfl, rfl⟩
theorem first_any (h : Ref B w b room n bv lv vs bs qs) (hn : 0 < n) (hn2 : n ≤ 32) (i : Nat) (hi : i ≤ n) (hl : ∀ j, j < i → (qs j).length = 0) (hne : i < n → 0 < (qs i).length) (r : Int) (hr1 : i < n → r = i) (hr2 : i = n → r = -1) :
    Calls Try.prog 61 #[.pointer (some ⟨b, 0, none⟩)] w fun e w' => e = .returned (.int .i64 r) ∧ w = w' := by
  obtain ⟨g, c, rfl⟩ := h.lform hn
  obtain ⟨c0, c1, c2, z0, z1, z2⟩ := cells3 h.blk
  have H := Lib.hid h
  have HL := Lib.hid hl
  have HE := Lib.hid hne
  have HR1 := Lib.hid hr1
  have HR2 := Lib.hid hr2
  clear h hl hne hr1 hr2
  go_enter Try.func61, Try.ntmps61
  go_wp2_with fail
  go_loopw [3] (fun a wr => ∃ (k : Nat), k ≤ i ∧ a = .int .i64 k ∧ w = wr) (fun a _ => n - (intOf a).toNat)
  case atStart => exact ⟨0, by omega, rfl, rfl⟩
  case round =>
    obtain ⟨k, hk, rfl, rfl⟩ := hrel
    by_cases hlt : k < n
    · have hI : (k : Int) < n := by omega
      obtain ⟨k0, f0⟩ := H.out.lcell hlt
      obtain ⟨ad, cc, hf⟩ := (H.out.row k hlt).form
      rw [hf] at k0
      by_cases hki : k = i
      · have h0 := HE.out (by omega)
        rw [← hki] at h0
        have e0 := HR1.out (by omega)
        rw [← hki] at e0
        generalize (qs k).length = m at *
        have d1 : decide ((m : Int) > 0) = true := decide_eq_true (by omega)
        have d2 : decide ((0 : Int) < m) = true := decide_eq_true (by omega)
        have d3 : decide (0 < m) = true := decide_eq_true h0
        have HKI := Lib.hid hki
        have E0 := Lib.hid e0
        clear hf hki e0
        go_wp2_with fail
        go_ret
        exact ⟨ret_int E0.out.symm, rfl⟩
      · have h0 := HL.out k (by omega)
        rw [h0] at k0
        clear hf
        go_wp2_with fail
        go_roundw
        case rel => exact ⟨k + 1, by omega, by go_num, trivial⟩
        case measure => simp [intOf]; omega
    · have e0 := HR2.out (by omega)
      obtain rfl : k = n := by omega
      have E0 := Lib.hid e0
      clear e0
      go_wp2_with fail
      go_ret
      exact ⟨ret_int E0.out.symm, rfl⟩
theorem peek_some (h : Ref B w b room n bv lv vs bs qs) (hn2 : n ≤ 32) (i : Nat) (hi : i < n) (hl : ∀ j, j < i → (qs j).length = 0) {a : Nat × Int} {t : List (Nat × Int)} (hx : qs i = a :: t) :
    Calls Try.prog 31 #[.pointer (some ⟨b, 0, none⟩)] w fun e w' => e = .returned (.tuple #[.int .u64 a.1, .int .i64 a.2, .bool true]) ∧ Upd Nowhere w w' := by
  have HF := Lib.hid (first_any h (by omega) hn2 i (by omega) hl (fun _ => by rw [hx]; simp) (i : Int) (fun _ => rfl) (fun e => by omega))
  obtain ⟨g, c, rfl⟩ := h.lform (by omega)
  obtain ⟨c0, c1, c2, z0, z1, z2⟩ := cells3 h.blk
  obtain ⟨k0, f0⟩ := h.lcell hi
  have hr := h.row i hi
  rw [hx] at hr
  have HP := Lib.hid (Ref09.first_some hr)
  have hI : (i : Int) < n := by omega
  generalize vs i = v at *
  clear h hl hx hr
  go_enter Try.func31, Try.ntmps31
  go_wp2_with fail
  refine (HF.out).mono ?_
  rintro e w' ⟨rfl, rfl⟩
  go_wp2_with fail
  refine HP.out.mono ?_
  rintro e w' ⟨rfl, hu⟩
  go_wp2_with fail
  go_ret3
  exact ⟨rfl, hu⟩
theorem peek_none (h : Ref B w b room n bv lv vs bs qs) (hn : 0 < n) (hn2 : n ≤ 32) (hl : ∀ j, j < n → (qs j).length = 0) :
    Calls Try.prog 31 #[.pointer (some ⟨b, 0, none⟩)] w fun e w' => e = .returned (.tuple #[.int .u64 0, .int .i64 0, .bool false]) ∧ Upd Nowhere w w' := by
  have HF := Lib.hid (first_any h hn hn2 n (Nat.le_refl _) hl (fun h => by omega) (-1) (fun h => by omega) (fun _ => rfl))
  clear h hl
  go_enter Try.func31, Try.ntmps31
  go_wp2_with fail
  refine (HF.out).mono ?_
  rintro e w' ⟨rfl, rfl⟩
  go_wp2_with fail
  go_ret3
  exact ⟨rfl, Upd.refl _ _⟩
theorem pop_none (h : Ref B w b room n bv lv vs bs qs) (hn : 0 < n) (hn2 : n ≤ 32) (hl : ∀ j, j < n → (qs j).length = 0) :
    Calls Try.prog 29 #[.pointer (some ⟨b, 0, none⟩)] w fun e w' => e = .returned (.tuple #[.int .u64 0, .int .i64 0, .bool false]) ∧ Upd Nowhere w w' := by
  have HF := Lib.hid (first_any h hn hn2 n (Nat.le_refl _) hl (fun h => by omega) (-1) (fun h => by omega) (fun _ => rfl))
  clear h hl
  go_enter Try.func29, Try.ntmps29
  go_wp2_with fail
  refine (HF.out).mono ?_
  rintro e w' ⟨rfl, rfl⟩
  go_wp2_with fail
  go_ret3
  exact ⟨rfl, Upd.refl _ _⟩
/-- What a pop leaves. -/
def Turned (B : Nat) (w w' : World) (b room n : Nat) (bv lv : Value) (vs : Nat → Value) (bs' : Nat → Nat) (qs' : Nat → List (Nat × Int)) : Prop :=
  ∃ bv' vs', Ref B w' b room n bv' lv vs' bs' qs' ∧ (∀ k, RefOf b n bv' lv vs' k → RefOf b n bv lv vs k ∨ w.heap.size ≤ k) ∧ Upd (fun k => k = b ∨ lv.ownBlock = some k) w w'
theorem pop_some (h : Ref B w b room n bv lv vs bs qs) (hn2 : n ≤ 32) (i : Nat) (hi : i < n) (hl : ∀ j, j < i → (qs j).length = 0) {a : Nat × Int} {t : List (Nat × Int)} (hx : qs i = a :: t) (ht : t.length ≤ 4096) (hB : B ≤ w.heap.size) :
    Calls Try.prog 29 #[.pointer (some ⟨b, 0, none⟩)] w fun e w' => e = .returned (.tuple #[.int .u64 a.1, .int .i64 a.2, .bool true]) ∧ Turned B w w' b room n bv lv vs bs (upd qs i t) := by
  have HF := Lib.hid (first_any h (by omega) hn2 i (by omega) hl (fun _ => by rw [hx]; simp) (i : Int) (fun _ => rfl) (fun e => by omega))
  obtain ⟨g, c, rfl⟩ := h.lform (by omega)
  obtain ⟨c0, c1, c2, z0, z1, z2⟩ := cells3 h.blk
  obtain ⟨k0, f0⟩ := h.lcell hi
  have hr := h.row i hi
  rw [hx] at hr
  have HP := Lib.hid (Ref09.first_some hr)
  have HR := fun u (hu : Upd Nowhere w u) => Lib.hid (Ref09.rest_any (ownsRow_upd hr hu (fun _ _ h => h)) (by simp; omega))
  have hI : (i : Int) < n := by omega
  have H := Lib.hid h
  generalize hv : vs i = v at *
  clear h hl hx hr hv
  go_enter Try.func29, Try.ntmps29
  go_wp2_with fail
  refine (HF.out).mono ?_
  rintro e w' ⟨rfl, rfl⟩
  go_wp2_with fail
  refine HP.out.mono ?_
  rintro e w1 ⟨rfl, hu⟩
  have b0 := cell_old hu c0
  have b2 := cell_old hu c2
  have b3 := cell_old hu k0
  have HU := Lib.hid hu
  clear hu c0 c1 c2 k0 z0 z1 z2 f0
  go_upto_region 5 with fail
  go_region_with (go_at_call 63; refine (HR _ (by first | exact HU.out | exact HU.out.drew)).out.mono ?_; simp only [List.tail_cons]; rintro e w4 ⟨v4, rfl, hM⟩; have d2 := cell_old hM.2 b2; have d3 := cell_old hM.2 b3; have hu4 := HU.out.drew.trans hM.2 (fun _ _ h => h); have HH := Lib.hid (H.out.old hu4); obtain ⟨-, e3⟩ := HH.out.lcell hi; obtain ⟨ad4, c4, rfl⟩ := hM.1.form)
  all_goals
    go_wp2_with fail
    go_ret3
    have hv4 : ∀ k, (Value.slice ad4 t.length c4).ownBlock = some k → k ≠ b ∧ k ≠ g := fun k hk => by
      have h1 := (hM.1.lt k hk).1
      have h2 : w.heap.size ≤ w1.heap.size := HU.out.size
      have h3 : w1.heap.size ≤ k := h1
      have h4 := H.out.blk.lt
      have h5 := (H.out.lst.lt g rfl).2
      omega
    have hu5 : Upd (fun k => k = b ∨ (Value.slice (some ⟨g, 0, none⟩) n c).ownBlock = some k) w (w4.setCell ⟨g, i, none⟩ (.slice ad4 t.length c4)) := (hu4.any _).setCell (a := ⟨g, i, none⟩) (fun _ => .inr rfl) _
    refine ⟨rfl, bv, _, HH.out.setQ hi (q := t) (ownsRow_base hM.1 (Nat.le_trans hB HU.out.size)) hv4, fun k hk => ?_, hu5⟩
    rcases hk with h | h | h | ⟨j, hj, h⟩
    · exact .inl (.inl h)
    · exact .inl (.inr (.inl h))
    · exact .inl (.inr (.inr (.inl h)))
    · by_cases hji : j = i
      · subst hji; rw [upd_at] at h; exact .inr (Nat.le_trans HU.out.size (hM.1.lt k h).1)
      · rw [upd_ne _ _ hji] at h; exact .inl (.inr (.inr (.inr ⟨j, hj, h⟩)))
end
end Go.Proofs.Ytopibbaopglggaa.Ref12
