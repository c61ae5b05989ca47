/- wheel: take. -/
import Derived.Test.YtjbaibnmbeabnaaDoorWheel
import Derived.Test.YtjbaibnmbeabnaaDoorMix2
namespace Go.Proofs.YtjbaibnmbeabnaaDoor.Wheel
open Go.RowKit Go.Proofs BigFrame Heap
set_option maxHeartbeats 4000000
set_option maxRecDepth 1000000
theorem andNot_u64_nat (a b : Nat) (ha : a < 18446744073709551616) (hb : b < 18446744073709551616) : bits .andNot .u64 (a : Int) (b : Int) = ((a &&& (18446744073709551615 - b) : Nat) : Int) := by
  have hx : a &&& (18446744073709551615 - b) < 2 ^ 64 := Nat.and_lt_two_pow _ (by omega)
  have o1 : (BitVec.ofInt 64 (a : Int)).toNat = a := by rw [BitVec.ofInt_natCast, BitVec.toNat_ofNat]; exact Nat.mod_eq_of_lt (by omega)
  have o2 : (BitVec.ofInt 64 (b : Int)).toNat = b := by rw [BitVec.ofInt_natCast, BitVec.toNat_ofNat]; exact Nat.mod_eq_of_lt (by omega)
  show IntKind.u64.wrap ((BitVec.ofInt 64 (a : Int) &&& ~~~BitVec.ofInt 64 (b : Int)).toNat : Int) = _
  rw [BitVec.toNat_and, BitVec.toNat_not, o1, o2, IntKind.wrap_u64]
  have e : 2 ^ 64 - 1 - b = 18446744073709551615 - b := by omega
  rw [e]
  omega
theorem andNot_bit {u i : Nat} (hi : i < 64) (hu : u < 2 ^ 64) (h : u.testBit i = true) : u &&& (18446744073709551615 - 2 ^ i) = u - 2 ^ i := by
  apply Nat.eq_of_testBit_eq
  intro j
  rw [Nat.testBit_and, drop_bit h]
  by_cases hj : j < 64
  · have e : (18446744073709551615 - 2 ^ i).testBit j = decide (j ≠ i) := by
      have h1 : (18446744073709551615 : Nat) = 2 ^ 64 - 1 := by omega
      have h2 : (2 ^ 64 - 1).testBit i = true := by rw [Nat.testBit_two_pow_sub_one]; simp [hi]
      rw [h1, drop_bit h2, Nat.testBit_two_pow_sub_one]
      simp [hj]
    rw [e]
  · have e : u.testBit j = false := Nat.testBit_lt_two_pow (Nat.lt_of_lt_of_le hu (Nat.pow_le_pow_right (by omega) (by omega)))
    rw [e]; simp
theorem upd_at (w : World) (b o : Nat) (v : Value) : Upd (fun k => k = b) w (w.setCell ⟨b, o, none⟩ v) := upd_blk ⟨b, o, none⟩ v
theorem take_any {A : Nat → Prop} {w0 w : World} {b now came room n : Nat} {vs : Nat → Value} {qs : Nat → List En} {us : Nat → Nat} (h : WIn TW TE A w0 w b now came room n vs qs us) (hA : ∀ k, A k → k < w.heap.size) {l i : Nat} (hl : l < 11) (hi : i < 64) (hu : us l < 2 ^ 64) (hb : (us l).testBit i = true) :
    Calls Tryd.prog 86 #[.pointer (some ⟨b, 0, none⟩), .int .i64 l, .int .i64 i] w fun e w' => e = .returned (vs (l * 65 + 1 + i)) ∧
      WIn TW TE A w0 w' b now came room n (put vs (l * 65 + 1 + i) (.slice none 0 0)) (put qs (l * 65 + 1 + i) []) (put us l (us l - 2 ^ i)) ∧ Upd (fun k => k = b) w w' := by
  have ho := isRow_slot hl hi
  obtain ⟨c0, z0⟩ := h.at_row ho
  obtain ⟨c1, z1⟩ := h.at_used hl
  obtain ⟨v, hv⟩ : ∃ v, vs (l * 65 + 1 + i) = v := ⟨_, rfl⟩
  obtain ⟨u, hu'⟩ : ∃ u, us l = u := ⟨_, rfl⟩
  obtain ⟨u2, hu2⟩ : ∃ u2, u - 2 ^ i = u2 := ⟨_, rfl⟩
  rw [hu'] at hu hb c1 ⊢
  rw [hv] at c0 ⊢
  rw [hu2]
  have hp : 2 ^ i < 18446744073709551616 := Nat.lt_of_lt_of_eq (Nat.pow_lt_pow_right (a := 2) (by omega) hi) (by decide)
  obtain ⟨B, hB⟩ : ∃ B, 2 ^ i = B := ⟨_, rfl⟩
  have hb2 := andNot_bit hi hu hb
  rw [hB] at hp hu2 hb2
  have es : IntKind.u64.wrap ((2 : Int) ^ i) = (B : Int) := by
    have e9 : (2 : Int) ^ i = (B : Int) := by rw [← hB]; push_cast; rfl
    rw [e9, IntKind.wrap_u64]; omega
  have ea : bits .andNot .u64 (u : Int) (B : Int) = (u2 : Int) := by rw [andNot_u64_nat u B (by omega) hp, hb2, hu2]
  have p1 : (l : Int) < 11 := by omega
  have p2 : (i : Int) < 64 := by omega
  have H := Lib.hid h
  have HU0 := Lib.hid hu'
  clear h hb hb2 hB hu' hv hu2
  go_enter Tryd.func86, Tryd.ntmps86
  go_wp2_with fail
  have h1 := H.out.setRow (Upd.refl Nowhere w) ho (v' := .slice none 0 0) (q' := []) (fun _ _ hs => hs.elim) (ownsRow_nil _ _ _ _) (fun k hk => by simp [Value.ownBlock] at hk) hA
  have hu1 : Upd (fun k => k = b) w (w.setCell ⟨b, l * 65 + 1 + i, none⟩ (.slice none 0 0)) := upd_at _ _ _ _
  obtain ⟨w1, hw1⟩ : ∃ w1, w.setCell ⟨b, l * 65 + 1 + i, none⟩ (.slice none 0 0) = w1 := ⟨_, rfl⟩
  rw [hw1] at h1 hu1 ⊢
  obtain ⟨c2, z2⟩ := h1.at_used hl
  rw [HU0.out] at c2
  have H1 := Lib.hid h1
  have HU1 := Lib.hid hu1
  clear h1 hu1 c0 z0 c1 z1 hw1
  refine wp_region_tail 14 (by kernel_rfl) (by kernel_rfl) ?_
  simp only [List.take_succ_cons, List.take_zero, List.drop_succ_cons, List.drop_zero]
  repeat (go_big_quiet_step (fail))
  refine wpQuiet_nil ?_
  rintro _ ⟨nq, rfl⟩
  go_wp2
  refine Stage.out ?_
  go_wp2_with fail
  go_ret
  refine ⟨rfl, (H1.out.old ((Upd.refl Nowhere w1).drewN nq)).setUsed hl u2, (HU1.out.drewN nq).trans (upd_at _ _ _ _) (fun _ _ h => h)⟩
end Go.Proofs.YtjbaibnmbeabnaaDoor.Wheel
