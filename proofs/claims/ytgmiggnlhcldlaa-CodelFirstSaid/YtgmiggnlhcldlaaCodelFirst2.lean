/- CodelFirst: the law. -/
import Derived.Test.YtgmiggnlhcldlaaCodelFirst
namespace Go.Proofs.Ytgmiggnlhcldlaa.Codel
open Go.RowKit Go.Proofs BigFrame
open Wide (Gives)
set_option maxHeartbeats 2000000
set_option maxRecDepth 100000
theorem first_big (T I X fr n : Nat) (ad : Option Addr) (ca : Nat) (h : 300 < n) (w : World) :
    Calls Try.prog 9 #[.agg #[.int .u64 T, .int .u64 I, .int .u64 X], .int .u32 fr, .slice ad (n : Nat) ca] w fun e w' => e = .returned (.bool true) ∧ Upd Nowhere w w' := by
  have HL := fun u => Lib.hid (lives u)
  have t0 : decide ((n : Int) > 300) = true := decide_eq_true (by omega)
  have t1 : decide (300 < (n : Int)) = true := decide_eq_true (by omega)
  clear h
  go_enter Try.func9, Try.ntmps9
  go_wp2_with fail
  refine ((HL _).out).mono ?_
  rintro e w1 ⟨rfl, u1⟩
  go_wp2_with fail
  go_ret
  exact ⟨rfl, ((Upd.refl _ _).alloc _).trans u1 (fun _ _ h => h)⟩
theorem first_no (T I X fr n : Nat) (ad : Option Addr) (ca : Nat) (h : n ≤ 300) (h12 : ¬(1 ≤ I ∧ I ≤ 2147483648)) (w : World) :
    Calls Try.prog 9 #[.agg #[.int .u64 T, .int .u64 I, .int .u64 X], .int .u32 fr, .slice ad (n : Nat) ca] w fun e w' => e = .returned (.bool true) ∧ Upd Nowhere w w' := by
  have HL := fun u => Lib.hid (lives u)
  have t0 : decide ((n : Int) > 300) = false := decide_eq_false (by omega)
  have t1 : decide (300 < (n : Int)) = false := decide_eq_false (by omega)
  have H1 := fun u => Lib.hid (may_no T I X h12 u)
  clear h h12
  go_enter Try.func9, Try.ntmps9
  go_wp2_with fail
  refine ((H1 _).out).mono ?_
  rintro e w1 ⟨rfl, u1⟩
  have hB_c1 : Blk w1 (w.heap.size) #[.int .u64 T, .int .u64 I, .int .u64 X] 57 := (Blk.new _ _ _).kept u1 id
  have hU1 : Upd Nowhere w w1 := ((Upd.refl _ _).alloc _).trans u1 (fun _ _ h => h)
  obtain ⟨c_c0, c_c1, c_c2, z_c0, z_c1, z_c2⟩ := cells3 (hB_c1)
  have l_c1 := hB_c1.lt
  go_wp2_with fail
  refine ((HL _).out).mono ?_
  rintro e w9 ⟨rfl, u9⟩
  go_wp2_with fail
  go_ret
  exact ⟨rfl, hU1.trans u9 (fun _ _ h => h)⟩
theorem first_top (T I X fr n : Nat) (ad : Option Addr) (ca : Nat) (h : n ≤ 300) (h1 : 1 ≤ I) (h2 : I ≤ 2147483648) (hX : X = 18446744073709551615) (w : World) :
    Calls Try.prog 9 #[.agg #[.int .u64 T, .int .u64 I, .int .u64 X], .int .u32 fr, .slice ad (n : Nat) ca] w fun e w' => e = .returned (.bool true) ∧ Upd Nowhere w w' := by
  have HL := fun u => Lib.hid (lives u)
  have t0 : decide ((n : Int) > 300) = false := decide_eq_false (by omega)
  have t1 : decide (300 < (n : Int)) = false := decide_eq_false (by omega)
  have H1 := fun u => Lib.hid (may_ok T I X h1 h2 u)
  have t2 : ((X : Int) == 18446744073709551615) = true := by simp; omega
  clear h h1 h2 hX
  go_enter Try.func9, Try.ntmps9
  go_wp2_with fail
  refine ((H1 _).out).mono ?_
  rintro e w1 ⟨rfl, u1⟩
  have hB_c1 : Blk w1 (w.heap.size) #[.int .u64 T, .int .u64 I, .int .u64 X] 57 := (Blk.new _ _ _).kept u1 id
  have hU1 : Upd Nowhere w w1 := ((Upd.refl _ _).alloc _).trans u1 (fun _ _ h => h)
  obtain ⟨c_c0, c_c1, c_c2, z_c0, z_c1, z_c2⟩ := cells3 (hB_c1)
  have l_c1 := hB_c1.lt
  go_wp2_with fail
  refine ((HL _).out).mono ?_
  rintro e w9 ⟨rfl, u9⟩
  go_wp2_with fail
  go_ret
  exact ⟨rfl, hU1.trans u9 (fun _ _ h => h)⟩
theorem first_law (T I X fr : Nat) (v : Value) (l : List Int) (hX : X ≤ 18446744073709551615) (hf : fr ≤ 4294967295) (w : World) (ha : RowAt w v (l.map (.int .u16))) (hw : ∀ n ∈ l, (Lit.int .u16 n).wf = true) (_hlen : l.length ≤ 9223372036854775807) :
    Calls Try.prog 9 #[.agg #[.int .u64 T, .int .u64 I, .int .u64 X], .int .u32 fr, v] w fun e w' => e = .returned (.bool true) ∧ Upd Nowhere w w' := by
  have e : l.map (Value.int .u16) = nums16 (l.map Int.toNat) := by
    unfold nums16
    rw [List.map_map]
    refine List.map_congr_left fun n hn => ?_
    have := bd16 (hw n hn)
    simp only [Function.comp]
    congr 1; omega
  rw [e] at ha
  have hb : ∀ (i x : Nat), (l.map Int.toNat)[i]? = some x → x ≤ 65535 := fun i x h => by
    have := List.mem_of_getElem? h
    obtain ⟨n, hn, rfl⟩ := List.mem_map.1 this
    have := bd16 (hw n hn)
    omega
  generalize l.map Int.toNat = q at *
  clear e hw
  obtain ⟨ad, ca, rfl, h0, hc⟩ := ha
  rcases Nat.lt_or_ge 300 q.length with hbig | hsm
  · have hq := nums16_len q
    rw [hq]
    exact first_big T I X fr _ ad ca hbig w
  · by_cases hI : 1 ≤ I ∧ I ≤ 2147483648
    · rcases Nat.lt_or_ge X 18446744073709551615 with hlt | hge
      · exact first_ok T I X fr ad ca q hI.1 hI.2 hlt hf hsm hb w h0 hc
      · have hq := nums16_len q
        rw [hq]
        exact first_top T I X fr _ ad ca hsm hI.1 hI.2 (Nat.le_antisymm hX hge) w
    · have hq := nums16_len q
      rw [hq]
      exact first_no T I X fr _ ad ca hsm hI w
end Go.Proofs.Ytgmiggnlhcldlaa.Codel
