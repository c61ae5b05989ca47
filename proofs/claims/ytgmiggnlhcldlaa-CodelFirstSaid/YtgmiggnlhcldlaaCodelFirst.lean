/- CodelFirst. -/
import Derived.Test.YtgmiggnlhcldlaaCodelPlays
namespace Go.Proofs.Ytgmiggnlhcldlaa.Codel
open Go.RowKit Go.Proofs BigFrame
open Wide (Gives)
set_option maxHeartbeats 2000000
set_option maxRecDepth 100000
theorem first_new {T I X fr : Nat} (h1 : 1 ≤ I) (h2 : I ≤ 2147483648) (hf : fr ≤ 4294967295) : stp T I X 0 0 0 0 false fr T (X + 1) = ((fr + I, 0, 0, 0, false), false) := by
  unfold stp tm
  rw [if_pos ⟨h1, h2⟩, if_neg (by omega), if_pos rfl, show min (fr + I) 18446744073709551615 = fr + I by omega]
theorem first_wait {T I X G now : Nat} (h1 : 1 ≤ I) (h2 : I ≤ 2147483648) (hG : 0 < G) (h : now < G) : stp T I X G 0 0 0 false now T (X + 1) = ((G, 0, 0, 0, false), false) := by
  unfold stp tm
  rw [if_pos ⟨h1, h2⟩, if_neg (by omega), if_neg (by omega), decide_eq_false (by omega)]
theorem first_gone {T I X G now : Nat} (h1 : 1 ≤ I) (h2 : I ≤ 2147483648) (hG : 0 < G) (h : G ≤ now) : ∃ F' N' K' L' D', stp T I X G 0 0 0 false now T (X + 1) = ((F', N', K', L', D'), true) := by
  unfold stp tm
  rw [if_pos ⟨h1, h2⟩, if_neg (by omega), if_neg (by omega), decide_eq_true h]
  exact ⟨_, _, _, _, _, rfl⟩
theorem cap16 {nw fr k n : Nat} (h : nw ≤ fr + 65535 * (k + 1)) (hf : fr ≤ 4294967295) (hk : k < n) (hl : n ≤ 300) : nw ≤ 18446744073709551615 :=
  Nat.le_trans h (Nat.le_trans (Nat.add_le_add hf (Nat.mul_le_mul_left 65535 (show k + 1 ≤ 300 by omega))) (by decide))
def nums16 (l : List Nat) : List Value := l.map fun (x : Nat) => .int .u16 (x : Int)
theorem nums16_at {l : List Nat} {i x : Nat} (h : l[i]? = some x) : (nums16 l)[i]? = some (Value.int .u16 (x : Int)) := by simp [nums16, h]
theorem nums16_len (l : List Nat) : (nums16 l).length = l.length := by simp [nums16]
theorem first_ok (T I X fr : Nat) (ad : Option Addr) (ca : Nat) (l : List Nat) (h1 : 1 ≤ I) (h2 : I ≤ 2147483648) (hX : X < 18446744073709551615) (hf : fr ≤ 4294967295) (hl : l.length ≤ 300) (hb : ∀ (i x : Nat), l[i]? = some x → x ≤ 65535) (w : World) (ha0 : ad = none → nums16 l = [] ∧ ca = 0) (ha1 : ∀ b, ad = some b → ∀ j u, (nums16 l)[j]? = some u → b.spot = none ∧ w.cell? ⟨b.block, b.off + j, none⟩ = some u) :
    Calls Try.prog 9 #[.agg #[.int .u64 T, .int .u64 I, .int .u64 X], .int .u32 fr, .slice ad (nums16 l).length ca] w fun e w' => e = .returned (.bool true) ∧ Upd Nowhere w w' := by
  have HL := fun u => Lib.hid (lives u)
  have H1 := fun u => Lib.hid (may_ok T I X h1 h2 u)
  have e1 : IntKind.u64.wrap ((X : Int) + 1) = ((X + 1 : Nat) : Int) := by rw [IntKind.wrap_u64]; omega
  have e2 : IntKind.u64.wrap ((fr : Int) + (I : Int)) = ((fr + I : Nat) : Int) := by rw [IntKind.wrap_u64]; omega
  have e3 : IntKind.u64.wrap (fr : Int) = (fr : Int) := by rw [IntKind.wrap_u64]; omega
  have t2 : ((X : Int) == 18446744073709551615) = false := by simp; omega
  obtain ⟨G, hG⟩ : ∃ G, fr + I = G := ⟨_, rfl⟩
  have hG0 : 0 < G := by omega
  have hGb : G ≤ 18446744073709551615 := by omega
  have hs := fun u => step_any T I X 0 0 0 0 false fr T (X + 1) (by omega) (by omega) (by omega) (by omega) u
  rw [first_new h1 h2 hf, hG] at hs
  simp only [out] at hs
  have HS := fun u => Lib.hid (hs u)
  have HW := fun now (h : now < G) (hn : now ≤ 18446744073709551615) u => Lib.hid (by have := step_any T I X G 0 0 0 false now T (X + 1) (by omega) (by omega) (by omega) hn u; rw [first_wait h1 h2 hG0 h] at this; exact this)
  have HG := fun now (h : G ≤ now) (hn : now ≤ 18446744073709551615) => Lib.hid (by
    obtain ⟨F', N', K', L', D', hr⟩ := first_gone (T := T) (X := X) h1 h2 hG0 h
    have hh : ∃ (F' N' K' L' : Nat) (D' : Bool), ∀ u, Calls Try.prog 31 #[.agg #[.int .u64 T, .int .u64 I, .int .u64 X], .agg #[.int .u64 G, .int .u64 0, .int .u64 0, .int .u64 0, .bool false], .int .u64 now, .int .u64 T, .int .u64 (X + 1 : Nat)] u fun e w' => Gives u (out ((F', N', K', L', D'), true)) e w' := ⟨F', N', K', L', D', fun u => by have := step_any T I X G 0 0 0 false now T (X + 1) (by omega) (by omega) (by omega) hn u; rw [hr] at this; exact this⟩
    exact hh)
  simp only [out] at HW HG
  rw [hG] at e2
  rw [nums16_len]
  obtain ⟨n, hn⟩ : ∃ n, l.length = n := ⟨_, rfl⟩
  rw [hn] at hl ⊢
  have t0 : decide ((n : Int) > 300) = false := decide_eq_false (by omega)
  have t1 : decide (300 < (n : Int)) = false := decide_eq_false (by omega)
  have Hn := Lib.hid hn
  have Hb := Lib.hid hb
  have Ha0 := Lib.hid ha0
  have Ha := Lib.hid ha1
  have hfG : fr ≤ 4294967295 := hf
  clear hn hb ha0 ha1 hs hG
  generalize X + 1 = Y at *
  go_enter Try.func9, Try.ntmps9
  go_wp2_with fail
  refine ((H1 _).out).mono ?_
  rintro e w1 ⟨rfl, u1⟩
  have hB_c1 : Blk w1 (w.heap.size) #[.int .u64 T, .int .u64 I, .int .u64 X] 57 := (Blk.new _ _ _).kept u1 id
  have hU1 : Upd Nowhere w w1 := ((Upd.refl _ _).alloc _).trans u1 (fun _ _ h => h)
  obtain ⟨c_c0, c_c1, c_c2, z_c0, z_c1, z_c2⟩ := cells3 (hB_c1)
  have l_c1 := hB_c1.lt
  go_wp2_with fail
  refine ((HS _).out).mono ?_
  rintro e w2 ⟨rfl, u2⟩
  clear c_c0 c_c1 c_c2 z_c0 z_c1 z_c2
  have hB_c2 : Blk w2 (w.heap.size) #[.int .u64 T, .int .u64 I, .int .u64 X] 57 := (hB_c1).kept u2 id
  have hU2 : Upd Nowhere w w2 := (hU1).trans u2 (fun _ _ h => h)
  clear u1
  obtain ⟨c_c0, c_c1, c_c2, z_c0, z_c1, z_c2⟩ := cells3 (hB_c2)
  have l_c2 := hB_c2.lt
  clear l_c1
  go_wp2_with fail
  go_loopw [7, 9, 43] (fun nv gv i wr => ∃ (k now : Nat), k ≤ n ∧ i = .int .i64 k ∧ nv = .int .u64 now ∧ gv = .bool false ∧ now ≤ fr + 65535 * k ∧ Blk wr (w.heap.size) #[.int .u64 T, .int .u64 I, .int .u64 X] 57 ∧ Blk wr (w2.heap.size) #[.int .u64 G, .int .u64 0, .int .u64 0, .int .u64 0, .bool false] 64 ∧ Upd Nowhere w wr) (fun _ _ i _ => n - (intOf i).toNat)
  case atStart => exact ⟨0, fr, by omega, rfl, rfl, rfl, by omega, hB_c2.alloc _, Blk.new _ _ _, hU2.alloc _⟩
  case round =>
    obtain ⟨k, now, hk, rfl, rfl, rfl, hnow, hB_c, hB_s, hU⟩ := hrel
    clear hB_c2 hU2 c_c0 z_c0 c_c1 z_c1 c_c2 z_c2
    by_cases hlt : k < n
    · obtain ⟨d, hx⟩ : ∃ x, l[k]? = some x := ⟨l[k]'(by rw [Hn.out]; exact hlt), by simp⟩
      have hd := Hb.out k d hx
      cases ad with
      | none => have h0 := (Ha0.out rfl).1; have h3 := nums16_at hx; rw [h0] at h3; simp at h3
      | some aa =>
      obtain ⟨hsa, ea⟩ := Ha.out aa rfl k _ (nums16_at hx)
      obtain ⟨ga, oa, sa⟩ := aa
      simp only at hsa ea
      subst hsa
      have hga := cell_lt ea
      have ea' : wr.cell? ⟨ga, oa + k, none⟩ = some (.int .u16 d) := (hU.cell _ hga id).trans ea
      have hI : (k : Int) < n := by omega
      obtain ⟨nw, hnw⟩ : ∃ x, now + d = x := ⟨_, rfl⟩
      have hnb : nw ≤ fr + 65535 * (k + 1) := by omega
      have hn64 : nw ≤ 18446744073709551615 := cap16 hnb hfG hlt hl
      have e4 : IntKind.u64.wrap ((now : Int) + (d : Int)) = (nw : Int) := by rw [IntKind.wrap_u64]; omega
      have e5 : IntKind.u64.wrap (d : Int) = (d : Int) := by rw [IntKind.wrap_u64]; omega
      clear hnw hx ea hd hnow
      rcases Nat.lt_or_ge nw G with hg | hg
      · have t5 : decide (G ≤ nw) = false := decide_eq_false (by omega)
        have t6 : decide (nw ≥ G) = false := decide_eq_false (by omega)
        have H9 := HW nw hg hn64
        clear HW HG HS H1
        obtain ⟨c_c0, c_c1, c_c2, z_c0, z_c1, z_c2⟩ := cells3 (hB_c)
        obtain ⟨c_s0, c_s1, c_s2, c_s3, c_s4, z_s0, z_s1, z_s2, z_s3, z_s4⟩ := cells5 (hB_s)
        go_wp2_with fail
        refine ((H9 _).out).mono ?_
        rintro e w21 ⟨rfl, u21⟩
        clear c_c0 c_c1 c_c2 z_c0 z_c1 z_c2
        clear c_s0 c_s1 c_s2 c_s3 c_s4 z_s0 z_s1 z_s2 z_s3 z_s4
        have hB_c21 : Blk w21 (w.heap.size) #[.int .u64 T, .int .u64 I, .int .u64 X] 57 := (hB_c).kept u21 id
        have hB_s21 : Blk w21 (w2.heap.size) #[.int .u64 G, .int .u64 0, .int .u64 0, .int .u64 0, .bool false] 64 := (hB_s).kept u21 id
        have hU21 : Upd Nowhere w w21 := (hU).trans u21 (fun _ _ h => h)
        obtain ⟨c_c0, c_c1, c_c2, z_c0, z_c1, z_c2⟩ := cells3 (hB_c21)
        obtain ⟨c_s0, c_s1, c_s2, c_s3, c_s4, z_s0, z_s1, z_s2, z_s3, z_s4⟩ := cells5 (hB_s21)
        have l_c21 := hB_c21.lt
        have l_s21 := hB_s21.lt
        go_wp2_with fail
        go_roundw
        case rel => exact ⟨k + 1, nw, by omega, by go_num, rfl, rfl, hnb, (hB_c21).far5 (g := w2.heap.size) (by first | (simp; done) | omega | (dsimp only; omega)) (.int .u64 G) (.int .u64 0) (.int .u64 0) (.int .u64 0) (.bool false), (hB_s21).put5 (.int .u64 G) (.int .u64 0) (.int .u64 0) (.int .u64 0) (.bool false), (hU21).put5 (g := w2.heap.size) (by first | (simp; done) | omega | (dsimp only; omega)) (.int .u64 G) (.int .u64 0) (.int .u64 0) (.int .u64 0) (.bool false)⟩
        case measure => simp [intOf]; omega
      · have t5 : decide (G ≤ nw) = true := decide_eq_true (by omega)
        have t6 : decide (nw ≥ G) = true := decide_eq_true (by omega)
        obtain ⟨F', N', K', L', D', h9⟩ := (HG nw hg hn64).out
        have H9 := fun u => Lib.hid (h9 u)
        clear HW HG HS H1 h9
        obtain ⟨c_c0, c_c1, c_c2, z_c0, z_c1, z_c2⟩ := cells3 (hB_c)
        obtain ⟨c_s0, c_s1, c_s2, c_s3, c_s4, z_s0, z_s1, z_s2, z_s3, z_s4⟩ := cells5 (hB_s)
        go_wp2_with fail
        refine ((H9 _).out).mono ?_
        rintro e w31 ⟨rfl, u31⟩
        clear c_c0 c_c1 c_c2 z_c0 z_c1 z_c2
        clear c_s0 c_s1 c_s2 c_s3 c_s4 z_s0 z_s1 z_s2 z_s3 z_s4
        have hB_c31 : Blk w31 (w.heap.size) #[.int .u64 T, .int .u64 I, .int .u64 X] 57 := (hB_c).kept u31 id
        have hB_s31 : Blk w31 (w2.heap.size) #[.int .u64 G, .int .u64 0, .int .u64 0, .int .u64 0, .bool false] 64 := (hB_s).kept u31 id
        have hU31 : Upd Nowhere w w31 := (hU).trans u31 (fun _ _ h => h)
        obtain ⟨c_c0, c_c1, c_c2, z_c0, z_c1, z_c2⟩ := cells3 (hB_c31)
        obtain ⟨c_s0, c_s1, c_s2, c_s3, c_s4, z_s0, z_s1, z_s2, z_s3, z_s4⟩ := cells5 (hB_s31)
        have l_c31 := hB_c31.lt
        have l_s31 := hB_s31.lt
        go_wp2_with fail
        go_wp2_with fail
        refine ((HL _).out).mono ?_
        rintro e w41 ⟨rfl, u41⟩
        go_wp2_with fail
        go_ret
        exact ⟨rfl, ((hU31).put5 (g := w2.heap.size) (by first | (simp; done) | omega | (dsimp only; omega)) (.int .u64 F') (.int .u64 N') (.int .u64 K') (.int .u64 L') (.bool D')).trans u41 (fun _ _ h => h)⟩
    · obtain rfl : k = n := by omega
      go_wp2_with fail
      refine ((HL _).out).mono ?_
      rintro e w9 ⟨rfl, u9⟩
      go_wp2_with fail
      go_ret
      exact ⟨rfl, hU.trans u9 (fun _ _ h => h)⟩
end Go.Proofs.Ytgmiggnlhcldlaa.Codel
