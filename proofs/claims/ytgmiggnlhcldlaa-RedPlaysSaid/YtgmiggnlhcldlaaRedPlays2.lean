/- RedPlays, of a configuration that may not be; the law. -/
import Derived.Test.YtgmiggnlhcldlaaRedPlays
import Derived.Test.YtgmiggnlhcldlaaClose
namespace Go.Proofs.Ytgmiggnlhcldlaa.Red
open Go.RowKit Go.Proofs BigFrame
open Wide (Gives)
open Root (slo fol)
set_option maxHeartbeats 2000000
set_option maxRecDepth 100000
theorem plays_no (A B P m0 c0 : Nat) (s : Int) (v : Value) (l : List Nat) (h : ¬ok A B P s) (hm0 : m0 ≤ 18446744073709551615) (hc0 : c0 ≤ 18446744073709551615) (hl : l.length ≤ 300) (hb : ∀ (i x : Nat), l[i]? = some x → x ≤ 18446744073709551615) (w : World) (hv : RowAt w v (nums l)) :
    Calls Try.prog 10 #[.agg #[.int .u64 A, .int .u64 B, .int .u64 P, .int .i64 s], .agg #[.int .u64 m0, .int .u64 c0], v] w fun e w' => e = .returned (.bool true) ∧ Upd Nowhere w w' := by
  have HL := fun u => Lib.hid (lives u)
  have H1 := fun u => Lib.hid (may_no A B P s h u)
  have H2 := fun u => Lib.hid (check_no A B P s h u)
  have HS := fun m c x u hm hx hc => Lib.hid (step_any A B P m c x s hm hx hc u)
  have HR := fun m c x u hm hx hc => Lib.hid (rstep_any A B P m c x s hm hx hc u)
  have HP := fun u => Lib.hid (play_no A B P s v h u)
  have HV := Lib.hid hv
  obtain ⟨ad, ca, rfl, ha0, ha1⟩ := hv
  obtain ⟨n, hn⟩ : ∃ n, l.length = n := ⟨_, rfl⟩
  rw [nums_len] at HV HP ⊢
  rw [hn] at hl HV HP ⊢
  have t0 : decide ((n : Int) > 300) = false := decide_eq_false (by omega)
  have t1 : decide (300 < (n : Int)) = false := decide_eq_false (by omega)
  have Hn := Lib.hid hn
  have Hb := Lib.hid hb
  have Ha0 := Lib.hid ha0
  have Ha := Lib.hid ha1
  clear hn hb ha0 ha1 h
  go_enter Try.func10, Try.ntmps10
  go_wp2_with fail
  refine ((H1 _).out).mono ?_
  rintro e w1 ⟨rfl, u1⟩
  have hB_c1 : Blk w1 (w.heap.size) #[.int .u64 A, .int .u64 B, .int .u64 P, .int .i64 s] 80 := (((Blk.new _ _ _).alloc _).alloc _).kept u1 id
  have hB_s1 : Blk w1 (w.heap.size + 1) #[.int .u64 m0, .int .u64 c0] 82 := ((Blk.new2 _ _ _ _).alloc _).kept u1 id
  have hB_d1 : Blk w1 (w.heap.size + 1 + 1) #[.int .u64 A, .int .u64 B, .int .u64 P, .int .i64 s] 83 := (Blk.new3 _ _ _ _ _).kept u1 id
  have hU1 : Upd Nowhere w w1 := ((((Upd.refl _ _).alloc _).alloc _).alloc _).trans u1 (fun _ _ h => h)
  obtain ⟨c_c0, c_c1, c_c2, c_c3, z_c0, z_c1, z_c2, z_c3⟩ := cells4 (hB_c1)
  obtain ⟨c_s0, c_s1, z_s0, z_s1⟩ := cells2 (hB_s1)
  obtain ⟨c_d0, c_d1, c_d2, c_d3, z_d0, z_d1, z_d2, z_d3⟩ := cells4 (hB_d1)
  have l_c1 := hB_c1.lt
  have l_s1 := hB_s1.lt
  have l_d1 := hB_d1.lt
  go_wp2_with fail
  refine ((H2 _).out).mono ?_
  rintro e w2 ⟨rfl, u2⟩
  clear c_c0 c_c1 c_c2 c_c3 z_c0 z_c1 z_c2 z_c3
  clear c_s0 c_s1 z_s0 z_s1
  clear c_d0 c_d1 c_d2 c_d3 z_d0 z_d1 z_d2 z_d3
  have hB_c2 : Blk w2 (w.heap.size) #[.int .u64 A, .int .u64 B, .int .u64 P, .int .i64 s] 80 := (hB_c1).kept u2 id
  have hB_s2 : Blk w2 (w.heap.size + 1) #[.int .u64 m0, .int .u64 c0] 82 := (hB_s1).kept u2 id
  have hB_d2 : Blk w2 (w.heap.size + 1 + 1) #[.int .u64 A, .int .u64 B, .int .u64 P, .int .i64 s] 83 := (hB_d1).kept u2 id
  have hU2 : Upd Nowhere w w2 := (hU1).trans u2 (fun _ _ h => h)
  clear u1
  obtain ⟨c_c0, c_c1, c_c2, c_c3, z_c0, z_c1, z_c2, z_c3⟩ := cells4 (hB_c2)
  obtain ⟨c_s0, c_s1, z_s0, z_s1⟩ := cells2 (hB_s2)
  obtain ⟨c_d0, c_d1, c_d2, c_d3, z_d0, z_d1, z_d2, z_d3⟩ := cells4 (hB_d2)
  have l_c2 := hB_c2.lt
  have l_s2 := hB_s2.lt
  have l_d2 := hB_d2.lt
  clear l_c1 l_s1 l_d1
  go_wp2_with fail
  refine ((H2 _).out).mono ?_
  rintro e w3 ⟨rfl, u3⟩
  clear c_c0 c_c1 c_c2 c_c3 z_c0 z_c1 z_c2 z_c3
  clear c_s0 c_s1 z_s0 z_s1
  clear c_d0 c_d1 c_d2 c_d3 z_d0 z_d1 z_d2 z_d3
  have hB_c3 : Blk w3 (w.heap.size) #[.int .u64 A, .int .u64 B, .int .u64 P, .int .i64 s] 80 := (hB_c2).kept u3 id
  have hB_s3 : Blk w3 (w.heap.size + 1) #[.int .u64 m0, .int .u64 c0] 82 := (hB_s2).kept u3 id
  have hB_d3 : Blk w3 (w.heap.size + 1 + 1) #[.int .u64 A, .int .u64 B, .int .u64 P, .int .i64 s] 83 := (hB_d2).kept u3 id
  have hU3 : Upd Nowhere w w3 := (hU2).trans u3 (fun _ _ h => h)
  clear u2
  obtain ⟨c_c0, c_c1, c_c2, c_c3, z_c0, z_c1, z_c2, z_c3⟩ := cells4 (hB_c3)
  obtain ⟨c_s0, c_s1, z_s0, z_s1⟩ := cells2 (hB_s3)
  obtain ⟨c_d0, c_d1, c_d2, c_d3, z_d0, z_d1, z_d2, z_d3⟩ := cells4 (hB_d3)
  have l_c3 := hB_c3.lt
  have l_s3 := hB_s3.lt
  have l_d3 := hB_d3.lt
  clear l_c2 l_s2 l_d2
  go_wp2_with fail
  go_quiet (fail)
  go_wp2_with fail
  clear c_c0 c_c1 c_c2 c_c3 z_c0 z_c1 z_c2 z_c3
  clear c_s0 c_s1 z_s0 z_s1
  clear c_d0 c_d1 c_d2 c_d3 z_d0 z_d1 z_d2 z_d3
  have hB_c4 : Blk (w3.drewN nq) (w.heap.size) #[.int .u64 A, .int .u64 B, .int .u64 P, .int .i64 s] 80 := (hB_c3).drewN nq
  have hB_s4 : Blk (w3.drewN nq) (w.heap.size + 1) #[.int .u64 m0, .int .u64 c0] 82 := (hB_s3).drewN nq
  have hB_d4 : Blk (w3.drewN nq) (w.heap.size + 1 + 1) #[.int .u64 A, .int .u64 B, .int .u64 P, .int .i64 s] 83 := (hB_d3).drewN nq
  have hU4 : Upd Nowhere w (w3.drewN nq) := (hU3).drewN nq
  generalize w3.drewN nq = w4 at *
  clear u3
  obtain ⟨c_c0, c_c1, c_c2, c_c3, z_c0, z_c1, z_c2, z_c3⟩ := cells4 (hB_c4)
  obtain ⟨c_s0, c_s1, z_s0, z_s1⟩ := cells2 (hB_s4)
  obtain ⟨c_d0, c_d1, c_d2, c_d3, z_d0, z_d1, z_d2, z_d3⟩ := cells4 (hB_d4)
  have l_c4 := hB_c4.lt
  have l_s4 := hB_s4.lt
  have l_d4 := hB_d4.lt
  clear l_c3 l_s3 l_d3
  go_loopw [9, 10, 51] (fun mv cv i wr => ∃ (k m c : Nat), k ≤ n ∧ i = .int .i64 k ∧ mv = .int .u64 m ∧ cv = .int .u64 c ∧ m ≤ 18446744073709551615 ∧ c ≤ 18446744073709551615 ∧ Blk wr (w.heap.size) #[.int .u64 A, .int .u64 B, .int .u64 P, .int .i64 s] 80 ∧ Blk wr (w.heap.size + 1) #[.int .u64 m, .int .u64 c] 82 ∧ Blk wr (w.heap.size + 1 + 1) #[.int .u64 A, .int .u64 B, .int .u64 P, .int .i64 s] 83 ∧ Upd Nowhere w wr) (fun _ _ i _ => n - (intOf i).toNat)
  case atStart => exact ⟨0, m0, c0, by omega, rfl, rfl, rfl, hm0, hc0, hB_c4, hB_s4, hB_d4, hU4⟩
  case round =>
    obtain ⟨k, m, c, hk, rfl, rfl, rfl, hm, hc, hB_c, hB_s, hB_d, hU⟩ := hrel
    clear hB_c4 hB_s4 hB_d4 hU4 c_c0 z_c0 c_c1 z_c1 c_c2 z_c2 c_c3 z_c3 c_s0 z_s0 c_s1 z_s1 c_d0 z_d0 c_d1 z_d1 c_d2 z_d2 c_d3 z_d3
    by_cases hlt : k < n
    · obtain ⟨x, hx⟩ : ∃ x, l[k]? = some x := ⟨l[k]'(by rw [Hn.out]; exact hlt), by simp⟩
      have hxb := Hb.out k x hx
      cases ad with
      | none => have h0 := (Ha0.out rfl).1; have h3 := nums_at hx; rw [h0] at h3; simp at h3
      | some aa =>
      obtain ⟨hsa, ea⟩ := Ha.out aa rfl k _ (nums_at hx)
      obtain ⟨ga, oa, sa⟩ := aa
      simp only at hsa ea
      subst hsa
      have hga := cell_lt ea
      have ea' : wr.cell? ⟨ga, oa + k, none⟩ = some (.int .u64 x) := (hU.cell _ hga id).trans ea
      have hI : (k : Int) < n := by omega
      have HS1 := fun u => HS m c x u hm hxb hc
      have HR1 := fun u => HR m c x u hm hxb hc
      have hle := rs_le (A := A) (B := B) (P := P) (x := x) (s := s) hm hc
      obtain ⟨⟨⟨m', c'⟩, g⟩, hr⟩ : ∃ r, rs A B P s m c x = r := ⟨_, rfl⟩
      rw [hr] at HS1 HR1 hle
      obtain ⟨bm, bc⟩ := hle
      clear hr hx ea hm hc hxb HS HR
      obtain ⟨c_c0, c_c1, c_c2, c_c3, z_c0, z_c1, z_c2, z_c3⟩ := cells4 (hB_c)
      obtain ⟨c_s0, c_s1, z_s0, z_s1⟩ := cells2 (hB_s)
      obtain ⟨c_d0, c_d1, c_d2, c_d3, z_d0, z_d1, z_d2, z_d3⟩ := cells4 (hB_d)
      go_wp2_with fail
      refine ((HS1 _).out).mono ?_
      rintro e w11 ⟨rfl, u11⟩
      clear c_c0 c_c1 c_c2 c_c3 z_c0 z_c1 z_c2 z_c3
      clear c_s0 c_s1 z_s0 z_s1
      clear c_d0 c_d1 c_d2 c_d3 z_d0 z_d1 z_d2 z_d3
      have hB_c11 : Blk w11 (w.heap.size) #[.int .u64 A, .int .u64 B, .int .u64 P, .int .i64 s] 80 := (hB_c).kept u11 id
      have hB_s11 : Blk w11 (w.heap.size + 1) #[.int .u64 m, .int .u64 c] 82 := (hB_s).kept u11 id
      have hB_d11 : Blk w11 (w.heap.size + 1 + 1) #[.int .u64 A, .int .u64 B, .int .u64 P, .int .i64 s] 83 := (hB_d).kept u11 id
      have hU11 : Upd Nowhere w w11 := (hU).trans u11 (fun _ _ h => h)
      obtain ⟨c_c0, c_c1, c_c2, c_c3, z_c0, z_c1, z_c2, z_c3⟩ := cells4 (hB_c11)
      obtain ⟨c_s0, c_s1, z_s0, z_s1⟩ := cells2 (hB_s11)
      obtain ⟨c_d0, c_d1, c_d2, c_d3, z_d0, z_d1, z_d2, z_d3⟩ := cells4 (hB_d11)
      have l_c11 := hB_c11.lt
      have l_s11 := hB_s11.lt
      have l_d11 := hB_d11.lt
      go_wp2_with fail
      refine ((HR1 _).out).mono ?_
      rintro e w12 ⟨rfl, u12⟩
      clear c_c0 c_c1 c_c2 c_c3 z_c0 z_c1 z_c2 z_c3
      clear c_s0 c_s1 z_s0 z_s1
      clear c_d0 c_d1 c_d2 c_d3 z_d0 z_d1 z_d2 z_d3
      have hB_c12 : Blk w12 (w.heap.size) #[.int .u64 A, .int .u64 B, .int .u64 P, .int .i64 s] 80 := (hB_c11.alloc _).kept u12 id
      have hB_s12 : Blk w12 (w.heap.size + 1) #[.int .u64 m, .int .u64 c] 82 := (hB_s11.alloc _).kept u12 id
      have hB_d12 : Blk w12 (w.heap.size + 1 + 1) #[.int .u64 A, .int .u64 B, .int .u64 P, .int .i64 s] 83 := (hB_d11.alloc _).kept u12 id
      have hB_n12 : Blk w12 (w11.heap.size) #[.int .u64 m', .int .u64 c'] 82 := (Blk.new _ _ _).kept u12 id
      have hU12 : Upd Nowhere w w12 := (hU11.alloc _).trans u12 (fun _ _ h => h)
      clear u11
      obtain ⟨c_c0, c_c1, c_c2, c_c3, z_c0, z_c1, z_c2, z_c3⟩ := cells4 (hB_c12)
      obtain ⟨c_s0, c_s1, z_s0, z_s1⟩ := cells2 (hB_s12)
      obtain ⟨c_d0, c_d1, c_d2, c_d3, z_d0, z_d1, z_d2, z_d3⟩ := cells4 (hB_d12)
      obtain ⟨c_n0, c_n1, z_n0, z_n1⟩ := cells2 (hB_n12)
      have l_c12 := hB_c12.lt
      have l_s12 := hB_s12.lt
      have l_d12 := hB_d12.lt
      have l_n12 := hB_n12.lt
      go_wp2_with fail
      go_roundw
      case rel => exact ⟨k + 1, m', c', by omega, by go_num, rfl, rfl, bm, bc, (hB_c12).far2 (g := w.heap.size + 1) (by first | (simp; done) | (dsimp only; omega)) (.int .u64 m') (.int .u64 c'), (hB_s12).put2 (.int .u64 m') (.int .u64 c'), (hB_d12).far2 (g := w.heap.size + 1) (by first | (simp; done) | (dsimp only; omega)) (.int .u64 m') (.int .u64 c'), (hU12).put2 (g := w.heap.size + 1) (by first | (simp; done) | (dsimp only; omega)) (.int .u64 m') (.int .u64 c')⟩
      case measure => simp [intOf]; omega
    · obtain rfl : k = n := by omega
      clear HS HR hm hc hm0 hc0 hB_s
      obtain ⟨c_c0, c_c1, c_c2, c_c3, z_c0, z_c1, z_c2, z_c3⟩ := cells4 (hB_c)
      obtain ⟨c_d0, c_d1, c_d2, c_d3, z_d0, z_d1, z_d2, z_d3⟩ := cells4 (hB_d)
      go_wp2_with fail
      refine ((HP _).out).mono ?_
      rintro e w21 ⟨rfl, u21⟩
      clear c_c0 c_c1 c_c2 c_c3 z_c0 z_c1 z_c2 z_c3
      clear c_d0 c_d1 c_d2 c_d3 z_d0 z_d1 z_d2 z_d3
      have hB_c21 : Blk w21 (w.heap.size) #[.int .u64 A, .int .u64 B, .int .u64 P, .int .i64 s] 80 := (hB_c).kept u21 id
      have hB_d21 : Blk w21 (w.heap.size + 1 + 1) #[.int .u64 A, .int .u64 B, .int .u64 P, .int .i64 s] 83 := (hB_d).kept u21 id
      have hU21 : Upd Nowhere w w21 := (hU).trans u21 (fun _ _ h => h)
      obtain ⟨c_c0, c_c1, c_c2, c_c3, z_c0, z_c1, z_c2, z_c3⟩ := cells4 (hB_c21)
      obtain ⟨c_d0, c_d1, c_d2, c_d3, z_d0, z_d1, z_d2, z_d3⟩ := cells4 (hB_d21)
      have l_c21 := hB_c21.lt
      have l_d21 := hB_d21.lt
      go_wp2_with fail
      refine ((HL _).out).mono ?_
      rintro e w22 ⟨rfl, u22⟩
      clear c_c0 c_c1 c_c2 c_c3 z_c0 z_c1 z_c2 z_c3
      clear c_d0 c_d1 c_d2 c_d3 z_d0 z_d1 z_d2 z_d3
      have hB_c22 : Blk w22 (w.heap.size) #[.int .u64 A, .int .u64 B, .int .u64 P, .int .i64 s] 80 := (hB_c21).kept u22 id
      have hB_d22 : Blk w22 (w.heap.size + 1 + 1) #[.int .u64 A, .int .u64 B, .int .u64 P, .int .i64 s] 83 := (hB_d21).kept u22 id
      have hU22 : Upd Nowhere w w22 := (hU21).trans u22 (fun _ _ h => h)
      clear u21
      obtain ⟨c_c0, c_c1, c_c2, c_c3, z_c0, z_c1, z_c2, z_c3⟩ := cells4 (hB_c22)
      obtain ⟨c_d0, c_d1, c_d2, c_d3, z_d0, z_d1, z_d2, z_d3⟩ := cells4 (hB_d22)
      have l_c22 := hB_c22.lt
      have l_d22 := hB_d22.lt
      go_wp2_with fail
      go_ret
      exact ⟨rfl, hU22⟩
theorem plays_law (A B P m0 c0 : Nat) (s : Int) (v : Value) (l : List Int) (hm0 : m0 ≤ 18446744073709551615) (hc0 : c0 ≤ 18446744073709551615) (w : World) (ha : RowAt w v (l.map (.int .u64))) (hw : ∀ n ∈ l, (Lit.int .u64 n).wf = true) (_hlen : l.length ≤ 9223372036854775807) :
    Calls Try.prog 10 #[.agg #[.int .u64 A, .int .u64 B, .int .u64 P, .int .i64 s], .agg #[.int .u64 m0, .int .u64 c0], v] w fun e w' => e = .returned (.bool true) ∧ Upd Nowhere w w' := by
  have e : l.map (Value.int .u64) = nums (l.map Int.toNat) := by
    unfold nums
    rw [List.map_map]
    refine List.map_congr_left fun n hn => ?_
    have := bd64 (hw n hn)
    simp only [Function.comp]
    congr 1; omega
  rw [e] at ha
  have hb : ∀ (i x : Nat), (l.map Int.toNat)[i]? = some x → x ≤ 18446744073709551615 := fun i x h => by
    have := List.mem_of_getElem? h
    obtain ⟨n, hn, rfl⟩ := List.mem_map.1 this
    have := bd64 (hw n hn)
    omega
  have hlen : (l.map Int.toNat).length = l.length := by simp
  generalize l.map Int.toNat = q at *
  clear e hw
  rcases Nat.lt_or_ge 300 q.length with hbig | hsm
  · have HL := fun u => Lib.hid (lives u)
    obtain ⟨ad, ca, rfl, h0, hc⟩ := ha
    rw [nums_len]
    obtain ⟨n, hn⟩ : ∃ n, q.length = n := ⟨_, rfl⟩
    have hn2 : n ≤ 9223372036854775807 := by omega
    rw [hn] at hbig ⊢
    have t0 : decide ((n : Int) > 300) = true := decide_eq_true (by omega)
    have t1 : decide (300 < (n : Int)) = true := decide_eq_true (by omega)
    clear hn hlen h0 hc hb _hlen
    go_enter Try.func10, Try.ntmps10
    go_wp2_with fail
    refine ((HL _).out).mono ?_
    rintro e w1 ⟨rfl, u1⟩
    go_wp2_with fail
    go_ret
    exact ⟨rfl, (((Upd.refl _ _).alloc _).alloc _).trans u1 (fun _ _ h => h)⟩
  · by_cases h : ok A B P s
    · exact plays_ok A B P m0 c0 s v q h hm0 hc0 hsm hb w ha
    · exact plays_no A B P m0 c0 s v q h hm0 hc0 hsm hb w ha
end Go.Proofs.Ytgmiggnlhcldlaa.Red
