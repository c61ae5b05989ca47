/- RedEdges. -/
import Derived.Test.YtgmiggnlhcldlaaRedEven
import Derived.Deep.RegionWith
namespace Go.Proofs.Ytgmiggnlhcldlaa.Red
open Go.RowKit Go.Proofs BigFrame
open Wide (Gives)
open Root (slo fol)
set_option maxHeartbeats 2000000
set_option maxRecDepth 100000
theorem edge_low {A m y S : Nat} (hA : A ≤ 1099511627776) (_hS : S ≤ 16) (hm : m < A * 2 ^ S) (hy : y < A) : fol m y S < A * 2 ^ S ∧ fol m y S / 2 ^ S < A := by
  have hD : 0 < 2 ^ S := Nat.two_pow_pos S
  have hq : m / 2 ^ S < A := (Nat.div_lt_iff_lt_mul hD).2 hm
  have hmod := Nat.div_add_mod m (2 ^ S)
  have hlt := Nat.mod_lt m hD
  have key : fol m y S < A * 2 ^ S := by
    unfold Root.fol
    generalize m / 2 ^ S = q at *
    generalize m % 2 ^ S = r at *
    generalize 2 ^ S = D at *
    obtain ⟨d, rfl⟩ : ∃ d, A = q + d + 1 := ⟨A - q - 1, by omega⟩
    have h2 : (q + d + 1) * D = D * q + d * D + D := by rw [Nat.add_mul, Nat.add_mul, Nat.one_mul, Nat.mul_comm q D]
    have h3 : d * 1 ≤ d * D := Nat.mul_le_mul_left _ hD
    have h4 : q * 1 ≤ D * q := by rw [Nat.mul_comm D q]; exact Nat.mul_le_mul_left _ hD
    omega
  exact ⟨key, (Nat.div_lt_iff_lt_mul hD).2 key⟩
theorem rs_low {A B P m c y S : Nat} (h : ok A B P (S : Int)) (hS : slo (S : Int) = S) (hl : fol m y S / 2 ^ S < A) : rs A B P S m c y = ((fol m y S, 0), false) := by
  unfold rs
  rw [if_pos h, hS, if_pos hl]
theorem keep6 {w w' B : World} {a0 a1 a2 a3 a4 a5 : Addr} {v0 v1 v2 v3 v4 v5 : Value} (y : Upd Nowhere w w') (h : Upd Nowhere B w ∧ w.cell? a0 = some v0 ∧ w.cell? a1 = some v1 ∧ w.cell? a2 = some v2 ∧ w.cell? a3 = some v3 ∧ w.cell? a4 = some v4 ∧ w.cell? a5 = some v5) : Upd Nowhere B w' ∧ w'.cell? a0 = some v0 ∧ w'.cell? a1 = some v1 ∧ w'.cell? a2 = some v2 ∧ w'.cell? a3 = some v3 ∧ w'.cell? a4 = some v4 ∧ w'.cell? a5 = some v5 := by
  obtain ⟨hu, h0, h1, h2, h3, h4, h5⟩ := h
  exact ⟨hu.trans y (fun _ _ h => h), cell_old y h0, cell_old y h1, cell_old y h2, cell_old y h3, cell_old y h4, cell_old y h5⟩
theorem keepM6 {P : Program} {f : FuncId} {args : Array Value} {w B : World} {V : Value} {a0 a1 a2 a3 a4 a5 : Addr} {v0 v1 v2 v3 v4 v5 : Value} (h : Calls P f args w fun e w' => e = .returned V ∧ Upd Nowhere w w') (hS : Upd Nowhere B w ∧ w.cell? a0 = some v0 ∧ w.cell? a1 = some v1 ∧ w.cell? a2 = some v2 ∧ w.cell? a3 = some v3 ∧ w.cell? a4 = some v4 ∧ w.cell? a5 = some v5) :
    Calls P f args w fun e w' => e = .returned V ∧ Upd Nowhere w w' ∧ (Upd Nowhere B w' ∧ w'.cell? a0 = some v0 ∧ w'.cell? a1 = some v1 ∧ w'.cell? a2 = some v2 ∧ w'.cell? a3 = some v3 ∧ w'.cell? a4 = some v4 ∧ w'.cell? a5 = some v5) := h.mono fun _ _ ⟨x, y⟩ => ⟨x, y, keep6 y hS⟩
theorem keepS6 {w B : World} {a0 a1 a2 a3 a4 a5 a : Addr} {v0 v1 v2 v3 v4 v5 v : Value} (h : Upd Nowhere B w ∧ w.cell? a0 = some v0 ∧ w.cell? a1 = some v1 ∧ w.cell? a2 = some v2 ∧ w.cell? a3 = some v3 ∧ w.cell? a4 = some v4 ∧ w.cell? a5 = some v5) (ha : B.heap.size ≤ a.block) (b0 : a0.block < B.heap.size) (b1 : a1.block < B.heap.size) (b2 : a2.block < B.heap.size) (b3 : a3.block < B.heap.size) (b4 : a4.block < B.heap.size) (b5 : a5.block < B.heap.size) :
    Upd Nowhere B (w.setCell a v) ∧ (w.setCell a v).cell? a0 = some v0 ∧ (w.setCell a v).cell? a1 = some v1 ∧ (w.setCell a v).cell? a2 = some v2 ∧ (w.setCell a v).cell? a3 = some v3 ∧ (w.setCell a v).cell? a4 = some v4 ∧ (w.setCell a v).cell? a5 = some v5 := by
  obtain ⟨hu, h0, h1, h2, h3, h4, h5⟩ := h
  have k : ∀ {x : Addr} {u : Value}, x.block < B.heap.size → w.cell? x = some u → (w.setCell a v).cell? x = some u := fun {x u} hx hc => by
    rw [World.cell?_of_block (w := w) (Below.heap_setCell _ _ _ _ (fun e => by rw [e] at hx; omega))]; exact hc
  exact ⟨hu.setNew ha v, k b0 h0, k b1 h1, k b2 h2, k b3 h3, k b4 h4, k b5 h5⟩
theorem rs_high {A B P x c S : Nat} (h : ok A B P (S : Int)) (hS : slo (S : Int) = S) (f1 : fol (x * 2 ^ S) x S = x * 2 ^ S) (f2 : x * 2 ^ S / 2 ^ S = x) (h1 : B ≤ x) : rs A B P S (x * 2 ^ S) c x = ((x * 2 ^ S, 0), true) := by
  have hA : ¬ x < A := Nat.not_lt.2 (Nat.le_trans (Nat.le_of_lt h.1) h1)
  unfold rs
  rw [if_pos h, hS, f1, f2, if_neg hA, if_pos h1]
theorem edges_zero (A B P hi S : Nat) (ad : Option Addr) (ca : Nat) (l : List Nat) (h : ok A B P (S : Int)) (hA : A = 0) (hl : l.length ≤ 300) (hb : ∀ (i x : Nat), l[i]? = some x → x ≤ 18446744073709551615) (w : World) (ha0 : ad = none → nums l = [] ∧ ca = 0) (ha1 : ∀ b, ad = some b → ∀ j u, (nums l)[j]? = some u → b.spot = none ∧ w.cell? ⟨b.block, b.off + j, none⟩ = some u) :
    Calls Try.prog 11 #[.agg #[.int .u64 A, .int .u64 B, .int .u64 P, .int .i64 S], .slice ad (nums l).length ca, .int .u64 hi] w fun e w' => e = .returned (.bool true) ∧ Upd Nowhere w w' := by
  have HA := Lib.hid hA
  clear hA
  have HL := fun u => Lib.hid (lives u)
  have H1 := fun u => Lib.hid (may_ok A B P S h u)
  obtain ⟨k1, k2, k3, k4, k5, k6⟩ := id h
  obtain ⟨x, hx⟩ : ∃ x, B + hi % 1099511627776 = x := ⟨_, rfl⟩
  have hx1 : B ≤ x := by omega
  have hx2 : x ≤ 4398046511104 := by omega
  have e1 : (hi : Int) % 1099511627776 = ((hi % 1099511627776 : Nat) : Int) := rfl
  have e2 : IntKind.u64.wrap ((B : Int) + ((hi % 1099511627776 : Nat) : Int)) = (x : Int) := by rw [Bits.addN, hx]; exact Bits.wrapN _ (by omega)
  generalize hi % 1099511627776 = hm at *
  obtain ⟨f1, f2, f3, f4⟩ := fol_stays (x := x) (S := S) hx2 (by omega)
  have hS : slo (S : Int) = S := by unfold Root.slo; omega
  have hrs := rs_high (c := 0) h hS f1 f2 hx1
  obtain ⟨Z, hZ⟩ : ∃ Z, x * 2 ^ S = Z := ⟨_, rfl⟩
  rw [hZ] at hrs
  have HZ := fun u => Lib.hid (by have := step_any A B P Z 0 x S (by omega) (by omega) (by omega) u; rw [hrs] at this; exact this)
  have c1 : ((x * 2 ^ S : Nat) : Int) = (x : Int) * 2 ^ S := by push_cast; rfl
  have e5 : IntKind.u64.wrap ((x : Int) * 2 ^ S) = (Z : Int) := by rw [← c1, hZ]; exact Bits.wrapN _ (by omega)
  have hS16 : S ≤ 16 := by omega
  obtain ⟨n, hn⟩ : ∃ n, l.length = n := ⟨_, rfl⟩
  rw [nums_len]
  rw [hn] at hl ⊢
  have t0 : decide ((n : Int) > 300) = false := decide_eq_false (by omega)
  have t1 : decide (300 < (n : Int)) = false := decide_eq_false (by omega)
  have Hn := Lib.hid hn
  have Hb := Lib.hid hb
  have Ha0 := Lib.hid ha0
  have Ha := Lib.hid ha1
  have HOK := Lib.hid h
  clear hn hb ha0 ha1 h hrs c1 f1 f2 f3 f4 hZ hx hx1 hx2 k3 k4 k5
  go_enter Try.func11, Try.ntmps11
  go_wp2_with fail
  refine ((H1 _).out).mono ?_
  rintro e w1 ⟨rfl, u1⟩
  have hB_c1 : Blk w1 (w.heap.size) #[.int .u64 A, .int .u64 B, .int .u64 P, .int .i64 S] 80 := (Blk.new _ _ _).kept u1 id
  have hU1 : Upd Nowhere w w1 := ((Upd.refl _ _).alloc _).trans u1 (fun _ _ h => h)
  obtain ⟨c_c0, c_c1, c_c2, c_c3, z_c0, z_c1, z_c2, z_c3⟩ := cells4 (hB_c1)
  have l_c1 := hB_c1.lt
  have eA : ((A : Int) == 0) = true := by rw [HA.out]; rfl
  clear HA
  go_wp2_with fail
  go_loopw [27] (fun i wr => i = .int .i64 0 ∧ Blk wr (w.heap.size) #[.int .u64 A, .int .u64 B, .int .u64 P, .int .i64 S] 80 ∧ Blk wr (w1.heap.size) #[.int .u64 0, .int .u64 0] 82 ∧ Upd Nowhere w wr) (fun i _ => n - (intOf i).toNat)
  case atStart => exact ⟨rfl, hB_c1.alloc _, Blk.new _ _ _, hU1.alloc _⟩
  case round =>
    obtain ⟨rfl, hB_c, hB_s, hU⟩ := hrel
    clear hB_c1 hU1 c_c0 c_c1 c_c2 c_c3 z_c0 z_c1 z_c2 z_c3
    by_cases hlt : 0 < n
    · obtain ⟨y, hy⟩ : ∃ x, l[0]? = some x := ⟨l[0]'(by rw [Hn.out]; exact hlt), by simp⟩
      cases ad with
      | none => have h0 := (Ha0.out rfl).1; have h3 := nums_at hy; rw [h0] at h3; simp at h3
      | some aa =>
      obtain ⟨hsa, ea⟩ := Ha.out aa rfl 0 _ (nums_at hy)
      obtain ⟨ga, oa, sa⟩ := aa
      simp only at hsa ea
      subst hsa
      have hga := cell_lt ea
      have ea' : wr.cell? ⟨ga, oa + 0, none⟩ = some (.int .u64 y) := (hU.cell _ hga id).trans ea
      have ea2 : wr.cell? ⟨ga, oa, none⟩ = some (.int .u64 y) := ea'
      have hI : (0 : Int) < n := by omega
      clear ea hy
      obtain ⟨c_c0, c_c1, c_c2, c_c3, z_c0, z_c1, z_c2, z_c3⟩ := cells4 (hB_c)
      obtain ⟨c_s0, c_s1, z_s0, z_s1⟩ := cells2 (hB_s)
      go_wp2_with fail
      try rw [e1]
      clear e1 e2 e5
      go_loopw [57] (fun i wr => ∃ (j : Nat), j ≤ 5 ∧ i = .int .i64 j ∧ Blk wr (w.heap.size) #[.int .u64 A, .int .u64 B, .int .u64 P, .int .i64 S] 80 ∧ Blk wr (w1.heap.size) #[.int .u64 Z, .int .u64 0] 82 ∧ Upd Nowhere w wr) (fun i _ => 5 - (intOf i).toNat)
      case atStart => exact ⟨0, by omega, rfl, (hB_c).far2 (g := w1.heap.size) (by first | (simp; done) | omega | (dsimp only; omega)) (.int .u64 Z) (.int .u64 0), (hB_s).put2 (.int .u64 Z) (.int .u64 0), (hU).put2 (g := w1.heap.size) (by first | (simp; done) | omega | (dsimp only; omega)) (.int .u64 Z) (.int .u64 0)⟩
      case round =>
        clear hB_c hB_s hU c_c0 c_c1 c_c2 c_c3 z_c0 z_c1 z_c2 z_c3 c_s0 c_s1 z_s0 z_s1
        obtain ⟨j, hj, rfl, hB_c, hB_s, hU⟩ := hrel
        by_cases hlt : j < 5
        · obtain ⟨c_c0, c_c1, c_c2, c_c3, z_c0, z_c1, z_c2, z_c3⟩ := cells4 (hB_c)
          obtain ⟨c_s0, c_s1, z_s0, z_s1⟩ := cells2 (hB_s)
          go_wp2_with fail
          refine ((HZ _).out).mono ?_
          rintro e w51 ⟨rfl, u51⟩
          clear c_c0 c_c1 c_c2 c_c3 z_c0 z_c1 z_c2 z_c3
          clear c_s0 c_s1 z_s0 z_s1
          have hB_c51 : Blk w51 (w.heap.size) #[.int .u64 A, .int .u64 B, .int .u64 P, .int .i64 S] 80 := (hB_c).kept u51 id
          have hB_s51 : Blk w51 (w1.heap.size) #[.int .u64 Z, .int .u64 0] 82 := (hB_s).kept u51 id
          have hU51 : Upd Nowhere w w51 := (hU).trans u51 (fun _ _ h => h)
          obtain ⟨c_c0, c_c1, c_c2, c_c3, z_c0, z_c1, z_c2, z_c3⟩ := cells4 (hB_c51)
          obtain ⟨c_s0, c_s1, z_s0, z_s1⟩ := cells2 (hB_s51)
          have l_c51 := hB_c51.lt
          have l_s51 := hB_s51.lt
          go_wp2_with fail
          go_roundw
          case rel => exact ⟨j + 1, by omega, by go_num, ((hB_c51).far2 (g := w1.heap.size) (by first | (simp; done) | omega | (dsimp only; omega)) (.int .u64 Z) (.int .u64 0)).alloc _, ((hB_s51).put2 (.int .u64 Z) (.int .u64 0)).alloc _, ((hU51).put2 (g := w1.heap.size) (by first | (simp; done) | omega | (dsimp only; omega)) (.int .u64 Z) (.int .u64 0)).alloc _⟩
          case measure => simp [intOf]; omega
        · obtain rfl : j = 5 := by omega
          go_wp2_with fail
          refine ((HL _).out).mono ?_
          rintro e w9 ⟨rfl, u9⟩
          go_wp2_with fail
          go_ret
          exact ⟨rfl, hU.trans u9 (fun _ _ h => h)⟩
    · have hI : ¬ (0 : Int) < n := by omega
      obtain ⟨c_c0, c_c1, c_c2, c_c3, z_c0, z_c1, z_c2, z_c3⟩ := cells4 (hB_c)
      obtain ⟨c_s0, c_s1, z_s0, z_s1⟩ := cells2 (hB_s)
      go_wp2_with fail
      try rw [e1]
      clear e1 e2 e5
      go_loopw [57] (fun i wr => ∃ (j : Nat), j ≤ 5 ∧ i = .int .i64 j ∧ Blk wr (w.heap.size) #[.int .u64 A, .int .u64 B, .int .u64 P, .int .i64 S] 80 ∧ Blk wr (w1.heap.size) #[.int .u64 Z, .int .u64 0] 82 ∧ Upd Nowhere w wr) (fun i _ => 5 - (intOf i).toNat)
      case atStart => exact ⟨0, by omega, rfl, (hB_c).far2 (g := w1.heap.size) (by first | (simp; done) | omega | (dsimp only; omega)) (.int .u64 Z) (.int .u64 0), (hB_s).put2 (.int .u64 Z) (.int .u64 0), (hU).put2 (g := w1.heap.size) (by first | (simp; done) | omega | (dsimp only; omega)) (.int .u64 Z) (.int .u64 0)⟩
      case round =>
        clear hB_c hB_s hU c_c0 c_c1 c_c2 c_c3 z_c0 z_c1 z_c2 z_c3 c_s0 c_s1 z_s0 z_s1
        obtain ⟨j, hj, rfl, hB_c, hB_s, hU⟩ := hrel
        by_cases hlt : j < 5
        · obtain ⟨c_c0, c_c1, c_c2, c_c3, z_c0, z_c1, z_c2, z_c3⟩ := cells4 (hB_c)
          obtain ⟨c_s0, c_s1, z_s0, z_s1⟩ := cells2 (hB_s)
          go_wp2_with fail
          refine ((HZ _).out).mono ?_
          rintro e w51 ⟨rfl, u51⟩
          clear c_c0 c_c1 c_c2 c_c3 z_c0 z_c1 z_c2 z_c3
          clear c_s0 c_s1 z_s0 z_s1
          have hB_c51 : Blk w51 (w.heap.size) #[.int .u64 A, .int .u64 B, .int .u64 P, .int .i64 S] 80 := (hB_c).kept u51 id
          have hB_s51 : Blk w51 (w1.heap.size) #[.int .u64 Z, .int .u64 0] 82 := (hB_s).kept u51 id
          have hU51 : Upd Nowhere w w51 := (hU).trans u51 (fun _ _ h => h)
          obtain ⟨c_c0, c_c1, c_c2, c_c3, z_c0, z_c1, z_c2, z_c3⟩ := cells4 (hB_c51)
          obtain ⟨c_s0, c_s1, z_s0, z_s1⟩ := cells2 (hB_s51)
          have l_c51 := hB_c51.lt
          have l_s51 := hB_s51.lt
          go_wp2_with fail
          go_roundw
          case rel => exact ⟨j + 1, by omega, by go_num, ((hB_c51).far2 (g := w1.heap.size) (by first | (simp; done) | omega | (dsimp only; omega)) (.int .u64 Z) (.int .u64 0)).alloc _, ((hB_s51).put2 (.int .u64 Z) (.int .u64 0)).alloc _, ((hU51).put2 (g := w1.heap.size) (by first | (simp; done) | omega | (dsimp only; omega)) (.int .u64 Z) (.int .u64 0)).alloc _⟩
          case measure => simp [intOf]; omega
        · obtain rfl : j = 5 := by omega
          go_wp2_with fail
          refine ((HL _).out).mono ?_
          rintro e w9 ⟨rfl, u9⟩
          go_wp2_with fail
          go_ret
          exact ⟨rfl, hU.trans u9 (fun _ _ h => h)⟩
theorem edges_pos (A B P hi S : Nat) (ad : Option Addr) (ca : Nat) (l : List Nat) (h : ok A B P (S : Int)) (hA : 0 < A) (hl : l.length ≤ 300) (hb : ∀ (i x : Nat), l[i]? = some x → x ≤ 18446744073709551615) (w : World) (ha0 : ad = none → nums l = [] ∧ ca = 0) (ha1 : ∀ b, ad = some b → ∀ j u, (nums l)[j]? = some u → b.spot = none ∧ w.cell? ⟨b.block, b.off + j, none⟩ = some u) :
    Calls Try.prog 11 #[.agg #[.int .u64 A, .int .u64 B, .int .u64 P, .int .i64 S], .slice ad (nums l).length ca, .int .u64 hi] w fun e w' => e = .returned (.bool true) ∧ Upd Nowhere w w' := by
  have HL := fun u => Lib.hid (lives u)
  have H1 := fun u => Lib.hid (may_ok A B P S h u)
  obtain ⟨k1, k2, k3, k4, k5, k6⟩ := id h
  obtain ⟨x, hx⟩ : ∃ x, B + hi % 1099511627776 = x := ⟨_, rfl⟩
  have hx1 : B ≤ x := by omega
  have hx2 : x ≤ 4398046511104 := by omega
  have e1 : (hi : Int) % 1099511627776 = ((hi % 1099511627776 : Nat) : Int) := rfl
  have e2 : IntKind.u64.wrap ((B : Int) + ((hi % 1099511627776 : Nat) : Int)) = (x : Int) := by rw [Bits.addN, hx]; exact Bits.wrapN _ (by omega)
  generalize hi % 1099511627776 = hm at *
  obtain ⟨f1, f2, f3, f4⟩ := fol_stays (x := x) (S := S) hx2 (by omega)
  have hS : slo (S : Int) = S := by unfold Root.slo; omega
  have hrs := rs_high (c := 0) h hS f1 f2 hx1
  obtain ⟨Z, hZ⟩ : ∃ Z, x * 2 ^ S = Z := ⟨_, rfl⟩
  rw [hZ] at hrs
  have HZ := fun u => Lib.hid (by have := step_any A B P Z 0 x S (by omega) (by omega) (by omega) u; rw [hrs] at this; exact this)
  have c1 : ((x * 2 ^ S : Nat) : Int) = (x : Int) * 2 ^ S := by push_cast; rfl
  have e5 : IntKind.u64.wrap ((x : Int) * 2 ^ S) = (Z : Int) := by rw [← c1, hZ]; exact Bits.wrapN _ (by omega)
  have hS16 : S ≤ 16 := by omega
  obtain ⟨n, hn⟩ : ∃ n, l.length = n := ⟨_, rfl⟩
  rw [nums_len]
  rw [hn] at hl ⊢
  have t0 : decide ((n : Int) > 300) = false := decide_eq_false (by omega)
  have t1 : decide (300 < (n : Int)) = false := decide_eq_false (by omega)
  have Hn := Lib.hid hn
  have Hb := Lib.hid hb
  have Ha0 := Lib.hid ha0
  have Ha := Lib.hid ha1
  have HOK := Lib.hid h
  clear hn hb ha0 ha1 h hrs c1 f1 f2 f3 f4 hZ hx hx1 hx2 k3 k4 k5
  go_enter Try.func11, Try.ntmps11
  go_wp2_with fail
  refine ((H1 _).out).mono ?_
  rintro e w1 ⟨rfl, u1⟩
  have hB_c1 : Blk w1 (w.heap.size) #[.int .u64 A, .int .u64 B, .int .u64 P, .int .i64 S] 80 := (Blk.new _ _ _).kept u1 id
  have hU1 : Upd Nowhere w w1 := ((Upd.refl _ _).alloc _).trans u1 (fun _ _ h => h)
  obtain ⟨c_c0, c_c1, c_c2, c_c3, z_c0, z_c1, z_c2, z_c3⟩ := cells4 (hB_c1)
  have l_c1 := hB_c1.lt
  have eA : ((A : Int) == 0) = false := by simp; omega
  have eA' : (1 : Int) ≤ (A : Int) := by omega
  have eA2 : ¬ (A = 0) := by omega
  go_wp2_with fail
  go_loopw [27] (fun i wr => ∃ (k m c : Nat), k ≤ n ∧ i = .int .i64 k ∧ m < A * 2 ^ S ∧ c ≤ 0 ∧ Blk wr (w.heap.size) #[.int .u64 A, .int .u64 B, .int .u64 P, .int .i64 S] 80 ∧ Blk wr (w1.heap.size) #[.int .u64 m, .int .u64 c] 82 ∧ Upd Nowhere w wr) (fun i _ => n - (intOf i).toNat)
  case atStart => exact ⟨0, 0, 0, by omega, rfl, Nat.mul_pos hA (Nat.two_pow_pos S), by omega, hB_c1.alloc _, Blk.new _ _ _, hU1.alloc _⟩
  case round =>
    obtain ⟨k, m, c, hk, rfl, hm, hc, hB_c, hB_s, hU⟩ := hrel
    clear hB_c1 hU1 c_c0 c_c1 c_c2 c_c3 z_c0 z_c1 z_c2 z_c3
    by_cases hlt : k < n
    · obtain ⟨y, hy⟩ : ∃ x, l[k]? = some x := ⟨l[k]'(by rw [Hn.out]; exact hlt), by simp⟩
      cases ad with
      | none => have h0 := (Ha0.out rfl).1; have h3 := nums_at hy; rw [h0] at h3; simp at h3
      | some aa =>
      obtain ⟨hsa, ea⟩ := Ha.out aa rfl k _ (nums_at hy)
      obtain ⟨ga, oa, sa⟩ := aa
      simp only at hsa ea
      subst hsa
      have hga := cell_lt ea
      have ea' : wr.cell? ⟨ga, oa + k, none⟩ = some (.int .u64 y) := (hU.cell _ hga id).trans ea
      have hI : (k : Int) < n := by omega
      have hyA := Nat.mod_lt y hA
      obtain ⟨g1, g2⟩ := edge_low (by omega) hS16 hm hyA
      have hr := rs_low (c := c) HOK.out hS g2
      have hmb : m ≤ 18446744073709551615 := by have := Nat.mul_le_mul (show A ≤ 1099511627776 by omega) (show 2 ^ S ≤ 65536 from Nat.pow_le_pow_right (by omega) hS16 (n := 2)); omega
      have h1 := fun u => step_any A B P m c (y % A) S hmb (by omega) (by omega) u
      rw [hr] at h1
      have H9 := fun u => Lib.hid (h1 u)
      have G1 := Lib.hid g1
      obtain ⟨f, hf⟩ : ∃ f, fol m (y % A) S = f := ⟨_, rfl⟩
      rw [hf] at H9 G1
      have e9 : (y : Int) % (A : Int) = ((y % A : Nat) : Int) := rfl
      have e10 : (y : Int).tmod (A : Int) = ((y % A : Nat) : Int) := rfl
      generalize y % A = ym at *
      clear h1 hr g1 g2 hf hmb hm hyA hy ea e1 e2 e5 HZ
      obtain ⟨c_c0, c_c1, c_c2, c_c3, z_c0, z_c1, z_c2, z_c3⟩ := cells4 (hB_c)
      obtain ⟨c_s0, c_s1, z_s0, z_s1⟩ := cells2 (hB_s)
      go_wp2_with fail
      have lc := hB_c.lt
      have ls := hB_s.lt
      have hS0 := (Upd.refl Nowhere wr).drew
      go_region_held3 (fun w' => Upd Nowhere wr w' ∧ w'.cell? ⟨w.heap.size, 0, none⟩ = some (.int .u64 A) ∧ w'.cell? ⟨w.heap.size, 1, none⟩ = some (.int .u64 B) ∧ w'.cell? ⟨w.heap.size, 2, none⟩ = some (.int .u64 P) ∧ w'.cell? ⟨w.heap.size, 3, none⟩ = some (.int .i64 S) ∧ w'.cell? ⟨w1.heap.size, 0, none⟩ = some (.int .u64 m) ∧ w'.cell? ⟨w1.heap.size, 1, none⟩ = some (.int .u64 c)) (first | exact ⟨hS0, c_c0, c_c1, c_c2, c_c3, c_s0, c_s1⟩ | assumption | exact keep6 ((Upd.refl _ _).alloc _) (by assumption) | exact keep6 (((Upd.refl _ _).drew).alloc _) (by assumption) | exact keepS6 (keepS6 (by assumption) (by first | exact Nat.le_refl _ | (dsimp only; omega)) lc lc lc lc ls ls) (by first | exact Nat.le_refl _ | (dsimp only; omega)) lc lc lc lc ls ls) (first | (go_at_call 36; refine (keepM6 (H9 _).out (by assumption)).mono ?_; rintro e w11 ⟨rfl, u11, hS11⟩; have sz11 := u11.size; first | (obtain ⟨q0, q1, q2, q3⟩ := cells2 (a0 := .int .u64 0) (a1 := .int .u64 0) (t := 82) (Blk.kept ((Blk.new wr _ _).drew) u11 id)) | skip))
      all_goals
        rename_i hSF
        obtain ⟨hUF, -⟩ := hSF
        have hBcF := hB_c.kept hUF id
        have hBsF := hB_s.kept hUF id
        have hUF2 := hU.trans hUF (fun _ _ h => h)
        clear c_c0 c_c1 c_c2 c_c3 z_c0 z_c1 z_c2 z_c3 c_s0 c_s1 z_s0 z_s1
        obtain ⟨c_s0, c_s1, z_s0, z_s1⟩ := cells2 hBsF
        go_wp2_with fail
        go_roundw
        case rel =>
          refine ⟨k + 1, f, 0, by omega, by go_num, G1.out, by omega, ?_, ?_, ?_⟩
          · exact (by repeat (first | with_reducible exact hBcF | with_reducible refine Blk.drew ?_ | with_reducible apply Blk.put2 | with_reducible refine Blk.far2 ?_ (by first | (simp; done) | omega) _ _))
          · rw [show ((0 : Nat) : Int) = 0 from rfl]; exact (by repeat (first | with_reducible exact hBsF | with_reducible refine Blk.drew ?_ | with_reducible apply Blk.put2 | with_reducible refine Blk.far2 ?_ (by first | (simp; done) | omega) _ _))
          · exact (by repeat (first | with_reducible exact hUF2 | with_reducible refine Upd.drew ?_ | with_reducible refine Upd.setNew ?_ (by first | (simp; done) | (dsimp only; omega) | (have := hU1.size; have := u1.size; dsimp only; simp at *; omega)) _))
        case measure => simp [intOf]; omega
    · obtain rfl : k = n := by omega
      clear hm hc
      obtain ⟨c_c0, c_c1, c_c2, c_c3, z_c0, z_c1, z_c2, z_c3⟩ := cells4 (hB_c)
      obtain ⟨c_s0, c_s1, z_s0, z_s1⟩ := cells2 (hB_s)
      go_wp2_with fail
      try rw [e1]
      clear e1 e2 e5
      go_loopw [57] (fun i wr => ∃ (j : Nat), j ≤ 5 ∧ i = .int .i64 j ∧ Blk wr (w.heap.size) #[.int .u64 A, .int .u64 B, .int .u64 P, .int .i64 S] 80 ∧ Blk wr (w1.heap.size) #[.int .u64 Z, .int .u64 0] 82 ∧ Upd Nowhere w wr) (fun i _ => 5 - (intOf i).toNat)
      case atStart => exact ⟨0, by omega, rfl, (hB_c).far2 (g := w1.heap.size) (by first | (simp; done) | omega | (dsimp only; omega)) (.int .u64 Z) (.int .u64 0), (hB_s).put2 (.int .u64 Z) (.int .u64 0), (hU).put2 (g := w1.heap.size) (by first | (simp; done) | omega | (dsimp only; omega)) (.int .u64 Z) (.int .u64 0)⟩
      case round =>
        clear hB_c hB_s hU c_c0 c_c1 c_c2 c_c3 z_c0 z_c1 z_c2 z_c3 c_s0 c_s1 z_s0 z_s1
        obtain ⟨j, hj, rfl, hB_c, hB_s, hU⟩ := hrel
        by_cases hlt : j < 5
        · obtain ⟨c_c0, c_c1, c_c2, c_c3, z_c0, z_c1, z_c2, z_c3⟩ := cells4 (hB_c)
          obtain ⟨c_s0, c_s1, z_s0, z_s1⟩ := cells2 (hB_s)
          go_wp2_with fail
          refine ((HZ _).out).mono ?_
          rintro e w51 ⟨rfl, u51⟩
          clear c_c0 c_c1 c_c2 c_c3 z_c0 z_c1 z_c2 z_c3
          clear c_s0 c_s1 z_s0 z_s1
          have hB_c51 : Blk w51 (w.heap.size) #[.int .u64 A, .int .u64 B, .int .u64 P, .int .i64 S] 80 := (hB_c).kept u51 id
          have hB_s51 : Blk w51 (w1.heap.size) #[.int .u64 Z, .int .u64 0] 82 := (hB_s).kept u51 id
          have hU51 : Upd Nowhere w w51 := (hU).trans u51 (fun _ _ h => h)
          obtain ⟨c_c0, c_c1, c_c2, c_c3, z_c0, z_c1, z_c2, z_c3⟩ := cells4 (hB_c51)
          obtain ⟨c_s0, c_s1, z_s0, z_s1⟩ := cells2 (hB_s51)
          have l_c51 := hB_c51.lt
          have l_s51 := hB_s51.lt
          go_wp2_with fail
          go_roundw
          case rel => exact ⟨j + 1, by omega, by go_num, ((hB_c51).far2 (g := w1.heap.size) (by first | (simp; done) | omega | (dsimp only; omega)) (.int .u64 Z) (.int .u64 0)).alloc _, ((hB_s51).put2 (.int .u64 Z) (.int .u64 0)).alloc _, ((hU51).put2 (g := w1.heap.size) (by first | (simp; done) | omega | (dsimp only; omega)) (.int .u64 Z) (.int .u64 0)).alloc _⟩
          case measure => simp [intOf]; omega
        · obtain rfl : j = 5 := by omega
          go_wp2_with fail
          refine ((HL _).out).mono ?_
          rintro e w9 ⟨rfl, u9⟩
          go_wp2_with fail
          go_ret
          exact ⟨rfl, hU.trans u9 (fun _ _ h => h)⟩
end Go.Proofs.Ytgmiggnlhcldlaa.Red
