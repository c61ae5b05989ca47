/- The reference's product of two numbers. -/
import Derived.Test.YtllfloapiliheaaDoorWide
namespace Go.Proofs.YtllfloapiliheaaDoor.Wide
open Go.RowKit Go.Proofs BigFrame

/-- What stands in memory in the loops of Times: the result's block R, the factors at B and B + 1, the digits so far at B + 2. -/
structure Mem (w wr : World) (R B : Nat) (x y o : Nat → Nat) : Prop where
  bx : Blk wr B (row4 x) TW
  by_ : Blk wr (B + 1) (row4 y) TW
  bo : Blk wr (B + 1 + 1) (row4 o) TW
  br : Blk wr R (row4 fun _ => 0) TW
  low : w.heap.size ≤ R
  lt : R < B
  upd : Upd Nowhere w wr

theorem Mem.put {w wr : World} {R B : Nat} {x y o : Nat → Nat} (h : Mem w wr R B x y o) {p : Nat} (hp : p < 4) (v : Nat) : Mem w (wr.setCell ⟨B + 1 + 1, p, none⟩ (.int .u64 v)) R B x y (Wide.put o p v) := by
  have hl := h.low
  have ht := h.lt
  exact ⟨h.bx.setOther (a := ⟨B + 1 + 1, p, none⟩) (by simp; omega) _, h.by_.setOther (a := ⟨B + 1 + 1, p, none⟩) (by simp) _, by rw [← row4_set o hp v]; exact h.bo.set p _,
   h.br.setOther (a := ⟨B + 1 + 1, p, none⟩) (by simp; omega) _, h.low, h.lt, h.upd.setNew (a := ⟨B + 1 + 1, p, none⟩) (by simp; omega) _⟩
theorem Mem.drewN {w wr : World} {R B : Nat} {x y o : Nat → Nat} (h : Mem w wr R B x y o) (n : Nat) : Mem w (wr.drewN n) R B x y o := ⟨h.bx, h.by_, h.bo, h.br, h.low, h.lt, h.upd.drewN n⟩

theorem Mem.start {w w1 : World} {x y : Nat → Nat} (h : Upd Nowhere (w.alloc (.cells (row4 fun _ => 0) TW)) w1) :
    Mem w (((w1.alloc (.cells (row4 x) TW)).alloc (.cells (row4 y) TW)).alloc (.cells (row4 fun _ => 0) TW)) w.heap.size w1.heap.size x y (fun _ => 0) := by
  have hs : w.heap.size < w1.heap.size := by have := h.size; simp at this; omega
  exact ⟨((Blk.new _ _ _).alloc _).alloc _, (by simpa using Blk.new (w1.alloc (.cells (row4 x) TW)) (row4 y) TW : Blk _ (w1.heap.size + 1) _ _).alloc _, by simpa using Blk.new ((w1.alloc (.cells (row4 x) TW)).alloc (.cells (row4 y) TW)) (row4 fun _ => 0) TW,
    ((((Blk.new w _ _).kept h id).alloc _).alloc _).alloc _, Nat.le_refl _, hs, ((((Upd.refl Nowhere w).alloc _).trans h (fun _ _ h => h)).alloc _ |>.alloc _).alloc _⟩

set_option maxHeartbeats 1000000
theorem times_walk (a b : Nat) (ha : a ≤ 18446744073709551615) (hb : b ≤ 18446744073709551615) (w : World) :
    Calls Tryd.prog 63 #[.int .u64 a, .int .u64 b] w fun e w' => Gives w (four (rowO (dg a) (dg b) 2)) e w' := by
  have hX : Hid (∀ i, i < 4 → dg a i < 4294967296) := fun i _ => Nat.mod_lt _ (by omega)
  have hY : Hid (∀ i, i < 4 → dg b i < 4294967296) := fun i _ => Nat.mod_lt _ (by omega)
  have hAll : Hid (∀ w2, Upd Nowhere (w.alloc (.cells (row4 fun _ => 0) TW)) w2 → Mem w (((w2.alloc (.cells (row4 (dg a)) TW)).alloc (.cells (row4 (dg b)) TW)).alloc (.cells (row4 fun _ => 0) TW)) w.heap.size w2.heap.size (dg a) (dg b) (fun _ => 0)) := fun w2 h => Mem.start h
  generalize hx : dg a = x at *
  generalize hy : dg b = y at *
  have Hx := Lib.hid hx
  have Hy := Lib.hid hy
  clear hx hy
  go_enter Tryd.func63, Tryd.ntmps63
  go_wp2_with fail
  refine (of_any a ha _).mono ?_
  rw [Hx.out]
  unfold four
  rintro e w1 ⟨rfl, hu1⟩
  have U1 := Lib.hid hu1
  clear hu1
  go_wp2_with fail
  refine (of_any b hb _).mono ?_
  rw [Hy.out]
  unfold four
  rintro e w2 ⟨rfl, hu2⟩
  have hM := hAll.out w2 (U1.out.trans hu2 (fun _ _ h => h))
  have hs2 : w.heap.size < w2.heap.size := hM.lt
  have HM := Lib.hid hM
  clear hu2 hM hAll ha hb
  go_wp2_with fail
  go_loopw [8] (fun iv wr => ∃ i : Nat, i ≤ 2 ∧ iv = .int .i64 i ∧ Mem w wr w.heap.size w2.heap.size x y (rowO x y i)) (fun iv _ => 2 - (intOf iv).toNat)
  case atStart => exact ⟨0, by omega, rfl, HM.out⟩
  case round =>
    clear HM
    obtain ⟨i, hi, rfl, hM⟩ := hrel
    have HM := Lib.hid hM
    clear hM
    by_cases hi2 : i < 2
    · have hlt0 := Lib.hid (rowO_lt x y hX.out hY.out i (by omega))
      go_wp2
      go_loopw [9, 10] (fun c jv wr => ∃ j : Nat, j ≤ 2 ∧ jv = .int .i64 j ∧ c = .int .u64 (rowI x y i (rowO x y i) j).2 ∧ Mem w wr w.heap.size w2.heap.size x y (rowI x y i (rowO x y i) j).1) (fun _ jv _ => 2 - (intOf jv).toNat)
      case atStart => exact ⟨0, by omega, rfl, rfl, HM.out⟩
      case round =>
        clear HM
        obtain ⟨j, hj, rfl, rfl, hM⟩ := hrel
        have HM := Lib.hid hM
        clear hM
        obtain ⟨l1, l2, l3⟩ := rowI_lt x y hX.out hY.out hi2 (rowO x y i) hlt0.out.1 hlt0.out.2 j hj
        by_cases hj2 : j < 2
        · have hij : (i + j) < 4 := by omega
          have e1 : wr.cell? ⟨w2.heap.size, i, none⟩ = some (.int .u64 (x i)) := HM.out.bx.cellAt (row4_at x (by omega))
          have e2 : wr.cell? ⟨w2.heap.size + 1, j, none⟩ = some (.int .u64 (y j)) := HM.out.by_.cellAt (row4_at y (by omega))
          have e3 := HM.out.bo.cellAt (row4_at (rowI x y i (rowO x y i) j).1 hij)
          have z3 := HM.out.bo.free (i + j)
          have hm := mul_small (hX.out i (by omega)) (hY.out j (by omega))
          have l2' := l2 (i + j) (by omega)
          clear l1 l2
          have hn1 : Hid ((rowI x y i (rowO x y i) (j + 1)).2 = (x i * y j + (rowI x y i (rowO x y i) j).1 (i + j) + (rowI x y i (rowO x y i) j).2) / 4294967296) := rfl
          have hn2 : Hid ((rowI x y i (rowO x y i) (j + 1)).1 = put (rowI x y i (rowO x y i) j).1 (i + j) ((x i * y j + (rowI x y i (rowO x y i) j).1 (i + j) + (rowI x y i (rowO x y i) j).2) % 4294967296)) := rfl
          have hput := Lib.hid (fun q => (HM.out.drewN q).put hij ((x i * y j + (rowI x y i (rowO x y i) j).1 (i + j) + (rowI x y i (rowO x y i) j).2) % 4294967296))
          clear HM
          generalize (rowI x y i (rowO x y i) j).2 = c at *
          generalize (rowI x y i (rowO x y i) j).1 (i + j) = d at *
          have hmul : (x i : Int) * (y j : Int) = ((x i * y j : Nat) : Int) := (Int.natCast_mul _ _).symm
          generalize x i * y j = p at *
          generalize x i = xi at *
          generalize y j = yj at *
          have hI : (i : Int) + j < 4 := by omega
          have hI1 : (i : Int) < 4 := by omega
          have hI2 : (j : Int) < 4 := by omega
          go_wp2
          go_quiet (fail)
          go_wp2
          go_roundw
          case rel => exact ⟨j + 1, by omega, by go_num, by rw [hn1.out]; rfl, by rw [hn2.out]; exact hput.out nq⟩
          case measure => simp [intOf]; omega
        · obtain rfl : j = 2 := by omega
          have hij : (i + 2) < 4 := by omega
          have e3 := HM.out.bo.cellAt (row4_at (rowI x y i (rowO x y i) 2).1 hij)
          have z3 := HM.out.bo.free (i + 2)
          have l1' := l1 (i + 2)
          clear l1 l2
          have hn2 : Hid (rowO x y (i + 1) = put (rowI x y i (rowO x y i) 2).1 (i + 2) ((rowI x y i (rowO x y i) 2).1 (i + 2) + (rowI x y i (rowO x y i) 2).2)) := rfl
          have hput := Lib.hid (HM.out.put hij ((rowI x y i (rowO x y i) 2).1 (i + 2) + (rowI x y i (rowO x y i) 2).2))
          clear HM
          generalize (rowI x y i (rowO x y i) 2).2 = c at *
          generalize (rowI x y i (rowO x y i) 2).1 (i + 2) = d at *
          have hI : (i : Int) + 2 < 4 := by omega
          go_wp2
          go_roundw
          case rel => exact ⟨i + 1, by omega, by go_num, by rw [hn2.out]; exact hput.out⟩
          case measure => simp [intOf]; omega
    · obtain rfl : i = 2 := by omega
      have hD := HM.out.bo
      have hC := HM.out.br
      have hu := HM.out.upd
      have hlt : w.heap.size < w2.heap.size := HM.out.lt
      generalize hf : rowO x y 2 = f at *
      have Hf := Lib.hid hf
      clear hf
      have c0 := hD.cellAt (row4_at f (by omega : 0 < 4))
      have c1 := hD.cellAt (row4_at f (by omega : 1 < 4))
      have c2 := hD.cellAt (row4_at f (by omega : 2 < 4))
      have c3 := hD.cellAt (row4_at f (by omega : 3 < 4))
      have r0 : wr.cell? ⟨w.heap.size, 0, none⟩ = some (.int .u64 0) := hC.cellAt rfl
      have r1 : wr.cell? ⟨w.heap.size, 1, none⟩ = some (.int .u64 0) := hC.cellAt rfl
      have r2 : wr.cell? ⟨w.heap.size, 2, none⟩ = some (.int .u64 0) := hC.cellAt rfl
      have r3 : wr.cell? ⟨w.heap.size, 3, none⟩ = some (.int .u64 0) := hC.cellAt rfl
      have z0 := hC.free 0
      have z1 := hC.free 1
      have z2 := hC.free 2
      have z3 := hC.free 3
      have hne : w2.heap.size + 1 + 1 ≠ w.heap.size := by omega
      clear hD hC HM
      go_wp2
      exact bodyPost_ret (v := .agg #[.int .u64 (f 0), .int .u64 (f 1), .int .u64 (f 2), .int .u64 (f 3)]) (by simp [results, Tryd.results63, go_sem, r0, r1, r2, r3]) rfl
        ⟨by rw [Hf.out]; rfl, ((((hu.setNew (a := ⟨w.heap.size, 0, none⟩) (by simp) _).setNew (a := ⟨w.heap.size, 1, none⟩) (by simp) _).setNew (a := ⟨w.heap.size, 2, none⟩) (by simp) _).setNew (a := ⟨w.heap.size, 3, none⟩) (by simp) _)⟩

theorem dg_of (n d0 d1 d2 d3 : Nat) (h0 : d0 < 4294967296) (h1 : d1 < 4294967296) (h2 : d2 < 4294967296) (h3 : d3 < 4294967296)
    (hn : n = d0 + d1 * 4294967296 + d2 * 18446744073709551616 + d3 * 79228162514264337593543950336) : dg n 0 = d0 ∧ dg n 1 = d1 ∧ dg n 2 = d2 ∧ dg n 3 = d3 := by
  subst hn
  refine ⟨?_, ?_, ?_, ?_⟩ <;> simp only [dg, Nat.reducePow, Nat.pow_zero, Nat.pow_one, Nat.div_one] <;> omega

theorem rowO_digits (x0 x1 y0 y1 : Nat) (hx0 : x0 < 4294967296) (hx1 : x1 < 4294967296) (hy0 : y0 < 4294967296) (hy1 : y1 < 4294967296) (x y : Nat → Nat) (e0 : x 0 = x0) (e1 : x 1 = x1) (f0 : y 0 = y0) (f1 : y 1 = y1) :
    rowO x y 2 0 < 4294967296 ∧ rowO x y 2 1 < 4294967296 ∧ rowO x y 2 2 < 4294967296 ∧ rowO x y 2 3 < 4294967296 ∧
    (x0 + x1 * 4294967296) * (y0 + y1 * 4294967296) = rowO x y 2 0 + rowO x y 2 1 * 4294967296 + rowO x y 2 2 * 18446744073709551616 + rowO x y 2 3 * 79228162514264337593543950336 := by
  have m00 := mul_small hx0 hy0
  have m01 := mul_small hx0 hy1
  have m10 := mul_small hx1 hy0
  have m11 := mul_small hx1 hy1
  have ex : (x0 + x1 * 4294967296) * (y0 + y1 * 4294967296) = x0 * y0 + (x0 * y1 + x1 * y0) * 4294967296 + x1 * y1 * 18446744073709551616 := by
    rw [Nat.add_mul, Nat.mul_add, Nat.mul_add, Nat.add_mul]
    rw [show x1 * 4294967296 * y0 = x1 * y0 * 4294967296 by rw [Nat.mul_right_comm], show x1 * 4294967296 * (y1 * 4294967296) = x1 * y1 * 18446744073709551616 by
      rw [Nat.mul_mul_mul_comm], show x0 * (y1 * 4294967296) = x0 * y1 * 4294967296 by rw [Nat.mul_assoc]]
    omega
  rw [ex]
  simp only [rowO, rowI, put, e0, e1, f0, f1, Nat.reduceAdd, Nat.reduceEqDiff, if_true, if_false, Nat.zero_add, Nat.add_zero]
  generalize x0 * y0 = p00 at *
  generalize x0 * y1 = p01 at *
  generalize x1 * y0 = p10 at *
  generalize x1 * y1 = p11 at *
  simp
  omega

theorem two_digits (a : Nat) (ha : a ≤ 18446744073709551615) : a = dg a 0 + dg a 1 * 4294967296 := by
  simp only [dg, Nat.pow_zero, Nat.pow_one, Nat.div_one]; omega

theorem times_any (a b : Nat) (ha : a ≤ 18446744073709551615) (hb : b ≤ 18446744073709551615) (w : World) :
    Calls Tryd.prog 63 #[.int .u64 a, .int .u64 b] w fun e w' => Gives w (four (dg (a * b))) e w' := by
  have e : four (rowO (dg a) (dg b) 2) = four (dg (a * b)) := by
    have h := rowO_digits (dg a 0) (dg a 1) (dg b 0) (dg b 1) (Nat.mod_lt _ (by omega)) (Nat.mod_lt _ (by omega)) (Nat.mod_lt _ (by omega)) (Nat.mod_lt _ (by omega)) (dg a) (dg b) rfl rfl rfl rfl
    rw [← two_digits a ha, ← two_digits b hb] at h
    obtain ⟨g0, g1, g2, g3, g4⟩ := h
    obtain ⟨k0, k1, k2, k3⟩ := dg_of _ _ _ _ _ g0 g1 g2 g3 g4
    unfold four
    rw [k0, k1, k2, k3]
  rw [← e]
  exact times_walk a b ha hb w
end Go.Proofs.YtllfloapiliheaaDoor.Wide
