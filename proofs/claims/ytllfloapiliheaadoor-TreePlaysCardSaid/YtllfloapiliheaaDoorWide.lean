/- The reference's wide numbers: digits of 32 bits. -/
import Derived.Test.YtllfloapiliheaaDoorBits
import Derived.Test.YtllfloapiliheaaDoorLaws
namespace Go.Proofs.YtllfloapiliheaaDoor.Wide
open Go.RowKit Go.Proofs BigFrame

/-- Four digits, as a value. -/
def four (a : Nat → Nat) : Value := .agg #[.int .u64 (a 0), .int .u64 (a 1), .int .u64 (a 2), .int .u64 (a 3)]
/-- A number's digits to the base 2^32. -/
def dg (n : Nat) (i : Nat) : Nat := n / 4294967296 ^ i % 4294967296
theorem four_congr {a b : Nat → Nat} (h : ∀ i, i < 4 → a i = b i) : four a = four b := by
  unfold four; rw [h 0 (by omega), h 1 (by omega), h 2 (by omega), h 3 (by omega)]
theorem four_at (a : Nat → Nat) {k : Nat} (hk : k < 4) : #[Value.int .u64 (a 0), .int .u64 (a 1), .int .u64 (a 2), .int .u64 (a 3)][k]? = some (.int .u64 (a k)) := by
  match k, hk with
  | 0, _ => rfl
  | 1, _ => rfl
  | 2, _ => rfl
  | 3, _ => rfl
/-- A call that hands back a value and makes memory alone. -/
def Gives (w : World) (v : Value) (e : Ending) (w' : World) : Prop := e = .returned v ∧ Upd Nowhere w w'

set_option maxHeartbeats 1000000
theorem of_any (x : Nat) (hx : x ≤ 18446744073709551615) (w : World) :
    Calls Tryd.prog 37 #[.int .u64 x] w fun e w' => Gives w (four (dg x)) e w' := by
  have e : four (dg x) = .agg #[.int .u64 (x % 4294967296 : Nat), .int .u64 (x / 4294967296 : Nat), .int .u64 0, .int .u64 0] := by
    have h0 : dg x 0 = x % 4294967296 := by simp [dg]
    have h1 : dg x 1 = x / 4294967296 := by simp [dg]; omega
    have h2 : dg x 2 = 0 := by simp [dg]; omega
    have h3 : dg x 3 = 0 := by simp [dg]; omega
    unfold four; rw [h0, h1, h2, h3]; rfl
  rw [e]
  clear e
  go_enter Tryd.func37, Tryd.ntmps37
  go_wp2
  exact bodyPost_ret (v := .agg #[.int .u64 (x % 4294967296 : Nat), .int .u64 (x / 4294967296 : Nat), .int .u64 0, .int .u64 0]) (by simp [results, Tryd.results37, go_sem]) rfl ⟨rfl, (Upd.refl _ _).alloc _⟩

/-- Less, digit by digit from the top. -/
def lowB (a b : Nat → Nat) : Nat → Bool
  | 0 => false
  | k + 1 => if a k = b k then lowB a b k else decide (a k < b k)

/-- The carry into a digit of a sum. -/
def carry (a b : Nat → Nat) : Nat → Nat
  | 0 => 0
  | k + 1 => (a k + b k + carry a b k) / 4294967296
def plusD (a b : Nat → Nat) (i : Nat) : Nat := (a i + b i + carry a b i) % 4294967296

theorem cap_any (a : Nat → Nat) (ha : ∀ i, i < 4 → a i < 4294967296) (w : World) :
    Calls Tryd.prog 35 #[four a] w fun e w' => Gives w (.int .u64 (if a 2 = 0 ∧ a 3 = 0 then a 1 * 4294967296 + a 0 else 18446744073709551615 : Nat)) e w' := by
  have h0 := ha 0 (by omega)
  have h1 := ha 1 (by omega)
  clear ha
  unfold four
  generalize a 0 = x0 at *
  generalize a 1 = x1 at *
  generalize a 2 = x2 at *
  generalize a 3 = x3 at *
  by_cases c2 : x2 = 0
  · subst c2
    by_cases c3 : x3 = 0
    · subst c3
      rw [if_pos ⟨rfl, rfl⟩]
      go_enter Tryd.func35, Tryd.ntmps35
      go_wp2
      go_ret
      exact ⟨ret_int (by simp), (Upd.refl _ _).alloc _⟩
    · have d3 : ((x3 : Int) != 0) = true := by simp; omega
      rw [if_neg (by omega)]
      clear c3
      go_enter Tryd.func35, Tryd.ntmps35
      go_wp2
      go_ret
      exact ⟨rfl, (Upd.refl _ _).alloc _⟩
  · have d2 : ((x2 : Int) != 0) = true := by simp; omega
    rw [if_neg (by omega)]
    clear c2
    go_enter Tryd.func35, Tryd.ntmps35
    go_wp2
    go_ret
    exact ⟨rfl, (Upd.refl _ _).alloc _⟩

theorem carry_le (a b : Nat → Nat) (ha : ∀ i, i < 4 → a i < 4294967296) (hb : ∀ i, i < 4 → b i < 4294967296) : ∀ k, k ≤ 4 → carry a b k ≤ 1
  | 0, _ => Nat.zero_le _
  | k + 1, h => by
    have h1 := ha k (by omega)
    have h2 := hb k (by omega)
    have h3 := carry_le a b ha hb k (by omega)
    unfold carry; omega

/-- The digits below k are there. -/
def upto (f : Nat → Nat) (k : Nat) : Array Value := #[.int .u64 (if 0 < k then f 0 else 0 : Nat), .int .u64 (if 1 < k then f 1 else 0 : Nat), .int .u64 (if 2 < k then f 2 else 0 : Nat), .int .u64 (if 3 < k then f 3 else 0 : Nat)]
theorem upto_set (f : Nat → Nat) {k : Nat} (hk : k < 4) : (upto f k).setIfInBounds k (.int .u64 (f k)) = upto f (k + 1) := by
  match k, hk with
  | 0, _ => rfl
  | 1, _ => rfl
  | 2, _ => rfl
  | 3, _ => rfl
theorem upto_some (f : Nat → Nat) (k : Nat) {i : Nat} (hi : i < 4) : ∃ v, (upto f k)[i]? = some v := by
  match i, hi with
  | 0, _ => exact ⟨_, rfl⟩
  | 1, _ => exact ⟨_, rfl⟩
  | 2, _ => exact ⟨_, rfl⟩
  | 3, _ => exact ⟨_, rfl⟩

abbrev TW : TypeId := 94

theorem plus_any (a b : Nat → Nat) (ha : ∀ i, i < 4 → a i < 4294967296) (hb : ∀ i, i < 4 → b i < 4294967296) (w : World) :
    Calls Tryd.prog 36 #[four a, four b] w fun e w' => Gives w (four (plusD a b)) e w' := by
  have Ha := Lib.hid ha
  have Hb := Lib.hid hb
  clear ha hb
  unfold four
  go_enter Tryd.func36, Tryd.ntmps36
  go_wp2
  go_loopw [6, 7] (fun c i wr => ∃ k : Nat, k ≤ 4 ∧ i = .int .i64 k ∧ c = .int .u64 (carry a b k) ∧ Blk wr w.heap.size #[.int .u64 (a 0), .int .u64 (a 1), .int .u64 (a 2), .int .u64 (a 3)] TW ∧
    Blk wr (w.heap.size + 1) #[.int .u64 (b 0), .int .u64 (b 1), .int .u64 (b 2), .int .u64 (b 3)] TW ∧ Blk wr (w.heap.size + 1 + 1) #[.int .u64 0, .int .u64 0, .int .u64 0, .int .u64 0] TW ∧
    Blk wr (w.heap.size + 1 + 1 + 1) (upto (plusD a b) k) TW ∧ Upd Nowhere w wr) (fun _ i _ => 4 - (intOf i).toNat)
  case atStart => exact ⟨0, by omega, rfl, rfl, (((Blk.new _ _ _).alloc _).alloc _).alloc _, ((by simpa using Blk.new (w.alloc _) _ _ : Blk _ (w.heap.size + 1) _ TW).alloc _).alloc _, (by simpa using Blk.new ((w.alloc _).alloc _) _ _ : Blk _ (w.heap.size + 1 + 1) _ TW).alloc _, by simpa [upto] using Blk.new (((w.alloc _).alloc _).alloc _) _ _, ((((Upd.refl _ _).alloc _).alloc _).alloc _).alloc _⟩
  case round =>
    obtain ⟨k, hk, rfl, rfl, hA, hB, hC, hD, hu⟩ := hrel
    have HA := Lib.hid hA
    have HB := Lib.hid hB
    have HC := Lib.hid hC
    have HD := Lib.hid hD
    clear hA hB hC hD
    by_cases hlt : k < 4
    · have e1 : wr.cell? ⟨w.heap.size, k, none⟩ = some (.int .u64 (a k)) := HA.out.cellAt (four_at a hlt)
      have e2 : wr.cell? ⟨w.heap.size + 1, k, none⟩ = some (.int .u64 (b k)) := HB.out.cellAt (four_at b hlt)
      obtain ⟨v, hv⟩ := upto_some (plusD a b) k hlt
      have e3 : wr.cell? ⟨w.heap.size + 1 + 1 + 1, k, none⟩ = some v := HD.out.cellAt hv
      have z3 := HD.out.free k
      have hk4 : (k : Int) < 4 := by omega
      have b1 := Ha.out k hlt
      have b2 := Hb.out k hlt
      have b3 := carry_le a b Ha.out Hb.out k hk
      have hc : Hid ((a k + b k + carry a b k) / 4294967296 = carry a b (k + 1)) := rfl
      have hd : Hid ((a k + b k + carry a b k) % 4294967296 = plusD a b k) := rfl
      have hset := Lib.hid (upto_set (plusD a b) hlt)
      generalize plusD a b k = d at *
      generalize carry a b k = c at *
      generalize a k = x at *
      generalize b k = y at *
      clear hv
      go_wp2
      go_quiet (fail)
      go_wp2
      go_roundw
      case rel =>
        refine ⟨k + 1, by omega, by go_num, ?_, HA.out.setOther (a := ⟨w.heap.size + 1 + 1 + 1, k, none⟩) (by simp; omega) _, HB.out.setOther (a := ⟨w.heap.size + 1 + 1 + 1, k, none⟩) (by simp) _, HC.out.setOther (a := ⟨w.heap.size + 1 + 1 + 1, k, none⟩) (by simp) _, ?_, ?_⟩
        · rw [← hc.out]; rfl
        · have h := HD.out.set k (.int .u64 (d : Int))
          rw [hset.out] at h
          rw [← hd.out] at h
          exact h
        · exact (hu.drewN _).setNew (a := ⟨w.heap.size + 1 + 1 + 1, k, none⟩) (by simp; omega) _
      case measure => simp [intOf]; omega
    · obtain rfl : k = 4 := by omega
      have e : upto (plusD a b) 4 = #[.int .u64 (plusD a b 0), .int .u64 (plusD a b 1), .int .u64 (plusD a b 2), .int .u64 (plusD a b 3)] := rfl
      rw [e] at HD
      obtain ⟨d0, e1'⟩ : ∃ d, plusD a b 0 = d := ⟨_, rfl⟩
      obtain ⟨d1, e2'⟩ : ∃ d, plusD a b 1 = d := ⟨_, rfl⟩
      obtain ⟨d2, e3'⟩ : ∃ d, plusD a b 2 = d := ⟨_, rfl⟩
      obtain ⟨d3, e4'⟩ : ∃ d, plusD a b 3 = d := ⟨_, rfl⟩
      rw [e1', e2', e3', e4'] at HD
      have E1 := Lib.hid e1'
      have E2 := Lib.hid e2'
      have E3 := Lib.hid e3'
      have E4 := Lib.hid e4'
      clear e1' e2' e3' e4'
      have c0 : wr.cell? ⟨w.heap.size + 1 + 1 + 1, 0, none⟩ = some (.int .u64 d0) := HD.out.cellAt rfl
      have c1 : wr.cell? ⟨w.heap.size + 1 + 1 + 1, 1, none⟩ = some (.int .u64 d1) := HD.out.cellAt rfl
      have c2 : wr.cell? ⟨w.heap.size + 1 + 1 + 1, 2, none⟩ = some (.int .u64 d2) := HD.out.cellAt rfl
      have c3 : wr.cell? ⟨w.heap.size + 1 + 1 + 1, 3, none⟩ = some (.int .u64 d3) := HD.out.cellAt rfl
      have r0 : wr.cell? ⟨w.heap.size + 1 + 1, 0, none⟩ = some (.int .u64 0) := HC.out.cellAt rfl
      have r1 : wr.cell? ⟨w.heap.size + 1 + 1, 1, none⟩ = some (.int .u64 0) := HC.out.cellAt rfl
      have r2 : wr.cell? ⟨w.heap.size + 1 + 1, 2, none⟩ = some (.int .u64 0) := HC.out.cellAt rfl
      have r3 : wr.cell? ⟨w.heap.size + 1 + 1, 3, none⟩ = some (.int .u64 0) := HC.out.cellAt rfl
      have z0 := HC.out.free 0
      have z1 := HC.out.free 1
      have z2 := HC.out.free 2
      have z3 := HC.out.free 3
      go_wp2
      exact bodyPost_ret (v := .agg #[.int .u64 d0, .int .u64 d1, .int .u64 d2, .int .u64 d3]) (by simp [results, Tryd.results36, go_sem, r0, r1, r2, r3]) rfl
        ⟨by rw [E1.out, E2.out, E3.out, E4.out], ((((hu.setNew (a := ⟨w.heap.size + 1 + 1, 0, none⟩) (by simp; omega) _).setNew (a := ⟨w.heap.size + 1 + 1, 1, none⟩) (by simp; omega) _).setNew (a := ⟨w.heap.size + 1 + 1, 2, none⟩) (by simp; omega) _).setNew (a := ⟨w.heap.size + 1 + 1, 3, none⟩) (by simp; omega) _)⟩

def row4 (f : Nat → Nat) : Array Value := #[.int .u64 (f 0), .int .u64 (f 1), .int .u64 (f 2), .int .u64 (f 3)]
def put (f : Nat → Nat) (p v : Nat) : Nat → Nat := fun i => if i = p then v else f i
theorem row4_set (f : Nat → Nat) {p : Nat} (hp : p < 4) (v : Nat) : (row4 f).setIfInBounds p (.int .u64 v) = row4 (put f p v) := by
  match p, hp with
  | 0, _ => rfl
  | 1, _ => rfl
  | 2, _ => rfl
  | 3, _ => rfl
theorem row4_at (f : Nat → Nat) {p : Nat} (hp : p < 4) : (row4 f)[p]? = some (.int .u64 (f p)) := four_at f hp

/-- One row of a product, piece by piece: the digits and the carry behind j steps of row i. -/
def rowI (x y : Nat → Nat) (i : Nat) (o : Nat → Nat) : Nat → (Nat → Nat) × Nat
  | 0 => (o, 0)
  | j + 1 => (put (rowI x y i o j).1 (i + j) ((x i * y j + (rowI x y i o j).1 (i + j) + (rowI x y i o j).2) % 4294967296), (x i * y j + (rowI x y i o j).1 (i + j) + (rowI x y i o j).2) / 4294967296)
def rowO (x y : Nat → Nat) : Nat → Nat → Nat
  | 0 => fun _ => 0
  | i + 1 => put (rowI x y i (rowO x y i) 2).1 (i + 2) ((rowI x y i (rowO x y i) 2).1 (i + 2) + (rowI x y i (rowO x y i) 2).2)

theorem mul_small {a b : Nat} (ha : a < 4294967296) (hb : b < 4294967296) : a * b ≤ 18446744065119617025 := Nat.mul_le_mul (Nat.le_of_lt_succ ha) (Nat.le_of_lt_succ hb)

theorem rowI_lt (x y : Nat → Nat) (hx : ∀ i, i < 4 → x i < 4294967296) (hy : ∀ i, i < 4 → y i < 4294967296) {i : Nat} (hi : i < 2) (o : Nat → Nat) (ho : ∀ p, o p < 8589934592) (hoo : ∀ p, p < i + 2 → o p < 4294967296) :
    ∀ j, j ≤ 2 → (∀ p, (rowI x y i o j).1 p < 8589934592) ∧ (∀ p, p < i + 2 → (rowI x y i o j).1 p < 4294967296) ∧ (rowI x y i o j).2 < 4294967296
  | 0, _ => ⟨ho, hoo, by simp [rowI]⟩
  | j + 1, hj => by
    obtain ⟨h1, h2, h3⟩ := rowI_lt x y hx hy hi o ho hoo j (by omega)
    have h4 := mul_small (hx i (by omega)) (hy j (by omega))
    have h5 := h2 (i + j) (by omega)
    refine ⟨fun p => ?_, fun p hp => ?_, ?_⟩
    · simp only [rowI, put]; split
      · omega
      · exact h1 p
    · simp only [rowI, put]; split
      · omega
      · exact h2 p hp
    · simp only [rowI]; omega
theorem rowO_lt (x y : Nat → Nat) (hx : ∀ i, i < 4 → x i < 4294967296) (hy : ∀ i, i < 4 → y i < 4294967296) : ∀ i, i ≤ 2 → (∀ p, rowO x y i p < 8589934592) ∧ (∀ p, p < i + 2 → rowO x y i p < 4294967296)
  | 0, _ => ⟨fun p => by simp [rowO], fun p _ => by simp [rowO]⟩
  | i + 1, hi => by
    obtain ⟨h1, h2⟩ := rowO_lt x y hx hy i (by omega)
    obtain ⟨g1, g2, g3⟩ := rowI_lt x y hx hy (by omega : i < 2) (rowO x y i) h1 h2 2 (by omega)
    have hz : (rowI x y i (rowO x y i) 2).1 (i + 2) = 0 := by
      have e : i = 0 ∨ i = 1 := by omega
      rcases e with rfl | rfl
      · simp [rowI, rowO, put]
      · simp [rowI, rowO, put]
    refine ⟨fun p => ?_, fun p hp => ?_⟩
    · simp only [rowO, put]; split
      · rw [hz]; omega
      · exact g1 p
    · simp only [rowO, put]; split
      · rw [hz]; omega
      · exact g2 p (by omega)
end Go.Proofs.YtllfloapiliheaaDoor.Wide
