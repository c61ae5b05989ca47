/- SpRises. -/
import Derived.Test.YtopibbaopglggaaSpI4
import Derived.Test.YtopibbaopglggaaSpLives
import Derived.Test.YtopibbaopglggaaMix
namespace Go.Proofs.Ytopibbaopglggaa.Sp
open Go.RowKit Go.Proofs BigFrame
open SpI (Has has_new has_push has_pop has_len)
set_option maxHeartbeats 2000000
set_option maxRecDepth 100000
/-- What is done, as cells. -/
def rise (a : Nat × Bool) : List Value := [.int .u32 a.1, .bool a.2]
theorem rise_at {l : List (Nat × Bool)} {i : Nat} {a : Nat × Bool} (h : l[i]? = some a) {j : Nat} {v : Value} (hj : (rise a)[j]? = some v) : (l.flatMap rise)[i * 2 + j]? = some v := by
  induction l generalizing i with
  | nil => simp at h
  | cons b l ih =>
    have hl : (rise b).length = 2 := rfl
    rw [List.flatMap_cons]
    cases i with
    | zero =>
      simp only [List.getElem?_cons_zero, Option.some.injEq] at h
      subst h
      have hlt : j < 2 := by
        rcases Nat.lt_or_ge j 2 with h | h
        · exact h
        · rw [List.getElem?_eq_none (by rw [hl]; exact h)] at hj; cases hj
      rw [List.getElem?_append_left (by rw [hl]; omega), Nat.zero_mul, Nat.zero_add]
      exact hj
    | succ i =>
      rw [List.getElem?_append_right (by rw [hl]; omega), hl, show (i + 1) * 2 + j - 2 = i * 2 + j by omega]
      exact ih (by simpa using h)
/-- The numbers from a on. -/
def ids : Nat → Nat → List Int
  | _, 0 => []
  | a, c + 1 => (a : Int) :: ids (a + 1) c
theorem ids_succ : ∀ a c, ids a (c + 1) = ids a c ++ [((a + c : Nat) : Int)]
  | a, 0 => rfl
  | a, c + 1 => by
    rw [ids, ids_succ (a + 1) c, ids, List.cons_append, show a + 1 + c = a + (c + 1) by omega]
/-- All things are in the last queue. -/
def lastQ (n : Nat) (L : List (Int × Int)) : Nat → List (Int × Int) := upd (fun _ => []) (n - 1) L
theorem lastQ_at (n : Nat) (L : List (Int × Int)) : lastQ n L (n - 1) = L := upd_at _ _ _
theorem lastQ_set (n : Nat) (L L' : List (Int × Int)) : upd (lastQ n L) (n - 1) L' = lastQ n L' := by
  funext j; unfold lastQ upd; split <;> rfl
theorem lastQ_low (n : Nat) (L : List (Int × Int)) {j : Nat} (h : j < n - 1) : (lastQ n L j).length = 0 := by
  unfold lastQ; rw [upd_ne _ _ (by omega)]; rfl
theorem lastQ_nil (n : Nat) : lastQ n [] = fun _ => [] := by funext j; unfold lastQ upd; split <;> rfl
/-- Bounds are not above the last rank, or there is one queue. -/
def Under (n : Nat) (bs : Nat → Nat) (r : Nat) : Prop := n = 1 ∨ ∀ j, j < n → bs j ≤ r
theorem Under.pick {n : Nat} {bs : Nat → Nat} {r r' : Nat} (h : Under n bs r) (hn : 0 < n) (hr : n = 1 ∨ r ≤ r') : pick bs r' (n - 1) = n - 1 := by
  rcases Nat.eq_zero_or_pos (n - 1) with h0 | h0
  · rw [h0]; rfl
  · rcases h with h | h
    · omega
    · refine pick_stay_ h0 (Nat.le_trans (h _ (by omega)) (by omega))
theorem Under.push {n : Nat} {bs : Nat → Nat} {r r' : Nat} (h : Under n bs r) (hr : n = 1 ∨ r ≤ r') : Under n (pushed bs r' (n - 1)) r' := by
  rcases Nat.eq_zero_or_pos (n - 1) with h0 | h0
  · rcases Nat.eq_zero_or_pos n with h1 | h1
    · right; intro j hj; omega
    · left; omega
  · rcases h with h | h
    · left; exact h
    · right
      intro j hj
      unfold pushed
      rw [if_neg (by omega)]
      unfold upd
      split
      · exact Nat.le_refl _
      · exact Nat.le_trans (h j hj) (by omega)
theorem cap_rank {r k mo : Nat} (h : r ≤ k * 4294967295) (hm : mo ≤ 4294967295) : r + mo ≤ (k + 1) * 4294967295 := by
  rw [Nat.add_mul, Nat.one_mul]; exact Nat.add_le_add h hm
theorem cap_64 {r k : Nat} (h : r ≤ (k + 1) * 4294967295) (hk : k + 1 ≤ 300) : r ≤ 18446744073709551615 :=
  Nat.le_trans h (Nat.le_trans (Nat.mul_le_mul_right _ hk) (by decide))
theorem cap_one {k mo : Nat} (hm : mo ≤ 4294967295) : mo ≤ (k + 1) * 4294967295 := Nat.le_trans hm (by rw [Nat.add_mul, Nat.one_mul]; exact Nat.le_add_left _ _)
theorem take_one {L : List (Int × Int)} {a c : Nat} (h : L.map Prod.snd = ids a (c + 1)) : ∃ x t, L = (x, (a : Int)) :: t ∧ t.map Prod.snd = ids (a + 1) c := by
  cases L with
  | nil => simp [ids] at h
  | cons y t =>
    obtain ⟨x, z⟩ := y
    rw [ids, List.map_cons] at h
    simp only [List.cons.injEq] at h
    obtain ⟨rfl, h2⟩ := h
    exact ⟨x, t, rfl, h2⟩
theorem rises_one (N : Nat) (hN : N ≤ 255) (ad : Option Addr) (ca : Nat) (l : List (Nat × Bool)) (hl : l.length ≤ 300) (hb : ∀ (i : Nat) (a : Nat × Bool), l[i]? = some a → a.1 ≤ 4294967295) (w : World)
    (ha0 : ad = none → l.length = 0) (ha : ∀ b, ad = some b → ∀ (j : Nat) (v : Value), (l.flatMap rise)[j]? = some v → b.spot = none ∧ w.cell? ⟨b.block, b.off + j, none⟩ = some v) :
    Calls Try.prog 3 #[.int .u8 N, .slice ad l.length ca, .bool true] w fun e w' => e = .returned (.bool true) ∧ Upd Nowhere w w' := by
  obtain ⟨m, hm⟩ : ∃ m, l.length = m := ⟨_, rfl⟩
  rw [hm] at hl ⊢
  have t0 : decide ((m : Int) > 300) = false := decide_eq_false (by omega)
  have t1 : decide (300 < (m : Int)) = false := decide_eq_false (by omega)
  have eN : (N : Int) % 32 = ((N % 32 : Nat) : Int) := rfl
  have hq : N % 32 < 32 := Nat.mod_lt _ (by omega)
  generalize N % 32 = q at *
  obtain ⟨n, hn⟩ : ∃ n, q + 1 = n := ⟨_, rfl⟩
  have eq1 : (q : Int) + 1 = (n : Int) := by omega
  have hn1 : 1 ≤ 1 := by omega
  have hn2 : 1 ≤ 32 := by omega
  have HN := Lib.hid (has_new w 4096 1 (by omega) (by omega) hn1 hn2)
  have Hm := Lib.hid hm
  have Hb := Lib.hid hb
  have Ha0 := Lib.hid ha0
  have Ha := Lib.hid ha
  have HL := fun u => Lib.hid (lives u)
  clear hm hb ha0 ha
  go_enter Try.func3, Try.ntmps3
  go_wp2_with fail
  refine HN.out.mono ?_
  rintro e w1 ⟨s, rfl, hS⟩
  have HS := Lib.hid hS
  clear hS HN
  go_wp2_with fail
  go_loopw [10, 11, 40] (fun rv nv i wr => ∃ (k rank nx : Nat) (bs : Nat → Nat) (L : List (Int × Int)), k ≤ m ∧ i = .int .i64 k ∧ rv = .int .u64 rank ∧ nv = .int .i64 nx ∧ rank ≤ k * 4294967295 ∧ nx ≤ k ∧ Has w wr s 1 4096 (k - nx) bs (lastQ 1 L) ∧ Under 1 bs rank ∧ L.map Prod.snd = ids nx (k - nx)) (fun _ _ i _ => m - (intOf i).toNat)
  case atStart => exact ⟨0, 0, 0, _, [], by omega, rfl, rfl, rfl, by omega, by omega, by rw [lastQ_nil]; exact HS.out, .inr (fun _ _ => Nat.le_refl _), rfl⟩
  case round =>
    obtain ⟨k, rank, nx, bs, L, hk, rfl, rfl, rfl, hrk, hnx, hS, hun, hids⟩ := hrel
    have HS2 := Lib.hid hS
    have HUN := Lib.hid hun
    have HI := Lib.hid hids
    clear hS hun hids HS
    obtain ⟨wB, rfl⟩ : ∃ x, x = wr := ⟨_, rfl⟩
    by_cases hlt : k < m
    · have hI : (k : Int) < m := by omega
      obtain ⟨⟨mo, pp⟩, hx⟩ : ∃ a, l[k]? = some a := ⟨l[k]'(by rw [Hm.out]; exact hlt), by simp⟩
      have hmo := Hb.out k _ hx
      simp only at hmo
      obtain ⟨ga, oa, rfl⟩ : ∃ ga oa, ad = some ⟨ga, oa, none⟩ := by
        cases ad with
        | none => have := Ha0.out rfl; rw [Hm.out] at this; omega
        | some b =>
          have hs := (Ha.out b rfl _ _ (rise_at hx (j := 0) rfl)).1
          obtain ⟨g, o, sp⟩ := b
          simp only at hs
          subst hs
          exact ⟨g, o, rfl⟩
      have r0 : wB.cell? ⟨ga, oa + k * 2, none⟩ = some (.int .u32 mo) := cell_old HS2.out.upd (Ha.out _ rfl _ _ (rise_at hx (j := 0) rfl)).2
      have r1 : wB.cell? ⟨ga, oa + (k * 2 + 1), none⟩ = some (.bool pp) := cell_old HS2.out.upd (Ha.out _ rfl _ _ (rise_at hx (j := 1) rfl)).2
      have r2 : wB.cell? ⟨ga, oa + k * 2 + 1, none⟩ = some (.bool pp) := by rw [Nat.add_assoc]; exact r1
      have hrb : mo ≤ (k + 1) * 4294967295 := cap_one hmo
      have hr64 := cap_64 hrb (by omega)
      have hrr : 1 = 1 ∨ rank ≤ mo := .inl rfl
      have e0 : IntKind.u64.wrap (mo : Int) = (mo : Int) := by rw [IntKind.wrap_u64]; omega
      have e1 : IntKind.u64.wrap ((rank : Int) + (mo : Int)) = ((rank + mo : Nat) : Int) := by have := cap_64 (cap_rank hrk hmo) (by omega); rw [IntKind.wrap_u64]; omega
      clear hx
      have hpk := HUN.out.pick hn1 hrr
      have hP := Lib.hid (has_push HS2.out ((Upd.refl _ _).alloc (.cells #[.int .u32 mo, .bool pp] 31)) (by omega) mo hr64 (k : Int) (1 - 1) hpk)
      have hBa : Blk (wB.alloc (.cells #[.int .u32 mo, .bool pp] 31)) wB.heap.size #[.int .u32 mo, .bool pp] 31 := Blk.new _ _ _
      rw [lastQ_at, lastQ_set] at hP
      clear hpk
      go_wp2_with fail
      refine hP.out.mono ?_
      rintro e w3 ⟨rfl, hS3, hu3⟩
      have hB3 := hBa.kept hu3 (fun h => Nat.lt_irrefl _ h)
      have HS3 := Lib.hid hS3
      have HU3 := Lib.hid (HUN.out.push (r' := mo) (.inl rfl))
      have HI3 : Hid ((L ++ [((mo : Int), (k : Int))]).map Prod.snd = ids nx (k + 1 - nx)) := Lib.hid (by rw [show k + 1 - nx = k - nx + 1 by omega, ids_succ, List.map_append, HI.out, show nx + (k - nx) = k by omega]; rfl)
      rw [show k - nx + 1 = k + 1 - nx by omega] at HS3
      generalize L ++ [((mo : Int), (k : Int))] = L3 at *
      clear hP hS3 hu3 hBa HS2 HUN HI hrr
      obtain ⟨c0, c1, z0, z1⟩ := cells2 hB3
      cases pp with
      | false =>
        go_wp2_with fail
        go_roundw
        case rel => exact ⟨k + 1, mo, nx, _, L3, by omega, by go_num, rfl, rfl, hrb, by omega, HS3.out, HU3.out, HI3.out⟩
        case measure => simp [intOf]; omega
      | true =>
        obtain ⟨x0, t, hL, ht⟩ := take_one (L := L3) (a := nx) (c := k - nx) (by rw [HI3.out, show k + 1 - nx = k - nx + 1 by omega])
        have hT := Lib.hid (has_pop HS3.out (Upd.refl _ _) (1 - 1) x0 (nx : Int) t (by omega) (fun j hj => lastQ_low _ _ hj) (by rw [lastQ_at]; exact hL))
        have e2 : IntKind.i64.wrap ((nx : Int) + 1) = ((nx + 1 : Nat) : Int) := by rw [IntKind.wrap_i64]; omega
        rw [lastQ_set] at hT
        have Ht := Lib.hid ht
        clear hL ht
        go_wp2_with fail
        refine hT.out.mono ?_
        rintro e w4 ⟨rfl, hS4, hu4⟩
        rw [show k + 1 - nx - 1 = k + 1 - (nx + 1) by omega] at hS4
        have HS4 := Lib.hid hS4
        clear hS4 hu4 hT HS3
        go_wp2_with fail
        go_roundw
        case rel => exact ⟨k + 1, mo, nx + 1, _, t, by omega, by go_num, rfl, by go_num, hrb, by omega, HS4.out, HU3.out, by rw [show k + 1 - (nx + 1) = k - nx by omega]; exact Ht.out⟩
        case measure => simp [intOf]; omega
    · obtain rfl : m = k := by omega
      clear hrk hk HUN
      go_wp2_with fail
      go_loopw [11] (fun nv wr => ∃ (nx : Nat) (L : List (Int × Int)), nx ≤ m ∧ nv = .int .i64 nx ∧ Has w wr s 1 4096 (m - nx) bs (lastQ 1 L) ∧ L.map Prod.snd = ids nx (m - nx)) (fun nv _ => m - (intOf nv).toNat)
      case atStart => exact ⟨nx, L, hnx, rfl, HS2.out, HI.out⟩
      case round =>
        clear HS2 HI hnx
        obtain ⟨nx, L, hnx, rfl, hS, hids⟩ := hrel
        have HS2 := Lib.hid hS
        have HI := Lib.hid hids
        clear hS hids
        by_cases hlt2 : nx < m
        · have hI2 : (nx : Int) < m := by omega
          obtain ⟨x0, t, hL, ht⟩ := take_one (L := L) (a := nx) (c := m - (nx + 1)) (by rw [HI.out, show m - nx = m - (nx + 1) + 1 by omega])
          have hT := Lib.hid (has_pop HS2.out (Upd.refl _ _) (1 - 1) x0 (nx : Int) t (by omega) (fun j hj => lastQ_low _ _ hj) (by rw [lastQ_at]; exact hL))
          have e2 : IntKind.i64.wrap ((nx : Int) + 1) = ((nx + 1 : Nat) : Int) := by rw [IntKind.wrap_i64]; omega
          rw [lastQ_set] at hT
          have Ht := Lib.hid ht
          clear hL ht
          go_wp2_with fail
          refine hT.out.mono ?_
          rintro e w4 ⟨rfl, hS4, hu4⟩
          rw [show m - nx - 1 = m - (nx + 1) by omega] at hS4
          have HS4 := Lib.hid hS4
          clear hS4 hu4 hT HS2
          go_wp2_with fail
          go_roundw
          case rel => exact ⟨nx + 1, t, by omega, by go_num, HS4.out, Ht.out⟩
          case measure => simp [intOf]; omega
        · have hI2 : ¬ (nx : Int) < m := by omega
          have hz : m - nx = 0 := by omega
          rw [hz] at HS2
          go_wp2_with fail
          refine (has_len HS2.out).mono ?_
          rintro e w4 ⟨rfl, rfl⟩
          go_wp2_with fail
          refine ((HL _).out).mono ?_
          rintro e w5 ⟨rfl, u5⟩
          go_wp2_with fail
          go_ret
          exact ⟨rfl, HS2.out.upd.trans u5 (fun _ _ h => h)⟩
theorem rises_more (N : Nat) (hN : N ≤ 255) (ad : Option Addr) (ca : Nat) (l : List (Nat × Bool)) (hl : l.length ≤ 300) (hb : ∀ (i : Nat) (a : Nat × Bool), l[i]? = some a → a.1 ≤ 4294967295) (w : World)
    (ha0 : ad = none → l.length = 0) (ha : ∀ b, ad = some b → ∀ (j : Nat) (v : Value), (l.flatMap rise)[j]? = some v → b.spot = none ∧ w.cell? ⟨b.block, b.off + j, none⟩ = some v) :
    Calls Try.prog 3 #[.int .u8 N, .slice ad l.length ca, .bool false] w fun e w' => e = .returned (.bool true) ∧ Upd Nowhere w w' := by
  obtain ⟨m, hm⟩ : ∃ m, l.length = m := ⟨_, rfl⟩
  rw [hm] at hl ⊢
  have t0 : decide ((m : Int) > 300) = false := decide_eq_false (by omega)
  have t1 : decide (300 < (m : Int)) = false := decide_eq_false (by omega)
  have eN : (N : Int) % 32 = ((N % 32 : Nat) : Int) := rfl
  have hq : N % 32 < 32 := Nat.mod_lt _ (by omega)
  generalize N % 32 = q at *
  obtain ⟨n, hn⟩ : ∃ n, q + 1 = n := ⟨_, rfl⟩
  have eq1 : (q : Int) + 1 = (n : Int) := by omega
  have hn1 : 1 ≤ n := by omega
  have hn2 : n ≤ 32 := by omega
  have HN := Lib.hid (has_new w 4096 n (by omega) (by omega) hn1 hn2)
  have Hm := Lib.hid hm
  have Hb := Lib.hid hb
  have Ha0 := Lib.hid ha0
  have Ha := Lib.hid ha
  have HL := fun u => Lib.hid (lives u)
  clear hm hb ha0 ha
  go_enter Try.func3, Try.ntmps3
  go_wp2_with fail
  refine HN.out.mono ?_
  rintro e w1 ⟨s, rfl, hS⟩
  have HS := Lib.hid hS
  clear hS HN
  go_wp2_with fail
  go_loopw [10, 11, 40] (fun rv nv i wr => ∃ (k rank nx : Nat) (bs : Nat → Nat) (L : List (Int × Int)), k ≤ m ∧ i = .int .i64 k ∧ rv = .int .u64 rank ∧ nv = .int .i64 nx ∧ rank ≤ k * 4294967295 ∧ nx ≤ k ∧ Has w wr s n 4096 (k - nx) bs (lastQ n L) ∧ Under n bs rank ∧ L.map Prod.snd = ids nx (k - nx)) (fun _ _ i _ => m - (intOf i).toNat)
  case atStart => exact ⟨0, 0, 0, _, [], by omega, rfl, rfl, rfl, by omega, by omega, by rw [lastQ_nil]; exact HS.out, .inr (fun _ _ => Nat.le_refl _), rfl⟩
  case round =>
    obtain ⟨k, rank, nx, bs, L, hk, rfl, rfl, rfl, hrk, hnx, hS, hun, hids⟩ := hrel
    have HS2 := Lib.hid hS
    have HUN := Lib.hid hun
    have HI := Lib.hid hids
    clear hS hun hids HS
    obtain ⟨wB, rfl⟩ : ∃ x, x = wr := ⟨_, rfl⟩
    by_cases hlt : k < m
    · have hI : (k : Int) < m := by omega
      obtain ⟨⟨mo, pp⟩, hx⟩ : ∃ a, l[k]? = some a := ⟨l[k]'(by rw [Hm.out]; exact hlt), by simp⟩
      have hmo := Hb.out k _ hx
      simp only at hmo
      obtain ⟨ga, oa, rfl⟩ : ∃ ga oa, ad = some ⟨ga, oa, none⟩ := by
        cases ad with
        | none => have := Ha0.out rfl; rw [Hm.out] at this; omega
        | some b =>
          have hs := (Ha.out b rfl _ _ (rise_at hx (j := 0) rfl)).1
          obtain ⟨g, o, sp⟩ := b
          simp only at hs
          subst hs
          exact ⟨g, o, rfl⟩
      have r0 : wB.cell? ⟨ga, oa + k * 2, none⟩ = some (.int .u32 mo) := cell_old HS2.out.upd (Ha.out _ rfl _ _ (rise_at hx (j := 0) rfl)).2
      have r1 : wB.cell? ⟨ga, oa + (k * 2 + 1), none⟩ = some (.bool pp) := cell_old HS2.out.upd (Ha.out _ rfl _ _ (rise_at hx (j := 1) rfl)).2
      have r2 : wB.cell? ⟨ga, oa + k * 2 + 1, none⟩ = some (.bool pp) := by rw [Nat.add_assoc]; exact r1
      obtain ⟨r', hr'⟩ : ∃ r', rank + mo = r' := ⟨_, rfl⟩
      have hrb : r' ≤ (k + 1) * 4294967295 := by rw [← hr']; exact cap_rank hrk hmo
      have hr64 := cap_64 hrb (by omega)
      have hrr : n = 1 ∨ rank ≤ r' := .inr (by omega)
      have e0 : IntKind.u64.wrap (mo : Int) = (mo : Int) := by rw [IntKind.wrap_u64]; omega
      have e1 : IntKind.u64.wrap ((rank : Int) + (mo : Int)) = ((rank + mo : Nat) : Int) := by have := cap_64 (cap_rank hrk hmo) (by omega); rw [IntKind.wrap_u64]; omega
      clear hx
      have hpk := HUN.out.pick hn1 hrr
      have hP := Lib.hid (has_push HS2.out ((Upd.refl _ _).alloc (.cells #[.int .u32 mo, .bool pp] 31)) (by omega) r' hr64 (k : Int) (n - 1) hpk)
      have hBa : Blk (wB.alloc (.cells #[.int .u32 mo, .bool pp] 31)) wB.heap.size #[.int .u32 mo, .bool pp] 31 := Blk.new _ _ _
      rw [lastQ_at, lastQ_set] at hP
      rw [hr'] at e1
      clear hpk
      go_wp2_with fail
      refine hP.out.mono ?_
      rintro e w3 ⟨rfl, hS3, hu3⟩
      have hB3 := hBa.kept hu3 (fun h => Nat.lt_irrefl _ h)
      have HS3 := Lib.hid hS3
      have HU3 := Lib.hid (HUN.out.push hrr)
      have HI3 : Hid ((L ++ [((r' : Int), (k : Int))]).map Prod.snd = ids nx (k + 1 - nx)) := Lib.hid (by rw [show k + 1 - nx = k - nx + 1 by omega, ids_succ, List.map_append, HI.out, show nx + (k - nx) = k by omega]; rfl)
      rw [show k - nx + 1 = k + 1 - nx by omega] at HS3
      generalize L ++ [((r' : Int), (k : Int))] = L3 at *
      clear hP hS3 hu3 hBa HS2 HUN HI hrr
      obtain ⟨c0, c1, z0, z1⟩ := cells2 hB3
      cases pp with
      | false =>
        go_wp2_with fail
        go_roundw
        case rel => exact ⟨k + 1, r', nx, _, L3, by omega, by go_num, rfl, rfl, hrb, by omega, HS3.out, HU3.out, HI3.out⟩
        case measure => simp [intOf]; omega
      | true =>
        obtain ⟨x0, t, hL, ht⟩ := take_one (L := L3) (a := nx) (c := k - nx) (by rw [HI3.out, show k + 1 - nx = k - nx + 1 by omega])
        have hT := Lib.hid (has_pop HS3.out (Upd.refl _ _) (n - 1) x0 (nx : Int) t (by omega) (fun j hj => lastQ_low _ _ hj) (by rw [lastQ_at]; exact hL))
        have e2 : IntKind.i64.wrap ((nx : Int) + 1) = ((nx + 1 : Nat) : Int) := by rw [IntKind.wrap_i64]; omega
        rw [lastQ_set] at hT
        have Ht := Lib.hid ht
        clear hL ht
        go_wp2_with fail
        refine hT.out.mono ?_
        rintro e w4 ⟨rfl, hS4, hu4⟩
        rw [show k + 1 - nx - 1 = k + 1 - (nx + 1) by omega] at hS4
        have HS4 := Lib.hid hS4
        clear hS4 hu4 hT HS3
        go_wp2_with fail
        go_roundw
        case rel => exact ⟨k + 1, r', nx + 1, _, t, by omega, by go_num, rfl, by go_num, hrb, by omega, HS4.out, HU3.out, by rw [show k + 1 - (nx + 1) = k - nx by omega]; exact Ht.out⟩
        case measure => simp [intOf]; omega
    · obtain rfl : m = k := by omega
      clear hrk hk HUN
      go_wp2_with fail
      go_loopw [11] (fun nv wr => ∃ (nx : Nat) (L : List (Int × Int)), nx ≤ m ∧ nv = .int .i64 nx ∧ Has w wr s n 4096 (m - nx) bs (lastQ n L) ∧ L.map Prod.snd = ids nx (m - nx)) (fun nv _ => m - (intOf nv).toNat)
      case atStart => exact ⟨nx, L, hnx, rfl, HS2.out, HI.out⟩
      case round =>
        clear HS2 HI hnx
        obtain ⟨nx, L, hnx, rfl, hS, hids⟩ := hrel
        have HS2 := Lib.hid hS
        have HI := Lib.hid hids
        clear hS hids
        by_cases hlt2 : nx < m
        · have hI2 : (nx : Int) < m := by omega
          obtain ⟨x0, t, hL, ht⟩ := take_one (L := L) (a := nx) (c := m - (nx + 1)) (by rw [HI.out, show m - nx = m - (nx + 1) + 1 by omega])
          have hT := Lib.hid (has_pop HS2.out (Upd.refl _ _) (n - 1) x0 (nx : Int) t (by omega) (fun j hj => lastQ_low _ _ hj) (by rw [lastQ_at]; exact hL))
          have e2 : IntKind.i64.wrap ((nx : Int) + 1) = ((nx + 1 : Nat) : Int) := by rw [IntKind.wrap_i64]; omega
          rw [lastQ_set] at hT
          have Ht := Lib.hid ht
          clear hL ht
          go_wp2_with fail
          refine hT.out.mono ?_
          rintro e w4 ⟨rfl, hS4, hu4⟩
          rw [show m - nx - 1 = m - (nx + 1) by omega] at hS4
          have HS4 := Lib.hid hS4
          clear hS4 hu4 hT HS2
          go_wp2_with fail
          go_roundw
          case rel => exact ⟨nx + 1, t, by omega, by go_num, HS4.out, Ht.out⟩
          case measure => simp [intOf]; omega
        · have hI2 : ¬ (nx : Int) < m := by omega
          have hz : m - nx = 0 := by omega
          rw [hz] at HS2
          go_wp2_with fail
          refine (has_len HS2.out).mono ?_
          rintro e w4 ⟨rfl, rfl⟩
          go_wp2_with fail
          refine ((HL _).out).mono ?_
          rintro e w5 ⟨rfl, u5⟩
          go_wp2_with fail
          go_ret
          exact ⟨rfl, HS2.out.upd.trans u5 (fun _ _ h => h)⟩
end Go.Proofs.Ytopibbaopglggaa.Sp
