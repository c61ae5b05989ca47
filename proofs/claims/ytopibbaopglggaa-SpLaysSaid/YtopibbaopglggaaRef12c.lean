/- The reference's queues: Push. -/
import Derived.Test.YtopibbaopglggaaRef12b
import Derived.Deep.DeepCutAuto
import Derived.Test.YtopibbaopglggaaSteps
namespace Go.Proofs.Ytopibbaopglggaa.Ref12
open Go.RowKit Go.Proofs BigFrame
set_option maxHeartbeats 1000000
set_option maxRecDepth 1000000
/-- Is there a bound that is not above? -/
def fnd (bs : Nat → Nat) (r : Nat) : Nat → Bool
  | 0 => false
  | k + 1 => fnd bs r k || decide (bs k ≤ r)
theorem fnd_no {bs : Nat → Nat} {r : Nat} : ∀ k, (∀ i, i < k → r < bs i) → fnd bs r k = false
  | 0, _ => rfl
  | k + 1, h => by rw [fnd, fnd_no k (fun i hi => h i (by omega))]; have := h k (Nat.lt_succ_self _); simp; omega
theorem fnd_yes {bs : Nat → Nat} {r : Nat} (h : bs 0 ≤ r) : ∀ k, 0 < k → fnd bs r k = true
  | 0, h0 => absurd h0 (Nat.lt_irrefl _)
  | 1, _ => by simp [fnd, h]
  | k + 2, _ => by rw [fnd, fnd_yes h (k + 1) (by omega)]; rfl
theorem pick_next (bs : Nat → Nat) (r k : Nat) : pick bs r (k + 1 - 1) = if k = 0 then 0 else if bs k ≤ r then k else pick bs r (k - 1) := by
  cases k with
  | zero => rfl
  | succ k =>
    rw [if_neg (by omega)]
    show pick bs r (k + 1) = _
    rw [pick]; rfl
/-- A bound, as it is next. -/
def nxt (bs : Nat → Nat) (r p : Nat) (f : Bool) (i : Nat) : Nat := if f then (if i = p then r else bs i) else bs i - (bs 0 - r)
theorem nxt_pushed {bs : Nat → Nat} {r n : Nat} (hf : Fit n bs) (hn : 0 < n) (i : Nat) : nxt bs r (pick bs r (n - 1)) (fnd bs r n) i = pushed bs r (pick bs r (n - 1)) i := by
  by_cases h : bs 0 ≤ r
  · rw [fnd_yes h n hn]
    have e : pushed bs r (pick bs r (n - 1)) = upd bs (pick bs r (n - 1)) r := by unfold pushed; rw [if_neg (by omega)]
    rw [e]
    rfl
  · have h1 : ∀ j, j < n → r < bs j := fun j hj => Nat.lt_of_lt_of_le (by omega) (hf.mono 0 j (Nat.zero_le _) hj)
    have hp : pick bs r (n - 1) = 0 := by
      rcases (pick_at bs r (n - 1)).1 with h2 | h2
      · exact h2
      · have h3 := pick_le bs r (n - 1)
        have := h1 (pick bs r (n - 1)) (by omega)
        omega
    rw [fnd_no n h1, hp]
    have e : pushed bs r 0 = sunk bs r := by unfold pushed; rw [if_pos ⟨rfl, by omega⟩]
    rw [e]
    rfl
theorem fnd_off {bs : Nat → Nat} {r n : Nat} (h : fnd bs r n = false) (hn : 0 < n) : r < bs 0 := by
  rcases Nat.lt_or_ge r (bs 0) with h1 | h1
  · exact h1
  · rw [fnd_yes h1 n hn] at h; cases h
theorem wrap_sub {a c : Nat} (h : c ≤ a) (ha : a ≤ 18446744073709551615) : IntKind.u64.wrap ((a : Int) - (c : Int)) = ((a - c : Nat) : Int) := by
  simp [IntKind.wrap, IntKind.bits, IntKind.signed]; omega
theorem vals_congr {f g : Nat → Value} {n : Nat} (h : ∀ i, i < n → f i = g i) : vals f n = vals g n := List.map_congr_left (fun i hi => h i (List.mem_range.1 hi))
theorem nums_succ (bs : Nat → Nat) (k : Nat) : nums bs (k + 1) = nums bs k ++ [.int .u64 (bs k : Nat)] := by
  unfold nums vals; rw [List.range_succ, List.map_append]; rfl
theorem prow_src {B : Nat} {E : TypeId} {w : World} {v : Value} {l : List (Nat × Int)} (h : PRow E B w v l) : ∃ ad c, v = .slice ad l.length c ∧ (ad = none → l.length = 0 ∧ c = 0) ∧ (∀ b, ad = some b → ∀ j u, (pcs l)[j]? = some u → w.cell? (b.add j) = some u) := by
  rcases id h.2 with ⟨rfl, h0⟩ | ⟨g, c, cur, rfl, _⟩
  · exact ⟨none, 0, by rw [h0], fun _ => ⟨h0, rfl⟩, fun b hb => by cases hb⟩
  · exact ⟨_, c, rfl, (fun h => by cases h), fun b hb => by cases hb; exact World.ownsRow.cells h rfl⟩
theorem pcs_one (l : List (Nat × Int)) : ∀ u ∈ pcs l, u.oneCell' = true := by
  induction l with
  | nil => intro u h; cases h
  | cons a r ih =>
    intro u h
    rcases List.mem_cons.1 h with rfl | h
    · rfl
    · rcases List.mem_cons.1 h with rfl | h
      · rfl
      · exact ih u h
section
variable {B : Nat} {w : World} {b room n : Nat} {bv lv : Value} {vs : Nat → Value} {bs : Nat → Nat} {qs : Nat → List (Nat × Int)}
theorem push_full (h : Ref B w b room n bv lv vs bs qs) (hn : 0 < n) (hn2 : n ≤ 32) (ht : tot qs n = room) (hr : room ≤ 4096) (r : Nat) (x : Int) :
    Calls Try.prog 28 #[.pointer (some ⟨b, 0, none⟩), .int .u64 r, .int .i64 x] w fun e w' => e = .returned (.tuple #[.int .i64 0, .bool false]) ∧ Upd Nowhere w w' := by
  have HL := fun u (hu : Upd Nowhere w u) => Lib.hid (len_any (h.old hu) hn hn2 (by omega))
  obtain ⟨c0, c1, c2, z0, z1, z2⟩ := cells3 h.blk
  obtain ⟨t, ht2⟩ : ∃ t, tot qs n = t := ⟨_, rfl⟩
  rw [ht2] at HL ht
  have d1 : decide ((t : Int) ≥ room) = true := decide_eq_true (by omega)
  have d2 : decide ((room : Int) ≤ t) = true := decide_eq_true (by omega)
  have d3 : decide (room ≤ t) = true := decide_eq_true (by omega)
  clear h ht2 ht
  go_enter Try.func28, Try.ntmps28
  go_wp2_with fail
  go_quiet ((go_at_call 60; exact quiet_same (HL _ ((Upd.refl _ _).drewN _)).out))
  go_wp2_with fail
  go_ret2
  exact ⟨rfl, (Upd.refl _ _).drewN _⟩
theorem push_room (h : Ref B w b room n bv lv vs bs qs) (hn : 0 < n) (hn2 : n ≤ 32) (ht : tot qs n < room) (hr : room ≤ 4096) (hf : Fit n bs) (hB : B ≤ w.heap.size) (r : Nat) (hr64 : r ≤ 18446744073709551615) (x : Int) :
    Calls Try.prog 28 #[.pointer (some ⟨b, 0, none⟩), .int .u64 r, .int .i64 x] w fun e w' => e = .returned (.tuple #[.int .i64 (pick bs r (n - 1) : Nat), .bool true]) ∧
      Turned B w w' b room n bv lv vs (pushed bs r (pick bs r (n - 1))) (upd qs (pick bs r (n - 1)) (qs (pick bs r (n - 1)) ++ [(r, x)])) := by
  have HL := fun u (hu : Upd Nowhere w u) => Lib.hid (len_any (h.old hu) hn hn2 (by omega))
  obtain ⟨i0, hi, hz0, hz1, hz2⟩ := info_parts infoU
  obtain ⟨j0, hj, jz0, jz1, jz2⟩ := info_parts infoI
  obtain ⟨g, c, rfl⟩ := h.lform hn
  obtain ⟨gb, cb, rfl⟩ := h.bform hn
  obtain ⟨c0, c1, c2, z0, z1, z2⟩ := cells3 h.blk
  obtain ⟨t, ht2⟩ : ∃ t, tot qs n = t := ⟨_, rfl⟩
  have hqm : (qs (pick bs r (n - 1))).length ≤ 4096 := by
    have := tot_le qs (show pick bs r (n - 1) < n by have := pick_le bs r (n - 1); omega)
    omega
  rw [ht2] at HL ht
  have d1 : decide ((t : Int) ≥ room) = false := decide_eq_false (by omega)
  have d2 : decide ((room : Int) ≤ t) = false := decide_eq_false (by omega)
  have d3 : decide (room ≤ t) = false := decide_eq_false (by omega)
  have H := Lib.hid h
  have HF := Lib.hid hf
  have HQM := Lib.hid hqm
  clear h ht2 ht hf hqm
  go_enter Try.func28, Try.ntmps28
  go_wp2_with fail
  go_quiet ((go_at_call 60; exact quiet_same (HL _ ((Upd.refl _ _).drewN _)).out))
  clear HL
  obtain ⟨w1, hw1⟩ : ∃ w1, w.drewN nq = w1 := ⟨_, rfl⟩
  have HU1 := Lib.hid (show Upd Nowhere w w1 by rw [← hw1]; exact (Upd.refl _ _).drewN _)
  rw [hw1]
  replace c0 := cell_old HU1.out c0
  replace c1 := cell_old HU1.out c1
  replace c2 := cell_old HU1.out c2
  have H1 := Lib.hid (H.out.old HU1.out)
  clear hw1 z0 z1 z2
  go_wp2_with fail
  go_loopw [8, 9, 10] (fun a f i wr => ∃ (k : Nat), k ≤ n ∧ i = .int .i64 k ∧ a = .int .i64 (pick bs r (k - 1) : Nat) ∧ f = .bool (fnd bs r k) ∧ w1 = wr) (fun _ _ i _ => n - (intOf i).toNat)
  case atStart => exact ⟨0, by omega, rfl, rfl, rfl, rfl⟩
  case round =>
    obtain ⟨k, hk, rfl, rfl, rfl, rfl⟩ := hrel
    by_cases hlt : k < n
    · have hI : (k : Int) < n := by omega
      have k0 := H1.out.bcell hlt
      have e1 := pick_next bs r k
      have e2 : fnd bs r (k + 1) = (fnd bs r k || decide (bs k ≤ r)) := rfl
      obtain ⟨p2, hp2⟩ : ∃ p2, pick bs r (k + 1 - 1) = p2 := ⟨_, rfl⟩
      obtain ⟨f2, hf2⟩ : ∃ f2, fnd bs r (k + 1) = f2 := ⟨_, rfl⟩
      rw [hp2] at e1
      rw [hf2] at e2
      have HP2 := Lib.hid hp2
      have HF2 := Lib.hid hf2
      clear hp2 hf2
      by_cases hle : bs k ≤ r
      · have d4 : decide (bs k ≤ r) = true := decide_eq_true hle
        rw [d4, Bool.or_true] at e2
        have e3 : p2 = k := by rw [e1]; split; omega; rfl
        subst e2
        subst e3
        clear e1 hle
        generalize pick bs r (p2 - 1) = p1 at *
        generalize fnd bs r p2 = f1 at *
        generalize bs p2 = bk at *
        go_wp2_with fail
        go_roundw
        case rel => exact ⟨p2 + 1, by omega, by go_num, by rw [HP2.out], by rw [HF2.out], trivial⟩
        case measure => simp [intOf]; omega
      · have d4 : decide (bs k ≤ r) = false := decide_eq_false hle
        rw [d4, Bool.or_false] at e2
        have e3 : p2 = pick bs r (k - 1) := by
          rw [e1]
          split
          · rename_i h0; subst h0; rfl
          · rfl
        have E2 := Lib.hid e2
        have E3 := Lib.hid e3
        clear e1 e2 e3 hle
        generalize pick bs r (k - 1) = p1 at *
        generalize fnd bs r k = f1 at *
        generalize bs k = bk at *
        go_wp2_with fail
        go_roundw
        case rel => exact ⟨k + 1, by omega, by go_num, by rw [HP2.out, E3.out], by rw [HF2.out, E2.out], trivial⟩
        case measure => simp [intOf]; omega
    · obtain rfl : k = n := by omega
      have HNP := Lib.hid (fun i => nxt_pushed (r := r) HF.out hn i)
      have HOFF := Lib.hid (fun (h : fnd bs r k = false) => fnd_off h hn)
      obtain ⟨p, hp⟩ : ∃ p, pick bs r (k - 1) = p := ⟨_, rfl⟩
      obtain ⟨f, hff⟩ : ∃ f, fnd bs r k = f := ⟨_, rfl⟩
      have hpk : p < k := by have := pick_le bs r (k - 1); omega
      have HPP := Lib.hid hp
      rw [hp, hff] at HNP
      rw [hff] at HOFF
      rw [hp] at HQM ⊢
      rw [hff]
      clear hp hff hk
      go_wp2_with fail
      go_loopw [11, 12] (fun nv i wr => ∃ (j : Nat), j ≤ k ∧ i = .int .i64 j ∧ wr.ownsRow w1.heap.size TU 1 nv j (nums (nxt bs r p f) j) ∧ Upd Nowhere w1 wr) (fun _ i _ => k - (intOf i).toNat)
      case atStart => exact ⟨0, by omega, rfl, ownsRow_nil _ _ _ _, Upd.refl _ _⟩
      case round =>
        obtain ⟨j, hjk, rfl, hown, hu⟩ := hrel
        obtain ⟨wB, rfl⟩ : ∃ x, x = wr := ⟨_, rfl⟩
        obtain ⟨ad2, cc2, rfl⟩ := own_form hown
        have HO := Lib.hid hown
        have HU := Lib.hid hu
        have hszB := hu.size
        have b1 := cell_old hu c1
        have b2 := cell_old hu c2
        clear hown hu
        by_cases hlt : j < k
        · have hI : (j : Int) < k := by omega
          have k0 := cell_old HU.out (H1.out.bcell hlt)
          have k1 := cell_old HU.out (H1.out.bcell hn)
          cases f with
          | false =>
            have hx : nxt bs r p false j = bs j - (bs 0 - r) := rfl
            have h0 := HOFF.out rfl
            have h2 := HF.out.b64 0 hn
            have h3 := HF.out.b64 j hlt
            have h4 := HF.out.mono 0 j (Nat.zero_le _) hlt
            have e1 := wrap_sub (a := bs 0) (c := r) (by omega) h2
            have e2 := wrap_sub (a := bs j) (c := bs 0 - r) (by omega) h3
            have HX := Lib.hid hx
            generalize bs 0 - r = d at *
            generalize bs 0 = z at *
            generalize bs j - d = y at *
            generalize bs j = bj at *
            clear hx h0 h2 h3 h4
            go_wp2_with (at_builtin; refine wpList_push rfl _ _ 38 rfl w1.heap.size TU i0 (.int .u64 0) 1 8 Try.underlying38 hi hz0 hz1 hz2 rfl (by decide) (by decide) _ _ _ rfl (ownsRow_upd HO.out ((Upd.refl _ _).alloc _) (fun _ _ h => h)) wB.heap.size 1 [.int .u64 (y : Nat)] rfl rfl (new_cells wB #[_] _) (by simp [Value.oneCell']) (by omega) (by simp; omega) ?_; intro v3 w3 hown hu3 hno)
            have HU3 := Lib.hid ((HU.out.alloc (.cells #[.int .u64 (y : Nat)] TU)).trans hu3 (fun q hq h => absurd hq (Nat.not_lt.2 (HO.out.lt q h).1)))
            go_wp2_with fail
            go_roundw
            case rel => exact ⟨j + 1, by omega, by go_num, by rw [nums_succ, HX.out]; exact hown, HU3.out⟩
            case measure => simp [intOf]; omega
          | true =>
            by_cases hjp : j = p
            · have hx : nxt bs r p true j = r := by unfold nxt; rw [if_pos rfl, if_pos hjp]
              have d6 : ((j : Int) == p) = true := by simp [hjp]
              have HX := Lib.hid hx
              have HJP := Lib.hid hjp
              clear hx hjp
              go_wp2_with (at_builtin; refine wpList_push rfl _ _ 38 rfl w1.heap.size TU i0 (.int .u64 0) 1 8 Try.underlying38 hi hz0 hz1 hz2 rfl (by decide) (by decide) _ _ _ rfl (ownsRow_upd HO.out ((Upd.refl _ _).alloc _) (fun _ _ h => h)) wB.heap.size 1 [.int .u64 (r : Nat)] rfl rfl (new_cells wB #[_] _) (by simp [Value.oneCell']) (by omega) (by simp; omega) ?_; intro v3 w3 hown hu3 hno)
              have HU3 := Lib.hid ((HU.out.alloc (.cells #[.int .u64 (r : Nat)] TU)).trans hu3 (fun q hq h => absurd hq (Nat.not_lt.2 (HO.out.lt q h).1)))
              go_wp2_with fail
              go_roundw
              case rel => exact ⟨j + 1, by omega, by go_num, by rw [nums_succ, HX.out]; exact hown, HU3.out⟩
              case measure => simp [intOf]; omega
            · have hx : nxt bs r p true j = bs j := by unfold nxt; rw [if_pos rfl, if_neg hjp]
              have d6 : ((j : Int) == p) = false := by simp; omega
              have HX := Lib.hid hx
              generalize bs j = bj at *
              clear hx
              go_wp2_with (at_builtin; refine wpList_push rfl _ _ 38 rfl w1.heap.size TU i0 (.int .u64 0) 1 8 Try.underlying38 hi hz0 hz1 hz2 rfl (by decide) (by decide) _ _ _ rfl (ownsRow_upd HO.out ((Upd.refl _ _).alloc _) (fun _ _ h => h)) wB.heap.size 1 [.int .u64 (bj : Nat)] rfl rfl (new_cells wB #[_] _) (by simp [Value.oneCell']) (by omega) (by simp; omega) ?_; intro v3 w3 hown hu3 hno)
              have HU3 := Lib.hid ((HU.out.alloc (.cells #[.int .u64 (bj : Nat)] TU)).trans hu3 (fun q hq h => absurd hq (Nat.not_lt.2 (HO.out.lt q h).1)))
              go_wp2_with fail
              go_roundw
              case rel => exact ⟨j + 1, by omega, by go_num, by rw [nums_succ, HX.out]; exact hown, HU3.out⟩
              case measure => simp [intOf]; omega
        · obtain rfl : j = k := by omega
          have HN2 : nums (nxt bs r p f) j = nums (pushed bs r p) j := by unfold nums; exact vals_congr (fun i _ => by rw [HNP.out i])
          have hown := HO.out
          rw [HN2] at hown
          have H1B := H1.out.old HU.out
          obtain ⟨-, -, -, f0, f1, f2⟩ := cells3 H1B.blk
          have hbo : (Value.slice ad2 j cc2).ownBlock ≠ some b := fun e => by
            have h1 := (hown.lt b e).1
            have h2 := H1.out.blk.lt
            omega
          have hbo2 : ∀ q, (Value.slice ad2 j cc2).ownBlock = some q → (Value.slice (some ⟨g, 0, none⟩) j c).ownBlock ≠ some q := fun q e e2 => by
            have h1 := (hown.lt q e).1
            have h2 := (H1.out.lst.lt q e2).2
            omega
          have H2 := Lib.hid (H1B.setB (ownsRow_base hown (Nat.le_trans hB HU1.out.size)) hbo hbo2)
          have HUb := Lib.hid ((HU.out.any (fun k => k = b)).setCell (a := ⟨b, 1, none⟩) (fun _ => rfl) (.slice ad2 j cc2))
          have HOW := Lib.hid hown
          have hszW : (wB.setCell ⟨b, 1, none⟩ (.slice ad2 j cc2)).heap.size = wB.heap.size := by simp
          clear hown HN2 H1B hbo hbo2 HO
          go_upto_region 22 with fail
          obtain ⟨w2, hw2⟩ : ∃ w2, wB.setCell ⟨b, 1, none⟩ (.slice ad2 j cc2) = w2 := ⟨_, rfl⟩
          rw [hw2] at H2 HUb hszW ⊢
          obtain ⟨x0, x1, x2, y0, y1, y2⟩ := cells3 H2.out.blk
          obtain ⟨k0, q0⟩ := H2.out.lcell hpk
          obtain ⟨ad3, cc3, e3, hn3, hs3⟩ := prow_src (H2.out.row p hpk)
          rw [e3] at k0
          obtain ⟨m, hm⟩ : ∃ m, (qs p).length = m := ⟨_, rfl⟩
          have hmq : m ≤ 4096 := by rw [← hm]; exact HQM.out
          have hpl : (pcs (qs p)).length = m * 2 := by rw [pcs_length, hm]
          have HS3 := Lib.hid hs3
          have HN3 := Lib.hid hn3
          have HPL := Lib.hid hpl
          have HM := Lib.hid hm
          have hp2 : (p : Int) < j := by omega
          rw [hm] at k0 HN3
          have HE3 := Lib.hid e3
          clear c0 c1 c2 b1 b2 f0 f1 f2 hw2 hs3 hn3 hpl hm e3
          go_upto_region 24 with (at_builtin; refine wpList_app rfl _ _ 93 rfl w2.heap.size TI j0 (.agg #[.int .u64 0, .int .i64 0]) 2 16 Try.underlying93 hj jz0 jz1 jz2 rfl (by decide) (by decide) (.slice none 0 0) 0 [] rfl (ownsRow_nil _ _ _ _) ad3 m cc3 (pcs (qs p)) rfl HN3.out HPL.out HS3.out (pcs_one _) (by omega) (Nat.le_refl _) ?_; intro v4 w4 hown4 hu4 hno4)
          rw [Nat.zero_add, List.nil_append] at hown4
          obtain ⟨ad4, c4, rfl⟩ := own_form hown4
          have hu5 : Upd Nowhere w2 w4 := hu4.mono (fun k _ h => by cases h)
          have HO4 := Lib.hid hown4
          have HU5 := Lib.hid hu5
          have hsz4 := hu5.size
          have H4 := Lib.hid (H2.out.old hu5)
          have HNO := Lib.hid (fun k (hk : RefOf b j (.slice ad2 j cc2) (.slice (some ⟨g, 0, none⟩) j c) vs k) (e : (Value.slice ad4 m c4).ownBlock = some k) => (absurd (H2.out.lts hk).2 (Nat.not_lt.2 (hown4.lt k e).1) : False))
          have a0 : (w4.alloc (.cells #[.int .u64 r, .int .i64 x] TI)).cell? ⟨b, 2, none⟩ = some (.slice (some ⟨g, 0, none⟩) j c) := cell_old ((Upd.refl _ _).alloc _) (cell_old hu5 x2)
          have a1 := cell_old hu5 x2
          have hm9 : m ≤ 999999999 := by omega
          clear hown4 hu4 hno4 hu5 x0 x1 x2 y0 y1 y2 k0 q0
          go_region_law (refine step_push rfl _ _ 93 rfl w2.heap.size TI j0 (.agg #[.int .u64 0, .int .i64 0]) 2 16 Try.underlying93 hj jz0 jz1 jz2 rfl (by decide) (by decide) (.slice ad4 m c4) m _ rfl (ownsRow_upd HO4.out (by repeat (first | with_reducible exact Upd.refl _ _ | with_reducible refine Upd.drew ?_ | with_reducible refine Upd.alloc ?_ _)) (fun _ _ h => h)) w4.heap.size 1 [.int .u64 r, .int .i64 x] rfl rfl (new_cells w4 #[.int .u64 r, .int .i64 x] _) (by simp [Value.oneCell']) hm9 (Nat.le_trans hsz4 (Upd.size (S := Nowhere) (by repeat (first | with_reducible exact Upd.refl _ _ | with_reducible refine Upd.drew ?_ | with_reducible refine Upd.alloc ?_ _)))) ?_; intro v6 w6 hown6 hu6 hn6; have hu7 : Upd (fun k => (Value.slice ad4 m c4).ownBlock = some k) w4 w6 := Upd.trans (S := fun k => (Value.slice ad4 m c4).ownBlock = some k) (by repeat (first | with_reducible exact Upd.refl _ _ | with_reducible refine Upd.drew ?_ | with_reducible refine Upd.alloc ?_ _)) hu6 (fun _ _ h => h); have H6 := Lib.hid (H4.out.kept hu7 HNO.out); obtain ⟨x0, x1, x2, y0, y1, y2⟩ := cells3 H6.out.blk; obtain ⟨k6, q6⟩ := H6.out.lcell hpk; obtain ⟨ad6, c6, rfl⟩ := own_form hown6; have HO6 := Lib.hid hown6; have HU7 := Lib.hid hu7; clear hown6 hu6 hn6 hu7)
          all_goals
            go_wp2_with fail
            go_ret2
            have hlo : ∀ k, (Value.slice ad6 (m + 1) c6).ownBlock = some k → w2.heap.size ≤ k := fun k hk => (HO6.out.lt k hk).1
            have hpr : PRow TI B w6 (.slice ad6 (m + 1) c6) (qs p ++ [(r, x)]) := PRow.push (n := m + 1) (r, x) (by rw [HM.out]) (ownsRow_base HO6.out (Nat.le_trans hB (Nat.le_trans HU1.out.size (by omega))))
            rw [HPP.out]
            refine ⟨rfl, _, _, H6.out.setQ hpk hpr (fun k hk => ?_), fun k hk => ?_, ?_⟩
            · have h1 := hlo k hk
              have h2 := H2.out.blk.lt
              have h3 := (H2.out.lst.lt g rfl).2
              omega
            · have hws : w.heap.size ≤ w1.heap.size := HU1.out.size
              rcases hk with h | h | h | ⟨q, hq, h⟩
              · exact .inl (.inl h)
              · exact .inr (Nat.le_trans hws (HOW.out.lt k h).1)
              · exact .inl (.inr (.inr (.inl h)))
              · by_cases hqp : q = p
                · subst hqp; rw [upd_at] at h; exact .inr (Nat.le_trans hws (Nat.le_trans (by omega) (hlo k h)))
                · rw [upd_ne _ _ hqp] at h; exact .inl (.inr (.inr (.inr ⟨q, hq, h⟩)))
            · have h1 : Upd (fun k => k = b ∨ (Value.slice (some ⟨g, 0, none⟩) j c).ownBlock = some k) w w2 := (HU1.out.any _).trans HUb.out (fun k _ h => .inl h)
              have h2 : Upd (fun k => k = b ∨ (Value.slice (some ⟨g, 0, none⟩) j c).ownBlock = some k) w w6 := (h1.trans HU5.out (fun _ _ h => h.elim)).trans HU7.out (fun k hk h => absurd hk (Nat.not_lt.2 (Nat.le_trans (Nat.le_trans HU1.out.size (by omega)) (HO4.out.lt k h).1)))
              exact h2.setCell (a := ⟨g, p, none⟩) (fun _ => .inr rfl) _
end
end Go.Proofs.Ytopibbaopglggaa.Ref12
