/- BucketConforms: what is taken, act by act. -/
import Derived.Test.YtgmiggnlhcldlaaBucketLaws
import Derived.Test.YtgmiggnlhcldlaaSteps
import Derived.Test.YtgmiggnlhcldlaaConfPlain
import Derived.Test.YtgmiggnlhcldlaaKeep
import Derived.Test.YtgmiggnlhcldlaaMix
import Derived.Deep.DeepCutAuto
import Derived.Deep.CutBlock
import Derived.Deep.RegionHeld3
import Derived.OpenShut
namespace Go.Proofs.Ytgmiggnlhcldlaa.Bucket
open Go.RowKit Go.Proofs BigFrame
open Wide (Gives four dg)
open Conf (tok tks got sg mg)
set_option maxHeartbeats 2000000
set_option maxRecDepth 100000
theorem info64 : (Try.prog.info? 22).map (fun i => (i.zero, i.size, i.bytes)) = some (some (.int .u64 0), 1, 8) := by kernel_rfl
def nums (l : List Nat) : List Value := l.map fun (x : Nat) => .int .u64 (x : Int)
theorem nums_len (l : List Nat) : (nums l).length = l.length := by simp [nums]
theorem nums_at {l : List Nat} {i x : Nat} (h : l[i]? = some x) : (nums l)[i]? = some (Value.int .u64 (x : Int)) := by simp [nums, h]
/-- What is done, as cells. -/
def act (a : Nat × Nat) : List Value := [.int .u64 a.1, .int .u64 a.2]
theorem act_at {l : List (Nat × Nat)} {i : Nat} {a : Nat × Nat} (h : l[i]? = some a) {j : Nat} {v : Value} (hj : (act a)[j]? = some v) : (l.flatMap act)[i * 2 + j]? = some v := by
  induction l generalizing i with
  | nil => simp at h
  | cons b l ih =>
    have hl : (act b).length = 2 := rfl
    rw [List.flatMap_cons]
    cases i with
    | zero =>
      simp only [List.getElem?_cons_zero, Option.some.injEq] at h
      subst h
      have hlt : j < 2 := by
        rcases Nat.lt_or_ge j 2 with h | h
        · exact h
        · rw [List.getElem?_eq_none (by rw [hl]; exact h)] at hj; cases hj
      rw [List.getElem?_append_left (by rw [hl]; omega), Nat.zero_mul, Nat.zero_add]
      exact hj
    | succ i =>
      rw [List.getElem?_append_right (by rw [hl]; omega), hl, show (i + 1) * 2 + j - 2 = i * 2 + j by omega]
      exact ih (by simpa using h)
/-- The first k, in a row. -/
def firsts (f : Nat → Nat) (k : Nat) : List Value := nums ((List.range k).map f)
theorem firsts_len (f : Nat → Nat) (k : Nat) : (firsts f k).length = k := by simp [firsts, nums]
theorem firsts_succ (f : Nat → Nat) (k : Nat) : firsts f (k + 1) = firsts f k ++ [.int .u64 (f k : Nat)] := by
  unfold firsts nums; rw [List.range_succ, List.map_append, List.map_append]; rfl
theorem firsts_at (f : Nat → Nat) {k i : Nat} (h : i < k) : (firsts f k)[i]? = some (.int .u64 (f i : Nat)) := by
  unfold firsts; exact nums_at (by simp [h])
/-- The numbers of ticks. -/
def tk (l : List (Nat × Nat)) (k : Nat) : Nat := (l.getD k (0, 0)).1
theorem one_new {W : World} {g : Nat} {x : Value} (h : W.cell? ⟨g, 0, none⟩ = some x) : ∀ (j : Nat) (u : Value), [x][j]? = some u → W.cell? ⟨g, j, none⟩ = some u := fun j u hu => by
  cases j with
  | zero => simp at hu; subst hu; exact h
  | succ j => simp at hu
theorem cell_upd {w w2 : World} {S : Nat → Prop} {b : Nat} {v : Value} (hu : Upd S w w2) (hs : ¬ S b) (h : w.cell? ⟨b, 0, none⟩ = some v) : w2.cell? ⟨b, 0, none⟩ = some v := (hu.cell 0 (cell_lt h) hs).trans h
theorem tk_le (l : List (Nat × Nat)) (h : ∀ (i : Nat) (a : Nat × Nat), l[i]? = some a → a.1 ≤ 18446744073709551615 ∧ a.2 ≤ 18446744073709551615) (k : Nat) : tk l k ≤ 18446744073709551615 := by
  unfold tk
  rw [List.getD_eq_getElem?_getD]
  cases hk : l[k]? with
  | none => simp
  | some a => exact (h k a hk).1
theorem dg3_zero {p : Nat} (h : p < 79228162514264337593543950336) : dg p 3 = 0 := by
  unfold Wide.dg
  rw [Nat.div_eq_of_lt (by simpa using h)]
theorem dg3_pos {p : Nat} (h : 79228162514264337593543950336 ≤ p) (h2 : p < 340282366920938463463374607431768211456) : 0 < dg p 3 := by
  unfold Wide.dg
  have e : (4294967296 : Nat) ^ 3 = 79228162514264337593543950336 := by decide
  rw [e, Nat.mod_eq_of_lt (by rw [Nat.div_lt_iff_lt_mul (by decide)]; exact h2)]
  exact Nat.div_pos h (by decide)
theorem cell_of_heap {W W' : World} (h : W.heap = W'.heap) {a : Addr} {v : Value} (hc : W'.cell? a = some v) : W.cell? a = some v := by
  rw [← hc]; unfold World.cell?; rw [h]
theorem c_new (W : World) (x : Value) (t : TypeId) : (W.alloc (.cells #[x] t)).cell? ⟨W.heap.size, 0, none⟩ = some x := (Blk.new W #[x] t).cellAt rfl
theorem c_new2 (W : World) (o : Obj) (x : Value) (t : TypeId) : ((W.alloc o).alloc (.cells #[x] t)).cell? ⟨W.heap.size + 1, 0, none⟩ = some x := (Blk.new2 W _ _ _).cellAt rfl
theorem c_old2 (W : World) (o : Obj) (x : Value) (t : TypeId) : ((W.alloc (.cells #[x] t)).alloc o).cell? ⟨W.heap.size, 0, none⟩ = some x := ((Blk.new W #[x] t).alloc o).cellAt rfl
/-- A round of the first loop: the bucket, and what is taken. -/
theorem turn_any (r b t n q : Nat) (hr : r ≤ 18446744073709551615) (hb : b ≤ 18446744073709551615) (hn : n ≤ 18446744073709551615) (hc : chk r b t = 0) :
    ∃ (m t' g : Nat) (is : Bool), m ≤ b ∧ min (t + r * n) b = m ∧ t' = (if q ≤ m then m - q else m) ∧ g = (if q ≤ m then q else 0) ∧ is = decide (q ≤ m) ∧
      (∀ u, Hid (Calls Try.prog 20 #[.agg #[.int .u64 r, .int .u64 b, .int .u64 t], .int .u64 n] u fun e w' => Gives u (.agg #[.int .u64 r, .int .u64 b, .int .u64 (m : Nat)]) e w')) ∧
      (∀ u, Hid (Calls Try.prog 13 #[.agg #[.int .u64 r, .int .u64 b, .int .u64 m], .int .u64 q] u fun e w' => Gives u (.tuple #[.agg #[.int .u64 r, .int .u64 b, .int .u64 (t' : Nat)], .bool is]) e w')) := by
  have hm : min (t + r * n) b ≤ b := Nat.min_le_right _ _
  have h1 := fun u => Lib.hid (tick_ok r b t n hr hb hn hc u)
  generalize min (t + r * n) b = m at *
  have hc2 : chk r b m = 0 := chk_ok.2 ⟨(chk_ok.1 hc).1, (chk_ok.1 hc).2.1, hm⟩
  by_cases hq : q ≤ m
  · refine ⟨m, m - q, q, true, hm, rfl, (if_pos hq).symm, (if_pos hq).symm, (decide_eq_true hq).symm, h1, fun u => Lib.hid (take_yes r b m q hc2 (Nat.le_trans hm hb) hq u)⟩
  · refine ⟨m, m, 0, false, hm, rfl, (if_neg hq).symm, (if_neg hq).symm, (decide_eq_false hq).symm, h1, fun u => Lib.hid (take_less r b m q hc2 (by omega) u)⟩
theorem first_loop (r b : Nat) (ad : Option Addr) (ca : Nat) (l : List (Nat × Nat)) (hr : r ≤ 18446744073709551615) (hb : b ≤ 18446744073709551615) (hc : chk r b b = 0) (hl : l.length ≤ 60) (hbl : ∀ (i : Nat) (a : Nat × Nat), l[i]? = some a → a.1 ≤ 18446744073709551615 ∧ a.2 ≤ 18446744073709551615) (w : World)
    (ha0 : ad = none → l.length = 0) (ha : ∀ b, ad = some b → ∀ (j : Nat) (v : Value), (l.flatMap act)[j]? = some v → b.spot = none ∧ w.cell? ⟨b.block, b.off + j, none⟩ = some v) :
    Calls Try.prog 4 #[.int .u64 r, .int .u64 b, .slice ad l.length ca] w fun e w' => e = .returned (.bool true) ∧ Upd Nowhere w w' := by
  obtain ⟨n, hn⟩ : ∃ n, l.length = n := ⟨_, rfl⟩
  rw [hn] at hl ⊢
  have t0 : decide ((n : Int) > 60) = false := decide_eq_false (by omega)
  have t1 : decide (60 < (n : Int)) = false := decide_eq_false (by omega)
  obtain ⟨i0, hi, hz0, hz1, hz2⟩ := info_parts info64
  have HN := fun u => Lib.hid (new_ok r b hc u)
  have HL := fun u => Lib.hid (lives u)
  have Hn := Lib.hid hn
  have Hb := Lib.hid hbl
  have Ha0 := Lib.hid ha0
  have Ha := Lib.hid ha
  have HC := Lib.hid hc
  clear hn hbl ha0 ha hc
  go_enter Try.func4, Try.ntmps4
  go_wp2_with fail
  refine ((HN _).out).mono ?_
  rintro e w1 ⟨rfl, u1⟩
  have hU1 : Upd Nowhere w w1 := (Upd.refl _ _).trans u1 (fun _ _ h => h)
  go_wp2_with fail
  go_loopw [9, 10, 37] (fun gv tv i wr => ∃ (k : Nat), k ≤ n ∧ i = .int .i64 k ∧ Blk wr w1.heap.size #[.int .u64 r, .int .u64 b, .int .u64 (tok r b l k : Nat)] 25 ∧ Two 22 w.heap.size w wr w1.heap.size gv tv (firsts (got r b l) k) (firsts (tk l) k)) (fun _ _ i _ => n - (intOf i).toNat)
  case atStart =>
    refine ⟨0, by omega, rfl, Blk.new _ _ _, (hU1.alloc _).any _, Nat.le_refl _, by simp, ?_, ?_, (fun e => by cases e), (fun e => by cases e), fun k hk => by cases hk⟩
    · exact ownsRow_nil _ _ _ _
    · exact ownsRow_nil _ _ _ _
  case round =>
    obtain ⟨k, hk, rfl, hB, hT⟩ := hrel
    have HT := Lib.hid hT
    clear hT hU1
    by_cases hlt : k < n
    · have hI : (k : Int) < n := by omega
      obtain ⟨⟨tc, q⟩, hx⟩ : ∃ a, l[k]? = some a := ⟨l[k]'(by rw [Hn.out]; exact hlt), by simp⟩
      obtain ⟨hq1, hq2⟩ := Hb.out k _ hx
      simp only at hq1 hq2
      have hxd : l.getD k (0, 0) = (tc, q) := by simp [List.getD, hx]
      obtain ⟨ga, oa, rfl⟩ : ∃ ga oa, ad = some ⟨ga, oa, none⟩ := by
        cases ad with
        | none => have := Ha0.out rfl; rw [Hn.out] at this; omega
        | some b =>
          have hs := (Ha.out b rfl _ _ (act_at hx (j := 0) rfl)).1
          obtain ⟨g, o, sp⟩ := b
          simp only at hs
          subst hs
          exact ⟨g, o, rfl⟩
      have r0 : wr.cell? ⟨ga, oa + k * 2, none⟩ = some (.int .u64 tc) := cell_keep HT.out.upd rfl (Ha.out _ rfl _ _ (act_at hx (j := 0) rfl)).2
      have r1 : wr.cell? ⟨ga, oa + (k * 2 + 1), none⟩ = some (.int .u64 q) := cell_keep HT.out.upd rfl (Ha.out _ rfl _ _ (act_at hx (j := 1) rfl)).2
      have r2 : wr.cell? ⟨ga, oa + k * 2 + 1, none⟩ = some (.int .u64 q) := by rw [Nat.add_assoc]; exact r1
      have htb := Conf.tok_le r b l k
      obtain ⟨m, t', g, is, hmb, em, et, eg, eis, HK, HQ⟩ := turn_any r b (tok r b l k) tc q hr hb hq1 (chk_ok.2 ⟨(chk_ok.1 HC.out).1, (chk_ok.1 HC.out).2.1, htb⟩)
      have ET : Hid (tok r b l (k + 1) = t') := Lib.hid (by rw [Conf.tok, hxd, et]; simp only [em])
      have EG : Hid (got r b l k = g) := Lib.hid (by unfold Conf.got Conf.tks; rw [hxd, eg]; simp only [em])
      have EK : Hid (tk l k = tc) := Lib.hid (by unfold tk; rw [hxd])
      have EI : Hid (is = true → q = g) := Lib.hid (fun h => by rw [eg, if_pos (by rw [h] at eis; exact of_decide_eq_true eis.symm)])
      have EJ : Hid (is = false → g = 0) := Lib.hid (fun h => by rw [eg, if_neg (by rw [h] at eis; exact of_decide_eq_false eis.symm)])
      clear hx hxd et eg eis em htb
      obtain ⟨tt, htt⟩ : ∃ tt, tok r b l k = tt := ⟨_, rfl⟩
      rw [htt] at HK hB
      clear htt
      have sz0 := hB.lt
      have hgA : ¬ u9.ownBlock = some wr.heap.size := fun e => absurd (HT.out.put.lt _ e).2 (Nat.lt_irrefl _)
      have htA : ¬ u10.ownBlock = some wr.heap.size := fun e => absurd (HT.out.got.lt _ e).2 (Nat.lt_irrefl _)
      have szw := u1.size
      obtain ⟨cb0, cb1, cb2, zb0, zb1, zb2⟩ := cells3 hB
      go_wp2_with fail
      refine (HK _).out.mono ?_
      rintro e w11 ⟨rfl, u11⟩
      have hB11 : Blk w11 w1.heap.size #[.int .u64 r, .int .u64 b, .int .u64 tt] 25 := (hB.alloc _).kept u11 id
      have hA11 : Blk w11 wr.heap.size #[.int .u64 tc, .int .u64 q] 45 := (Blk.new _ _ _).kept u11 id
      have HT11 := Lib.hid ((HT.out.alloc _).old u11)
      clear cb0 cb1 cb2 zb0 zb1 zb2 HT hB
      obtain ⟨cb0, cb1, cb2, zb0, zb1, zb2⟩ := cells3 hB11
      obtain ⟨ca0, ca1, za0, za1⟩ := cells2 hA11
      have l_b := hB11.lt
      have l_a := hA11.lt
      go_wp2_with fail
      refine (HQ _).out.mono ?_
      rintro e w12 ⟨rfl, u12⟩
      have hB12 : Blk w12 w1.heap.size #[.int .u64 r, .int .u64 b, .int .u64 m] 25 := (hB11.put3 _ _ _).kept u12 id
      have hA12 : Blk w12 wr.heap.size #[.int .u64 tc, .int .u64 q] 45 := (hA11.far3 (g := w1.heap.size) (by first | (simp; done) | omega | (dsimp only; omega)) _ _ _).kept u12 id
      have HT12 := Lib.hid ((HT11.out.put3 szw _ _ _).old u12)
      clear l_a l_b cb0 cb1 cb2 zb0 zb1 zb2 ca0 ca1 za0 za1 HT11 hB11 hA11 u11
      obtain ⟨cb0, cb1, cb2, zb0, zb1, zb2⟩ := cells3 hB12
      obtain ⟨ca0, ca1, za0, za1⟩ := cells2 hA12
      have l_b := hB12.lt
      have l_a := hA12.lt
      cases is with
      | true =>
        obtain rfl := EI.out rfl
        clear EI EJ
        go_upto_region 14 with fail
        obtain ⟨wx, hwx⟩ : ∃ wx, (((w12.setCell ⟨w1.heap.size, 0, none⟩ (.int .u64 r)).setCell ⟨w1.heap.size, 1, none⟩ (.int .u64 b)).setCell ⟨w1.heap.size, 2, none⟩ (.int .u64 t')).alloc (.cells #[.int .u64 r, .int .u64 b, .int .u64 t'] 25) = wx := ⟨_, rfl⟩
        have hB3 : Blk wx w1.heap.size #[.int .u64 r, .int .u64 b, .int .u64 t'] 25 := by rw [← hwx]; exact (hB12.put3 _ _ _).alloc _
        have hA3 : Blk wx wr.heap.size #[.int .u64 tc, .int .u64 q] 45 := by rw [← hwx]; exact (hA12.far3 (g := w1.heap.size) (by first | (simp; done) | omega | (dsimp only; omega)) _ _ _).alloc _
        have HT3 := Lib.hid (show Two 22 w.heap.size w wx w1.heap.size u9 u10 _ _ by rw [← hwx]; exact (HT12.out.put3 szw _ _ _).alloc _)
        rw [hwx]
        clear l_a l_b cb0 cb1 cb2 zb0 zb1 zb2 ca0 ca1 za0 za1 HT12 hB12 hA12 u12 hwx HK HQ
        obtain ⟨ca0, ca1, za0, za1⟩ := cells2 hA3
        have hS0 : wx.drew.cell? ⟨wr.heap.size, 0, none⟩ = some (.int .u64 tc) := ca0
        go_region_held3 (fun w' => w'.cell? ⟨wr.heap.size, 0, none⟩ = some (.int .u64 tc)) (first | exact hS0 | assumption | exact cell_old ((Upd.refl _ _).alloc _) (by assumption)) (first
          | (refine step_push rfl _ _ 43 rfl w.heap.size 22 i0 (.int .u64 0) 1 8 Try.underlying43 hi hz0 hz1 hz2 rfl (by decide) (by decide) u9 _ _ rfl h2T.put _ _ [.int .u64 q] rfl rfl (one_new (by first | assumption | exact cell_of_heap (W' := wx.alloc (.cells #[(.int .u64 q)] 22)) rfl (c_new _ _ _) | exact cell_of_heap (W' := (wx.alloc (.cells #[(.int .u64 tc)] 22)).alloc (.cells #[(.int .u64 q)] 22)) rfl (c_new2 _ _ _ _) | exact cell_of_heap (W' := (wx.alloc (.cells #[(.int .u64 q)] 22)).alloc (.cells #[(.int .u64 tc)] 22)) rfl (c_old2 _ _ _ _) | exact cell_of_heap (W' := w3.alloc (.cells #[(.int .u64 q)] 22)) rfl (c_new _ _ _))) (by simp [Value.oneCell']) (by rw [firsts_len]; omega) (by have := h2T.base; first | exact this | (simp; omega)) ?_; intro v2 w2 hown2 hu2 hn2; have h1T := Two.pushP h2T hown2 hu2 hn2; have h1B := Blk.kept h2B hu2 h2T.pb; have h1C := cell_upd hu2 hgA (by assumption); first | (have h1P : w2.cell? ⟨wx.heap.size + 1, 0, none⟩ = some (.int .u64 tc) := cell_upd hu2 (fun e => absurd (HT3.out.put.lt _ e).2 (by omega)) (cell_of_heap (W' := (wx.alloc (.cells #[(.int .u64 q)] 22)).alloc (.cells #[(.int .u64 tc)] 22)) rfl (c_new2 _ _ _ _))) | (have h1P : w2.cell? ⟨wx.heap.size, 0, none⟩ = some (.int .u64 tc) := cell_upd hu2 (fun e => absurd (HT3.out.put.lt _ e).2 (by omega)) (cell_of_heap (W' := (wx.alloc (.cells #[(.int .u64 tc)] 22)).alloc (.cells #[(.int .u64 q)] 22)) rfl (c_old2 _ _ _ _))) | skip)
          | (refine step_push rfl _ _ 43 rfl w.heap.size 22 i0 (.int .u64 0) 1 8 Try.underlying43 hi hz0 hz1 hz2 rfl (by decide) (by decide) u9 _ _ rfl (h2T.alloc _).put _ _ [.int .u64 q] rfl rfl (one_new (by first | assumption | exact cell_of_heap (W' := wx.alloc (.cells #[(.int .u64 q)] 22)) rfl (c_new _ _ _) | exact cell_of_heap (W' := (wx.alloc (.cells #[(.int .u64 tc)] 22)).alloc (.cells #[(.int .u64 q)] 22)) rfl (c_new2 _ _ _ _) | exact cell_of_heap (W' := (wx.alloc (.cells #[(.int .u64 q)] 22)).alloc (.cells #[(.int .u64 tc)] 22)) rfl (c_old2 _ _ _ _) | exact cell_of_heap (W' := w3.alloc (.cells #[(.int .u64 q)] 22)) rfl (c_new _ _ _))) (by simp [Value.oneCell']) (by rw [firsts_len]; omega) (by have := h2T.base; simp; omega) ?_; intro v2 w2 hown2 hu2 hn2; have h1T := Two.pushP (h2T.alloc _) hown2 hu2 hn2; have h1B := Blk.kept (h2B.alloc _) hu2 h2T.pb; have h1C := cell_upd hu2 hgA (by assumption); first | (have h1P : w2.cell? ⟨wx.heap.size + 1, 0, none⟩ = some (.int .u64 tc) := cell_upd hu2 (fun e => absurd (HT3.out.put.lt _ e).2 (by omega)) (cell_of_heap (W' := (wx.alloc (.cells #[(.int .u64 q)] 22)).alloc (.cells #[(.int .u64 tc)] 22)) rfl (c_new2 _ _ _ _))) | (have h1P : w2.cell? ⟨wx.heap.size, 0, none⟩ = some (.int .u64 tc) := cell_upd hu2 (fun e => absurd (HT3.out.put.lt _ e).2 (by omega)) (cell_of_heap (W' := (wx.alloc (.cells #[(.int .u64 tc)] 22)).alloc (.cells #[(.int .u64 q)] 22)) rfl (c_old2 _ _ _ _))) | skip)
          | (refine step_push rfl _ _ 43 rfl w.heap.size 22 i0 (.int .u64 0) 1 8 Try.underlying43 hi hz0 hz1 hz2 rfl (by decide) (by decide) u9 _ _ rfl (HT3.out.drew.alloc _).put _ _ [.int .u64 q] rfl rfl (one_new (by first | assumption | exact cell_of_heap (W' := wx.alloc (.cells #[(.int .u64 q)] 22)) rfl (c_new _ _ _) | exact cell_of_heap (W' := (wx.alloc (.cells #[(.int .u64 tc)] 22)).alloc (.cells #[(.int .u64 q)] 22)) rfl (c_new2 _ _ _ _) | exact cell_of_heap (W' := (wx.alloc (.cells #[(.int .u64 q)] 22)).alloc (.cells #[(.int .u64 tc)] 22)) rfl (c_old2 _ _ _ _) | exact cell_of_heap (W' := w3.alloc (.cells #[(.int .u64 q)] 22)) rfl (c_new _ _ _))) (by simp [Value.oneCell']) (by rw [firsts_len]; omega) (by have := HT3.out.base; simp; omega) ?_; intro v2 w2 hown2 hu2 hn2; have h1T := Two.pushP (HT3.out.drew.alloc _) hown2 hu2 hn2; have h1B := Blk.kept (hB3.drew.alloc _) hu2 HT3.out.pb; have h1C := cell_upd hu2 hgA (by assumption); first | (have h1P : w2.cell? ⟨wx.heap.size + 1, 0, none⟩ = some (.int .u64 tc) := cell_upd hu2 (fun e => absurd (HT3.out.put.lt _ e).2 (by omega)) (cell_of_heap (W' := (wx.alloc (.cells #[(.int .u64 q)] 22)).alloc (.cells #[(.int .u64 tc)] 22)) rfl (c_new2 _ _ _ _))) | (have h1P : w2.cell? ⟨wx.heap.size, 0, none⟩ = some (.int .u64 tc) := cell_upd hu2 (fun e => absurd (HT3.out.put.lt _ e).2 (by omega)) (cell_of_heap (W' := (wx.alloc (.cells #[(.int .u64 tc)] 22)).alloc (.cells #[(.int .u64 q)] 22)) rfl (c_old2 _ _ _ _))) | skip)
          | (refine step_push rfl _ _ 43 rfl w.heap.size 22 i0 (.int .u64 0) 1 8 Try.underlying43 hi hz0 hz1 hz2 rfl (by decide) (by decide) u9 _ _ rfl ((HT3.out.drew.alloc _).alloc _).put _ _ [.int .u64 q] rfl rfl (one_new (by first | assumption | exact cell_of_heap (W' := wx.alloc (.cells #[(.int .u64 q)] 22)) rfl (c_new _ _ _) | exact cell_of_heap (W' := (wx.alloc (.cells #[(.int .u64 tc)] 22)).alloc (.cells #[(.int .u64 q)] 22)) rfl (c_new2 _ _ _ _) | exact cell_of_heap (W' := (wx.alloc (.cells #[(.int .u64 q)] 22)).alloc (.cells #[(.int .u64 tc)] 22)) rfl (c_old2 _ _ _ _) | exact cell_of_heap (W' := w3.alloc (.cells #[(.int .u64 q)] 22)) rfl (c_new _ _ _))) (by simp [Value.oneCell']) (by rw [firsts_len]; omega) (by have := HT3.out.base; simp; omega) ?_; intro v2 w2 hown2 hu2 hn2; have h1T := Two.pushP ((HT3.out.drew.alloc _).alloc _) hown2 hu2 hn2; have h1B := Blk.kept ((hB3.drew.alloc _).alloc _) hu2 HT3.out.pb; have h1C := cell_upd hu2 hgA (by assumption); first | (have h1P : w2.cell? ⟨wx.heap.size + 1, 0, none⟩ = some (.int .u64 tc) := cell_upd hu2 (fun e => absurd (HT3.out.put.lt _ e).2 (by omega)) (cell_of_heap (W' := (wx.alloc (.cells #[(.int .u64 q)] 22)).alloc (.cells #[(.int .u64 tc)] 22)) rfl (c_new2 _ _ _ _))) | (have h1P : w2.cell? ⟨wx.heap.size, 0, none⟩ = some (.int .u64 tc) := cell_upd hu2 (fun e => absurd (HT3.out.put.lt _ e).2 (by omega)) (cell_of_heap (W' := (wx.alloc (.cells #[(.int .u64 tc)] 22)).alloc (.cells #[(.int .u64 q)] 22)) rfl (c_old2 _ _ _ _))) | skip)
          | (refine step_push rfl _ _ 43 rfl w.heap.size 22 i0 (.int .u64 0) 1 8 Try.underlying43 hi hz0 hz1 hz2 rfl (by decide) (by decide) u10 _ _ rfl h1T.got _ _ [.int .u64 tc] rfl rfl (one_new (by first | assumption | exact cell_of_heap (W' := wx.alloc (.cells #[(.int .u64 tc)] 22)) rfl (c_new _ _ _) | exact cell_of_heap (W' := (wx.alloc (.cells #[(.int .u64 q)] 22)).alloc (.cells #[(.int .u64 tc)] 22)) rfl (c_new2 _ _ _ _) | exact cell_of_heap (W' := (wx.alloc (.cells #[(.int .u64 tc)] 22)).alloc (.cells #[(.int .u64 q)] 22)) rfl (c_old2 _ _ _ _) | exact cell_of_heap (W' := w2.alloc (.cells #[(.int .u64 tc)] 22)) rfl (c_new _ _ _))) (by simp [Value.oneCell']) (by rw [firsts_len]; omega) (by have := h1T.base; first | exact this | (simp; omega)) ?_; intro v3 w3 hown3 hu3 hn3; have h2T := Two.pushG h1T hown3 hu3 hn3; have h2B := Blk.kept h1B hu3 h1T.gb; have h2C := cell_upd hu3 htA (by assumption); first | (have h2P : w3.cell? ⟨wx.heap.size + 1, 0, none⟩ = some (.int .u64 q) := cell_upd hu3 (fun e => absurd (HT3.out.got.lt _ e).2 (by omega)) (cell_of_heap (W' := (wx.alloc (.cells #[(.int .u64 tc)] 22)).alloc (.cells #[(.int .u64 q)] 22)) rfl (c_new2 _ _ _ _))) | (have h2P : w3.cell? ⟨wx.heap.size, 0, none⟩ = some (.int .u64 q) := cell_upd hu3 (fun e => absurd (HT3.out.got.lt _ e).2 (by omega)) (cell_of_heap (W' := (wx.alloc (.cells #[(.int .u64 q)] 22)).alloc (.cells #[(.int .u64 tc)] 22)) rfl (c_old2 _ _ _ _))) | skip)
          | (refine step_push rfl _ _ 43 rfl w.heap.size 22 i0 (.int .u64 0) 1 8 Try.underlying43 hi hz0 hz1 hz2 rfl (by decide) (by decide) u10 _ _ rfl (h1T.alloc _).got _ _ [.int .u64 tc] rfl rfl (one_new (by first | assumption | exact cell_of_heap (W' := wx.alloc (.cells #[(.int .u64 tc)] 22)) rfl (c_new _ _ _) | exact cell_of_heap (W' := (wx.alloc (.cells #[(.int .u64 q)] 22)).alloc (.cells #[(.int .u64 tc)] 22)) rfl (c_new2 _ _ _ _) | exact cell_of_heap (W' := (wx.alloc (.cells #[(.int .u64 tc)] 22)).alloc (.cells #[(.int .u64 q)] 22)) rfl (c_old2 _ _ _ _) | exact cell_of_heap (W' := w2.alloc (.cells #[(.int .u64 tc)] 22)) rfl (c_new _ _ _))) (by simp [Value.oneCell']) (by rw [firsts_len]; omega) (by have := h1T.base; simp; omega) ?_; intro v3 w3 hown3 hu3 hn3; have h2T := Two.pushG (h1T.alloc _) hown3 hu3 hn3; have h2B := Blk.kept (h1B.alloc _) hu3 h1T.gb; have h2C := cell_upd hu3 htA (by assumption); first | (have h2P : w3.cell? ⟨wx.heap.size + 1, 0, none⟩ = some (.int .u64 q) := cell_upd hu3 (fun e => absurd (HT3.out.got.lt _ e).2 (by omega)) (cell_of_heap (W' := (wx.alloc (.cells #[(.int .u64 tc)] 22)).alloc (.cells #[(.int .u64 q)] 22)) rfl (c_new2 _ _ _ _))) | (have h2P : w3.cell? ⟨wx.heap.size, 0, none⟩ = some (.int .u64 q) := cell_upd hu3 (fun e => absurd (HT3.out.got.lt _ e).2 (by omega)) (cell_of_heap (W' := (wx.alloc (.cells #[(.int .u64 q)] 22)).alloc (.cells #[(.int .u64 tc)] 22)) rfl (c_old2 _ _ _ _))) | skip)
          | (refine step_push rfl _ _ 43 rfl w.heap.size 22 i0 (.int .u64 0) 1 8 Try.underlying43 hi hz0 hz1 hz2 rfl (by decide) (by decide) u10 _ _ rfl (HT3.out.drew.alloc _).got _ _ [.int .u64 tc] rfl rfl (one_new (by first | assumption | exact cell_of_heap (W' := wx.alloc (.cells #[(.int .u64 tc)] 22)) rfl (c_new _ _ _) | exact cell_of_heap (W' := (wx.alloc (.cells #[(.int .u64 q)] 22)).alloc (.cells #[(.int .u64 tc)] 22)) rfl (c_new2 _ _ _ _) | exact cell_of_heap (W' := (wx.alloc (.cells #[(.int .u64 tc)] 22)).alloc (.cells #[(.int .u64 q)] 22)) rfl (c_old2 _ _ _ _) | exact cell_of_heap (W' := w2.alloc (.cells #[(.int .u64 tc)] 22)) rfl (c_new _ _ _))) (by simp [Value.oneCell']) (by rw [firsts_len]; omega) (by have := HT3.out.base; simp; omega) ?_; intro v3 w3 hown3 hu3 hn3; have h2T := Two.pushG (HT3.out.drew.alloc _) hown3 hu3 hn3; have h2B := Blk.kept (hB3.drew.alloc _) hu3 HT3.out.gb; have h2C := cell_upd hu3 htA (by assumption); first | (have h2P : w3.cell? ⟨wx.heap.size + 1, 0, none⟩ = some (.int .u64 q) := cell_upd hu3 (fun e => absurd (HT3.out.got.lt _ e).2 (by omega)) (cell_of_heap (W' := (wx.alloc (.cells #[(.int .u64 tc)] 22)).alloc (.cells #[(.int .u64 q)] 22)) rfl (c_new2 _ _ _ _))) | (have h2P : w3.cell? ⟨wx.heap.size, 0, none⟩ = some (.int .u64 q) := cell_upd hu3 (fun e => absurd (HT3.out.got.lt _ e).2 (by omega)) (cell_of_heap (W' := (wx.alloc (.cells #[(.int .u64 q)] 22)).alloc (.cells #[(.int .u64 tc)] 22)) rfl (c_old2 _ _ _ _))) | skip)
          | (refine step_push rfl _ _ 43 rfl w.heap.size 22 i0 (.int .u64 0) 1 8 Try.underlying43 hi hz0 hz1 hz2 rfl (by decide) (by decide) u10 _ _ rfl ((HT3.out.drew.alloc _).alloc _).got _ _ [.int .u64 tc] rfl rfl (one_new (by first | assumption | exact cell_of_heap (W' := wx.alloc (.cells #[(.int .u64 tc)] 22)) rfl (c_new _ _ _) | exact cell_of_heap (W' := (wx.alloc (.cells #[(.int .u64 q)] 22)).alloc (.cells #[(.int .u64 tc)] 22)) rfl (c_new2 _ _ _ _) | exact cell_of_heap (W' := (wx.alloc (.cells #[(.int .u64 tc)] 22)).alloc (.cells #[(.int .u64 q)] 22)) rfl (c_old2 _ _ _ _) | exact cell_of_heap (W' := w2.alloc (.cells #[(.int .u64 tc)] 22)) rfl (c_new _ _ _))) (by simp [Value.oneCell']) (by rw [firsts_len]; omega) (by have := HT3.out.base; simp; omega) ?_; intro v3 w3 hown3 hu3 hn3; have h2T := Two.pushG ((HT3.out.drew.alloc _).alloc _) hown3 hu3 hn3; have h2B := Blk.kept ((hB3.drew.alloc _).alloc _) hu3 HT3.out.gb; have h2C := cell_upd hu3 htA (by assumption); first | (have h2P : w3.cell? ⟨wx.heap.size + 1, 0, none⟩ = some (.int .u64 q) := cell_upd hu3 (fun e => absurd (HT3.out.got.lt _ e).2 (by omega)) (cell_of_heap (W' := (wx.alloc (.cells #[(.int .u64 tc)] 22)).alloc (.cells #[(.int .u64 q)] 22)) rfl (c_new2 _ _ _ _))) | (have h2P : w3.cell? ⟨wx.heap.size, 0, none⟩ = some (.int .u64 q) := cell_upd hu3 (fun e => absurd (HT3.out.got.lt _ e).2 (by omega)) (cell_of_heap (W' := (wx.alloc (.cells #[(.int .u64 q)] 22)).alloc (.cells #[(.int .u64 tc)] 22)) rfl (c_old2 _ _ _ _))) | skip))
        all_goals
          go_wp2_with fail
          go_roundw
          case rel =>
            refine ⟨k + 1, by omega, by go_num, ?_, ?_⟩
            · rw [ET.out]; first | exact h1B | exact h2B
            · rw [firsts_succ, firsts_succ, EG.out, EK.out]; first | exact h1T | exact h2T
          case measure => simp [intOf]; omega
      | false =>
        obtain rfl := EJ.out rfl
        clear EI EJ
        go_upto_region 14 with fail
        obtain ⟨wx, hwx⟩ : ∃ wx, (((w12.setCell ⟨w1.heap.size, 0, none⟩ (.int .u64 r)).setCell ⟨w1.heap.size, 1, none⟩ (.int .u64 b)).setCell ⟨w1.heap.size, 2, none⟩ (.int .u64 t')).alloc (.cells #[.int .u64 r, .int .u64 b, .int .u64 t'] 25) = wx := ⟨_, rfl⟩
        have hB3 : Blk wx w1.heap.size #[.int .u64 r, .int .u64 b, .int .u64 t'] 25 := by rw [← hwx]; exact (hB12.put3 _ _ _).alloc _
        have hA3 : Blk wx wr.heap.size #[.int .u64 tc, .int .u64 q] 45 := by rw [← hwx]; exact (hA12.far3 (g := w1.heap.size) (by first | (simp; done) | omega | (dsimp only; omega)) _ _ _).alloc _
        have HT3 := Lib.hid (show Two 22 w.heap.size w wx w1.heap.size u9 u10 _ _ by rw [← hwx]; exact (HT12.out.put3 szw _ _ _).alloc _)
        rw [hwx]
        clear l_a l_b cb0 cb1 cb2 zb0 zb1 zb2 ca0 ca1 za0 za1 HT12 hB12 hA12 u12 hwx HK HQ
        obtain ⟨ca0, ca1, za0, za1⟩ := cells2 hA3
        have hS0 : wx.drew.cell? ⟨wr.heap.size, 0, none⟩ = some (.int .u64 tc) := ca0
        go_region_held3 (fun w' => w'.cell? ⟨wr.heap.size, 0, none⟩ = some (.int .u64 tc)) (first | exact hS0 | assumption | exact cell_old ((Upd.refl _ _).alloc _) (by assumption)) (first
          | (refine step_push rfl _ _ 43 rfl w.heap.size 22 i0 (.int .u64 0) 1 8 Try.underlying43 hi hz0 hz1 hz2 rfl (by decide) (by decide) u9 _ _ rfl h2T.put _ _ [.int .u64 0] rfl rfl (one_new (by first | assumption | exact cell_of_heap (W' := wx.alloc (.cells #[(.int .u64 0)] 22)) rfl (c_new _ _ _) | exact cell_of_heap (W' := (wx.alloc (.cells #[(.int .u64 tc)] 22)).alloc (.cells #[(.int .u64 0)] 22)) rfl (c_new2 _ _ _ _) | exact cell_of_heap (W' := (wx.alloc (.cells #[(.int .u64 0)] 22)).alloc (.cells #[(.int .u64 tc)] 22)) rfl (c_old2 _ _ _ _) | exact cell_of_heap (W' := w3.alloc (.cells #[(.int .u64 0)] 22)) rfl (c_new _ _ _))) (by simp [Value.oneCell']) (by rw [firsts_len]; omega) (by have := h2T.base; first | exact this | (simp; omega)) ?_; intro v2 w2 hown2 hu2 hn2; have h1T := Two.pushP h2T hown2 hu2 hn2; have h1B := Blk.kept h2B hu2 h2T.pb; have h1C := cell_upd hu2 hgA (by assumption); first | (have h1P : w2.cell? ⟨wx.heap.size + 1, 0, none⟩ = some (.int .u64 tc) := cell_upd hu2 (fun e => absurd (HT3.out.put.lt _ e).2 (by omega)) (cell_of_heap (W' := (wx.alloc (.cells #[(.int .u64 0)] 22)).alloc (.cells #[(.int .u64 tc)] 22)) rfl (c_new2 _ _ _ _))) | (have h1P : w2.cell? ⟨wx.heap.size, 0, none⟩ = some (.int .u64 tc) := cell_upd hu2 (fun e => absurd (HT3.out.put.lt _ e).2 (by omega)) (cell_of_heap (W' := (wx.alloc (.cells #[(.int .u64 tc)] 22)).alloc (.cells #[(.int .u64 0)] 22)) rfl (c_old2 _ _ _ _))) | skip)
          | (refine step_push rfl _ _ 43 rfl w.heap.size 22 i0 (.int .u64 0) 1 8 Try.underlying43 hi hz0 hz1 hz2 rfl (by decide) (by decide) u9 _ _ rfl (h2T.alloc _).put _ _ [.int .u64 0] rfl rfl (one_new (by first | assumption | exact cell_of_heap (W' := wx.alloc (.cells #[(.int .u64 0)] 22)) rfl (c_new _ _ _) | exact cell_of_heap (W' := (wx.alloc (.cells #[(.int .u64 tc)] 22)).alloc (.cells #[(.int .u64 0)] 22)) rfl (c_new2 _ _ _ _) | exact cell_of_heap (W' := (wx.alloc (.cells #[(.int .u64 0)] 22)).alloc (.cells #[(.int .u64 tc)] 22)) rfl (c_old2 _ _ _ _) | exact cell_of_heap (W' := w3.alloc (.cells #[(.int .u64 0)] 22)) rfl (c_new _ _ _))) (by simp [Value.oneCell']) (by rw [firsts_len]; omega) (by have := h2T.base; simp; omega) ?_; intro v2 w2 hown2 hu2 hn2; have h1T := Two.pushP (h2T.alloc _) hown2 hu2 hn2; have h1B := Blk.kept (h2B.alloc _) hu2 h2T.pb; have h1C := cell_upd hu2 hgA (by assumption); first | (have h1P : w2.cell? ⟨wx.heap.size + 1, 0, none⟩ = some (.int .u64 tc) := cell_upd hu2 (fun e => absurd (HT3.out.put.lt _ e).2 (by omega)) (cell_of_heap (W' := (wx.alloc (.cells #[(.int .u64 0)] 22)).alloc (.cells #[(.int .u64 tc)] 22)) rfl (c_new2 _ _ _ _))) | (have h1P : w2.cell? ⟨wx.heap.size, 0, none⟩ = some (.int .u64 tc) := cell_upd hu2 (fun e => absurd (HT3.out.put.lt _ e).2 (by omega)) (cell_of_heap (W' := (wx.alloc (.cells #[(.int .u64 tc)] 22)).alloc (.cells #[(.int .u64 0)] 22)) rfl (c_old2 _ _ _ _))) | skip)
          | (refine step_push rfl _ _ 43 rfl w.heap.size 22 i0 (.int .u64 0) 1 8 Try.underlying43 hi hz0 hz1 hz2 rfl (by decide) (by decide) u9 _ _ rfl (HT3.out.drew.alloc _).put _ _ [.int .u64 0] rfl rfl (one_new (by first | assumption | exact cell_of_heap (W' := wx.alloc (.cells #[(.int .u64 0)] 22)) rfl (c_new _ _ _) | exact cell_of_heap (W' := (wx.alloc (.cells #[(.int .u64 tc)] 22)).alloc (.cells #[(.int .u64 0)] 22)) rfl (c_new2 _ _ _ _) | exact cell_of_heap (W' := (wx.alloc (.cells #[(.int .u64 0)] 22)).alloc (.cells #[(.int .u64 tc)] 22)) rfl (c_old2 _ _ _ _) | exact cell_of_heap (W' := w3.alloc (.cells #[(.int .u64 0)] 22)) rfl (c_new _ _ _))) (by simp [Value.oneCell']) (by rw [firsts_len]; omega) (by have := HT3.out.base; simp; omega) ?_; intro v2 w2 hown2 hu2 hn2; have h1T := Two.pushP (HT3.out.drew.alloc _) hown2 hu2 hn2; have h1B := Blk.kept (hB3.drew.alloc _) hu2 HT3.out.pb; have h1C := cell_upd hu2 hgA (by assumption); first | (have h1P : w2.cell? ⟨wx.heap.size + 1, 0, none⟩ = some (.int .u64 tc) := cell_upd hu2 (fun e => absurd (HT3.out.put.lt _ e).2 (by omega)) (cell_of_heap (W' := (wx.alloc (.cells #[(.int .u64 0)] 22)).alloc (.cells #[(.int .u64 tc)] 22)) rfl (c_new2 _ _ _ _))) | (have h1P : w2.cell? ⟨wx.heap.size, 0, none⟩ = some (.int .u64 tc) := cell_upd hu2 (fun e => absurd (HT3.out.put.lt _ e).2 (by omega)) (cell_of_heap (W' := (wx.alloc (.cells #[(.int .u64 tc)] 22)).alloc (.cells #[(.int .u64 0)] 22)) rfl (c_old2 _ _ _ _))) | skip)
          | (refine step_push rfl _ _ 43 rfl w.heap.size 22 i0 (.int .u64 0) 1 8 Try.underlying43 hi hz0 hz1 hz2 rfl (by decide) (by decide) u9 _ _ rfl ((HT3.out.drew.alloc _).alloc _).put _ _ [.int .u64 0] rfl rfl (one_new (by first | assumption | exact cell_of_heap (W' := wx.alloc (.cells #[(.int .u64 0)] 22)) rfl (c_new _ _ _) | exact cell_of_heap (W' := (wx.alloc (.cells #[(.int .u64 tc)] 22)).alloc (.cells #[(.int .u64 0)] 22)) rfl (c_new2 _ _ _ _) | exact cell_of_heap (W' := (wx.alloc (.cells #[(.int .u64 0)] 22)).alloc (.cells #[(.int .u64 tc)] 22)) rfl (c_old2 _ _ _ _) | exact cell_of_heap (W' := w3.alloc (.cells #[(.int .u64 0)] 22)) rfl (c_new _ _ _))) (by simp [Value.oneCell']) (by rw [firsts_len]; omega) (by have := HT3.out.base; simp; omega) ?_; intro v2 w2 hown2 hu2 hn2; have h1T := Two.pushP ((HT3.out.drew.alloc _).alloc _) hown2 hu2 hn2; have h1B := Blk.kept ((hB3.drew.alloc _).alloc _) hu2 HT3.out.pb; have h1C := cell_upd hu2 hgA (by assumption); first | (have h1P : w2.cell? ⟨wx.heap.size + 1, 0, none⟩ = some (.int .u64 tc) := cell_upd hu2 (fun e => absurd (HT3.out.put.lt _ e).2 (by omega)) (cell_of_heap (W' := (wx.alloc (.cells #[(.int .u64 0)] 22)).alloc (.cells #[(.int .u64 tc)] 22)) rfl (c_new2 _ _ _ _))) | (have h1P : w2.cell? ⟨wx.heap.size, 0, none⟩ = some (.int .u64 tc) := cell_upd hu2 (fun e => absurd (HT3.out.put.lt _ e).2 (by omega)) (cell_of_heap (W' := (wx.alloc (.cells #[(.int .u64 tc)] 22)).alloc (.cells #[(.int .u64 0)] 22)) rfl (c_old2 _ _ _ _))) | skip)
          | (refine step_push rfl _ _ 43 rfl w.heap.size 22 i0 (.int .u64 0) 1 8 Try.underlying43 hi hz0 hz1 hz2 rfl (by decide) (by decide) u10 _ _ rfl h1T.got _ _ [.int .u64 tc] rfl rfl (one_new (by first | assumption | exact cell_of_heap (W' := wx.alloc (.cells #[(.int .u64 tc)] 22)) rfl (c_new _ _ _) | exact cell_of_heap (W' := (wx.alloc (.cells #[(.int .u64 0)] 22)).alloc (.cells #[(.int .u64 tc)] 22)) rfl (c_new2 _ _ _ _) | exact cell_of_heap (W' := (wx.alloc (.cells #[(.int .u64 tc)] 22)).alloc (.cells #[(.int .u64 0)] 22)) rfl (c_old2 _ _ _ _) | exact cell_of_heap (W' := w2.alloc (.cells #[(.int .u64 tc)] 22)) rfl (c_new _ _ _))) (by simp [Value.oneCell']) (by rw [firsts_len]; omega) (by have := h1T.base; first | exact this | (simp; omega)) ?_; intro v3 w3 hown3 hu3 hn3; have h2T := Two.pushG h1T hown3 hu3 hn3; have h2B := Blk.kept h1B hu3 h1T.gb; have h2C := cell_upd hu3 htA (by assumption); first | (have h2P : w3.cell? ⟨wx.heap.size + 1, 0, none⟩ = some (.int .u64 0) := cell_upd hu3 (fun e => absurd (HT3.out.got.lt _ e).2 (by omega)) (cell_of_heap (W' := (wx.alloc (.cells #[(.int .u64 tc)] 22)).alloc (.cells #[(.int .u64 0)] 22)) rfl (c_new2 _ _ _ _))) | (have h2P : w3.cell? ⟨wx.heap.size, 0, none⟩ = some (.int .u64 0) := cell_upd hu3 (fun e => absurd (HT3.out.got.lt _ e).2 (by omega)) (cell_of_heap (W' := (wx.alloc (.cells #[(.int .u64 0)] 22)).alloc (.cells #[(.int .u64 tc)] 22)) rfl (c_old2 _ _ _ _))) | skip)
          | (refine step_push rfl _ _ 43 rfl w.heap.size 22 i0 (.int .u64 0) 1 8 Try.underlying43 hi hz0 hz1 hz2 rfl (by decide) (by decide) u10 _ _ rfl (h1T.alloc _).got _ _ [.int .u64 tc] rfl rfl (one_new (by first | assumption | exact cell_of_heap (W' := wx.alloc (.cells #[(.int .u64 tc)] 22)) rfl (c_new _ _ _) | exact cell_of_heap (W' := (wx.alloc (.cells #[(.int .u64 0)] 22)).alloc (.cells #[(.int .u64 tc)] 22)) rfl (c_new2 _ _ _ _) | exact cell_of_heap (W' := (wx.alloc (.cells #[(.int .u64 tc)] 22)).alloc (.cells #[(.int .u64 0)] 22)) rfl (c_old2 _ _ _ _) | exact cell_of_heap (W' := w2.alloc (.cells #[(.int .u64 tc)] 22)) rfl (c_new _ _ _))) (by simp [Value.oneCell']) (by rw [firsts_len]; omega) (by have := h1T.base; simp; omega) ?_; intro v3 w3 hown3 hu3 hn3; have h2T := Two.pushG (h1T.alloc _) hown3 hu3 hn3; have h2B := Blk.kept (h1B.alloc _) hu3 h1T.gb; have h2C := cell_upd hu3 htA (by assumption); first | (have h2P : w3.cell? ⟨wx.heap.size + 1, 0, none⟩ = some (.int .u64 0) := cell_upd hu3 (fun e => absurd (HT3.out.got.lt _ e).2 (by omega)) (cell_of_heap (W' := (wx.alloc (.cells #[(.int .u64 tc)] 22)).alloc (.cells #[(.int .u64 0)] 22)) rfl (c_new2 _ _ _ _))) | (have h2P : w3.cell? ⟨wx.heap.size, 0, none⟩ = some (.int .u64 0) := cell_upd hu3 (fun e => absurd (HT3.out.got.lt _ e).2 (by omega)) (cell_of_heap (W' := (wx.alloc (.cells #[(.int .u64 0)] 22)).alloc (.cells #[(.int .u64 tc)] 22)) rfl (c_old2 _ _ _ _))) | skip)
          | (refine step_push rfl _ _ 43 rfl w.heap.size 22 i0 (.int .u64 0) 1 8 Try.underlying43 hi hz0 hz1 hz2 rfl (by decide) (by decide) u10 _ _ rfl (HT3.out.drew.alloc _).got _ _ [.int .u64 tc] rfl rfl (one_new (by first | assumption | exact cell_of_heap (W' := wx.alloc (.cells #[(.int .u64 tc)] 22)) rfl (c_new _ _ _) | exact cell_of_heap (W' := (wx.alloc (.cells #[(.int .u64 0)] 22)).alloc (.cells #[(.int .u64 tc)] 22)) rfl (c_new2 _ _ _ _) | exact cell_of_heap (W' := (wx.alloc (.cells #[(.int .u64 tc)] 22)).alloc (.cells #[(.int .u64 0)] 22)) rfl (c_old2 _ _ _ _) | exact cell_of_heap (W' := w2.alloc (.cells #[(.int .u64 tc)] 22)) rfl (c_new _ _ _))) (by simp [Value.oneCell']) (by rw [firsts_len]; omega) (by have := HT3.out.base; simp; omega) ?_; intro v3 w3 hown3 hu3 hn3; have h2T := Two.pushG (HT3.out.drew.alloc _) hown3 hu3 hn3; have h2B := Blk.kept (hB3.drew.alloc _) hu3 HT3.out.gb; have h2C := cell_upd hu3 htA (by assumption); first | (have h2P : w3.cell? ⟨wx.heap.size + 1, 0, none⟩ = some (.int .u64 0) := cell_upd hu3 (fun e => absurd (HT3.out.got.lt _ e).2 (by omega)) (cell_of_heap (W' := (wx.alloc (.cells #[(.int .u64 tc)] 22)).alloc (.cells #[(.int .u64 0)] 22)) rfl (c_new2 _ _ _ _))) | (have h2P : w3.cell? ⟨wx.heap.size, 0, none⟩ = some (.int .u64 0) := cell_upd hu3 (fun e => absurd (HT3.out.got.lt _ e).2 (by omega)) (cell_of_heap (W' := (wx.alloc (.cells #[(.int .u64 0)] 22)).alloc (.cells #[(.int .u64 tc)] 22)) rfl (c_old2 _ _ _ _))) | skip)
          | (refine step_push rfl _ _ 43 rfl w.heap.size 22 i0 (.int .u64 0) 1 8 Try.underlying43 hi hz0 hz1 hz2 rfl (by decide) (by decide) u10 _ _ rfl ((HT3.out.drew.alloc _).alloc _).got _ _ [.int .u64 tc] rfl rfl (one_new (by first | assumption | exact cell_of_heap (W' := wx.alloc (.cells #[(.int .u64 tc)] 22)) rfl (c_new _ _ _) | exact cell_of_heap (W' := (wx.alloc (.cells #[(.int .u64 0)] 22)).alloc (.cells #[(.int .u64 tc)] 22)) rfl (c_new2 _ _ _ _) | exact cell_of_heap (W' := (wx.alloc (.cells #[(.int .u64 tc)] 22)).alloc (.cells #[(.int .u64 0)] 22)) rfl (c_old2 _ _ _ _) | exact cell_of_heap (W' := w2.alloc (.cells #[(.int .u64 tc)] 22)) rfl (c_new _ _ _))) (by simp [Value.oneCell']) (by rw [firsts_len]; omega) (by have := HT3.out.base; simp; omega) ?_; intro v3 w3 hown3 hu3 hn3; have h2T := Two.pushG ((HT3.out.drew.alloc _).alloc _) hown3 hu3 hn3; have h2B := Blk.kept ((hB3.drew.alloc _).alloc _) hu3 HT3.out.gb; have h2C := cell_upd hu3 htA (by assumption); first | (have h2P : w3.cell? ⟨wx.heap.size + 1, 0, none⟩ = some (.int .u64 0) := cell_upd hu3 (fun e => absurd (HT3.out.got.lt _ e).2 (by omega)) (cell_of_heap (W' := (wx.alloc (.cells #[(.int .u64 tc)] 22)).alloc (.cells #[(.int .u64 0)] 22)) rfl (c_new2 _ _ _ _))) | (have h2P : w3.cell? ⟨wx.heap.size, 0, none⟩ = some (.int .u64 0) := cell_upd hu3 (fun e => absurd (HT3.out.got.lt _ e).2 (by omega)) (cell_of_heap (W' := (wx.alloc (.cells #[(.int .u64 0)] 22)).alloc (.cells #[(.int .u64 tc)] 22)) rfl (c_old2 _ _ _ _))) | skip))
        all_goals
          go_wp2_with fail
          go_roundw
          case rel =>
            refine ⟨k + 1, by omega, by go_num, ?_, ?_⟩
            · rw [ET.out]; first | exact h1B | exact h2B
            · rw [firsts_succ, firsts_succ, EG.out, EK.out]; first | exact h1T | exact h2T
          case measure => simp [intOf]; omega
    · obtain rfl : n = k := by omega
      obtain ⟨wB, rfl⟩ : ∃ x, x = wr := ⟨_, rfl⟩
      obtain ⟨gad, gca, rfl, hg0, hg1⟩ := ownsRow_rowAt HT.out.put
      obtain ⟨tad, tca, rfl, ht0, ht1⟩ := ownsRow_rowAt HT.out.got
      simp only [firsts_len]
      have HG0 := Lib.hid hg0
      have HG1 := Lib.hid hg1
      have HT0 := Lib.hid ht0
      have HT1 := Lib.hid ht1
      have HW := Lib.hid HT.out.upd
      have HOf := fun (x : Nat) (hx : x ≤ 18446744073709551615) u => Lib.hid (show Calls Try.prog 23 #[.int .u64 x] u fun e w' => Gives u (.agg #[.int .u64 (dg x 0 : Nat), .int .u64 (dg x 1 : Nat), .int .u64 (dg x 2 : Nat), .int .u64 (dg x 3 : Nat)]) e w' from Wide.of_any x hx u)
      have HPl := fun (m q : Nat) (hq : m + q < 340282366920938463463374607431768211456) u => Lib.hid (show Calls Try.prog 24 #[.agg #[.int .u64 (dg m 0 : Nat), .int .u64 (dg m 1 : Nat), .int .u64 (dg m 2 : Nat), .int .u64 (dg m 3 : Nat)], .agg #[.int .u64 (dg q 0 : Nat), .int .u64 (dg q 1 : Nat), .int .u64 (dg q 2 : Nat), .int .u64 (dg q 3 : Nat)]] u fun e w' => Gives u (.agg #[.int .u64 (dg (m + q) 0 : Nat), .int .u64 (dg (m + q) 1 : Nat), .int .u64 (dg (m + q) 2 : Nat), .int .u64 (dg (m + q) 3 : Nat)]) e w' from Sat.plus_num m q hq u)
      have HLe := fun (m q : Nat) (hm : m < 340282366920938463463374607431768211456) (hq : q < 340282366920938463463374607431768211456) u => Lib.hid (show Calls Try.prog 26 #[.agg #[.int .u64 (dg m 0 : Nat), .int .u64 (dg m 1 : Nat), .int .u64 (dg m 2 : Nat), .int .u64 (dg m 3 : Nat)], .agg #[.int .u64 (dg q 0 : Nat), .int .u64 (dg q 1 : Nat), .int .u64 (dg q 2 : Nat), .int .u64 (dg q 3 : Nat)]] u fun e w' => Gives u (.bool (decide (m < q))) e w' from Sat.less_num m q hm hq u)
      have HTi := fun (a c : Nat) (ha : a ≤ 18446744073709551615) (hc : c ≤ 18446744073709551615) u => Lib.hid (show Calls Try.prog 25 #[.int .u64 a, .int .u64 c] u fun e w' => Gives u (.agg #[.int .u64 (dg (a * c) 0 : Nat), .int .u64 (dg (a * c) 1 : Nat), .int .u64 (dg (a * c) 2 : Nat), .int .u64 (dg (a * c) 3 : Nat)]) e w' from Wide.times_any a c ha hc u)
      clear hg0 hg1 ht0 ht1 HT hB HN
      go_wp2_with fail
      go_loopw [68] (fun i wo => ∃ (k : Nat), k ≤ n ∧ i = .int .i64 k ∧ Upd Nowhere wB wo) (fun i _ => n - (intOf i).toNat)
      case atStart => exact ⟨0, by omega, rfl, Upd.refl _ _⟩
      case round =>
        obtain ⟨k, hk2, rfl, hUo⟩ := hrel
        obtain ⟨wO, rfl⟩ : ∃ x, x = wr := ⟨_, rfl⟩
        by_cases hlt2 : k < n
        · have hI2 : (k : Int) < n := by omega
          have HO0 := fun u => HOf 0 (by omega) u
          have HOb := fun u => HOf b hb u
          go_wp2_with fail
          refine (HO0 _).out.mono ?_
          rintro e w21 ⟨rfl, u21⟩
          go_wp2_with fail
          refine (HOb _).out.mono ?_
          rintro e w22 ⟨rfl, u22⟩
          have hU22 : Upd Nowhere wB w22 := (hUo.trans u21 (fun _ _ h => h)).trans u22 (fun _ _ h => h)
          go_wp2_with fail
          go_loopw [19] (fun kv wi => ∃ (d kk : Nat), k + d = kk ∧ kk ≤ n ∧ kv = .int .i64 kk ∧ mg r b l k d ≤ 18446744073709551615 + d * 79228162514264337593543950336 ∧ Blk wi w22.heap.size #[.int .u64 (dg (sg r b l k d) 0 : Nat), .int .u64 (dg (sg r b l k d) 1 : Nat), .int .u64 (dg (sg r b l k d) 2 : Nat), .int .u64 (dg (sg r b l k d) 3 : Nat)] 48 ∧ Blk wi (w22.heap.size + 1) #[.int .u64 (dg (mg r b l k d) 0 : Nat), .int .u64 (dg (mg r b l k d) 1 : Nat), .int .u64 (dg (mg r b l k d) 2 : Nat), .int .u64 (dg (mg r b l k d) 3 : Nat)] 48 ∧ Upd Nowhere wB wi) (fun kv _ => n - (intOf kv).toNat)
          case atStart => exact ⟨0, k, rfl, by omega, rfl, Conf.first_m hb, (Blk.new _ _ _).alloc _, Blk.new2 _ _ _ _, (hU22.alloc _).alloc _⟩
          case round =>
            clear hUo u21 u22
            obtain ⟨d, kk, hdk, hkk, rfl, hmb, hBs, hBm, hUi⟩ := hrel
            obtain ⟨wi, rfl⟩ : ∃ x, x = wr := ⟨_, rfl⟩
            by_cases hlt3 : kk < n
            · have hI3 : (kk : Int) < n := by omega
              obtain ⟨X, hX⟩ : ∃ X, sg r b l k d = X := ⟨_, rfl⟩
              obtain ⟨Y, hY⟩ : ∃ Y, mg r b l k d = Y := ⟨_, rfl⟩
              obtain ⟨G, hG⟩ : ∃ G, got r b l kk = G := ⟨_, rfl⟩
              have hXb := Conf.sg_le r b l k hb d
              have hGb := Conf.got_le r b l kk hb
              have hsg : sg r b l k (d + 1) = X + G := by rw [Conf.sg, hdk, hX, hG]
              rw [hX] at hBs hXb
              rw [hY] at hBm hmb
              rw [hG] at hGb
              have hd60 : d ≤ 60 := by omega
              obtain ⟨gg, go, rfl, hgc⟩ := row_at (fun h => ⟨(HG0.out h).1, trivial⟩) HG1.out (firsts_at (got r b l) hlt3)
              rw [hG] at hgc
              have hgc2 := cell_old hUi hgc
              have HOg := fun u => HOf G hGb u
              have HPs := fun u => HPl X G (Conf.bound_s hd60 hXb hGb) u
              have hXG := Conf.bound_s hd60 hXb hGb
              have HSG := Lib.hid hsg
              have HYE := Lib.hid hY
              have HMB := Lib.hid hmb
              have HXG := Lib.hid hXG
              clear hX hG hXb hGb hsg hmb hXG hgc
              obtain ⟨s0, s1, s2, s3, f0, f1, f2, f3⟩ := cells4 hBs
              have lss := hBs.lt
              have lmm := hBm.lt
              go_upto_region 23 with fail
              go_cut [19] from 75 to 106 (fun kv wx => kv = .int .i64 kk ∧ Blk wx w22.heap.size #[.int .u64 (dg (X + G) 0 : Nat), .int .u64 (dg (X + G) 1 : Nat), .int .u64 (dg (X + G) 2 : Nat), .int .u64 (dg (X + G) 3 : Nat)] 48 ∧ Blk wx (w22.heap.size + 1) #[.int .u64 (dg Y 0 : Nat), .int .u64 (dg Y 1 : Nat), .int .u64 (dg Y 2 : Nat), .int .u64 (dg Y 3 : Nat)] 48 ∧ Upd Nowhere wB wx)
              case first =>
                go_region_with (first
                  | (go_at_call 23; refine (HOg _).out.mono ?_; rintro e w31 ⟨rfl, u31⟩; have U31 : Upd Nowhere wi w31 := (by first | exact u31 | exact ((Upd.refl _ _).drew).trans u31 (fun _ _ h => h) | exact (((Upd.refl _ _).drew).drew).trans u31 (fun _ _ h => h) | exact ((((Upd.refl _ _).drew).drew).drew).trans u31 (fun _ _ h => h)); have S31 := hBs.kept U31 id; obtain ⟨p0, p1, p2, p3, _, _, _, _⟩ := cells4 S31)
                  | (go_at_call 24; refine (HPs _).out.mono ?_; rintro e w32 ⟨rfl, u32⟩; have U32 : Upd Nowhere wi w32 := U31.trans (by first | exact u32 | exact ((Upd.refl _ _).drew).trans u32 (fun _ _ h => h) | exact (((Upd.refl _ _).drew).drew).trans u32 (fun _ _ h => h) | exact ((((Upd.refl _ _).drew).drew).drew).trans u32 (fun _ _ h => h)) (fun _ _ h => h); have S32 := hBs.kept U32 id; have M32 := hBm.kept U32 id; obtain ⟨q0, q1, q2, q3, k0, k1, k2, k3⟩ := cells4 S32))
                all_goals
                  go_wp2_with fail
                  go_meet
                  exact ⟨rfl, (by repeat (first | with_reducible refine Blk.drew ?_ | with_reducible exact S32.put4 _ _ _ _)), (by repeat (first | with_reducible refine Blk.drew ?_ | with_reducible exact M32.far4 (g := w22.heap.size) (by omega) _ _ _ _)), (by repeat (first | with_reducible refine Upd.drew ?_ | with_reducible exact (hUi.trans U32 (fun _ _ h => h)).put4 (g := w22.heap.size) (by have := hU22.size; omega) _ _ _ _))⟩
              case rest =>
                obtain ⟨rfl, hBs2, hBm2, hUx⟩ := hcut
                clear hBs hBm hUi s0 s1 s2 s3 f0 f1 f2 f3 HOg HPs hgc2 lss lmm
                have hcl : X + G ≤ mg r b l k (d + 1) := by have := Conf.conf_le r b l k d; rw [HSG.out] at this; exact this
                have HCL := Lib.hid hcl
                clear hcl
                rcases Nat.eq_zero_or_pos d with rfl | hdp
                · obtain rfl : k = kk := by omega
                  have hYX : ¬ Y < X + G := by have h1 := HCL.out; have h2 := HYE.out; simp only [Conf.mg, if_true] at h1 h2; omega
                  have HYX := Lib.hid hYX
                  have hm1 : mg r b l k (0 + 1) = Y := by have h2 := HYE.out; simp only [Conf.mg, if_true] at h2 ⊢; exact h2
                  have HM1 := Lib.hid hm1
                  have HL1 := fun u => HLe Y (X + G) (Conf.bound_m0 (d := 0) (by omega) HMB.out) HXG.out u
                  rw [decide_eq_false hYX] at HL1
                  have hgt : decide ((k : Int) > (k : Int)) = false := decide_eq_false (by omega)
                  clear hYX hm1
                  obtain ⟨s0, s1, s2, s3, f0, f1, f2, f3⟩ := cells4 hBs2
                  obtain ⟨m0, m1, m2, m3, g0, g1, g2, g3⟩ := cells4 hBm2
                  go_wp2_with fail
                  refine (HL1 _).out.mono ?_
                  rintro e w43 ⟨rfl, u43⟩
                  go_wp2_with fail
                  go_roundw
                  case rel =>
                    refine ⟨0 + 1, k + 1, by omega, by omega, by go_num, ?_, ?_, ?_, hUx.trans u43 (fun _ _ h => h)⟩
                    · rw [HM1.out]; exact Nat.le_trans HMB.out (by omega)
                    · rw [HSG.out]; exact hBs2.kept u43 id
                    · rw [HM1.out]; exact hBm2.kept u43 id
                  case measure => simp [intOf]; omega
                · have hgt : decide (k < kk) = true := decide_eq_true (by omega)
                  have hgt2 : (k : Int) < (kk : Int) := by omega
                  have hTb := tk_le l Hb.out kk
                  obtain ⟨tgb, tof, rfl, htc⟩ := row_at (fun h => ⟨(HT0.out h).1, trivial⟩) HT1.out (firsts_at (tk l) hlt3)
                  have htc2 := cell_old hUx htc
                  clear htc
                  obtain ⟨T, hT⟩ : ∃ T, tk l kk = T := ⟨_, rfl⟩
                  rw [hT] at hTb htc2
                  have HTp := fun u => HTi r T hr hTb u
                  obtain ⟨p, hp⟩ : ∃ p, r * T = p := ⟨_, rfl⟩
                  rw [hp] at HTp
                  have hpb : p < 340282366920938463463374607431768211456 := by rw [← hp]; exact Nat.lt_of_le_of_lt (Sat.prod_lt hr hTb) (by decide)
                  have hmg : mg r b l k (d + 1) = Y + p := by
                    rw [Conf.mg, if_neg (by omega), HYE.out, hdk]
                    unfold tk at hT
                    rw [hT, hp]
                  have HMG := Lib.hid hmg
                  clear hT hp hmg
                  obtain ⟨s0, s1, s2, s3, f0, f1, f2, f3⟩ := cells4 hBs2
                  obtain ⟨m0, m1, m2, m3, g0, g1, g2, g3⟩ := cells4 hBm2
                  have lss := hBs2.lt
                  have lmm := hBm2.lt
                  go_wp2_with fail
                  refine (HTp _).out.mono ?_
                  rintro e w41 ⟨rfl, u41⟩
                  have hBs3 := hBs2.kept u41 id
                  have hBm3 := hBm2.kept u41 id
                  have hU3 := hUx.trans u41 (fun _ _ h => h)
                  clear hBs2 hBm2 hUx s0 s1 s2 s3 f0 f1 f2 f3 m0 m1 m2 m3 g0 g1 g2 g3 lss lmm u41 htc2
                  obtain ⟨s0, s1, s2, s3, f0, f1, f2, f3⟩ := cells4 hBs3
                  obtain ⟨m0, m1, m2, m3, g0, g1, g2, g3⟩ := cells4 hBm3
                  have lss := hBs3.lt
                  have lmm := hBm3.lt
                  rcases Nat.lt_or_ge p 79228162514264337593543950336 with hp96 | hp96
                  · have h3 : dg p 3 = 0 := dg3_zero hp96
                    have e3 : decide (((dg p 3 : Nat) : Int) > 0) = false := by rw [h3]; rfl
                    have e4 : decide (0 < dg p 3) = false := by rw [h3]; rfl
                    obtain ⟨b1, b2⟩ := Conf.bound_m hd60 HMB.out hp96
                    have HPm := fun u => HPl Y p b1 u
                    have hYX : ¬ Y + p < X + G := by have h1 := HCL.out; have h2 := HMG.out; omega
                    have HL1 := fun u => HLe (Y + p) (X + G) b1 HXG.out u
                    rw [decide_eq_false hYX] at HL1
                    have HB2 := Lib.hid b2
                    clear h3 b1 b2 hYX
                    go_wp2_with fail
                    refine (HPm _).out.mono ?_
                    rintro e w42 ⟨rfl, u42⟩
                    have hBs4 := (hBs3.alloc _).kept u42 id
                    have hBm4 := (hBm3.alloc _).kept u42 id
                    have hU4 := (hU3.alloc _).trans u42 (fun _ _ h => h)
                    clear hBs3 hBm3 hU3 s0 s1 s2 s3 f0 f1 f2 f3 m0 m1 m2 m3 g0 g1 g2 g3 lss lmm u42
                    obtain ⟨s0, s1, s2, s3, f0, f1, f2, f3⟩ := cells4 hBs4
                    obtain ⟨m0, m1, m2, m3, g0, g1, g2, g3⟩ := cells4 hBm4
                    have lss := hBs4.lt
                    have lmm := hBm4.lt
                    go_wp2_with fail
                    refine (HL1 _).out.mono ?_
                    rintro e w43 ⟨rfl, u43⟩
                    have hBs5 := (hBs4.far4 (g := w22.heap.size + 1) (by omega) _ _ _ _).kept u43 id
                    have hBm5 := (hBm4.put4 _ _ _ _).kept u43 id
                    have hU5 := (hU4.put4 (g := w22.heap.size + 1) (by have := hU22.size; omega) _ _ _ _).trans u43 (fun _ _ h => h)
                    go_wp2_with fail
                    go_roundw
                    case rel =>
                      refine ⟨d + 1, kk + 1, by omega, by omega, by go_num, ?_, ?_, ?_, hU5⟩
                      · rw [HMG.out]; exact HB2.out
                      · rw [HSG.out]; exact hBs5
                      · rw [HMG.out]; exact hBm5
                    case measure => simp [intOf]; omega
                  · have h3 : 0 < dg p 3 := dg3_pos hp96 hpb
                    have e3 : decide (((dg p 3 : Nat) : Int) > 0) = true := decide_eq_true (by omega)
                    have e4 : decide (0 < dg p 3) = true := decide_eq_true h3
                    have e5 : (0 : Int) < ((dg p 3 : Nat) : Int) := by omega
                    clear h3
                    go_wp2_with fail
                    go_roundw
                    case rel => exact ⟨k + 1, by omega, by go_num, hU3.alloc _⟩
                    case measure => simp [intOf]; omega
            · obtain hkn : kk = n := by omega
              have hI3 : ¬ (kk : Int) < n := by omega
              go_wp2_with fail
              go_roundw
              case rel => exact ⟨k + 1, by omega, by go_num, hUi⟩
              case measure => simp [intOf]; omega
        · obtain rfl : k = n := by omega
          go_wp2_with fail
          refine ((HL _).out).mono ?_
          rintro e w9 ⟨rfl, u9⟩
          go_wp2_with fail
          go_ret
          exact ⟨rfl, ((HW.out.trans hUo (fun _ _ h => h.elim)).trans u9 (fun _ _ h => h.elim)).nowhere⟩
end Go.Proofs.Ytgmiggnlhcldlaa.Bucket
