/- CalP, CalP2, CalP3, CalP4, CalP5, CalP6, CalP7, CalP8, CalP9, one behind the other. -/
import Derived.Test.YtpgpjjkeginbbaaGreatDoorMtA
import Derived.Test.YtpgpjjkeginbbaaGreatDoorMtFfs
import Derived.Test.YtpgpjjkeginbbaaGreatDoorMtHp
import Derived.Test.YtpgpjjkeginbbaaGreatDoorMtPool
import Derived.BigQuiet
import Derived.Deep.DeepCutAuto
import Derived.Deep.RegionHeld3
import Derived.Deep.LoopGhost
import Derived.Test.YtpgpjjkeginbbaaGreatDoorMeTk
namespace Go.Proofs.YtpgpjjkeginbbaaGreatDoor.CalP
open Go.RowKit Go.Proofs BigFrame Cal
open Pool (upd upd_at upd_off)
open Wheel (Tab)
open Ffs (Dy d_size d_len d_from d_put d_drop d_new cnt cnt_pos cnt_zero)
open HeapP (Hq q_new q_len q_push q_pop)
open PoolP (Pk TPk VP zP Pq Ph Pa p_new p_len p_take p_app p_pop p_give p_head0 p_get)
set_option maxHeartbeats 4000000
set_option maxRecDepth 1000000
theorem q_peek {w : World} {b room c r : Nat} {own : Nat → Prop} {x : Pk} {t : List (Nat × Pk)} (h : HeapP.Hq w b own room c ((r, x) :: t)) :
 Calls Tryz.prog 200 #[.pointer (some ⟨b, 0, none⟩)] w fun e w' => e = .returned (.tuple #[.int .u64 r, VP x, .bool true]) ∧ Upd Nowhere w w' := by
 obtain ⟨v, came, l, s, hh, h1, h2, h3, h4, ho⟩ := h
 cases s with
 | nil => cases h3
 | cons a s =>
   injection h3 with e1 e2
   have h0 := h2.head h1
   obtain ⟨a0, a1, xa, xb, xc⟩ := a
   unfold Cal.itm at e1
   injection e1 with e3 e4
   subst e3
   subst e4
   exact HeapP.peek_some hh h0
theorem q_peek0 {w : World} {b room c : Nat} {own : Nat → Prop} (h : HeapP.Hq w b own room c []) :
 Calls Tryz.prog 200 #[.pointer (some ⟨b, 0, none⟩)] w fun e w' => e = .returned (.tuple #[.int .u64 0, VP (0, 0, 0), .bool false]) ∧ Upd Nowhere w w' := by
 obtain ⟨v, came, l, s, hh, h1, h2, h3, h4, ho⟩ := h
 cases s with
 | cons a s => cases h3
 | nil =>
   have := h2.none
   subst this
   exact HeapP.peek_empty hh
abbrev TL : TypeId := 265
theorem quiet_of {P : Program} {f : FuncId} {args : Array Value} {w : World} {n : Nat} {v : Value}
 (h : Calls P f args (w.drewN n) fun e w' => e = .returned v ∧ ∃ m, w' = (w.drewN n).drewN m) : Calls P f args (w.drewN n) fun e w'' => e = .returned v ∧ ∃ m, w'' = w.drewN m :=
 h.mono fun _ _ ⟨he, m, hm⟩ => ⟨he, n + m, by rw [hm, World.drewN_drewN]⟩
/-- Which days have things. -/
def ne (X : Nat → List Pk) : Nat → Bool := fun q => !(X q).isEmpty
theorem ne_true {X : Nat → List Pk} {q : Nat} (h : ne X q = true) : X q ≠ [] := by unfold ne at h; intro e; rw [e] at h; cases h
theorem ne_false {X : Nat → List Pk} {q : Nat} (h : ne X q = false) : X q = [] := by unfold ne at h; simpa using h
theorem ne_of {X : Nat → List Pk} {q : Nat} (h : X q ≠ []) : ne X q = true := by
 cases hn : ne X q with
 | true => rfl
 | false => exact absurd (ne_false hn) h
def dayC (sb N : Nat) (B : Nat → Bool) : Comp := ⟨fun w o => Dy w sb o N B, fun h hu hS => h.kept hu hS, fun h hk => h.lts hk⟩
def poolC (pb room N n : Nat) (X : Nat → List Pk) : Comp := ⟨fun w o => Pq w pb o room N n X, fun h hu hS => h.kept hu hS, fun h hk => h.lts hk⟩
def heldC (pb room N n : Nat) (X : Nat → List Pk) (i : Nat) (x : Pk) : Comp := ⟨fun w o => Ph w pb o room N n X i x, fun h hu hS => h.kept hu hS, fun h hk => h.lts hk⟩
def heapC (b room c : Nat) (m : List (Nat × Pk)) : Comp := ⟨fun w o => Hq w b o room c m, fun h hu hS => h.kept hu hS, fun h hk => h.lts hk⟩
/-- A calendar's cells. -/
abbrev cells (sb pb bb ab room base : Nat) : Array Value := #[.pointer (some ⟨sb, 0, none⟩), .pointer (some ⟨pb, 0, none⟩), .int .u64 base, .pointer (some ⟨bb, 0, none⟩), .pointer (some ⟨ab, 0, none⟩), .int .i64 room]
/-- A calendar's parts. -/
abbrev calL (cb sb pb bb ab room base N n c : Nat) (D : Nat → Bool) (X : Nat → List Pk) (B R : List (Nat × Pk)) : List Comp :=
 [blkC cb (cells sb pb bb ab room base) TL, dayC sb N D, poolC pb room N n X, heapC bb room c B, heapC ab room c R]
section
variable {w : World} {own : Nat → Prop} {cb sb pb bb ab room base N n c : Nat} {D : Nat → Bool} {X : Nat → List Pk} {B R : List (Nat × Pk)}
/-- The parts, apart. -/
theorem parts (h : Sep w (calL cb sb pb bb ab room base N n c D X B R) own) : ∃ o1 o2 o3 o4, Blk w cb (cells sb pb bb ab room base) TL ∧ Dy w sb o1 N D ∧ Pq w pb o2 room N n X ∧ Hq w bb o3 room c B ∧ Hq w ab o4 room c R := by
 obtain ⟨_, _, h1, ⟨o1, _, h2, ⟨o2, _, h3, ⟨o3, _, h4, ⟨o4, _, h5, _⟩, _⟩, _⟩, _⟩, _⟩ := h
 exact ⟨o1, o2, o3, o4, h1.1, h2, h3, h4, h5⟩
theorem len_any (h : Sep w (calL cb sb pb bb ab room base N n c D X B R) own) (h0 : room ≤ 4096) (h1 : n ≤ room) : Calls Tryz.prog 210 #[.pointer (some ⟨cb, 0, none⟩)] w fun e w' => e = .returned (.int .i64 ((n + B.length + R.length : Nat) : Int)) ∧ ∃ k, w' = w.drewN k := by
 obtain ⟨o1, o2, o3, o4, hb, hd, hp, hB, hR⟩ := parts h
 obtain ⟨c0, c1, c2, c3, c4, c5, z0, z1, z2, z3, z4, z5⟩ := cells6 hb
 have hle1 := hB.le
 have hle2 := hR.le
 have HP := fun k => Lib.hid (p_len (hp.kept (S := Nowhere) ((Upd.refl _ w).drewN k) (fun _ _ h => h)))
 have HB := fun k => Lib.hid (q_len (hB.kept (S := Nowhere) ((Upd.refl _ w).drewN k) (fun _ _ h => h)))
 have HR := fun k => Lib.hid (q_len (hR.kept (S := Nowhere) ((Upd.refl _ w).drewN k) (fun _ _ h => h)))
 obtain ⟨b, hbl⟩ : ∃ b, B.length = b := ⟨_, rfl⟩
 obtain ⟨r, hrl⟩ : ∃ r, R.length = r := ⟨_, rfl⟩
 rw [hbl] at HB hle1 ⊢
 rw [hrl] at HR hle2 ⊢
 have e1 : IntKind.i64.wrap ((n : Int) + b) = ((n + b : Nat) : Int) := by rw [IntKind.wrap_i64]; omega
 have e2 : IntKind.i64.wrap (((n + b : Nat) : Int) + r) = ((n + b + r : Nat) : Int) := by rw [IntKind.wrap_i64]; omega
 clear h hb hd hp hB hR hbl hrl
 go_enter Tryz.func210, Tryz.ntmps210
 go_wp2_with fail
 go_quiet ((first | (go_at_call 222; exact quiet_same (HP _).out) | (go_at_call 199; first | with_reducible exact quiet_same (HB _).out | with_reducible exact quiet_same (HR _).out)))
 go_wp2_with fail
 go_ret
 exact ⟨ret_int (by push_cast; rfl), _, rfl⟩
theorem day_any {o1 : Nat → Prop} (hb : Blk w cb (cells sb pb bb ab room base) TL) (hd : Dy w sb o1 N D) (r : Nat) : Calls Tryz.prog 220 #[.pointer (some ⟨cb, 0, none⟩), .int .u64 r] w fun e w' => e = .returned (.int .i64 ((r % N : Nat) : Int)) ∧ ∃ k, w' = w.drewN k := by
 obtain ⟨c0, c1, c2, c3, c4, c5, z0, z1, z2, z3, z4, z5⟩ := cells6 hb
 have hN := hd.size
 have HS := Lib.hid (d_size hd)
 obtain ⟨q, hq⟩ : ∃ q, r % N = q := ⟨_, rfl⟩
 have hqN : q < N := by rw [← hq]; exact Nat.mod_lt _ (by omega)
 have e1 : ((r : Int).tmod N) = (q : Int) := by rw [← hq]; rfl
 have hN0 : ¬ N = 0 := by omega
 have hN1 : ¬ (N : Int) = 0 := by omega
 rw [hq]
 clear hb hd hq
 go_enter Tryz.func220, Tryz.ntmps220
 go_wp2_with fail
 refine HS.out.mono ?_
 rintro e w' ⟨rfl, k, rfl⟩
 go_wp2_with fail
 go_ret
 exact ⟨rfl, k, rfl⟩
theorem within_any {o1 : Nat → Prop} (hb : Blk w cb (cells sb pb bb ab room base) TL) (hd : Dy w sb o1 N D) (r : Nat) (hr : r ≤ 18446744073709551615) : Calls Tryz.prog 226 #[.pointer (some ⟨cb, 0, none⟩), .int .u64 r] w fun e w' => e = .returned (.bool (decide (base ≤ r ∧ r < base + N))) ∧ ∃ k, w' = w.drewN k := by
 obtain ⟨c0, c1, c2, c3, c4, c5, z0, z1, z2, z3, z4, z5⟩ := cells6 hb
 have hN := hd.size
 have HS := fun k => Lib.hid (d_size (hd.kept (S := Nowhere) ((Upd.refl _ w).drewN k) (fun _ _ h => h)))
 clear hb hd
 rcases Nat.lt_or_ge r base with hlt | hge
 · have d1 : decide ((r : Int) ≥ base) = false := decide_eq_false (by omega)
   have d2 : decide (base ≤ r) = false := decide_eq_false (by omega)
   have e0 : decide (base ≤ r ∧ r < base + N) = false := decide_eq_false (by omega)
   rw [e0]
   go_enter Tryz.func226, Tryz.ntmps226
   go_wp2_with fail
   go_quiet (fail)
   go_wp2_with fail
   go_ret
   exact ⟨rfl, _, rfl⟩
 · have d1 : decide ((r : Int) ≥ base) = true := decide_eq_true (by omega)
   have d2 : decide (base ≤ r) = true := decide_eq_true (by omega)
   obtain ⟨d, hd⟩ : ∃ d, r - base = d := ⟨_, rfl⟩
   have e1 : (r : Int) - base = (d : Int) := by omega
   have hd9 : d ≤ 18446744073709551615 := by omega
   have e4 : IntKind.u64.wrap (d : Int) = (d : Int) := by rw [IntKind.wrap_u64]; omega
   obtain ⟨v, hv⟩ : ∃ v, decide (d < N) = v := ⟨_, rfl⟩
   have d3 : decide ((d : Int) < N) = v := by rw [← hv]; exact decide_eq_decide.2 (by omega)
   have e0 : decide (base ≤ r ∧ r < base + N) = v := by rw [← hv]; exact decide_eq_decide.2 (by omega)
   have hvh := Lib.hid hv
   rw [e0]
   clear hv e0 hd
   go_enter Tryz.func226, Tryz.ntmps226
   go_wp2_with fail
   go_quiet ((go_at_call 92; exact quiet_of (HS _).out))
   go_wp2_with fail
   go_ret
   exact ⟨ret_bool hvh.out, _, rfl⟩
end
end Go.Proofs.YtpgpjjkeginbbaaGreatDoor.CalP
namespace Go.Proofs.YtpgpjjkeginbbaaGreatDoor.CalP
open Go.RowKit Go.Proofs BigFrame Cal
open Pool (upd upd_at upd_off)
open Wheel (Tab)
open Ffs (Dy d_size d_len d_from d_put d_drop d_new cnt cnt_pos cnt_zero)
open HeapP (Hq q_new q_len q_push q_pop)
open PoolP (Pk TPk VP zP Pq Ph Pa p_new p_len p_take p_app p_pop p_give p_head0 p_get)
set_option maxHeartbeats 4000000
set_option maxRecDepth 1000000
set_option linter.unusedSimpArgs false
theorem ne_put (X : Nat → List Pk) (q : Nat) (x : Pk) : ∀ i, ne (upd X q (X q ++ [x])) i = upd (ne X) q true i := fun i => by
 unfold ne
 by_cases e : i = q
 · subst e; rw [upd_at, upd_at]; simp
 · rw [upd_off _ _ _ e, upd_off _ _ _ e]
section
variable {w : World} {own : Nat → Prop} {cb sb pb bb ab room base N n c : Nat} {X : Nat → List Pk} {B R : List (Nat × Pk)}
theorem lay_any (h : Sep w (calL cb sb pb bb ab room base N n c (ne X) X B R) own) (hn : n < room) (r xa xb xc : Nat) :
 Calls Tryz.prog 227 #[.pointer (some ⟨cb, 0, none⟩), .int .u64 r, .agg #[.int .u32 xa, .int .u32 xb, .int .u64 xc]] w fun e w' => e = .returned (.tuple #[]) ∧
  ∃ own', Sep w' (calL cb sb pb bb ab room base N (n + 1) c (ne (upd X (r % N) (X (r % N) ++ [(xa, xb, xc)]))) (upd X (r % N) (X (r % N) ++ [(xa, xb, xc)])) B R) own' ∧ (∀ k, own' k → own k ∨ w.heap.size ≤ k) ∧ Upd own w w' := by
 obtain ⟨q, hq⟩ : ∃ q, r % N = q := ⟨_, rfl⟩
 have hU0 : Upd Nowhere w (w.alloc (.cells #[.int .u32 xa, .int .u32 xb, .int .u64 xc] TPk)) := (Upd.refl _ _).alloc _
 have H0 := Lib.hid (h.old hU0)
 have HU0 := Lib.hid hU0
 have HX0 := Lib.hid (Blk.new w #[.int .u32 xa, .int .u32 xb, .int .u64 xc] TPk)
 have HNO : Hid (¬ own w.heap.size) := Lib.hid (fun hk => Nat.lt_irrefl _ (Sep.lt h hk))
 have HQ := Lib.hid hq
 rw [hq]
 obtain ⟨_, ⟨hb, _⟩, _, _⟩ := Sep.focus (blkC cb (cells sb pb bb ab room base) TL) [dayC sb N (ne X), poolC pb room N n X, heapC bb room c B, heapC ab room c R] [] (h.old hU0)
 obtain ⟨_, hd, _, _⟩ := Sep.focus (dayC sb N (ne X)) [poolC pb room N n X, heapC bb room c B, heapC ab room c R] [blkC cb (cells sb pb bb ab room base) TL] (h.old hU0)
 have hqN : q < N := by rw [← hq]; exact Nat.mod_lt _ (by have := (Dy.size hd).1; omega)
 obtain ⟨c0, c1, c2, c3, c4, c5, z0, z1, z2, z3, z4, z5⟩ := cells6 hb
 obtain ⟨x0, x1, x2, _, _, _⟩ := cells3 HX0.out
 clear h hb hd hq hU0
 go_enter Tryz.func227, Tryz.ntmps227
 go_wp2_with fail
 generalize w.alloc (.cells #[.int .u32 xa, .int .u32 xb, .int .u64 xc] TPk) = wb at *
 obtain ⟨o2, hp, hs2, hF⟩ := Sep.focus (poolC pb room N n X) [heapC bb room c B, heapC ab room c R] [blkC cb (cells sb pb bb ab room base) TL, dayC sb N (ne X)] (H0.out.old ((Upd.refl _ _).drew))
 have HT := Lib.hid (p_take hp hn (xa, xb, xc))
 have HF := Lib.hid hF
 have HNX : Hid (¬ o2 w.heap.size) := Lib.hid (fun hk => HNO.out (hs2 _ hk))
 clear hp hF hs2
 refine wp_region_held_drew (S := fun w' => w'.cell? ⟨cb, 1, none⟩ = some (.pointer (some ⟨pb, 0, none⟩)) ∧ w'.cell? ⟨w.heap.size, 0, none⟩ = some (.int .u32 xa) ∧ w'.cell? ⟨w.heap.size, 1, none⟩ = some (.int .u32 xb) ∧ w'.cell? ⟨w.heap.size, 2, none⟩ = some (.int .u64 xc)) (by kernel_rfl) ⟨c1, x0, x1, x2⟩ (fun hHeld => ?_)
 refine tkq 0 ?_
 refine tkq 1 ?_
 refine tkq 2 ?_
 refine tkq 3 ?_
 refine tkq 4 ?_
 refine rdq 5 fun K hK => ?_
 go_simp
 go_wp2_with (refine HT.out.mono ?_; rintro e w1 ⟨i, rfl, ⟨o2', hh, ho⟩, hu1⟩; obtain ⟨own1, s1, a1, u1⟩ := HF.out w1 o2' (heldC pb room N (n + 1) X i (xa, xb, xc)) hh ho hu1; obtain ⟨_, ⟨hb, _⟩, _, _⟩ := Sep.focus (blkC cb (cells sb pb bb ab room base) TL) [dayC sb N (ne X), heldC pb room N (n + 1) X i (xa, xb, xc), heapC bb room c B, heapC ab room c R] [] s1; have hX1 := HX0.out.drew.kept hu1 HNX.out)
 refine hK.out _ _ (by (try dsimp only); exact ⟨hb.cellAt rfl, hX1.cellAt rfl, hX1.cellAt rfl, hX1.cellAt rfl⟩) (fun hHeld => ?_)
 clear hK K
 refine tkq 6 ?_
 refine tkq 7 ?_
 refine tkq 8 ?_
 refine tkq 9 ?_
 refine tkq 10 ?_
 refine wpAnyH_done (by kernel_rfl) ?_ _
 clear hHeld hX1 x0 x1 x2
 obtain ⟨_, hd, _, _⟩ := Sep.focus (dayC sb N (ne X)) [heldC pb room N (n + 1) X i (xa, xb, xc), heapC bb room c B, heapC ab room c R] [blkC cb (cells sb pb bb ab room base) TL] s1
 have HD := fun k => Lib.hid (day_any (hb.drewN k) (Dy.kept (S := Nowhere) hd ((Upd.refl _ w1).drewN k) (fun _ _ h => h)) r)
 rw [HQ.out] at HD
 have S1 := Lib.hid s1
 have A1 := Lib.hid a1
 have U1 := Lib.hid u1
 clear HT HF HNX HX0 H0 hh ho hu1 s1 a1 u1 hd c0 c1 c2 c3 c4 c5 z0 z1 z2 z3 z4 z5
 obtain ⟨c0, c1, c2, c3, c4, c5, z0, z1, z2, z3, z4, z5⟩ := cells6 hb
 clear hb
 go_wp2_with fail
 refine wp_region_tail 8 (by kernel_rfl) (by kernel_rfl) ?_
 simp only [List.take_succ_cons, List.take_zero, List.drop_succ_cons, List.drop_zero]
 repeat (go_big_quiet_step ((go_at_call 220; exact quiet_of (HD _).out)))
 refine wpQuiet_nil ?_
 rintro _ ⟨nq, rfl⟩
 obtain ⟨o3, hh2, _, hF2⟩ := Sep.focus (heldC pb room N (n + 1) X i (xa, xb, xc)) [heapC bb room c B, heapC ab room c R] [blkC cb (cells sb pb bb ab room base) TL, dayC sb N (ne X)] (S1.out.old ((Upd.refl _ _).drewN nq))
 have HA := Lib.hid (p_app hh2 hqN)
 have HF2 := Lib.hid hF2
 clear hh2 hF2 HD
 go_wp2_with fail
 refine HA.out.mono ?_
 rintro e w2 ⟨rfl, hp2, hu2⟩
 obtain ⟨own2, s2, a2, u2⟩ := HF2.out w2 _ (poolC pb room N (n + 1) (upd X q (X q ++ [(xa, xb, xc)]))) hp2 (fun k hk => .inl hk) hu2
 obtain ⟨_, ⟨hb, _⟩, _, _⟩ := Sep.focus (blkC cb (cells sb pb bb ab room base) TL) [dayC sb N (ne X), poolC pb room N (n + 1) (upd X q (X q ++ [(xa, xb, xc)])), heapC bb room c B, heapC ab room c R] [] s2
 obtain ⟨_, hd, _, _⟩ := Sep.focus (dayC sb N (ne X)) [poolC pb room N (n + 1) (upd X q (X q ++ [(xa, xb, xc)])), heapC bb room c B, heapC ab room c R] [blkC cb (cells sb pb bb ab room base) TL] s2
 have HD := fun k => Lib.hid (day_any (hb.drewN k) (Dy.kept (S := Nowhere) hd ((Upd.refl _ w2).drewN k) (fun _ _ h => h)) r)
 rw [HQ.out] at HD
 have S2 := Lib.hid s2
 have A2 : Hid (∀ k, own2 k → own k ∨ wb.drew.heap.size ≤ k) := Lib.hid (fun k hk => (a2 k hk).elim (A1.out k) (fun h => .inr (Nat.le_trans U1.out.size h)))
 have U2 : Hid (Upd own wb.drew w2) := Lib.hid ((U1.out.drewN nq).trans u2 (fun k hlt hk => (A1.out k hk).elim id (fun h => absurd hlt (Nat.not_lt.2 h))))
 clear hp2 hu2 HF2 HA S1 A1 U1 s2 a2 u2 hd c0 c1 c2 c3 c4 c5 z0 z1 z2 z3 z4 z5
 obtain ⟨c0, c1, c2, c3, c4, c5, z0, z1, z2, z3, z4, z5⟩ := cells6 hb
 clear hb
 go_wp2_with fail
 refine Stage.out ?_
 go_wp2_with fail
 refine wp_region_tail 7 (by kernel_rfl) (by kernel_rfl) ?_
 simp only [List.take_succ_cons, List.take_zero, List.drop_succ_cons, List.drop_zero]
 repeat (go_big_quiet_step ((go_at_call 220; exact quiet_of (HD _).out)))
 refine wpQuiet_nil ?_
 rintro _ ⟨nq2, rfl⟩
 obtain ⟨o3, hd2, _, hF3⟩ := Sep.focus (dayC sb N (ne X)) [poolC pb room N (n + 1) (upd X q (X q ++ [(xa, xb, xc)])), heapC bb room c B, heapC ab room c R] [blkC cb (cells sb pb bb ab room base) TL] (S2.out.old ((Upd.refl _ _).drewN nq2))
 have HP := Lib.hid (d_put hd2 hqN)
 have HF3 := Lib.hid hF3
 clear hd2 hF3 HD
 go_wp2_with fail
 refine HP.out.mono ?_
 rintro e w3 ⟨⟨b, rfl⟩, hd3, hu3⟩
 obtain ⟨own3, s3, a3, u3⟩ := HF3.out w3 _ (dayC sb N (ne (upd X q (X q ++ [(xa, xb, xc)])))) (Dy.congr hd3 (fun i _ => ne_put X q (xa, xb, xc) i)) (fun k hk => .inl hk) hu3
 have S3 := Lib.hid s3
 have A3 : Hid (∀ k, own3 k → own k ∨ wb.drew.heap.size ≤ k) := Lib.hid (fun k hk => (a3 k hk).elim (A2.out k) (fun h => .inr (Nat.le_trans U2.out.size h)))
 have U3 : Hid (Upd own wb.drew w3) := Lib.hid ((U2.out.drewN nq2).trans u3 (fun k hlt hk => (A2.out k hk).elim id (fun h => absurd hlt (Nat.not_lt.2 h))))
 clear hd3 hu3 s3 a3 u3
 go_wp2_with fail
 refine Stage.out ?_
 go_wp2_with fail
 go_end0
 have hUd : Upd Nowhere w wb.drew := HU0.out.drew
 exact ⟨rfl, own3, S3.out, fun k hk => (A3.out k hk).imp id (Nat.le_trans hUd.size), (hUd.any _).trans U3.out (fun _ _ h => h)⟩
end
end Go.Proofs.YtpgpjjkeginbbaaGreatDoor.CalP
namespace Go.Proofs.YtpgpjjkeginbbaaGreatDoor.CalP
open Go.RowKit Go.Proofs BigFrame Cal
open Pool (upd upd_at upd_off)
open Wheel (Tab)
open Ffs (Dy d_size d_len d_from d_put d_drop d_new cnt cnt_pos cnt_zero)
open HeapP (Hq q_new q_len q_push q_pop)
open PoolP (Pk TPk VP zP Pq Ph Pa p_new p_len p_take p_app p_pop p_give p_head0 p_get)
set_option maxHeartbeats 4000000
set_option maxRecDepth 1000000
abbrev TPc : TypeId := 166
/-- The first one above: its rank, and whether it is there and lies in the window. -/
def nxt (N base : Nat) : List (Nat × Pk) → Nat × Bool
 | [] => (0, false)
 | a :: _ => (a.1, decide (base ≤ a.1 ∧ a.1 < base + N))
section
variable {w : World} {own : Nat → Prop} {cb sb pb bb ab room base N n c : Nat} {D : Nat → Bool} {X : Nat → List Pk} {B R : List (Nat × Pk)}
theorem next_any {vb : Nat} (hv : Blk w vb #[.pointer (some ⟨cb, 0, none⟩)] TPc) (h : Sep w (calL cb sb pb bb ab room base N n c D X B R) own) (hR : ∀ a ∈ R, a.1 ≤ 18446744073709551615) :
 Calls Tryz.prog 237 #[.pointer (some ⟨vb, 0, none⟩)] w fun e w' => e = .returned (.tuple #[.int .u64 ((nxt N base R).1 : Nat), .bool (nxt N base R).2]) ∧ Upd Nowhere w w' := by
 obtain ⟨o1, o2, o3, o4, hb, hd, hp, hB, hRR⟩ := parts h
 obtain ⟨c0, c1, c2, c3, c4, c5, z0, z1, z2, z3, z4, z5⟩ := cells6 hb
 obtain ⟨v0, y0⟩ := cells1 hv
 cases R with
 | nil =>
   have HP := Lib.hid (q_peek0 hRR)
   clear h hb hd hp hB hRR hR
   go_enter Tryz.func237, Tryz.ntmps237
   go_wp2_with fail
   refine (HP.out).mono ?_
   rintro e w1 ⟨rfl, hu⟩
   clear c0 c1 c2 c3 c4 c5 z0 z1 z2 z3 z4 z5 v0 y0 HP
   go_wp2_with fail
   go_ret2
   exact ⟨rfl, hu.alloc _⟩
 | cons a t =>
   obtain ⟨r, xa, xb, xc⟩ := a
   have HP := Lib.hid (q_peek hRR)
   have hr := hR (r, xa, xb, xc) (List.mem_cons_self ..)
   have HW := fun u (hu : Upd Nowhere w u) => Lib.hid (within_any (hb.kept hu id) (Dy.kept hd hu (fun _ _ h => h)) r hr)
   have hnx : nxt N base ((r, xa, xb, xc) :: t) = (r, decide (base ≤ r ∧ r < base + N)) := rfl
   rw [hnx]
   obtain ⟨v, hv9⟩ : ∃ v, decide (base ≤ r ∧ r < base + N) = v := ⟨_, rfl⟩
   rw [hv9]
   simp only [hv9] at HW
   have HB := Lib.hid hb
   have HV := Lib.hid hv
   clear h hb hd hp hB hRR hR hnx hv9 hv
   go_enter Tryz.func237, Tryz.ntmps237
   go_wp2_with fail
   refine (HP.out).mono ?_
   rintro e w1 ⟨rfl, hu⟩
   go_upto_region 2 with fail
   clear c0 c1 c2 c3 c4 c5 z0 z1 z2 z3 z4 z5 v0 y0 HP
   have hu := hu.alloc (.cells #[.int .u32 xa, .int .u32 xb, .int .u64 xc] TPk)
   generalize w1.alloc (.cells #[.int .u32 xa, .int .u32 xb, .int .u64 xc] TPk) = w1 at *
   obtain ⟨v0, y0⟩ := cells1 (HV.out.kept hu id)
   have HW1 := HW w1 hu
   clear HW
   go_wp2_with fail
   refine (HW1.out).mono ?_
   rintro e w2 ⟨rfl, k, rfl⟩
   go_wp2_with fail
   go_ret2
   exact ⟨rfl, hu.drewN k⟩
end
end Go.Proofs.YtpgpjjkeginbbaaGreatDoor.CalP
namespace Go.Proofs.YtpgpjjkeginbbaaGreatDoor.CalP
open Go.RowKit Go.Proofs BigFrame Cal
open Pool (upd upd_at upd_off)
open Wheel (Tab)
open Ffs (Dy d_size d_len d_from d_put d_drop d_new cnt cnt_pos cnt_zero)
open HeapP (Hq q_new q_len q_push q_pop)
open PoolP (Pk TPk VP zP Pq Ph Pa p_new p_len p_take p_app p_pop p_give p_head0 p_get)
set_option maxHeartbeats 4000000
set_option maxRecDepth 1000000
section
variable {w : World} {own : Nat → Prop} {cb sb pb bb ab room base N n c : Nat} {D : Nat → Bool} {X : Nat → List Pk} {B R W M : List (Nat × Pk)}
/-- The window's begin, written. -/
theorem set_base (h : Sep w (calL cb sb pb bb ab room base N n c D X B R) own) (r : Nat) : ∃ own', Sep (w.setCell ⟨cb, 2, none⟩ (.int .u64 r)) (calL cb sb pb bb ab room r N n c D X B R) own' ∧ Fol w own (w.setCell ⟨cb, 2, none⟩ (.int .u64 r)) own' := by
 obtain ⟨o, ⟨hb, ho⟩, _, hF⟩ := Sep.foc (blkC cb (cells sb pb bb ab room base) TL) [dayC sb N D, poolC pb room N n X, heapC bb room c B, heapC ab room c R] [] h
 exact hF _ o (blkC cb (cells sb pb bb ab room r) TL) ⟨by simpa using hb.set 2 (.int .u64 r), ho⟩ ⟨fun k hk => .inl hk, Upd.setCell (S := o) (Upd.refl _ _) (fun _ => (ho cb).2 rfl) _⟩
/-- The calendar and the variable that a closure reads. -/
abbrev Two (w : World) (vb cb : Nat) (l : List Comp) (own : Nat → Prop) : Prop := Sep w [blkC vb #[.pointer (some ⟨cb, 0, none⟩)] TPc, sepC l] own
theorem Two.parts {vb : Nat} {l : List Comp} (h : Two w vb cb l own) : Blk w vb #[.pointer (some ⟨cb, 0, none⟩)] TPc ∧ ∃ o, Sep w l o ∧ (∀ k, o k → own k) ∧ ∀ (w' : World) (o' : Nat → Prop) (l' : List Comp), Sep w' l' o' → Fol w o w' o' → ∃ own', Two w' vb cb l' own' ∧ Fol w own w' own' := by
 obtain ⟨_, ⟨hb, _⟩, _, _⟩ := Sep.foc (blkC vb #[.pointer (some ⟨cb, 0, none⟩)] TPc) [sepC l] [] h
 obtain ⟨o, h1, h2, h3⟩ := Sep.foc (sepC l) [] [blkC vb #[.pointer (some ⟨cb, 0, none⟩)] TPc] h
 exact ⟨hb, o, h1, h2, fun w' o' l' hl hf => h3 w' o' (sepC l') hl hf⟩
theorem Two.make (h : Sep w (calL cb sb pb bb ab room base N n c D X B R) own) (r : Nat) : ∃ own', Two ((w.alloc (.cells #[.pointer (some ⟨cb, 0, none⟩)] TPc)).setCell ⟨cb, 2, none⟩ (.int .u64 r)) w.heap.size cb (calL cb sb pb bb ab room r N n c D X B R) own' ∧ Fol w own ((w.alloc (.cells #[.pointer (some ⟨cb, 0, none⟩)] TPc)).setCell ⟨cb, 2, none⟩ (.int .u64 r)) own' := by
 have h0 : Two (w.alloc (.cells #[.pointer (some ⟨cb, 0, none⟩)] TPc)) w.heap.size cb (calL cb sb pb bb ab room base N n c D X B R) _ :=
  Sep.more (o := fun k => k = w.heap.size) (C := blkC w.heap.size #[.pointer (some ⟨cb, 0, none⟩)] TPc) (Sep.one (C := sepC (calL cb sb pb bb ab room base N n c D X B R)) h) ((Upd.refl _ _).alloc _) ⟨Blk.new _ _ _, fun _ => Iff.rfl⟩ (fun k hk => by rw [hk]; exact Nat.le_refl _)
 obtain ⟨_, o, h1, _, h3⟩ := h0.parts
 obtain ⟨o', h4, h5⟩ := set_base h1 r
 obtain ⟨own', h6, h7⟩ := h3 _ o' _ h4 h5
 exact ⟨own', h6, (⟨fun k hk => hk.elim (fun e => .inr (by rw [e]; exact Nat.le_refl _)) .inl, (Upd.refl _ _).alloc _⟩ : Fol w own _ _).trans h7⟩
theorem nxt_true {r : Nat} (h : (nxt N r R).2 = true) : ∃ r0 x0 t, R = (r0, x0) :: t ∧ r0 < r + N := by
 cases R with
 | nil => cases h
 | cons a t => obtain ⟨r0, x0⟩ := a; exact ⟨r0, x0, t, rfl, (of_decide_eq_true h).2⟩
theorem nxt_false {r : Nat} (h : (nxt N r R).2 = false) (hl : ∀ a ∈ R, r ≤ a.1) : ∀ a, R.head? = some a → r + N ≤ a.1 := fun a ha => by
 cases R with
 | nil => cases ha
 | cons b t =>
   obtain rfl := Option.some.inj ha
   have h1 := of_decide_eq_false h
   have h2 := hl b (List.mem_cons_self ..)
   omega
theorem turn_any (r : Nat) (h : Sep w (calL cb sb pb bb ab room base N n c (ne X) X B R) own) (hT : Tn N r X W R M) (hn : n = W.length) (hM : M.length ≤ room) (hr : ∀ a ∈ M, a.1 ≤ 18446744073709551615) :
 Calls Tryz.prog 229 #[.pointer (some ⟨cb, 0, none⟩), .int .u64 r] w fun e w' => e = .returned (.tuple #[]) ∧
  ∃ own' n' X' W' R', Sep w' (calL cb sb pb bb ab room r N n' c (ne X') X' B R') own' ∧ Fol w own w' own' ∧ Cm N r X' [] W' R' M ∧ n' = W'.length := by
 have hmf : ∀ (fn : Fn) (first cap : Array Value) (w : World), (Instr.makeFunc fn first cap).run Tryz.prog w = .ok (.func fn first cap) w := fun _ _ _ _ => rfl
 obtain ⟨o1, o2, o3, o4, hb, hd, hp, hB, hR⟩ := parts h
 have hblt := hb.lt
 have hbne : ¬ cb = w.heap.size := by omega
 obtain ⟨c0, c1, c2, c3, c4, c5, z0, z1, z2, z3, z4, z5⟩ := cells6 hb
 obtain ⟨k0, k1, k2, k3, k4, k5, y0, y1, y2, y3, y4, y5⟩ := cells6 (hb.alloc (.cells #[.pointer (some ⟨cb, 0, none⟩)] TPc))
 obtain ⟨vb, hvb⟩ : ∃ vb, w.heap.size = vb := ⟨_, rfl⟩
 obtain ⟨ownA, hA, fA⟩ := Two.make h r
 have HA := Lib.hid hA
 have FA := Lib.hid fA
 have HT := Lib.hid hT
 have HN := Lib.hid hn
 have HM := Lib.hid hM
 have HR := Lib.hid hr
 have HVB := Lib.hid hvb
 clear h hb hd hp hB hR hA fA hT hn hM hr hblt hvb
 go_enter Tryz.func229, Tryz.ntmps229
 go_upto_region 3 with fail
 clear c0 c1 c2 c3 c4 c5 z0 z1 z2 z3 z4 z5 hbne k0 k1 k2 k3 k4 k5 y0 y1 y2 y3 y4 y5
 generalize (w.alloc (.cells #[.pointer (some ⟨cb, 0, none⟩)] TPc)).setCell ⟨cb, 2, none⟩ (.int .u64 r) = wA at *
 have hv := HVB.out
 rw [hv] at HA
 simp only [hv]
 clear hv
 obtain ⟨hbv, oA, hsA, _, _⟩ := Two.parts HA.out
 have HX := Lib.hid (next_any hbv hsA (fun a ha => HR.out a (by rw [HT.out.eq]; exact List.mem_append.2 (.inr ha))))
 clear hbv hsA
 go_wp2_with (go_at_call 237; refine HX.out.mono ?_; rintro e wB ⟨rfl, huB⟩)
 have HB := Lib.hid (HA.out.old huB)
 have FB := Lib.hid (FA.out.old huB)
 clear HA FA HX huB
 go_loopg [5, 6, 7, 8, 9] (M.length + 1) (fun gk v5 v6 _ _ _ wr => ∃ n X W R ownL, R.length < gk ∧ v5 = .int .u64 ((nxt N r R).1 : Nat) ∧ v6 = .bool (nxt N r R).2 ∧ Two wr vb cb (calL cb sb pb bb ab room r N n c (ne X) X B R) ownL ∧ Fol w own wr ownL ∧ Tn N r X W R M ∧ n = W.length)
 case atStart =>
  have hle : R.length < M.length + 1 := by rw [HT.out.eq]; simp; omega
  exact ⟨n, X, W, R, ownA, hle, rfl, rfl, HB.out, FB.out, HT.out, HN.out⟩
 case round =>
  obtain ⟨n2, X2, W2, R2, own2, hgk, rfl, rfl, hTw, hFo, hTn, hnW⟩ := hrel
  obtain ⟨w2, rfl⟩ : ∃ x, x = wr := ⟨_, rfl⟩
  have HTW := Lib.hid hTw
  have HFO := Lib.hid hFo
  have HTN := Lib.hid hTn
  have HNW := Lib.hid hnW
  have HGK := Lib.hid hgk
  clear HB FB HT HN hTw hFo hTn hnW hgk
  cases hnx : (nxt N r R2).2 with
  | false =>
    have HNX := Lib.hid hnx
    clear hnx
    obtain ⟨v1, hv1⟩ : ∃ v1, (nxt N r R2).1 = v1 := ⟨_, rfl⟩
    rw [hv1]
    clear hv1
    go_wp2_with fail
    go_end0
    obtain ⟨_, o, h1, h2, _⟩ := Two.parts HTW.out
    exact ⟨rfl, o, n2, X2, W2, R2, h1, HFO.out.sub h2, HTN.out.done (nxt_false HNX.out HTN.out.low), HNW.out⟩
  | true =>
    obtain ⟨r0, ⟨xa, xb, xc⟩, t, rfl, hr0⟩ := nxt_true hnx
    have e0 : (nxt N r ((r0, xa, xb, xc) :: t)).1 = r0 := rfl
    rw [e0]
    have HR0 := Lib.hid hr0
    have hr0b : r0 ≤ 18446744073709551615 := HR.out (r0, xa, xb, xc) (by rw [HTN.out.eq]; exact List.mem_append.2 (.inr (List.mem_cons_self ..)))
    have HNL : Hid (n2 < room) := Lib.hid (by have h1 := HM.out; rw [HTN.out.eq] at h1; simp at h1; have := HNW.out; omega)
    clear hnx hr0 e0
    obtain ⟨hbv, o3, h3, hs3, hF3⟩ := Two.parts HTW.out
    obtain ⟨_, ⟨hb, _⟩, _, _⟩ := Sep.foc (blkC cb (cells sb pb bb ab room r) TL) [dayC sb N (ne X2), poolC pb room N n2 X2, heapC bb room c B, heapC ab room c ((r0, xa, xb, xc) :: t)] [] h3
    obtain ⟨o4, hq, _, hF4⟩ := Sep.foc (heapC ab room c ((r0, xa, xb, xc) :: t)) [] [blkC cb (cells sb pb bb ab room r) TL, dayC sb N (ne X2), poolC pb room N n2 X2, heapC bb room c B] h3
    obtain ⟨v0, y0⟩ := cells1 hbv
    obtain ⟨c0, c1, c2, c3, c4, c5, z0, z1, z2, z3, z4, z5⟩ := cells6 hb
    have HPO := Lib.hid (q_pop hq)
    have HF3 := Lib.hid hF3
    have HF4 := Lib.hid hF4
    clear hbv h3 hs3 hF3 hb hq hF4
    go_wp2_with fail
    refine HPO.out.mono ?_
    rintro e w3 ⟨rfl, ⟨o5, hq5, ho5⟩, hu5⟩
    obtain ⟨o6, h6, f6⟩ := HF4.out w3 o5 (heapC ab room c t) hq5 ⟨ho5, hu5⟩
    obtain ⟨own3, h7, f7⟩ := HF3.out w3 o6 _ h6 f6
    go_upto_region 7 with fail
    have hU8 : Upd Nowhere w3 (w3.alloc (.cells #[.int .u32 xa, .int .u32 xb, .int .u64 xc] TPk)) := (Upd.refl _ _).alloc _
    have H7 := Lib.hid (Sep.old h7 hU8)
    have F7 := Lib.hid ((HFO.out.trans f7).old hU8)
    have HB7 := Lib.hid (Blk.new w3 #[.int .u32 xa, .int .u32 xb, .int .u64 xc] TPk)
    obtain ⟨xk, hxk⟩ : ∃ xk, w3.heap.size = xk := ⟨_, rfl⟩
    rw [hxk] at HB7
    try simp only [hxk]
    clear hq5 ho5 hu5 h6 f6 h7 f7 HF3 HF4 HPO HTW HFO v0 y0 c0 c1 c2 c3 c4 c5 z0 z1 z2 z3 z4 z5 hU8
    generalize w3.alloc (.cells #[.int .u32 xa, .int .u32 xb, .int .u64 xc] TPk) = w3a at *
    clear hxk
    obtain ⟨x0, x1, x2, _, _, _⟩ := cells3 HB7.out
    obtain ⟨hbv, o7, h8, hs8, hF8⟩ := Two.parts H7.out
    obtain ⟨v0, y0⟩ := cells1 hbv
    have HLA := Lib.hid (lay_any h8 HNL.out r0 xa xb xc)
    have HF8 := Lib.hid hF8
    clear hbv h8 hs8 hF8
    go_wp2_with fail
    refine HLA.out.mono ?_
    rintro e w4 ⟨rfl, o8, h9, ho9, hu9⟩
    obtain ⟨own4, h10, f10⟩ := HF8.out w4 o8 _ h9 ⟨ho9, hu9⟩
    have H10 := Lib.hid h10
    have F10 := Lib.hid (F7.out.trans f10)
    have HTS := Lib.hid (HTN.out.step HR0.out)
    clear h9 ho9 hu9 h10 f10 H7 F7 HF8 HLA v0 y0 x0 x1 x2 HB7
    obtain ⟨hbv, o9, h11, _, _⟩ := Two.parts H10.out
    have HX := Lib.hid (next_any hbv h11 (fun a ha => HR.out a (by rw [HTS.out.eq]; exact List.mem_append.2 (.inr ha))))
    clear hbv h11
    go_wp2_with (go_at_call 237; refine HX.out.mono ?_; rintro e w5 ⟨rfl, hu11⟩)
    have H12 := Lib.hid (H10.out.old hu11)
    have F12 := Lib.hid (F10.out.old hu11)
    clear HX hu11 H10 F10
    go_wp2_with fail
    go_roundg (t.length + 1)
    case rel => exact ⟨n2 + 1, _, _, t, own4, Nat.lt_succ_self _, rfl, rfl, H12.out, F12.out, HTS.out, by rw [HNW.out]; simp⟩
    case measure => have := HGK.out; simp at this; omega
end
end Go.Proofs.YtpgpjjkeginbbaaGreatDoor.CalP
namespace Go.Proofs.YtpgpjjkeginbbaaGreatDoor.CalP
open Go.RowKit Go.Proofs BigFrame Cal
open Pool (upd upd_at upd_off)
open Wheel (Tab)
open Ffs (Dy d_size d_len d_from d_put d_drop d_new cnt cnt_pos cnt_zero)
open HeapP (Hq q_new q_len q_push q_pop)
open PoolP (Pk TPk VP zP Pq Ph Pa p_new p_len p_take p_app p_pop p_give p_head0 p_get)
set_option maxHeartbeats 4000000
set_option maxRecDepth 1000000
section
variable {w : World} {own : Nat → Prop} {cb sb pb bb ab room base N n c : Nat} {D : Nat → Bool} {X : Nat → List Pk} {B R W M : List (Nat × Pk)}
/-- Behind its begin's turn the first one is in the window. -/
theorem first_in {r : Nat} {x : Pk} {t : List (Nat × Pk)} (h : Cm N r X [] W R ((r, x) :: t)) (hN : 0 < N) : ∃ W', W = (r, x) :: W' := by
 have e := h.eq
 cases W with
 | nil =>
   have := h.abo (r, x) (by rw [show R = (r, x) :: t from e.symm]; exact List.mem_cons_self ..)
   simp at this; omega
 | cons a W' =>
   simp at e
   exact ⟨W', by rw [e.1]⟩
theorem least_all {r : Nat} {x : Pk} {t : List (Nat × Pk)} (h : Rises ((r, x) :: t)) : ∀ a ∈ (r, x) :: t, r ≤ a.1 := fun a ha => by
 rcases List.mem_cons.1 ha with rfl | ha
 · exact Nat.le_refl _
 · exact (List.pairwise_cons.1 h).1 a ha
theorem cnt_no (h : Win N base X []) : cnt (ne X) N = 0 := cnt_zero fun i hi => by
 unfold ne
 rw [h.que i hi]; rfl
theorem cnt_yes {a : Nat × Pk} (h : Win N base X (a :: W)) (hN : 0 < N) : 0 < cnt (ne X) N := by
 obtain ⟨r, x⟩ := a
 exact cnt_pos (Nat.mod_lt r hN) (ne_of (by rw [h.head]; simp))
theorem head_any {r : Nat} {x : Pk} {t : List (Nat × Pk)} (h : Sep w (calL cb sb pb bb ab room base N n c (ne X) X B R) own) (hC : Cm N base X [] W R M) (hMM : M = (r, x) :: t) (hn : n = W.length) (hM : M.length ≤ room) (hr : ∀ a ∈ M, a.1 ≤ 18446744073709551615) (hb9 : base ≤ 18446744073709551615)
 (hT : Tab w) (hG : ¬ own (Tryz.tz64_ren.g 1)) :
 Calls Tryz.prog 218 #[.pointer (some ⟨cb, 0, none⟩)] w fun e w' => e = .returned (.tuple #[.int .u64 r, .bool true]) ∧
  ∃ own' n' X' W' R', Sep w' (calL cb sb pb bb ab room r N n' c (ne X') X' B R') own' ∧ Fol w own w' own' ∧ Cm N r X' [] W' R' M ∧ n' = W'.length := by
 obtain ⟨o1, o2, o3, o4, hb, hd, hp, hB, hRR⟩ := parts h
 obtain ⟨c0, c1, c2, c3, c4, c5, z0, z1, z2, z3, z4, z5⟩ := cells6 hb
 have hN := hd.size
 have hN0 : 0 < N := by omega
 have hris : Rises ((r, x) :: t) := by rw [← hMM]; exact hC.ris
 have hall := least_all hris
 have hrb : r ≤ 18446744073709551615 := hr (r, x) (by rw [hMM]; exact List.mem_cons_self ..)
 obtain ⟨q, hq⟩ : ∃ q, r % N = q := ⟨_, rfl⟩
 have hqN : q < N := by rw [← hq]; exact Nat.mod_lt _ hN0
 have HL := Lib.hid (d_len hd)
 have HT := Lib.hid hT
 have HG := Lib.hid hG
 have HR := Lib.hid hr
 have HM := Lib.hid hM
 have HMM := Lib.hid hMM
 have HALL : Hid (∀ a ∈ M, r ≤ a.1) := Lib.hid (by rw [hMM]; exact hall)
 have HRIS := Lib.hid hris
 have HQ := Lib.hid hq
 have H0 := Lib.hid h
 have HC0 := Lib.hid hC
 have HN0 := Lib.hid hn
 clear hb hp hB hall hris hT hG hr hM hMM h hC hn hq
 have hcase : W = [] ∨ ∃ W', W = (r, x) :: W' := by
  have e := HC0.out.eq
  rw [HMM.out] at e
  cases W with
  | nil => exact .inl rfl
  | cons a W' => simp at e; exact .inr ⟨W', by rw [e.1]⟩
 rcases hcase with rfl | ⟨W1, rfl⟩
 focus
  have eR : R = (r, x) :: t := by have := HC0.out.eq; rw [HMM.out] at this; simpa using this.symm
  subst eR
  have hz := cnt_no HC0.out.win
  rw [hz] at HL
  have HPK := Lib.hid (q_peek hRR)
  have hTn : Tn N r X [] ((r, x) :: t) M := HC0.out.turn HALL.out (.inl rfl)
  have HTN := Lib.hid hTn
  clear hz hRR hd hTn
  go_enter Tryz.func218, Tryz.ntmps218
  go_wp2_with fail
  refine (HL.out).mono ?_
  rintro e w1 ⟨rfl, rfl⟩
  go_wp2_with fail
  refine HPK.out.mono ?_
  rintro e w1 ⟨rfl, hu1⟩
  go_upto_region 3 with fail
  have hu1 := hu1.alloc (.cells #[.int .u32 x.1, .int .u32 x.2.1, .int .u64 x.2.2] TPk)
  generalize w1.alloc (.cells #[.int .u32 x.1, .int .u32 x.2.1, .int .u64 x.2.2] TPk) = w1 at *
  clear HPK HL c0 c1 c2 c3 c4 c5 z0 z1 z2 z3 z4 z5
  have HTU := Lib.hid (turn_any r (H0.out.old hu1) HTN.out HN0.out HM.out HR.out)
  go_wp2_with fail
  refine HTU.out.mono ?_
  rintro e wB ⟨rfl, own1, n1, X1, W0, R1, hs1, hf1, hc1, hn1⟩
  obtain ⟨W1, rfl⟩ := first_in (by rw [← HMM.out]; exact hc1) hN0
  obtain ⟨b1, hb1⟩ : ∃ b1, r = b1 := ⟨_, rfl⟩
  have HS := Lib.hid hs1
  have HF := Lib.hid ((Fol.refl w own).old hu1 |>.trans hf1)
  have HC := Lib.hid hc1
  have HN1 := Lib.hid hn1
  have hb19 : r ≤ 18446744073709551615 := hrb
  rw [show (calL cb sb pb bb ab room r N n1 c (ne X1) X1 B R1) = calL cb sb pb bb ab room b1 N n1 c (ne X1) X1 B R1 by rw [hb1]] at HS
  rw [show Cm N r X1 [] ((r, x) :: W1) R1 M = Cm N b1 X1 [] ((r, x) :: W1) R1 M by rw [← hb1]] at HC
  rw [hb1] at hb19
  clear hs1 hf1 hc1 hn1 hu1 HTU HTN H0 HC0 HN0 hb1
  go_upto_region 6 with fail
 rotate_left
 focus
  obtain ⟨cn, hcn⟩ : ∃ cn, cnt (ne X) N = cn := ⟨_, rfl⟩
  have hcp : 0 < cn := by rw [← hcn]; exact cnt_yes HC0.out.win hN0
  rw [hcn] at HL
  have hz : ((cn : Int) == 0) = false := by simp; omega
  clear hcn hRR hd
  go_enter Tryz.func218, Tryz.ntmps218
  go_wp2_with fail
  refine (HL.out).mono ?_
  rintro e wB ⟨rfl, hwB⟩
  clear HL c0 c1 c2 c3 c4 c5 z0 z1 z2 z3 z4 z5
  go_upto_region 6 with fail
  obtain ⟨b1, hb1⟩ : ∃ b1, base = b1 := ⟨_, rfl⟩
  obtain ⟨n1, hn1⟩ : ∃ n1, n = n1 := ⟨_, rfl⟩
  obtain ⟨X1, hX1⟩ : ∃ X1, X = X1 := ⟨_, rfl⟩
  obtain ⟨R1, hR1⟩ : ∃ R1, R = R1 := ⟨_, rfl⟩
  obtain ⟨own1, ho1⟩ : ∃ own1, own = own1 := ⟨_, rfl⟩
  have HF : Hid (Fol w own wB own1) := Lib.hid (by rw [← ho1, ← hwB]; exact Fol.refl w own)
  have HS : Hid (Sep wB (calL cb sb pb bb ab room b1 N n1 c (ne X1) X1 B R1) own1) := Lib.hid (by rw [← ho1, ← hwB, ← hb1, ← hn1, ← hX1, ← hR1]; exact H0.out)
  have HC : Hid (Cm N b1 X1 [] ((r, x) :: W1) R1 M) := Lib.hid (by rw [← hb1, ← hX1, ← hR1]; exact HC0.out)
  have HN1 : Hid (n1 = ((r, x) :: W1).length) := Lib.hid (by rw [← hn1]; exact HN0.out)
  have hb19 : b1 ≤ 18446744073709551615 := by rw [← hb1]; exact hb9
  clear H0 HC0 HN0 hb1 hn1 hX1 hR1 ho1 hz hcp hwB
 all_goals
  obtain ⟨p1, p2, p3, p4, hb, hd, _, _, _⟩ := parts HS.out
  obtain ⟨c0, c1, c2, c3, c4, c5, z0, z1, z2, z3, z4, z5⟩ := cells6 hb
  have HT2 := Lib.hid (HT.out.old HF.out.upd HG.out)
  obtain ⟨f, hf⟩ : ∃ f, b1 % N = f := ⟨_, rfl⟩
  have hfN : f < N := by rw [← hf]; exact Nat.mod_lt _ hN0
  have HD := Lib.hid (day_any hb hd b1)
  rw [hf] at HD
  have hX0 : ne X1 q = true := by rw [← HQ.out]; exact ne_of (by rw [HC.out.win.head]; simp)
  have HX0 := Lib.hid hX0
  have HDD := fun u (hu : Upd Nowhere wB u) => Lib.hid (Dy.kept hd hu (fun _ _ h => h))
  have Hf := Lib.hid hf
  clear hb hd hf hX0
  go_wp2_with fail
  refine HD.out.mono ?_
  rintro e w3 ⟨rfl, k3, rfl⟩
  have hu3 : Upd Nowhere wB (wB.drewN k3) := (Upd.refl _ _).drewN k3
  have HFR := Lib.hid (d_from (HDD _ hu3).out (HT2.out.old hu3 id) hfN hqN HX0.out)
  have HSZ := Lib.hid (d_size (HDD _ hu3).out)
  clear HD HDD HX0 HT2
  go_wp2_with fail
  refine HFR.out.mono ?_
  rintro e w4 ⟨⟨at9, rfl, ha1, ha2, ha3⟩, rfl⟩
  have hfst := HC.out.win.first (Cm.wris HC.out) Hf.out ha1 (ne_true ha2) (ha3.imp (fun h => ⟨h.1, fun k h1 h2 => ne_false (h.2 k h1 h2)⟩) (fun h => ⟨fun k h1 h2 => ne_false (h.1 k h1 h2), fun k h2 => ne_false (h.2 k h2)⟩))
  obtain ⟨s9, hs9⟩ : ∃ s9, at9 + N - f = s9 := ⟨_, rfl⟩
  obtain ⟨d9, hd9⟩ : ∃ d9, s9 % N = d9 := ⟨_, rfl⟩
  have hrd : r = b1 + d9 := by rw [← hd9, ← hs9]; exact hfst.2
  have e1 : (at9 : Int) - f + N = (s9 : Int) := by omega
  have e2 : (s9 : Int).tmod N = (d9 : Int) := by rw [← hd9]; rfl
  have e3 : (b1 : Int) + d9 = (r : Int) := by omega
  have hdN : d9 < N := by rw [← hd9]; exact Nat.mod_lt _ hN0
  have hN1 : ¬ N = 0 := by omega
  have hs9b : s9 ≤ 1000000 := by omega
  have HRD := Lib.hid hrd
  clear HFR ha2 ha3 hfst hs9 hd9 Hf hrd
  go_wp2_with fail
  refine HSZ.out.mono ?_
  rintro e w5 ⟨rfl, k5, rfl⟩
  clear HSZ
  by_cases e9 : r = b1
  · have t1 : ((r : Int) != (b1 : Int)) = false := by simp [e9]
    have t2 : ((b1 : Int) != (b1 : Int)) = false := by simp
    have E9 := Lib.hid e9
    clear e9 t2
    go_wp2_with fail
    go_quiet (fail)
    go_wp2_with fail
    go_ret2
    have hs := HS.out.old ((Upd.refl Nowhere wB).drewN (k3 + k5 + nq))
    have hc := HC.out
    rw [← E9.out] at hs hc
    exact ⟨rfl, own1, n1, X1, _, R1, hs, HF.out.old ((Upd.refl Nowhere wB).drewN (k3 + k5 + nq)), hc, HN1.out⟩
  · have t1 : ((r : Int) != (b1 : Int)) = true := by simp; omega
    have hbr : b1 ≤ r := by have := HRD.out; omega
    have HTN := Lib.hid (HC.out.turn HALL.out (.inr hbr))
    clear hbr
    go_wp2_with fail
    go_quiet (fail)
    have HTU := Lib.hid (turn_any r (HS.out.old ((Upd.refl Nowhere wB).drewN (k3 + k5 + nq))) HTN.out HN1.out HM.out HR.out)
    go_wp2_with fail
    refine HTU.out.mono ?_
    rintro e w6 ⟨rfl, own6, n6, X6, W6, R6, hs6, hf6, hc6, hn6⟩
    have HS6 := Lib.hid hs6
    have HF6 := Lib.hid ((HF.out.old ((Upd.refl Nowhere wB).drewN (k3 + k5 + nq))).trans hf6)
    have HC6 := Lib.hid hc6
    have HN6 := Lib.hid hn6
    clear hs6 hf6 hc6 hn6 HTU
    go_wp2_with fail
    go_ret2
    exact ⟨rfl, own6, n6, X6, W6, R6, HS6.out, HF6.out, HC6.out, HN6.out⟩
end
end Go.Proofs.YtpgpjjkeginbbaaGreatDoor.CalP
namespace Go.Proofs.YtpgpjjkeginbbaaGreatDoor.CalP
open Go.RowKit Go.Proofs BigFrame Cal
open Pool (upd upd_at upd_off)
open Wheel (Tab)
open Ffs (Dy d_size d_len d_from d_put d_drop d_new cnt cnt_pos cnt_zero)
open HeapP (Hq q_new q_len q_push q_pop)
open PoolP (Pk TPk VP zP Pq Ph Pa p_new p_len p_take p_app p_pop p_give p_head0 p_get p_headx)
set_option maxHeartbeats 4000000
set_option maxRecDepth 1000000
set_option linter.unusedSimpArgs false
/-- A calendar of the blocks own that has the sorted list M; at most c came. -/
structure StP (w : World) (own : Nat → Prop) (cb sb pb bb ab room base N n c : Nat) (X : Nat → List Pk) (B W R M : List (Nat × Pk)) : Prop where
 sep : Sep w (calL cb sb pb bb ab room base N n c (ne X) X B R) own
 cm : Cm N base X B W R M
 cnt : n = W.length
 bas : base ≤ 18446744073709551615
 rks : ∀ a ∈ M, a.1 ≤ 18446744073709551615
 len : M.length ≤ room
 r1 : 1 ≤ room
 r2 : room ≤ 4096
section
variable {w : World} {own : Nat → Prop} {cb sb pb bb ab room base N n c : Nat} {D : Nat → Bool} {X : Nat → List Pk} {B R W M : List (Nat × Pk)}
theorem StP.old {w' : World} (h : StP w own cb sb pb bb ab room base N n c X B W R M) (hu : Upd Nowhere w w') : StP w' own cb sb pb bb ab room base N n c X B W R M := { h with sep := h.sep.old hu }
theorem st_len (h : StP w own cb sb pb bb ab room base N n c X B W R M) : Calls Tryz.prog 210 #[.pointer (some ⟨cb, 0, none⟩)] w fun e w' => e = .returned (.int .i64 (M.length : Nat)) ∧ ∃ k, w' = w.drewN k := by
 have h1 := h.cm.len
 have h2 := h.len
 have h3 := len_any h.sep h.r2 (by rw [h.cnt]; omega)
 rw [show n + B.length + R.length = M.length by rw [h1, h.cnt]; omega] at h3
 exact h3
theorem at_one {w w' : World} {rb : Nat} (h : Upd (fun k => k = rb) w w') (i : Nat) (v : Value) : Upd (fun k => k = rb) w (w'.setCell ⟨rb, i, none⟩ v) := h.setCell (a := ⟨rb, i, none⟩) (fun _ => rfl) v
theorem StP.kp {w' : World} {S : Nat → Prop} (h : StP w own cb sb pb bb ab room base N n c X B W R M) (hu : Upd S w w') (hS : ∀ k, own k → ¬ S k) : StP w' own cb sb pb bb ab room base N n c X B W R M := { h with sep := h.sep.kp hu hS }
/-- Two blocks of a call's own: its result, and a packet. -/
structure Loc2 (w : World) (own : Nat → Prop) (rb xk xa xb xc : Nat) : Prop where
 b1 : Blk w rb zP TPk
 b2 : Blk w xk #[.int .u32 xa, .int .u32 xb, .int .u64 xc] TPk
 n1 : ¬ own rb
 n2 : ¬ own xk
theorem Loc2.fol {w' : World} {own' : Nat → Prop} {rb xk xa xb xc : Nat} (h : Loc2 w own rb xk xa xb xc) (hf : Fol w own w' own') : Loc2 w' own' rb xk xa xb xc := ⟨hf.blk h.b1 h.n1, hf.blk h.b2 h.n2, hf.off h.n1 h.b1.lt, hf.off h.n2 h.b2.lt⟩
theorem Loc2.old {w' : World} {rb xk xa xb xc : Nat} (h : Loc2 w own rb xk xa xb xc) (hu : Upd Nowhere w w') : Loc2 w' own rb xk xa xb xc := h.fol ((Fol.refl w own).old hu)
/-- What Peek leaves. -/
def Peeked (w : World) (own : Nat → Prop) (w' : World) (cb sb pb bb ab room base N n c : Nat) (X : Nat → List Pk) (B W R M : List (Nat × Pk)) (a : Nat × Pk) : Prop :=
 ∃ own' base' n' X' W' R', StP w' own' cb sb pb bb ab room base' N n' c X' B W' R' M ∧ Fol w own w' own' ∧ (B = [] → ∃ W'', W' = a :: W'') ∧ (B ≠ [] → Upd Nowhere w w' ∧ base' = base ∧ n' = n ∧ X' = X ∧ W' = W ∧ R' = R)
theorem peek_empty (h : StP w own cb sb pb bb ab room base N n c X B W R []) : Calls Tryz.prog 215 #[.pointer (some ⟨cb, 0, none⟩)] w fun e w' => e = .returned (.tuple #[.int .u64 0, .agg #[.int .u32 0, .int .u32 0, .int .u64 0], .bool false]) ∧ Upd Nowhere w w' := by
 have hU2 : Upd Nowhere w ((w.alloc (.cells zP TPk)).alloc (.cells zP TPk)) := ((Upd.refl _ _).alloc _).alloc _
 have hB2 : Blk ((w.alloc (.cells zP TPk)).alloc (.cells zP TPk)) w.heap.size zP TPk := (Blk.new _ _ _).alloc _
 have hN2 : Blk ((w.alloc (.cells zP TPk)).alloc (.cells zP TPk)) (w.heap.size + 1) zP TPk := Blk.new2 _ _ _ _
 have HL := Lib.hid (st_len (h.old hU2))
 clear h
 go_enter Tryz.func215, Tryz.ntmps215
 go_wp2_with fail
 generalize (w.alloc (.cells zP TPk)).alloc (.cells zP TPk) = w2 at *
 refine HL.out.mono ?_
 rintro e w' ⟨rfl, k, rfl⟩
 obtain ⟨b0, b1, b2, y0, y1, y2⟩ := cells3 hB2
 obtain ⟨d0, d1, d2, _, _, _⟩ := cells3 hN2
 clear hB2 hN2 HL
 go_upto_region 3 with fail
 go_region
 all_goals
  go_wp2_with fail
  exact bodyPost_ret (v := .tuple #[.int .u64 0, .agg #[.int .u32 0, .int .u32 0, .int .u64 0], .bool false]) (by simp [results, Tryz.results215, go_sem, b0, b1, b2]) rfl ⟨rfl, (by repeat (first | with_reducible exact hU2 | with_reducible refine Upd.drewN ?_ _ | with_reducible refine Upd.drew ?_ | with_reducible refine Upd.setNew ?_ (Nat.le_refl _) _))⟩
theorem peek_full {r xa xb xc : Nat} {t : List (Nat × Pk)} (h : StP w own cb sb pb bb ab room base N n c X B W R ((r, xa, xb, xc) :: t)) (hT : B = [] → Tab w) (hG : B = [] → ¬ own (Tryz.tz64_ren.g 1)) :
 Calls Tryz.prog 215 #[.pointer (some ⟨cb, 0, none⟩)] w fun e w' => e = .returned (.tuple #[.int .u64 r, .agg #[.int .u32 xa, .int .u32 xb, .int .u64 xc], .bool true]) ∧
  Peeked w own w' cb sb pb bb ab room base N n c X B W R ((r, xa, xb, xc) :: t) (r, xa, xb, xc) := by
 obtain ⟨m, hm⟩ : ∃ m, ((r, xa, xb, xc) :: t).length = m := ⟨_, rfl⟩
 have hm0 : 0 < m := by rw [← hm]; simp
 have hz : ((m : Int) == 0) = false := by simp; omega
 have hU2 : Upd Nowhere w ((w.alloc (.cells zP TPk)).alloc (.cells zP TPk)) := ((Upd.refl _ _).alloc _).alloc _
 have hB2 : Blk ((w.alloc (.cells zP TPk)).alloc (.cells zP TPk)) w.heap.size zP TPk := (Blk.new _ _ _).alloc _
 have HNB : Hid (¬ own w.heap.size) := Lib.hid (fun hk => Nat.lt_irrefl _ (h.sep.lt hk))
 have HL := Lib.hid (st_len (h.old hU2))
 rw [hm] at HL
 have H0 := Lib.hid (h.old hU2)
 have HT : Hid (B = [] → Tab ((w.alloc (.cells zP TPk)).alloc (.cells zP TPk))) := Lib.hid (fun e => (hT e).old hU2 id)
 have HG := Lib.hid hG
 have hrb := h.rks (r, xa, xb, xc) (List.mem_cons_self ..)
 have HRB : Hid (r ≤ 18446744073709551615) := Lib.hid hrb
 have HB2 := Lib.hid hB2
 have HU2 := Lib.hid hU2
 clear h hT hG hm hU2 hB2 hrb
 go_enter Tryz.func215, Tryz.ntmps215
 go_wp2_with fail
 generalize (w.alloc (.cells zP TPk)).alloc (.cells zP TPk) = w2 at *
 refine HL.out.mono ?_
 rintro e w1 ⟨rfl, k1, rfl⟩
 obtain ⟨o1, o2, o3, o4, hb, hd, hp, hB, hRR⟩ := parts (H0.out.sep.old ((Upd.refl _ w2).drewN k1))
 obtain ⟨c0, c1, c2, c3, c4, c5, z0, z1, z2, z3, z4, z5⟩ := cells6 hb
 have hN := hd.size
 clear hb hd hp hRR HL
 rcases B with _ | ⟨⟨r', x'⟩, B⟩
 · have HP := Lib.hid (q_peek0 hB)
   clear hB
   go_wp2_with fail
   refine HP.out.mono ?_
   rintro e w3 ⟨rfl, hu3⟩
   go_upto_region 7 with fail
   have hu4 : Upd Nowhere w2 (w3.alloc (.cells zP TPk)) := (((Upd.refl _ _).drewN k1).trans hu3 (fun _ _ h => h)).alloc _
   have HHD := Lib.hid (head_any (H0.out.sep.old hu4) H0.out.cm rfl H0.out.cnt H0.out.len H0.out.rks H0.out.bas ((HT.out (by first | rfl | trivial)).old hu4 id) (HG.out (by first | rfl | trivial)))
   have HB4 := Lib.hid (HB2.out.kept hu4 id)
   have HU4 := Lib.hid hu4
   clear hu3 hu4 HP HT HG HB2 c0 c1 c2 c3 c4 c5 z0 z1 z2 z3 z4 z5
   generalize w3.alloc (.cells zP TPk) = w4 at *
   go_wp2_with fail
   refine HHD.out.mono ?_
   rintro e w5 ⟨rfl, own3, n3, X3, W3, R3, hs3, hf3, hc3, hn3⟩
   obtain ⟨W4, rfl⟩ := first_in hc3 (by omega)
   obtain ⟨q, hq⟩ : ∃ q, r % N = q := ⟨_, rfl⟩
   have hqN : q < N := by rw [← hq]; exact Nat.mod_lt _ (by omega)
   obtain ⟨p1, p2, p3, p4, hb, hd, hp, hB, hRR⟩ := parts hs3
   have hXq : X3 q = (xa, xb, xc) :: dayq N q W4 := by rw [← hq]; exact hc3.win.head
   obtain ⟨i, hpa, hhd⟩ := p_headx hp hqN hXq
   have HPA := Lib.hid hpa
   have HH := fun k => Lib.hid (hhd (w5.drewN k) ((Upd.refl _ _).drewN k))
   have HD := fun k => Lib.hid (day_any (hb.drewN k) (Dy.kept (S := Nowhere) hd ((Upd.refl _ w5).drewN k) (fun _ _ h => h)) r)
   rw [hq] at HD
   obtain ⟨c0, c1, c2, c3, c4, c5, z0, z1, z2, z3, z4, z5⟩ := cells6 hb
   have HF3 := Lib.hid (((Fol.refl w own).old (HU2.out.trans HU4.out (fun _ _ h => h))).trans hf3)
   have HB5 := Lib.hid (hf3.blk HB4.out HNB.out)
   have HN5 : Hid (¬ own3 w.heap.size) := Lib.hid (hf3.off HNB.out HB4.out.lt)
   have HST : Hid (StP w5 own3 cb sb pb bb ab room r N n3 c X3 [] ((r, xa, xb, xc) :: W4) R3 ((r, xa, xb, xc) :: t)) := Lib.hid ⟨hs3, hc3, hn3, HRB.out, H0.out.rks, H0.out.len, H0.out.r1, H0.out.r2⟩
   clear hs3 hf3 hc3 hn3 hq hd hp hB hRR hXq hpa hhd hb HHD HU2 HU4 HB4 H0
   go_wp2_with fail
   go_quiet ((first | (go_at_call 220; exact quiet_of (HD _).out) | (go_at_call 219; exact quiet_more (HH _).out) | (go_at_call 219; exact quiet_of (HH _).out)))
   have HGT := Lib.hid (p_get (HPA.out.old ((Upd.refl _ w5).drewN nq)))
   go_wp2_with fail
   refine HGT.out.mono ?_
   rintro e w6 ⟨rfl, hu6⟩
   go_upto_region 10 with fail
   have hu7 : Upd Nowhere w5 (w6.alloc (.cells #[.int .u32 xa, .int .u32 xb, .int .u64 xc] TPk)) := (((Upd.refl _ _).drewN nq).trans hu6 (fun _ _ h => h)).alloc _
   have hX7 := Blk.new w6 #[.int .u32 xa, .int .u32 xb, .int .u64 xc] TPk
   have hB7 := HB5.out.kept hu7 id
   have hle : w.heap.size < w6.heap.size := (HB5.out.kept (((Upd.refl _ w5).drewN nq).trans hu6 (fun _ _ h => h)) id).lt
   have n3 : ¬ w.heap.size = w6.heap.size := by omega
   have n4 : ¬ w6.heap.size = w.heap.size := by omega
   have HFIN : Hid (∀ u, Upd (fun k => k = w.heap.size) (w6.alloc (.cells #[.int .u32 xa, .int .u32 xb, .int .u64 xc] TPk)) u → Peeked w own u cb sb pb bb ab room base N n c X [] W R ((r, xa, xb, xc) :: t) (r, xa, xb, xc)) := Lib.hid (fun u hu => by unfold Peeked; exact ⟨own3, r, _, X3, _, R3, (HST.out.old hu7).kp hu (fun k hk e => HN5.out (by rw [← e]; exact hk)), (HF3.out.old hu7).ret hu (Nat.le_refl _), fun _ => ⟨W4, rfl⟩, fun h => absurd rfl h⟩)
   clear hu6 hu7 hle HGT HH HD HPA HST HF3 HB5 HN5 HNB c0 c1 c2 c3 c4 c5 z0 z1 z2 z3 z4 z5
   generalize w6.alloc (.cells #[.int .u32 xa, .int .u32 xb, .int .u64 xc] TPk) = w7 at *
   obtain ⟨x0, x1, x2, _, _, _⟩ := cells3 hX7
   obtain ⟨b0, b1, b2, y0, y1, y2⟩ := cells3 hB7
   clear hX7 hB7
   go_region
   all_goals
    go_wp2_with fail
    exact bodyPost_ret (v := .tuple #[.int .u64 r, .agg #[.int .u32 xa, .int .u32 xb, .int .u64 xc], .bool true]) (by simp [results, Tryz.results215, go_sem, b0, b1, b2]) rfl ⟨rfl, HFIN.out _ (by repeat (first | with_reducible exact Upd.refl _ _ | with_reducible refine Upd.drewN ?_ _ | with_reducible refine Upd.drew ?_ | with_reducible refine at_one ?_ _ _))⟩
 · have e := H0.out.cm.eq
   simp at e
   obtain ⟨⟨rfl, rfl⟩, _⟩ := e
   have HP := Lib.hid (q_peek hB)
   clear hB
   go_wp2_with fail
   refine HP.out.mono ?_
   rintro e w3 ⟨rfl, hu3⟩
   go_upto_region 6 with fail
   have hu4 : Upd Nowhere w2 (w3.alloc (.cells #[.int .u32 xa, .int .u32 xb, .int .u64 xc] TPk)) := (((Upd.refl _ _).drewN k1).trans hu3 (fun _ _ h => h)).alloc _
   have hX7 := Blk.new w3 #[.int .u32 xa, .int .u32 xb, .int .u64 xc] TPk
   have hB7 := HB2.out.kept hu4 id
   have hle : w.heap.size < w3.heap.size := (HB2.out.kept (((Upd.refl _ w2).drewN k1).trans hu3 (fun _ _ h => h)) id).lt
   have n3 : ¬ w.heap.size = w3.heap.size := by omega
   have n4 : ¬ w3.heap.size = w.heap.size := by omega
   have HFIN : Hid (∀ u, Upd (fun k => k = w.heap.size) (w3.alloc (.cells #[.int .u32 xa, .int .u32 xb, .int .u64 xc] TPk)) u → Peeked w own u cb sb pb bb ab room base N n c X ((r, xa, xb, xc) :: B) W R ((r, xa, xb, xc) :: t) (r, xa, xb, xc)) := Lib.hid (fun u hu => by unfold Peeked; exact ⟨own, base, n, X, W, R, (H0.out.old hu4).kp hu (fun k hk e => HNB.out (by rw [← e]; exact hk)), ((Fol.refl w own).old (HU2.out.trans hu4 (fun _ _ h => h))).ret hu (Nat.le_refl _), fun h => (by cases h), fun _ => ⟨(HU2.out.trans hu4 (fun _ _ h => h)).trans hu (fun k hk e => by omega), rfl, rfl, rfl, rfl, rfl⟩⟩)
   clear hu3 hu4 hle HP HT HG H0 HB2 HU2 HNB c0 c1 c2 c3 c4 c5 z0 z1 z2 z3 z4 z5
   generalize w3.alloc (.cells #[.int .u32 xa, .int .u32 xb, .int .u64 xc] TPk) = w7 at *
   obtain ⟨x0, x1, x2, _, _, _⟩ := cells3 hX7
   obtain ⟨b0, b1, b2, y0, y1, y2⟩ := cells3 hB7
   clear hX7 hB7
   go_region
   all_goals
    go_wp2_with fail
    exact bodyPost_ret (v := .tuple #[.int .u64 r, .agg #[.int .u32 xa, .int .u32 xb, .int .u64 xc], .bool true]) (by simp [results, Tryz.results215, go_sem, b0, b1, b2]) rfl ⟨rfl, HFIN.out _ (by repeat (first | with_reducible exact Upd.refl _ _ | with_reducible refine Upd.drewN ?_ _ | with_reducible refine Upd.drew ?_ | with_reducible refine at_one ?_ _ _))⟩
end
end Go.Proofs.YtpgpjjkeginbbaaGreatDoor.CalP
namespace Go.Proofs.YtpgpjjkeginbbaaGreatDoor.CalP
open Go.RowKit Go.Proofs BigFrame Cal
open Pool (upd upd_at upd_off)
open Wheel (Tab)
open Ffs (Dy d_size d_len d_from d_put d_drop d_new cnt cnt_pos cnt_zero)
open HeapP (Hq q_new q_len q_push q_pop)
open PoolP (Pk TPk VP zP Pq Ph Pa p_new p_len p_take p_app p_pop p_give p_head0 p_get p_headx)
set_option maxHeartbeats 4000000
set_option maxRecDepth 1000000
set_option linter.unusedSimpArgs false
section
variable {w : World} {own : Nat → Prop} {cb sb pb bb ab room base N n c : Nat} {D : Nat → Bool} {X : Nat → List Pk} {B R W M : List (Nat × Pk)}
theorem pop_empty (h : StP w own cb sb pb bb ab room base N n c X B W R []) : Calls Tryz.prog 216 #[.pointer (some ⟨cb, 0, none⟩)] w fun e w' => e = .returned (.tuple #[.int .u64 0, .agg #[.int .u32 0, .int .u32 0, .int .u64 0], .bool false]) ∧ Upd Nowhere w w' := by
 have hU2 : Upd Nowhere w (w.alloc (.cells zP TPk)) := (Upd.refl _ _).alloc _
 have hB2 : Blk (w.alloc (.cells zP TPk)) w.heap.size zP TPk := Blk.new _ _ _
 have HL := Lib.hid (peek_empty (h.old hU2))
 clear h
 go_enter Tryz.func216, Tryz.ntmps216
 go_wp2_with fail
 generalize w.alloc (.cells zP TPk) = w2 at *
 refine HL.out.mono ?_
 rintro e w1 ⟨rfl, hu⟩
 go_upto_region 3 with fail
 have hU3 : Upd Nowhere w (w1.alloc (.cells zP TPk)) := (hU2.trans hu (fun _ _ h => h)).alloc _
 have hB3 := (hB2.kept hu id).alloc (.cells zP TPk)
 have hN3 := Blk.new w1 zP TPk
 have hle : w.heap.size < w1.heap.size := (hB2.kept hu id).lt
 have n3 : ¬ w.heap.size = w1.heap.size := by omega
 have n4 : ¬ w1.heap.size = w.heap.size := by omega
 clear hU2 hB2 hu hle HL
 generalize w1.alloc (.cells zP TPk) = w3 at *
 obtain ⟨g0, g1, g2, f0, f1, f2⟩ := cells3 hB3
 obtain ⟨d0, d1, d2, _, _, _⟩ := cells3 hN3
 clear hB3 hN3
 go_region
 all_goals
  go_wp2_with fail
  exact bodyPost_ret (v := .tuple #[.int .u64 0, .agg #[.int .u32 0, .int .u32 0, .int .u64 0], .bool false]) (by simp [results, Tryz.results216, go_sem, g0, g1, g2]) rfl ⟨rfl, (by repeat (first | with_reducible exact hU3 | with_reducible refine Upd.drewN ?_ _ | with_reducible refine Upd.drew ?_ | with_reducible refine Upd.setNew ?_ (Nat.le_refl _) _))⟩
/-- What Pop leaves. -/
def Popped (w : World) (own : Nat → Prop) (w' : World) (cb sb pb bb ab room base N n c : Nat) (X : Nat → List Pk) (B W R M : List (Nat × Pk)) : Prop :=
 ∃ own' base' n' X' B' W' R', StP w' own' cb sb pb bb ab room base' N n' c X' B' W' R' M ∧ Fol w own w' own' ∧ (B ≠ [] → B' = B.tail ∧ base' = base ∧ n' = n ∧ X' = X ∧ W' = W ∧ R' = R)
theorem ne_drop (X : Nat → List Pk) (q : Nat) : ∀ i, ne (upd X q []) i = upd (ne X) q false i := fun i => by
 unfold ne
 by_cases e : i = q
 · subst e; rw [upd_at, upd_at]; rfl
 · rw [upd_off _ _ _ e, upd_off _ _ _ e]
theorem ne_same {X : Nat → List Pk} {q : Nat} {l : List Pk} (h : l ≠ []) (h0 : X q ≠ []) : ∀ i, ne (upd X q l) i = ne X i := fun i => by
 by_cases e : i = q
 · subst e; rw [ne_of h0, ne_of (by rw [upd_at]; exact h)]
 · unfold ne; rw [upd_off _ _ _ e]
theorem pop_full {r xa xb xc : Nat} {t : List (Nat × Pk)} (h : StP w own cb sb pb bb ab room base N n c X B W R ((r, xa, xb, xc) :: t)) (hT : B = [] → Tab w) (hG : B = [] → ¬ own (Tryz.tz64_ren.g 1)) :
 Calls Tryz.prog 216 #[.pointer (some ⟨cb, 0, none⟩)] w fun e w' => e = .returned (.tuple #[.int .u64 r, .agg #[.int .u32 xa, .int .u32 xb, .int .u64 xc], .bool true]) ∧ Popped w own w' cb sb pb bb ab room base N n c X B W R t := by
 have hU2 : Upd Nowhere w (w.alloc (.cells zP TPk)) := (Upd.refl _ _).alloc _
 have hB2 : Blk (w.alloc (.cells zP TPk)) w.heap.size zP TPk := Blk.new _ _ _
 have HNB : Hid (¬ own w.heap.size) := Lib.hid (fun hk => Nat.lt_irrefl _ (h.sep.lt hk))
 have HL := Lib.hid (peek_full (h.old hU2) (fun e => (hT e).old hU2 id) hG)
 have hrk : ∀ a ∈ t, a.1 ≤ 18446744073709551615 := fun a ha => h.rks a (List.mem_cons_of_mem _ ha)
 have hlt : t.length ≤ room := by have := h.len; simp at this; omega
 have HRK := Lib.hid hrk
 have HLT := Lib.hid hlt
 have H0 := Lib.hid (h.old hU2)
 have HB2 := Lib.hid hB2
 have HU2 := Lib.hid hU2
 clear h hT hG hrk hlt hU2 hB2
 go_enter Tryz.func216, Tryz.ntmps216
 go_wp2_with fail
 generalize w.alloc (.cells zP TPk) = wA at *
 refine HL.out.mono ?_
 rintro e wP ⟨rfl, hpk⟩
 unfold Peeked at hpk
 obtain ⟨own1, b1, n1, X1, W1, R1, hst, hf, hW, hE⟩ := hpk
 go_upto_region 4 with fail
 have hU3 : Upd Nowhere wP (wP.alloc (.cells #[.int .u32 xa, .int .u32 xb, .int .u64 xc] TPk)) := (Upd.refl _ _).alloc _
 have H1 := Lib.hid (hst.old hU3)
 have F0 := Lib.hid ((((Fol.refl w own).old HU2.out).trans hf).old hU3)
 have HW := Lib.hid hW
 have HE := Lib.hid hE
 have hL : Loc2 (wP.alloc (.cells #[.int .u32 xa, .int .u32 xb, .int .u64 xc] TPk)) own1 w.heap.size wP.heap.size xa xb xc := ⟨(hf.blk HB2.out HNB.out).alloc _, Blk.new _ _ _, hf.off HNB.out HB2.out.lt, fun hk => Nat.lt_irrefl _ (hst.sep.lt hk)⟩
 have hle : w.heap.size < wP.heap.size := (hf.blk HB2.out HNB.out).lt
 obtain ⟨xk, hxk⟩ : ∃ xk, wP.heap.size = xk := ⟨_, rfl⟩
 rw [hxk] at hL hle
 try simp only [hxk]
 have q3 : ¬ w.heap.size = xk := by omega
 have q4 : ¬ xk = w.heap.size := by omega
 have HLO := Lib.hid hL
 clear hst hf hW hE hU3 hL HL HNB HB2 HU2 hle
 generalize wP.alloc (.cells #[.int .u32 xa, .int .u32 xb, .int .u64 xc] TPk) = w1 at *
 clear hxk
 have F1 := Lib.hid (Fol.refl w1 own1)
 obtain ⟨o1, o2, o3, o4, hb, hd, hp, hB, hRR⟩ := parts H1.out.sep
 obtain ⟨c0, c1, c2, c3, c4, c5, z0, z1, z2, z3, z4, z5⟩ := cells6 hb
 have hN := hd.size
 have HLB := Lib.hid (q_len hB)
 clear hb hd hp hB hRR
 rcases B with _ | ⟨⟨r', x'⟩, B⟩
 · obtain ⟨W2, rfl⟩ := HW.out (by first | rfl | trivial)
   have hz : ([] : List (Nat × Pk)).length = 0 := rfl
   rw [hz] at HLB
   obtain ⟨q, hq⟩ : ∃ q, r % N = q := ⟨_, rfl⟩
   have hqN : q < N := by rw [← hq]; exact Nat.mod_lt _ (by omega)
   have hXq : X1 q = (xa, xb, xc) :: dayq N q W2 := by rw [← hq]; exact H1.out.cm.win.head
   obtain ⟨et, hcm⟩ := H1.out.cm.pop_in
   rw [hq] at hcm
   rw [show W2 ++ R1 = t by injection et with _ e; exact e.symm] at hcm
   obtain ⟨l, hl⟩ : ∃ l, dayq N q W2 = l := ⟨_, rfl⟩
   rw [hl] at hXq hcm
   have HCM := Lib.hid hcm
   have HXQ := Lib.hid hXq
   obtain ⟨_, ⟨hb, _⟩, _, _⟩ := Sep.foc (blkC cb (cells sb pb bb ab room b1) TL) [dayC sb N (ne X1), poolC pb room N n1 X1, heapC bb room c [], heapC ab room c R1] [] H1.out.sep
   obtain ⟨_, hd, _, _⟩ := Sep.foc (dayC sb N (ne X1)) [poolC pb room N n1 X1, heapC bb room c [], heapC ab room c R1] [blkC cb (cells sb pb bb ab room b1) TL] H1.out.sep
   have HD := Lib.hid (day_any hb hd r)
   rw [hq] at HD
   clear hb hd hq hXq hcm et hl hz
   go_wp2_with fail
   refine HLB.out.mono ?_
   rintro e w2 ⟨rfl, rfl⟩
   go_wp2_with fail
   refine HD.out.mono ?_
   rintro e w3 ⟨rfl, k3, rfl⟩
   clear HD HLB
   obtain ⟨o5, hp5, _, hF5⟩ := Sep.foc (poolC pb room N n1 X1) [heapC bb room c [], heapC ab room c R1] [blkC cb (cells sb pb bb ab room b1) TL, dayC sb N (ne X1)] (H1.out.sep.old ((Upd.refl _ _).drewN k3))
   have HPP := Lib.hid (p_pop hp5 hqN HXQ.out)
   have HF5 := Lib.hid hF5
   clear hp5 hF5
   go_wp2_with fail
   refine HPP.out.mono ?_
   rintro e w4 ⟨i, rfl, hh4, hu4⟩
   obtain ⟨own4, hs4, hf4⟩ := HF5.out w4 o5 (heldC pb room N n1 (upd X1 q l) i (xa, xb, xc)) hh4 ⟨fun k hk => .inl hk, hu4⟩
   have HS4 := Lib.hid hs4
   have F4 := Lib.hid ((F1.out.drewN k3).trans hf4)
   clear hh4 hu4 hs4 hf4 HF5 HPP F1 c0 c1 c2 c3 c4 c5 z0 z1 z2 z3 z4 z5
   obtain ⟨_, ⟨hb, _⟩, _, _⟩ := Sep.foc (blkC cb (cells sb pb bb ab room b1) TL) [dayC sb N (ne X1), heldC pb room N n1 (upd X1 q l) i (xa, xb, xc), heapC bb room c [], heapC ab room c R1] [] HS4.out
   obtain ⟨c0, c1, c2, c3, c4, c5, z0, z1, z2, z3, z4, z5⟩ := cells6 hb
   obtain ⟨o6, hh6, _, hF6⟩ := Sep.foc (heldC pb room N n1 (upd X1 q l) i (xa, xb, xc)) [heapC bb room c [], heapC ab room c R1] [blkC cb (cells sb pb bb ab room b1) TL, dayC sb N (ne X1)] HS4.out
   have HGI := Lib.hid (p_give hh6)
   have HF6 := Lib.hid hF6
   clear hb hh6 hF6
   go_wp2_with fail
   refine HGI.out.mono ?_
   rintro e w5 ⟨rfl, hp7, hu7⟩
   obtain ⟨own5, hs5, hf5⟩ := HF6.out w5 o6 (poolC pb room N (n1 - 1) (upd X1 q l)) hp7 ⟨fun k hk => .inl hk, hu7⟩
   have HS5 := Lib.hid hs5
   have F5 := Lib.hid (F4.out.trans hf5)
   clear hp7 hu7 hs5 hf5 HF6 HGI F4 HS4 c0 c1 c2 c3 c4 c5 z0 z1 z2 z3 z4 z5
   obtain ⟨_, ⟨hb, _⟩, _, _⟩ := Sep.foc (blkC cb (cells sb pb bb ab room b1) TL) [dayC sb N (ne X1), poolC pb room N (n1 - 1) (upd X1 q l), heapC bb room c [], heapC ab room c R1] [] HS5.out
   obtain ⟨c0, c1, c2, c3, c4, c5, z0, z1, z2, z3, z4, z5⟩ := cells6 hb
   obtain ⟨_, hp8, _, _⟩ := Sep.foc (poolC pb room N (n1 - 1) (upd X1 q l)) [heapC bb room c [], heapC ab room c R1] [blkC cb (cells sb pb bb ab room b1) TL, dayC sb N (ne X1)] HS5.out
   obtain ⟨o9, hd9, _, hF9⟩ := Sep.foc (dayC sb N (ne X1)) [poolC pb room N (n1 - 1) (upd X1 q l), heapC bb room c [], heapC ab room c R1] [blkC cb (cells sb pb bb ab room b1) TL] HS5.out
   have HN1 : Hid (n1 - 1 = W2.length) := Lib.hid (by have := H1.out.cnt; simp at this; omega)
   have hbas := H1.out.bas
   have HB9 := Lib.hid hbas
   clear hb hbas
   rcases l with _ | ⟨y, l⟩
   · have HHE := Lib.hid (p_head0 hp8 hqN (upd_at X1 q []))
     have HDY := fun k => Lib.hid (d_drop (Dy.kept (S := Nowhere) hd9 ((Upd.refl _ w5).drewN k) (fun _ _ h => h)) hqN (ne_of (by rw [HXQ.out]; simp)))
     have HS9 := fun k => Lib.hid (Sep.foc (dayC sb N (ne X1)) [poolC pb room N (n1 - 1) (upd X1 q []), heapC bb room c [], heapC ab room c R1] [blkC cb (cells sb pb bb ab room b1) TL] (HS5.out.old ((Upd.refl _ _).drewN k)))
     clear hp8 hd9 hF9 HDY
     go_wp2_with fail
     refine HHE.out.mono ?_
     rintro e w6 ⟨rfl, k6, rfl⟩
     obtain ⟨o10, hd10, _, hF10⟩ := (HS9 k6).out
     have HDR := Lib.hid (d_drop hd10 hqN (ne_of (by rw [HXQ.out]; simp)))
     have HF10 := Lib.hid hF10
     clear HHE HS9 hd10 hF10
     go_wp2_with fail
     refine HDR.out.mono ?_
     rintro e w7 ⟨⟨bb9, rfl⟩, hd11, hu11⟩
     obtain ⟨own7, hs7, hf7⟩ := HF10.out w7 o10 (dayC sb N (ne (upd X1 q []))) (Dy.congr hd11 (fun i _ => ne_drop X1 q i)) ⟨fun k hk => .inl hk, hu11⟩
     have HS7 := Lib.hid hs7
     have F7 := Lib.hid ((F5.out.drewN k6).trans hf7)
     clear hd11 hu11 hs7 hf7 HDR HF10
     go_upto_region 12 with fail
     have hLX := HLO.out.fol (F7.out)
     obtain ⟨g0, g1, g2, f0, f1, f2⟩ := cells3 hLX.b1
     obtain ⟨x0, x1, x2, _, _, _⟩ := cells3 hLX.b2
     have HFIN : Hid (∀ u, Upd (fun k => k = w.heap.size) (w7) u → Popped w own u cb sb pb bb ab room base N n c X [] W R t) := Lib.hid (fun u hu => by unfold Popped; exact ⟨own7, b1, n1 - 1, upd X1 q [], [], W2, R1, StP.kp ⟨HS7.out, HCM.out, HN1.out, HB9.out, HRK.out, HLT.out, H0.out.r1, H0.out.r2⟩ hu (fun k hk e => hLX.n1 (by rw [← e]; exact hk)), (F0.out.trans F7.out).ret hu (Nat.le_refl _), fun h => absurd rfl h⟩)
     clear hLX
     go_region
     all_goals
      go_wp2_with fail
      exact bodyPost_ret (v := .tuple #[.int .u64 r, .agg #[.int .u32 xa, .int .u32 xb, .int .u64 xc], .bool true]) (by simp [results, Tryz.results216, go_sem, g0, g1, g2]) rfl ⟨rfl, HFIN.out _ (by repeat (first | with_reducible exact Upd.refl _ _ | with_reducible refine Upd.drewN ?_ _ | with_reducible refine Upd.drew ?_ | with_reducible refine at_one ?_ _ _))⟩
   · obtain ⟨i2, _, hhd⟩ := p_headx hp8 hqN (upd_at X1 q (y :: l))
     have HHE := Lib.hid (hhd w5 (Upd.refl _ _))
     obtain ⟨own7, hs7, hf7⟩ := hF9 w5 o9 (dayC sb N (ne (upd X1 q (y :: l)))) (Dy.congr hd9 (fun i _ => ne_same (by simp) (by rw [HXQ.out]; simp) i)) (Fol.refl _ _)
     have HS7 := Lib.hid hs7
     have F7 := Lib.hid (F5.out.trans hf7)
     clear hp8 hd9 hF9 hhd hs7 hf7
     go_wp2_with fail
     refine HHE.out.mono ?_
     rintro e w6 ⟨rfl, k6, rfl⟩
     clear HHE
     go_upto_region 12 with fail
     have hLX := HLO.out.fol (F7.out)
     obtain ⟨g0, g1, g2, f0, f1, f2⟩ := cells3 hLX.b1
     obtain ⟨x0, x1, x2, _, _, _⟩ := cells3 hLX.b2
     have HFIN : Hid (∀ u, Upd (fun k => k = w.heap.size) (w5) u → Popped w own u cb sb pb bb ab room base N n c X [] W R t) := Lib.hid (fun u hu => by unfold Popped; exact ⟨own7, b1, n1 - 1, upd X1 q (y :: l), [], W2, R1, StP.kp ⟨HS7.out, HCM.out, HN1.out, HB9.out, HRK.out, HLT.out, H0.out.r1, H0.out.r2⟩ hu (fun k hk e => hLX.n1 (by rw [← e]; exact hk)), (F0.out.trans F7.out).ret hu (Nat.le_refl _), fun h => absurd rfl h⟩)
     clear hLX
     go_region
     all_goals
      go_wp2_with fail
      exact bodyPost_ret (v := .tuple #[.int .u64 r, .agg #[.int .u32 xa, .int .u32 xb, .int .u64 xc], .bool true]) (by simp [results, Tryz.results216, go_sem, g0, g1, g2]) rfl ⟨rfl, HFIN.out _ (by repeat (first | with_reducible exact Upd.refl _ _ | with_reducible refine Upd.drewN ?_ _ | with_reducible refine Upd.drew ?_ | with_reducible refine at_one ?_ _ _))⟩
 · have e := H1.out.cm.eq
   simp at e
   obtain ⟨⟨rfl, rfl⟩, _⟩ := e
   obtain ⟨et, hcm⟩ := H1.out.cm.pop_below
   rw [show B ++ (W1 ++ R1) = t by injection et with _ e; exact e.symm] at hcm
   have HCM := Lib.hid hcm
   obtain ⟨m, hm⟩ : ∃ m, ((r, xa, xb, xc) :: B).length = m := ⟨_, rfl⟩
   have hm0 : 0 < m := by rw [← hm]; simp
   have hmb : m ≤ 4096 := by have h1 := H1.out.cm.len; have h2 := H1.out.len; have h3 := H1.out.r2; rw [hm] at h1; omega
   rw [hm] at HLB
   have d1 : decide ((m : Int) > 0) = true := decide_eq_true (by omega)
   obtain ⟨o5, hq5, _, hF5⟩ := Sep.foc (heapC bb room c ((r, xa, xb, xc) :: B)) [heapC ab room c R1] [blkC cb (cells sb pb bb ab room b1) TL, dayC sb N (ne X1), poolC pb room N n1 X1] H1.out.sep
   have HPO := Lib.hid (q_pop hq5)
   have HF5 := Lib.hid hF5
   clear hq5 hF5 hcm et hm
   go_wp2_with fail
   refine HLB.out.mono ?_
   rintro e w2 ⟨rfl, rfl⟩
   go_wp2_with fail
   refine HPO.out.mono ?_
   rintro e w3 ⟨rfl, ⟨o6, hq6, ho6⟩, hu6⟩
   obtain ⟨own7, hs7, hf7⟩ := HF5.out w3 o6 (heapC bb room c B) hq6 ⟨ho6, hu6⟩
   have HS7 := Lib.hid hs7
   have F7 := Lib.hid (F1.out.trans hf7)
   clear hq6 ho6 hu6 hs7 hf7 HPO HF5 HLB c0 c1 c2 c3 c4 c5 z0 z1 z2 z3 z4 z5
   have hLX := HLO.out.fol (F7.out)
   obtain ⟨g0, g1, g2, f0, f1, f2⟩ := cells3 hLX.b1
   obtain ⟨x0, x1, x2, _, _, _⟩ := cells3 hLX.b2
   have HFIN : Hid (∀ u, Upd (fun k => k = w.heap.size) (w3) u → Popped w own u cb sb pb bb ab room base N n c X ((r, xa, xb, xc) :: B) W R t) := Lib.hid (fun u hu => by unfold Popped; exact ⟨own7, b1, n1, X1, B, W1, R1, StP.kp ⟨HS7.out, HCM.out, H1.out.cnt, H1.out.bas, HRK.out, HLT.out, H0.out.r1, H0.out.r2⟩ hu (fun k hk e => hLX.n1 (by rw [← e]; exact hk)), (F0.out.trans F7.out).ret hu (Nat.le_refl _), fun _ => ⟨rfl, (HE.out (by simp)).2⟩⟩)
   clear hLX
   go_wp2_with fail
   exact bodyPost_ret (v := .tuple #[.int .u64 r, .agg #[.int .u32 xa, .int .u32 xb, .int .u64 xc], .bool true]) (by simp [results, Tryz.results216, go_sem, g0, g1, g2]) rfl ⟨rfl, HFIN.out _ (by repeat (first | with_reducible exact Upd.refl _ _ | with_reducible refine Upd.drewN ?_ _ | with_reducible refine Upd.drew ?_ | with_reducible refine at_one ?_ _ _))⟩
end
end Go.Proofs.YtpgpjjkeginbbaaGreatDoor.CalP
namespace Go.Proofs.YtpgpjjkeginbbaaGreatDoor.CalP
open Go.RowKit Go.Proofs BigFrame Cal
open Pool (upd upd_at upd_off)
open Wheel (Tab)
open Ffs (Dy d_size d_len d_from d_put d_drop d_new cnt cnt_pos cnt_zero)
open HeapP (Hq q_new q_len q_push q_pop)
open PoolP (Pk TPk VP zP Pq Ph Pa p_new p_len p_take p_app p_pop p_give p_head0 p_get p_headx)
set_option maxHeartbeats 4000000
set_option maxRecDepth 1000000
set_option linter.unusedSimpArgs false
section
variable {w : World} {own : Nat → Prop} {cb sb pb bb ab room base N n c : Nat} {D : Nat → Bool} {X : Nat → List Pk} {B R W M : List (Nat × Pk)}
theorem more_a {c1 : Nat} (h : Sep w [blkC cb (cells sb pb bb ab room base) TL, dayC sb N D, poolC pb room N n X, heapC bb room c1 B, heapC ab room c R] own) : ∃ own', Sep w [blkC cb (cells sb pb bb ab room base) TL, dayC sb N D, poolC pb room N n X, heapC bb room c1 B, heapC ab room (c + 1) R] own' ∧ Fol w own w own' := by
 obtain ⟨o, hq, _, hF⟩ := Sep.foc (heapC ab room c R) [] [blkC cb (cells sb pb bb ab room base) TL, dayC sb N D, poolC pb room N n X, heapC bb room c1 B] h
 exact hF w o (heapC ab room (c + 1) R) (Hq.more hq (Nat.le_succ c)) (Fol.refl _ _)
theorem more_b {c1 : Nat} (h : Sep w [blkC cb (cells sb pb bb ab room base) TL, dayC sb N D, poolC pb room N n X, heapC bb room c B, heapC ab room c1 R] own) : ∃ own', Sep w [blkC cb (cells sb pb bb ab room base) TL, dayC sb N D, poolC pb room N n X, heapC bb room (c + 1) B, heapC ab room c1 R] own' ∧ Fol w own w own' := by
 obtain ⟨o, hq, _, hF⟩ := Sep.foc (heapC bb room c B) [heapC ab room c1 R] [blkC cb (cells sb pb bb ab room base) TL, dayC sb N D, poolC pb room N n X] h
 exact hF w o (heapC bb room (c + 1) B) (Hq.more hq (Nat.le_succ c)) (Fol.refl _ _)
theorem more_c (h : Sep w (calL cb sb pb bb ab room base N n c D X B R) own) : ∃ own', Sep w (calL cb sb pb bb ab room base N n (c + 1) D X B R) own' ∧ Fol w own w own' := by
 obtain ⟨o1, h1, f1⟩ := more_a h
 obtain ⟨o2, h2, f2⟩ := more_b h1
 exact ⟨o2, h2, f1.trans f2⟩
theorem push_full (h : StP w own cb sb pb bb ab room base N n c X B W R M) (hl : M.length = room) (r xa xb xc : Nat) : Calls Tryz.prog 217 #[.pointer (some ⟨cb, 0, none⟩), .int .u64 r, .agg #[.int .u32 xa, .int .u32 xb, .int .u64 xc]] w fun e w' => e = .returned (.bool false) ∧ Upd Nowhere w w' := by
 have hU : Upd Nowhere w (w.alloc (.cells #[.int .u32 xa, .int .u32 xb, .int .u64 xc] TPk)) := (Upd.refl _ _).alloc _
 have HX0 := Lib.hid (Blk.new w #[.int .u32 xa, .int .u32 xb, .int .u64 xc] TPk)
 have HNO : Hid (¬ own w.heap.size) := Lib.hid (fun hk => Nat.lt_irrefl _ (h.sep.lt hk))
 have HF0 := Lib.hid ((Fol.refl w own).old hU)
 have HL := fun k => Lib.hid (st_len (h.old (hU.drewN k)))
 rw [hl] at HL
 obtain ⟨o1, o2, o3, o4, hb, _, _, _, _⟩ := parts (h.old hU).sep
 obtain ⟨c0, c1, c2, c3, c4, c5, z0, z1, z2, z3, z4, z5⟩ := cells6 hb
 have d1 : decide ((room : Int) ≥ room) = true := by simp
 have d2 : decide (room ≤ room) = true := by simp
 clear h hb hl
 go_enter Tryz.func217, Tryz.ntmps217
 go_wp2_with fail
 generalize (w.alloc (.cells #[.int .u32 xa, .int .u32 xb, .int .u64 xc] TPk)) = wb at *
 go_quiet ((go_at_call 210; exact quiet_of (HL _).out))
 go_wp2_with fail
 go_ret
 exact ⟨rfl, hU.drewN _⟩
theorem ins_rks {r : Nat} {x : Pk} (hr : r ≤ 18446744073709551615) (h : ∀ a ∈ M, a.1 ≤ 18446744073709551615) : ∀ a ∈ ins r x M, a.1 ≤ 18446744073709551615 := fun a ha => by
 rcases ins_mem.1 ha with rfl | ha
 · exact hr
 · exact h a ha
/-- Where the window begins once one is let in. -/
theorem push_first (h : StP w own cb sb pb bb ab room base N n c X B W R []) (r : Nat) (hr : r ≤ 18446744073709551615) (xa xb xc : Nat) :
 Calls Tryz.prog 217 #[.pointer (some ⟨cb, 0, none⟩), .int .u64 r, .agg #[.int .u32 xa, .int .u32 xb, .int .u64 xc]] w fun e w' => e = .returned (.bool true) ∧
  ∃ own' X', StP w' own' cb sb pb bb ab room r N 1 c X' [] (ins r (xa, xb, xc) []) [] (ins r (xa, xb, xc) []) ∧ Fol w own w' own' := by
 have hU : Upd Nowhere w (w.alloc (.cells #[.int .u32 xa, .int .u32 xb, .int .u64 xc] TPk)) := (Upd.refl _ _).alloc _
 have HX0 := Lib.hid (Blk.new w #[.int .u32 xa, .int .u32 xb, .int .u64 xc] TPk)
 have HNO : Hid (¬ own w.heap.size) := Lib.hid (fun hk => Nat.lt_irrefl _ (h.sep.lt hk))
 have HF0 := Lib.hid ((Fol.refl w own).old hU)
 have HL := fun k => Lib.hid (st_len (h.old (hU.drewN k)))
 rw [show ([] : List (Nat × Pk)).length = 0 from rfl] at HL
 obtain ⟨o1, o2, o3, o4, hb, hd, _, _, _⟩ := parts (h.old hU).sep
 obtain ⟨c0, c1, c2, c3, c4, c5, z0, z1, z2, z3, z4, z5⟩ := cells6 hb
 have hN := hd.size
 have hroom := h.r1
 have d1 : decide ((0 : Int) ≥ room) = false := decide_eq_false (by omega)
 have d2 : decide (room ≤ 0) = false := decide_eq_false (by omega)
 have d3 : decide ((room : Int) ≤ 0) = false := decide_eq_false (by omega)
 obtain ⟨rfl, rfl, rfl⟩ := h.cm.empty
 have hn0 : n = 0 := h.cnt
 subst hn0
 have hca := (h.cm.anew r).push_in (Nat.le_refl _) (show r < r + N by omega) (xa, xb, xc)
 have HCA := Lib.hid hca
 have H0 := Lib.hid (h.old hU)
 have e0 : decide (r ≤ r ∧ r < r + N) = true := decide_eq_true (by omega)
 have E0 := Lib.hid e0
 clear h hU hb hd hca e0
 go_enter Tryz.func217, Tryz.ntmps217
 go_wp2_with fail
 generalize (w.alloc (.cells #[.int .u32 xa, .int .u32 xb, .int .u64 xc] TPk)) = wb at *
 obtain ⟨x0, x1, x2, _, _, _⟩ := cells3 HX0.out
 go_quiet ((go_at_call 210; exact quiet_of (HL _).out))
 go_wp2_with fail
 refine (HL nq).out.mono ?_
 rintro e w1 ⟨rfl, k1, rfl⟩
 go_upto_region 6 with fail
 obtain ⟨own1, hs1, hf1⟩ := set_base (H0.out.sep.old ((Upd.refl Nowhere wb).drewN (nq + k1))) r
 have HS1 := Lib.hid hs1
 have F1 := Lib.hid ((HF0.out.drewN (nq + k1)).trans hf1)
 have hX2 : Blk ((wb.drewN (nq + k1)).setCell ⟨cb, 2, none⟩ (.int .u64 r)) w.heap.size #[.int .u32 xa, .int .u32 xb, .int .u64 xc] TPk := hf1.blk (HX0.out.drewN (nq + k1)) HNO.out
 clear x0 x1 x2 HL hs1 hf1 c0 c1 c2 c3 c4 c5 z0 z1 z2 z3 z4 z5 d1 d2 d3
 generalize (wb.drewN (nq + k1)).setCell ⟨cb, 2, none⟩ (.int .u64 r) = w2 at *
 obtain ⟨x0, x1, x2, _, _, _⟩ := cells3 hX2
 obtain ⟨p1, p2, p3, p4, hb, hd, _, _, _⟩ := parts HS1.out
 have HW := Lib.hid (within_any hb hd r hr)
 rw [E0.out] at HW
 clear hb hd
 go_wp2_with fail
 refine HW.out.mono ?_
 rintro e w3 ⟨rfl, k3, rfl⟩
 have HLA := Lib.hid (lay_any (HS1.out.old ((Upd.refl _ _).drewN k3)) (show 0 < room by omega) r xa xb xc)
 clear HW
 go_wp2_with fail
 refine HLA.out.mono ?_
 rintro e w4 ⟨rfl, own4, hs4, ho4, hu4⟩
 have HS4 := Lib.hid hs4
 have F4 := Lib.hid ((F1.out.drewN k3).trans ⟨ho4, hu4⟩)
 clear hs4 ho4 hu4 HLA
 go_wp2_with fail
 go_ret
 exact ⟨rfl, own4, _, ⟨HS4.out, HCA.out, rfl, hr, ins_rks hr (fun a ha => by cases ha), by rw [ins_len]; exact H0.out.r1, H0.out.r1, H0.out.r2⟩, F4.out⟩
theorem push_more (h : StP w own cb sb pb bb ab room base N n c X B W R M) (hM : M.length < room) (h0 : 0 < M.length) (hc : c < 18446744073709551615) (r : Nat) (hr : r ≤ 18446744073709551615) (xa xb xc : Nat) :
 Calls Tryz.prog 217 #[.pointer (some ⟨cb, 0, none⟩), .int .u64 r, .agg #[.int .u32 xa, .int .u32 xb, .int .u64 xc]] w fun e w' => e = .returned (.bool true) ∧
  ∃ own' base' n' X' B' W' R', StP w' own' cb sb pb bb ab room base' N n' (c + 1) X' B' W' R' (ins r (xa, xb, xc) M) ∧ Fol w own w' own' ∧ (r < base → base' = base ∧ n' = n ∧ X' = X ∧ B' = ins r (xa, xb, xc) B ∧ W' = W ∧ R' = R) := by
 have hU : Upd Nowhere w (w.alloc (.cells #[.int .u32 xa, .int .u32 xb, .int .u64 xc] TPk)) := (Upd.refl _ _).alloc _
 have HX0 := Lib.hid (Blk.new w #[.int .u32 xa, .int .u32 xb, .int .u64 xc] TPk)
 have HNO : Hid (¬ own w.heap.size) := Lib.hid (fun hk => Nat.lt_irrefl _ (h.sep.lt hk))
 have HF0 := Lib.hid ((Fol.refl w own).old hU)
 have HL := fun k => Lib.hid (st_len (h.old (hU.drewN k)))
 obtain ⟨o1, o2, o3, o4, hb, hd, _, _, _⟩ := parts (h.old hU).sep
 obtain ⟨c0, c1, c2, c3, c4, c5, z0, z1, z2, z3, z4, z5⟩ := cells6 hb
 have hN := hd.size
 obtain ⟨m, hm⟩ : ∃ m, M.length = m := ⟨_, rfl⟩
 have hcl := h.cm.len
 have hnw := h.cnt
 have hr2 := h.r2
 rw [hm] at HL hM h0 hcl
 have d1 : decide ((m : Int) ≥ room) = false := decide_eq_false (by omega)
 have d2 : decide (room ≤ m) = false := decide_eq_false (by omega)
 have hz : ((m : Int) == 0) = false := by simp; omega
 have H0 := Lib.hid (h.old hU)
 have HLE : Hid ((ins r (xa, xb, xc) M).length ≤ room) := Lib.hid (by rw [ins_len, hm]; omega)
 have HIR : Hid (∀ a ∈ ins r (xa, xb, xc) M, a.1 ≤ 18446744073709551615) := Lib.hid (ins_rks hr h.rks)
 have HW := fun k => Lib.hid (within_any (hb.drewN k) (Dy.kept (S := Nowhere) hd ((Upd.refl _ (w.alloc (.cells #[.int .u32 xa, .int .u32 xb, .int .u64 xc] TPk))).drewN k) (fun _ _ h => h)) r hr)
 by_cases hin : base ≤ r ∧ r < base + N
 · have E0 := decide_eq_true hin
   rw [E0] at HW
   have HCA := Lib.hid (h.cm.push_in hin.1 hin.2 (xa, xb, xc))
   have HNR : Hid (n < room) := Lib.hid (by omega)
   have HNL : Hid (¬ r < base) := Lib.hid (by omega)
   have HLA := fun k => Lib.hid (lay_any (h.sep.old (hU.drewN k)) HNR.out r xa xb xc)
   have HNN : Hid (n + 1 = (ins r (xa, xb, xc) W).length) := Lib.hid (by rw [ins_len]; omega)
   clear h hU hb hd E0 hin hcl hnw hm
   go_enter Tryz.func217, Tryz.ntmps217
   go_wp2_with fail
   generalize (w.alloc (.cells #[.int .u32 xa, .int .u32 xb, .int .u64 xc] TPk)) = wb at *
   obtain ⟨x0, x1, x2, _, _, _⟩ := cells3 HX0.out
   go_quiet ((go_at_call 210; exact quiet_of (HL _).out))
   go_wp2_with fail
   refine (HL nq).out.mono ?_
   rintro e w1 ⟨rfl, k1, rfl⟩
   go_wp2_with fail
   refine (HW (nq + k1)).out.mono ?_
   rintro e w3 ⟨rfl, k3, rfl⟩
   go_wp2_with fail
   refine (HLA (nq + k1 + k3)).out.mono ?_
   rintro e w4 ⟨rfl, own4, hs4, ho4, hu4⟩
   have HS4 := Lib.hid hs4
   have F4 := Lib.hid ((HF0.out.drewN (nq + k1 + k3)).trans ⟨ho4, hu4⟩)
   clear hs4 ho4 hu4 HLA HL HW c0 c1 c2 c3 c4 c5 z0 z1 z2 z3 z4 z5
   go_wp2_with fail
   go_ret
   obtain ⟨own5, hs5, hf5⟩ := more_c HS4.out
   exact ⟨rfl, own5, base, n + 1, _, B, ins r (xa, xb, xc) W, R, ⟨hs5, HCA.out, HNN.out, H0.out.bas, HIR.out, HLE.out, H0.out.r1, H0.out.r2⟩, F4.out.trans hf5, fun h9 => absurd h9 HNL.out⟩
 · have E0 := decide_eq_false hin
   rw [E0] at HW
   by_cases hlt : r < base
   · have d4 : decide ((r : Int) < base) = true := decide_eq_true (by omega)
     have d5 : decide (r < base) = true := decide_eq_true hlt
     have HCA := Lib.hid (h.cm.push_below hlt (xa, xb, xc))
     have HBR : Hid (B.length < room) := Lib.hid (by omega)
     have HFC := fun k => Lib.hid (Sep.foc (heapC bb room c B) [heapC ab room c R] [blkC cb (cells sb pb bb ab room base) TL, dayC sb N (ne X), poolC pb room N n X] (h.sep.old (hU.drewN k)))
     clear h hU hb hd E0 hin hcl hnw hm hlt
     go_enter Tryz.func217, Tryz.ntmps217
     go_wp2_with fail
     generalize (w.alloc (.cells #[.int .u32 xa, .int .u32 xb, .int .u64 xc] TPk)) = wb at *
     obtain ⟨x0, x1, x2, _, _, _⟩ := cells3 HX0.out
     go_quiet ((go_at_call 210; exact quiet_of (HL _).out))
     go_wp2_with fail
     refine (HL nq).out.mono ?_
     rintro e w1 ⟨rfl, k1, rfl⟩
     go_wp2_with fail
     refine (HW (nq + k1)).out.mono ?_
     rintro e w3 ⟨rfl, k3, rfl⟩
     go_upto_region 9 with fail
     refine wp_region_tail 6 (by kernel_rfl) (by kernel_rfl) ?_
     simp only [List.take_succ_cons, List.take_zero, List.drop_succ_cons, List.drop_zero]
     iterate 6 (go_big_quiet_step (fail))
     refine wpQuiet_nil ?_
     rintro _ ⟨nq5, rfl⟩
     obtain ⟨o5, hq5, _, hF5⟩ := (HFC (nq + k1 + k3 + nq5)).out
     have HPU := Lib.hid (q_push hq5 HBR.out hc r (xa, xb, xc))
     have HF5 := Lib.hid hF5
     clear hq5 hF5 HFC HL HW
     go_wp2_with fail
     refine HPU.out.mono ?_
     rintro e w4 ⟨rfl, ⟨o6, hq6, ho6⟩, hu6⟩
     obtain ⟨own4, hs4, hf4⟩ := HF5.out w4 o6 (heapC bb room (c + 1) (ins r (xa, xb, xc) B)) hq6 ⟨ho6, hu6⟩
     have HS4 := Lib.hid hs4
     have F4 := Lib.hid ((HF0.out.drewN (nq + k1 + k3 + nq5)).trans hf4)
     clear hq6 ho6 hu6 hs4 hf4 HPU HF5 c0 c1 c2 c3 c4 c5 z0 z1 z2 z3 z4 z5
     go_wp2_with fail
     refine Stage.out ?_
     go_wp2_with fail
     go_ret
     obtain ⟨own5, hs5, hf5⟩ := more_a HS4.out
     exact ⟨rfl, own5, base, n, X, ins r (xa, xb, xc) B, W, R, ⟨hs5, HCA.out, H0.out.cnt, H0.out.bas, HIR.out, HLE.out, H0.out.r1, H0.out.r2⟩, F4.out.trans hf5, fun _ => ⟨rfl, rfl, rfl, rfl, rfl, rfl⟩⟩
   · have d4 : decide ((r : Int) < base) = false := decide_eq_false (by omega)
     have d5 : decide (r < base) = false := decide_eq_false hlt
     have HCA := Lib.hid (h.cm.push_above (show base + N ≤ r by omega) (xa, xb, xc))
     have HRR : Hid (R.length < room) := Lib.hid (by omega)
     have HNL : Hid (¬ r < base) := Lib.hid hlt
     have HFC := fun k => Lib.hid (Sep.foc (heapC ab room c R) [] [blkC cb (cells sb pb bb ab room base) TL, dayC sb N (ne X), poolC pb room N n X, heapC bb room c B] (h.sep.old (hU.drewN k)))
     clear h hU hb hd E0 hin hcl hnw hm hlt
     go_enter Tryz.func217, Tryz.ntmps217
     go_wp2_with fail
     generalize (w.alloc (.cells #[.int .u32 xa, .int .u32 xb, .int .u64 xc] TPk)) = wb at *
     obtain ⟨x0, x1, x2, _, _, _⟩ := cells3 HX0.out
     go_quiet ((go_at_call 210; exact quiet_of (HL _).out))
     go_wp2_with fail
     refine (HL nq).out.mono ?_
     rintro e w1 ⟨rfl, k1, rfl⟩
     go_wp2_with fail
     refine (HW (nq + k1)).out.mono ?_
     rintro e w3 ⟨rfl, k3, rfl⟩
     go_upto_region 5 with fail
     refine wp_region_tail 6 (by kernel_rfl) (by kernel_rfl) ?_
     simp only [List.take_succ_cons, List.take_zero, List.drop_succ_cons, List.drop_zero]
     iterate 6 (go_big_quiet_step (fail))
     refine wpQuiet_nil ?_
     rintro _ ⟨nq5, rfl⟩
     obtain ⟨o5, hq5, _, hF5⟩ := (HFC (nq + k1 + k3 + nq5)).out
     have HPU := Lib.hid (q_push hq5 HRR.out hc r (xa, xb, xc))
     have HF5 := Lib.hid hF5
     clear hq5 hF5 HFC HL HW
     go_wp2_with fail
     refine HPU.out.mono ?_
     rintro e w4 ⟨rfl, ⟨o6, hq6, ho6⟩, hu6⟩
     obtain ⟨own4, hs4, hf4⟩ := HF5.out w4 o6 (heapC ab room (c + 1) (ins r (xa, xb, xc) R)) hq6 ⟨ho6, hu6⟩
     have HS4 := Lib.hid hs4
     have F4 := Lib.hid ((HF0.out.drewN (nq + k1 + k3 + nq5)).trans hf4)
     clear hq6 ho6 hu6 hs4 hf4 HPU HF5 c0 c1 c2 c3 c4 c5 z0 z1 z2 z3 z4 z5
     go_wp2_with fail
     refine Stage.out ?_
     go_wp2_with fail
     go_ret
     obtain ⟨own5, hs5, hf5⟩ := more_b HS4.out
     exact ⟨rfl, own5, base, n, X, B, W, ins r (xa, xb, xc) R, ⟨hs5, HCA.out, H0.out.cnt, H0.out.bas, HIR.out, HLE.out, H0.out.r1, H0.out.r2⟩, F4.out.trans hf5, fun h9 => absurd h9 HNL.out⟩
end
end Go.Proofs.YtpgpjjkeginbbaaGreatDoor.CalP
namespace Go.Proofs.YtpgpjjkeginbbaaGreatDoor.CalP
open Go.RowKit Go.Proofs BigFrame Cal
open Pool (upd upd_at upd_off)
open Wheel (Tab)
open Ffs (Dy d_size d_len d_from d_put d_drop d_new cnt cnt_pos cnt_zero)
open HeapP (Hq q_new q_len q_push q_pop)
open PoolP (Pk TPk VP zP Pq Ph Pa p_new p_len p_take p_app p_pop p_give p_head0 p_get p_headx)
set_option maxHeartbeats 4000000
set_option maxRecDepth 1000000
/-- A calendar at block cb, of the blocks own, that has the sorted list M; at most c came. -/
def St (w : World) (own : Nat → Prop) (cb room c : Nat) (M : List (Nat × Pk)) : Prop := ∃ sb pb bb ab base N n X B W R, StP w own cb sb pb bb ab room base N n c X B W R M
/-- The first one: its rank, its thing, and whether there is one. -/
def fst1 : List (Nat × Pk) → Nat × Pk × Bool
 | [] => (0, ((0, 0, 0) : Pk), false)
 | a :: _ => (a.1, a.2, true)
/-- One more, if there is room. -/
def psh (room r : Nat) (x : Pk) (M : List (Nat × Pk)) : List (Nat × Pk) := if M.length < room then ins r x M else M
section
variable {w : World} {own : Nat → Prop} {cb room c : Nat} {M : List (Nat × Pk)}
theorem St.kept {w' : World} {S : Nat → Prop} (h : St w own cb room c M) (hu : Upd S w w') (hS : ∀ k, own k → ¬ S k) : St w' own cb room c M := by
 obtain ⟨sb, pb, bb, ab, base, N, n, X, B, W, R, h⟩ := h
 exact ⟨sb, pb, bb, ab, base, N, n, X, B, W, R, { h with sep := h.sep.kp hu hS }⟩
theorem St.lt (h : St w own cb room c M) {k : Nat} (hk : own k) : k < w.heap.size := by
 obtain ⟨sb, pb, bb, ab, base, N, n, X, B, W, R, h⟩ := h
 exact h.sep.lt hk
theorem s_peek (h : St w own cb room c M) (hT : Tab w) (hG : ¬ own (Tryz.tz64_ren.g 1)) : Calls Tryz.prog 215 #[.pointer (some ⟨cb, 0, none⟩)] w fun e w' =>
 e = .returned (.tuple #[.int .u64 ((fst1 M).1 : Nat), VP (fst1 M).2.1, .bool (fst1 M).2.2]) ∧ ∃ own', St w' own' cb room c M ∧ Fol w own w' own' := by
 obtain ⟨sb, pb, bb, ab, base, N, n, X, B, W, R, h⟩ := h
 cases M with
 | nil =>
   refine (peek_empty h).mono ?_
   rintro e w' ⟨rfl, hu⟩
   exact ⟨rfl, own, ⟨sb, pb, bb, ab, base, N, n, X, B, W, R, h.old hu⟩, (Fol.refl w own).old hu⟩
 | cons a t =>
   obtain ⟨r, xa, xb, xc⟩ := a
   refine (peek_full h (fun _ => hT) (fun _ => hG)).mono ?_
   rintro e w' ⟨rfl, hpk⟩
   unfold Peeked at hpk
   obtain ⟨own', b', n', X', W', R', h', hf, _⟩ := hpk
   exact ⟨rfl, own', ⟨sb, pb, bb, ab, b', N, n', X', B, W', R', h'⟩, hf⟩
theorem s_pop (h : St w own cb room c M) (hT : Tab w) (hG : ¬ own (Tryz.tz64_ren.g 1)) : Calls Tryz.prog 216 #[.pointer (some ⟨cb, 0, none⟩)] w fun e w' =>
 e = .returned (.tuple #[.int .u64 ((fst1 M).1 : Nat), VP (fst1 M).2.1, .bool (fst1 M).2.2]) ∧ ∃ own', St w' own' cb room c M.tail ∧ Fol w own w' own' := by
 obtain ⟨sb, pb, bb, ab, base, N, n, X, B, W, R, h⟩ := h
 cases M with
 | nil =>
   refine (pop_empty h).mono ?_
   rintro e w' ⟨rfl, hu⟩
   exact ⟨rfl, own, ⟨sb, pb, bb, ab, base, N, n, X, B, W, R, h.old hu⟩, (Fol.refl w own).old hu⟩
 | cons a t =>
   obtain ⟨r, xa, xb, xc⟩ := a
   refine (pop_full h (fun _ => hT) (fun _ => hG)).mono ?_
   rintro e w' ⟨rfl, hpk⟩
   unfold Popped at hpk
   obtain ⟨own', b', n', X', B', W', R', h', hf, _⟩ := hpk
   exact ⟨rfl, own', ⟨sb, pb, bb, ab, b', N, n', X', B', W', R', h'⟩, hf⟩
theorem StP.more {sb pb bb ab base N n : Nat} {X : Nat → List Pk} {B W R : List (Nat × Pk)} (h : StP w own cb sb pb bb ab room base N n c X B W R M) : ∃ own', StP w own' cb sb pb bb ab room base N n (c + 1) X B W R M ∧ Fol w own w own' := by
 obtain ⟨o, hs, hf⟩ := more_c h.sep
 exact ⟨o, { h with sep := hs }, hf⟩
theorem s_push (h : St w own cb room c M) (hc : c < 18446744073709551615) (r : Nat) (hr : r ≤ 18446744073709551615) (x : Pk) : Calls Tryz.prog 217 #[.pointer (some ⟨cb, 0, none⟩), .int .u64 r, VP x] w fun e w' =>
 e = .returned (.bool (decide (M.length < room))) ∧ ∃ own', St w' own' cb room (c + 1) (psh room r x M) ∧ Fol w own w' own' := by
 obtain ⟨sb, pb, bb, ab, base, N, n, X, B, W, R, h⟩ := h
 by_cases hl : M.length < room
 · rw [decide_eq_true hl]
   unfold psh
   rw [if_pos hl]
   cases M with
   | nil =>
     refine (push_first h r hr x.1 x.2.1 x.2.2).mono ?_
     rintro e w' ⟨rfl, own', X', h', hf⟩
     obtain ⟨own2, h2, hf2⟩ := h'.more
     exact ⟨rfl, own2, ⟨sb, pb, bb, ab, _, N, _, X', _, _, _, h2⟩, hf.trans hf2⟩
   | cons a t =>
     refine (push_more h hl (by simp) hc r hr x.1 x.2.1 x.2.2).mono ?_
     rintro e w' ⟨rfl, own', b', n', X', B', W', R', h', hf, _⟩
     exact ⟨rfl, own', ⟨sb, pb, bb, ab, b', N, n', X', B', W', R', h'⟩, hf⟩
 · rw [decide_eq_false hl]
   unfold psh
   rw [if_neg hl]
   refine (push_full h (by have := h.len; omega) r x.1 x.2.1 x.2.2).mono ?_
   rintro e w' ⟨rfl, hu⟩
   obtain ⟨own2, h2, hf2⟩ := (h.old hu).more
   exact ⟨rfl, own2, ⟨sb, pb, bb, ab, base, N, n, X, B, W, R, h2⟩, ((Fol.refl w own).old hu).trans hf2⟩
theorem s_new (room L : Nat) (w : World) (h1 : 1 ≤ room) (h2 : room ≤ 4096) (h3 : 1 ≤ L) (h4 : L ≤ 3) :
 Calls Tryz.prog 53 #[.int .i64 room, .int .i64 L] w fun e w' => ∃ cb, e = .returned (.tuple #[.pointer (some ⟨cb, 0, none⟩), .int .i64 0]) ∧ (∃ own, St w' own cb room 0 [] ∧ ∀ k, own k → w.heap.size ≤ k) ∧ Upd Nowhere w w' := by
 obtain ⟨l, hl⟩ : ∃ l, l + 1 = L := ⟨L - 1, by omega⟩
 obtain ⟨N, hN⟩ : ∃ N, 64 * 64 ^ l = N := ⟨_, rfl⟩
 have HN := Lib.hid (q_new room w h1 h2)
 have HL := Lib.hid hl
 have HNN := Lib.hid hN
 clear hl hN
 go_enter Tryz.func53, Tryz.ntmps53
 go_wp2_with fail
 refine (HN.out).mono ?_
 rintro e w1 ⟨rfl, ⟨o1, hq1, ho1⟩, hu1⟩
 have s1 : Sep w1 [heapC w.heap.size room 0 []] o1 := Sep.one (C := heapC w.heap.size room 0 []) hq1
 have S1 := Lib.hid s1
 have O1 := Lib.hid ho1
 have U1 := Lib.hid hu1
 have HD := Lib.hid (d_new HL.out h4 HNN.out w1)
 clear HN hq1 ho1 hu1 s1
 go_wp2_with fail
 refine HD.out.mono ?_
 rintro e w2 ⟨rfl, o2, hd2, ho2, hu2⟩
 have hNs := hd2.size
 have s2 := S1.out.more (C := dayC w1.heap.size N (fun _ => false)) hu2 hd2 ho2
 have S2 := Lib.hid s2
 have O2 : Hid (∀ k, o2 k ∨ o1 k → w.heap.size ≤ k) := Lib.hid (fun k hk => hk.elim (fun h => Nat.le_trans U1.out.size (ho2 k h)) (O1.out k))
 have U2 := Lib.hid (U1.out.trans hu2 (fun _ _ h => h))
 have HN2 := Lib.hid (q_new room w2 h1 h2)
 clear HD hd2 ho2 hu2 s2 S1 O1 U1
 go_wp2_with fail
 refine HN2.out.mono ?_
 rintro e w3 ⟨rfl, ⟨o3, hq3, ho3⟩, hu3⟩
 have s3 := S2.out.more (C := heapC w2.heap.size room 0 []) hu3 hq3 ho3
 have S3 := Lib.hid s3
 have O3 : Hid (∀ k, o3 k ∨ o2 k ∨ o1 k → w.heap.size ≤ k) := Lib.hid (fun k hk => hk.elim (fun h => Nat.le_trans U2.out.size (ho3 k h)) (O2.out k))
 have U3 := Lib.hid (U2.out.trans hu3 (fun _ _ h => h))
 obtain ⟨_, hd3, _, _⟩ := Sep.foc (dayC w1.heap.size N (fun _ => false)) [heapC w.heap.size room 0 []] [heapC w2.heap.size room 0 []] s3
 have HSZ := Lib.hid (d_size hd3)
 clear HN2 hq3 ho3 hu3 s3 S2 O2 U2 hd3
 go_wp2_with fail
 refine HSZ.out.mono ?_
 rintro e w4 ⟨rfl, k4, rfl⟩
 have HPN := Lib.hid (p_new room N (w3.drewN k4) h1 h2 (by omega) hNs.2)
 clear HSZ
 go_wp2_with fail
 refine HPN.out.mono ?_
 rintro e w5 ⟨rfl, ⟨o5, hp5, ho5⟩, hu5⟩
 have hu35 : Upd Nowhere w3 w5 := ((Upd.refl _ _).drewN k4).trans hu5 (fun _ _ h => h)
 have s5 := S3.out.more (C := poolC (w3.heap.size + 1) room N 0 (fun _ => [])) hu35 hp5 ho5
 have S5 := Lib.hid s5
 have O5 : Hid (∀ k, o5 k ∨ o3 k ∨ o2 k ∨ o1 k → w.heap.size ≤ k) := Lib.hid (fun k hk => hk.elim (fun h => Nat.le_trans U3.out.size (ho5 k h)) (O3.out k))
 have U5 := Lib.hid (U3.out.trans hu35 (fun _ _ h => h))
 clear HPN hp5 ho5 hu5 hu35 s5 S3 O3 U3
 go_wp2_with fail
 go_ret2
 have s6 := S5.out.more (o := fun k => k = w5.heap.size) (C := blkC w5.heap.size (cells w1.heap.size (w3.heap.size + 1) w.heap.size w2.heap.size room 0) TL) ((Upd.refl _ _).alloc (.cells (cells w1.heap.size (w3.heap.size + 1) w.heap.size w2.heap.size room 0) TL)) ⟨Blk.new _ _ _, fun _ => Iff.rfl⟩ (fun k hk => by rw [hk]; exact Nat.le_refl _)
 have s7 : Sep (w5.alloc (.cells (cells w1.heap.size (w3.heap.size + 1) w.heap.size w2.heap.size room 0) TL)) (calL w5.heap.size w1.heap.size (w3.heap.size + 1) w.heap.size w2.heap.size room 0 N 0 0 (ne (fun _ => [])) (fun _ => []) [] []) (fun k => k = w5.heap.size ∨ o5 k ∨ o3 k ∨ o2 k ∨ o1 k) := by
  refine Sep.perm ?_ s6
  refine List.Perm.cons _ ?_
  exact ((List.Perm.swap _ _ _).cons _).trans ((List.Perm.swap _ _ _).trans (((List.Perm.swap _ _ _).cons _).cons _))
 refine ⟨w5.heap.size, ?_, ⟨_, ⟨w1.heap.size, w3.heap.size + 1, w.heap.size, w2.heap.size, 0, N, 0, _, [], [], [], ⟨s7, Cm.nil N 0, rfl, by omega, fun a ha => (by cases ha), Nat.zero_le _, h1, h2⟩⟩, fun k hk => ?_⟩, ?_⟩
 · rfl
 · rcases hk with rfl | hk
   · exact U5.out.size
   · exact O5.out k hk
 · exact U5.out.alloc _
end
end Go.Proofs.YtpgpjjkeginbbaaGreatDoor.CalP

