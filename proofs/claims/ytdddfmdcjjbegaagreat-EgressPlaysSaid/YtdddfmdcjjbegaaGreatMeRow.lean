/- Twin8, Worst, Row, one behind the other. -/
import Derived.Test.YtdddfmdcjjbegaaGreatMeTwin2
import Derived.Test.YtdddfmdcjjbegaaGreatMeA
import Derived.Test.YtdddfmdcjjbegaaGreatMeRing
namespace Go.Proofs.YtdddfmdcjjbegaaGreat.TwinW
open Go.RowKit Go.Proofs BigFrame Heap HeapW TwinL
open RingW (It KI zI ZI VI TE)
open Cal (ins itms itm insE)
set_option maxHeartbeats 4000000
set_option maxRecDepth 1000000
/-- Pairs of the blocks own that have the sorted list m; at most c came. -/
def Tq (w : World) (b : Nat) (own : Nat → Prop) (room c : Nat) (m : List (Nat × It)) : Prop :=
 ∃ v came l s, HI w b v came room l ∧ Tw came l s ∧ itms s = m ∧ came ≤ c ∧ ∀ k, own k ↔ HeapOf b v k
section
variable {w w' : World} {b room c : Nat} {own : Nat → Prop} {m : List (Nat × It)}
theorem Tq.lts (h : Tq w b own room c m) {k : Nat} (hk : own k) : k < w.heap.size := by
 obtain ⟨v, came, l, s, hh, _, _, _, ho⟩ := h
 exact hh.lts ((ho k).1 hk)
theorem Tq.kept (h : Tq w b own room c m) {S : Nat → Prop} (hu : Upd S w w') (hS : ∀ k, own k → ¬ S k) : Tq w' b own room c m := by
 obtain ⟨v, came, l, s, hh, h2, h3, h4, ho⟩ := h
 exact ⟨v, came, l, s, hh.kept hu (fun k hk => hS k ((ho k).2 hk)), h2, h3, h4, ho⟩
theorem Tq.old (h : Tq w b own room c m) (hu : Upd Nowhere w w') : Tq w' b own room c m := h.kept hu (fun _ _ h => h)
theorem Tq.le (h : Tq w b own room c m) : m.length ≤ room ∧ 1 ≤ room ∧ room ≤ 4096 := by
 obtain ⟨v, came, l, s, hh, h2, rfl, h4, ho⟩ := h
 have := hh.le
 rw [Cal.itms_len, h2.len]; exact ⟨this, hh.r1, hh.r2⟩
theorem own_of {b : Nat} {v v' : Value} {own : Nat → Prop} (ho : ∀ k, own k ↔ HeapOf b v k) (h : OwnOrNew w v v') : ∀ k, HeapOf b v' k → own k ∨ w.heap.size ≤ k := fun k hk => by
 rcases hk with rfl | hk
 · exact .inl ((ho _).2 (.inl rfl))
 · rcases h k hk with h | h
   · exact .inl ((ho _).2 (.inr h))
   · exact .inr h
theorem q_new (room : Nat) (w : World) (h1 : 1 ≤ room) (h2 : room ≤ 4096) :
 Calls Tryz.prog 63 #[.int .i64 room] w fun e w' => e = .returned (.tuple #[.pointer (some ⟨w.heap.size, 0, none⟩), .int .i64 0]) ∧ (∃ own, Tq w' w.heap.size own room 0 [] ∧ ∀ k, own k → w.heap.size ≤ k) ∧ Upd Nowhere w w' := by
 refine (new_ok room w h1 h2).mono ?_
 rintro e w' ⟨rfl, h, hu⟩
 refine ⟨rfl, ⟨_, ⟨_, _, _, _, h, Tw.nil, rfl, Nat.le_refl _, fun _ => Iff.rfl⟩, fun k hk => ?_⟩, hu⟩
 rcases hk with rfl | hk
 · exact Nat.le_refl _
 · cases hk
theorem q_len (h : Tq w b own room c m) : Calls Tryz.prog 162 #[.pointer (some ⟨b, 0, none⟩)] w fun e w' => e = .returned (.int .i64 m.length) ∧ w = w' := by
 obtain ⟨v, came, l, s, hh, h2, rfl, h4, ho⟩ := h
 rw [Cal.itms_len, h2.len]
 exact len_some hh
theorem q_push (h : Tq w b own room c m) (hl : m.length < room) (hc : c < 18446744073709551615) (rank : Nat) (x : It) :
 Calls Tryz.prog 166 #[.pointer (some ⟨b, 0, none⟩), .int .u64 rank, VI x] w fun e w' => e = .returned (.bool true) ∧
  ∃ own', Tq w' b own' room (c + 1) (ins rank x m) ∧ Fol w own w' own' := by
 obtain ⟨v, came, l, s, hh, h2, rfl, h4, ho⟩ := h
 rw [Cal.itms_len, h2.len] at hl
 obtain ⟨xa, xb, xc, xd, xe⟩ := x
 refine (push_room hh hl (by omega) rank xa xb xc xd xe).mono ?_
 rintro e w' ⟨rfl, v', t1, t2, t3⟩
 refine ⟨rfl, _, ⟨v', _, _, _, t1, h2.push (by omega) rank (xa, xb, xc, xd, xe), ?_, by omega, fun _ => Iff.rfl⟩, own_of ho t2, t3.mono fun k _ hk => (ho k).2 hk⟩
 exact Cal.itms_ins (rank, came, xa, xb, xc, xd, xe) s
theorem q_full (h : Tq w b own room c m) (hl : m.length = room) (rank : Nat) (x : It) :
 Calls Tryz.prog 166 #[.pointer (some ⟨b, 0, none⟩), .int .u64 rank, VI x] w fun e w' => e = .returned (.bool false) ∧ Upd Nowhere w w' := by
 obtain ⟨v, came, l, s, hh, h2, rfl, h4, ho⟩ := h
 rw [Cal.itms_len, h2.len] at hl
 exact push_full hh hl rank x.1 x.2.1 x.2.2.1 x.2.2.2.1 x.2.2.2.2
theorem q_min_e (h : Tq w b own room c []) :
 Calls Tryz.prog 161 #[.pointer (some ⟨b, 0, none⟩)] w fun e w' => e = .returned (.tuple #[.int .u64 0, ZI, .bool false]) ∧ Upd Nowhere w w' := by
 obtain ⟨v, came, l, s, hh, h2, h3, h4, ho⟩ := h
 cases s with
 | nil =>
   obtain rfl := h2.none
   exact min_empty hh
 | cons a s => cases h3
theorem q_min {r : Nat} {x : It} {t : List (Nat × It)} (h : Tq w b own room c ((r, x) :: t)) :
 Calls Tryz.prog 161 #[.pointer (some ⟨b, 0, none⟩)] w fun e w' => e = .returned (.tuple #[.int .u64 r, VI x, .bool true]) ∧ Upd Nowhere w w' := by
 obtain ⟨v, came, l, s, hh, h2, h3, h4, ho⟩ := h
 cases s with
 | nil => cases h3
 | cons a s =>
   injection h3 with e1 e2
   have h0 := h2.head
   obtain ⟨a0, a1, xa, xb, xc, xd, xe⟩ := a
   unfold itm at e1
   injection e1 with e3 e4
   subst e3
   subst e4
   exact min_some hh h0
theorem q_popMin {r : Nat} {x : It} {t : List (Nat × It)} (h : Tq w b own room c ((r, x) :: t)) :
 Calls Tryz.prog 164 #[.pointer (some ⟨b, 0, none⟩)] w fun e w' => e = .returned (.tuple #[.int .u64 r, VI x, .bool true]) ∧
  ∃ own', Tq w' b own' room c t ∧ Fol w own w' own' := by
 obtain ⟨v, came, l, s, hh, h2, h3, h4, ho⟩ := h
 cases s with
 | nil => cases h3
 | cons a s =>
   injection h3 with e1 e2
   have h0 := h2.head
   obtain ⟨a0, a1, xa, xb, xc, xd, xe⟩ := a
   have hp := pop_min hh h0
   unfold itm at e1
   injection e1 with e3 e4
   subst e3
   subst e4
   refine hp.mono ?_
   rintro e w' ⟨rfl, v', t1, t2, t3⟩
   exact ⟨rfl, _, ⟨v', _, _, _, t1, h2.popMin, e2, h4, fun _ => Iff.rfl⟩, own_of ho t2, t3.mono fun k _ hk => (ho k).2 hk⟩
theorem last_of {s : List En} {t : List (Nat × It)} {r : Nat} {x : It} (h : itms s = t ++ [(r, x)]) : ∃ s' a, s = s' ++ [a] ∧ itms s' = t ∧ itm a = (r, x) := by
 rcases List.eq_nil_or_concat s with rfl | ⟨s', a, rfl⟩
 · unfold itms at h
   have := congrArg List.length h
   simp at this
 · rw [List.concat_eq_append] at h ⊢
   unfold itms at h
   rw [List.map_append] at h
   have h2 := List.append_inj' h (by simp)
   exact ⟨s', a, rfl, h2.1, by simpa using h2.2⟩
theorem q_max {r : Nat} {x : It} {t : List (Nat × It)} (h : Tq w b own room c (t ++ [(r, x)])) :
 Calls Tryz.prog 167 #[.pointer (some ⟨b, 0, none⟩)] w fun e w' => e = .returned (.tuple #[.int .u64 r, VI x, .bool true]) ∧ Upd Nowhere w w' := by
 obtain ⟨v, came, l, s, hh, h2, h3, h4, ho⟩ := h
 obtain ⟨s', a, rfl, _, h6⟩ := last_of h3
 have h0 := h2.last
 obtain ⟨a0, a1, xa, xb, xc, xd, xe⟩ := a
 unfold itm at h6
 injection h6 with e3 e4
 subst e3
 subst e4
 exact max_some hh h0
theorem q_popMax {r : Nat} {x : It} {t : List (Nat × It)} (h : Tq w b own room c (t ++ [(r, x)])) :
 Calls Tryz.prog 168 #[.pointer (some ⟨b, 0, none⟩)] w fun e w' => e = .returned (.tuple #[.int .u64 r, VI x, .bool true]) ∧
  ∃ own', Tq w' b own' room c t ∧ Fol w own w' own' := by
 obtain ⟨v, came, l, s, hh, h2, h3, h4, ho⟩ := h
 obtain ⟨s', a, rfl, h5, h6⟩ := last_of h3
 have h0 := h2.last
 obtain ⟨a0, a1, xa, xb, xc, xd, xe⟩ := a
 unfold itm at h6
 injection h6 with e3 e4
 subst e3
 subst e4
 refine (pop_max hh h0).mono ?_
 rintro e w' ⟨rfl, v', t1, t2, t3⟩
 exact ⟨rfl, _, ⟨v', _, _, _, t1, h2.popMax, h5, h4, fun _ => Iff.rfl⟩, own_of ho t2, t3.mono fun k _ hk => (ho k).2 hk⟩
end
section
variable {w w' : World} {b room c : Nat} {own : Nat → Prop} {m : List (Nat × It)}
/-- The end of a call that writes its own result's block. -/
theorem Tq.ret {w3 w4 : World} {own2 : Nat → Prop} {rb : Nat} {c' : Nat} {m' : List (Nat × It)} (h : Tq w3 b own2 room c' m') (hf : Fol w own w3 own2) (hu : Upd (fun k => k = rb) w3 w4) (hn : ¬ own2 rb) (hs : w.heap.size ≤ rb) :
 ∃ own', Tq w4 b own' room c' m' ∧ Fol w own w4 own' := ⟨own2, h.kept hu (fun k hk e => hn (by rw [← e]; exact hk)), hf.ret hu hs⟩
theorem sq_room (h : Tq w b own room c m) (hl : m.length < room) (hc : c < 18446744073709551615) (rank : Nat) (x : It) :
 Calls Tryz.prog 163 #[.pointer (some ⟨b, 0, none⟩), .int .u64 rank, VI x] w fun e w' => e = .returned (.tuple #[ZI, .bool false]) ∧
  ∃ own', Tq w' b own' room (c + 1) (ins rank x m) ∧ Fol w own w' own' := by
 obtain ⟨xa, xb, xc, xd, xe⟩ := x
 have hU : Upd Nowhere w ((w.alloc (.cells #[.int .u32 xa, .int .u32 xb, .int .u64 xc, .int .u64 xd, .int .i64 xe] TE)).alloc (.cells zI TE)) := ((Upd.refl _ _).alloc _).alloc _
 have hB : Blk ((w.alloc (.cells #[.int .u32 xa, .int .u32 xb, .int .u64 xc, .int .u64 xd, .int .i64 xe] TE)).alloc (.cells zI TE)) w.heap.size #[.int .u32 xa, .int .u32 xb, .int .u64 xc, .int .u64 xd, .int .i64 xe] TE := (Blk.new _ _ _).alloc _
 have hR : Blk ((w.alloc (.cells #[.int .u32 xa, .int .u32 xb, .int .u64 xc, .int .u64 xd, .int .i64 xe] TE)).alloc (.cells zI TE)) (w.heap.size + 1) zI TE := Blk.new2 _ _ _ _
 have hno : ∀ k, own k → k < w.heap.size := fun k hk => h.lts hk
 have HP := Lib.hid (q_push (h.old hU) hl hc rank (xa, xb, xc, xd, xe))
 clear h hl hc
 go_enter Tryz.func163, Tryz.ntmps163
 go_upto_region 1 with fail
 generalize (w.alloc (.cells #[.int .u32 xa, .int .u32 xb, .int .u64 xc, .int .u64 xd, .int .i64 xe] TE)).alloc (.cells zI TE) = w1 at *
 obtain ⟨k0, k1, k2, k3, k4, -⟩ := cells5 hB
 go_wp2_with fail
 refine (HP.out).mono ?_
 rintro e w2 ⟨rfl, own2, h2, f2⟩
 clear k0 k1 k2 k3 k4
 have hno1 : ¬ own (w.heap.size + 1) := fun h => absurd (hno _ h) (by omega)
 have hR2 := f2.blk hR hno1
 have f3 := ((Fol.refl w own).old hU).trans f2
 have HN2 := Lib.hid (f2.off hno1 hR.lt)
 have H2 := Lib.hid h2
 have F3 := Lib.hid f3
 obtain ⟨rb, hrb⟩ : ∃ rb, w.heap.size + 1 = rb := ⟨_, rfl⟩
 have HSZ : Hid (w.heap.size ≤ rb) := Lib.hid (by omega)
 rw [hrb] at hR2 HN2
 clear hB hR h2 f2 f3 hU HP hno1
 try simp only [hrb]
 clear hrb
 go_upto_region 3 with fail
 have hA : Upd Nowhere w2 (w2.alloc (.cells zI TE)) := (Upd.refl _ _).alloc _
 have hl2 := Blk.lt hR2
 have hR3 := Blk.kept hR2 hA id
 have hX : Blk (w2.alloc (.cells zI TE)) w2.heap.size zI TE := Blk.new _ _ _
 have H3 := Lib.hid (H2.out.old hA)
 have F4 := Lib.hid (F3.out.old hA)
 obtain ⟨xk, hxk⟩ : ∃ xk, w2.heap.size = xk := ⟨_, rfl⟩
 rw [hxk] at hX hl2
 clear H2 F3 hR2 hA
 generalize w2.alloc (.cells zI TE) = w3 at *
 try simp only [hxk]
 clear hxk
 obtain ⟨c0, c1, c2, c3, c4, z0, z1, z2, z3, z4⟩ := cells5 hR3
 obtain ⟨k0, k1, k2, k3, k4, -⟩ := cells5 hX
 clear hR3 hX
 have hne : ¬ rb = xk := by omega
 go_wp2_with fail
 refine bodyPost_ret (v := .tuple #[ZI, .bool false]) (by simp [results, Tryz.results163, go_sem, c0, c1, c2, c3, c4]) rfl ⟨rfl, H3.out.ret F4.out ?_ HN2.out HSZ.out⟩
 repeat (first | with_reducible exact Upd.refl _ _ | with_reducible refine Upd.drewN ?_ _ | with_reducible refine Upd.drew ?_ | with_reducible refine Upd.setOne ?_ _ _)
theorem sq_self {r : Nat} {y : It} {t : List (Nat × It)} (h : Tq w b own room c (t ++ [(r, y)])) (hl : t.length + 1 = room) (rank : Nat) (hr : r ≤ rank) (x : It) :
 Calls Tryz.prog 163 #[.pointer (some ⟨b, 0, none⟩), .int .u64 rank, VI x] w fun e w' => e = .returned (.tuple #[VI x, .bool true]) ∧ Upd Nowhere w w' := by
 obtain ⟨xa, xb, xc, xd, xe⟩ := x
 obtain ⟨ya, yb, yc, yd, ye⟩ := y
 have hU : Upd Nowhere w ((w.alloc (.cells #[.int .u32 xa, .int .u32 xb, .int .u64 xc, .int .u64 xd, .int .i64 xe] TE)).alloc (.cells zI TE)) := ((Upd.refl _ _).alloc _).alloc _
 have hB : Blk ((w.alloc (.cells #[.int .u32 xa, .int .u32 xb, .int .u64 xc, .int .u64 xd, .int .i64 xe] TE)).alloc (.cells zI TE)) w.heap.size #[.int .u32 xa, .int .u32 xb, .int .u64 xc, .int .u64 xd, .int .i64 xe] TE := (Blk.new _ _ _).alloc _
 have hR : Blk ((w.alloc (.cells #[.int .u32 xa, .int .u32 xb, .int .u64 xc, .int .u64 xd, .int .i64 xe] TE)).alloc (.cells zI TE)) (w.heap.size + 1) zI TE := Blk.new2 _ _ _ _
 have HP := Lib.hid (q_full (h.old hU) (by simpa using hl) rank (xa, xb, xc, xd, xe))
 have HM := fun u (hu : Upd Nowhere ((w.alloc (.cells #[.int .u32 xa, .int .u32 xb, .int .u64 xc, .int .u64 xd, .int .i64 xe] TE)).alloc (.cells zI TE)) u) => Lib.hid (q_max ((h.old hU).old hu))
 have dr : decide (r ≤ rank) = true := decide_eq_true hr
 clear h hl hr
 go_enter Tryz.func163, Tryz.ntmps163
 go_upto_region 1 with fail
 generalize (w.alloc (.cells #[.int .u32 xa, .int .u32 xb, .int .u64 xc, .int .u64 xd, .int .i64 xe] TE)).alloc (.cells zI TE) = w1 at *
 obtain ⟨k0, k1, k2, k3, k4, -⟩ := cells5 hB
 go_wp2_with fail
 refine (HP.out).mono ?_
 rintro e w2 ⟨rfl, hu2⟩
 clear k0 k1 k2 k3 k4 HP
 go_wp2_with fail
 refine ((HM _ hu2).out).mono ?_
 rintro e w3 ⟨rfl, hu3⟩
 have hu13 := hu2.trans hu3 (fun _ _ h => h)
 have hB3 := hB.kept hu13 id
 have hR3 := hR.kept hu13 id
 have hU3 := hU.trans hu13 (fun _ _ h => h)
 obtain ⟨rb, hrb⟩ : ∃ rb, w.heap.size + 1 = rb := ⟨_, rfl⟩
 obtain ⟨xb0, hxb0⟩ : ∃ xb0, w.heap.size = xb0 := ⟨_, rfl⟩
 have HSZ : Hid (w.heap.size ≤ rb) := Lib.hid (by omega)
 have hne : ¬ rb = xb0 := by omega
 rw [hrb] at hR3
 rw [hxb0] at hB3
 clear hB hR hu2 hu3 hu13 hU HM
 try simp only [hrb]
 try simp only [hxb0]
 clear hrb hxb0
 go_upto_region 5 with fail
 have hA : Upd Nowhere w3 (w3.alloc (.cells #[.int .u32 ya, .int .u32 yb, .int .u64 yc, .int .u64 yd, .int .i64 ye] TE)) := (Upd.refl _ _).alloc _
 have hB4 := Blk.kept hB3 hA id
 have hR4 := Blk.kept hR3 hA id
 have HU4 := Lib.hid (hU3.trans hA (fun _ _ h => h))
 clear hB3 hR3 hU3 hA
 generalize w3.alloc (.cells #[.int .u32 ya, .int .u32 yb, .int .u64 yc, .int .u64 yd, .int .i64 ye] TE) = w4 at *
 obtain ⟨c0, c1, c2, c3, c4, z0, z1, z2, z3, z4⟩ := cells5 hR4
 obtain ⟨k0, k1, k2, k3, k4, -⟩ := cells5 hB4
 clear hR4 hB4
 go_wp2_with fail
 exact bodyPost_ret (v := .tuple #[VI (xa, xb, xc, xd, xe), .bool true]) (by simp [results, Tryz.results163, go_sem, c0, c1, c2, c3, c4]) rfl ⟨rfl, (by repeat (first | with_reducible exact HU4.out | with_reducible refine Upd.drewN ?_ _ | with_reducible refine Upd.drew ?_ | with_reducible refine Upd.setNew ?_ HSZ.out _))⟩
theorem sq_out {r : Nat} {y : It} {t : List (Nat × It)} (h : Tq w b own room c (t ++ [(r, y)])) (hl : t.length + 1 = room) (hc : c < 18446744073709551615) (rank : Nat) (hr : rank < r) (x : It) :
 Calls Tryz.prog 163 #[.pointer (some ⟨b, 0, none⟩), .int .u64 rank, VI x] w fun e w' => e = .returned (.tuple #[VI y, .bool true]) ∧
  ∃ own', Tq w' b own' room (c + 1) (ins rank x t) ∧ Fol w own w' own' := by
 obtain ⟨xa, xb, xc, xd, xe⟩ := x
 obtain ⟨ya, yb, yc, yd, ye⟩ := y
 have hU : Upd Nowhere w ((w.alloc (.cells #[.int .u32 xa, .int .u32 xb, .int .u64 xc, .int .u64 xd, .int .i64 xe] TE)).alloc (.cells zI TE)) := ((Upd.refl _ _).alloc _).alloc _
 have hB : Blk ((w.alloc (.cells #[.int .u32 xa, .int .u32 xb, .int .u64 xc, .int .u64 xd, .int .i64 xe] TE)).alloc (.cells zI TE)) w.heap.size #[.int .u32 xa, .int .u32 xb, .int .u64 xc, .int .u64 xd, .int .i64 xe] TE := (Blk.new _ _ _).alloc _
 have hR : Blk ((w.alloc (.cells #[.int .u32 xa, .int .u32 xb, .int .u64 xc, .int .u64 xd, .int .i64 xe] TE)).alloc (.cells zI TE)) (w.heap.size + 1) zI TE := Blk.new2 _ _ _ _
 have hno : ∀ k, own k → k < w.heap.size := fun k hk => h.lts hk
 have HP := Lib.hid (q_full (h.old hU) (by simpa using hl) rank (xa, xb, xc, xd, xe))
 have HM := fun u (hu : Upd Nowhere ((w.alloc (.cells #[.int .u32 xa, .int .u32 xb, .int .u64 xc, .int .u64 xd, .int .i64 xe] TE)).alloc (.cells zI TE)) u) => Lib.hid (q_max ((h.old hU).old hu))
 have HX := fun u (hu : Upd Nowhere ((w.alloc (.cells #[.int .u32 xa, .int .u32 xb, .int .u64 xc, .int .u64 xd, .int .i64 xe] TE)).alloc (.cells zI TE)) u) => Lib.hid (q_popMax ((h.old hU).old hu))
 have dr : decide (r ≤ rank) = false := decide_eq_false (by omega)
 have HTL : Hid (t.length < room) := Lib.hid (by omega)
 have HCC := Lib.hid hc
 clear h hl hr hc
 go_enter Tryz.func163, Tryz.ntmps163
 go_upto_region 1 with fail
 generalize (w.alloc (.cells #[.int .u32 xa, .int .u32 xb, .int .u64 xc, .int .u64 xd, .int .i64 xe] TE)).alloc (.cells zI TE) = w1 at *
 obtain ⟨k0, k1, k2, k3, k4, -⟩ := cells5 hB
 go_wp2_with fail
 refine (HP.out).mono ?_
 rintro e w2 ⟨rfl, hu2⟩
 clear k0 k1 k2 k3 k4 HP
 go_wp2_with fail
 refine ((HM _ hu2).out).mono ?_
 rintro e w3 ⟨rfl, hu3⟩
 have hu13 := hu2.trans hu3 (fun _ _ h => h)
 have hB3 := hB.kept hu13 id
 have hR3 := hR.kept hu13 id
 obtain ⟨rb, hrb⟩ : ∃ rb, w.heap.size + 1 = rb := ⟨_, rfl⟩
 obtain ⟨xb0, hxb0⟩ : ∃ xb0, w.heap.size = xb0 := ⟨_, rfl⟩
 have HSZ : Hid (w.heap.size ≤ rb) := Lib.hid (by omega)
 have hne : ¬ rb = xb0 := by omega
 have HNR : Hid (¬ own rb) := Lib.hid (fun h => absurd (hno _ h) (by omega))
 have HNB : Hid (¬ own xb0) := Lib.hid (fun h => absurd (hno _ h) (by omega))
 rw [hrb] at hR3
 rw [hxb0] at hB3
 clear hB hR hu2 hu3 HM
 try simp only [hrb]
 try simp only [hxb0]
 clear hrb hxb0
 go_upto_region 5 with fail
 have hA : Upd Nowhere w3 (w3.alloc (.cells #[.int .u32 ya, .int .u32 yb, .int .u64 yc, .int .u64 yd, .int .i64 ye] TE)) := (Upd.refl _ _).alloc _
 have hY : Blk (w3.alloc (.cells #[.int .u32 ya, .int .u32 yb, .int .u64 yc, .int .u64 yd, .int .i64 ye] TE)) w3.heap.size #[.int .u32 ya, .int .u32 yb, .int .u64 yc, .int .u64 yd, .int .i64 ye] TE := Blk.new _ _ _
 have hB4 := Blk.kept hB3 hA id
 have hR4 := Blk.kept hR3 hA id
 have hu14 := hu13.trans hA (fun _ _ h => h)
 have HX4 := Lib.hid (HX _ hu14).out
 have HU4 := Lib.hid ((Fol.refl w own).old (hU.trans hu14 (fun _ _ h => h)))
 have hws : rb < w3.heap.size := Blk.lt hR3
 obtain ⟨yk, hyk⟩ : ∃ yk, w3.heap.size = yk := ⟨_, rfl⟩
 have HNY : Hid (¬ own yk) := Lib.hid (fun h => absurd (hno _ h) (by have := HSZ.out; omega))
 rw [hyk] at hY hws
 clear hB3 hR3 hU hA hu13 hu14 HX
 generalize w3.alloc (.cells #[.int .u32 ya, .int .u32 yb, .int .u64 yc, .int .u64 yd, .int .i64 ye] TE) = w4 at *
 try simp only [hyk]
 clear hyk
 go_wp2_with fail
 refine (HX4.out).mono ?_
 rintro e w5 ⟨rfl, own5, h5, f5⟩
 have hB5 := f5.blk hB4 HNB.out
 have hR5 := f5.blk hR4 HNR.out
 have hY5 := f5.blk hY HNY.out
 have HNR5 := Lib.hid (f5.off HNR.out (Blk.lt hR4))
 have HNY5 := Lib.hid (f5.off HNY.out (Blk.lt hY))
 have F5 := Lib.hid (HU4.out.trans f5)
 have HP2 := Lib.hid (q_push h5 HTL.out HCC.out rank (xa, xb, xc, xd, xe))
 clear hB4 hR4 hY f5 h5 HX4 HU4 HNR HNY HNB
 obtain ⟨k0, k1, k2, k3, k4, -⟩ := cells5 hB5
 go_wp2_with fail
 refine (HP2.out).mono ?_
 rintro e w6 ⟨rfl, own6, h6, f6⟩
 clear k0 k1 k2 k3 k4
 have hR6 := f6.blk hR5 HNR5.out
 have hY6 := f6.blk hY5 HNY5.out
 have HNR6 := Lib.hid (f6.off HNR5.out (Blk.lt hR5))
 have F6 := Lib.hid (F5.out.trans f6)
 have H6 := Lib.hid h6
 clear hB5 hR5 hY5 f6 h6 HP2 F5 HNR5 HNY5
 obtain ⟨c0, c1, c2, c3, c4, z0, z1, z2, z3, z4⟩ := cells5 hR6
 obtain ⟨k0, k1, k2, k3, k4, -⟩ := cells5 hY6
 clear hR6 hY6
 have hne2 : ¬ rb = yk := by omega
 go_wp2_with fail
 refine bodyPost_ret (v := .tuple #[VI (ya, yb, yc, yd, ye), .bool true]) (by simp [results, Tryz.results163, go_sem, c0, c1, c2, c3, c4]) rfl ⟨rfl, H6.out.ret F6.out ?_ HNR6.out HSZ.out⟩
 repeat (first | with_reducible exact Upd.refl _ _ | with_reducible refine Upd.drewN ?_ _ | with_reducible refine Upd.drew ?_ | with_reducible refine Upd.setOne ?_ _ _)
end
end Go.Proofs.YtdddfmdcjjbegaaGreat.TwinW
namespace Go.Proofs.YtdddfmdcjjbegaaGreat.Worst
open Go.RowKit Go.Proofs BigFrame
open RingW (It KI zI ZI VI TE)
open TwinW (Tq q_len q_min q_min_e q_popMin sq_room sq_self sq_out)
open Cal (ins)
set_option maxHeartbeats 4000000
set_option maxRecDepth 1000000
abbrev TW : TypeId := 162
/-- The row's value: it holds the pairs. -/
abbrev VW (b : Nat) : Value := .agg #[.pointer (some ⟨b, 0, none⟩)]
abbrev IW (b : Nat) : Value := .iface TW (VW b)
section
variable {w w' : World} {b room c : Nat} {own : Nat → Prop} {m : List (Nat × It)}
theorem len_w (h : Tq w b own room c m) :
 Calls Tryz.prog 158 #[VW b] w fun e w' => e = .returned (.int .i64 m.length) ∧ Upd Nowhere w w' := by
 have h' := h.old ((Upd.refl _ w).alloc (.cells #[.pointer (some ⟨b, 0, none⟩)] TW))
 have HL := Lib.hid (q_len h')
 clear h h'
 go_enter Tryz.func158, Tryz.ntmps158
 go_wp2_with fail
 refine (HL.out).mono ?_
 rintro e w' ⟨rfl, rfl⟩
 go_wp2_with fail
 go_ret
 exact ⟨rfl, (Upd.refl _ _).alloc _⟩
theorem head_w {r : Nat} {x : It} {t : List (Nat × It)} (h : Tq w b own room c ((r, x) :: t)) :
 Calls Tryz.prog 157 #[VW b] w fun e w' => e = .returned (.tuple #[VI x, .bool true]) ∧ Upd Nowhere w w' := by
 obtain ⟨xa, xb, xc, xd, xe⟩ := x
 have hU : Upd Nowhere w ((w.alloc (.cells #[.pointer (some ⟨b, 0, none⟩)] TW)).alloc (.cells zI TE)) := ((Upd.refl _ _).alloc _).alloc _
 have hN : Blk ((w.alloc (.cells #[.pointer (some ⟨b, 0, none⟩)] TW)).alloc (.cells zI TE)) (w.heap.size + 1) zI TE := Blk.new2 _ _ _ _
 have HL := Lib.hid (q_min (h.old hU))
 clear h
 go_enter Tryz.func157, Tryz.ntmps157
 go_wp2_with fail
 refine (HL.out).mono ?_
 rintro e w1 ⟨rfl, hu⟩
 have hU1 := hU.trans hu (fun _ _ h => h)
 have hN1 := hN.kept hu id
 obtain ⟨rb, hrb⟩ : ∃ rb, w.heap.size + 1 = rb := ⟨_, rfl⟩
 have HSZ : Hid (w.heap.size ≤ rb) := Lib.hid (by omega)
 rw [hrb] at hN1
 clear hU hN hu HL
 try simp only [hrb]
 clear hrb
 go_upto_region 2 with fail
 have hA : Upd Nowhere w1 (w1.alloc (.cells #[.int .u32 xa, .int .u32 xb, .int .u64 xc, .int .u64 xd, .int .i64 xe] TE)) := (Upd.refl _ _).alloc _
 have hlt := Blk.lt hN1
 have hN2 := Blk.kept hN1 hA id
 have hX : Blk (w1.alloc (.cells #[.int .u32 xa, .int .u32 xb, .int .u64 xc, .int .u64 xd, .int .i64 xe] TE)) w1.heap.size #[.int .u32 xa, .int .u32 xb, .int .u64 xc, .int .u64 xd, .int .i64 xe] TE := Blk.new _ _ _
 have HU2 := Lib.hid (hU1.trans hA (fun _ _ h => h))
 obtain ⟨xk, hxk⟩ : ∃ xk, w1.heap.size = xk := ⟨_, rfl⟩
 rw [hxk] at hX hlt
 clear hU1 hA hN1
 generalize w1.alloc (.cells #[.int .u32 xa, .int .u32 xb, .int .u64 xc, .int .u64 xd, .int .i64 xe] TE) = w2 at *
 try simp only [hxk]
 clear hxk
 obtain ⟨c0, c1, c2, c3, c4, z0, z1, z2, z3, z4⟩ := cells5 hN2
 obtain ⟨k0, k1, k2, k3, k4, -⟩ := cells5 hX
 clear hN2 hX
 have hne : ¬ rb = xk := by omega
 go_wp2_with fail
 exact bodyPost_ret (v := .tuple #[VI (xa, xb, xc, xd, xe), .bool true]) (by simp [results, Tryz.results157, go_sem, c0, c1, c2, c3, c4]) rfl ⟨rfl, (by repeat (first | with_reducible exact HU2.out | with_reducible refine Upd.drewN ?_ _ | with_reducible refine Upd.drew ?_ | with_reducible refine Upd.setNew ?_ HSZ.out _))⟩
theorem head_we (h : Tq w b own room c []) :
 Calls Tryz.prog 157 #[VW b] w fun e w' => e = .returned (.tuple #[ZI, .bool false]) ∧ Upd Nowhere w w' := by
 have hU : Upd Nowhere w ((w.alloc (.cells #[.pointer (some ⟨b, 0, none⟩)] TW)).alloc (.cells zI TE)) := ((Upd.refl _ _).alloc _).alloc _
 have hN : Blk ((w.alloc (.cells #[.pointer (some ⟨b, 0, none⟩)] TW)).alloc (.cells zI TE)) (w.heap.size + 1) zI TE := Blk.new2 _ _ _ _
 have HL := Lib.hid (q_min_e (h.old hU))
 clear h
 go_enter Tryz.func157, Tryz.ntmps157
 go_wp2_with fail
 refine (HL.out).mono ?_
 rintro e w1 ⟨rfl, hu⟩
 have hU1 := hU.trans hu (fun _ _ h => h)
 have hN1 := hN.kept hu id
 obtain ⟨rb, hrb⟩ : ∃ rb, w.heap.size + 1 = rb := ⟨_, rfl⟩
 have HSZ : Hid (w.heap.size ≤ rb) := Lib.hid (by omega)
 rw [hrb] at hN1
 clear hU hN hu HL
 try simp only [hrb]
 clear hrb
 go_upto_region 2 with fail
 have hA : Upd Nowhere w1 (w1.alloc (.cells zI TE)) := (Upd.refl _ _).alloc _
 have hlt := Blk.lt hN1
 have hN2 := Blk.kept hN1 hA id
 have hX : Blk (w1.alloc (.cells zI TE)) w1.heap.size zI TE := Blk.new _ _ _
 have HU2 := Lib.hid (hU1.trans hA (fun _ _ h => h))
 obtain ⟨xk, hxk⟩ : ∃ xk, w1.heap.size = xk := ⟨_, rfl⟩
 rw [hxk] at hX hlt
 clear hU1 hA hN1
 generalize w1.alloc (.cells zI TE) = w2 at *
 try simp only [hxk]
 clear hxk
 obtain ⟨c0, c1, c2, c3, c4, z0, z1, z2, z3, z4⟩ := cells5 hN2
 obtain ⟨k0, k1, k2, k3, k4, -⟩ := cells5 hX
 clear hN2 hX
 have hne : ¬ rb = xk := by omega
 go_wp2_with fail
 exact bodyPost_ret (v := .tuple #[ZI, .bool false]) (by simp [results, Tryz.results157, go_sem, c0, c1, c2, c3, c4]) rfl ⟨rfl, (by repeat (first | with_reducible exact HU2.out | with_reducible refine Upd.drewN ?_ _ | with_reducible refine Upd.drew ?_ | with_reducible refine Upd.setNew ?_ HSZ.out _))⟩
theorem take_w {r : Nat} {x : It} {t : List (Nat × It)} (h : Tq w b own room c ((r, x) :: t)) :
 Calls Tryz.prog 160 #[VW b] w fun e w' => e = .returned (VI x) ∧ ∃ own', Tq w' b own' room c t ∧ Fol w own w' own' := by
 obtain ⟨xa, xb, xc, xd, xe⟩ := x
 have hU : Upd Nowhere w ((w.alloc (.cells #[.pointer (some ⟨b, 0, none⟩)] TW)).alloc (.cells zI TE)) := ((Upd.refl _ _).alloc _).alloc _
 have hN : Blk ((w.alloc (.cells #[.pointer (some ⟨b, 0, none⟩)] TW)).alloc (.cells zI TE)) (w.heap.size + 1) zI TE := Blk.new2 _ _ _ _
 have hno : ∀ k, own k → k < w.heap.size := fun k hk => h.lts hk
 have HL := Lib.hid (q_popMin (h.old hU))
 clear h
 go_enter Tryz.func160, Tryz.ntmps160
 go_wp2_with fail
 refine (HL.out).mono ?_
 rintro e w1 ⟨rfl, own1, h1, f1⟩
 have hno1 : ¬ own (w.heap.size + 1) := fun h => absurd (hno _ h) (by omega)
 have hN1 := f1.blk hN hno1
 have HN1 := Lib.hid (f1.off hno1 (Blk.lt hN))
 have F1 := Lib.hid (((Fol.refl w own).old hU).trans f1)
 have H1 := Lib.hid h1
 obtain ⟨rb, hrb⟩ : ∃ rb, w.heap.size + 1 = rb := ⟨_, rfl⟩
 have HSZ : Hid (w.heap.size ≤ rb) := Lib.hid (by omega)
 rw [hrb] at hN1 HN1
 clear hU hN h1 f1 hno1 HL
 try simp only [hrb]
 clear hrb
 go_upto_region 2 with fail
 have hA : Upd Nowhere w1 (w1.alloc (.cells #[.int .u32 xa, .int .u32 xb, .int .u64 xc, .int .u64 xd, .int .i64 xe] TE)) := (Upd.refl _ _).alloc _
 have hlt := Blk.lt hN1
 have hN2 := Blk.kept hN1 hA id
 have hX : Blk (w1.alloc (.cells #[.int .u32 xa, .int .u32 xb, .int .u64 xc, .int .u64 xd, .int .i64 xe] TE)) w1.heap.size #[.int .u32 xa, .int .u32 xb, .int .u64 xc, .int .u64 xd, .int .i64 xe] TE := Blk.new _ _ _
 have H2 := Lib.hid (H1.out.old hA)
 have F2 := Lib.hid (F1.out.old hA)
 obtain ⟨xk, hxk⟩ : ∃ xk, w1.heap.size = xk := ⟨_, rfl⟩
 rw [hxk] at hX hlt
 clear hA hN1 F1 H1
 generalize w1.alloc (.cells #[.int .u32 xa, .int .u32 xb, .int .u64 xc, .int .u64 xd, .int .i64 xe] TE) = w2 at *
 try simp only [hxk]
 clear hxk
 obtain ⟨c0, c1, c2, c3, c4, z0, z1, z2, z3, z4⟩ := cells5 hN2
 obtain ⟨k0, k1, k2, k3, k4, -⟩ := cells5 hX
 clear hN2 hX
 have hne : ¬ rb = xk := by omega
 go_wp2_with fail
 refine bodyPost_ret (v := VI (xa, xb, xc, xd, xe)) (by simp [results, Tryz.results160, go_sem, c0, c1, c2, c3, c4]) rfl ⟨rfl, H2.out.ret F2.out ?_ HN1.out HSZ.out⟩
 repeat (first | with_reducible exact Upd.refl _ _ | with_reducible refine Upd.drewN ?_ _ | with_reducible refine Upd.drew ?_ | with_reducible refine Upd.setOne ?_ _ _)
/-- What push tells, by what Squeeze told. -/
theorem push_of {c' : Nat} {m' : List (Nat × It)} {rank xa xb xc xd xe ya yb yc yd ye : Nat} {is : Bool} (hlt : ∀ k, own k → k < w.heap.size)
 (hs : ∀ u, Upd Nowhere w u → Calls Tryz.prog 163 #[.pointer (some ⟨b, 0, none⟩), .int .u64 rank, VI (xa, xb, xc, xd, xe)] u fun e w' => e = .returned (.tuple #[VI (ya, yb, yc, yd, ye), .bool is]) ∧ ∃ own', Tq w' b own' room c' m' ∧ Fol u own w' own') :
 Calls Tryz.prog 159 #[VW b, .int .u64 rank, VI (xa, xb, xc, xd, xe)] w fun e w' => e = .returned (.tuple #[VI (ya, yb, yc, yd, ye), .bool is, .bool (is && decide (ye = xe))]) ∧ ∃ own', Tq w' b own' room c' m' ∧ Fol w own w' own' := by
 have hU : Upd Nowhere w (((w.alloc (.cells #[.pointer (some ⟨b, 0, none⟩)] TW)).alloc (.cells #[.int .u32 xa, .int .u32 xb, .int .u64 xc, .int .u64 xd, .int .i64 xe] TE)).alloc (.cells zI TE)) := (((Upd.refl _ _).alloc _).alloc _).alloc _
 have hz : ((w.alloc (.cells #[.pointer (some ⟨b, 0, none⟩)] TW)).alloc (.cells #[.int .u32 xa, .int .u32 xb, .int .u64 xc, .int .u64 xd, .int .i64 xe] TE)).heap.size = w.heap.size + 2 := by rw [World.size_alloc, World.size_alloc]
 have hN : Blk (((w.alloc (.cells #[.pointer (some ⟨b, 0, none⟩)] TW)).alloc (.cells #[.int .u32 xa, .int .u32 xb, .int .u64 xc, .int .u64 xd, .int .i64 xe] TE)).alloc (.cells zI TE)) (w.heap.size + 2) zI TE := by rw [← hz]; exact Blk.new _ _ _
 have hB : Blk (((w.alloc (.cells #[.pointer (some ⟨b, 0, none⟩)] TW)).alloc (.cells #[.int .u32 xa, .int .u32 xb, .int .u64 xc, .int .u64 xd, .int .i64 xe] TE)).alloc (.cells zI TE)) (w.heap.size + 1) #[.int .u32 xa, .int .u32 xb, .int .u64 xc, .int .u64 xd, .int .i64 xe] TE := (Blk.new2 _ _ _ _).alloc _
 have hV : Blk (((w.alloc (.cells #[.pointer (some ⟨b, 0, none⟩)] TW)).alloc (.cells #[.int .u32 xa, .int .u32 xb, .int .u64 xc, .int .u64 xd, .int .i64 xe] TE)).alloc (.cells zI TE)) w.heap.size #[.pointer (some ⟨b, 0, none⟩)] TW := ((Blk.new _ _ _).alloc _).alloc _
 have v0 := hV.cellAt (i := 0) rfl
 clear hV
 have HL := Lib.hid (hs _ hU)
 obtain ⟨eq, heq⟩ : ∃ eq, decide (ye = xe) = eq := ⟨_, rfl⟩
 have d1 : ((ye : Int) == (xe : Int)) = eq := by rw [← heq]; rw [Bool.eq_iff_iff]; simp; omega
 rw [heq]
 clear hs hz heq
 have HF0 : Hid (Fol w own _ own) := Lib.hid ((Fol.refl w own).old hU)
 go_enter Tryz.func159, Tryz.ntmps159
 go_upto_region 1 with fail
 generalize (((w.alloc (.cells #[.pointer (some ⟨b, 0, none⟩)] TW)).alloc (.cells #[.int .u32 xa, .int .u32 xb, .int .u64 xc, .int .u64 xd, .int .i64 xe] TE)).alloc (.cells zI TE)) = w0 at *
 obtain ⟨rb, hrb⟩ : ∃ rb, w.heap.size + 1 + 1 = rb := ⟨_, rfl⟩
 obtain ⟨xk, hxk⟩ : ∃ xk, w.heap.size + 1 = xk := ⟨_, rfl⟩
 have HSZ : Hid (w.heap.size ≤ rb) := Lib.hid (by omega)
 have HNR : Hid (¬ own rb) := Lib.hid (fun h => absurd (hlt _ h) (by omega))
 have HNX : Hid (¬ own xk) := Lib.hid (fun h => absurd (hlt _ h) (by omega))
 have hne : ¬ rb = xk := by omega
 rw [show w.heap.size + 2 = rb from hrb] at hN
 rw [hxk] at hB
 try simp only [hrb]
 try simp only [hxk]
 obtain ⟨k0, k1, k2, k3, k4, -⟩ := cells5 hB
 clear hrb hxk hU
 go_wp2_with fail
 refine (HL.out).mono ?_
 rintro e w1 ⟨rfl, own1, h1, f1⟩
 have hN1 := f1.blk hN HNR.out
 have hB1 := f1.blk hB HNX.out
 have HN1 := Lib.hid (f1.off HNR.out (Blk.lt hN))
 have F1 := Lib.hid (HF0.out.trans f1)
 have H1 := Lib.hid h1
 clear hN hB h1 f1 k0 k1 k2 k3 k4 HL
 go_upto_region 2 with fail
 have hA : Upd Nowhere w1 (w1.alloc (.cells #[.int .u32 ya, .int .u32 yb, .int .u64 yc, .int .u64 yd, .int .i64 ye] TE)) := (Upd.refl _ _).alloc _
 have hlt1 := Blk.lt hN1
 have hN2 := Blk.kept hN1 hA id
 have hB2 := Blk.kept hB1 hA id
 have hX : Blk (w1.alloc (.cells #[.int .u32 ya, .int .u32 yb, .int .u64 yc, .int .u64 yd, .int .i64 ye] TE)) w1.heap.size #[.int .u32 ya, .int .u32 yb, .int .u64 yc, .int .u64 yd, .int .i64 ye] TE := Blk.new _ _ _
 have H2 := Lib.hid (H1.out.old hA)
 have F2 := Lib.hid (F1.out.old hA)
 obtain ⟨yk, hyk⟩ : ∃ yk, w1.heap.size = yk := ⟨_, rfl⟩
 rw [hyk] at hX hlt1
 clear hA hN1 hB1 F1 H1
 generalize w1.alloc (.cells #[.int .u32 ya, .int .u32 yb, .int .u64 yc, .int .u64 yd, .int .i64 ye] TE) = w2 at *
 try simp only [hyk]
 clear hyk
 obtain ⟨c0, c1, c2, c3, c4, z0, z1, z2, z3, z4⟩ := cells5 hN2
 obtain ⟨k0, k1, k2, k3, k4, -⟩ := cells5 hB2
 obtain ⟨j0, j1, j2, j3, j4, -⟩ := cells5 hX
 clear hN2 hB2 hX
 have hne2 : ¬ rb = yk := by omega
 cases is with
 | true =>
   go_wp2_with fail
   go_region
   all_goals
    go_wp2_with fail
    refine bodyPost_ret (v := .tuple #[VI (ya, yb, yc, yd, ye), .bool true, .bool eq]) (by simp [results, Tryz.results159, go_sem, c0, c1, c2, c3, c4]) rfl ⟨by simp, H2.out.ret F2.out ?_ HN1.out HSZ.out⟩
    repeat (first | with_reducible exact Upd.refl _ _ | with_reducible refine Upd.drewN ?_ _ | with_reducible refine Upd.drew ?_ | with_reducible refine Upd.setOne ?_ _ _)
 | false =>
   go_wp2_with fail
   go_region
   all_goals
    go_wp2_with fail
    refine bodyPost_ret (v := .tuple #[VI (ya, yb, yc, yd, ye), .bool false, .bool false]) (by simp [results, Tryz.results159, go_sem, c0, c1, c2, c3, c4]) rfl ⟨by simp, H2.out.ret F2.out ?_ HN1.out HSZ.out⟩
    repeat (first | with_reducible exact Upd.refl _ _ | with_reducible refine Upd.drewN ?_ _ | with_reducible refine Upd.drew ?_ | with_reducible refine Upd.setOne ?_ _ _)
end
theorem made_w {w : World} {c : First.Cf} (hp : c.policy = 4) (h1 : 1 ≤ c.room) (h2 : c.room ≤ 4096) :
 Calls Tryz.prog 33 #[.agg (First.VC c)] w fun e w' => ∃ b own, e = .returned (IW b) ∧ Tq w' b own c.room.toNat 0 [] ∧ (∀ k, own k → w.heap.size ≤ k) ∧ Upd Nowhere w w' := by
 obtain ⟨r, hr⟩ : ∃ r : Nat, c.room = r := ⟨c.room.toNat, by omega⟩
 have hn := Lib.hid (TwinW.q_new r (w.alloc (.cells (First.VC c) First.TCl)) (by omega) (by omega))
 have ep : (c.policy == 4) = true := by simpa using hp
 have er : c.room.toNat = r := by omega
 rw [er]
 clear h1 h2 er
 obtain ⟨x0, x1, x2, x3, x4, x5, x6, x7, x8, x9, x10, x11, x12, x13, x14, x15⟩ := c
 dsimp only at hr hp ep hn ⊢
 subst hr
 subst hp
 go_enter Tryz.func33, Tryz.ntmps33
 go_wp2_with fail
 refine (hn.out).mono ?_
 rintro e w1 ⟨rfl, ⟨own, hR, ho⟩, hu⟩
 go_wp2_with fail
 go_ret
 refine ⟨_, own, rfl, by rw [World.size_alloc] at hR; exact hR, fun k hk => ?_, ((Upd.refl _ _).alloc _).trans hu (fun _ _ h => h)⟩
 have := ho k hk
 rw [World.size_alloc] at this
 omega
end Go.Proofs.YtdddfmdcjjbegaaGreat.Worst
namespace Go.Proofs.YtdddfmdcjjbegaaGreat.Egs
open Go.RowKit Go.Proofs BigFrame
open RingW (It KI zI ZI VI TE RA)
open First (TF VF IF len_f head_f head_e push_f take_f made_f Cf VC)
open Worst (TW VW IW len_w head_w head_we take_w push_of made_w)
open TwinW (Tq sq_room sq_self sq_out)
open Cal (ins)
set_option maxHeartbeats 1000000
set_option maxRecDepth 1000000
/-- A row that has the list l (ranks, and items): first in, first out, or by its ranks. -/
def Rq (wst : Bool) (w : World) (v : Value) (own : Nat → Prop) (room c : Nat) (l : List (Nat × It)) : Prop :=
 if wst = true then ∃ b, v = IW b ∧ Tq w b own room c l
 else ∃ b g, v = IF b ∧ RA w b g room (l.map Prod.snd) ∧ ∀ k, own k ↔ RingOf b g k
section
variable {wst : Bool} {w w' : World} {v : Value} {own : Nat → Prop} {room c : Nat} {l : List (Nat × It)}
theorem Rq.lts (h : Rq wst w v own room c l) {k : Nat} (hk : own k) : k < w.heap.size := by
 unfold Rq at h
 split at h
 · obtain ⟨b, _, h2⟩ := h; exact h2.lts hk
 · obtain ⟨b, g, _, h2, h3⟩ := h; exact RingW.RingAt.lts h2 ((h3 k).1 hk)
theorem Rq.kept (h : Rq wst w v own room c l) {S : Nat → Prop} (hu : Upd S w w') (hS : ∀ k, own k → ¬ S k) : Rq wst w' v own room c l := by
 unfold Rq at h ⊢
 split
 · rename_i e; rw [if_pos e] at h; obtain ⟨b, h1, h2⟩ := h; exact ⟨b, h1, h2.kept hu hS⟩
 · rename_i e; rw [if_neg e] at h; obtain ⟨b, g, h1, h2, h3⟩ := h; exact ⟨b, g, h1, RingW.RingAt.kept h2 hu (fun k hk => hS k ((h3 k).2 hk)), h3⟩
theorem Rq.old (h : Rq wst w v own room c l) (hu : Upd Nowhere w w') : Rq wst w' v own room c l := h.kept hu (fun _ _ h => h)
/-- Such a row, among other things. -/
def rowC (wst : Bool) (v : Value) (room c : Nat) (l : List (Nat × It)) : Comp := ⟨fun w o => Rq wst w v o room c l, fun h hu hS => h.kept hu hS, fun h hk => h.lts hk⟩
end
/-- No item. -/
abbrev zeroI : It := (0, 0, 0, 0, 0)
/-- What a push leaves: the row, who goes for the new one, whether one does, whether that is the new one. -/
def psh (wst : Bool) (room : Nat) (l : List (Nat × It)) (rank : Nat) (x : It) : List (Nat × It) × It × Bool × Bool :=
 if wst = true then
  if l.length < room then (ins rank x l, zeroI, false, false)
  else match l.getLast? with
   | some (r, y) => if r ≤ rank then (l, x, true, true) else (ins rank x l.dropLast, y, true, decide (y.2.2.2.2 = x.2.2.2.2))
   | none => (l, x, true, true)
 else (l ++ [(rank, x)], zeroI, false, false)
/-- The methods of a row's value, and what they do. -/
structure Meth (wst : Bool) (v : Value) (T : TypeId) (V : Value) (fl fh fp ft : FuncId) : Prop where
 eq : v = .iface T V
 ml : ∀ u, (method 363 T V "pacemaker/egress.len").run Tryz.prog u = .ok (fl, V) u
 mh : ∀ u, (method 363 T V "pacemaker/egress.head").run Tryz.prog u = .ok (fh, V) u
 mp : ∀ u, (method 363 T V "pacemaker/egress.push").run Tryz.prog u = .ok (fp, V) u
 mt : ∀ u, (method 363 T V "pacemaker/egress.take").run Tryz.prog u = .ok (ft, V) u
 el : ∀ args u, (callFunc fl args).run Tryz.prog u = .ok (.enter fl args) u
 eh : ∀ args u, (callFunc fh args).run Tryz.prog u = .ok (.enter fh args) u
 ep : ∀ args u, (callFunc fp args).run Tryz.prog u = .ok (.enter fp args) u
 et : ∀ args u, (callFunc ft args).run Tryz.prog u = .ok (.enter ft args) u
 cl : ∀ {u own room c l}, Rq wst u v own room c l → Calls Tryz.prog fl #[V] u fun e w' => e = .returned (.int .i64 (l.length : Nat)) ∧ Upd Nowhere u w'
 ch : ∀ {u own room c r x l}, Rq wst u v own room c ((r, x) :: l) → Calls Tryz.prog fh #[V] u fun e w' => e = .returned (.tuple #[VI x, .bool true]) ∧ Upd Nowhere u w'
 ce : ∀ {u own room c}, Rq wst u v own room c [] → Calls Tryz.prog fh #[V] u fun e w' => e = .returned (.tuple #[ZI, .bool false]) ∧ Upd Nowhere u w'
 ct : ∀ {u own room c r x l}, Rq wst u v own room c ((r, x) :: l) → Calls Tryz.prog ft #[V] u fun e w' => e = .returned (VI x) ∧ ∃ own', Rq wst w' v own' room c l ∧ Fol u own w' own'
 cp : ∀ {u own room c l}, Rq wst u v own room c l → (wst = false → l.length < room) → c < 18446744073709551615 → ∀ rank x, (∀ a ∈ l, a.2.2.2.2.2 ≠ x.2.2.2.2) → Calls Tryz.prog fp #[V, .int .u64 (rank : Nat), VI x] u fun e w' =>
  e = .returned (.tuple #[VI (psh wst room l rank x).2.1, .bool (psh wst room l rank x).2.2.1, .bool (psh wst room l rank x).2.2.2]) ∧ ∃ own', Rq wst w' v own' room (if (psh wst room l rank x).2.2.2 = true then c else c + 1) (psh wst room l rank x).1 ∧ Fol u own w' own'
theorem ring_fol {w w' : World} {b room : Nat} {g : Option Nat} {own : Nat → Prop} {xs : List It} (ho : ∀ k, own k ↔ RingOf b g k) (h : RingW.RingTurned KI 5 RingW.TR TE w w' b g room xs) :
 ∃ g', RA w' b g' room xs ∧ Fol w own w' (RingOf b g') := by
 obtain ⟨g', h1, h2, h3⟩ := h
 refine ⟨g', h1, fun k hk => ?_, h3.mono fun k _ hk => (ho k).2 hk⟩
 rcases hk with rfl | hk
 · exact .inl ((ho _).2 (.inl rfl))
 · exact (h2 k hk).imp (fun h => (ho k).2 (.inr h)) id
theorem Rq_f {w : World} {v : Value} {own : Nat → Prop} {room c : Nat} {l : List (Nat × It)} : Rq false w v own room c l ↔ ∃ b g, v = IF b ∧ RA w b g room (l.map Prod.snd) ∧ ∀ k, own k ↔ RingOf b g k := by
 unfold Rq; rw [if_neg (by simp)]
theorem Rq_w {w : World} {v : Value} {own : Nat → Prop} {room c : Nat} {l : List (Nat × It)} : Rq true w v own room c l ↔ ∃ b, v = IW b ∧ Tq w b own room c l := by
 unfold Rq; rw [if_pos rfl]
theorem IF_inj {b b' : Nat} (h : IF b = IF b') : b = b' := by
 injection h with _ h
 injection h with h
 have h := congrArg (fun a : Array Value => a[0]?) h
 simp only [List.getElem?_toArray, List.getElem?_cons_zero] at h
 injection h with h
 injection h with h
 injection h with h
 injection h
theorem IW_inj {b b' : Nat} (h : IW b = IW b') : b = b' := by
 injection h with _ h
 injection h with h
 have h := congrArg (fun a : Array Value => a[0]?) h
 simp only [List.getElem?_toArray, List.getElem?_cons_zero] at h
 injection h with h
 injection h with h
 injection h with h
 injection h
theorem first_at {w : World} {b : Nat} {own : Nat → Prop} {room c : Nat} {l : List (Nat × It)} (h : Rq false w (IF b) own room c l) : ∃ g, RA w b g room (l.map Prod.snd) ∧ ∀ k, own k ↔ RingOf b g k := by
 obtain ⟨b', g, e, h2, h3⟩ := Rq_f.1 h
 obtain rfl := IF_inj e
 exact ⟨g, h2, h3⟩
theorem worst_at {w : World} {b : Nat} {own : Nat → Prop} {room c : Nat} {l : List (Nat × It)} (h : Rq true w (IW b) own room c l) : Tq w b own room c l := by
 obtain ⟨b', e, h2⟩ := Rq_w.1 h
 obtain rfl := IW_inj e
 exact h2
theorem meth_first (b : Nat) : Meth false (IF b) TF (VF b) 185 184 186 187 where
 eq := rfl
 ml := fun _ => by kernel_rfl
 mh := fun _ => by kernel_rfl
 mp := fun _ => by kernel_rfl
 mt := fun _ => by kernel_rfl
 el := fun _ _ => by kernel_rfl
 eh := fun _ _ => by kernel_rfl
 ep := fun _ _ => by kernel_rfl
 et := fun _ _ => by kernel_rfl
 cl := fun {u own room c l} h => by
  obtain ⟨g, h2, _⟩ := first_at h
  have := len_f h2
  rw [List.length_map] at this
  exact this
 ch := fun {u own room c r x l} h => by
  obtain ⟨g, h2, _⟩ := first_at h
  exact head_f h2
 ce := fun {u own room c} h => by
  obtain ⟨g, h2, _⟩ := first_at h
  exact head_e h2
 ct := fun {u own room c r x l} h => by
  obtain ⟨g, h2, h3⟩ := first_at h
  refine (take_f h2).mono ?_
  rintro e w' ⟨rfl, ht⟩
  obtain ⟨g', h4, h5⟩ := ring_fol h3 ht
  exact ⟨rfl, _, Rq_f.2 ⟨b, g', rfl, h4, fun _ => Iff.rfl⟩, h5⟩
 cp := fun {u own room c l} h hr _ rank x _ => by
  obtain ⟨g, h2, h3⟩ := first_at h
  refine (push_f h2 (by rw [List.length_map]; exact hr rfl) rank x.1 x.2.1 x.2.2.1 x.2.2.2.1 x.2.2.2.2).mono ?_
  rintro e w' ⟨rfl, ht⟩
  obtain ⟨g', h4, h5⟩ := ring_fol h3 ht
  exact ⟨rfl, _, Rq_f.2 ⟨b, g', rfl, by rw [show (psh false room l rank x).1 = l ++ [(rank, x)] from rfl, List.map_append]; exact h4, fun _ => Iff.rfl⟩, h5⟩
theorem meth_worst (b : Nat) : Meth true (IW b) TW (VW b) 158 157 159 160 where
 eq := rfl
 ml := fun _ => by kernel_rfl
 mh := fun _ => by kernel_rfl
 mp := fun _ => by kernel_rfl
 mt := fun _ => by kernel_rfl
 el := fun _ _ => by kernel_rfl
 eh := fun _ _ => by kernel_rfl
 ep := fun _ _ => by kernel_rfl
 et := fun _ _ => by kernel_rfl
 cl := fun {u own room c l} h => len_w (worst_at h)
 ch := fun {u own room c r x l} h => head_w (worst_at h)
 ce := fun {u own room c} h => head_we (worst_at h)
 ct := fun {u own room c r x l} h => by
  refine (take_w (worst_at h)).mono ?_
  rintro e w' ⟨rfl, own', h1, h2⟩
  exact ⟨rfl, own', Rq_w.2 ⟨b, rfl, h1⟩, h2⟩
 cp := fun {u own room c l} h _ hc rank x hx => by
  have hT := worst_at h
  obtain ⟨hle, hr1, _⟩ := hT.le
  obtain ⟨x0, x1, x2, x3, x4⟩ := x
  by_cases hl : l.length < room
  · have e : psh true room l rank (x0, x1, x2, x3, x4) = (ins rank (x0, x1, x2, x3, x4) l, zeroI, false, false) := by unfold psh; rw [if_pos rfl, if_pos hl]
    rw [e]
    refine (push_of (b := b) (room := room) (rank := rank) (xa := x0) (xb := x1) (xc := x2) (xd := x3) (xe := x4) (ya := 0) (yb := 0) (yc := 0) (yd := 0) (ye := 0) (is := false) (own := own) (c' := c + 1) (m' := ins rank (x0, x1, x2, x3, x4) l) (fun k hk => hT.lts hk) (fun u' hu => ?_)).mono ?_
    · exact sq_room (hT.old hu) hl hc rank (x0, x1, x2, x3, x4)
    · rintro e w' ⟨rfl, own', h1, h2⟩
      exact ⟨rfl, own', Rq_w.2 ⟨b, rfl, h1⟩, h2⟩
  · obtain ⟨t, ⟨r, y⟩, rfl⟩ : ∃ t a, l = t ++ [a] := by
     rcases List.eq_nil_or_concat l with rfl | ⟨t, a, rfl⟩
     · simp at hl; omega
     · exact ⟨t, a, List.concat_eq_append ..⟩
    obtain ⟨y0, y1, y2, y3, y4⟩ := y
    have hlen : t.length + 1 = room := by simp at hl hle; omega
    by_cases hr : r ≤ rank
    · have e : psh true room (t ++ [(r, (y0, y1, y2, y3, y4))]) rank (x0, x1, x2, x3, x4) = (t ++ [(r, (y0, y1, y2, y3, y4))], (x0, x1, x2, x3, x4), true, true) := by
       unfold psh; rw [if_pos rfl, if_neg hl]; simp [hr]
      rw [e]
      refine (push_of (b := b) (room := room) (rank := rank) (xa := x0) (xb := x1) (xc := x2) (xd := x3) (xe := x4) (ya := x0) (yb := x1) (yc := x2) (yd := x3) (ye := x4) (is := true) (own := own) (c' := c) (m' := t ++ [(r, (y0, y1, y2, y3, y4))]) (fun k hk => hT.lts hk) (fun u' hu => ?_)).mono ?_
      · refine (sq_self (hT.old hu) hlen rank hr (x0, x1, x2, x3, x4)).mono ?_
        rintro e w' ⟨rfl, h1⟩
        exact ⟨rfl, own, (hT.old hu).old h1, (Fol.refl _ _).old h1⟩
      · rintro e w' ⟨rfl, own', h1, h2⟩
        exact ⟨by simp, own', Rq_w.2 ⟨b, rfl, h1⟩, h2⟩
    · have hne : ¬ y4 = x4 := hx (r, (y0, y1, y2, y3, y4)) (by simp)
      have e : psh true room (t ++ [(r, (y0, y1, y2, y3, y4))]) rank (x0, x1, x2, x3, x4) = (ins rank (x0, x1, x2, x3, x4) t, (y0, y1, y2, y3, y4), true, false) := by
       unfold psh; rw [if_pos rfl, if_neg hl]; simp [hr, hne]
      rw [e]
      refine (push_of (b := b) (room := room) (rank := rank) (xa := x0) (xb := x1) (xc := x2) (xd := x3) (xe := x4) (ya := y0) (yb := y1) (yc := y2) (yd := y3) (ye := y4) (is := true) (own := own) (c' := c + 1) (m' := ins rank (x0, x1, x2, x3, x4) t) (fun k hk => hT.lts hk) (fun u' hu => ?_)).mono ?_
      · exact sq_out (hT.old hu) hlen hc rank (by omega) (x0, x1, x2, x3, x4)
      · rintro e w' ⟨rfl, own', h1, h2⟩
        exact ⟨by simp [hne], own', Rq_w.2 ⟨b, rfl, h1⟩, h2⟩
/-- Whichever row it is, it has its methods. -/
theorem Rq.meth {wst : Bool} {w : World} {v : Value} {own : Nat → Prop} {room c : Nat} {l : List (Nat × It)} (h : Rq wst w v own room c l) : ∃ T V fl fh fp ft, Meth wst v T V fl fh fp ft := by
 cases wst with
 | false => obtain ⟨b, g, rfl, _⟩ := Rq_f.1 h; exact ⟨_, _, _, _, _, _, meth_first b⟩
 | true => obtain ⟨b, rfl, _⟩ := Rq_w.1 h; exact ⟨_, _, _, _, _, _, meth_worst b⟩
/-- A row, made. -/
theorem made_any {w : World} {c : Cf} {wst : Bool} (hp : decide (c.policy = 4) = wst) (h1 : 1 ≤ c.room) (h2 : c.room ≤ 4096) :
 Calls Tryz.prog 33 #[.agg (VC c)] w fun e w' => ∃ v own, e = .returned v ∧ Rq wst w' v own c.room.toNat 0 [] ∧ (∀ k, own k → w.heap.size ≤ k) ∧ Upd Nowhere w w' := by
 by_cases h4 : c.policy = 4
 · obtain rfl : true = wst := by rw [← hp]; simp [h4]
   refine (made_w h4 h1 h2).mono ?_
   rintro e w' ⟨b, own, rfl, h5, h6, h7⟩
   exact ⟨_, own, rfl, Rq_w.2 ⟨b, rfl, h5⟩, h6, h7⟩
 · obtain rfl : false = wst := by rw [← hp]; simp [h4]
   refine (made_f h4 h1 (by omega)).mono ?_
   rintro e w' ⟨b, rfl, h5, h6, h7⟩
   refine ⟨_, _, rfl, Rq_f.2 ⟨b, none, rfl, h5, fun _ => Iff.rfl⟩, fun k hk => ?_, h7⟩
   rcases hk with rfl | hk
   · exact h6
   · cases hk
end Go.Proofs.YtdddfmdcjjbegaaGreat.Egs

