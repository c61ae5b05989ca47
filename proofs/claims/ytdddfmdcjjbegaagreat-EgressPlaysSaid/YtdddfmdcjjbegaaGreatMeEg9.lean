/- Eg9, one behind the other. -/
import Derived.Test.YtdddfmdcjjbegaaGreatMeEg8
namespace Go.Proofs.YtdddfmdcjjbegaaGreat.Egs
open Go.RowKit Go.Proofs BigFrame
open RingW (It KI zI ZI VI TE)
open First (Cf VC)
set_option maxHeartbeats 4000000
set_option maxRecDepth 1000000
set_option linter.unusedSimpArgs false
abbrev TCn : TypeId := 63
abbrev VN (a b c : Nat) : Value := .agg #[.int .i64 (a : Nat), .int .i64 (b : Nat), .int .i64 (c : Nat)]
abbrev zN : Array Value := #[.int .i64 0, .int .i64 0, .int .i64 0]
section
variable {w : World} {own : Nat → Prop} {e : Nat} {E : Eg}
/-- Whom class() tells. -/
theorem class_of (h : EgP w own e E) (hpl : ∀ x ∈ E.pl, x.1 < 256 ∧ x.2 < 18446744073709551616) {i k : Nat} {cf : Cf} {s : Cs} (hx : E.q[i]? = some (k, cf, s)) :
 ∀ u, Upd Nowhere w u → Calls Tryz.prog 36 #[.pointer (some ⟨e, 0, none⟩), .int .i64 i] u fun x w' => x = .returned (.pointer (some ⟨k, 0, none⟩)) ∧ u = w' := fun u hu => by
 obtain ⟨_, ac, cc, ap, cp, hB, hK, -⟩ := h.blk hpl
 obtain ⟨g, rfl, hg⟩ := hK i _ hx
 have hi : i < E.q.length := by
  rcases Nat.lt_or_ge i E.q.length with h' | h'
  · exact h'
  · rw [List.getElem?_eq_none h'] at hx; cases hx
 have c0 : w.cell? ⟨e, 0, none⟩ = some (.slice (some ⟨g, 0, none⟩) E.q.length cc) := hB.cellAt rfl
 exact class_at (cell_old hu c0) hi (cell_old hu hg)
theorem class_out (h : EgP w own e E) (hpl : ∀ x ∈ E.pl, x.1 < 256 ∧ x.2 < 18446744073709551616) {i : Int} (hi : i < 0 ∨ (E.q.length : Int) ≤ i) :
 ∀ u, Upd Nowhere w u → Calls Tryz.prog 36 #[.pointer (some ⟨e, 0, none⟩), .int .i64 i] u fun x w' => x = .returned (.pointer none) ∧ u = w' := fun u hu => by
 obtain ⟨_, ac, cc, ap, cp, hB, hK, -⟩ := h.blk hpl
 have c0 : w.cell? ⟨e, 0, none⟩ = some (.slice ac E.q.length cc) := hB.cellAt rfl
 exact class_no (cell_old hu c0) hi
end
/-- Whatever has no class: nothing. -/
theorem head_none {w : World} {p : Value} {i : Int} (HC : ∀ u, Upd Nowhere w u → Hid (Calls Tryz.prog 36 #[p, .int .i64 i] u fun x w' => x = .returned (.pointer none) ∧ u = w')) :
 Calls Tryz.prog 25 #[p, .int .i64 i] w fun x w' => x = .returned (.tuple #[VP 0 0 0, .bool false]) ∧ Upd Nowhere w w' := by
 have hU : Upd Nowhere w (w.alloc (.cells zP TP)) := (Upd.refl _ _).alloc _
 have hR : Blk (w.alloc (.cells zP TP)) w.heap.size zP TP := Blk.new _ _ _
 have HC0 := HC _ hU
 clear HC
 go_enter Tryz.func25, Tryz.ntmps25
 go_upto_region 1 with fail
 generalize w.alloc (.cells zP TP) = w1 at *
 obtain ⟨c0, c1, c2, z0, z1, z2⟩ := cells3 hR
 clear hR
 go_wp2_with fail
 refine (HC0.out).mono ?_
 rintro x w' ⟨rfl, rfl⟩
 go_wp2_with fail
 exact bodyPost_ret (v := .tuple #[VP 0 0 0, .bool false]) (by simp [results, Tryz.results25, go_sem, c0, c1, c2]) rfl ⟨rfl, (by repeat (first | with_reducible exact hU | with_reducible refine Upd.drewN ?_ _ | with_reducible refine Upd.drew ?_ | with_reducible refine Upd.setNew ?_ (Nat.le_refl _) _))⟩
theorem waits_none {w : World} {p : Value} {i : Int} (HC : ∀ u, Upd Nowhere w u → Hid (Calls Tryz.prog 36 #[p, .int .i64 i] u fun x w' => x = .returned (.pointer none) ∧ u = w')) :
 Calls Tryz.prog 23 #[p, .int .i64 i] w fun x w' => x = .returned (.tuple #[.int .i64 0, .int .u64 0]) ∧ Upd Nowhere w w' := by
 have HC0 := HC _ (Upd.refl _ _)
 clear HC
 go_enter Tryz.func23, Tryz.ntmps23
 go_wp2_with fail
 refine (HC0.out).mono ?_
 rintro x w' ⟨rfl, rfl⟩
 go_wp2_with fail
 go_ret2
 exact ⟨rfl, Upd.refl _ _⟩
theorem counts_none {w : World} {p : Value} {i : Int} (HC : ∀ u, Upd Nowhere w u → Hid (Calls Tryz.prog 36 #[p, .int .i64 i] u fun x w' => x = .returned (.pointer none) ∧ u = w')) :
 Calls Tryz.prog 24 #[p, .int .i64 i] w fun x w' => x = .returned (VN 0 0 0) ∧ Upd Nowhere w w' := by
 have hU : Upd Nowhere w (w.alloc (.cells zN TCn)) := (Upd.refl _ _).alloc _
 have hR : Blk (w.alloc (.cells zN TCn)) w.heap.size zN TCn := Blk.new _ _ _
 have HC0 := HC _ hU
 clear HC
 go_enter Tryz.func24, Tryz.ntmps24
 go_upto_region 1 with fail
 generalize w.alloc (.cells zN TCn) = w1 at *
 obtain ⟨c0, c1, c2, z0, z1, z2⟩ := cells3 hR
 clear hR
 go_wp2_with fail
 refine (HC0.out).mono ?_
 rintro x w' ⟨rfl, rfl⟩
 go_wp2_with fail
 exact bodyPost_ret (v := VN 0 0 0) (by simp [results, Tryz.results24, go_sem, c0, c1, c2]) rfl ⟨rfl, (by repeat (first | with_reducible exact hU | with_reducible refine Upd.drewN ?_ _ | with_reducible refine Upd.drew ?_ | with_reducible refine Upd.setNew ?_ (Nat.le_refl _) _))⟩
theorem credit_none {w : World} {p : Value} {i : Int} (HC : ∀ u, Upd Nowhere w u → Hid (Calls Tryz.prog 36 #[p, .int .i64 i] u fun x w' => x = .returned (.pointer none) ∧ u = w')) :
 Calls Tryz.prog 22 #[p, .int .i64 i] w fun x w' => x = .returned (.int .i64 0) ∧ Upd Nowhere w w' := by
 have HC0 := HC _ (Upd.refl _ _)
 clear HC
 go_enter Tryz.func22, Tryz.ntmps22
 go_wp2_with fail
 refine (HC0.out).mono ?_
 rintro x w' ⟨rfl, rfl⟩
 go_wp2_with fail
 go_ret
 exact ⟨rfl, Upd.refl _ _⟩
section
variable {w : World} {own : Nat → Prop} {e : Nat} {E : Eg} {i k : Nat} {cf : Cf} {s : Cs}
theorem head_at (h : EgP w own e E) (hpl : ∀ x ∈ E.pl, x.1 < 256 ∧ x.2 < 18446744073709551616) (hx : E.q[i]? = some (k, cf, s)) :
 Calls Tryz.prog 25 #[.pointer (some ⟨e, 0, none⟩), .int .i64 i] w fun x w' => x = .returned (.tuple #[VP (hdI s.l).1 (hdI s.l).2.1 (hdI s.l).2.2.1, .bool (!s.l.isEmpty)]) ∧ Upd Nowhere w w' := by
 have hU : Upd Nowhere w (w.alloc (.cells zP TP)) := (Upd.refl _ _).alloc _
 have hR : Blk (w.alloc (.cells zP TP)) w.heap.size zP TP := Blk.new _ _ _
 have HC0 := Lib.hid (class_of h hpl hx _ hU)
 obtain ⟨T, V, fh, c16, hmh, heh, HH⟩ := h.headOf hx
 have c16' := cell_old hU c16
 have HH0 := HH _ hU
 obtain ⟨⟨y0, y1, y2, y3, y4⟩, hy⟩ : ∃ y : It, hdI s.l = y := ⟨_, rfl⟩
 obtain ⟨b, hb⟩ : ∃ b, (!s.l.isEmpty) = b := ⟨_, rfl⟩
 rw [hy, hb] at HH0
 rw [hy, hb]
 obtain ⟨RB, hRB⟩ : ∃ RB, w.heap.size = RB := ⟨_, rfl⟩
 have HRB := Lib.hid hRB
 rw [hRB] at hR
 clear h hx HH c16 hy hb hRB
 go_enter Tryz.func25, Tryz.ntmps25
 go_upto_region 1 with fail
 generalize w.alloc (.cells zP TP) = w1 at *
 try simp only [HRB.out]
 go_wp2_with fail
 refine (HC0.out).mono ?_
 rintro x w' ⟨rfl, rfl⟩
 go_wp2_with fail
 refine (HH0.out).mono ?_
 rintro x w2 ⟨rfl, u2⟩
 have hR2 := Blk.kept hR u2 id
 have hU2 := hU.trans u2 (fun _ _ h => h)
 clear hR hU u2 c16' HC0 HH0
 go_upto_region 5 with fail
 have hA : Upd Nowhere w2 (w2.alloc (.cells #[.int .u32 y0, .int .u32 y1, .int .u64 y2, .int .u64 y3, .int .i64 y4] TE)) := (Upd.refl _ _).alloc _
 have hlt := Blk.lt hR2
 have hR3 := Blk.kept hR2 hA id
 have hX : Blk (w2.alloc (.cells #[.int .u32 y0, .int .u32 y1, .int .u64 y2, .int .u64 y3, .int .i64 y4] TE)) w2.heap.size #[.int .u32 y0, .int .u32 y1, .int .u64 y2, .int .u64 y3, .int .i64 y4] TE := Blk.new _ _ _
 have HU3 := Lib.hid (hU2.trans hA (fun _ _ h => h))
 obtain ⟨xk, hxk⟩ : ∃ xk, w2.heap.size = xk := ⟨_, rfl⟩
 rw [hxk] at hX hlt
 clear hU2 hA hR2
 generalize w2.alloc (.cells #[.int .u32 y0, .int .u32 y1, .int .u64 y2, .int .u64 y3, .int .i64 y4] TE) = w3 at *
 try simp only [hxk]
 clear hxk
 obtain ⟨c0, c1, c2, z0, z1, z2⟩ := cells3 hR3
 obtain ⟨k0, k1, k2, -⟩ := cells5 hX
 clear hR3 hX
 have hne : ¬ RB = xk := by omega
 go_wp2_with fail
 exact bodyPost_ret (v := .tuple #[VP y0 y1 y2, .bool b]) (by simp [results, Tryz.results25, go_sem, c0, c1, c2]) rfl ⟨rfl, (by repeat (first | with_reducible exact HU3.out | with_reducible refine Upd.drewN ?_ _ | with_reducible refine Upd.drew ?_ | with_reducible refine Upd.setNew ?_ (by rw [HRB.out]; exact Nat.le_refl _) _))⟩
theorem waits_at (h : EgP w own e E) (hpl : ∀ x ∈ E.pl, x.1 < 256 ∧ x.2 < 18446744073709551616) (hx : E.q[i]? = some (k, cf, s)) :
 Calls Tryz.prog 23 #[.pointer (some ⟨e, 0, none⟩), .int .i64 i] w fun x w' => x = .returned (.tuple #[.int .i64 (s.l.length : Nat), .int .u64 (s.bys : Nat)]) ∧ Upd Nowhere w w' := by
 have HC0 := Lib.hid (class_of h hpl hx _ (Upd.refl _ _))
 obtain ⟨T, V, fl, c16, hml, hel, HL⟩ := h.lenOf hx
 obtain ⟨_, _, v, gv, hB⟩ := h.cells hx
 have c17 := kc17 hB
 obtain ⟨m, hm⟩ : ∃ m, s.l.length = m := ⟨_, rfl⟩
 rw [hm] at HL ⊢
 have HF : ∀ u, Upd Nowhere w u → u.cell? ⟨k, 16, none⟩ = some (.iface T V) ∧ u.cell? ⟨k, 17, none⟩ = some (.int .u64 s.bys) := fun u hu => ⟨cell_old hu c16, cell_old hu c17⟩
 clear h hx hB hm
 go_enter Tryz.func23, Tryz.ntmps23
 go_wp2_with fail
 refine (HC0.out).mono ?_
 rintro x w' ⟨rfl, rfl⟩
 go_wp2_with fail
 go_region_held3 (fun w' => Upd Nowhere w w' ∧ w'.cell? ⟨k, 16, none⟩ = some (.iface T V) ∧ w'.cell? ⟨k, 17, none⟩ = some (.int .u64 s.bys)) (first | exact gk_start HF ((Upd.refl _ _).drew) | assumption) (first
  | (refine (gk_call HF (HL _ (by have h9 := ‹Upd Nowhere w _ ∧ _›; exact h9.1)).out (by assumption)).mono ?_; rintro e w' ⟨rfl, _, _⟩))
 rename_i hSF
 obtain ⟨hu, -, -⟩ := hSF
 go_wp2_with fail
 go_ret2
 exact ⟨rfl, hu⟩
theorem counts_at (h : EgP w own e E) (hpl : ∀ x ∈ E.pl, x.1 < 256 ∧ x.2 < 18446744073709551616) (hx : E.q[i]? = some (k, cf, s)) :
 Calls Tryz.prog 24 #[.pointer (some ⟨e, 0, none⟩), .int .i64 i] w fun x w' => x = .returned (VN s.inn s.left s.drp) ∧ Upd Nowhere w w' := by
 have hU : Upd Nowhere w (w.alloc (.cells zN TCn)) := (Upd.refl _ _).alloc _
 have hR : Blk (w.alloc (.cells zN TCn)) w.heap.size zN TCn := Blk.new _ _ _
 have HC0 := Lib.hid (class_of h hpl hx _ hU)
 obtain ⟨_, _, v, gv, hB⟩ := h.cells hx
 have c30 := cell_old hU (kc30 hB)
 have c31 := cell_old hU (kc31 hB)
 have c32 := cell_old hU (kc32 hB)
 have hlt : k < w.heap.size := Blk.lt hB
 have hne : ¬ w.heap.size = k := by omega
 clear h hx hB
 go_enter Tryz.func24, Tryz.ntmps24
 go_upto_region 1 with fail
 generalize w.alloc (.cells zN TCn) = w1 at *
 obtain ⟨c0, c1, c2, z0, z1, z2⟩ := cells3 hR
 clear hR
 go_wp2_with fail
 refine (HC0.out).mono ?_
 rintro x w' ⟨rfl, rfl⟩
 go_wp2_with fail
 exact bodyPost_ret (v := VN s.inn s.left s.drp) (by simp [results, Tryz.results24, go_sem, c0, c1, c2]) rfl ⟨rfl, (by repeat (first | with_reducible exact hU | with_reducible refine Upd.drewN ?_ _ | with_reducible refine Upd.drew ?_ | with_reducible refine Upd.setNew ?_ (Nat.le_refl _) _))⟩
theorem credit_at (h : EgP w own e E) (hpl : ∀ x ∈ E.pl, x.1 < 256 ∧ x.2 < 18446744073709551616) (hx : E.q[i]? = some (k, cf, s)) :
 Calls Tryz.prog 22 #[.pointer (some ⟨e, 0, none⟩), .int .i64 i] w fun x w' => x = .returned (.int .i64 s.hv) ∧ Upd Nowhere w w' := by
 have HC0 := Lib.hid (class_of h hpl hx _ (Upd.refl _ _))
 obtain ⟨_, _, v, gv, hB⟩ := h.cells hx
 have c29 := kc29 hB
 clear h hx hB
 go_enter Tryz.func22, Tryz.ntmps22
 go_wp2_with fail
 refine (HC0.out).mono ?_
 rintro x w' ⟨rfl, rfl⟩
 go_wp2_with fail
 go_ret
 exact ⟨rfl, Upd.refl _ _⟩
theorem now_at (h : EgP w own e E) (hpl : ∀ x ∈ E.pl, x.1 < 256 ∧ x.2 < 18446744073709551616) :
 Calls Tryz.prog 17 #[.pointer (some ⟨e, 0, none⟩)] w fun x w' => x = .returned (.int .u64 (E.now : Nat)) ∧ w = w' := by
 obtain ⟨_, ac, cc, ap, cp, hB, -⟩ := h.blk hpl
 have c3 : w.cell? ⟨e, 3, none⟩ = some (.int .u64 (E.now : Nat)) := hB.cellAt rfl
 clear h hB
 go_enter Tryz.func17, Tryz.ntmps17
 go_wp2_with fail
 go_ret
 exact ⟨rfl, rfl⟩
theorem busy_at (h : EgP w own e E) (hpl : ∀ x ∈ E.pl, x.1 < 256 ∧ x.2 < 18446744073709551616) :
 Calls Tryz.prog 20 #[.pointer (some ⟨e, 0, none⟩)] w fun x w' => x = .returned (.int .u64 (E.busy : Nat)) ∧ w = w' := by
 obtain ⟨_, ac, cc, ap, cp, hB, -⟩ := h.blk hpl
 have c4 : w.cell? ⟨e, 4, none⟩ = some (.int .u64 (E.busy : Nat)) := hB.cellAt rfl
 clear h hB
 go_enter Tryz.func20, Tryz.ntmps20
 go_wp2_with fail
 go_ret
 exact ⟨rfl, rfl⟩
end
end Go.Proofs.YtdddfmdcjjbegaaGreat.Egs

