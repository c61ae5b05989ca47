/- wheel's law: lives; one that nobody made. -/
import Derived.Test.YtjbaibnmbeabnaaDoorWheelNext
import Derived.Test.YtjbaibnmbeabnaaDoorWheelDue
import Derived.Test.YtjbaibnmbeabnaaDoorRef06
namespace Go.Proofs.YtjbaibnmbeabnaaDoor.Wheel
open Go.RowKit Go.Proofs BigFrame Heap
open Ref06 (ints)
set_option maxHeartbeats 4000000
set_option maxRecDepth 1000000
/-- No block is barred. -/
abbrev NoB : Nat → Prop := fun _ => False
theorem nowhere_step {A : Nat → Prop} {w0 w w' : World} (h : Upd Nowhere w0 w) (hu : Upd (Free A w0) w w') : Upd Nowhere w0 w' := h.trans hu (fun _ hk hs => absurd hs.1 (Nat.not_le.2 hk))
theorem outs_ints (l : List En) : outs l = ints (l.map fun e => e.2.2) := by unfold outs ints; rw [List.map_map]; rfl
theorem out_row {w : World} {B n : Nat} {v : Value} {l : List En} (h : w.ownsRow B TI 1 v n (outs l)) : RowAt w v (ints (l.map fun e => e.2.2)) := by rw [← outs_ints]; exact ownsRow_rowAt h
/-- A row that was just written. -/
theorem row_new (w : World) (c : Array Value) (t : TypeId) (cap : Nat) : RowAt (w.alloc (.cells c t)) (.slice (some ⟨w.heap.size, 0, none⟩) c.toList.length cap) c.toList :=
  ⟨some ⟨w.heap.size, 0, none⟩, cap, rfl, (fun h => by cases h), fun b hb j u hu => by
    obtain rfl := Option.some.inj hb
    exact ⟨rfl, by rw [Nat.zero_add]; exact new_cells w c t j u hu⟩⟩
theorem lives (w : World) (hT : Tab w) (hG : Tryd.tz64_ren.g 1 < w.heap.size) : Calls Tryd.prog 19 #[] w fun e w' => e = .returned (.bool true) ∧ Upd Nowhere w w' := by
  have HT := fun u (hu : Upd Nowhere w u) => Lib.hid (hT.old hu id)
  have hNo : ∀ (u : World) k, NoB k → k < u.heap.size := fun _ _ h => h.elim
  go_enter Tryd.func19, Tryd.ntmps19
  go_wp2_with fail
  refine (hasW_new 9 (by omega) (by omega) w).mono ?_
  rintro e w1 ⟨rfl, h1, u1⟩
  have H1 := Lib.hid h1
  have U1 := Lib.hid u1
  obtain ⟨b, hb⟩ : ∃ b, w.heap.size = b := ⟨_, rfl⟩
  rw [hb] at H1 ⊢
  clear h1 u1
  go_wp2_with fail
  refine (add_room H1.out (by decide) (hNo _) 70 (by omega) 1 (by omega)).mono ?_
  rintro e w2 ⟨rfl, h2, u2⟩
  have H2 : Hid (HasW NoB w w2 b 0 1 9 [(70, 0, 1)]) := Lib.hid h2
  have U2 := Lib.hid (nowhere_step U1.out u2)
  clear h2 u2
  go_wp2_with fail
  refine (add_room H2.out (by decide) (hNo _) 5 (by omega) 2 (by omega)).mono ?_
  rintro e w3 ⟨rfl, h3, u3⟩
  have H3 : Hid (HasW NoB w w3 b 0 2 9 [(5, 1, 2), (70, 0, 1)]) := Lib.hid h3
  have U3 := Lib.hid (nowhere_step U2.out u3)
  clear h3 u3
  go_wp2_with fail
  refine (add_room H3.out (by decide) (hNo _) 5 (by omega) 3 (by omega)).mono ?_
  rintro e w4 ⟨rfl, h4, u4⟩
  have H4 : Hid (HasW NoB w w4 b 0 3 9 [(5, 1, 2), (5, 2, 3), (70, 0, 1)]) := Lib.hid h4
  have U4 := Lib.hid (nowhere_step U3.out u4)
  clear h4 u4
  go_wp2_with fail
  refine (due_any H4.out (hNo _) (HT _ U4.out).out hG 4 (by omega)).mono ?_
  rintro e w5 ⟨v5, rfl, o5, h5, u5⟩
  have O5 : w5.ownsRow w4.heap.size TI 1 v5 0 [] := o5
  obtain ⟨ad5, c5, rfl⟩ : ∃ ad c, v5 = .slice ad 0 c := by
    rcases O5.2 with ⟨rfl, _⟩ | ⟨g, c, cur, rfl, _⟩
    · exact ⟨none, 0, rfl⟩
    · exact ⟨_, c, rfl⟩
  have H5 : Hid (HasW NoB w w5 b 4 3 9 [(5, 1, 2), (5, 2, 3), (70, 0, 1)]) := Lib.hid h5
  have U5 := Lib.hid (nowhere_step U4.out u5)
  clear h5 u5 o5 O5
  go_wp2_with fail
  refine (due_any H5.out (hNo _) (HT _ U5.out).out hG 80 (by omega)).mono ?_
  rintro e w6 ⟨v6, rfl, o6, h6, u6⟩
  have R6 : Hid (RowAt w6 v6 (ints [2, 3, 1])) := Lib.hid (out_row o6)
  have H6 : Hid (HasW NoB w w6 b 80 3 9 []) := Lib.hid h6
  have U6 := Lib.hid (nowhere_step U5.out u6)
  clear h6 u6 o6
  have hal : Upd Nowhere w6 (w6.alloc (.cells #[.int .i64 2, .int .i64 3, .int .i64 1] 3)) := (Upd.refl _ _).alloc _
  have HSM := Lib.hid (Ref06.same_any (w6.alloc (.cells #[.int .i64 2, .int .i64 3, .int .i64 1] 3)) v6 (.slice (some ⟨w6.heap.size, 0, none⟩) 3 3) [2, 3, 1] [2, 3, 1] (R6.out.old hal) (row_new w6 #[.int .i64 2, .int .i64 3, .int .i64 1] _ 3) (by simp) (by simp))
  go_wp2_with fail
  refine (HSM.out).mono ?_
  rintro e w7 ⟨rfl, nq, rfl⟩
  have H7 := Lib.hid ((H6.out.old hal).old ((Upd.refl _ _).drewN nq))
  have U7 := Lib.hid ((U6.out.trans hal (fun _ _ h => h)).drewN nq)
  clear HSM hal
  generalize (w6.alloc (.cells #[.int .i64 2, .int .i64 3, .int .i64 1] 3)).drewN nq = w7 at *
  go_wp2_with fail
  refine (add_room H7.out (by decide) (hNo _) 3 (by omega) 4 (by omega)).mono ?_
  rintro e w8 ⟨rfl, h8, u8⟩
  have H8 : Hid (HasW NoB w w8 b 80 4 9 [(3, 3, 4)]) := Lib.hid h8
  have U8 := Lib.hid (nowhere_step U7.out u8)
  clear h8 u8
  go_wp2_with fail
  refine (due_any H8.out (hNo _) (HT _ U8.out).out hG 0 (by omega)).mono ?_
  rintro e w9 ⟨v9, rfl, o9, h9, u9⟩
  have R9 : Hid (RowAt w9 v9 (ints [4])) := Lib.hid (out_row o9)
  have H9 : Hid (HasW NoB w w9 b 80 4 9 []) := Lib.hid h9
  have U9 := Lib.hid (nowhere_step U8.out u9)
  clear h9 u9 o9
  have hal : Upd Nowhere w9 (w9.alloc (.cells #[.int .i64 4] 3)) := (Upd.refl _ _).alloc _
  have HSM := Lib.hid (Ref06.same_any (w9.alloc (.cells #[.int .i64 4] 3)) v9 (.slice (some ⟨w9.heap.size, 0, none⟩) 1 1) [4] [4] (R9.out.old hal) (row_new w9 #[.int .i64 4] _ 1) (by simp) (by simp))
  go_wp2_with fail
  refine (HSM.out).mono ?_
  rintro e w7 ⟨rfl, nq, rfl⟩
  have HA := Lib.hid ((H9.out.old hal).old ((Upd.refl _ _).drewN nq))
  have UA := Lib.hid ((U9.out.trans hal (fun _ _ h => h)).drewN nq)
  clear HSM hal
  generalize (w9.alloc (.cells #[.int .i64 4] 3)).drewN nq = wA at *
  go_wp2_with fail
  refine (hasW_now HA.out).mono ?_
  rintro e wB ⟨rfl, rfl⟩
  go_wp2_with fail
  go_ret
  exact ⟨rfl, UA.out⟩
end Go.Proofs.YtjbaibnmbeabnaaDoor.Wheel
