/- heappifo's law: lives. -/
import Derived.Test.YtbegljpnjcggnaaHeapS5
import Derived.Test.YtbegljpnjcggnaaHeapI5
namespace Go.Proofs.Ytbegljpnjcggnaa.HeapS
open Go.RowKit Go.Proofs BigFrame Heap
set_option maxHeartbeats 4000000
set_option maxRecDepth 1000000
/-- The three strings. -/
abbrev sa : ByteArray := ⟨#[97]⟩
abbrev sb : ByteArray := ⟨#[98]⟩
abbrev sc : ByteArray := ⟨#[99]⟩
theorem p1 : pushL ([] : List En) (5, 0, sa) = [(5, 0, sa)] := by simp [pushL, upL]
theorem p2 : pushL [((5, 0, sa) : En)] (3, 1, sb) = [(3, 1, sb), (5, 0, sa)] := by simp [pushL, upL, ahdAt, ahd, swp]
theorem p3 : pushL [((3, 1, sb) : En), (5, 0, sa)] (5, 2, sc) = [(3, 1, sb), (5, 0, sa), (5, 2, sc)] := by simp [pushL, upL, ahdAt, ahd]
theorem q1 : popL [((3, 1, sb) : En), (5, 0, sa), (5, 2, sc)] = [(5, 0, sa), (5, 2, sc)] := by simp [popL, lastUp, dnL, kid, ahdAt, ahd, swp]
theorem q2 : popL [((5, 0, sa) : En), (5, 2, sc)] = [(5, 2, sc)] := by simp [popL, lastUp, dnL]
theorem q3 : popL [((5, 2, sc) : En)] = [] := by simp [popL, lastUp, dnL]
theorem lives (w : World) : Calls Try.prog 6 #[] w fun e w' => e = .returned (.bool true) ∧ Upd Nowhere w w' := by
  have HN := Lib.hid (h_new 3 w w (fun _ => False) (by omega) (by omega) (Nat.le_refl _) (fun _ h => h.elim))
  go_enter Try.func6, Try.ntmps6
  go_wp2_with fail
  refine (HN.out).mono ?_
  rintro e w1 ⟨rfl, h1, u1⟩
  have H1 := Lib.hid (h_push h1 (by simp) (by omega) 5 sa)
  have HU1 := Lib.hid (u1.any (fun k => w.heap.size ≤ k))
  clear h1 u1
  go_wp2_with fail
  refine (H1.out).mono ?_
  rintro e w2 ⟨rfl, h2, u2⟩
  rw [p1] at h2
  have H2 := Lib.hid (h_push h2 (by simp) (by omega) 3 sb)
  have HU2 := Lib.hid (HU1.out.trans u2 (fun _ _ h => h.1))
  clear h2 u2
  go_wp2_with fail
  refine (H2.out).mono ?_
  rintro e w3 ⟨rfl, h3, u3⟩
  rw [p2] at h3
  have H3 := Lib.hid (h_push h3 (by simp) (by omega) 5 sc)
  have HU3 := Lib.hid (HU2.out.trans u3 (fun _ _ h => h.1))
  clear h3 u3
  go_wp2_with fail
  refine (H3.out).mono ?_
  rintro e w4 ⟨rfl, h4, u4⟩
  rw [p3] at h4
  have HX4 := Lib.hid h4
  have H4 := Lib.hid (h_full h4 rfl 1 ⟨#[100]⟩)
  have HU4 := Lib.hid (HU3.out.trans u4 (fun _ _ h => h.1))
  clear h4 u4
  go_wp2_with fail
  refine (H4.out).mono ?_
  rintro e w5 ⟨rfl, u5⟩
  have H5 := Lib.hid (h_pop (HX4.out.old u5) (a := (3, 1, sb)) rfl)
  have HU5 := Lib.hid (HU4.out.trans u5 (fun _ _ h => h.elim))
  clear u5
  go_wp2_with fail
  refine (H5.out).mono ?_
  rintro e w6 ⟨rfl, h6, u6⟩
  rw [q1] at h6
  have H6 := Lib.hid (h_pop h6 (a := (5, 0, sa)) rfl)
  have HU6 := Lib.hid (HU5.out.trans u6 (fun _ _ h => h.1))
  clear h6 u6
  go_wp2_with fail
  refine (H6.out).mono ?_
  rintro e w7 ⟨rfl, h7, u7⟩
  rw [q2] at h7
  have H7 := Lib.hid (h_pop h7 (a := (5, 2, sc)) rfl)
  have HU7 := Lib.hid (HU6.out.trans u7 (fun _ _ h => h.1))
  clear h7 u7
  go_wp2_with fail
  refine (H7.out).mono ?_
  rintro e w8 ⟨rfl, h8, u8⟩
  rw [q3] at h8
  have H8 := Lib.hid (h_len h8)
  have HU8 := Lib.hid (HU7.out.trans u8 (fun _ _ h => h.1))
  clear h8 u8
  have e9 : (sb ++ sa ++ sc).toList = [98, 97, 99] := by kernel_rfl
  go_wp2_with fail
  refine (H8.out).mono ?_
  rintro e w9 ⟨rfl, rfl⟩
  go_wp2_with fail
  go_ret
  exact ⟨rfl, HU8.out.nowhere⟩
end Go.Proofs.Ytbegljpnjcggnaa.HeapS
