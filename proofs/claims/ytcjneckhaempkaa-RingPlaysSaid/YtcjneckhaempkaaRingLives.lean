/- The example of ring's laws. -/
import Derived.Test.YtcjneckhaempkaaRingS2
import Derived.Test.YtcjneckhaempkaaRingS4
namespace Go.Proofs.Ytcjneckhaempkaa
open Go.RowKit Go.Proofs BigFrame

set_option maxHeartbeats 400000
theorem ring_lives (w : World) : Calls Try.prog 7 #[] w fun e w' => e = .returned (.bool true) ∧ Upd Nowhere w w' := by
  go_enter Try.func7, Try.ntmps7
  go_wp2_with fail
  refine (RingS.new_ok _ 2 (by omega) (by omega)).mono ?_
  rintro e w1 ⟨rfl, ⟨fr1, len1, h1⟩, hu1⟩
  have H1 := Lib.hid h1
  have U1 := Lib.hid hu1
  clear h1 hu1
  go_wp2_with fail
  refine (RingS.put_room w1 w.heap.size none 2 fr1 len1 [] ⟨#[97]⟩ H1.out (by simp)).mono ?_
  rintro e w2 ⟨rfl, g2, ⟨fr2, len2, h2⟩, hs2, hu2⟩
  have H2 := Lib.hid h2
  have S2 := Lib.hid hs2
  have U2 := Lib.hid hu2
  clear h2 hu2 hs2
  go_wp2_with fail
  refine (RingS.put_room w2 w.heap.size g2 2 fr2 len2 [⟨#[97]⟩] ⟨#[98]⟩ H2.out (by simp)).mono ?_
  rintro e w3 ⟨rfl, g3, ⟨fr3, len3, h3⟩, hs3, hu3⟩
  have H3 := Lib.hid h3
  have S3 := Lib.hid hs3
  have U3 := Lib.hid hu3
  clear h3 hu3 hs3
  go_wp2_with fail
  refine (RingS.put_full w3 w.heap.size g3 2 fr3 len3 [⟨#[97]⟩, ⟨#[98]⟩] ⟨#[99]⟩ H3.out (by simp)).mono ?_
  rintro e w4 ⟨rfl, n4, rfl⟩
  go_wp2_with fail
  refine (RingS.take_some _ w.heap.size g3 2 fr3 len3 ⟨#[97]⟩ [⟨#[98]⟩] (H3.out.drewN n4)).mono ?_
  rintro e w5 ⟨rfl, g5, ⟨fr5, len5, h5⟩, hs5, hu5⟩
  have H5 := Lib.hid h5
  have S5 := Lib.hid hs5
  have U5 := Lib.hid hu5
  clear h5 hu5 hs5
  go_wp2_with fail
  refine (RingS.put_room w5 w.heap.size g5 2 fr5 len5 [⟨#[98]⟩] ⟨#[99]⟩ H5.out (by simp)).mono ?_
  rintro e w6 ⟨rfl, g6, ⟨fr6, len6, h6⟩, hs6, hu6⟩
  have H6 := Lib.hid h6
  have S6 := Lib.hid hs6
  have U6 := Lib.hid hu6
  clear h6 hu6 hs6
  go_wp2_with fail
  refine (RingS.len_any w.heap.size 2 w6 H6.out.c2).mono ?_
  rintro e w7 ⟨rfl, rfl⟩
  go_wp2_with fail
  go_ret
  refine ⟨rfl, ?_⟩
  have A1 : Upd (fun k => w.heap.size ≤ k) w w1 := U1.out.any _
  have G1 : ∀ k, RingOf w.heap.size none k → w.heap.size ≤ k := fun k hk => by
    rcases hk with rfl | hk
    · exact Nat.le_refl _
    · cases hk
  obtain ⟨A2, G2⟩ := own_step A1 (Nat.le_refl _) G1 S2.out U2.out
  obtain ⟨A3, G3⟩ := own_step A2 (Nat.le_refl _) G2 S3.out U3.out
  obtain ⟨A5, G5⟩ := own_step (A3.drewN n4) (Nat.le_refl _) G3 S5.out U5.out
  exact (own_step A5 (Nat.le_refl _) G5 S6.out U6.out).1.nowhere
end Go.Proofs.Ytcjneckhaempkaa
