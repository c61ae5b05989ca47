/- CalLives, CalNobody, one behind the other. -/
import Derived.Test.YtjbaibnmbeabnaaDoorMCalS
import Derived.LoopN
import Derived.Test.YtjbaibnmbeabnaaDoorMCalI
namespace Go.Proofs.YtjbaibnmbeabnaaDoor.CalS
open Go.RowKit Go.Proofs BigFrame Cal
open Wheel (Tab)
set_option maxHeartbeats 4000000
set_option maxRecDepth 1000000
abbrev sa : ByteArray := ⟨#[97]⟩
abbrev sb : ByteArray := ⟨#[98]⟩
abbrev sc : ByteArray := ⟨#[99]⟩
abbrev sd : ByteArray := ⟨#[100]⟩
abbrev se : ByteArray := ⟨#[101]⟩
/-- A calendar that was made since w0. -/
structure Lv (w0 w : World) (own : Nat → Prop) (cb room c : Nat) (M : List (Nat × ByteArray)) : Prop where
  st : St w own cb room c M
  far : ∀ k, own k → w0.heap.size ≤ k
  upd : Upd Nowhere w0 w
theorem Lv.step {w0 w w' : World} {own own' : Nat → Prop} {cb room c c' : Nat} {M M' : List (Nat × ByteArray)} (h : Lv w0 w own cb room c M) (hs : St w' own' cb room c' M') (hf : Fol w own w' own') : Lv w0 w' own' cb room c' M' :=
  ⟨hs, fun k hk => (hf.at_ k hk).elim (h.far k) (fun h2 => Nat.le_trans h.upd.size h2), h.upd.trans hf.upd (fun k hlt hk => absurd (h.far k hk) (Nat.not_le.2 hlt))⟩
theorem Lv.tab {w0 w : World} {own : Nat → Prop} {cb room c : Nat} {M : List (Nat × ByteArray)} (h : Lv w0 w own cb room c M) (hT : Tab w0) : Tab w := hT.old h.upd id
theorem Lv.tg {w0 w : World} {own : Nat → Prop} {cb room c : Nat} {M : List (Nat × ByteArray)} (h : Lv w0 w own cb room c M) (hG : Tryd.tz64_ren.g 1 < w0.heap.size) : ¬ own (Tryd.tz64_ren.g 1) := fun hk => absurd (h.far _ hk) (Nat.not_le.2 hG)
theorem p1 : psh 9 5 sa [] = [(5, sa)] := rfl
theorem p2 : psh 9 18446744073709551615 sb [(5, sa)] = [(5, sa), (18446744073709551615, sb)] := rfl
theorem p3 : psh 9 70000 sc [(5, sa), (18446744073709551615, sb)] = [(5, sa), (70000, sc), (18446744073709551615, sb)] := rfl
theorem p4 : psh 9 5 sd [(5, sa), (70000, sc), (18446744073709551615, sb)] = [(5, sa), (5, sd), (70000, sc), (18446744073709551615, sb)] := rfl
theorem p5 : psh 9 0 se [(5, sa), (5, sd), (70000, sc), (18446744073709551615, sb)] = [(0, se), (5, sa), (5, sd), (70000, sc), (18446744073709551615, sb)] := rfl
theorem lives (w : World) (hT : Tab w) (hG : Tryd.tz64_ren.g 1 < w.heap.size) : Calls Tryd.prog 9 #[] w fun e w' => e = .returned (.bool true) ∧ Upd Nowhere w w' := by
  have HN := Lib.hid (s_new 9 1 w (by omega) (by omega) (by omega) (by omega))
  have HT := Lib.hid hT
  have HG := Lib.hid hG
  clear hT hG
  go_enter Tryd.func9, Tryd.ntmps9
  go_wp2_with fail
  refine (HN.out).mono ?_
  rintro e w1 ⟨cb, rfl, ⟨o1, h1, f1⟩, u1⟩
  have L1 := Lib.hid (⟨h1, f1, u1⟩ : Lv w w1 o1 cb 9 0 [])
  clear h1 f1 u1 HN
  go_wp2_with fail
  refine (s_push L1.out.st (by omega) 5 (by omega) sa).mono ?_
  rintro e w2 ⟨rfl, o2, h2, f2⟩
  have L2 := Lib.hid (L1.out.step h2 f2)
  rw [p1] at L2
  clear h2 f2 L1
  go_wp2_with fail
  refine (s_push L2.out.st (by omega) 18446744073709551615 (by omega) sb).mono ?_
  rintro e w3 ⟨rfl, o3, h3, f3⟩
  have L3 := Lib.hid (L2.out.step h3 f3)
  rw [p2] at L3
  clear h3 f3 L2
  go_wp2_with fail
  refine (s_push L3.out.st (by omega) 70000 (by omega) sc).mono ?_
  rintro e w4 ⟨rfl, o4, h4, f4⟩
  have L4 := Lib.hid (L3.out.step h4 f4)
  rw [p3] at L4
  clear h4 f4 L3
  go_wp2_with fail
  refine (s_push L4.out.st (by omega) 5 (by omega) sd).mono ?_
  rintro e w5 ⟨rfl, o5, h5, f5⟩
  have L5 := Lib.hid (L4.out.step h5 f5)
  rw [p4] at L5
  clear h5 f5 L4
  go_wp2_with fail
  refine (s_push L5.out.st (by omega) 0 (by omega) se).mono ?_
  rintro e w6 ⟨rfl, o6, h6, f6⟩
  have L6 := Lib.hid (L5.out.step h6 f6)
  rw [p5] at L6
  clear h6 f6 L5
  go_wp2_with fail
  refine wp_loop_rounds 6 ?_
  rw [rounds_succ]
  go_wp2_with fail
  refine (s_pop L6.out.st (L6.out.tab HT.out) (L6.out.tg HG.out)).mono ?_
  rintro e w7 ⟨rfl, o7, h7, f7⟩
  have L7 : Hid (Lv w w7 o7 cb 9 5 [(5, sa), (5, sd), (70000, sc), (18446744073709551615, sb)]) := Lib.hid (L6.out.step h7 f7)
  clear h7 f7 L6
  go_wp2_with fail
  rw [rounds_succ]
  go_wp2_with fail
  refine (s_pop L7.out.st (L7.out.tab HT.out) (L7.out.tg HG.out)).mono ?_
  rintro e w8 ⟨rfl, o8, h8, f8⟩
  have L8 : Hid (Lv w w8 o8 cb 9 5 [(5, sd), (70000, sc), (18446744073709551615, sb)]) := Lib.hid (L7.out.step h8 f8)
  clear h8 f8 L7
  go_wp2_with fail
  rw [rounds_succ]
  go_wp2_with fail
  refine (s_pop L8.out.st (L8.out.tab HT.out) (L8.out.tg HG.out)).mono ?_
  rintro e w9 ⟨rfl, o9, h9, f9⟩
  have L9 : Hid (Lv w w9 o9 cb 9 5 [(70000, sc), (18446744073709551615, sb)]) := Lib.hid (L8.out.step h9 f9)
  clear h9 f9 L8
  go_wp2_with fail
  rw [rounds_succ]
  go_wp2_with fail
  refine (s_pop L9.out.st (L9.out.tab HT.out) (L9.out.tg HG.out)).mono ?_
  rintro e wA ⟨rfl, oA, hA, fA⟩
  have LA : Hid (Lv w wA oA cb 9 5 [(18446744073709551615, sb)]) := Lib.hid (L9.out.step hA fA)
  clear hA fA L9
  go_wp2_with fail
  rw [rounds_succ]
  go_wp2_with fail
  refine (s_pop LA.out.st (LA.out.tab HT.out) (LA.out.tg HG.out)).mono ?_
  rintro e wB ⟨rfl, oB, hB, fB⟩
  have LB : Hid (Lv w wB oB cb 9 5 []) := Lib.hid (LA.out.step hB fB)
  clear hB fB LA
  go_wp2_with fail
  rw [rounds_succ]
  have e9 : (ByteArray.mk #[] ++ se ++ sa ++ sd ++ sc ++ sb).toList = [101, 97, 100, 99, 98] := by kernel_rfl
  go_wp2_with fail
  refine (s_len LB.out.st).mono ?_
  rintro e wC ⟨rfl, kC, rfl⟩
  go_wp2_with fail
  go_ret
  exact ⟨rfl, LB.out.upd.drewN kC⟩
end Go.Proofs.YtjbaibnmbeabnaaDoor.CalS
namespace Go.Proofs.YtjbaibnmbeabnaaDoor.CalI
open Go.RowKit Go.Proofs BigFrame Cal
open Wheel (Tab)
set_option maxHeartbeats 4000000
set_option maxRecDepth 1000000
theorem all_nil (w : World) : Calls Tryd.prog 31 #[.pointer none] w fun e w' => e = .returned (.slice none 0 0) ∧ ∃ k, w' = w.drewN k := by
  have HL := Lib.hid (len_nil w)
  go_enter Tryd.func31, Tryd.ntmps31
  go_wp2_with fail
  refine (HL.out).mono ?_
  rintro e w' ⟨rfl, k, rfl⟩
  go_wp2_with fail
  go_ret
  exact ⟨rfl, k, rfl⟩
theorem nobody_law (rank : Nat) (x : Int) (w : World) (hT : Tab w) (hG : Tryd.tz64_ren.g 1 < w.heap.size) : Calls Tryd.prog 8 #[.int .u64 rank, .int .i64 x] w fun e w' => e = .returned (.bool true) ∧ Upd Nowhere w w' := by
  have HL := fun u (hu : Upd Nowhere w u) => Lib.hid (CalS.lives u (hT.old hu id) (Nat.lt_of_lt_of_le hG hu.size))
  clear hT hG
  go_enter Tryd.func8, Tryd.ntmps8
  go_wp2_with fail
  refine (peek_nil w).mono ?_
  rintro e w1 ⟨rfl, u1⟩
  go_wp2_with fail
  refine (pop_nil w1).mono ?_
  rintro e w2 ⟨rfl, u2⟩
  have U2 := Lib.hid (u1.trans u2 (fun _ _ h => h))
  clear u1 u2
  go_wp2_with fail
  refine (push_nil w2 rank x).mono ?_
  rintro e w3 ⟨rfl, u3⟩
  have U3 := Lib.hid (U2.out.trans u3 (fun _ _ h => h))
  clear u3 U2
  go_wp2_with fail
  refine (len_nil w3).mono ?_
  rintro e w4 ⟨rfl, k4, rfl⟩
  go_wp2_with fail
  refine (all_nil (w3.drewN k4)).mono ?_
  rintro e w5 ⟨rfl, k5, rfl⟩
  have hU : Upd Nowhere w (w3.drewN (k4 + k5)) := U3.out.drewN _
  have HU := Lib.hid hU
  have HLL := Lib.hid (HL _ hU).out
  clear hU HL U3
  go_wp2_with fail
  refine HLL.out.mono ?_
  rintro e w6 ⟨rfl, u6⟩
  go_wp2_with fail
  go_ret
  exact ⟨rfl, HU.out.trans u6 (fun _ _ h => h)⟩
end Go.Proofs.YtjbaibnmbeabnaaDoor.CalI
