/- CalMade, CalLives, one behind the other. -/
import Derived.Test.YtjbaibnmbeabnaaGreatDoorMCalI
import Derived.Test.YtjbaibnmbeabnaaGreatDoorMade
import Derived.Test.YtjbaibnmbeabnaaGreatDoorMCalS
import Derived.LoopN
namespace Go.Proofs.YtjbaibnmbeabnaaGreatDoor.CalI
open Go.RowKit Go.Proofs BigFrame Cal
open Wheel (Tab)
set_option maxHeartbeats 1000000
section
variable {w0 w : World} {l : List Comp}
theorem Made.tab (h : Made w0 w l) (hT : Tab w0) : Tab w := hT.old h.upd id
theorem far_tg {o : Nat → Prop} (h : ∀ k, o k → w0.heap.size ≤ k) (hG : Tryz.tz64_ren.g 1 < w0.heap.size) : ¬ o (Tryz.tz64_ren.g 1) := fun hk => absurd (h _ hk) (Nat.not_le.2 hG)
theorem m_push (l1 l2 : List Comp) {cb room c : Nat} {M : List (Nat × Int)} (h : Made w0 w (l1 ++ calC cb room c M :: l2)) (hc : c < 18446744073709551615) (r : Nat) (hr : r ≤ 18446744073709551615) (x : Int) {v : Bool} (hv : decide (M.length < room) = v) :
    Calls Tryz.prog 8 #[.pointer (some ⟨cb, 0, none⟩), .int .u64 r, .int .i64 x] w fun e w' => e = .returned (.bool v) ∧ Made w0 w' (l1 ++ calC cb room (c + 1) (psh room r x M) :: l2) := by
  subst hv
  obtain ⟨o, h1, h2, h3⟩ := Made.foc _ _ _ h
  refine (s_push h1 hc r hr x).mono ?_
  rintro e w' ⟨rfl, own', hs, hf⟩
  exact ⟨rfl, h3 w' own' (calC cb room (c + 1) (psh room r x M)) hs hf⟩
theorem m_pop (l1 l2 : List Comp) {cb room c : Nat} {M : List (Nat × Int)} (h : Made w0 w (l1 ++ calC cb room c M :: l2)) (hT : Tab w0) (hG : Tryz.tz64_ren.g 1 < w0.heap.size) {r : Nat} {x : Int} {v : Bool} (hv : fst1 M = (r, x, v)) :
    Calls Tryz.prog 10 #[.pointer (some ⟨cb, 0, none⟩)] w fun e w' => e = .returned (.tuple #[.int .u64 r, .int .i64 x, .bool v]) ∧ Made w0 w' (l1 ++ calC cb room c M.tail :: l2) := by
  obtain ⟨o, h1, h2, h3⟩ := Made.foc _ _ _ h
  refine (s_pop h1 (Made.tab h hT) (far_tg h2 hG)).mono ?_
  rintro e w' ⟨rfl, own', hs, hf⟩
  exact ⟨by rw [hv], h3 w' own' (calC cb room c M.tail) hs hf⟩
theorem m_peek (l1 l2 : List Comp) {cb room c : Nat} {M : List (Nat × Int)} (h : Made w0 w (l1 ++ calC cb room c M :: l2)) (hT : Tab w0) (hG : Tryz.tz64_ren.g 1 < w0.heap.size) {r : Nat} {x : Int} {v : Bool} (hv : fst1 M = (r, x, v)) :
    Calls Tryz.prog 12 #[.pointer (some ⟨cb, 0, none⟩)] w fun e w' => e = .returned (.tuple #[.int .u64 r, .int .i64 x, .bool v]) ∧ Made w0 w' (l1 ++ calC cb room c M :: l2) := by
  obtain ⟨o, h1, h2, h3⟩ := Made.foc _ _ _ h
  refine (s_peek h1 (Made.tab h hT) (far_tg h2 hG)).mono ?_
  rintro e w' ⟨rfl, own', hs, hf⟩
  exact ⟨by rw [hv], h3 w' own' (calC cb room c M) hs hf⟩
theorem m_len (l1 l2 : List Comp) {cb room c : Nat} {M : List (Nat × Int)} (h : Made w0 w (l1 ++ calC cb room c M :: l2)) {m : Nat} (hm : M.length = m) :
    Calls Tryz.prog 13 #[.pointer (some ⟨cb, 0, none⟩)] w fun e w' => e = .returned (.int .i64 m) ∧ ∃ k, w' = w.drewN k := by
  subst hm
  obtain ⟨o, h1, h2, h3⟩ := Made.foc _ _ _ h
  exact s_len h1
theorem m_new (h : Made w0 w l) (room L : Nat) (h1 : 1 ≤ room) (h2 : room ≤ 4096) (h3 : 1 ≤ L) (h4 : L ≤ 3) :
    Calls Tryz.prog 4 #[.int .i64 room, .int .i64 L] w fun e w' => ∃ cb, e = .returned (.tuple #[.pointer (some ⟨cb, 0, none⟩), .int .i64 0]) ∧ Made w0 w' (calC cb room 0 [] :: l) := by
  refine (s_new room L w h1 h2 h3 h4).mono ?_
  rintro e w' ⟨cb, rfl, ⟨own, hs, ho⟩, hu⟩
  exact ⟨cb, rfl, h.more (C := calC cb room 0 []) hs ho hu⟩
end
end Go.Proofs.YtjbaibnmbeabnaaGreatDoor.CalI
namespace Go.Proofs.YtjbaibnmbeabnaaGreatDoor.CalS
open Go.RowKit Go.Proofs BigFrame Cal
open Wheel (Tab)
set_option maxHeartbeats 4000000
set_option maxRecDepth 1000000
abbrev sa : ByteArray := ⟨#[97]⟩
abbrev sb : ByteArray := ⟨#[98]⟩
abbrev sc : ByteArray := ⟨#[99]⟩
abbrev sd : ByteArray := ⟨#[100]⟩
abbrev se : ByteArray := ⟨#[101]⟩
/-- A calendar that was made since w0. -/
structure Lv (w0 w : World) (own : Nat → Prop) (cb room c : Nat) (M : List (Nat × ByteArray)) : Prop where
  st : St w own cb room c M
  far : ∀ k, own k → w0.heap.size ≤ k
  upd : Upd Nowhere w0 w
theorem Lv.step {w0 w w' : World} {own own' : Nat → Prop} {cb room c c' : Nat} {M M' : List (Nat × ByteArray)} (h : Lv w0 w own cb room c M) (hs : St w' own' cb room c' M') (hf : Fol w own w' own') : Lv w0 w' own' cb room c' M' :=
  ⟨hs, fun k hk => (hf.at_ k hk).elim (h.far k) (fun h2 => Nat.le_trans h.upd.size h2), h.upd.trans hf.upd (fun k hlt hk => absurd (h.far k hk) (Nat.not_le.2 hlt))⟩
theorem Lv.tab {w0 w : World} {own : Nat → Prop} {cb room c : Nat} {M : List (Nat × ByteArray)} (h : Lv w0 w own cb room c M) (hT : Tab w0) : Tab w := hT.old h.upd id
theorem Lv.tg {w0 w : World} {own : Nat → Prop} {cb room c : Nat} {M : List (Nat × ByteArray)} (h : Lv w0 w own cb room c M) (hG : Tryz.tz64_ren.g 1 < w0.heap.size) : ¬ own (Tryz.tz64_ren.g 1) := fun hk => absurd (h.far _ hk) (Nat.not_le.2 hG)
theorem p1 : psh 9 5 sa [] = [(5, sa)] := rfl
theorem p2 : psh 9 18446744073709551615 sb [(5, sa)] = [(5, sa), (18446744073709551615, sb)] := rfl
theorem p3 : psh 9 70000 sc [(5, sa), (18446744073709551615, sb)] = [(5, sa), (70000, sc), (18446744073709551615, sb)] := rfl
theorem p4 : psh 9 5 sd [(5, sa), (70000, sc), (18446744073709551615, sb)] = [(5, sa), (5, sd), (70000, sc), (18446744073709551615, sb)] := rfl
theorem p5 : psh 9 0 se [(5, sa), (5, sd), (70000, sc), (18446744073709551615, sb)] = [(0, se), (5, sa), (5, sd), (70000, sc), (18446744073709551615, sb)] := rfl
theorem lives (w : World) (hT : Tab w) (hG : Tryz.tz64_ren.g 1 < w.heap.size) : Calls Tryz.prog 6 #[] w fun e w' => e = .returned (.bool true) ∧ Upd Nowhere w w' := by
  have HN := Lib.hid (s_new 9 1 w (by omega) (by omega) (by omega) (by omega))
  have HT := Lib.hid hT
  have HG := Lib.hid hG
  clear hT hG
  go_enter Tryz.func6, Tryz.ntmps6
  go_wp2_with fail
  refine (HN.out).mono ?_
  rintro e w1 ⟨cb, rfl, ⟨o1, h1, f1⟩, u1⟩
  have L1 := Lib.hid (⟨h1, f1, u1⟩ : Lv w w1 o1 cb 9 0 [])
  clear h1 f1 u1 HN
  go_wp2_with fail
  refine (s_push L1.out.st (by omega) 5 (by omega) sa).mono ?_
  rintro e w2 ⟨rfl, o2, h2, f2⟩
  have L2 := Lib.hid (L1.out.step h2 f2)
  rw [p1] at L2
  clear h2 f2 L1
  go_wp2_with fail
  refine (s_push L2.out.st (by omega) 18446744073709551615 (by omega) sb).mono ?_
  rintro e w3 ⟨rfl, o3, h3, f3⟩
  have L3 := Lib.hid (L2.out.step h3 f3)
  rw [p2] at L3
  clear h3 f3 L2
  go_wp2_with fail
  refine (s_push L3.out.st (by omega) 70000 (by omega) sc).mono ?_
  rintro e w4 ⟨rfl, o4, h4, f4⟩
  have L4 := Lib.hid (L3.out.step h4 f4)
  rw [p3] at L4
  clear h4 f4 L3
  go_wp2_with fail
  refine (s_push L4.out.st (by omega) 5 (by omega) sd).mono ?_
  rintro e w5 ⟨rfl, o5, h5, f5⟩
  have L5 := Lib.hid (L4.out.step h5 f5)
  rw [p4] at L5
  clear h5 f5 L4
  go_wp2_with fail
  refine (s_push L5.out.st (by omega) 0 (by omega) se).mono ?_
  rintro e w6 ⟨rfl, o6, h6, f6⟩
  have L6 := Lib.hid (L5.out.step h6 f6)
  rw [p5] at L6
  clear h6 f6 L5
  go_wp2_with fail
  refine wp_loop_rounds 6 ?_
  rw [rounds_succ]
  go_wp2_with fail
  refine (s_pop L6.out.st (L6.out.tab HT.out) (L6.out.tg HG.out)).mono ?_
  rintro e w7 ⟨rfl, o7, h7, f7⟩
  have L7 : Hid (Lv w w7 o7 cb 9 5 [(5, sa), (5, sd), (70000, sc), (18446744073709551615, sb)]) := Lib.hid (L6.out.step h7 f7)
  clear h7 f7 L6
  go_wp2_with fail
  rw [rounds_succ]
  go_wp2_with fail
  refine (s_pop L7.out.st (L7.out.tab HT.out) (L7.out.tg HG.out)).mono ?_
  rintro e w8 ⟨rfl, o8, h8, f8⟩
  have L8 : Hid (Lv w w8 o8 cb 9 5 [(5, sd), (70000, sc), (18446744073709551615, sb)]) := Lib.hid (L7.out.step h8 f8)
  clear h8 f8 L7
  go_wp2_with fail
  rw [rounds_succ]
  go_wp2_with fail
  refine (s_pop L8.out.st (L8.out.tab HT.out) (L8.out.tg HG.out)).mono ?_
  rintro e w9 ⟨rfl, o9, h9, f9⟩
  have L9 : Hid (Lv w w9 o9 cb 9 5 [(70000, sc), (18446744073709551615, sb)]) := Lib.hid (L8.out.step h9 f9)
  clear h9 f9 L8
  go_wp2_with fail
  rw [rounds_succ]
  go_wp2_with fail
  refine (s_pop L9.out.st (L9.out.tab HT.out) (L9.out.tg HG.out)).mono ?_
  rintro e wA ⟨rfl, oA, hA, fA⟩
  have LA : Hid (Lv w wA oA cb 9 5 [(18446744073709551615, sb)]) := Lib.hid (L9.out.step hA fA)
  clear hA fA L9
  go_wp2_with fail
  rw [rounds_succ]
  go_wp2_with fail
  refine (s_pop LA.out.st (LA.out.tab HT.out) (LA.out.tg HG.out)).mono ?_
  rintro e wB ⟨rfl, oB, hB, fB⟩
  have LB : Hid (Lv w wB oB cb 9 5 []) := Lib.hid (LA.out.step hB fB)
  clear hB fB LA
  go_wp2_with fail
  rw [rounds_succ]
  have e9 : (ByteArray.mk #[] ++ se ++ sa ++ sd ++ sc ++ sb).toList = [101, 97, 100, 99, 98] := by kernel_rfl
  go_wp2_with fail
  refine (s_len LB.out.st).mono ?_
  rintro e wC ⟨rfl, kC, rfl⟩
  go_wp2_with fail
  go_ret
  exact ⟨rfl, LB.out.upd.drewN kC⟩
end Go.Proofs.YtjbaibnmbeabnaaGreatDoor.CalS
