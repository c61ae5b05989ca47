/- CalMade, CalLives, CalNobody, CalAlike0, CalLooks, CalLooks2, CalAlike, one behind the other. -/
import Derived.Test.YtjbaibnmbeabnaaDoorMCalI
import Derived.Test.YtjbaibnmbeabnaaDoorMade
import Derived.Test.YtjbaibnmbeabnaaDoorMCalS
import Derived.LoopN
import Derived.Deep.RegionHeld3
import Derived.Deep.DeepCutAuto
import Derived.Test.YtjbaibnmbeabnaaDoorOpen
namespace Go.Proofs.YtjbaibnmbeabnaaDoor.CalI
open Go.RowKit Go.Proofs BigFrame Cal
open Wheel (Tab)
set_option maxHeartbeats 1000000
section
variable {w0 w : World} {l : List Comp}
theorem Made.tab (h : Made w0 w l) (hT : Tab w0) : Tab w := hT.old h.upd id
theorem far_tg {o : Nat → Prop} (h : ∀ k, o k → w0.heap.size ≤ k) (hG : Tryd.tz64_ren.g 1 < w0.heap.size) : ¬ o (Tryd.tz64_ren.g 1) := fun hk => absurd (h _ hk) (Nat.not_le.2 hG)
theorem m_push (l1 l2 : List Comp) {cb room c : Nat} {M : List (Nat × Int)} (h : Made w0 w (l1 ++ calC cb room c M :: l2)) (hc : c < 18446744073709551615) (r : Nat) (hr : r ≤ 18446744073709551615) (x : Int) {v : Bool} (hv : decide (M.length < room) = v) :
    Calls Tryd.prog 13 #[.pointer (some ⟨cb, 0, none⟩), .int .u64 r, .int .i64 x] w fun e w' => e = .returned (.bool v) ∧ Made w0 w' (l1 ++ calC cb room (c + 1) (psh room r x M) :: l2) := by
  subst hv
  obtain ⟨o, h1, h2, h3⟩ := Made.foc _ _ _ h
  refine (s_push h1 hc r hr x).mono ?_
  rintro e w' ⟨rfl, own', hs, hf⟩
  exact ⟨rfl, h3 w' own' (calC cb room (c + 1) (psh room r x M)) hs hf⟩
theorem m_pop (l1 l2 : List Comp) {cb room c : Nat} {M : List (Nat × Int)} (h : Made w0 w (l1 ++ calC cb room c M :: l2)) (hT : Tab w0) (hG : Tryd.tz64_ren.g 1 < w0.heap.size) {r : Nat} {x : Int} {v : Bool} (hv : fst1 M = (r, x, v)) :
    Calls Tryd.prog 15 #[.pointer (some ⟨cb, 0, none⟩)] w fun e w' => e = .returned (.tuple #[.int .u64 r, .int .i64 x, .bool v]) ∧ Made w0 w' (l1 ++ calC cb room c M.tail :: l2) := by
  obtain ⟨o, h1, h2, h3⟩ := Made.foc _ _ _ h
  refine (s_pop h1 (Made.tab h hT) (far_tg h2 hG)).mono ?_
  rintro e w' ⟨rfl, own', hs, hf⟩
  exact ⟨by rw [hv], h3 w' own' (calC cb room c M.tail) hs hf⟩
theorem m_peek (l1 l2 : List Comp) {cb room c : Nat} {M : List (Nat × Int)} (h : Made w0 w (l1 ++ calC cb room c M :: l2)) (hT : Tab w0) (hG : Tryd.tz64_ren.g 1 < w0.heap.size) {r : Nat} {x : Int} {v : Bool} (hv : fst1 M = (r, x, v)) :
    Calls Tryd.prog 17 #[.pointer (some ⟨cb, 0, none⟩)] w fun e w' => e = .returned (.tuple #[.int .u64 r, .int .i64 x, .bool v]) ∧ Made w0 w' (l1 ++ calC cb room c M :: l2) := by
  obtain ⟨o, h1, h2, h3⟩ := Made.foc _ _ _ h
  refine (s_peek h1 (Made.tab h hT) (far_tg h2 hG)).mono ?_
  rintro e w' ⟨rfl, own', hs, hf⟩
  exact ⟨by rw [hv], h3 w' own' (calC cb room c M) hs hf⟩
theorem m_len (l1 l2 : List Comp) {cb room c : Nat} {M : List (Nat × Int)} (h : Made w0 w (l1 ++ calC cb room c M :: l2)) {m : Nat} (hm : M.length = m) :
    Calls Tryd.prog 18 #[.pointer (some ⟨cb, 0, none⟩)] w fun e w' => e = .returned (.int .i64 m) ∧ ∃ k, w' = w.drewN k := by
  subst hm
  obtain ⟨o, h1, h2, h3⟩ := Made.foc _ _ _ h
  exact s_len h1
theorem m_new (h : Made w0 w l) (room L : Nat) (h1 : 1 ≤ room) (h2 : room ≤ 4096) (h3 : 1 ≤ L) (h4 : L ≤ 3) :
    Calls Tryd.prog 11 #[.int .i64 room, .int .i64 L] w fun e w' => ∃ cb, e = .returned (.tuple #[.pointer (some ⟨cb, 0, none⟩), .int .i64 0]) ∧ Made w0 w' (calC cb room 0 [] :: l) := by
  refine (s_new room L w h1 h2 h3 h4).mono ?_
  rintro e w' ⟨cb, rfl, ⟨own, hs, ho⟩, hu⟩
  exact ⟨cb, rfl, h.more (C := calC cb room 0 []) hs ho hu⟩
end
end Go.Proofs.YtjbaibnmbeabnaaDoor.CalI
namespace Go.Proofs.YtjbaibnmbeabnaaDoor.CalS
open Go.RowKit Go.Proofs BigFrame Cal
open Wheel (Tab)
set_option maxHeartbeats 4000000
set_option maxRecDepth 1000000
abbrev sa : ByteArray := ⟨#[97]⟩
abbrev sb : ByteArray := ⟨#[98]⟩
abbrev sc : ByteArray := ⟨#[99]⟩
abbrev sd : ByteArray := ⟨#[100]⟩
abbrev se : ByteArray := ⟨#[101]⟩
/-- A calendar that was made since w0. -/
structure Lv (w0 w : World) (own : Nat → Prop) (cb room c : Nat) (M : List (Nat × ByteArray)) : Prop where
  st : St w own cb room c M
  far : ∀ k, own k → w0.heap.size ≤ k
  upd : Upd Nowhere w0 w
theorem Lv.step {w0 w w' : World} {own own' : Nat → Prop} {cb room c c' : Nat} {M M' : List (Nat × ByteArray)} (h : Lv w0 w own cb room c M) (hs : St w' own' cb room c' M') (hf : Fol w own w' own') : Lv w0 w' own' cb room c' M' :=
  ⟨hs, fun k hk => (hf.at_ k hk).elim (h.far k) (fun h2 => Nat.le_trans h.upd.size h2), h.upd.trans hf.upd (fun k hlt hk => absurd (h.far k hk) (Nat.not_le.2 hlt))⟩
theorem Lv.tab {w0 w : World} {own : Nat → Prop} {cb room c : Nat} {M : List (Nat × ByteArray)} (h : Lv w0 w own cb room c M) (hT : Tab w0) : Tab w := hT.old h.upd id
theorem Lv.tg {w0 w : World} {own : Nat → Prop} {cb room c : Nat} {M : List (Nat × ByteArray)} (h : Lv w0 w own cb room c M) (hG : Tryd.tz64_ren.g 1 < w0.heap.size) : ¬ own (Tryd.tz64_ren.g 1) := fun hk => absurd (h.far _ hk) (Nat.not_le.2 hG)
theorem p1 : psh 9 5 sa [] = [(5, sa)] := rfl
theorem p2 : psh 9 18446744073709551615 sb [(5, sa)] = [(5, sa), (18446744073709551615, sb)] := rfl
theorem p3 : psh 9 70000 sc [(5, sa), (18446744073709551615, sb)] = [(5, sa), (70000, sc), (18446744073709551615, sb)] := rfl
theorem p4 : psh 9 5 sd [(5, sa), (70000, sc), (18446744073709551615, sb)] = [(5, sa), (5, sd), (70000, sc), (18446744073709551615, sb)] := rfl
theorem p5 : psh 9 0 se [(5, sa), (5, sd), (70000, sc), (18446744073709551615, sb)] = [(0, se), (5, sa), (5, sd), (70000, sc), (18446744073709551615, sb)] := rfl
theorem lives (w : World) (hT : Tab w) (hG : Tryd.tz64_ren.g 1 < w.heap.size) : Calls Tryd.prog 9 #[] w fun e w' => e = .returned (.bool true) ∧ Upd Nowhere w w' := by
  have HN := Lib.hid (s_new 9 1 w (by omega) (by omega) (by omega) (by omega))
  have HT := Lib.hid hT
  have HG := Lib.hid hG
  clear hT hG
  go_enter Tryd.func9, Tryd.ntmps9
  go_wp2_with fail
  refine (HN.out).mono ?_
  rintro e w1 ⟨cb, rfl, ⟨o1, h1, f1⟩, u1⟩
  have L1 := Lib.hid (⟨h1, f1, u1⟩ : Lv w w1 o1 cb 9 0 [])
  clear h1 f1 u1 HN
  go_wp2_with fail
  refine (s_push L1.out.st (by omega) 5 (by omega) sa).mono ?_
  rintro e w2 ⟨rfl, o2, h2, f2⟩
  have L2 := Lib.hid (L1.out.step h2 f2)
  rw [p1] at L2
  clear h2 f2 L1
  go_wp2_with fail
  refine (s_push L2.out.st (by omega) 18446744073709551615 (by omega) sb).mono ?_
  rintro e w3 ⟨rfl, o3, h3, f3⟩
  have L3 := Lib.hid (L2.out.step h3 f3)
  rw [p2] at L3
  clear h3 f3 L2
  go_wp2_with fail
  refine (s_push L3.out.st (by omega) 70000 (by omega) sc).mono ?_
  rintro e w4 ⟨rfl, o4, h4, f4⟩
  have L4 := Lib.hid (L3.out.step h4 f4)
  rw [p3] at L4
  clear h4 f4 L3
  go_wp2_with fail
  refine (s_push L4.out.st (by omega) 5 (by omega) sd).mono ?_
  rintro e w5 ⟨rfl, o5, h5, f5⟩
  have L5 := Lib.hid (L4.out.step h5 f5)
  rw [p4] at L5
  clear h5 f5 L4
  go_wp2_with fail
  refine (s_push L5.out.st (by omega) 0 (by omega) se).mono ?_
  rintro e w6 ⟨rfl, o6, h6, f6⟩
  have L6 := Lib.hid (L5.out.step h6 f6)
  rw [p5] at L6
  clear h6 f6 L5
  go_wp2_with fail
  refine wp_loop_rounds 6 ?_
  rw [rounds_succ]
  go_wp2_with fail
  refine (s_pop L6.out.st (L6.out.tab HT.out) (L6.out.tg HG.out)).mono ?_
  rintro e w7 ⟨rfl, o7, h7, f7⟩
  have L7 : Hid (Lv w w7 o7 cb 9 5 [(5, sa), (5, sd), (70000, sc), (18446744073709551615, sb)]) := Lib.hid (L6.out.step h7 f7)
  clear h7 f7 L6
  go_wp2_with fail
  rw [rounds_succ]
  go_wp2_with fail
  refine (s_pop L7.out.st (L7.out.tab HT.out) (L7.out.tg HG.out)).mono ?_
  rintro e w8 ⟨rfl, o8, h8, f8⟩
  have L8 : Hid (Lv w w8 o8 cb 9 5 [(5, sd), (70000, sc), (18446744073709551615, sb)]) := Lib.hid (L7.out.step h8 f8)
  clear h8 f8 L7
  go_wp2_with fail
  rw [rounds_succ]
  go_wp2_with fail
  refine (s_pop L8.out.st (L8.out.tab HT.out) (L8.out.tg HG.out)).mono ?_
  rintro e w9 ⟨rfl, o9, h9, f9⟩
  have L9 : Hid (Lv w w9 o9 cb 9 5 [(70000, sc), (18446744073709551615, sb)]) := Lib.hid (L8.out.step h9 f9)
  clear h9 f9 L8
  go_wp2_with fail
  rw [rounds_succ]
  go_wp2_with fail
  refine (s_pop L9.out.st (L9.out.tab HT.out) (L9.out.tg HG.out)).mono ?_
  rintro e wA ⟨rfl, oA, hA, fA⟩
  have LA : Hid (Lv w wA oA cb 9 5 [(18446744073709551615, sb)]) := Lib.hid (L9.out.step hA fA)
  clear hA fA L9
  go_wp2_with fail
  rw [rounds_succ]
  go_wp2_with fail
  refine (s_pop LA.out.st (LA.out.tab HT.out) (LA.out.tg HG.out)).mono ?_
  rintro e wB ⟨rfl, oB, hB, fB⟩
  have LB : Hid (Lv w wB oB cb 9 5 []) := Lib.hid (LA.out.step hB fB)
  clear hB fB LA
  go_wp2_with fail
  rw [rounds_succ]
  have e9 : (ByteArray.mk #[] ++ se ++ sa ++ sd ++ sc ++ sb).toList = [101, 97, 100, 99, 98] := by kernel_rfl
  go_wp2_with fail
  refine (s_len LB.out.st).mono ?_
  rintro e wC ⟨rfl, kC, rfl⟩
  go_wp2_with fail
  go_ret
  exact ⟨rfl, LB.out.upd.drewN kC⟩
end Go.Proofs.YtjbaibnmbeabnaaDoor.CalS
namespace Go.Proofs.YtjbaibnmbeabnaaDoor.CalI
open Go.RowKit Go.Proofs BigFrame Cal
open Wheel (Tab)
set_option maxHeartbeats 4000000
set_option maxRecDepth 1000000
theorem all_nil (w : World) : Calls Tryd.prog 31 #[.pointer none] w fun e w' => e = .returned (.slice none 0 0) ∧ ∃ k, w' = w.drewN k := by
  have HL := Lib.hid (len_nil w)
  go_enter Tryd.func31, Tryd.ntmps31
  go_wp2_with fail
  refine (HL.out).mono ?_
  rintro e w' ⟨rfl, k, rfl⟩
  go_wp2_with fail
  go_ret
  exact ⟨rfl, k, rfl⟩
theorem nobody_law (rank : Nat) (x : Int) (w : World) (hT : Tab w) (hG : Tryd.tz64_ren.g 1 < w.heap.size) : Calls Tryd.prog 8 #[.int .u64 rank, .int .i64 x] w fun e w' => e = .returned (.bool true) ∧ Upd Nowhere w w' := by
  have HL := fun u (hu : Upd Nowhere w u) => Lib.hid (CalS.lives u (hT.old hu id) (Nat.lt_of_lt_of_le hG hu.size))
  clear hT hG
  go_enter Tryd.func8, Tryd.ntmps8
  go_wp2_with fail
  refine (peek_nil w).mono ?_
  rintro e w1 ⟨rfl, u1⟩
  go_wp2_with fail
  refine (pop_nil w1).mono ?_
  rintro e w2 ⟨rfl, u2⟩
  have U2 := Lib.hid (u1.trans u2 (fun _ _ h => h))
  clear u1 u2
  go_wp2_with fail
  refine (push_nil w2 rank x).mono ?_
  rintro e w3 ⟨rfl, u3⟩
  have U3 := Lib.hid (U2.out.trans u3 (fun _ _ h => h))
  clear u3 U2
  go_wp2_with fail
  refine (len_nil w3).mono ?_
  rintro e w4 ⟨rfl, k4, rfl⟩
  go_wp2_with fail
  refine (all_nil (w3.drewN k4)).mono ?_
  rintro e w5 ⟨rfl, k5, rfl⟩
  have hU : Upd Nowhere w (w3.drewN (k4 + k5)) := U3.out.drewN _
  have HU := Lib.hid hU
  have HLL := Lib.hid (HL _ hU).out
  clear hU HL U3
  go_wp2_with fail
  refine HLL.out.mono ?_
  rintro e w6 ⟨rfl, u6⟩
  go_wp2_with fail
  go_ret
  exact ⟨rfl, HU.out.trans u6 (fun _ _ h => h)⟩
end Go.Proofs.YtjbaibnmbeabnaaDoor.CalI
namespace Go.Proofs.YtjbaibnmbeabnaaDoor.CalI
open Go.RowKit Go.Proofs BigFrame Cal
open Wheel (Tab)
open HeapI (Hq q_new q_len q_push q_peek q_peek0 q_pop q_full q_pop0)
set_option maxHeartbeats 1000000
abbrev TPp : TypeId := 29
/-- A row of pointers. -/
def rowC (v : Value) (n : Nat) (xs : List Value) : Comp := ⟨fun w o => w.ownsRow 0 TPp 1 v n xs ∧ ∀ k, o k ↔ v.ownBlock = some k, fun h hu hS => ⟨ownsRow_upd h.1 hu (fun k hk => hS k ((h.2 k).2 hk)), h.2⟩, fun h hk => (h.1.lt _ ((h.2 _).1 hk)).2⟩
section
variable {w0 w : World} {l : List Comp}
theorem row_start (h : Made w0 w l) : Made w0 w (rowC (.slice none 0 0) 0 [] :: l) :=
  h.more (C := rowC (.slice none 0 0) 0 []) (o := fun _ => False) ⟨ownsRow_nil _ _ _ _, fun k => ⟨fun h => h.elim, fun h => by simp [Value.ownBlock] at h⟩⟩ (fun _ h => h.elim) (Upd.refl _ _)
theorem row_own (l1 l2 : List Comp) {v : Value} {n : Nat} {xs : List Value} (h : Made w0 w (l1 ++ rowC v n xs :: l2)) : w.ownsRow 0 TPp 1 v n xs := by
  obtain ⟨_, ⟨h1, _⟩, _, _⟩ := Made.foc (rowC v n xs) l2 l1 h
  exact h1
theorem row_push (l1 l2 : List Comp) {v v' : Value} {n : Nat} {xs : List Value} {x : Value} {w1 w2 : World} (h : Made w0 w (l1 ++ rowC v n xs :: l2)) (hx : Upd Nowhere w w1)
    (ho : w2.ownsRow 0 TPp 1 v' (n + 1) (xs ++ [x])) (hu : Upd (fun k => v.ownBlock = some k) w1 w2) (hn : OwnOrNew w1 v v') : Made w0 w2 (l1 ++ rowC v' (n + 1) (xs ++ [x]) :: l2) := by
  obtain ⟨o, ⟨_, h2⟩, _, h3⟩ := Made.foc (rowC v n xs) l2 l1 (h.old hx)
  exact h3 w2 (fun k => v'.ownBlock = some k) (rowC v' (n + 1) (xs ++ [x])) ⟨ho, fun _ => Iff.rfl⟩ ⟨fun k hk => (hn k hk).imp (fun h => (h2 k).2 h) id, hu.mono fun k _ hk => (h2 k).2 hk⟩
theorem mh_new (h : Made w0 w l) (room : Nat) (h1 : 1 ≤ room) (h2 : room ≤ 4096) :
    Calls Tryd.prog 10 #[.int .i64 room] w fun e w' => ∃ b, e = .returned (.tuple #[.pointer (some ⟨b, 0, none⟩), .int .i64 0]) ∧ Made w0 w' (heapC b room 0 [] :: l) := by
  refine (q_new room w h1 h2).mono ?_
  rintro e w' ⟨rfl, ⟨own, hq, ho⟩, hu⟩
  exact ⟨_, rfl, h.more (C := heapC w.heap.size room 0 []) hq ho hu⟩
theorem mh_push (l1 l2 : List Comp) {b room c : Nat} {M : List (Nat × Int)} (h : Made w0 w (l1 ++ heapC b room c M :: l2)) (hc : c < 18446744073709551615) (r : Nat) (x : Int) {v : Bool} (hv : decide (M.length < room) = v) :
    Calls Tryd.prog 12 #[.pointer (some ⟨b, 0, none⟩), .int .u64 r, .int .i64 x] w fun e w' => e = .returned (.bool v) ∧ Made w0 w' (l1 ++ heapC b room (c + 1) (psh room r x M) :: l2) := by
  subst hv
  obtain ⟨o, h1, h2, h3⟩ := Made.foc _ _ _ h
  have h1 : Hq w b o room c M := h1
  by_cases hl : M.length < room
  · rw [decide_eq_true hl]
    refine (q_push h1 hl hc r x).mono ?_
    rintro e w' ⟨rfl, ⟨own', hq, ho⟩, hu⟩
    refine ⟨rfl, ?_⟩
    unfold psh
    rw [if_pos hl]
    exact h3 w' own' (heapC b room (c + 1) (ins r x M)) hq ⟨ho, hu⟩
  · rw [decide_eq_false hl]
    refine (q_full h1 (by have := h1.le; omega) r x).mono ?_
    rintro e w' ⟨rfl, hu⟩
    refine ⟨rfl, ?_⟩
    unfold psh
    rw [if_neg hl]
    exact h3 w' o (heapC b room (c + 1) M) ((Hq.kept (S := Nowhere) h1 hu (fun _ _ h => h)).more (Nat.le_succ c)) ((Fol.refl w o).old hu)
theorem mh_pop (l1 l2 : List Comp) {b room c : Nat} {M : List (Nat × Int)} (h : Made w0 w (l1 ++ heapC b room c M :: l2)) {r : Nat} {x : Int} {v : Bool} (hv : fst1 M = (r, x, v)) :
    Calls Tryd.prog 14 #[.pointer (some ⟨b, 0, none⟩)] w fun e w' => e = .returned (.tuple #[.int .u64 r, .int .i64 x, .bool v]) ∧ Made w0 w' (l1 ++ heapC b room c M.tail :: l2) := by
  obtain ⟨o, h1, h2, h3⟩ := Made.foc _ _ _ h
  have h1 : Hq w b o room c M := h1
  cases M with
  | nil =>
    injection hv with e1 e2
    injection e2 with e2 e3
    subst e1; subst e2; subst e3
    refine (q_pop0 h1).mono ?_
    rintro e w' ⟨rfl, hu⟩
    exact ⟨rfl, h3 w' o (heapC b room c []) (Hq.kept (S := Nowhere) h1 hu (fun _ _ h => h)) ((Fol.refl w o).old hu)⟩
  | cons a t =>
    injection hv with e1 e2
    injection e2 with e2 e3
    subst e1; subst e2; subst e3
    refine (q_pop h1).mono ?_
    rintro e w' ⟨rfl, ⟨own', hq, ho⟩, hu⟩
    exact ⟨rfl, h3 w' own' (heapC b room c t) hq ⟨ho, hu⟩⟩
theorem mh_peek (l1 l2 : List Comp) {b room c : Nat} {M : List (Nat × Int)} (h : Made w0 w (l1 ++ heapC b room c M :: l2)) {r : Nat} {x : Int} {v : Bool} (hv : fst1 M = (r, x, v)) :
    Calls Tryd.prog 16 #[.pointer (some ⟨b, 0, none⟩)] w fun e w' => e = .returned (.tuple #[.int .u64 r, .int .i64 x, .bool v]) ∧ Made w0 w' (l1 ++ heapC b room c M :: l2) := by
  obtain ⟨o, h1, h2, h3⟩ := Made.foc _ _ _ h
  have h1 : Hq w b o room c M := h1
  have h0 := h
  cases M with
  | nil =>
    injection hv with e1 e2
    injection e2 with e2 e3
    subst e1; subst e2; subst e3
    refine (q_peek0 h1).mono ?_
    rintro e w' ⟨rfl, hu⟩
    exact ⟨rfl, h0.old hu⟩
  | cons a t =>
    injection hv with e1 e2
    injection e2 with e2 e3
    subst e1; subst e2; subst e3
    refine (q_peek h1).mono ?_
    rintro e w' ⟨rfl, hu⟩
    exact ⟨rfl, h0.old hu⟩
/-- The cells of a row of three. -/
theorem row_cells (l1 l2 : List Comp) {g c : Nat} {p0 p1 p2 : Value} (h : Made w0 w (l1 ++ rowC (.slice (some ⟨g, 0, none⟩) 3 c) 3 [p0, p1, p2] :: l2)) : w.cell? ⟨g, 0, none⟩ = some p0 ∧ w.cell? ⟨g, 1, none⟩ = some p1 ∧ w.cell? ⟨g, 2, none⟩ = some p2 := by
  obtain ⟨cur, hb, _, _, _, ht⟩ := Blk.own (row_own l1 l2 h)
  have e : ∀ (j : Nat) (u : Value), [p0, p1, p2][j]? = some u → cur[j]? = some u := fun j u hj => by
    rw [← ht] at hj
    have hl : j < 3 * 1 := by
      rcases Nat.lt_or_ge j 3 with h | h
      · omega
      · rw [List.getElem?_eq_none (by simp; omega)] at hj; cases hj
    rw [List.getElem?_take_of_lt hl] at hj
    simpa using hj
  exact ⟨hb.cellAt (e 0 p0 rfl), hb.cellAt (e 1 p1 rfl), hb.cellAt (e 2 p2 rfl)⟩
end
end Go.Proofs.YtjbaibnmbeabnaaDoor.CalI
namespace Go.Proofs.YtjbaibnmbeabnaaDoor.CalI
open Go.RowKit Go.Proofs BigFrame Cal
open Wheel (Tab)
set_option maxHeartbeats 4000000
set_option maxRecDepth 1000000
abbrev TA : TypeId := 34
section
variable {w0 w : World}
theorem tw_push2 {C1 C3 : Comp} {cb room c : Nat} {M : List (Nat × Int)} (h : Made w0 w [C1, calC cb room c M, C3]) (hc : c < 18446744073709551615) (r : Nat) (hr : r ≤ 18446744073709551615) (x : Int) {v : Bool} (hv : decide (M.length < room) = v) :
    Calls Tryd.prog 13 #[.pointer (some ⟨cb, 0, none⟩), .int .u64 r, .int .i64 x] w fun e w' => e = .returned (.bool v) ∧ Made w0 w' [C1, calC cb room (c + 1) (psh room r x M), C3] := m_push [C1] [C3] h hc r hr x hv
theorem tw_push3 {C1 C2 : Comp} {cb room c : Nat} {M : List (Nat × Int)} (h : Made w0 w [C1, C2, calC cb room c M]) (hc : c < 18446744073709551615) (r : Nat) (hr : r ≤ 18446744073709551615) (x : Int) {v : Bool} (hv : decide (M.length < room) = v) :
    Calls Tryd.prog 13 #[.pointer (some ⟨cb, 0, none⟩), .int .u64 r, .int .i64 x] w fun e w' => e = .returned (.bool v) ∧ Made w0 w' [C1, C2, calC cb room (c + 1) (psh room r x M)] := m_push [C1, C2] [] h hc r hr x hv
theorem xblk {xb : Nat} {a0 a1 a2 : Value} {l : List Comp} (h : Made w0 w (blkC xb #[a0, a1, a2] TA :: l)) : Blk w xb #[a0, a1, a2] TA := by
  obtain ⟨_, ⟨h1, _⟩, _, _⟩ := Made.foc (blkC xb #[a0, a1, a2] TA) l [] h
  exact h1
theorem xcells {xb : Nat} {a0 a1 a2 : Value} {l : List Comp} (h : Made w0 w (blkC xb #[a0, a1, a2] TA :: l)) : w.cell? ⟨xb, 1, none⟩ = some a1 ∧ w.cell? ⟨xb, 2, none⟩ = some a2 := by
  obtain ⟨_, h1, h2, _⟩ := cells3 (xblk h)
  exact ⟨h1, h2⟩
end
theorem looks_big (m0 : Nat) (ad : Option Addr) (n ca : Nat) (ad2 : Option Addr) (n2 ca2 : Nat) (hbig : 200 < n ∨ 200 < n2) (w : World) (hT : Tab w) (hG : Tryd.tz64_ren.g 1 < w.heap.size) :
    Calls Tryd.prog 4 #[.int .u8 m0, .slice ad n ca, .slice ad2 n2 ca2] w fun e w' => e = .returned (.bool true) ∧ Upd Nowhere w w' := by
  have HL := fun u (hu : Upd Nowhere w u) => Lib.hid (CalS.lives u (hT.old hu id) (Nat.lt_of_lt_of_le hG hu.size))
  clear hT hG
  by_cases h1 : 200 < n
  · have t1 : decide ((n : Int) > 200) = true := decide_eq_true (by omega)
    have t2 : decide (200 < n) = true := decide_eq_true h1
    go_enter Tryd.func4, Tryd.ntmps4
    go_wp2_with fail
    refine ((HL _ (Upd.refl _ _)).out).mono ?_
    rintro e w6 ⟨rfl, u6⟩
    go_wp2_with fail
    go_ret
    exact ⟨rfl, u6⟩
  · have t1 : decide ((n : Int) > 200) = false := decide_eq_false (by omega)
    have t2 : decide (200 < n) = false := decide_eq_false h1
    have t3 : decide ((n2 : Int) > 200) = true := decide_eq_true (by omega)
    have t4 : decide (200 < n2) = true := decide_eq_true (by omega)
    go_enter Tryd.func4, Tryd.ntmps4
    go_wp2_with fail
    refine ((HL _ (Upd.refl _ _)).out).mono ?_
    rintro e w6 ⟨rfl, u6⟩
    go_wp2_with fail
    go_ret
    exact ⟨rfl, u6⟩
theorem looks_walk (m0 : Nat) (hm0 : m0 ≤ 255) (ad : Option Addr) (ca : Nat) (l : List (Nat × Nat × Int)) (hl : l.length ≤ 200) (hb : ∀ a ∈ l, a.1 ≤ 255 ∧ a.2.1 ≤ 18446744073709551615)
    (ad2 : Option Addr) (ca2 : Nat) (l2 : List Nat) (hl2 : l2.length ≤ 200) (hb2 : ∀ x ∈ l2, x ≤ 255) (w : World) (hA : Acts w ad l)
    (h02 : ad2 = none → l2 = []) (hc2 : ∀ g, ad2 = some g → ∀ (j x : Nat), l2[j]? = some x → g.spot = none ∧ w.cell? ⟨g.block, g.off + j, none⟩ = some (.int .u8 x)) (hT : Tab w) (hG : Tryd.tz64_ren.g 1 < w.heap.size) :
    Calls Tryd.prog 4 #[.int .u8 m0, .slice ad l.length ca, .slice ad2 l2.length ca2] w fun e w' => e = .returned (.bool true) ∧ Upd Nowhere w w' := by
  obtain ⟨n, hn⟩ : ∃ n, l.length = n := ⟨_, rfl⟩
  obtain ⟨n2, hn2⟩ : ∃ n2, l2.length = n2 := ⟨_, rfl⟩
  rw [hn] at hl ⊢
  rw [hn2] at hl2 ⊢
  have t1 : decide ((n : Int) > 200) = false := decide_eq_false (by omega)
  have t2 : decide (200 < n) = false := decide_eq_false (by omega)
  have t3 : decide ((n2 : Int) > 200) = false := decide_eq_false (by omega)
  have t4 : decide (200 < n2) = false := decide_eq_false (by omega)
  obtain ⟨q, hq⟩ : ∃ q, m0 % 3 = q := ⟨_, rfl⟩
  have hq3 : q < 3 := by omega
  have eq1 : (m0 : Int) % 3 = (q : Int) := by omega
  have eq2 : (m0 : Int).tmod 3 = (q : Int) := by rw [Int.tmod_eq_emod_of_nonneg (by omega)]; omega
  obtain ⟨L, hL⟩ : ∃ L, q + 1 = L := ⟨_, rfl⟩
  have eq3 : (q : Int) + 1 = (L : Int) := by omega
  have hL1 : 1 ≤ L := by omega
  have hL3 : L ≤ 3 := by omega
  have HN := Lib.hid hn
  have HN2 := Lib.hid hn2
  have HB := Lib.hid hb
  have HB2 := Lib.hid hb2
  have HA := Lib.hid hA
  have H02 := Lib.hid h02
  have HC2 := Lib.hid hc2
  have HT := Lib.hid hT
  have HG := Lib.hid hG
  clear hL
  clear hn hn2 hb hb2 hA h02 hc2 hT hG hq
  go_enter Tryd.func4, Tryd.ntmps4
  go_wp2_with fail
  refine (m_new (Made.start w) 4096 L (by omega) (by omega) hL1 hL3).mono ?_
  rintro e w1 ⟨ka, rfl, h1⟩
  have H1 := Lib.hid h1
  clear h1
  go_wp2_with fail
  refine (m_new H1.out 4096 L (by omega) (by omega) hL1 hL3).mono ?_
  rintro e w2 ⟨kb, rfl, h2⟩
  have H2 := Lib.hid h2
  clear h2 H1 eq1 eq2 eq3
  go_wp2_with fail
  go_loopw [52] (fun i wr => ∃ (k c : Nat) (M : List (Nat × Int)), k ≤ n ∧ i = .int .i64 k ∧ c ≤ k ∧ Made w wr [calC kb 4096 c M, calC ka 4096 c M]) (fun i _ => n - (intOf i).toNat)
  case atStart => exact ⟨0, 0, [], Nat.zero_le _, rfl, Nat.le_refl _, H2.out⟩
  case round =>
    clear H2
    obtain ⟨k, c, M, hk, rfl, hck, hM⟩ := hrel
    obtain ⟨wB, rfl⟩ : ∃ x, x = wr := ⟨_, rfl⟩
    have H0 := Lib.hid hM
    have HCK := Lib.hid hck
    by_cases hlt : k < n
    · have hI : (k : Int) < n := by omega
      obtain ⟨⟨K, R, X⟩, hx⟩ : ∃ a, l[k]? = some a := ⟨l[k]'(by rw [HN.out]; exact hlt), by simp⟩
      have hKR := HB.out _ (List.mem_of_getElem? hx)
      simp only at hKR
      obtain ⟨ga, oa, rfl, r0, r1, r2, r1', r2'⟩ := HA.out.get hM.upd hx
      have hmore := hM.more (C := blkC wB.heap.size #[.int .u8 K, .int .u64 R, .int .i64 X] TA) (o := fun q => q = wB.heap.size) ⟨Blk.new wB #[.int .u8 K, .int .u64 R, .int .i64 X] TA, fun _ => Iff.rfl⟩ (fun q hq => by rw [hq]; exact Nat.le_refl _) ((Upd.refl _ _).alloc _)
      have HM := Lib.hid hmore
      clear hM hmore hx hck H0
      go_upto_block 2 with fail
      obtain ⟨wA, hwA⟩ : ∃ wA, wB.alloc (.cells #[.int .u8 K, .int .u64 R, .int .i64 X] TA) = wA := ⟨_, rfl⟩
      obtain ⟨xb, hxb⟩ : ∃ xb, wB.heap.size = xb := ⟨_, rfl⟩
      rw [hwA] at HM ⊢
      rw [hxb] at HM
      try simp only [hxb]
      clear hwA hxb r0 r1 r2 r1' r2'
      obtain ⟨⟨rr, xx, vv⟩, hfst⟩ : ∃ p, fst1 M = p := ⟨_, rfl⟩
      have HFST := Lib.hid hfst
      obtain ⟨m, hm⟩ : ∃ m, M.length = m := ⟨_, rfl⟩
      obtain ⟨v, hv⟩ : ∃ v, decide (M.length < 4096) = v := ⟨_, rfl⟩
      have HV := Lib.hid hv
      clear hfst hv hm
      go_cut [14] from 57 to 74 (fun _ wc => Made w wc [blkC xb #[.int .u8 K, .int .u64 R, .int .i64 X] TA, calC kb 4096 c M, calC ka 4096 c M])
      case first =>
        as_aux_lemma =>
          go_wp2_with fail
          go_loopw [14] (fun v wi => ∃ j : Nat, v = .int .i64 j ∧ j ≤ 3 ∧ Made w wi [blkC xb #[.int .u8 K, .int .u64 R, .int .i64 X] TA, calC kb 4096 c M, calC ka 4096 c M]) (fun v _ => 3 - (intOf v).toNat)
          case atStart => exact ⟨0, rfl, by omega, HM.out⟩
          case round =>
            clear HM
            obtain ⟨j, rfl, hj, hmi⟩ := hrel
            obtain ⟨wi, rfl⟩ : ∃ x, x = wr := ⟨_, rfl⟩
            have HMI := Lib.hid hmi
            by_cases hk2 : k < n2
            · have hI2 : (k : Int) < n2 := by omega
              have d2 : decide ((k : Int) < n2) = true := decide_eq_true hI2
              obtain ⟨y, hy⟩ : ∃ y, l2[k]? = some y := ⟨l2[k]'(by rw [HN2.out]; exact hk2), by simp⟩
              have hy9 := HB2.out y (List.mem_of_getElem? hy)
              obtain ⟨t, ht⟩ : ∃ t, y % 3 = t := ⟨_, rfl⟩
              have ht3 : t < 3 := by omega
              have ey1 : (y : Int) % 3 = (t : Int) := by omega
              have ey2 : (y : Int).tmod 3 = (t : Int) := by rw [Int.tmod_eq_emod_of_nonneg (by omega)]; omega
              obtain ⟨g2, o2, rfl, hcx⟩ : ∃ g o, ad2 = some ⟨g, o, none⟩ ∧ w.cell? ⟨g, o + k, none⟩ = some (.int .u8 (y : Nat)) := by
                cases ad2 with
                | none => have := H02.out rfl; rw [this] at hy; cases hy
                | some b =>
                  obtain ⟨hs, hc⟩ := HC2.out b rfl k y hy
                  obtain ⟨g, o, sp⟩ := b
                  simp only at hs
                  subst hs
                  exact ⟨g, o, rfl, hc⟩
              have hcy := cell_old hmi.upd hcx
              clear hcx hy ht hmi
              by_cases hjt : j < t
              · have d3 : decide ((j : Int) < t) = true := decide_eq_true (by omega)
                have d4 : decide (j < t) = true := decide_eq_true hjt
                go_wp2_with fail
                refine (m_peek [blkC xb #[.int .u8 K, .int .u64 R, .int .i64 X] TA] [calC ka 4096 c M] HMI.out HT.out HG.out HFST.out).mono ?_
                rintro e w5 ⟨rfl, h5⟩
                have H5 := Lib.hid h5
                clear h5 hcy
                go_wp2_with fail
                go_roundw
                case rel => exact ⟨j + 1, by first | rfl | go_num, by omega, H5.out⟩
                case measure => simp [intOf]; omega
              · have d3 : decide ((j : Int) < t) = false := decide_eq_false (by omega)
                have d4 : decide (j < t) = false := decide_eq_false hjt
                go_wp2_with fail
                go_meet
                exact HMI.out
            · have hI2 : ¬ (k : Int) < n2 := by omega
              have d2 : decide ((k : Int) < n2) = false := decide_eq_false hI2
              have d3 : decide (k < n2) = false := decide_eq_false hk2
              clear hmi
              go_wp2_with fail
              go_meet
              exact HMI.out
      case rest =>
        as_aux_lemma =>
          have HC := Lib.hid hcut
          obtain ⟨wC, rfl⟩ : ∃ x, x = wc := ⟨_, rfl⟩
          clear HM hcut
          obtain ⟨k0, k1, k2, y0, y1, y2⟩ := cells3 (xblk HC.out)
          obtain ⟨g9, hg9⟩ : ∃ g9, K % 2 = g9 := ⟨_, rfl⟩
          have eg1 : (K : Int) % 2 = (g9 : Int) := by omega
          have eg2 : (K : Int).tmod 2 = (g9 : Int) := by rw [Int.tmod_eq_emod_of_nonneg (by omega)]; omega
          have hR9 := hKR.2
          by_cases hg0 : g9 = 0
          · subst hg0
            have HAd := HC.out.old ((Upd.refl Nowhere wC).drew)
            have hb1 : (v != v) = false := by cases v <;> rfl
            clear eg1 hg9
            go_upto_region 16 with fail
            go_region_held3 (fun w' => w'.cell? ⟨xb, 1, none⟩ = some (.int .u64 R) ∧ w'.cell? ⟨xb, 2, none⟩ = some (.int .i64 X)) (first | exact ⟨k1, k2⟩ | assumption) (first
              | (go_at_call 13; (first
                | (with_reducible refine (tw_push3 h12 (by have := HCK.out; omega) R hR9 X HV.out).mono ?_; rintro e w11 ⟨rfl, h11⟩; have hS11 := xcells h11)
                | (with_reducible refine (tw_push2 h11 (by have := HCK.out; omega) R hR9 X HV.out).mono ?_; rintro e w12 ⟨rfl, h12⟩; have hS12 := xcells h12)
                | (with_reducible refine (tw_push3 HAd (by have := HCK.out; omega) R hR9 X HV.out).mono ?_; rintro e w11 ⟨rfl, h11⟩; have hS11 := xcells h11)
                | (with_reducible refine (tw_push2 HAd (by have := HCK.out; omega) R hR9 X HV.out).mono ?_; rintro e w12 ⟨rfl, h12⟩; have hS12 := xcells h12))))
            all_goals
              go_wp2_with fail
              go_roundw
              case rel => first | exact ⟨k + 1, c + 1, _, by omega, by first | rfl | go_num, by have := HCK.out; omega, h12.drop⟩ | exact ⟨k + 1, c + 1, _, by omega, by first | rfl | go_num, by have := HCK.out; omega, h11.drop⟩
              case measure => simp [intOf]; omega
          · have hz9 : ((g9 : Int) == 0) = false := by simp; omega
            have hn9 : ¬ (g9 : Int) = 0 := by omega
            clear hg9
            go_wp2_with fail
            refine (m_pop [blkC xb #[.int .u8 K, .int .u64 R, .int .i64 X] TA, calC kb 4096 c M] [] HC.out HT.out HG.out HFST.out).mono ?_
            rintro e w5 ⟨rfl, h5⟩
            have H5 := Lib.hid h5
            clear h5 k0 k1 k2 y0 y1 y2
            go_wp2_with fail
            refine (m_pop [blkC xb #[.int .u8 K, .int .u64 R, .int .i64 X] TA] [calC ka 4096 c M.tail] H5.out HT.out HG.out HFST.out).mono ?_
            rintro e w6 ⟨rfl, h6⟩
            have H6 := Lib.hid h6
            have hb1 : (vv != vv) = false := by cases vv <;> rfl
            clear h6
            go_wp2_with fail
            go_roundw
            case rel => exact ⟨k + 1, c, M.tail, by omega, by first | rfl | go_num, by have := HCK.out; omega, H6.out.drop⟩
            case measure => simp [intOf]; omega
    · obtain rfl : k = n := by omega
      have hI : decide ((k : Int) < k) = false := decide_eq_false (by omega)
      obtain ⟨m, hm⟩ : ∃ m, M.length = m := ⟨_, rfl⟩
      have HLA := Lib.hid (m_len [calC kb 4096 c M] [] H0.out hm)
      have HLB := fun j => Lib.hid (m_len [] [calC ka 4096 c M] (H0.out.old ((Upd.refl _ _).drewN j)) hm)
      have HLV := fun j => Lib.hid (CalS.lives (wB.drewN j) (Made.tab (H0.out.old ((Upd.refl _ _).drewN j)) HT.out) (Nat.lt_of_lt_of_le HG.out (H0.out.old ((Upd.refl _ _).drewN j)).upd.size))
      clear hM hm
      go_wp2_with fail
      refine HLA.out.mono ?_
      rintro e w5 ⟨rfl, k5, rfl⟩
      go_wp2_with fail
      refine (HLB k5).out.mono ?_
      rintro e w6 ⟨rfl, k6, rfl⟩
      go_wp2_with fail
      refine (HLV (k5 + k6)).out.mono ?_
      rintro e w7 ⟨rfl, u7⟩
      go_wp2_with fail
      go_ret
      exact ⟨rfl, ((H0.out.upd.drewN (k5 + k6))).trans u7 (fun _ _ h => h)⟩
end Go.Proofs.YtjbaibnmbeabnaaDoor.CalI
namespace Go.Proofs.YtjbaibnmbeabnaaDoor.CalI
open Go.RowKit Go.Proofs BigFrame Cal
open Wheel (Tab)
set_option maxHeartbeats 1000000
theorem row8 {v : Value} {l : List Int} {w : World} (hr : RowAt w v (l.map (.int .u8))) (hb : ∀ x ∈ l, 0 ≤ x ∧ x ≤ 255) : (∃ ad c, v = .slice ad (l.map Int.toNat).length c ∧ (ad = none → l.map Int.toNat = []) ∧ ∀ g, ad = some g → ∀ (j x : Nat), (l.map Int.toNat)[j]? = some x → g.spot = none ∧ w.cell? ⟨g.block, g.off + j, none⟩ = some (.int .u8 x)) ∧ ∀ x ∈ l.map Int.toNat, x ≤ 255 := by
  obtain ⟨ad, c, rfl, h0, h1⟩ := hr
  refine ⟨⟨ad, c, by rw [List.length_map, List.length_map], fun hn => by have h9 := (h0 hn).1; rw [List.map_eq_nil_iff] at h9; rw [h9]; rfl, fun g hg j x hx => ?_⟩, fun x hx => by obtain ⟨y, hy, rfl⟩ := List.mem_map.1 hx; have := hb y hy; omega⟩
  rw [List.getElem?_map] at hx
  cases hy : l[j]? with
  | none => rw [hy] at hx; cases hx
  | some y =>
    rw [hy] at hx
    have e9 : y.toNat = x := Option.some.inj hx
    have hy2 := hb y (List.mem_of_getElem? hy)
    have h9 := h1 g hg j (.int .u8 y) (by rw [List.getElem?_map, hy]; rfl)
    rw [← e9, Int.toNat_of_nonneg hy2.1]
    exact h9
theorem bd8 {n : Int} (h : (Lit.int .u8 n).wf = true) : 0 ≤ n ∧ n ≤ 255 := by
  simp [Lit.wf, IntKind.min, IntKind.max, IntKind.bits, IntKind.signed] at h
  omega
theorem looks_law (m0 : Nat) (hm0 : m0 ≤ 255) (v : Value) (l : List (Nat × Nat × Int)) (hb : ∀ a ∈ l, a.1 ≤ 255 ∧ a.2.1 ≤ 18446744073709551615) (v2 : Value) (l2 : List Int) (w : World) (hv : RowsAt w v l.length (l.flatMap act)) (hr2 : RowAt w v2 (l2.map (.int .u8))) (hw2 : ∀ n ∈ l2, (Lit.int .u8 n).wf = true) (hT : Tab w) (hG : Tryd.tz64_ren.g 1 < w.heap.size) :
    Calls Tryd.prog 4 #[.int .u8 m0, v, v2] w fun e w' => e = .returned (.bool true) ∧ Upd Nowhere w w' := by
  obtain ⟨ad, ca, rfl, h0, _, hca, hc⟩ := hv
  obtain ⟨⟨ad2, ca2, rfl, h02, hc2⟩, hl2⟩ := row8 hr2 (fun x hx => bd8 (hw2 x hx))
  by_cases hbig : 200 < l.length ∨ 200 < (l2.map Int.toNat).length
  · exact looks_big m0 ad _ ca ad2 _ ca2 hbig w hT hG
  · exact looks_walk m0 hm0 ad ca l (by omega) hb ad2 ca2 _ (by omega) hl2 w ⟨fun h => (h0 h).1, hc⟩ h02 hc2 hT hG
end Go.Proofs.YtjbaibnmbeabnaaDoor.CalI
namespace Go.Proofs.YtjbaibnmbeabnaaDoor.CalI
open Go.RowKit Go.Proofs BigFrame Cal
open Wheel (Tab)
set_option maxHeartbeats 8000000
set_option maxRecDepth 1000000
theorem infoP : (Tryd.prog.info? TPp).map (fun i => (i.zero, i.size, i.bytes)) = some (some (.pointer none), 1, 8) := by kernel_rfl
theorem form1 {w : World} {v : Value} {n : Nat} {xs : List Value} (hn : 0 < n) (h : w.ownsRow 0 TPp 1 v n xs) : ∃ g c, v = .slice (some ⟨g, 0, none⟩) n c := by
  rcases h.2 with ⟨_, h0⟩ | ⟨g, c, cur, rfl, _⟩
  · omega
  · exact ⟨g, c, rfl⟩
/-- The calendars, the row of them, and the heap. -/
abbrev allL (k2 k1 k0 gg cc hb c c2 c1 c0 : Nat) (M M2 M1 M0 : List (Nat × Int)) : List Comp :=
  [calC k2 100 c2 M2, calC k1 100 c1 M1, calC k0 100 c0 M0, rowC (.slice (some ⟨gg, 0, none⟩) 3 cc) 3 [.pointer (some ⟨k0, 0, none⟩), .pointer (some ⟨k1, 0, none⟩), .pointer (some ⟨k2, 0, none⟩)], heapC hb 100 c M]
theorem alike_big (ad : Option Addr) (n ca : Nat) (h1 : 200 < n) (w : World) (hT : Tab w) (hG : Tryd.tz64_ren.g 1 < w.heap.size) :
    Calls Tryd.prog 3 #[.slice ad n ca] w fun e w' => e = .returned (.bool true) ∧ Upd Nowhere w w' := by
  have HL := Lib.hid (CalS.lives w hT hG)
  clear hT hG
  have t1 : decide ((n : Int) > 200) = true := decide_eq_true (by omega)
  have t2 : decide (200 < n) = true := decide_eq_true h1
  go_enter Tryd.func3, Tryd.ntmps3
  go_wp2_with fail
  refine (HL.out).mono ?_
  rintro e w6 ⟨rfl, u6⟩
  go_wp2_with fail
  go_ret
  exact ⟨rfl, u6⟩
theorem alike_walk (ad : Option Addr) (ca : Nat) (l : List (Nat × Nat × Int)) (hl : l.length ≤ 200) (hb : ∀ a ∈ l, a.1 ≤ 255 ∧ a.2.1 ≤ 18446744073709551615) (w : World) (hA : Acts w ad l) (hT : Tab w) (hG : Tryd.tz64_ren.g 1 < w.heap.size) :
    Calls Tryd.prog 3 #[.slice ad l.length ca] w fun e w' => e = .returned (.bool true) ∧ Upd Nowhere w w' := by
  obtain ⟨i0, hi, hz0, hz1, hz2⟩ := info_parts infoP
  obtain ⟨n, hn⟩ : ∃ n, l.length = n := ⟨_, rfl⟩
  rw [hn] at hl ⊢
  have t1 : decide ((n : Int) > 200) = false := decide_eq_false (by omega)
  have t2 : decide (200 < n) = false := decide_eq_false (by omega)
  have HN := Lib.hid hn
  have HB := Lib.hid hb
  have HA := Lib.hid hA
  have HT := Lib.hid hT
  have HG := Lib.hid hG
  clear hn hb hA hT hG
  go_enter Tryd.func3, Tryd.ntmps3
  go_wp2_with fail
  refine (mh_new (Made.start w) 100 (by omega) (by omega)).mono ?_
  rintro e w1 ⟨hb, rfl, h1⟩
  have H1 := Lib.hid (row_start h1)
  clear h1
  go_wp2_with fail
  refine wp_loop_rounds 4 ?_
  rw [rounds_succ]
  go_wp2_with fail
  refine (m_new H1.out 100 1 (by omega) (by omega) (by omega) (by omega)).mono ?_
  rintro e w2 ⟨k0, rfl, hw2⟩
  have HNw2 := Lib.hid hw2
  have hOWN : w2.ownsRow 0 TPp 1 (.slice none 0 0) 0 [] := row_own [calC k0 100 0 []] [heapC hb 100 0 []] hw2
  have HOWNw2 := Lib.hid hOWN
  clear hw2 H1 hOWN
  go_wp2_with (at_builtin; go_loud (refine wpList_push rfl _ _ 28 rfl 0 TPp i0 (.pointer none) 1 8 Tryd.underlying28 hi hz0 hz1 hz2 rfl (by decide) (by decide) (.slice none 0 0) 0 [] rfl (ownsRow_upd HOWNw2.out ((Upd.refl Nowhere w2).alloc _) (fun _ _ h => h)) w2.heap.size 1 [.pointer (some ⟨k0, 0, none⟩)] rfl rfl (new_cells w2 #[.pointer (some ⟨k0, 0, none⟩)] _) (by simp [Value.oneCell']) (by omega) (Nat.zero_le _) ?_; intro vw3 w3 hown hu hn; have hp := row_push [calC k0 100 0 []] [heapC hb 100 0 []] HNw2.out ((Upd.refl Nowhere w2).alloc _) hown hu hn; have hown2 : w3.ownsRow 0 TPp 1 vw3 1 [.pointer (some ⟨k0, 0, none⟩)] := hown; obtain ⟨g3, c3, rfl⟩ := form1 (by decide) hown2; have Hw3 : Hid (Made w w3 [calC k0 100 0 [], rowC (.slice (some ⟨g3, 0, none⟩) 1 c3) 1 [.pointer (some ⟨k0, 0, none⟩)], heapC hb 100 0 []]) := Lib.hid hp; clear hown hown2 hu hn hp HNw2 HOWNw2))
  rw [rounds_succ]
  go_wp2_with fail
  refine (m_new Hw3.out 100 2 (by omega) (by omega) (by omega) (by omega)).mono ?_
  rintro e w4 ⟨k1, rfl, hw4⟩
  have HNw4 := Lib.hid hw4
  have hOWN : w4.ownsRow 0 TPp 1 (.slice (some ⟨g3, 0, none⟩) 1 c3) 1 [.pointer (some ⟨k0, 0, none⟩)] := row_own [calC k1 100 0 [], calC k0 100 0 []] [heapC hb 100 0 []] hw4
  have HOWNw4 := Lib.hid hOWN
  clear hw4 Hw3 hOWN
  go_wp2_with (at_builtin; go_loud (refine wpList_push rfl _ _ 28 rfl 0 TPp i0 (.pointer none) 1 8 Tryd.underlying28 hi hz0 hz1 hz2 rfl (by decide) (by decide) (.slice (some ⟨g3, 0, none⟩) 1 c3) 1 [.pointer (some ⟨k0, 0, none⟩)] rfl (ownsRow_upd HOWNw4.out ((Upd.refl Nowhere w4).alloc _) (fun _ _ h => h)) w4.heap.size 1 [.pointer (some ⟨k1, 0, none⟩)] rfl rfl (new_cells w4 #[.pointer (some ⟨k1, 0, none⟩)] _) (by simp [Value.oneCell']) (by omega) (Nat.zero_le _) ?_; intro vw5 w5 hown hu hn; have hp := row_push [calC k1 100 0 [], calC k0 100 0 []] [heapC hb 100 0 []] HNw4.out ((Upd.refl Nowhere w4).alloc _) hown hu hn; have hown2 : w5.ownsRow 0 TPp 1 vw5 2 [.pointer (some ⟨k0, 0, none⟩), .pointer (some ⟨k1, 0, none⟩)] := hown; obtain ⟨g5, c5, rfl⟩ := form1 (by decide) hown2; have Hw5 : Hid (Made w w5 [calC k1 100 0 [], calC k0 100 0 [], rowC (.slice (some ⟨g5, 0, none⟩) 2 c5) 2 [.pointer (some ⟨k0, 0, none⟩), .pointer (some ⟨k1, 0, none⟩)], heapC hb 100 0 []]) := Lib.hid hp; clear hown hown2 hu hn hp HNw4 HOWNw4))
  rw [rounds_succ]
  go_wp2_with fail
  refine (m_new Hw5.out 100 3 (by omega) (by omega) (by omega) (by omega)).mono ?_
  rintro e w6 ⟨k2, rfl, hw6⟩
  have HNw6 := Lib.hid hw6
  have hOWN : w6.ownsRow 0 TPp 1 (.slice (some ⟨g5, 0, none⟩) 2 c5) 2 [.pointer (some ⟨k0, 0, none⟩), .pointer (some ⟨k1, 0, none⟩)] := row_own [calC k2 100 0 [], calC k1 100 0 [], calC k0 100 0 []] [heapC hb 100 0 []] hw6
  have HOWNw6 := Lib.hid hOWN
  clear hw6 Hw5 hOWN
  go_wp2_with (at_builtin; go_loud (refine wpList_push rfl _ _ 28 rfl 0 TPp i0 (.pointer none) 1 8 Tryd.underlying28 hi hz0 hz1 hz2 rfl (by decide) (by decide) (.slice (some ⟨g5, 0, none⟩) 2 c5) 2 [.pointer (some ⟨k0, 0, none⟩), .pointer (some ⟨k1, 0, none⟩)] rfl (ownsRow_upd HOWNw6.out ((Upd.refl Nowhere w6).alloc _) (fun _ _ h => h)) w6.heap.size 1 [.pointer (some ⟨k2, 0, none⟩)] rfl rfl (new_cells w6 #[.pointer (some ⟨k2, 0, none⟩)] _) (by simp [Value.oneCell']) (by omega) (Nat.zero_le _) ?_; intro vw7 w7 hown hu hn; have hp := row_push [calC k2 100 0 [], calC k1 100 0 [], calC k0 100 0 []] [heapC hb 100 0 []] HNw6.out ((Upd.refl Nowhere w6).alloc _) hown hu hn; have hown2 : w7.ownsRow 0 TPp 1 vw7 3 [.pointer (some ⟨k0, 0, none⟩), .pointer (some ⟨k1, 0, none⟩), .pointer (some ⟨k2, 0, none⟩)] := hown; obtain ⟨gg, cc, rfl⟩ := form1 (by decide) hown2; have Hw7 : Hid (Made w w7 [calC k2 100 0 [], calC k1 100 0 [], calC k0 100 0 [], rowC (.slice (some ⟨gg, 0, none⟩) 3 cc) 3 [.pointer (some ⟨k0, 0, none⟩), .pointer (some ⟨k1, 0, none⟩), .pointer (some ⟨k2, 0, none⟩)], heapC hb 100 0 []]) := Lib.hid hp; clear hown hown2 hu hn hp HNw6 HOWNw6))
  rw [rounds_succ]
  go_wp2_with fail
  go_loopw [56] (fun i wr => ∃ (k c : Nat) (M : List (Nat × Int)), k ≤ n ∧ i = .int .i64 k ∧ c ≤ k ∧ Made w wr (allL k2 k1 k0 gg cc hb c c c c M M M M)) (fun i _ => n - (intOf i).toNat)
  case atStart => exact ⟨0, 0, [], Nat.zero_le _, rfl, Nat.le_refl _, Hw7.out⟩
  case round =>
    clear Hw7
    obtain ⟨k, c, M, hk, rfl, hck, hM⟩ := hrel
    obtain ⟨wB, rfl⟩ : ∃ x, x = wr := ⟨_, rfl⟩
    have H0 := Lib.hid hM
    have HCK := Lib.hid hck
    by_cases hlt : k < n
    · have hI : (k : Int) < n := by omega
      obtain ⟨⟨K, R, X⟩, hx⟩ : ∃ a, l[k]? = some a := ⟨l[k]'(by rw [HN.out]; exact hlt), by simp⟩
      have hKR := HB.out _ (List.mem_of_getElem? hx)
      simp only at hKR
      have hR9 := hKR.2
      obtain ⟨ga, oa, rfl, r0, r1, r2, r1', r2'⟩ := HA.out.get hM.upd hx
      have hmore := hM.more (C := blkC wB.heap.size #[.int .u8 K, .int .u64 R, .int .i64 X] TA) (o := fun q => q = wB.heap.size) ⟨Blk.new wB #[.int .u8 K, .int .u64 R, .int .i64 X] TA, fun _ => Iff.rfl⟩ (fun q hq => by rw [hq]; exact Nat.le_refl _) ((Upd.refl _ _).alloc _)
      have HM := Lib.hid hmore
      have hc9 : c < 18446744073709551615 := by omega
      have HC9 := Lib.hid hc9
      have eK : (K : Int) % 4 = ((K % 4 : Nat) : Int) := rfl
      have hr4 : K % 4 < 4 := Nat.mod_lt _ (by omega)
      generalize K % 4 = r4 at *
      obtain ⟨⟨rr, xx, vv⟩, hfst⟩ : ∃ p, fst1 M = p := ⟨_, rfl⟩
      have HFST := Lib.hid hfst
      obtain ⟨v, hv⟩ : ∃ v, decide (M.length < 100) = v := ⟨_, rfl⟩
      have HV := Lib.hid hv
      have hb1 : (v != v) = false := by cases v <;> rfl
      have hb2 : (vv != vv) = false := by cases vv <;> rfl
      clear hM hmore hx hck H0 hfst hv hc9 hKR
      go_upto_region 16 with fail
      obtain ⟨wA, hwA⟩ : ∃ wA, wB.alloc (.cells #[.int .u8 K, .int .u64 R, .int .i64 X] TA) = wA := ⟨_, rfl⟩
      obtain ⟨xb, hxb⟩ : ∃ xb, wB.heap.size = xb := ⟨_, rfl⟩
      rw [hwA] at HM ⊢
      rw [hxb] at HM
      try simp only [hxb]
      clear hwA hxb r0 r1 r2 r1' r2'
      obtain ⟨j0, j1, j2, y0, y1, y2⟩ := cells3 (xblk HM.out)
      rcases (show r4 = 0 ∨ r4 = 1 ∨ r4 = 2 ∨ r4 = 3 by omega) with rfl | rfl | rfl | rfl
      · as_aux_lemma =>
          have eK4 : (K : Int) % 4 = 0 := eK
          clear eK
          go_wp2_with fail
          refine (mh_push [blkC xb #[.int .u8 K, .int .u64 R, .int .i64 X] TA, calC k2 100 c M, calC k1 100 c M, calC k0 100 c M, rowC (.slice (some ⟨gg, 0, none⟩) 3 cc) 3 [.pointer (some ⟨k0, 0, none⟩), .pointer (some ⟨k1, 0, none⟩), .pointer (some ⟨k2, 0, none⟩)]] [] HM.out HC9.out R X HV.out).mono ?_
          rintro e w4 ⟨rfl, h4⟩
          have H4 := Lib.hid h4
          clear h4 j0 j1 j2 y0 y1 y2 HM
          go_wp2_with fail
          refine wp_loop_rounds 4 ?_
          rw [rounds_succ]
          obtain ⟨p0, p1, p2⟩ := row_cells [blkC xb #[.int .u8 K, .int .u64 R, .int .i64 X] TA, calC k2 100 c M, calC k1 100 c M, calC k0 100 c M] [heapC hb 100 (c + 1) (psh 100 R X M)] H4.out
          obtain ⟨j0, j1, j2, y0, y1, y2⟩ := cells3 (xblk H4.out)
          go_wp2_with fail
          refine (m_push [blkC xb #[.int .u8 K, .int .u64 R, .int .i64 X] TA, calC k2 100 c M, calC k1 100 c M] [rowC (.slice (some ⟨gg, 0, none⟩) 3 cc) 3 [.pointer (some ⟨k0, 0, none⟩), .pointer (some ⟨k1, 0, none⟩), .pointer (some ⟨k2, 0, none⟩)], heapC hb 100 (c + 1) (psh 100 R X M)] H4.out HC9.out R hR9 X HV.out).mono ?_
          rintro e w5 ⟨rfl, h5⟩
          have H5 := Lib.hid h5
          clear h5 j0 j1 j2 y0 y1 y2 p0 p1 p2 H4
          go_wp2_with fail
          rw [rounds_succ]
          obtain ⟨p0, p1, p2⟩ := row_cells [blkC xb #[.int .u8 K, .int .u64 R, .int .i64 X] TA, calC k2 100 c M, calC k1 100 c M, calC k0 100 (c + 1) (psh 100 R X M)] [heapC hb 100 (c + 1) (psh 100 R X M)] H5.out
          obtain ⟨j0, j1, j2, y0, y1, y2⟩ := cells3 (xblk H5.out)
          go_wp2_with fail
          refine (m_push [blkC xb #[.int .u8 K, .int .u64 R, .int .i64 X] TA, calC k2 100 c M] [calC k0 100 (c + 1) (psh 100 R X M), rowC (.slice (some ⟨gg, 0, none⟩) 3 cc) 3 [.pointer (some ⟨k0, 0, none⟩), .pointer (some ⟨k1, 0, none⟩), .pointer (some ⟨k2, 0, none⟩)], heapC hb 100 (c + 1) (psh 100 R X M)] H5.out HC9.out R hR9 X HV.out).mono ?_
          rintro e w6 ⟨rfl, h6⟩
          have H6 := Lib.hid h6
          clear h6 j0 j1 j2 y0 y1 y2 p0 p1 p2 H5
          go_wp2_with fail
          rw [rounds_succ]
          obtain ⟨p0, p1, p2⟩ := row_cells [blkC xb #[.int .u8 K, .int .u64 R, .int .i64 X] TA, calC k2 100 c M, calC k1 100 (c + 1) (psh 100 R X M), calC k0 100 (c + 1) (psh 100 R X M)] [heapC hb 100 (c + 1) (psh 100 R X M)] H6.out
          obtain ⟨j0, j1, j2, y0, y1, y2⟩ := cells3 (xblk H6.out)
          go_wp2_with fail
          refine (m_push [blkC xb #[.int .u8 K, .int .u64 R, .int .i64 X] TA] [calC k1 100 (c + 1) (psh 100 R X M), calC k0 100 (c + 1) (psh 100 R X M), rowC (.slice (some ⟨gg, 0, none⟩) 3 cc) 3 [.pointer (some ⟨k0, 0, none⟩), .pointer (some ⟨k1, 0, none⟩), .pointer (some ⟨k2, 0, none⟩)], heapC hb 100 (c + 1) (psh 100 R X M)] H6.out HC9.out R hR9 X HV.out).mono ?_
          rintro e w7 ⟨rfl, h7⟩
          have H7 := Lib.hid h7
          clear h7 j0 j1 j2 y0 y1 y2 p0 p1 p2 H6
          go_wp2_with fail
          rw [rounds_succ]
          go_wp2_with fail
          go_roundw
          case rel => exact ⟨k + 1, c + 1, _, by omega, by first | rfl | go_num, by have := HCK.out; omega, H7.out.drop⟩
          case measure => simp [intOf]; omega
      · as_aux_lemma =>
          have eK4 : (K : Int) % 4 = 1 := eK
          clear eK
          go_wp2_with fail
          refine (mh_push [blkC xb #[.int .u8 K, .int .u64 R, .int .i64 X] TA, calC k2 100 c M, calC k1 100 c M, calC k0 100 c M, rowC (.slice (some ⟨gg, 0, none⟩) 3 cc) 3 [.pointer (some ⟨k0, 0, none⟩), .pointer (some ⟨k1, 0, none⟩), .pointer (some ⟨k2, 0, none⟩)]] [] HM.out HC9.out R X HV.out).mono ?_
          rintro e w4 ⟨rfl, h4⟩
          have H4 := Lib.hid h4
          clear h4 j0 j1 j2 y0 y1 y2 HM
          go_wp2_with fail
          refine wp_loop_rounds 4 ?_
          rw [rounds_succ]
          obtain ⟨p0, p1, p2⟩ := row_cells [blkC xb #[.int .u8 K, .int .u64 R, .int .i64 X] TA, calC k2 100 c M, calC k1 100 c M, calC k0 100 c M] [heapC hb 100 (c + 1) (psh 100 R X M)] H4.out
          obtain ⟨j0, j1, j2, y0, y1, y2⟩ := cells3 (xblk H4.out)
          go_wp2_with fail
          refine (m_push [blkC xb #[.int .u8 K, .int .u64 R, .int .i64 X] TA, calC k2 100 c M, calC k1 100 c M] [rowC (.slice (some ⟨gg, 0, none⟩) 3 cc) 3 [.pointer (some ⟨k0, 0, none⟩), .pointer (some ⟨k1, 0, none⟩), .pointer (some ⟨k2, 0, none⟩)], heapC hb 100 (c + 1) (psh 100 R X M)] H4.out HC9.out R hR9 X HV.out).mono ?_
          rintro e w5 ⟨rfl, h5⟩
          have H5 := Lib.hid h5
          clear h5 j0 j1 j2 y0 y1 y2 p0 p1 p2 H4
          go_wp2_with fail
          rw [rounds_succ]
          obtain ⟨p0, p1, p2⟩ := row_cells [blkC xb #[.int .u8 K, .int .u64 R, .int .i64 X] TA, calC k2 100 c M, calC k1 100 c M, calC k0 100 (c + 1) (psh 100 R X M)] [heapC hb 100 (c + 1) (psh 100 R X M)] H5.out
          obtain ⟨j0, j1, j2, y0, y1, y2⟩ := cells3 (xblk H5.out)
          go_wp2_with fail
          refine (m_push [blkC xb #[.int .u8 K, .int .u64 R, .int .i64 X] TA, calC k2 100 c M] [calC k0 100 (c + 1) (psh 100 R X M), rowC (.slice (some ⟨gg, 0, none⟩) 3 cc) 3 [.pointer (some ⟨k0, 0, none⟩), .pointer (some ⟨k1, 0, none⟩), .pointer (some ⟨k2, 0, none⟩)], heapC hb 100 (c + 1) (psh 100 R X M)] H5.out HC9.out R hR9 X HV.out).mono ?_
          rintro e w6 ⟨rfl, h6⟩
          have H6 := Lib.hid h6
          clear h6 j0 j1 j2 y0 y1 y2 p0 p1 p2 H5
          go_wp2_with fail
          rw [rounds_succ]
          obtain ⟨p0, p1, p2⟩ := row_cells [blkC xb #[.int .u8 K, .int .u64 R, .int .i64 X] TA, calC k2 100 c M, calC k1 100 (c + 1) (psh 100 R X M), calC k0 100 (c + 1) (psh 100 R X M)] [heapC hb 100 (c + 1) (psh 100 R X M)] H6.out
          obtain ⟨j0, j1, j2, y0, y1, y2⟩ := cells3 (xblk H6.out)
          go_wp2_with fail
          refine (m_push [blkC xb #[.int .u8 K, .int .u64 R, .int .i64 X] TA] [calC k1 100 (c + 1) (psh 100 R X M), calC k0 100 (c + 1) (psh 100 R X M), rowC (.slice (some ⟨gg, 0, none⟩) 3 cc) 3 [.pointer (some ⟨k0, 0, none⟩), .pointer (some ⟨k1, 0, none⟩), .pointer (some ⟨k2, 0, none⟩)], heapC hb 100 (c + 1) (psh 100 R X M)] H6.out HC9.out R hR9 X HV.out).mono ?_
          rintro e w7 ⟨rfl, h7⟩
          have H7 := Lib.hid h7
          clear h7 j0 j1 j2 y0 y1 y2 p0 p1 p2 H6
          go_wp2_with fail
          rw [rounds_succ]
          go_wp2_with fail
          go_roundw
          case rel => exact ⟨k + 1, c + 1, _, by omega, by first | rfl | go_num, by have := HCK.out; omega, H7.out.drop⟩
          case measure => simp [intOf]; omega
      · as_aux_lemma =>
          have eK4 : (K : Int) % 4 = 2 := eK
          clear eK
          go_wp2_with fail
          refine (mh_pop [blkC xb #[.int .u8 K, .int .u64 R, .int .i64 X] TA, calC k2 100 c M, calC k1 100 c M, calC k0 100 c M, rowC (.slice (some ⟨gg, 0, none⟩) 3 cc) 3 [.pointer (some ⟨k0, 0, none⟩), .pointer (some ⟨k1, 0, none⟩), .pointer (some ⟨k2, 0, none⟩)]] [] HM.out HFST.out).mono ?_
          rintro e w4 ⟨rfl, h4⟩
          have H4 := Lib.hid h4
          clear h4 j0 j1 j2 y0 y1 y2 HM
          go_wp2_with fail
          refine wp_loop_rounds 4 ?_
          rw [rounds_succ]
          obtain ⟨p0, p1, p2⟩ := row_cells [blkC xb #[.int .u8 K, .int .u64 R, .int .i64 X] TA, calC k2 100 c M, calC k1 100 c M, calC k0 100 c M] [heapC hb 100 c M.tail] H4.out
          go_wp2_with fail
          refine (m_pop [blkC xb #[.int .u8 K, .int .u64 R, .int .i64 X] TA, calC k2 100 c M, calC k1 100 c M] [rowC (.slice (some ⟨gg, 0, none⟩) 3 cc) 3 [.pointer (some ⟨k0, 0, none⟩), .pointer (some ⟨k1, 0, none⟩), .pointer (some ⟨k2, 0, none⟩)], heapC hb 100 c M.tail] H4.out HT.out HG.out HFST.out).mono ?_
          rintro e w5 ⟨rfl, h5⟩
          have H5 := Lib.hid h5
          clear h5 p0 p1 p2 H4
          go_wp2_with fail
          rw [rounds_succ]
          obtain ⟨p0, p1, p2⟩ := row_cells [blkC xb #[.int .u8 K, .int .u64 R, .int .i64 X] TA, calC k2 100 c M, calC k1 100 c M, calC k0 100 c M.tail] [heapC hb 100 c M.tail] H5.out
          go_wp2_with fail
          refine (m_pop [blkC xb #[.int .u8 K, .int .u64 R, .int .i64 X] TA, calC k2 100 c M] [calC k0 100 c M.tail, rowC (.slice (some ⟨gg, 0, none⟩) 3 cc) 3 [.pointer (some ⟨k0, 0, none⟩), .pointer (some ⟨k1, 0, none⟩), .pointer (some ⟨k2, 0, none⟩)], heapC hb 100 c M.tail] H5.out HT.out HG.out HFST.out).mono ?_
          rintro e w6 ⟨rfl, h6⟩
          have H6 := Lib.hid h6
          clear h6 p0 p1 p2 H5
          go_wp2_with fail
          rw [rounds_succ]
          obtain ⟨p0, p1, p2⟩ := row_cells [blkC xb #[.int .u8 K, .int .u64 R, .int .i64 X] TA, calC k2 100 c M, calC k1 100 c M.tail, calC k0 100 c M.tail] [heapC hb 100 c M.tail] H6.out
          go_wp2_with fail
          refine (m_pop [blkC xb #[.int .u8 K, .int .u64 R, .int .i64 X] TA] [calC k1 100 c M.tail, calC k0 100 c M.tail, rowC (.slice (some ⟨gg, 0, none⟩) 3 cc) 3 [.pointer (some ⟨k0, 0, none⟩), .pointer (some ⟨k1, 0, none⟩), .pointer (some ⟨k2, 0, none⟩)], heapC hb 100 c M.tail] H6.out HT.out HG.out HFST.out).mono ?_
          rintro e w7 ⟨rfl, h7⟩
          have H7 := Lib.hid h7
          clear h7 p0 p1 p2 H6
          go_wp2_with fail
          rw [rounds_succ]
          go_wp2_with fail
          go_roundw
          case rel => exact ⟨k + 1, c, M.tail, by omega, by first | rfl | go_num, by have := HCK.out; omega, H7.out.drop⟩
          case measure => simp [intOf]; omega
      · as_aux_lemma =>
          have eK4 : (K : Int) % 4 = 3 := eK
          clear eK
          go_wp2_with fail
          refine (mh_peek [blkC xb #[.int .u8 K, .int .u64 R, .int .i64 X] TA, calC k2 100 c M, calC k1 100 c M, calC k0 100 c M, rowC (.slice (some ⟨gg, 0, none⟩) 3 cc) 3 [.pointer (some ⟨k0, 0, none⟩), .pointer (some ⟨k1, 0, none⟩), .pointer (some ⟨k2, 0, none⟩)]] [] HM.out HFST.out).mono ?_
          rintro e w4 ⟨rfl, h4⟩
          have H4 := Lib.hid h4
          clear h4 j0 j1 j2 y0 y1 y2 HM
          go_wp2_with fail
          refine wp_loop_rounds 4 ?_
          rw [rounds_succ]
          obtain ⟨p0, p1, p2⟩ := row_cells [blkC xb #[.int .u8 K, .int .u64 R, .int .i64 X] TA, calC k2 100 c M, calC k1 100 c M, calC k0 100 c M] [heapC hb 100 c M] H4.out
          go_wp2_with fail
          refine (m_peek [blkC xb #[.int .u8 K, .int .u64 R, .int .i64 X] TA, calC k2 100 c M, calC k1 100 c M] [rowC (.slice (some ⟨gg, 0, none⟩) 3 cc) 3 [.pointer (some ⟨k0, 0, none⟩), .pointer (some ⟨k1, 0, none⟩), .pointer (some ⟨k2, 0, none⟩)], heapC hb 100 c M] H4.out HT.out HG.out HFST.out).mono ?_
          rintro e w5 ⟨rfl, h5⟩
          have H5 := Lib.hid h5
          clear h5 p0 p1 p2 H4
          go_wp2_with fail
          rw [rounds_succ]
          obtain ⟨p0, p1, p2⟩ := row_cells [blkC xb #[.int .u8 K, .int .u64 R, .int .i64 X] TA, calC k2 100 c M, calC k1 100 c M, calC k0 100 c M] [heapC hb 100 c M] H5.out
          go_wp2_with fail
          refine (m_peek [blkC xb #[.int .u8 K, .int .u64 R, .int .i64 X] TA, calC k2 100 c M] [calC k0 100 c M, rowC (.slice (some ⟨gg, 0, none⟩) 3 cc) 3 [.pointer (some ⟨k0, 0, none⟩), .pointer (some ⟨k1, 0, none⟩), .pointer (some ⟨k2, 0, none⟩)], heapC hb 100 c M] H5.out HT.out HG.out HFST.out).mono ?_
          rintro e w6 ⟨rfl, h6⟩
          have H6 := Lib.hid h6
          clear h6 p0 p1 p2 H5
          go_wp2_with fail
          rw [rounds_succ]
          obtain ⟨p0, p1, p2⟩ := row_cells [blkC xb #[.int .u8 K, .int .u64 R, .int .i64 X] TA, calC k2 100 c M, calC k1 100 c M, calC k0 100 c M] [heapC hb 100 c M] H6.out
          go_wp2_with fail
          refine (m_peek [blkC xb #[.int .u8 K, .int .u64 R, .int .i64 X] TA] [calC k1 100 c M, calC k0 100 c M, rowC (.slice (some ⟨gg, 0, none⟩) 3 cc) 3 [.pointer (some ⟨k0, 0, none⟩), .pointer (some ⟨k1, 0, none⟩), .pointer (some ⟨k2, 0, none⟩)], heapC hb 100 c M] H6.out HT.out HG.out HFST.out).mono ?_
          rintro e w7 ⟨rfl, h7⟩
          have H7 := Lib.hid h7
          clear h7 p0 p1 p2 H6
          go_wp2_with fail
          rw [rounds_succ]
          go_wp2_with fail
          go_roundw
          case rel => exact ⟨k + 1, c, M, by omega, by first | rfl | go_num, by have := HCK.out; omega, H7.out.drop⟩
          case measure => simp [intOf]; omega
    · obtain rfl : k = n := by omega
      have hI : decide ((k : Int) < k) = false := decide_eq_false (by omega)
      have HLV := Lib.hid (CalS.lives wB (Made.tab H0.out HT.out) (Nat.lt_of_lt_of_le HG.out H0.out.upd.size))
      clear hM
      go_wp2_with fail
      refine HLV.out.mono ?_
      rintro e w7 ⟨rfl, u7⟩
      go_wp2_with fail
      go_ret
      exact ⟨rfl, H0.out.upd.trans u7 (fun _ _ h => h)⟩
theorem alike_law (v : Value) (l : List (Nat × Nat × Int)) (hb : ∀ a ∈ l, a.1 ≤ 255 ∧ a.2.1 ≤ 18446744073709551615) (w : World) (hv : RowsAt w v l.length (l.flatMap act)) (hT : Tab w) (hG : Tryd.tz64_ren.g 1 < w.heap.size) :
    Calls Tryd.prog 3 #[v] w fun e w' => e = .returned (.bool true) ∧ Upd Nowhere w w' := by
  obtain ⟨ad, ca, rfl, h0, _, hca, hc⟩ := hv
  by_cases hbig : 200 < l.length
  · exact alike_big ad _ ca hbig w hT hG
  · exact alike_walk ad ca l (by omega) hb w ⟨fun h => (h0 h).1, hc⟩ hT hG
end Go.Proofs.YtjbaibnmbeabnaaDoor.CalI
