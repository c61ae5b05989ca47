/- SpPlays: the program's queues and the reference's, side by side. -/
import Derived.Test.YtopibbaopglggaaSpStands
import Derived.Test.YtopibbaopglggaaSpLives
import Derived.Test.YtopibbaopglggaaOpen
import Derived.Deep.DeepCutAuto
import Derived.Deep.CutBlock
namespace Go.Proofs.Ytopibbaopglggaa.SpI
open Go.RowKit Go.Proofs BigFrame
open PairI (TR TE el flat)
open Ref12 (Ref RefOf TQ TL TI mayC)
set_option maxHeartbeats 1000000
set_option maxRecDepth 1000000
theorem new_bad (room n : Int) (w : World) (h : mayC room n ≠ 0) :
    Calls Try.prog 14 #[.int .i64 room, .int .i64 n] w fun e w' => e = .returned (.tuple #[.pointer none, .int .i64 (mayC room n)]) ∧ w = w' := by
  obtain ⟨r, hr⟩ : ∃ r, mayC room n = r := ⟨_, rfl⟩
  rw [hr] at h ⊢
  unfold mayC at hr
  by_cases h1 : room < 1
  · have d1 : decide (room < 1) = true := decide_eq_true h1
    rw [if_pos (.inl h1)] at hr
    subst hr
    clear h h1
    go_enter Try.func14, Try.ntmps14
    go_wp2_with fail
    go_ret2
    exact ⟨rfl, rfl⟩
  · have d1 : decide (room < 1) = false := decide_eq_false h1
    by_cases h2 : 4096 < room
    · have d2 : decide (room > 4096) = true := decide_eq_true h2
      have d3 : decide (4096 < room) = true := decide_eq_true h2
      rw [if_pos (.inr h2)] at hr
      subst hr
      clear h h1 h2
      go_enter Try.func14, Try.ntmps14
      go_wp2_with fail
      go_ret2
      exact ⟨rfl, rfl⟩
    · have d2 : decide (room > 4096) = false := decide_eq_false h2
      have d3 : decide (4096 < room) = false := decide_eq_false h2
      rw [if_neg (by omega)] at hr
      clear h1 h2
      by_cases h3 : n < 1
      · have d4 : decide (n < 1) = true := decide_eq_true h3
        rw [if_pos (.inl h3)] at hr
        subst hr
        clear h h3
        go_enter Try.func14, Try.ntmps14
        go_wp2_with fail
        go_ret2
        exact ⟨rfl, rfl⟩
      · have d4 : decide (n < 1) = false := decide_eq_false h3
        by_cases h4 : 32 < n
        · have d5 : decide (n > 32) = true := decide_eq_true h4
          have d6 : decide (32 < n) = true := decide_eq_true h4
          rw [if_pos (.inr h4)] at hr
          subst hr
          clear h h3 h4
          go_enter Try.func14, Try.ntmps14
          go_wp2_with fail
          go_ret2
          exact ⟨rfl, rfl⟩
        · rw [if_neg (by omega)] at hr
          exact absurd hr.symm h
abbrev TA : TypeId := 66
/-- What the program's queues are off. -/
def Offs (b n : Nat) (bv lv : Value) (vs : Nat → Value) (x : Option Nat) : Nat → Prop := fun k => RefOf b n bv lv vs k ∨ x = some k
/-- Both, and a block that neither touches. -/
structure Pl0 (x : Option Nat) (cs : Array Value) (w0 w : World) (s b room n cnt : Nat) (bs : Nat → Nat) (ps : Nat → List (Nat × Int)) (bs2 : Nat → Nat) (ps2 : Nat → List (Nat × Int)) (bv lv : Value) (vs : Nat → Value) : Prop where
  has : HasA (Offs b n bv lv vs x) w0 w s n room cnt bs (upq ps)
  ref : Ref w0.heap.size w b room n bv lv vs bs2 ps2
  upd : Upd Nowhere w0 w
  blk : ∀ q, x = some q → Blk w q cs TA ∧ ¬ RefOf b n bv lv vs q
  npos : 0 < n
  nle : n ≤ 32
  rle : room ≤ 4096
def Pl (x : Option Nat) (cs : Array Value) (w0 w : World) (s b room n cnt : Nat) (bs : Nat → Nat) (ps : Nat → List (Nat × Int)) (bs2 : Nat → Nat) (ps2 : Nat → List (Nat × Int)) : Prop :=
  ∃ bv lv vs, Pl0 x cs w0 w s b room n cnt bs ps bs2 ps2 bv lv vs
section
variable {x : Option Nat} {cs : Array Value} {w0 w w' : World} {s b room n cnt cnt' : Nat} {bs bs' bs2 : Nat → Nat} {ps ps' ps2 : Nat → List (Nat × Int)} {bv lv : Value} {vs : Nat → Value}
theorem Pl0.low (h : Pl0 x cs w0 w s b room n cnt bs ps bs2 ps2 bv lv vs) : ∀ k, Offs b n bv lv vs x k → k < w.heap.size := fun k hk => by
  rcases hk with hk | hk
  · exact (h.ref.lts hk).2
  · exact (h.blk k hk).1.lt
theorem Pl0.old (h : Pl0 x cs w0 w s b room n cnt bs ps bs2 ps2 bv lv vs) (hu : Upd Nowhere w w') : Pl0 x cs w0 w' s b room n cnt bs ps bs2 ps2 bv lv vs :=
  { h with has := h.has.old hu, ref := h.ref.old hu, upd := h.upd.trans hu (fun _ _ h => h), blk := fun q hq => ⟨(h.blk q hq).1.kept hu id, (h.blk q hq).2⟩ }
theorem Pl.old (h : Pl x cs w0 w s b room n cnt bs ps bs2 ps2) (hu : Upd Nowhere w w') : Pl x cs w0 w' s b room n cnt bs ps bs2 ps2 := by
  obtain ⟨bv, lv, vs, h⟩ := h
  exact ⟨bv, lv, vs, h.old hu⟩
theorem Pl.upd (h : Pl x cs w0 w s b room n cnt bs ps bs2 ps2) : Upd Nowhere w0 w := by
  obtain ⟨bv, lv, vs, h⟩ := h; exact h.upd
theorem Pl.blk {q : Nat} (h : Pl (some q) cs w0 w s b room n cnt bs ps bs2 ps2) : Blk w q cs TA := by
  obtain ⟨bv, lv, vs, h⟩ := h; exact (h.blk q rfl).1
theorem Pl.le (h : Pl x cs w0 w s b room n cnt bs ps bs2 ps2) : cnt ≤ room := by
  obtain ⟨bv, lv, vs, h⟩ := h; exact h.has.le
theorem Pl0.turn (h : Pl0 x cs w0 w s b room n cnt bs ps bs2 ps2 bv lv vs) (hH : HasA (Offs b n bv lv vs x) w0 w' s n room cnt' bs' (upq ps')) (hu : Upd (fun k => w0.heap.size ≤ k ∧ ¬ Offs b n bv lv vs x k) w w') : Pl0 x cs w0 w' s b room n cnt' bs' ps' bs2 ps2 bv lv vs :=
  { h with has := hH, ref := h.ref.kept hu (fun _ hk h2 => h2.2 (.inl hk)), upd := h.upd.trans hu (fun _ hk h => absurd hk (Nat.not_lt.2 h.1)), blk := fun q hq => ⟨(h.blk q hq).1.kept hu (fun h2 => h2.2 (.inr hq)), (h.blk q hq).2⟩ }
theorem Pl0.turned (h : Pl0 x cs w0 w s b room n cnt bs ps bs2 ps2 bv lv vs) (ht : Ref12.Turned w0.heap.size w w' b room n bv lv vs bs' ps') : Pl x cs w0 w' s b room n cnt bs ps bs' ps' := by
  obtain ⟨bv', vs', h1, h2, h3⟩ := ht
  have hnew : ∀ k, Offs b n bv' lv vs' x k → Offs b n bv lv vs x k ∨ w.heap.size ≤ k := fun k hk => by
    rcases hk with hk | hk
    · exact (h2 k hk).imp .inl id
    · exact .inl (.inr hk)
  have hS : ∀ k, (k = b ∨ lv.ownBlock = some k) → RefOf b n bv' lv vs' k := fun k hk => by
    rcases hk with rfl | hk
    · exact .inl rfl
    · exact .inr (.inr (.inl hk))
  have hS2 : ∀ k, (k = b ∨ lv.ownBlock = some k) → RefOf b n bv lv vs k := fun k hk => by
    rcases hk with rfl | hk
    · exact .inl rfl
    · exact .inr (.inr (.inl hk))
  refine ⟨bv', lv, vs', ⟨(h.has.re hnew).kept h3 (fun k hk _ => .inl (.inl (hS k hk))), h1, h.upd.trans h3 (fun k hk hk2 => absurd hk (Nat.not_lt.2 (h.ref.lts (hS2 k hk2)).1)), fun q hq => ⟨(h.blk q hq).1.kept h3 (fun hk => (h.blk q hq).2 (hS2 q hk)), fun hr => ?_⟩, h.npos, h.nle, h.rle⟩⟩
  rcases h2 q hr with h4 | h4
  · exact (h.blk q hq).2 h4
  · exact absurd (h.blk q hq).1.lt (Nat.not_lt.2 h4)
theorem Pl.none (h : Pl x cs w0 w s b room n cnt bs ps bs2 ps2) : Pl Option.none #[] w0 w s b room n cnt bs ps bs2 ps2 := by
  obtain ⟨bv, lv, vs, h⟩ := h
  have hh : HasA (Offs b n bv lv vs Option.none) w0 w s n room cnt bs (upq ps) := h.has.re (fun k hk => by
    rcases hk with hk | hk
    · exact .inl (.inl hk)
    · cases hk)
  exact ⟨bv, lv, vs, ⟨hh, h.ref, h.upd, (fun q hq => by cases hq), h.npos, h.nle, h.rle⟩⟩
theorem Pl.some (h : Pl Option.none #[] w0 w s b room n cnt bs ps bs2 ps2) (cs : Array Value) : Pl (Option.some w.heap.size) cs w0 (w.alloc (.cells cs TA)) s b room n cnt bs ps bs2 ps2 := by
  obtain ⟨bv, lv, vs, h⟩ := h
  have hu := (Upd.refl Nowhere w).alloc (.cells cs TA)
  refine ⟨bv, lv, vs, ⟨(h.has.re (fun k hk => ?_)).old hu, h.ref.old hu, h.upd.alloc _, fun q hq => ?_, h.npos, h.nle, h.rle⟩⟩
  · rcases hk with hk | hk
    · exact .inl (.inl hk)
    · cases hk; exact .inr (Nat.le_refl _)
  · cases hq
    exact ⟨Blk.new _ _ _, fun hr => absurd (h.ref.lts hr).2 (Nat.lt_irrefl _)⟩
theorem upq_push (ps : Nat → List (Nat × Int)) (p : Nat) (r : Nat) (y : Int) : upd (upq ps) p (upq ps p ++ [((r : Int), y)]) = upq (upd ps p (ps p ++ [(r, y)])) := by
  have h := upd_map up ps p (ps p ++ [(r, y)])
  rw [List.map_append] at h
  exact h
theorem upq_pop (ps : Nat → List (Nat × Int)) (p : Nat) (t : List (Nat × Int)) : upd (upq ps) p (t.map up) = upq (upd ps p t) := upd_map up ps p t
theorem t_push (h : Pl x cs w0 w s b room n cnt bs ps bs2 ps2) (hc : cnt < room) (r : Nat) (hr : r ≤ 18446744073709551615) (y : Int) :
    Calls Try.prog 15 #[.pointer (some ⟨s, 0, none⟩), .int .u64 r, Value.int .i64 y] w fun e w' => e = .returned (.tuple #[.int .i64 (pick bs r (n - 1) : Nat), .bool true]) ∧
      Pl x cs w0 w' s b room n (cnt + 1) (pushed bs r (pick bs r (n - 1))) (upd ps (pick bs r (n - 1)) (ps (pick bs r (n - 1)) ++ [(r, y)])) bs2 ps2 := by
  obtain ⟨bv, lv, vs, h⟩ := h
  refine (hasA_push h.has h.low hc r hr y _ rfl).mono ?_
  rintro e w' ⟨rfl, h1, h2⟩
  rw [upq_push] at h1
  exact ⟨rfl, bv, lv, vs, h.turn h1 h2⟩
theorem t_full (h : Pl x cs w0 w s b room n cnt bs ps bs2 ps2) (hc : cnt = room) (r : Nat) (y : Int) :
    Calls Try.prog 15 #[.pointer (some ⟨s, 0, none⟩), .int .u64 r, Value.int .i64 y] w fun e w' => e = .returned (.tuple #[.int .i64 0, .bool false]) ∧ Pl x cs w0 w' s b room n cnt bs ps bs2 ps2 := by
  obtain ⟨bv, lv, vs, h⟩ := h
  refine (hasA_full h.has hc r y).mono ?_
  rintro e w' ⟨rfl, h1⟩
  exact ⟨rfl, bv, lv, vs, h.old h1⟩
theorem t_rpush (h : Pl x cs w0 w s b room n cnt bs ps bs2 ps2) (ht : tot ps2 n < room) (hf : Fit n bs2) (r : Nat) (hr : r ≤ 18446744073709551615) (y : Int) :
    Calls Try.prog 28 #[.pointer (some ⟨b, 0, none⟩), .int .u64 r, .int .i64 y] w fun e w' => e = .returned (.tuple #[.int .i64 (pick bs2 r (n - 1) : Nat), .bool true]) ∧
      Pl x cs w0 w' s b room n cnt bs ps (pushed bs2 r (pick bs2 r (n - 1))) (upd ps2 (pick bs2 r (n - 1)) (ps2 (pick bs2 r (n - 1)) ++ [(r, y)])) := by
  obtain ⟨bv, lv, vs, h⟩ := h
  refine (Ref12.push_room h.ref h.npos h.nle ht h.rle hf h.upd.size r hr y).mono ?_
  rintro e w' ⟨rfl, h1⟩
  exact ⟨rfl, h.turned h1⟩
theorem t_rfull (h : Pl x cs w0 w s b room n cnt bs ps bs2 ps2) (ht : tot ps2 n = room) (r : Nat) (y : Int) :
    Calls Try.prog 28 #[.pointer (some ⟨b, 0, none⟩), .int .u64 r, .int .i64 y] w fun e w' => e = .returned (.tuple #[.int .i64 0, .bool false]) ∧ Pl x cs w0 w' s b room n cnt bs ps bs2 ps2 := by
  obtain ⟨bv, lv, vs, h⟩ := h
  refine (Ref12.push_full h.ref h.npos h.nle ht h.rle r y).mono ?_
  rintro e w' ⟨rfl, h1⟩
  exact ⟨rfl, bv, lv, vs, h.old h1⟩
theorem len_upq {ps : Nat → List (Nat × Int)} {m : Nat} (h : ∀ j, j < m → (ps j).length = 0) : ∀ j, j < m → (upq ps j).length = 0 := fun j hj => by unfold upq; rw [List.length_map]; exact h j hj
theorem t_pop (h : Pl x cs w0 w s b room n cnt bs ps bs2 ps2) (i : Nat) {a : Nat × Int} {t : List (Nat × Int)} (hi : i < n) (hl : ∀ j, j < i → (ps j).length = 0) (hx : ps i = a :: t) :
    Calls Try.prog 16 #[.pointer (some ⟨s, 0, none⟩)] w fun e w' => e = .returned (.tuple #[.int .u64 a.1, Value.int .i64 a.2, .bool true]) ∧ Pl x cs w0 w' s b room n (cnt - 1) bs (upd ps i t) bs2 ps2 := by
  obtain ⟨bv, lv, vs, h⟩ := h
  refine (hasA_pop h.has h.low i a.1 a.2 (t.map up) hi (len_upq hl) (by unfold upq; rw [hx]; rfl)).mono ?_
  rintro e w' ⟨rfl, h1, h2⟩
  rw [upq_pop] at h1
  exact ⟨rfl, bv, lv, vs, h.turn h1 h2⟩
theorem t_pop0 (h : Pl x cs w0 w s b room n cnt bs ps bs2 ps2) (hl : ∀ j, j < n → (ps j).length = 0) :
    Calls Try.prog 16 #[.pointer (some ⟨s, 0, none⟩)] w fun e w' => e = .returned (.tuple #[.int .u64 0, Value.int .i64 0, .bool false]) ∧ Pl x cs w0 w' s b room n cnt bs ps bs2 ps2 := by
  obtain ⟨bv, lv, vs, h⟩ := h
  refine (hasA_pop0 h.has (len_upq hl)).mono ?_
  rintro e w' ⟨rfl, h1⟩
  exact ⟨rfl, bv, lv, vs, h.old h1⟩
theorem t_peek (h : Pl x cs w0 w s b room n cnt bs ps bs2 ps2) (i : Nat) {a : Nat × Int} {t : List (Nat × Int)} (hi : i < n) (hl : ∀ j, j < i → (ps j).length = 0) (hx : ps i = a :: t) :
    Calls Try.prog 30 #[.pointer (some ⟨s, 0, none⟩)] w fun e w' => e = .returned (.tuple #[.int .u64 a.1, Value.int .i64 a.2, .bool true]) ∧ Pl x cs w0 w' s b room n cnt bs ps bs2 ps2 := by
  obtain ⟨bv, lv, vs, h⟩ := h
  refine (hasA_peek h.has i a.1 a.2 (t.map up) hi (len_upq hl) (by unfold upq; rw [hx]; rfl)).mono ?_
  rintro e w' ⟨rfl, h1⟩
  exact ⟨rfl, bv, lv, vs, h.old h1⟩
theorem t_peek0 (h : Pl x cs w0 w s b room n cnt bs ps bs2 ps2) (hl : ∀ j, j < n → (ps j).length = 0) :
    Calls Try.prog 30 #[.pointer (some ⟨s, 0, none⟩)] w fun e w' => e = .returned (.tuple #[.int .u64 0, Value.int .i64 0, .bool false]) ∧ Pl x cs w0 w' s b room n cnt bs ps bs2 ps2 := by
  obtain ⟨bv, lv, vs, h⟩ := h
  refine (hasA_peek0 h.has (len_upq hl)).mono ?_
  rintro e w' ⟨rfl, h1⟩
  exact ⟨rfl, bv, lv, vs, h.old h1⟩
theorem t_rpop (h : Pl x cs w0 w s b room n cnt bs ps bs2 ps2) (i : Nat) {a : Nat × Int} {t : List (Nat × Int)} (hi : i < n) (hl : ∀ j, j < i → (ps2 j).length = 0) (hx : ps2 i = a :: t) (ht : t.length ≤ 4096) :
    Calls Try.prog 29 #[.pointer (some ⟨b, 0, none⟩)] w fun e w' => e = .returned (.tuple #[.int .u64 a.1, .int .i64 a.2, .bool true]) ∧ Pl x cs w0 w' s b room n cnt bs ps bs2 (upd ps2 i t) := by
  obtain ⟨bv, lv, vs, h⟩ := h
  refine (Ref12.pop_some h.ref h.nle i hi hl hx ht h.upd.size).mono ?_
  rintro e w' ⟨rfl, h1⟩
  exact ⟨rfl, h.turned h1⟩
theorem t_rpop0 (h : Pl x cs w0 w s b room n cnt bs ps bs2 ps2) (hl : ∀ j, j < n → (ps2 j).length = 0) :
    Calls Try.prog 29 #[.pointer (some ⟨b, 0, none⟩)] w fun e w' => e = .returned (.tuple #[.int .u64 0, .int .i64 0, .bool false]) ∧ Pl x cs w0 w' s b room n cnt bs ps bs2 ps2 := by
  obtain ⟨bv, lv, vs, h⟩ := h
  refine (Ref12.pop_none h.ref h.npos h.nle hl).mono ?_
  rintro e w' ⟨rfl, h1⟩
  exact ⟨rfl, bv, lv, vs, h.old h1⟩
theorem t_rpeek (h : Pl x cs w0 w s b room n cnt bs ps bs2 ps2) (i : Nat) {a : Nat × Int} {t : List (Nat × Int)} (hi : i < n) (hl : ∀ j, j < i → (ps2 j).length = 0) (hx : ps2 i = a :: t) :
    Calls Try.prog 31 #[.pointer (some ⟨b, 0, none⟩)] w fun e w' => e = .returned (.tuple #[.int .u64 a.1, .int .i64 a.2, .bool true]) ∧ Pl x cs w0 w' s b room n cnt bs ps bs2 ps2 := by
  obtain ⟨bv, lv, vs, h⟩ := h
  refine (Ref12.peek_some h.ref h.nle i hi hl hx).mono ?_
  rintro e w' ⟨rfl, h1⟩
  exact ⟨rfl, bv, lv, vs, h.old h1⟩
theorem t_rpeek0 (h : Pl x cs w0 w s b room n cnt bs ps bs2 ps2) (hl : ∀ j, j < n → (ps2 j).length = 0) :
    Calls Try.prog 31 #[.pointer (some ⟨b, 0, none⟩)] w fun e w' => e = .returned (.tuple #[.int .u64 0, .int .i64 0, .bool false]) ∧ Pl x cs w0 w' s b room n cnt bs ps bs2 ps2 := by
  obtain ⟨bv, lv, vs, h⟩ := h
  refine (Ref12.peek_none h.ref h.npos h.nle hl).mono ?_
  rintro e w' ⟨rfl, h1⟩
  exact ⟨rfl, bv, lv, vs, h.old h1⟩
theorem t_stands (h : Pl x cs w0 w s b room n cnt bs ps bs ps) :
    Calls Try.prog 32 #[.pointer (some ⟨s, 0, none⟩), .pointer (some ⟨b, 0, none⟩)] w fun e w' => e = .returned (.bool true) ∧ Pl x cs w0 w' s b room n cnt bs ps bs ps := by
  obtain ⟨bv, lv, vs, h⟩ := h
  refine (stands_any h.has h.ref h.npos h.nle h.rle).mono ?_
  rintro e w' ⟨rfl, h1⟩
  exact ⟨rfl, bv, lv, vs, h.old h1⟩
theorem Pl.tot_ (h : Pl x cs w0 w s b room n cnt bs ps bs2 ps2) : tot ps n = cnt := by
  obtain ⟨bv, lv, vs, h⟩ := h; rw [← tot_upq]; exact h.has.tot_
theorem Pl.fit (h : Pl x cs w0 w s b room n cnt bs ps bs2 ps2) : Fit n bs := by
  obtain ⟨bv, lv, vs, h⟩ := h; exact h.has.fit
end
/-- The first queue in which something waits. -/
theorem lead_ex (ps : Nat → List (Nat × Int)) : ∀ n, (∀ j, j < n → (ps j).length = 0) ∨ ∃ i a t, i < n ∧ (∀ j, j < i → (ps j).length = 0) ∧ ps i = a :: t
  | 0 => .inl (fun j hj => absurd hj (Nat.not_lt_zero _))
  | n + 1 => by
    rcases lead_ex ps n with h | ⟨i, a, t, h1, h2, h3⟩
    · cases hn : ps n with
      | nil => exact .inl (fun j hj => by
          rcases Nat.lt_or_ge j n with h' | h'
          · exact h j h'
          · obtain rfl : j = n := by omega
            rw [hn]; rfl)
      | cons a t => exact .inr ⟨n, a, t, Nat.lt_succ_self _, h, hn⟩
    · exact .inr ⟨i, a, t, Nat.lt_succ_of_lt h1, h2, h3⟩
end Go.Proofs.Ytopibbaopglggaa.SpI
