/- A pool in memory; what writes do to it. No program in sight. -/
import Derived.Test.YtjbaibnmbeabnaaGreatDoorPoolPlain
import Derived.Test.YtjbaibnmbeabnaaGreatDoorSteps
import Derived.Test.YtjbaibnmbeabnaaGreatDoorCells
namespace Go.Proofs.YtjbaibnmbeabnaaGreatDoor.Pool
open Go.RowKit
/-- The values of a function from 0 on. -/
def ran (f : Nat → Value) (n : Nat) : List Value := (List.range n).map f
theorem ran_length (f : Nat → Value) (n : Nat) : (ran f n).length = n := by simp [ran]
theorem ran_at (f : Nat → Value) {n i : Nat} (h : i < n) : (ran f n)[i]? = some (f i) := by simp [ran, h]
theorem ran_set (f : Nat → Value) (n i : Nat) (v : Value) : (ran f n).set i v = ran (upd f i v) n := by
  refine List.ext_getElem? fun j => ?_
  rw [List.getElem?_set]
  rcases Nat.lt_or_ge j n with h | h
  · rw [ran_at _ h]
    by_cases e : i = j
    · subst e; rw [if_pos rfl, if_pos (by rw [ran_length]; exact h), ran_at _ h, upd_at]
    · rw [if_neg e, ran_at _ h, upd_off _ _ _ (Ne.symm e)]
  · rw [List.getElem?_eq_none (l := ran (upd f i v) n) (by rw [ran_length]; exact h)]
    by_cases e : i = j
    · subst e; rw [if_pos rfl, if_neg (by rw [ran_length]; omega)]
    · rw [if_neg e, List.getElem?_eq_none (by rw [ran_length]; exact h)]
theorem ran_snoc (f : Nat → Value) (n : Nat) : ran f (n + 1) = ran f n ++ [f n] := by simp [ran, List.range_succ]
theorem ran_congr {f g : Nat → Value} {n : Nat} (h : ∀ i, i < n → f i = g i) : ran f n = ran g n := List.map_congr_left fun i hi => h i (List.mem_range.1 hi)
section
variable {α : Type} {K : α → Value}
theorem upd_upd {β : Type} (f : Nat → β) (i : Nat) (v v' : β) : upd (upd f i v) i v' = upd f i v' := by
  funext j; unfold upd; split <;> rfl
/-- The cells of a pool's handles. -/
def cf (K : α → Value) (S : PS α) (k : Nat) : Value :=
  if k % 4 = 0 then K (S.x (k / 4)) else if k % 4 = 1 then .int .i32 (S.nx (k / 4)) else if k % 4 = 2 then .bool (S.tk (k / 4)) else .bool (S.qd (k / 4))
/-- The cells of a pool's queues. -/
def qf (S : PS α) (k : Nat) : Value := if k % 2 = 0 then .int .i32 (S.hd (k / 2)) else .int .i32 (S.tl (k / 2))
theorem cf0 (S : PS α) (i : Nat) : cf K S (i * 4) = K (S.x i) := by unfold cf; rw [if_pos (by omega), show i * 4 / 4 = i by omega]
theorem cf1 (S : PS α) (i : Nat) : cf K S (i * 4 + 1) = .int .i32 (S.nx i) := by unfold cf; rw [if_neg (by omega), if_pos (by omega), show (i * 4 + 1) / 4 = i by omega]
theorem cf2 (S : PS α) (i : Nat) : cf K S (i * 4 + 2) = .bool (S.tk i) := by unfold cf; rw [if_neg (by omega), if_neg (by omega), if_pos (by omega), show (i * 4 + 2) / 4 = i by omega]
theorem cf3 (S : PS α) (i : Nat) : cf K S (i * 4 + 3) = .bool (S.qd i) := by unfold cf; rw [if_neg (by omega), if_neg (by omega), if_neg (by omega), show (i * 4 + 3) / 4 = i by omega]
theorem qf0 (S : PS α) (i : Nat) : qf S (i * 2) = .int .i32 (S.hd i) := by unfold qf; rw [if_pos (by omega), show i * 2 / 2 = i by omega]
theorem qf1 (S : PS α) (i : Nat) : qf S (i * 2 + 1) = .int .i32 (S.tl i) := by unfold qf; rw [if_neg (by omega), show (i * 2 + 1) / 2 = i by omega]
theorem cf_nx (S : PS α) (i : Nat) (y : Int) : cf K { S with nx := upd S.nx i y } = upd (cf K S) (i * 4 + 1) (.int .i32 y) := by
  funext k
  by_cases e : k = i * 4 + 1
  · subst e; rw [cf1, upd_at]; simp [upd]
  · rw [upd_off _ _ _ e]; unfold cf upd; by_cases h : k % 4 = 1
    · simp [h, show ¬ k / 4 = i by omega]
    · simp [h]
theorem cf_qd (S : PS α) (i : Nat) (y : Bool) : cf K { S with qd := upd S.qd i y } = upd (cf K S) (i * 4 + 3) (.bool y) := by
  funext k
  by_cases e : k = i * 4 + 3
  · subst e; rw [cf3, upd_at]; simp [upd]
  · rw [upd_off _ _ _ e]; unfold cf upd
    by_cases h0 : k % 4 = 0
    · simp [h0]
    · by_cases h1 : k % 4 = 1
      · simp [h1]
      · by_cases h2 : k % 4 = 2
        · simp [h2]
        · simp [h0, h1, h2, show ¬ k / 4 = i by omega]
theorem cf_tk (S : PS α) (i : Nat) (y : Bool) : cf K { S with tk := upd S.tk i y } = upd (cf K S) (i * 4 + 2) (.bool y) := by
  funext k
  by_cases e : k = i * 4 + 2
  · subst e; rw [cf2, upd_at]; simp [upd]
  · rw [upd_off _ _ _ e]; unfold cf upd; by_cases h : k % 4 = 2
    · simp [h, show ¬ k / 4 = i by omega]
    · simp [h]
theorem cf_x (S : PS α) (i : Nat) (y : α) : cf K { S with x := upd S.x i y } = upd (cf K S) (i * 4) (K y) := by
  funext k
  by_cases e : k = i * 4
  · subst e; rw [cf0, upd_at]; simp [upd]
  · rw [upd_off _ _ _ e]; unfold cf upd; by_cases h : k % 4 = 0
    · simp [h, show ¬ k / 4 = i by omega]
    · simp [h]
theorem qf_hd (S : PS α) (i : Nat) (y : Int) : qf { S with hd := upd S.hd i y } = upd (qf S) (i * 2) (.int .i32 y) := by
  funext k
  by_cases e : k = i * 2
  · subst e; rw [qf0, upd_at]; simp [upd]
  · rw [upd_off _ _ _ e]; unfold qf upd; by_cases h : k % 2 = 0
    · simp [h, show ¬ k / 2 = i by omega]
    · simp [h]
theorem qf_tl (S : PS α) (i : Nat) (y : Int) : qf { S with tl := upd S.tl i y } = upd (qf S) (i * 2 + 1) (.int .i32 y) := by
  funext k
  by_cases e : k = i * 2 + 1
  · subst e; rw [qf1, upd_at]; simp [upd]
  · rw [upd_off _ _ _ e]; unfold qf upd; by_cases h : k % 2 = 0
    · simp [h]
    · simp [h, show ¬ k / 2 = i by omega]
end
/-- A pool at block pb: its cells are the slice cv, its queues lie at qb. -/
structure PIn {α : Type} (K : α → Value) (TP TC TQ : TypeId) (w : World) (pb : Nat) (cv : Value) (qb most Qn : Nat) (S : PS α) : Prop where
  blk : Blk w pb #[cv, .slice (some ⟨qb, 0, none⟩) Qn Qn, .int .i64 most, .int .i32 S.free, .int .i64 S.n] TP
  row : w.ownsRow 0 TC 4 cv S.m (ran (cf K S) (S.m * 4))
  que : Blk w qb (ran (qf S) (Qn * 2)).toArray TQ
  off : cv.ownBlock ≠ some pb ∧ cv.ownBlock ≠ some qb ∧ qb ≠ pb
  mst : S.m ≤ most ∧ most ≤ 4096
  qn : 1 ≤ Qn ∧ Qn ≤ 262144
/-- The blocks of a pool. -/
def POf (pb qb : Nat) (cv : Value) : Nat → Prop := fun k => k = pb ∨ k = qb ∨ cv.ownBlock = some k
section
variable {α : Type} {K : α → Value} {TP TC TQ : TypeId} {w w' : World} {pb : Nat} {cv : Value} {qb most Qn : Nat} {S S' : PS α}
theorem PIn.lts (h : PIn K TP TC TQ w pb cv qb most Qn S) {k : Nat} (hk : POf pb qb cv k) : k < w.heap.size := by
  rcases hk with rfl | rfl | hk
  · exact h.blk.lt
  · exact h.que.lt
  · exact (h.row.lt k hk).2
theorem PIn.kept (h : PIn K TP TC TQ w pb cv qb most Qn S) {A : Nat → Prop} (hu : Upd A w w') (hs : ∀ k, POf pb qb cv k → ¬ A k) : PIn K TP TC TQ w' pb cv qb most Qn S :=
  { h with blk := h.blk.kept hu (hs pb (.inl rfl)), que := h.que.kept hu (hs qb (.inr (.inl rfl))), row := ownsRow_upd h.row hu (fun k hk => hs k (.inr (.inr hk))) }
theorem PIn.old (h : PIn K TP TC TQ w pb cv qb most Qn S) (hu : Upd Nowhere w w') : PIn K TP TC TQ w' pb cv qb most Qn S := h.kept hu (fun _ _ h => h)
theorem PIn.form (h : PIn K TP TC TQ w pb cv qb most Qn S) : ∃ ad c, cv = .slice ad S.m c := by
  rcases h.row.2 with ⟨rfl, h0⟩ | ⟨g, c, cur, rfl, _⟩
  · exact ⟨none, 0, by rw [h0]⟩
  · exact ⟨_, c, rfl⟩
theorem PIn.arr (h : PIn K TP TC TQ w pb cv qb most Qn S) (hm : 0 < S.m) : ∃ g c, cv = .slice (some ⟨g, 0, none⟩) S.m c ∧ S.m ≤ c := by
  rcases h.row.2 with ⟨rfl, h0⟩ | ⟨g, c, cur, rfl, _, _, h1, h2, _⟩
  · omega
  · exact ⟨g, c, rfl, h1⟩
theorem PIn.arr2 (h : PIn K TP TC TQ w pb cv qb most Qn S) (hm : 0 < S.m) : ∃ g n c, cv = .slice (some ⟨g, 0, none⟩) n c ∧ S.m = n ∧ n ≤ c := by
  obtain ⟨g, c, h1, h2⟩ := h.arr hm
  exact ⟨g, _, c, h1, rfl, h2⟩
theorem PIn.form2 (h : PIn K TP TC TQ w pb cv qb most Qn S) : ∃ ad n c, cv = .slice ad n c ∧ S.m = n := by
  obtain ⟨ad, c, h1⟩ := h.form
  exact ⟨ad, _, c, h1, rfl⟩
/-- A handle's cells. -/
theorem PIn.cells {g n c : Nat} (h : PIn K TP TC TQ w pb (.slice (some ⟨g, 0, none⟩) n c) qb most Qn S) {i : Nat} (hi : i < S.m) :
    w.cell? ⟨g, i * 4, none⟩ = some (K (S.x i)) ∧ w.cell? ⟨g, i * 4 + 1, none⟩ = some (.int .i32 (S.nx i)) ∧ w.cell? ⟨g, i * 4 + 2, none⟩ = some (.bool (S.tk i)) ∧ w.cell? ⟨g, i * 4 + 3, none⟩ = some (.bool (S.qd i)) ∧
    w.frozen? ⟨g, i * 4, none⟩ = false ∧ w.frozen? ⟨g, i * 4 + 1, none⟩ = false ∧ w.frozen? ⟨g, i * 4 + 2, none⟩ = false ∧ w.frozen? ⟨g, i * 4 + 3, none⟩ = false := by
  rcases h.row.2 with ⟨h0, _⟩ | ⟨g', c', cur, he, _, hB, h1, h2, h3, h4⟩
  · cases h0
  · cases he
    have hB : Blk w g cur TC := hB
    have hat : ∀ j, j < S.m * 4 → cur[j]? = some (cf K S j) := fun j hj => by
      have := ran_at (cf K S) hj
      rw [← h4, List.getElem?_take_of_lt hj] at this
      simpa using this
    exact ⟨hB.cellAt (by rw [hat _ (by omega), cf0]), hB.cellAt (by rw [hat _ (by omega), cf1]), hB.cellAt (by rw [hat _ (by omega), cf2]), hB.cellAt (by rw [hat _ (by omega), cf3]), hB.free _, hB.free _, hB.free _, hB.free _⟩
/-- A queue's cells. -/
theorem PIn.qcells (h : PIn K TP TC TQ w pb cv qb most Qn S) {q : Nat} (hq : q < Qn) :
    w.cell? ⟨qb, q * 2, none⟩ = some (.int .i32 (S.hd q)) ∧ w.cell? ⟨qb, q * 2 + 1, none⟩ = some (.int .i32 (S.tl q)) ∧ w.frozen? ⟨qb, q * 2, none⟩ = false ∧ w.frozen? ⟨qb, q * 2 + 1, none⟩ = false := by
  have hat : ∀ j, j < Qn * 2 → (ran (qf S) (Qn * 2)).toArray[j]? = some (qf S j) := fun j hj => by simpa using ran_at (qf S) hj
  exact ⟨h.que.cellAt (by rw [hat _ (by omega), qf0]), h.que.cellAt (by rw [hat _ (by omega), qf1]), h.que.free _, h.que.free _⟩
/-- A cell of the row, written. -/
theorem PIn.setAt {g n c k : Nat} {v : Value} (h : PIn K TP TC TQ w pb (.slice (some ⟨g, 0, none⟩) n c) qb most Qn S) (hm : S'.m = S.m) (hf : S'.free = S.free) (hn : S'.n = S.n) (hq : qf S' = qf S) (hc : cf K S' = upd (cf K S) k v) :
    PIn K TP TC TQ (w.setCell ⟨g, k, none⟩ v) pb (.slice (some ⟨g, 0, none⟩) n c) qb most Qn S' := by
  have h1 : pb ≠ g := fun e => h.off.1 (by rw [e]; rfl)
  have h2 : qb ≠ g := fun e => h.off.2.1 (by rw [e]; rfl)
  refine ⟨by rw [hf, hn]; exact h.blk.setOther (a := ⟨g, k, none⟩) h1 v, ?_, by rw [hq]; exact h.que.setOther (a := ⟨g, k, none⟩) h2 v, h.off, by rw [hm]; exact h.mst, h.qn⟩
  rw [hm, hc]
  rcases h.row.2 with ⟨h0, _⟩ | ⟨g', c', cur, he, hb, hB, h1, h2, h3, h4⟩
  · cases h0
  · cases he
    refine ⟨by rw [ran_length], .inr ⟨g, c, _, rfl, hb, Blk.set hB k v, h1, h2, by simpa using h3, ?_⟩⟩
    rw [← ran_set, ← h4]
    simp only [Array.toList_setIfInBounds, List.take_set]
theorem PIn.setNx {g n c : Nat} (h : PIn K TP TC TQ w pb (.slice (some ⟨g, 0, none⟩) n c) qb most Qn S) (i : Nat) (y : Int) : PIn K TP TC TQ (w.setCell ⟨g, i * 4 + 1, none⟩ (.int .i32 y)) pb (.slice (some ⟨g, 0, none⟩) n c) qb most Qn { S with nx := upd S.nx i y } :=
  h.setAt rfl rfl rfl rfl (cf_nx S i y)
theorem PIn.setQd {g n c : Nat} (h : PIn K TP TC TQ w pb (.slice (some ⟨g, 0, none⟩) n c) qb most Qn S) (i : Nat) (y : Bool) : PIn K TP TC TQ (w.setCell ⟨g, i * 4 + 3, none⟩ (.bool y)) pb (.slice (some ⟨g, 0, none⟩) n c) qb most Qn { S with qd := upd S.qd i y } :=
  h.setAt rfl rfl rfl rfl (cf_qd S i y)
theorem PIn.setTk {g n c : Nat} (h : PIn K TP TC TQ w pb (.slice (some ⟨g, 0, none⟩) n c) qb most Qn S) (i : Nat) (y : Bool) : PIn K TP TC TQ (w.setCell ⟨g, i * 4 + 2, none⟩ (.bool y)) pb (.slice (some ⟨g, 0, none⟩) n c) qb most Qn { S with tk := upd S.tk i y } :=
  h.setAt rfl rfl rfl rfl (cf_tk S i y)
theorem PIn.setX {g n c : Nat} (h : PIn K TP TC TQ w pb (.slice (some ⟨g, 0, none⟩) n c) qb most Qn S) (i : Nat) (y : α) : PIn K TP TC TQ (w.setCell ⟨g, i * 4, none⟩ (K y)) pb (.slice (some ⟨g, 0, none⟩) n c) qb most Qn { S with x := upd S.x i y } :=
  h.setAt rfl rfl rfl rfl (cf_x S i y)
/-- Four cells written into a handle's place. -/
def put4 (w : World) (g i : Nat) (a b c d : Value) : World := (((w.setCell ⟨g, i * 4, none⟩ a).setCell ⟨g, i * 4 + 1, none⟩ b).setCell ⟨g, i * 4 + 2, none⟩ c).setCell ⟨g, i * 4 + 3, none⟩ d
theorem upd4 {A : Nat → Prop} {w w' : World} {g : Nat} (h : Upd A w w') (hg : g < w.heap.size → A g) (i : Nat) (a b c d : Value) : Upd A w ((((w'.setCell ⟨g, i * 4, none⟩ a).setCell ⟨g, i * 4 + 1, none⟩ b).setCell ⟨g, i * 4 + 2, none⟩ c).setCell ⟨g, i * 4 + 3, none⟩ d) :=
  (((h.setCell (a := ⟨g, i * 4, none⟩) hg a).setCell (a := ⟨g, i * 4 + 1, none⟩) hg b).setCell (a := ⟨g, i * 4 + 2, none⟩) hg c).setCell (a := ⟨g, i * 4 + 3, none⟩) hg d
theorem PIn.setAll {g n c : Nat} (h : PIn K TP TC TQ w pb (.slice (some ⟨g, 0, none⟩) n c) qb most Qn S) (i : Nat) (x : α) (y : Int) (t q : Bool) :
    PIn K TP TC TQ (put4 w g i (K x) (.int .i32 y) (.bool t) (.bool q)) pb (.slice (some ⟨g, 0, none⟩) n c) qb most Qn { S with x := upd S.x i x, nx := upd S.nx i y, tk := upd S.tk i t, qd := upd S.qd i q } :=
  (((h.setX i x).setNx i y).setTk i t).setQd i q
/-- The pool's first free one, and how many are taken, written. -/
theorem PIn.setFree (h : PIn K TP TC TQ w pb cv qb most Qn S) (y : Int) : PIn K TP TC TQ (w.setCell ⟨pb, 3, none⟩ (.int .i32 y)) pb cv qb most Qn { S with free := y } := by
  have hu : Upd (fun k => k = pb) w (w.setCell ⟨pb, 3, none⟩ (.int .i32 y)) := Upd.setCell (S := fun k => k = pb) (Upd.refl _ _) (fun _ => rfl) _
  exact { h with blk := by simpa using h.blk.set 3 (.int .i32 y), row := ownsRow_upd h.row hu (fun k hk e => h.off.1 (by rw [hk, e])), que := h.que.kept hu h.off.2.2 }
theorem PIn.setN (h : PIn K TP TC TQ w pb cv qb most Qn S) (y : Nat) : PIn K TP TC TQ (w.setCell ⟨pb, 4, none⟩ (.int .i64 y)) pb cv qb most Qn { S with n := y } := by
  have hu : Upd (fun k => k = pb) w (w.setCell ⟨pb, 4, none⟩ (.int .i64 y)) := Upd.setCell (S := fun k => k = pb) (Upd.refl _ _) (fun _ => rfl) _
  exact { h with blk := by simpa using h.blk.set 4 (.int .i64 y), row := ownsRow_upd h.row hu (fun k hk e => h.off.1 (by rw [hk, e])), que := h.que.kept hu h.off.2.2 }
/-- A queue's ends, written. -/
theorem PIn.setHd (h : PIn K TP TC TQ w pb cv qb most Qn S) (q : Nat) (y : Int) : PIn K TP TC TQ (w.setCell ⟨qb, q * 2, none⟩ (.int .i32 y)) pb cv qb most Qn { S with hd := upd S.hd q y } := by
  have hu : Upd (fun k => k = qb) w (w.setCell ⟨qb, q * 2, none⟩ (.int .i32 y)) := Upd.setCell (S := fun k => k = qb) (Upd.refl _ _) (fun _ => rfl) _
  refine { h with blk := h.blk.kept hu (Ne.symm h.off.2.2), row := ownsRow_upd h.row hu (fun k hk e => h.off.2.1 (by rw [hk, e])), que := ?_ }
  rw [qf_hd, ← ran_set]
  simpa using h.que.set (q * 2) (.int .i32 y)
theorem PIn.setTl (h : PIn K TP TC TQ w pb cv qb most Qn S) (q : Nat) (y : Int) : PIn K TP TC TQ (w.setCell ⟨qb, q * 2 + 1, none⟩ (.int .i32 y)) pb cv qb most Qn { S with tl := upd S.tl q y } := by
  have hu : Upd (fun k => k = qb) w (w.setCell ⟨qb, q * 2 + 1, none⟩ (.int .i32 y)) := Upd.setCell (S := fun k => k = qb) (Upd.refl _ _) (fun _ => rfl) _
  refine { h with blk := h.blk.kept hu (Ne.symm h.off.2.2), row := ownsRow_upd h.row hu (fun k hk e => h.off.2.1 (by rw [hk, e])), que := ?_ }
  rw [qf_tl, ← ran_set]
  simpa using h.que.set (q * 2 + 1) (.int .i32 y)
/-- One more cell, its slice not yet stored. -/
structure Grown (K : α → Value) (TP TC TQ : TypeId) (w0 w : World) (pb : Nat) (cv cv' : Value) (qb most Qn : Nat) (S : PS α) (z : α) : Prop where
  blk : Blk w pb #[cv, .slice (some ⟨qb, 0, none⟩) Qn Qn, .int .i64 most, .int .i32 S.free, .int .i64 S.n] TP
  pin : PIn K TP TC TQ (w.setCell ⟨pb, 0, none⟩ cv') pb cv' qb most Qn { S with m := S.m + 1, x := upd S.x S.m z, nx := upd S.nx S.m 0, tk := upd S.tk S.m false, qd := upd S.qd S.m false }
  own : OwnOrNew w0 cv cv'
  upd : Upd (POf pb qb cv) w0 w
theorem PIn.grow {w1 wx w6 : World} {v6 : Value} (h : PIn K TP TC TQ w1 pb cv qb most Qn S) (z : α) (hm : S.m < most)
    (hown : w6.ownsRow 0 TC 4 v6 (S.m + 1) (ran (cf K S) (S.m * 4) ++ [K z, .int .i32 0, .bool false, .bool false])) (hu : Upd (fun k => cv.ownBlock = some k) wx w6) (hn : OwnOrNew wx cv v6) (hx : Upd Nowhere w1 wx) :
    Grown K TP TC TQ w1 w6 pb cv v6 qb most Qn S z := by
  have hs := hx.size
  have o1 : v6.ownBlock ≠ some pb := fun e => by
    rcases hn pb e with h1 | h1
    · exact h.off.1 h1
    · have := h.blk.lt; omega
  have o2 : v6.ownBlock ≠ some qb := fun e => by
    rcases hn qb e with h1 | h1
    · exact h.off.2.1 h1
    · have := h.que.lt; omega
  have hblk := (h.blk.kept hx id).kept hu h.off.1
  have hU : Upd (fun k => k = pb) w6 (w6.setCell ⟨pb, 0, none⟩ v6) := Upd.setCell (S := fun k => k = pb) (Upd.refl _ _) (fun _ => rfl) _
  refine ⟨hblk, ⟨by simpa using hblk.set 0 v6, ?_, (((h.que.kept hx id).kept hu h.off.2.1).kept hU h.off.2.2), ⟨o1, o2, h.off.2.2⟩, ⟨hm, h.mst.2⟩, h.qn⟩, fun k hk => ?_, (hx.any _).trans hu (fun k _ hk => .inr (.inr hk))⟩
  · have e1 : ran (cf K { S with m := S.m + 1, x := upd S.x S.m z, nx := upd S.nx S.m 0, tk := upd S.tk S.m false, qd := upd S.qd S.m false }) ((S.m + 1) * 4) = ran (cf K S) (S.m * 4) ++ [K z, .int .i32 0, .bool false, .bool false] := by
      rw [show (S.m + 1) * 4 = S.m * 4 + 1 + 1 + 1 + 1 by omega, ran_snoc, ran_snoc, ran_snoc, ran_snoc, List.append_assoc, List.append_assoc, List.append_assoc]
      congr 1
      · refine ran_congr fun i hi => ?_
        have : ¬ i / 4 = S.m := by omega
        simp [cf, Pool.upd, this]
      · rw [show S.m * 4 + 1 + 1 = S.m * 4 + 2 by omega, show S.m * 4 + 2 + 1 = S.m * 4 + 3 by omega, cf0, cf1, cf2, cf3]
        simp [Pool.upd]
    show (w6.setCell ⟨pb, 0, none⟩ v6).ownsRow 0 TC 4 v6 (S.m + 1) _
    rw [e1]
    exact ownsRow_upd hown hU (fun k hk e => o1 (by rw [hk, e]))
  · rcases hn k hk with h1 | h1
    · exact .inl h1
    · exact .inr (by omega)
end
end Go.Proofs.YtjbaibnmbeabnaaGreatDoor.Pool
