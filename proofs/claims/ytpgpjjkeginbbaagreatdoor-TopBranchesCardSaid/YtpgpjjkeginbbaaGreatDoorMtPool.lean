/- PoolCoreP, PoolP, PoolP2, PoolP3, PoolP4, PoolHasP, PoolP5, PoolP6, PoolP7, one behind the other. -/
import Derived.Test.YtpgpjjkeginbbaaGreatDoorMtA
import Derived.Test.YtpgpjjkeginbbaaGreatDoorProg
import Derived.BigQuiet
import Derived.Lib.Hide
import Derived.Deep.DeepCutAuto
import Derived.Deep.CutBlock
import Derived.Laws.MakeOwn
namespace Go.Proofs.YtpgpjjkeginbbaaGreatDoor.PoolW
open Go.RowKit
open Pool
/-- The values of a function from 0 on. -/
def ran (f : Nat → Value) (n : Nat) : List Value := (List.range n).map f
theorem ran_length (f : Nat → Value) (n : Nat) : (ran f n).length = n := by simp [ran]
theorem ran_at (f : Nat → Value) {n i : Nat} (h : i < n) : (ran f n)[i]? = some (f i) := by simp [ran, h]
theorem ran_set (f : Nat → Value) (n i : Nat) (v : Value) : (ran f n).set i v = ran (upd f i v) n := by
 refine List.ext_getElem? fun j => ?_
 rw [List.getElem?_set]
 rcases Nat.lt_or_ge j n with h | h
 · rw [ran_at _ h]
   by_cases e : i = j
   · subst e; rw [if_pos rfl, if_pos (by rw [ran_length]; exact h), ran_at _ h, upd_at]
   · rw [if_neg e, ran_at _ h, upd_off _ _ _ (Ne.symm e)]
 · rw [List.getElem?_eq_none (l := ran (upd f i v) n) (by rw [ran_length]; exact h)]
   by_cases e : i = j
   · subst e; rw [if_pos rfl, if_neg (by rw [ran_length]; omega)]
   · rw [if_neg e, List.getElem?_eq_none (by rw [ran_length]; exact h)]
theorem ran_snoc (f : Nat → Value) (n : Nat) : ran f (n + 1) = ran f n ++ [f n] := by simp [ran, List.range_succ]
theorem ran_congr {f g : Nat → Value} {n : Nat} (h : ∀ i, i < n → f i = g i) : ran f n = ran g n := List.map_congr_left fun i hi => h i (List.mem_range.1 hi)
section
variable {α : Type} {K : α → Nat → Value}
theorem upd_upd {β : Type} (f : Nat → β) (i : Nat) (v v' : β) : upd (upd f i v) i v' = upd f i v' := by
 funext j; unfold upd; split <;> rfl
/-- The cells of a pool's handles. -/
def cf (K : α → Nat → Value) (S : PS α) (k : Nat) : Value :=
 if k % 6 < 3 then K (S.x (k / 6)) (k % 6) else if k % 6 = 3 then .int .i32 (S.nx (k / 6)) else if k % 6 = 4 then .bool (S.tk (k / 6)) else .bool (S.qd (k / 6))
/-- The cells of a pool's queues. -/
def qf (S : PS α) (k : Nat) : Value := if k % 2 = 0 then .int .i32 (S.hd (k / 2)) else .int .i32 (S.tl (k / 2))
theorem cfx (S : PS α) (i : Nat) {j : Nat} (hj : j < 3) : cf K S (i * 6 + j) = K (S.x i) j := by unfold cf; rw [if_pos (by omega), show (i * 6 + j) / 6 = i by omega, show (i * 6 + j) % 6 = j by omega]
theorem cf0 (S : PS α) (i : Nat) : cf K S (i * 6) = K (S.x i) 0 := by unfold cf; rw [if_pos (by omega), show (i * 6) / 6 = i by omega, show (i * 6) % 6 = 0 by omega]
theorem cf3 (S : PS α) (i : Nat) : cf K S (i * 6 + 3) = .int .i32 (S.nx i) := by unfold cf; rw [if_neg (by omega), if_pos (by omega), show (i * 6 + 3) / 6 = i by omega]
theorem cf4 (S : PS α) (i : Nat) : cf K S (i * 6 + 4) = .bool (S.tk i) := by unfold cf; rw [if_neg (by omega), if_neg (by omega), if_pos (by omega), show (i * 6 + 4) / 6 = i by omega]
theorem cf5 (S : PS α) (i : Nat) : cf K S (i * 6 + 5) = .bool (S.qd i) := by unfold cf; rw [if_neg (by omega), if_neg (by omega), if_neg (by omega), show (i * 6 + 5) / 6 = i by omega]
theorem qf0 (S : PS α) (i : Nat) : qf S (i * 2) = .int .i32 (S.hd i) := by unfold qf; rw [if_pos (by omega), show i * 2 / 2 = i by omega]
theorem qf1 (S : PS α) (i : Nat) : qf S (i * 2 + 1) = .int .i32 (S.tl i) := by unfold qf; rw [if_neg (by omega), show (i * 2 + 1) / 2 = i by omega]
theorem cf_nx (S : PS α) (i : Nat) (y : Int) : cf K { S with nx := upd S.nx i y } = upd (cf K S) (i * 6 + 3) (.int .i32 y) := by
 funext k
 by_cases e : k = i * 6 + 3
 · subst e; rw [cf3, upd_at]; simp [upd]
 · rw [upd_off _ _ _ e]; unfold cf upd; by_cases h : k % 6 = 3
   · simp [h, show ¬ k / 6 = i by omega]
   · simp [h]
theorem cf_tk (S : PS α) (i : Nat) (y : Bool) : cf K { S with tk := upd S.tk i y } = upd (cf K S) (i * 6 + 4) (.bool y) := by
 funext k
 by_cases e : k = i * 6 + 4
 · subst e; rw [cf4, upd_at]; simp [upd]
 · rw [upd_off _ _ _ e]; unfold cf upd; by_cases h : k % 6 = 4
   · simp [h, show ¬ k / 6 = i by omega]
   · simp [h]
theorem cf_qd (S : PS α) (i : Nat) (y : Bool) : cf K { S with qd := upd S.qd i y } = upd (cf K S) (i * 6 + 5) (.bool y) := by
 funext k
 by_cases e : k = i * 6 + 5
 · subst e; rw [cf5, upd_at]; simp [upd]
 · rw [upd_off _ _ _ e]; unfold cf upd
   by_cases h0 : k % 6 < 3
   · simp [h0]
   · by_cases h1 : k % 6 = 3
     · simp [h1]
     · by_cases h2 : k % 6 = 4
       · simp [h2]
       · simp [h0, h1, h2, show ¬ k / 6 = i by omega]
theorem cf_x (S : PS α) (i : Nat) (y : α) : cf K { S with x := upd S.x i y } = upd (upd (upd (cf K S) (i * 6) (K y 0)) (i * 6 + 1) (K y 1)) (i * 6 + 2) (K y 2) := by
 funext k
 by_cases e0 : k = i * 6
 · subst e0
   rw [upd_off _ _ _ (by omega), upd_off _ _ _ (by omega), upd_at]
   have := cfx (K := K) { S with x := upd S.x i y } i (show 0 < 3 by omega)
   rw [Nat.add_zero] at this
   rw [this]; simp [upd]
 · by_cases e1 : k = i * 6 + 1
   · subst e1
     rw [upd_off _ _ _ (by omega), upd_at, cfx _ _ (by omega)]; simp [upd]
   · by_cases e2 : k = i * 6 + 2
     · subst e2
       rw [upd_at, cfx _ _ (by omega)]; simp [upd]
     · rw [upd_off _ _ _ e2, upd_off _ _ _ e1, upd_off _ _ _ e0]; unfold cf upd
       by_cases h : k % 6 < 3
       · simp [h, show ¬ k / 6 = i by omega]
       · simp [h]
theorem qf_hd (S : PS α) (i : Nat) (y : Int) : qf { S with hd := upd S.hd i y } = upd (qf S) (i * 2) (.int .i32 y) := by
 funext k
 by_cases e : k = i * 2
 · subst e; rw [qf0, upd_at]; simp [upd]
 · rw [upd_off _ _ _ e]; unfold qf upd; by_cases h : k % 2 = 0
   · simp [h, show ¬ k / 2 = i by omega]
   · simp [h]
theorem qf_tl (S : PS α) (i : Nat) (y : Int) : qf { S with tl := upd S.tl i y } = upd (qf S) (i * 2 + 1) (.int .i32 y) := by
 funext k
 by_cases e : k = i * 2 + 1
 · subst e; rw [qf1, upd_at]; simp [upd]
 · rw [upd_off _ _ _ e]; unfold qf upd; by_cases h : k % 2 = 0
   · simp [h]
   · simp [h, show ¬ k / 2 = i by omega]
end
/-- A pool at block pb: its cells are the slice cv, its queues lie at qb. -/
structure PIn {α : Type} (K : α → Nat → Value) (TP TC TQ : TypeId) (w : World) (pb : Nat) (cv : Value) (qb most Qn : Nat) (S : PS α) : Prop where
 blk : Blk w pb #[cv, .slice (some ⟨qb, 0, none⟩) Qn Qn, .int .i64 most, .int .i32 S.free, .int .i64 S.n] TP
 row : w.ownsRow 0 TC 6 cv S.m (ran (cf K S) (S.m * 6))
 que : Blk w qb (ran (qf S) (Qn * 2)).toArray TQ
 off : cv.ownBlock ≠ some pb ∧ cv.ownBlock ≠ some qb ∧ qb ≠ pb
 mst : S.m ≤ most ∧ most ≤ 4096
 qn : 1 ≤ Qn ∧ Qn ≤ 262144
/-- The blocks of a pool. -/
def POf (pb qb : Nat) (cv : Value) : Nat → Prop := fun k => k = pb ∨ k = qb ∨ cv.ownBlock = some k
section
variable {α : Type} {K : α → Nat → Value} {TP TC TQ : TypeId} {w w' : World} {pb : Nat} {cv : Value} {qb most Qn : Nat} {S S' : PS α}
theorem PIn.lts (h : PIn K TP TC TQ w pb cv qb most Qn S) {k : Nat} (hk : POf pb qb cv k) : k < w.heap.size := by
 rcases hk with rfl | rfl | hk
 · exact h.blk.lt
 · exact h.que.lt
 · exact (h.row.lt k hk).2
theorem PIn.kept (h : PIn K TP TC TQ w pb cv qb most Qn S) {A : Nat → Prop} (hu : Upd A w w') (hs : ∀ k, POf pb qb cv k → ¬ A k) : PIn K TP TC TQ w' pb cv qb most Qn S :=
 { h with blk := h.blk.kept hu (hs pb (.inl rfl)), que := h.que.kept hu (hs qb (.inr (.inl rfl))), row := ownsRow_upd h.row hu (fun k hk => hs k (.inr (.inr hk))) }
theorem PIn.old (h : PIn K TP TC TQ w pb cv qb most Qn S) (hu : Upd Nowhere w w') : PIn K TP TC TQ w' pb cv qb most Qn S := h.kept hu (fun _ _ h => h)
theorem PIn.form (h : PIn K TP TC TQ w pb cv qb most Qn S) : ∃ ad c, cv = .slice ad S.m c := by
 rcases h.row.2 with ⟨rfl, h0⟩ | ⟨g, c, cur, rfl, _⟩
 · exact ⟨none, 0, by rw [h0]⟩
 · exact ⟨_, c, rfl⟩
theorem PIn.arr (h : PIn K TP TC TQ w pb cv qb most Qn S) (hm : 0 < S.m) : ∃ g c, cv = .slice (some ⟨g, 0, none⟩) S.m c ∧ S.m ≤ c := by
 rcases h.row.2 with ⟨rfl, h0⟩ | ⟨g, c, cur, rfl, _, _, h1, h2, _⟩
 · omega
 · exact ⟨g, c, rfl, h1⟩
theorem PIn.arr2 (h : PIn K TP TC TQ w pb cv qb most Qn S) (hm : 0 < S.m) : ∃ g n c, cv = .slice (some ⟨g, 0, none⟩) n c ∧ S.m = n ∧ n ≤ c := by
 obtain ⟨g, c, h1, h2⟩ := h.arr hm
 exact ⟨g, _, c, h1, rfl, h2⟩
theorem PIn.form2 (h : PIn K TP TC TQ w pb cv qb most Qn S) : ∃ ad n c, cv = .slice ad n c ∧ S.m = n := by
 obtain ⟨ad, c, h1⟩ := h.form
 exact ⟨ad, _, c, h1, rfl⟩
/-- A handle's cells. -/
theorem PIn.cells {g n c : Nat} (h : PIn K TP TC TQ w pb (.slice (some ⟨g, 0, none⟩) n c) qb most Qn S) {i : Nat} (hi : i < S.m) :
 w.cell? ⟨g, i * 6, none⟩ = some (K (S.x i) 0) ∧ w.cell? ⟨g, i * 6 + 1, none⟩ = some (K (S.x i) 1) ∧ w.cell? ⟨g, i * 6 + 2, none⟩ = some (K (S.x i) 2) ∧ w.cell? ⟨g, i * 6 + 3, none⟩ = some (.int .i32 (S.nx i)) ∧ w.cell? ⟨g, i * 6 + 4, none⟩ = some (.bool (S.tk i)) ∧ w.cell? ⟨g, i * 6 + 5, none⟩ = some (.bool (S.qd i)) ∧
 w.frozen? ⟨g, i * 6, none⟩ = false ∧ w.frozen? ⟨g, i * 6 + 1, none⟩ = false ∧ w.frozen? ⟨g, i * 6 + 2, none⟩ = false ∧ w.frozen? ⟨g, i * 6 + 3, none⟩ = false ∧ w.frozen? ⟨g, i * 6 + 4, none⟩ = false ∧ w.frozen? ⟨g, i * 6 + 5, none⟩ = false := by
 rcases h.row.2 with ⟨h0, _⟩ | ⟨g', c', cur, he, _, hB, h1, h2, h3, h4⟩
 · cases h0
 · cases he
   have hB : Blk w g cur TC := hB
   have hat : ∀ j, j < S.m * 6 → cur[j]? = some (cf K S j) := fun j hj => by
    have := ran_at (cf K S) hj
    rw [← h4, List.getElem?_take_of_lt hj] at this
    simpa using this
   have hx0 := cfx (K := K) S i (show 0 < 3 by omega)
   rw [Nat.add_zero] at hx0
   exact ⟨hB.cellAt (by rw [hat _ (by omega), hx0]), hB.cellAt (by rw [hat _ (by omega), cfx _ _ (by omega)]), hB.cellAt (by rw [hat _ (by omega), cfx _ _ (by omega)]), hB.cellAt (by rw [hat _ (by omega), cf3]), hB.cellAt (by rw [hat _ (by omega), cf4]), hB.cellAt (by rw [hat _ (by omega), cf5]), hB.free _, hB.free _, hB.free _, hB.free _, hB.free _, hB.free _⟩
/-- A queue's cells. -/
theorem PIn.qcells (h : PIn K TP TC TQ w pb cv qb most Qn S) {q : Nat} (hq : q < Qn) :
 w.cell? ⟨qb, q * 2, none⟩ = some (.int .i32 (S.hd q)) ∧ w.cell? ⟨qb, q * 2 + 1, none⟩ = some (.int .i32 (S.tl q)) ∧ w.frozen? ⟨qb, q * 2, none⟩ = false ∧ w.frozen? ⟨qb, q * 2 + 1, none⟩ = false := by
 have hat : ∀ j, j < Qn * 2 → (ran (qf S) (Qn * 2)).toArray[j]? = some (qf S j) := fun j hj => by simpa using ran_at (qf S) hj
 exact ⟨h.que.cellAt (by rw [hat _ (by omega), qf0]), h.que.cellAt (by rw [hat _ (by omega), qf1]), h.que.free _, h.que.free _⟩
/-- A cell of the row, written. -/
theorem PIn.setAt {g n c k : Nat} {v : Value} (h : PIn K TP TC TQ w pb (.slice (some ⟨g, 0, none⟩) n c) qb most Qn S) (hm : S'.m = S.m) (hf : S'.free = S.free) (hn : S'.n = S.n) (hq : qf S' = qf S) (hc : cf K S' = upd (cf K S) k v) :
 PIn K TP TC TQ (w.setCell ⟨g, k, none⟩ v) pb (.slice (some ⟨g, 0, none⟩) n c) qb most Qn S' := by
 have h1 : pb ≠ g := fun e => h.off.1 (by rw [e]; rfl)
 have h2 : qb ≠ g := fun e => h.off.2.1 (by rw [e]; rfl)
 refine ⟨by rw [hf, hn]; exact h.blk.setOther (a := ⟨g, k, none⟩) h1 v, ?_, by rw [hq]; exact h.que.setOther (a := ⟨g, k, none⟩) h2 v, h.off, by rw [hm]; exact h.mst, h.qn⟩
 rw [hm, hc]
 rcases h.row.2 with ⟨h0, _⟩ | ⟨g', c', cur, he, hb, hB, h1, h2, h3, h4⟩
 · cases h0
 · cases he
   refine ⟨by rw [ran_length], .inr ⟨g, c, _, rfl, hb, Blk.set hB k v, h1, h2, by simpa using h3, ?_⟩⟩
   rw [← ran_set, ← h4]
   simp only [Array.toList_setIfInBounds, List.take_set]
theorem PIn.setNx {g n c : Nat} (h : PIn K TP TC TQ w pb (.slice (some ⟨g, 0, none⟩) n c) qb most Qn S) (i : Nat) (y : Int) : PIn K TP TC TQ (w.setCell ⟨g, i * 6 + 3, none⟩ (.int .i32 y)) pb (.slice (some ⟨g, 0, none⟩) n c) qb most Qn { S with nx := upd S.nx i y } :=
 h.setAt rfl rfl rfl rfl (cf_nx S i y)
theorem PIn.setQd {g n c : Nat} (h : PIn K TP TC TQ w pb (.slice (some ⟨g, 0, none⟩) n c) qb most Qn S) (i : Nat) (y : Bool) : PIn K TP TC TQ (w.setCell ⟨g, i * 6 + 5, none⟩ (.bool y)) pb (.slice (some ⟨g, 0, none⟩) n c) qb most Qn { S with qd := upd S.qd i y } :=
 h.setAt rfl rfl rfl rfl (cf_qd S i y)
theorem PIn.setTk {g n c : Nat} (h : PIn K TP TC TQ w pb (.slice (some ⟨g, 0, none⟩) n c) qb most Qn S) (i : Nat) (y : Bool) : PIn K TP TC TQ (w.setCell ⟨g, i * 6 + 4, none⟩ (.bool y)) pb (.slice (some ⟨g, 0, none⟩) n c) qb most Qn { S with tk := upd S.tk i y } :=
 h.setAt rfl rfl rfl rfl (cf_tk S i y)
theorem PIn.setX {g n c : Nat} (h : PIn K TP TC TQ w pb (.slice (some ⟨g, 0, none⟩) n c) qb most Qn S) (i : Nat) (y : α) : PIn K TP TC TQ (((w.setCell ⟨g, i * 6, none⟩ (K y 0)).setCell ⟨g, i * 6 + 1, none⟩ (K y 1)).setCell ⟨g, i * 6 + 2, none⟩ (K y 2)) pb (.slice (some ⟨g, 0, none⟩) n c) qb most Qn { S with x := upd S.x i y } := by
 have h1 : pb ≠ g := fun e => h.off.1 (by rw [e]; rfl)
 have h2 : qb ≠ g := fun e => h.off.2.1 (by rw [e]; rfl)
 refine ⟨((h.blk.setOther (a := ⟨g, _, none⟩) h1 _).setOther (a := ⟨g, _, none⟩) h1 _).setOther (a := ⟨g, _, none⟩) h1 _, ?_, ((h.que.setOther (a := ⟨g, _, none⟩) h2 _).setOther (a := ⟨g, _, none⟩) h2 _).setOther (a := ⟨g, _, none⟩) h2 _, h.off, h.mst, h.qn⟩
 show World.ownsRow _ 0 TC 6 _ S.m (ran (cf K { S with x := upd S.x i y }) (S.m * 6))
 rw [cf_x]
 rcases h.row.2 with ⟨h0, _⟩ | ⟨g', c', cur, he, hb, hB, h1, h2, h3, h4⟩
 · cases h0
 · cases he
   refine ⟨by rw [ran_length], .inr ⟨g, c, _, rfl, hb, Blk.set (Blk.set (Blk.set hB _ _) _ _) _ _, h1, h2, by simpa using h3, ?_⟩⟩
   rw [← ran_set, ← ran_set, ← ran_set, ← h4]
   simp only [Array.toList_setIfInBounds, List.take_set]
/-- Six cells written into a handle's place. -/
def put6 (w : World) (g i : Nat) (a b c d e f : Value) : World := (((((w.setCell ⟨g, i * 6, none⟩ a).setCell ⟨g, i * 6 + 1, none⟩ b).setCell ⟨g, i * 6 + 2, none⟩ c).setCell ⟨g, i * 6 + 3, none⟩ d).setCell ⟨g, i * 6 + 4, none⟩ e).setCell ⟨g, i * 6 + 5, none⟩ f
theorem upd6 {A : Nat → Prop} {w w' : World} {g : Nat} (h : Upd A w w') (hg : g < w.heap.size → A g) (i : Nat) (a b c d e f : Value) : Upd A w ((((((w'.setCell ⟨g, i * 6, none⟩ a).setCell ⟨g, i * 6 + 1, none⟩ b).setCell ⟨g, i * 6 + 2, none⟩ c).setCell ⟨g, i * 6 + 3, none⟩ d).setCell ⟨g, i * 6 + 4, none⟩ e).setCell ⟨g, i * 6 + 5, none⟩ f) :=
 (((((h.setCell (a := ⟨g, i * 6, none⟩) hg a).setCell (a := ⟨g, i * 6 + 1, none⟩) hg b).setCell (a := ⟨g, i * 6 + 2, none⟩) hg c).setCell (a := ⟨g, i * 6 + 3, none⟩) hg d).setCell (a := ⟨g, i * 6 + 4, none⟩) hg e).setCell (a := ⟨g, i * 6 + 5, none⟩) hg f
theorem PIn.setAll {g n c : Nat} (h : PIn K TP TC TQ w pb (.slice (some ⟨g, 0, none⟩) n c) qb most Qn S) (i : Nat) (x : α) (y : Int) (t q : Bool) :
 PIn K TP TC TQ (put6 w g i (K x 0) (K x 1) (K x 2) (.int .i32 y) (.bool t) (.bool q)) pb (.slice (some ⟨g, 0, none⟩) n c) qb most Qn { S with x := upd S.x i x, nx := upd S.nx i y, tk := upd S.tk i t, qd := upd S.qd i q } :=
 (((h.setX i x).setNx i y).setTk i t).setQd i q
/-- The pool's first free one, and how many are taken, written. -/
theorem PIn.setFree (h : PIn K TP TC TQ w pb cv qb most Qn S) (y : Int) : PIn K TP TC TQ (w.setCell ⟨pb, 3, none⟩ (.int .i32 y)) pb cv qb most Qn { S with free := y } := by
 have hu : Upd (fun k => k = pb) w (w.setCell ⟨pb, 3, none⟩ (.int .i32 y)) := Upd.setCell (S := fun k => k = pb) (Upd.refl _ _) (fun _ => rfl) _
 exact { h with blk := by simpa using h.blk.set 3 (.int .i32 y), row := ownsRow_upd h.row hu (fun k hk e => h.off.1 (by rw [hk, e])), que := h.que.kept hu h.off.2.2 }
theorem PIn.setN (h : PIn K TP TC TQ w pb cv qb most Qn S) (y : Nat) : PIn K TP TC TQ (w.setCell ⟨pb, 4, none⟩ (.int .i64 y)) pb cv qb most Qn { S with n := y } := by
 have hu : Upd (fun k => k = pb) w (w.setCell ⟨pb, 4, none⟩ (.int .i64 y)) := Upd.setCell (S := fun k => k = pb) (Upd.refl _ _) (fun _ => rfl) _
 exact { h with blk := by simpa using h.blk.set 4 (.int .i64 y), row := ownsRow_upd h.row hu (fun k hk e => h.off.1 (by rw [hk, e])), que := h.que.kept hu h.off.2.2 }
/-- A queue's ends, written. -/
theorem PIn.setHd (h : PIn K TP TC TQ w pb cv qb most Qn S) (q : Nat) (y : Int) : PIn K TP TC TQ (w.setCell ⟨qb, q * 2, none⟩ (.int .i32 y)) pb cv qb most Qn { S with hd := upd S.hd q y } := by
 have hu : Upd (fun k => k = qb) w (w.setCell ⟨qb, q * 2, none⟩ (.int .i32 y)) := Upd.setCell (S := fun k => k = qb) (Upd.refl _ _) (fun _ => rfl) _
 refine { h with blk := h.blk.kept hu (Ne.symm h.off.2.2), row := ownsRow_upd h.row hu (fun k hk e => h.off.2.1 (by rw [hk, e])), que := ?_ }
 rw [qf_hd, ← ran_set]
 simpa using h.que.set (q * 2) (.int .i32 y)
theorem PIn.setTl (h : PIn K TP TC TQ w pb cv qb most Qn S) (q : Nat) (y : Int) : PIn K TP TC TQ (w.setCell ⟨qb, q * 2 + 1, none⟩ (.int .i32 y)) pb cv qb most Qn { S with tl := upd S.tl q y } := by
 have hu : Upd (fun k => k = qb) w (w.setCell ⟨qb, q * 2 + 1, none⟩ (.int .i32 y)) := Upd.setCell (S := fun k => k = qb) (Upd.refl _ _) (fun _ => rfl) _
 refine { h with blk := h.blk.kept hu (Ne.symm h.off.2.2), row := ownsRow_upd h.row hu (fun k hk e => h.off.2.1 (by rw [hk, e])), que := ?_ }
 rw [qf_tl, ← ran_set]
 simpa using h.que.set (q * 2 + 1) (.int .i32 y)
/-- One more cell, its slice not yet stored. -/
structure Grown (K : α → Nat → Value) (TP TC TQ : TypeId) (w0 w : World) (pb : Nat) (cv cv' : Value) (qb most Qn : Nat) (S : PS α) (z : α) : Prop where
 blk : Blk w pb #[cv, .slice (some ⟨qb, 0, none⟩) Qn Qn, .int .i64 most, .int .i32 S.free, .int .i64 S.n] TP
 pin : PIn K TP TC TQ (w.setCell ⟨pb, 0, none⟩ cv') pb cv' qb most Qn { S with m := S.m + 1, x := upd S.x S.m z, nx := upd S.nx S.m 0, tk := upd S.tk S.m false, qd := upd S.qd S.m false }
 own : OwnOrNew w0 cv cv'
 upd : Upd (POf pb qb cv) w0 w
theorem PIn.grow {w1 wx w6 : World} {v6 : Value} (h : PIn K TP TC TQ w1 pb cv qb most Qn S) (z : α) (hm : S.m < most)
 (hown : w6.ownsRow 0 TC 6 v6 (S.m + 1) (ran (cf K S) (S.m * 6) ++ [K z 0, K z 1, K z 2, .int .i32 0, .bool false, .bool false])) (hu : Upd (fun k => cv.ownBlock = some k) wx w6) (hn : OwnOrNew wx cv v6) (hx : Upd Nowhere w1 wx) :
 Grown K TP TC TQ w1 w6 pb cv v6 qb most Qn S z := by
 have hs := hx.size
 have o1 : v6.ownBlock ≠ some pb := fun e => by
  rcases hn pb e with h1 | h1
  · exact h.off.1 h1
  · have := h.blk.lt; omega
 have o2 : v6.ownBlock ≠ some qb := fun e => by
  rcases hn qb e with h1 | h1
  · exact h.off.2.1 h1
  · have := h.que.lt; omega
 have hblk := (h.blk.kept hx id).kept hu h.off.1
 have hU : Upd (fun k => k = pb) w6 (w6.setCell ⟨pb, 0, none⟩ v6) := Upd.setCell (S := fun k => k = pb) (Upd.refl _ _) (fun _ => rfl) _
 refine ⟨hblk, ⟨by simpa using hblk.set 0 v6, ?_, (((h.que.kept hx id).kept hu h.off.2.1).kept hU h.off.2.2), ⟨o1, o2, h.off.2.2⟩, ⟨hm, h.mst.2⟩, h.qn⟩, fun k hk => ?_, (hx.any _).trans hu (fun k _ hk => .inr (.inr hk))⟩
 · have e1 : ran (cf K { S with m := S.m + 1, x := upd S.x S.m z, nx := upd S.nx S.m 0, tk := upd S.tk S.m false, qd := upd S.qd S.m false }) ((S.m + 1) * 6) = ran (cf K S) (S.m * 6) ++ [K z 0, K z 1, K z 2, .int .i32 0, .bool false, .bool false] := by
    rw [show (S.m + 1) * 6 = S.m * 6 + 1 + 1 + 1 + 1 + 1 + 1 by omega, ran_snoc, ran_snoc, ran_snoc, ran_snoc, ran_snoc, ran_snoc, List.append_assoc, List.append_assoc, List.append_assoc, List.append_assoc, List.append_assoc]
    congr 1
    · refine ran_congr fun i hi => ?_
      have : ¬ i / 6 = S.m := by omega
      simp [cf, Pool.upd, this]
    · rw [show S.m * 6 + 1 + 1 = S.m * 6 + 2 by omega, show S.m * 6 + 2 + 1 = S.m * 6 + 3 by omega, show S.m * 6 + 3 + 1 = S.m * 6 + 4 by omega, show S.m * 6 + 4 + 1 = S.m * 6 + 5 by omega, cf0, cfx _ _ (by omega), cfx _ _ (by omega), cf3, cf4, cf5]
      simp [Pool.upd]
   show (w6.setCell ⟨pb, 0, none⟩ v6).ownsRow 0 TC 6 v6 (S.m + 1) _
   rw [e1]
   exact ownsRow_upd hown hU (fun k hk e => o1 (by rw [hk, e]))
 · rcases hn k hk with h1 | h1
   · exact .inl h1
   · exact .inr (by omega)
end
end Go.Proofs.YtpgpjjkeginbbaaGreatDoor.PoolW
namespace Go.Proofs.YtpgpjjkeginbbaaGreatDoor.PoolP
open Go.RowKit Go.Proofs BigFrame Pool PoolW
abbrev Pk := Nat × Nat × Nat
abbrev TPk : TypeId := 44
abbrev VP (x : Pk) : Value := .agg #[.int .u32 (x.1 : Nat), .int .u32 (x.2.1 : Nat), .int .u64 (x.2.2 : Nat)]
abbrev zP : Array Value := #[.int .u32 0, .int .u32 0, .int .u64 0]
/-- A packet's cells. -/
def KPv (x : Pk) (j : Nat) : Value := if j = 0 then .int .u32 (x.1 : Nat) else if j = 1 then .int .u32 (x.2.1 : Nat) else .int .u64 (x.2.2 : Nat)
theorem kp0 (x : Pk) : KPv x 0 = .int .u32 (x.1 : Nat) := rfl
theorem kp1 (x : Pk) : KPv x 1 = .int .u32 (x.2.1 : Nat) := rfl
theorem kp2 (x : Pk) : KPv x 2 = .int .u64 (x.2.2 : Nat) := rfl
abbrev TP : TypeId := 319
abbrev TC : TypeId := 397
abbrev TQ : TypeId := 321
abbrev P (w : World) (pb : Nat) (cv : Value) (qb most Qn : Nat) (S : PS Pk) : Prop := PIn KPv TP TC TQ w pb cv qb most Qn S
set_option maxHeartbeats 4000000
set_option maxRecDepth 1000000
section
variable {w : World} {pb : Nat} {cv : Value} {qb most Qn : Nat} {S : PS Pk}
theorem taken_any (h : P w pb cv qb most Qn S) {i : Nat} (hi : i < S.m) :
 Calls Tryz.prog 232 #[.pointer (some ⟨pb, 0, none⟩), .int .i64 i] w fun e w' => e = .returned (.bool (S.tk i)) ∧ w = w' := by
 obtain ⟨m, hm⟩ : ∃ m, S.m = m := ⟨_, rfl⟩
 obtain ⟨g, c, rfl, hc⟩ := h.arr (by omega)
 have hmost := h.mst
 obtain ⟨c0, c1, c2, c3, c4, z0, z1, z2, z3, z4⟩ := cells5 h.blk
 obtain ⟨ka, kb, kc, k1, k2, k3, fa, fb, fc, f1, f2, f3⟩ := h.cells hi
 obtain ⟨t, ht⟩ : ∃ t, S.tk i = t := ⟨_, rfl⟩
 rw [hm] at c0 hi hmost
 rw [ht] at k2 ⊢
 have e1 : (i : Int) < m := by omega
 clear h hm ht
 go_enter Tryz.func232, Tryz.ntmps232
 go_wp2_with fail
 go_ret
 exact ⟨rfl, rfl⟩
theorem len_any (h : P w pb cv qb most Qn S) : Calls Tryz.prog 222 #[.pointer (some ⟨pb, 0, none⟩)] w fun e w' => e = .returned (.int .i64 S.n) ∧ w = w' := by
 obtain ⟨c0, c1, c2, c3, c4, z0, z1, z2, z3, z4⟩ := cells5 h.blk
 clear h
 go_enter Tryz.func222, Tryz.ntmps222
 go_wp2_with fail
 go_ret
 exact ⟨rfl, rfl⟩
theorem has_any (h : P w pb cv qb most Qn S) {q : Nat} (hq : q < Qn) : Calls Tryz.prog 231 #[.pointer (some ⟨pb, 0, none⟩), .int .i64 q] w fun e w' => e = .returned (.bool true) ∧ w = w' := by
 obtain ⟨c0, c1, c2, c3, c4, z0, z1, z2, z3, z4⟩ := cells5 h.blk
 have d1 : decide ((q : Int) < Qn) = true := decide_eq_true (by omega)
 have d2 : decide (q < Qn) = true := decide_eq_true hq
 clear h
 go_enter Tryz.func231, Tryz.ntmps231
 go_wp2_with fail
 go_ret
 exact ⟨rfl, rfl⟩
theorem head_some (h : P w pb cv qb most Qn S) {q i : Nat} (hq : q < Qn) (hi : S.hd q = (i : Int)) (him : i < 4096) :
 Calls Tryz.prog 219 #[.pointer (some ⟨pb, 0, none⟩), .int .i64 q] w fun e w' => e = .returned (.tuple #[.int .i64 i, .bool true]) ∧ ∃ k, w' = w.drewN k := by
 obtain ⟨c0, c1, c2, c3, c4, z0, z1, z2, z3, z4⟩ := cells5 h.blk
 obtain ⟨k0, k1, f0, f1⟩ := h.qcells hq
 have hqn := h.qn
 rw [hi] at k0
 have HH := Lib.hid (has_any h hq)
 have d1 : decide ((q : Int) < Qn) = true := decide_eq_true (by omega)
 have d3 : ((i : Int) == -1) = false := by simp
 have e1 : (q : Int) < Qn := by omega
 clear h hi
 go_enter Tryz.func219, Tryz.ntmps219
 go_wp2_with fail
 refine (HH.out).mono ?_
 rintro e w' ⟨rfl, rfl⟩
 go_wp2_with fail
 go_ret2
 exact ⟨rfl, 0, rfl⟩
theorem head_none (h : P w pb cv qb most Qn S) {q : Nat} (hq : q < Qn) (hi : S.hd q = -1) :
 Calls Tryz.prog 219 #[.pointer (some ⟨pb, 0, none⟩), .int .i64 q] w fun e w' => e = .returned (.tuple #[.int .i64 0, .bool false]) ∧ ∃ k, w' = w.drewN k := by
 obtain ⟨c0, c1, c2, c3, c4, z0, z1, z2, z3, z4⟩ := cells5 h.blk
 obtain ⟨k0, k1, f0, f1⟩ := h.qcells hq
 have hqn := h.qn
 rw [hi] at k0
 have HH := Lib.hid (has_any h hq)
 have d1 : decide ((q : Int) < Qn) = true := decide_eq_true (by omega)
 have e1 : (q : Int) < Qn := by omega
 clear h hi
 go_enter Tryz.func219, Tryz.ntmps219
 go_wp2_with fail
 refine (HH.out).mono ?_
 rintro e w' ⟨rfl, rfl⟩
 go_wp2_with fail
 go_ret2
 exact ⟨rfl, 0, rfl⟩
theorem get_any (h : P w pb cv qb most Qn S) {i : Nat} (hi : i < S.m) (ht : S.tk i = true) :
 Calls Tryz.prog 221 #[.pointer (some ⟨pb, 0, none⟩), .int .i64 i] w fun e w' => e = .returned (.tuple #[VP (S.x i), .bool true]) ∧ Upd Nowhere w w' := by
 obtain ⟨⟨xa, xb, xc⟩, hx⟩ : ∃ x, S.x i = x := ⟨_, rfl⟩
 have hU2 : Upd Nowhere w ((w.alloc (.cells zP TPk)).alloc (.cells zP TPk)) := ((Upd.refl _ _).alloc _).alloc _
 have hB2 : Blk ((w.alloc (.cells zP TPk)).alloc (.cells zP TPk)) w.heap.size zP TPk := (Blk.new _ _ _).alloc _
 have HT := Lib.hid (taken_any (h.old hU2) hi)
 rw [ht] at HT
 rw [hx]
 have hmost := h.mst
 obtain ⟨g, m, c, rfl, hm, hc⟩ := h.arr2 (by omega)
 have H2 := Lib.hid (h.old hU2)
 have HI := Lib.hid hi
 have HX := Lib.hid hx
 rw [hm] at hi hmost
 have e1 : (i : Int) < m := by omega
 have HU2 := Lib.hid hU2
 clear h hm ht hx hU2
 go_enter Tryz.func221, Tryz.ntmps221
 go_wp2_with fail
 generalize (w.alloc (.cells zP TPk)).alloc (.cells zP TPk) = w2 at *
 refine HT.out.mono ?_
 rintro e w' ⟨rfl, rfl⟩
 obtain ⟨c0, c1, c2, c3, c4, z0, z1, z2, z3, z4⟩ := cells5 H2.out.blk
 obtain ⟨ka, kb, kc, k1, k2, k3, fa, fb, fc, f1, f2, f3⟩ := H2.out.cells HI.out
 simp only [HX.out, kp0, kp1, kp2] at ka kb kc
 obtain ⟨b0, b1, b2, y0, y1, y2⟩ := cells3 hB2
 clear hB2
 go_wp2_with fail
 exact bodyPost_ret (v := .tuple #[.agg #[.int .u32 xa, .int .u32 xb, .int .u64 xc], .bool true]) (by simp [results, Tryz.results221, go_sem, b0, b1, b2]) rfl ⟨rfl, (by repeat (first | with_reducible exact HU2.out | with_reducible refine Upd.drewN ?_ _ | with_reducible refine Upd.drew ?_ | with_reducible refine Upd.setNew ?_ (Nat.le_refl _) _))⟩
end
end Go.Proofs.YtpgpjjkeginbbaaGreatDoor.PoolP
namespace Go.Proofs.YtpgpjjkeginbbaaGreatDoor.PoolP
open Go.RowKit Go.Proofs BigFrame Pool PoolW
set_option maxHeartbeats 4000000
set_option maxRecDepth 1000000
section
variable {w : World} {pb : Nat} {cv : Value} {qb most Qn : Nat} {S : PS Pk}
theorem append_none (h : P w pb cv qb most Qn S) {q i : Nat} (hq : q < Qn) (hi : i < S.m) (ht : S.tk i = true) (hd : S.qd i = false) (h0 : S.hd q = -1) :
 Calls Tryz.prog 235 #[.pointer (some ⟨pb, 0, none⟩), .int .i64 q, .int .i64 i] w fun e w' => e = .returned (.int .i64 0) ∧ P w' pb cv qb most Qn (appS0 S q i) ∧ Upd (POf pb qb cv) w w' := by
 have HH := Lib.hid (has_any h hq)
 have HT := Lib.hid (taken_any h hi)
 rw [ht] at HT
 obtain ⟨g, m, c, rfl, hm, hc⟩ := h.arr2 (by omega)
 have hmost := h.mst
 have hqn := h.qn
 obtain ⟨c0, c1, c2, c3, c4, z0, z1, z2, z3, z4⟩ := cells5 h.blk
 obtain ⟨ka, kb, kc, k1, k2, k3, fa, fb, fc, f1, f2, f3⟩ := h.cells hi
 obtain ⟨q0, q1, y0, y1⟩ := h.qcells hq
 rw [hm] at hi hmost
 rw [hd] at k3
 rw [h0] at q0
 have e1 : (i : Int) < m := by omega
 have e2 : (q : Int) < Qn := by omega
 have H0 := Lib.hid h
 have HM := Lib.hid hm
 have HQ0 := Lib.hid h0
 clear h hm ht hd h0
 go_enter Tryz.func235, Tryz.ntmps235
 go_wp2_with fail
 refine (HH.out).mono ?_
 rintro e w' ⟨rfl, rfl⟩
 go_wp2_with fail
 refine (HT.out).mono ?_
 rintro e w' ⟨rfl, rfl⟩
 go_wp2_with fail
 refine wp_region_tail 10 (by kernel_rfl) (by kernel_rfl) ?_
 simp only [List.take_succ_cons, List.take_zero, List.drop_succ_cons, List.drop_zero]
 repeat (go_big_quiet_step (fail))
 refine wpQuiet_nil ?_
 rintro _ ⟨nq, rfl⟩
 go_wp2_with fail
 refine Stage.out ?_
 have H1 := (((H0.out.old ((Upd.refl _ _).drewN nq)).setNx i (-1)).setQd i true)
 have U1 : Upd (POf pb qb (.slice (some ⟨g, 0, none⟩) m c)) w (((w.drewN nq).setCell ⟨g, i * 6 + 3, none⟩ (.int .i32 (-1))).setCell ⟨g, i * 6 + 5, none⟩ (.bool true)) := (((Upd.refl _ _).drewN nq).setCell (a := ⟨g, _, none⟩) (fun _ => .inr (.inr rfl)) _).setCell (a := ⟨g, _, none⟩) (fun _ => .inr (.inr rfl)) _
 obtain ⟨c0, c1, c2, c3, c4, z0, z1, z2, z3, z4⟩ := cells5 H1.blk
 obtain ⟨q0, q1, y0, y1⟩ := H1.qcells hq
 simp only [HQ0.out] at q0
 have HS := Lib.hid ((H1.setHd q i).setTl q i)
 have HU := Lib.hid ((U1.setCell (a := ⟨qb, q * 2, none⟩) (fun _ => .inr (.inl rfl)) (.int .i32 i)).setCell (a := ⟨qb, q * 2 + 1, none⟩) (fun _ => .inr (.inl rfl)) (.int .i32 i))
 clear H1 U1
 go_wp2_with fail
 go_ret
 exact ⟨rfl, HS.out, HU.out⟩
theorem append_some (h : P w pb cv qb most Qn S) {q i j t : Nat} (hq : q < Qn) (hi : i < S.m) (ht : S.tk i = true) (hd : S.qd i = false) (h0 : S.hd q = (j : Int)) (h9 : S.tl q = (t : Int)) (htm : t < S.m) :
 Calls Tryz.prog 235 #[.pointer (some ⟨pb, 0, none⟩), .int .i64 q, .int .i64 i] w fun e w' => e = .returned (.int .i64 0) ∧ P w' pb cv qb most Qn (appS1 S q i t) ∧ Upd (POf pb qb cv) w w' := by
 have HH := Lib.hid (has_any h hq)
 have HT := Lib.hid (taken_any h hi)
 rw [ht] at HT
 obtain ⟨g, m, c, rfl, hm, hc⟩ := h.arr2 (by omega)
 have hmost := h.mst
 have hqn := h.qn
 obtain ⟨c0, c1, c2, c3, c4, z0, z1, z2, z3, z4⟩ := cells5 h.blk
 obtain ⟨ka, kb, kc, k1, k2, k3, fa, fb, fc, f1, f2, f3⟩ := h.cells hi
 obtain ⟨q0, q1, y0, y1⟩ := h.qcells hq
 have hj : ((j : Int) == -1) = false := by simp
 rw [hm] at hi hmost htm
 rw [hd] at k3
 rw [h0] at q0
 have e1 : (i : Int) < m := by omega
 have e2 : (q : Int) < Qn := by omega
 have e3 : (t : Int) < m := by omega
 have H0 := Lib.hid h
 have HM := Lib.hid hm
 have HT0 := Lib.hid h9
 have HQ0 := Lib.hid h0
 have HTM : Hid (t < S.m) := Lib.hid (by omega)
 clear h hm ht hd h0 h9
 go_enter Tryz.func235, Tryz.ntmps235
 go_wp2_with fail
 refine (HH.out).mono ?_
 rintro e w' ⟨rfl, rfl⟩
 go_wp2_with fail
 refine (HT.out).mono ?_
 rintro e w' ⟨rfl, rfl⟩
 go_wp2_with fail
 refine wp_region_tail 10 (by kernel_rfl) (by kernel_rfl) ?_
 simp only [List.take_succ_cons, List.take_zero, List.drop_succ_cons, List.drop_zero]
 repeat (go_big_quiet_step (fail))
 refine wpQuiet_nil ?_
 rintro _ ⟨nq, rfl⟩
 go_wp2_with fail
 refine Stage.out ?_
 have H1 := Lib.hid (((H0.out.old ((Upd.refl _ _).drewN nq)).setNx i (-1)).setQd i true)
 have U1 : Hid (Upd (POf pb qb (.slice (some ⟨g, 0, none⟩) m c)) w (((w.drewN nq).setCell ⟨g, i * 6 + 3, none⟩ (.int .i32 (-1))).setCell ⟨g, i * 6 + 5, none⟩ (.bool true))) := Lib.hid ((((Upd.refl _ _).drewN nq).setCell (a := ⟨g, _, none⟩) (fun _ => .inr (.inr rfl)) _).setCell (a := ⟨g, _, none⟩) (fun _ => .inr (.inr rfl)) _)
 clear c0 c1 c2 c3 c4 z0 z1 z2 z3 z4 ka kb kc k1 k2 k3 fa fb fc f1 f2 f3 q0 q1 y0 y1 HH HT
 generalize ((w.drewN nq).setCell ⟨g, i * 6 + 3, none⟩ (.int .i32 (-1))).setCell ⟨g, i * 6 + 5, none⟩ (.bool true) = w2 at *
 obtain ⟨c0, c1, c2, c3, c4, z0, z1, z2, z3, z4⟩ := cells5 H1.out.blk
 obtain ⟨q0, q1, y0, y1⟩ := H1.out.qcells hq
 obtain ⟨ka, kb, kc, k1, k2, k3, fa, fb, fc, f1, f2, f3⟩ := H1.out.cells HTM.out
 simp only [HT0.out, HQ0.out] at q0 q1
 go_wp2_with fail
 refine wp_region_tail 12 (by kernel_rfl) (by kernel_rfl) ?_
 simp only [List.take_succ_cons, List.take_zero, List.drop_succ_cons, List.drop_zero]
 repeat (go_big_quiet_step (fail))
 refine wpQuiet_nil ?_
 rintro _ ⟨nq2, rfl⟩
 go_wp2_with fail
 refine Stage.out ?_
 have H2 := (H1.out.old ((Upd.refl _ _).drewN nq2)).setNx t i
 have U2 := (U1.out.drewN nq2).setCell (a := ⟨g, t * 6 + 3, none⟩) (fun _ => .inr (.inr rfl)) (.int .i32 i)
 obtain ⟨q2, q3, y2, y3⟩ := H2.qcells hq
 have HS := Lib.hid (H2.setTl q i)
 have HU := Lib.hid (U2.setCell (a := ⟨qb, q * 2 + 1, none⟩) (fun _ => .inr (.inl rfl)) (.int .i32 i))
 clear H2 U2
 go_wp2_with fail
 go_ret
 exact ⟨rfl, HS.out, HU.out⟩
end
end Go.Proofs.YtpgpjjkeginbbaaGreatDoor.PoolP
namespace Go.Proofs.YtpgpjjkeginbbaaGreatDoor.PoolP
open Go.RowKit Go.Proofs BigFrame Pool PoolW
set_option maxHeartbeats 4000000
set_option maxRecDepth 1000000
section
variable {w : World} {pb : Nat} {cv : Value} {qb most Qn : Nat} {S : PS Pk}
theorem popS_none {S : PS Pk} {q i : Nat} (h : S.nx i = -1) : popS S q i = { S with nx := upd S.nx i (-1), qd := upd S.qd i false, hd := upd S.hd q (-1), tl := upd S.tl q (-1) } := by
 unfold popS; rw [if_pos h, h]
theorem popS_some {S : PS Pk} {q i j : Nat} (h : S.nx i = (j : Int)) : popS S q i = { S with nx := upd S.nx i (-1), qd := upd S.qd i false, hd := upd S.hd q (j : Int) } := by
 unfold popS; rw [if_neg (by omega), h]
theorem giveS_eq {S : PS Pk} {i d : Nat} {z : Pk} (h : S.n - 1 = d) : giveS S i z = { S with x := upd S.x i z, nx := upd S.nx i S.free, tk := upd S.tk i false, qd := upd S.qd i false, free := i, n := d } := by
 unfold giveS; rw [h]
theorem pop_last (h : P w pb cv qb most Qn S) {q i : Nat} (hq : q < Qn) (hi : i < S.m) (h0 : S.hd q = (i : Int)) (hn : S.nx i = -1) :
 Calls Tryz.prog 223 #[.pointer (some ⟨pb, 0, none⟩), .int .i64 q] w fun e w' => e = .returned (.tuple #[.int .i64 i, .bool true]) ∧ P w' pb cv qb most Qn (popS S q i) ∧ Upd (POf pb qb cv) w w' := by
 have hmost := h.mst
 have HH := Lib.hid (head_some h hq h0 (by omega))
 rw [popS_none hn]
 obtain ⟨g, m, c, rfl, hm, hc⟩ := h.arr2 (by omega)
 have hqn := h.qn
 obtain ⟨c0, c1, c2, c3, c4, z0, z1, z2, z3, z4⟩ := cells5 h.blk
 obtain ⟨ka, kb, kc, k1, k2, k3, fa, fb, fc, f1, f2, f3⟩ := h.cells hi
 obtain ⟨q0, q1, y0, y1⟩ := h.qcells hq
 rw [hm] at hi hmost
 rw [h0] at q0
 rw [hn] at k1
 have e1 : (i : Int) < m := by omega
 have e2 : (q : Int) < Qn := by omega
 have H0 := Lib.hid h
 have HM := Lib.hid hm
 have HI : Hid (i < S.m) := Lib.hid (by omega)
 clear h hm h0 hn
 go_enter Tryz.func223, Tryz.ntmps223
 go_wp2_with fail
 refine (HH.out).mono ?_
 rintro e w1 ⟨rfl, nq1, rfl⟩
 have H1 := Lib.hid (((H0.out.old ((Upd.refl _ _).drewN nq1)).setHd q (-1)).setTl q (-1))
 have U1 : Hid (Upd (POf pb qb (.slice (some ⟨g, 0, none⟩) m c)) w (((w.drewN nq1).setCell ⟨qb, q * 2, none⟩ (.int .i32 (-1))).setCell ⟨qb, q * 2 + 1, none⟩ (.int .i32 (-1)))) := Lib.hid ((((Upd.refl _ _).drewN nq1).setCell (a := ⟨qb, _, none⟩) (fun _ => .inr (.inl rfl)) _).setCell (a := ⟨qb, _, none⟩) (fun _ => .inr (.inl rfl)) _)
 go_upto_region 8 with fail
 clear c0 c1 c2 c3 c4 z0 z1 z2 z3 z4 ka kb kc k1 k2 k3 fa fb fc f1 f2 f3 q0 q1 y0 y1 HH
 generalize ((w.drewN nq1).setCell ⟨qb, q * 2, none⟩ (.int .i32 (-1))).setCell ⟨qb, q * 2 + 1, none⟩ (.int .i32 (-1)) = w2 at *
 obtain ⟨c0, c1, c2, c3, c4, z0, z1, z2, z3, z4⟩ := cells5 H1.out.blk
 obtain ⟨ka, kb, kc, k1, k2, k3, fa, fb, fc, f1, f2, f3⟩ := H1.out.cells HI.out
 go_wp2_with fail
 refine wp_region_tail 10 (by kernel_rfl) (by kernel_rfl) ?_
 simp only [List.take_succ_cons, List.take_zero, List.drop_succ_cons, List.drop_zero]
 repeat (go_big_quiet_step (fail))
 refine wpQuiet_nil ?_
 rintro _ ⟨nq, rfl⟩
 go_wp2_with fail
 refine Stage.out ?_
 have HS := Lib.hid (((H1.out.old ((Upd.refl _ _).drewN nq)).setNx i (-1)).setQd i false)
 have HU := Lib.hid (((U1.out.drewN nq).setCell (a := ⟨g, i * 6 + 3, none⟩) (fun _ => .inr (.inr rfl)) (.int .i32 (-1))).setCell (a := ⟨g, i * 6 + 5, none⟩) (fun _ => .inr (.inr rfl)) (.bool false))
 go_wp2_with fail
 go_ret2
 exact ⟨rfl, HS.out, HU.out⟩
theorem pop_more (h : P w pb cv qb most Qn S) {q i j : Nat} (hq : q < Qn) (hi : i < S.m) (h0 : S.hd q = (i : Int)) (hn : S.nx i = (j : Int)) :
 Calls Tryz.prog 223 #[.pointer (some ⟨pb, 0, none⟩), .int .i64 q] w fun e w' => e = .returned (.tuple #[.int .i64 i, .bool true]) ∧ P w' pb cv qb most Qn (popS S q i) ∧ Upd (POf pb qb cv) w w' := by
 have hmost := h.mst
 have HH := Lib.hid (head_some h hq h0 (by omega))
 rw [popS_some hn]
 obtain ⟨g, m, c, rfl, hm, hc⟩ := h.arr2 (by omega)
 have hqn := h.qn
 obtain ⟨c0, c1, c2, c3, c4, z0, z1, z2, z3, z4⟩ := cells5 h.blk
 obtain ⟨ka, kb, kc, k1, k2, k3, fa, fb, fc, f1, f2, f3⟩ := h.cells hi
 obtain ⟨q0, q1, y0, y1⟩ := h.qcells hq
 have hj : ((j : Int) == -1) = false := by simp
 rw [hm] at hi hmost
 rw [h0] at q0
 rw [hn] at k1
 have e1 : (i : Int) < m := by omega
 have e2 : (q : Int) < Qn := by omega
 have H0 := Lib.hid h
 have HM := Lib.hid hm
 have HI : Hid (i < S.m) := Lib.hid (by omega)
 clear h hm h0 hn
 go_enter Tryz.func223, Tryz.ntmps223
 go_wp2_with fail
 refine (HH.out).mono ?_
 rintro e w1 ⟨rfl, nq1, rfl⟩
 have H1 := Lib.hid ((H0.out.old ((Upd.refl _ _).drewN nq1)).setHd q (j : Int))
 have U1 : Hid (Upd (POf pb qb (.slice (some ⟨g, 0, none⟩) m c)) w ((w.drewN nq1).setCell ⟨qb, q * 2, none⟩ (.int .i32 (j : Int)))) := Lib.hid (((Upd.refl _ _).drewN nq1).setCell (a := ⟨qb, _, none⟩) (fun _ => .inr (.inl rfl)) _)
 go_upto_region 8 with fail
 clear c0 c1 c2 c3 c4 z0 z1 z2 z3 z4 ka kb kc k1 k2 k3 fa fb fc f1 f2 f3 q0 q1 y0 y1 HH
 generalize (w.drewN nq1).setCell ⟨qb, q * 2, none⟩ (.int .i32 (j : Int)) = w2 at *
 obtain ⟨c0, c1, c2, c3, c4, z0, z1, z2, z3, z4⟩ := cells5 H1.out.blk
 obtain ⟨ka, kb, kc, k1, k2, k3, fa, fb, fc, f1, f2, f3⟩ := H1.out.cells HI.out
 go_wp2_with fail
 refine wp_region_tail 10 (by kernel_rfl) (by kernel_rfl) ?_
 simp only [List.take_succ_cons, List.take_zero, List.drop_succ_cons, List.drop_zero]
 repeat (go_big_quiet_step (fail))
 refine wpQuiet_nil ?_
 rintro _ ⟨nq, rfl⟩
 go_wp2_with fail
 refine Stage.out ?_
 have HS := Lib.hid (((H1.out.old ((Upd.refl _ _).drewN nq)).setNx i (-1)).setQd i false)
 have HU := Lib.hid (((U1.out.drewN nq).setCell (a := ⟨g, i * 6 + 3, none⟩) (fun _ => .inr (.inr rfl)) (.int .i32 (-1))).setCell (a := ⟨g, i * 6 + 5, none⟩) (fun _ => .inr (.inr rfl)) (.bool false))
 go_wp2_with fail
 go_ret2
 exact ⟨rfl, HS.out, HU.out⟩
theorem give_any (h : P w pb cv qb most Qn S) {i : Nat} (hi : i < S.m) (ht : S.tk i = true) (hd : S.qd i = false) (hn : 0 < S.n) (hn2 : S.n ≤ 1000000) :
 Calls Tryz.prog 224 #[.pointer (some ⟨pb, 0, none⟩), .int .i64 i] w fun e w' => e = .returned (.tuple #[VP (S.x i), .int .i64 0]) ∧ P w' pb cv qb most Qn (giveS S i ((0, 0, 0) : Pk)) ∧ Upd (POf pb qb cv) w w' := by
 obtain ⟨⟨xa, xb, xc⟩, hx⟩ : ∃ x, S.x i = x := ⟨_, rfl⟩
 have hlts := fun k (hk : POf pb qb cv k) => h.lts hk
 have hU2 : Upd Nowhere w ((w.alloc (.cells zP TPk)).alloc (.cells zP TPk)) := ((Upd.refl _ _).alloc _).alloc _
 have hB2 : Blk ((w.alloc (.cells zP TPk)).alloc (.cells zP TPk)) w.heap.size zP TPk := (Blk.new _ _ _).alloc _
 have HT := Lib.hid (taken_any (h.old hU2) hi)
 rw [ht] at HT
 rw [hx]
 have hmost := h.mst
 obtain ⟨g, m, c, rfl, hm, hc⟩ := h.arr2 (by omega)
 have hqn := h.qn
 obtain ⟨n, hnn⟩ : ∃ n, S.n = n := ⟨_, rfl⟩
 obtain ⟨d, hd1⟩ : ∃ d, n - 1 = d := ⟨_, rfl⟩
 rw [giveS_eq (show S.n - 1 = d by omega)]
 have H2 := Lib.hid (h.old hU2)
 have HI := Lib.hid hi
 have HX := Lib.hid hx
 have HD := Lib.hid hd
 rw [hm] at hi hmost
 rw [hnn] at hn hn2
 have e1 : (i : Int) < m := by omega
 have e2 : (n : Int) - 1 = (d : Int) := by omega
 have HM := Lib.hid hm
 have HNN := Lib.hid hnn
 have HU2 := Lib.hid hU2
 have HLT := Lib.hid hlts
 clear h hm ht hd hnn hd1 hx hU2 hlts
 go_enter Tryz.func224, Tryz.ntmps224
 go_wp2_with fail
 generalize (w.alloc (.cells zP TPk)).alloc (.cells zP TPk) = w2 at *
 refine HT.out.mono ?_
 rintro e w' ⟨rfl, rfl⟩
 obtain ⟨c0, c1, c2, c3, c4, z0, z1, z2, z3, z4⟩ := cells5 H2.out.blk
 obtain ⟨ka, kb, kc, k1, k2, k3, fa, fb, fc, f1, f2, f3⟩ := H2.out.cells HI.out
 simp only [HX.out, kp0, kp1, kp2] at ka kb kc
 simp only [HD.out] at k3
 go_upto_region 9 with fail
 have hU3 : Upd Nowhere w2 (w2.alloc (.cells #[.int .u32 xa, .int .u32 xb, .int .u64 xc] TPk)) := (Upd.refl _ _).alloc _
 have H3 := Lib.hid (H2.out.old hU3)
 have HB3 := Lib.hid (hB2.alloc (.cells #[.int .u32 xa, .int .u32 xb, .int .u64 xc] TPk))
 have HX3 := Lib.hid (Blk.new w2 #[.int .u32 xa, .int .u32 xb, .int .u64 xc] TPk)
 have HU3 : Hid (Upd Nowhere w (w2.alloc (.cells #[.int .u32 xa, .int .u32 xb, .int .u64 xc] TPk))) := Lib.hid (HU2.out.alloc _)
 obtain ⟨rb, hrb⟩ : ∃ rb, w.heap.size = rb := ⟨_, rfl⟩
 obtain ⟨xk, hxk⟩ : ∃ xk, w2.heap.size = xk := ⟨_, rfl⟩
 have hws : rb < xk := by have := hB2.lt; omega
 have hr1 : ∀ k, POf pb qb (.slice (some ⟨g, 0, none⟩) m c) k → k < rb := fun k hk => by have := HLT.out k hk; omega
 rw [hrb] at HB3
 rw [hxk] at HX3
 try simp only [hrb, hxk]
 have HRB := Lib.hid hrb
 have HR1 := Lib.hid hr1
 clear c0 c1 c2 c3 c4 z0 z1 z2 z3 z4 ka kb kc k1 k2 k3 fa fb fc f1 f2 f3 hU3 hB2 H2 HU2 HT HLT hrb hr1
 generalize w2.alloc (.cells #[.int .u32 xa, .int .u32 xb, .int .u64 xc] TPk) = w3 at *
 clear hxk
 obtain ⟨c0, c1, c2, c3, c4, z0, z1, z2, z3, z4⟩ := cells5 H3.out.blk
 obtain ⟨ka, kb, kc, k1, k2, k3, fa, fb, fc, f1, f2, f3⟩ := H3.out.cells HI.out
 go_wp2_with fail
 refine wp_region_tail 11 (by kernel_rfl) (by kernel_rfl) ?_
 simp only [List.take_succ_cons, List.take_zero, List.drop_succ_cons, List.drop_zero]
 iterate 11 (go_big_quiet_step (fail))
 refine wpQuiet_nil ?_
 rintro _ ⟨nq, rfl⟩
 go_upto_region 10 with fail
 refine Stage.out ?_
 have H1 : Hid (P (put6 (w3.drewN nq) g i (.int .u32 0) (.int .u32 0) (.int .u64 0) (.int .i32 S.free) (.bool false) (.bool false)) pb (.slice (some ⟨g, 0, none⟩) m c) qb most Qn { S with x := upd S.x i (0, 0, 0), nx := upd S.nx i S.free, tk := upd S.tk i false, qd := upd S.qd i false }) := Lib.hid ((H3.out.old ((Upd.refl _ _).drewN nq)).setAll i (0, 0, 0) S.free false false)
 have U1 : Hid (Upd (POf pb qb (.slice (some ⟨g, 0, none⟩) m c)) w3 (put6 (w3.drewN nq) g i (.int .u32 0) (.int .u32 0) (.int .u64 0) (.int .i32 S.free) (.bool false) (.bool false))) := Lib.hid (upd6 ((Upd.refl _ _).drewN nq) (fun _ => .inr (.inr rfl)) i _ _ _ _ _ _)
 unfold put6 at H1 U1
 clear c0 c1 c2 c3 c4 z0 z1 z2 z3 z4 ka kb kc k1 k2 k3 fa fb fc f1 f2 f3
 generalize ((((((w3.drewN nq).setCell ⟨g, i * 6, none⟩ (.int .u32 0)).setCell ⟨g, i * 6 + 1, none⟩ (.int .u32 0)).setCell ⟨g, i * 6 + 2, none⟩ (.int .u64 0)).setCell ⟨g, i * 6 + 3, none⟩ (.int .i32 S.free)).setCell ⟨g, i * 6 + 4, none⟩ (.bool false)).setCell ⟨g, i * 6 + 5, none⟩ (.bool false) = w4 at *
 obtain ⟨c0, c1, c2, c3, c4, z0, z1, z2, z3, z4⟩ := cells5 H1.out.blk
 simp only [HNN.out] at c4
 go_upto_region 12 with fail
 have HS := Lib.hid ((H1.out.setFree i).setN d)
 have hUU : Upd (POf pb qb (.slice (some ⟨g, 0, none⟩) m c)) w3 ((w4.setCell ⟨pb, 3, none⟩ (.int .i32 i)).setCell ⟨pb, 4, none⟩ (.int .i64 d)) := (U1.out.setCell (a := ⟨pb, 3, none⟩) (fun _ => .inl rfl) (.int .i32 i)).setCell (a := ⟨pb, 4, none⟩) (fun _ => .inl rfl) (.int .i64 d)
 have hB5 := HB3.out.kept hUU (fun h => by have := HR1.out _ h; omega)
 have hX5 := HX3.out.kept hUU (fun h => by have := HR1.out _ h; omega)
 have HUU := Lib.hid hUU
 clear hUU c0 c1 c2 c3 c4 z0 z1 z2 z3 z4 U1 H1
 generalize (w4.setCell ⟨pb, 3, none⟩ (.int .i32 i)).setCell ⟨pb, 4, none⟩ (.int .i64 d) = w5 at *
 obtain ⟨b0, b1, b2, y0, y1, y2⟩ := cells3 hB5
 obtain ⟨x0, x1, x2, v0, v1, v2⟩ := cells3 hX5
 clear hB5 hX5
 go_wp2_with fail
 have HUF : Hid (Upd (POf pb qb (.slice (some ⟨g, 0, none⟩) m c)) w w5) := Lib.hid ((HU3.out.any _).trans HUU.out (fun _ _ h => h))
 refine bodyPost_ret (v := .tuple #[.agg #[.int .u32 xa, .int .u32 xb, .int .u64 xc], .int .i64 0]) (by simp [results, Tryz.results224, go_sem, b0, b1, b2]) rfl ⟨rfl, PIn.kept (A := fun k => k = rb) HS.out ?_ (fun k hk e => by have := HR1.out k hk; omega), ?_⟩
 · exact (((Upd.refl (fun k => k = rb) w5).setCell (a := ⟨rb, 0, none⟩) (fun _ => rfl) _).setCell (a := ⟨rb, 1, none⟩) (fun _ => rfl) _).setCell (a := ⟨rb, 2, none⟩) (fun _ => rfl) _
 · repeat (first | with_reducible exact HUF.out | with_reducible refine Upd.drewN ?_ _ | with_reducible refine Upd.drew ?_ | with_reducible refine Upd.setNew ?_ (by rw [HRB.out]; exact Nat.le_refl _) _)
end
end Go.Proofs.YtpgpjjkeginbbaaGreatDoor.PoolP
namespace Go.Proofs.YtpgpjjkeginbbaaGreatDoor.PoolP
open Go.RowKit Go.Proofs BigFrame Pool PoolW
set_option maxHeartbeats 4000000
set_option maxRecDepth 1000000
abbrev Z : Value := .agg #[.int .u32 0, .int .u32 0, .int .u64 0, .int .i32 0, .bool false, .bool false]
theorem infoC : (Tryz.prog.info? TC).map (fun i => (i.zero, i.size, i.bytes)) = some (some Z, 6, 24) := by kernel_rfl
theorem form4 {w : World} {v : Value} {n : Nat} {xs : List Value} (h : w.ownsRow 0 TC 6 v (n + 1) xs) : ∃ g c, v = .slice (some ⟨g, 0, none⟩) (n + 1) c := by
 rcases h.2 with ⟨_, h0⟩ | ⟨g, c, cur, rfl, _⟩
 · omega
 · exact ⟨g, c, rfl⟩
theorem new_at (w : World) (c : Array Value) (t : TypeId) : ∀ b, some (⟨w.heap.size, 0, none⟩ : Addr) = some b → ∀ (j : Nat) (u : Value), c.toList[j]? = some u → (w.alloc (.cells c t)).cell? (b.add j) = some u := fun b hb j u hu => by
 obtain rfl := Option.some.inj hb
 rw [add_at, Nat.zero_add]
 exact new_cells w c t j u hu
section
variable {w : World} {pb : Nat} {cv : Value} {qb most Qn : Nat} {S : PS Pk}
theorem take_old (h : P w pb cv qb most Qn S) (hn : S.n < most) {b : Nat} (hf : S.free = (b : Int)) (hb : b < S.m) (xa xb xc : Nat) :
 Calls Tryz.prog 234 #[.pointer (some ⟨pb, 0, none⟩), .agg #[.int .u32 xa, .int .u32 xb, .int .u64 xc]] w fun e w' => e = .returned (.tuple #[.int .i64 b, .bool true]) ∧ P w' pb cv qb most Qn (takeS S b S.m (S.nx b) (xa, xb, xc)) ∧ Upd (POf pb qb cv) w w' := by
 have hmost := h.mst
 obtain ⟨g, m, c, rfl, hm, hc⟩ := h.arr2 (by omega)
 have hU0 : Upd Nowhere w (w.alloc (.cells #[.int .u32 xa, .int .u32 xb, .int .u64 xc] TPk)) := (Upd.refl _ _).alloc _
 have HX0 := Lib.hid (Blk.new w #[.int .u32 xa, .int .u32 xb, .int .u64 xc] TPk)
 have HLT := Lib.hid (fun k (hk : POf pb qb (.slice (some ⟨g, 0, none⟩) m c) k) => h.lts hk)
 obtain ⟨c0, c1, c2, c3, c4, z0, z1, z2, z3, z4⟩ := cells5 (h.old hU0).blk
 obtain ⟨x0, x1, x2, _, _, _⟩ := cells3 HX0.out
 obtain ⟨ka, kb, kc, k1, k2, k3, fa, fb, fc, f1, f2, f3⟩ := (h.old hU0).cells hb
 obtain ⟨n, hnn⟩ : ∃ n, S.n = n := ⟨_, rfl⟩
 obtain ⟨y, hy⟩ : ∃ y, S.nx b = y := ⟨_, rfl⟩
 have HE : Hid (takeS S b S.m (S.nx b) (xa, xb, xc) = { S with x := upd S.x b (xa, xb, xc), nx := upd S.nx b (-1), tk := upd S.tk b true, qd := upd S.qd b false, free := y, n := n + 1 }) := Lib.hid (by unfold takeS; rw [hnn, hy])
 have d1 : decide (most ≤ S.n) = false := decide_eq_false (by omega)
 rw [hnn] at c4 hn d1
 rw [hf] at c3
 rw [hy] at k1
 have hj : ((b : Int) == -1) = false := by simp
 have HB := Lib.hid hb
 rw [hm] at hb hmost
 have e1 : (b : Int) < m := by omega
 have e2 : IntKind.i64.wrap ((n : Int) + 1) = ((n + 1 : Nat) : Int) := by rw [IntKind.wrap_i64]; omega
 have H0 := Lib.hid (h.old hU0)
 have HU0 := Lib.hid hU0
 clear hU0
 have HNN := Lib.hid hnn
 clear h hm hnn hf hy
 go_enter Tryz.func234, Tryz.ntmps234
 go_wp2_with fail
 go_quiet (fail)
 go_upto_region 8 with fail
 have H1 : Hid (P (((w.alloc (.cells #[.int .u32 xa, .int .u32 xb, .int .u64 xc] TPk)).drewN nq).setCell ⟨pb, 3, none⟩ (.int .i32 y)) pb (.slice (some ⟨g, 0, none⟩) m c) qb most Qn { S with free := y }) := Lib.hid ((H0.out.old ((Upd.refl _ _).drewN nq)).setFree y)
 have U1 : Hid (Upd (POf pb qb (.slice (some ⟨g, 0, none⟩) m c)) w (((w.alloc (.cells #[.int .u32 xa, .int .u32 xb, .int .u64 xc] TPk)).drewN nq).setCell ⟨pb, 3, none⟩ (.int .i32 y))) := Lib.hid (((HU0.out.any _).drewN nq).setCell (a := ⟨pb, 3, none⟩) (fun _ => .inl rfl) _)
 have hX1 : Blk (((w.alloc (.cells #[.int .u32 xa, .int .u32 xb, .int .u64 xc] TPk)).drewN nq).setCell ⟨pb, 3, none⟩ (.int .i32 y)) w.heap.size #[.int .u32 xa, .int .u32 xb, .int .u64 xc] TPk := (HX0.out.drewN nq).setOther (a := ⟨pb, 3, none⟩) (fun e => Nat.lt_irrefl w.heap.size (by have h9 := HLT.out pb (.inl rfl); have e9 : w.heap.size = pb := e; omega)) _
 have HLB : Hid (∀ k, POf pb qb (.slice (some ⟨g, 0, none⟩) m c) k → k < w.heap.size) := HLT
 have HX1 := Lib.hid hX1
 have HU0S := Lib.hid HU0.out.size
 clear hX1 HX0 x0 x1 x2
 clear c0 c1 c2 c3 c4 z0 z1 z2 z3 z4 ka kb kc k1 k2 k3 fa fb fc f1 f2 f3
 generalize ((w.alloc (.cells #[.int .u32 xa, .int .u32 xb, .int .u64 xc] TPk)).drewN nq).setCell ⟨pb, 3, none⟩ (.int .i32 y) = w1 at *
 obtain ⟨c0, c1, c2, c3, c4, z0, z1, z2, z3, z4⟩ := cells5 H1.out.blk
 obtain ⟨ka, kb, kc, k1, k2, k3, fa, fb, fc, f1, f2, f3⟩ := H1.out.cells HB.out
 obtain ⟨x0, x1, x2, _, _, _⟩ := cells3 HX1.out
 go_wp2_with fail
 refine wp_region_tail 8 (by kernel_rfl) (by kernel_rfl) ?_
 simp only [List.take_succ_cons, List.take_zero, List.drop_succ_cons, List.drop_zero]
 iterate 8 (go_big_quiet_step (fail))
 refine wpQuiet_nil ?_
 rintro _ ⟨nq3, rfl⟩
 go_upto_region 9 with fail
 refine Stage.out ?_
 have H2 : Hid (P (((((((w1.drewN nq3).setCell ⟨g, b * 6, none⟩ (.int .u32 xa)).setCell ⟨g, b * 6 + 1, none⟩ (.int .u32 xb)).setCell ⟨g, b * 6 + 2, none⟩ (.int .u64 xc)).setCell ⟨g, b * 6 + 3, none⟩ (.int .i32 (-1))).setCell ⟨g, b * 6 + 4, none⟩ (.bool true)).setCell ⟨g, b * 6 + 5, none⟩ (.bool false)) pb (.slice (some ⟨g, 0, none⟩) m c) qb most Qn { S with x := upd S.x b (xa, xb, xc), nx := upd S.nx b (-1), tk := upd S.tk b true, qd := upd S.qd b false, free := y }) := Lib.hid ((H1.out.old ((Upd.refl _ _).drewN nq3)).setAll b (xa, xb, xc) (-1) true false)
 have U2 : Hid (Upd (POf pb qb (.slice (some ⟨g, 0, none⟩) m c)) w (((((((w1.drewN nq3).setCell ⟨g, b * 6, none⟩ (.int .u32 xa)).setCell ⟨g, b * 6 + 1, none⟩ (.int .u32 xb)).setCell ⟨g, b * 6 + 2, none⟩ (.int .u64 xc)).setCell ⟨g, b * 6 + 3, none⟩ (.int .i32 (-1))).setCell ⟨g, b * 6 + 4, none⟩ (.bool true)).setCell ⟨g, b * 6 + 5, none⟩ (.bool false))) := Lib.hid (upd6 (U1.out.drewN nq3) (fun _ => .inr (.inr rfl)) b _ _ _ _ _ _)
 clear c0 c1 c2 c3 c4 z0 z1 z2 z3 z4 ka kb kc k1 k2 k3 fa fb fc f1 f2 f3
 generalize ((((((w1.drewN nq3).setCell ⟨g, b * 6, none⟩ (.int .u32 xa)).setCell ⟨g, b * 6 + 1, none⟩ (.int .u32 xb)).setCell ⟨g, b * 6 + 2, none⟩ (.int .u64 xc)).setCell ⟨g, b * 6 + 3, none⟩ (.int .i32 (-1))).setCell ⟨g, b * 6 + 4, none⟩ (.bool true)).setCell ⟨g, b * 6 + 5, none⟩ (.bool false) = w2 at *
 obtain ⟨c0, c1, c2, c3, c4, z0, z1, z2, z3, z4⟩ := cells5 H2.out.blk
 simp only [HNN.out] at c4
 have HS := Lib.hid (H2.out.setN (n + 1))
 have HU := Lib.hid (U2.out.setCell (a := ⟨pb, 4, none⟩) (fun _ => .inl rfl) (.int .i64 ((n + 1 : Nat) : Int)))
 go_wp2_with fail
 go_ret2
 exact ⟨rfl, by rw [HE.out]; exact HS.out, HU.out⟩
theorem take_new (h : P w pb cv qb most Qn S) (hn : S.n < most) (hf : S.free = -1) (hb : S.m < most) (xa xb xc : Nat) :
 Calls Tryz.prog 234 #[.pointer (some ⟨pb, 0, none⟩), .agg #[.int .u32 xa, .int .u32 xb, .int .u64 xc]] w fun e w' => e = .returned (.tuple #[.int .i64 S.m, .bool true]) ∧ ∃ cv', P w' pb cv' qb most Qn (takeS S S.m (S.m + 1) S.free (xa, xb, xc)) ∧ OwnOrNew w cv cv' ∧ Upd (POf pb qb cv) w w' := by
 have hmost := h.mst
 obtain ⟨i0, hi, hz0, hz1, hz2⟩ := info_parts infoC
 obtain ⟨ad, m, c, rfl, hm⟩ := h.form2
 have hU0 : Upd Nowhere w (w.alloc (.cells #[.int .u32 xa, .int .u32 xb, .int .u64 xc] TPk)) := (Upd.refl _ _).alloc _
 have HX0 := Lib.hid (Blk.new w #[.int .u32 xa, .int .u32 xb, .int .u64 xc] TPk)
 have HLT := Lib.hid (fun k (hk : POf pb qb (.slice ad m c) k) => h.lts hk)
 obtain ⟨c0, c1, c2, c3, c4, z0, z1, z2, z3, z4⟩ := cells5 (h.old hU0).blk
 obtain ⟨x0, x1, x2, _, _, _⟩ := cells3 HX0.out
 obtain ⟨n, hnn⟩ : ∃ n, S.n = n := ⟨_, rfl⟩
 have HE : Hid (takeS S S.m (S.m + 1) S.free (xa, xb, xc) = { S with m := S.m + 1, x := upd (upd S.x S.m ((0, 0, 0) : Pk)) S.m (xa, xb, xc), nx := upd (upd S.nx S.m 0) S.m (-1), tk := upd (upd S.tk S.m false) S.m true, qd := upd (upd S.qd S.m false) S.m false, n := n + 1 }) := Lib.hid (by unfold takeS; simp only [upd_upd]; rw [hnn])
 have d1 : decide (most ≤ S.n) = false := decide_eq_false (by omega)
 rw [hnn] at c4 hn d1
 rw [hf] at c3
 have HB := Lib.hid hb
 have HF := Lib.hid hf
 have hROW := (h.old hU0).row
 rw [hm] at hb hmost hROW
 have e2 : IntKind.i64.wrap ((n : Int) + 1) = ((n + 1 : Nat) : Int) := by rw [IntKind.wrap_i64]; omega
 have H0 := Lib.hid (h.old hU0)
 have HU0 := Lib.hid hU0
 clear hU0
 have HM := Lib.hid hm
 have HNN := Lib.hid hnn
 have HROW := Lib.hid hROW
 clear h hm hnn hf hROW
 go_enter Tryz.func234, Tryz.ntmps234
 go_wp2_with fail
 go_quiet (fail)
 go_upto_region 3 with fail
 have H1 := Lib.hid (H0.out.old ((Upd.refl _ _).drewN nq))
 have U1 := Lib.hid ((HU0.out.any (POf pb qb (.slice ad m c))).drewN nq)
 have HROW1 := Lib.hid (ownsRow_upd HROW.out ((Upd.refl Nowhere (w.alloc (.cells #[.int .u32 xa, .int .u32 xb, .int .u64 xc] TPk))).drewN nq) (fun _ _ h => h))
 have hsz : w.heap.size < ((w.alloc (.cells #[.int .u32 xa, .int .u32 xb, .int .u64 xc] TPk)).drewN nq).heap.size := ((HX0.out.drewN nq)).lt
 have HX1 := Lib.hid (HX0.out.drewN nq)
 have HSZ := Lib.hid hsz
 clear c0 c1 c2 c3 c4 z0 z1 z2 z3 z4 hsz HROW
 clear HX0 x0 x1 x2
 generalize (w.alloc (.cells #[.int .u32 xa, .int .u32 xb, .int .u64 xc] TPk)).drewN nq = w1 at *
 obtain ⟨c0, c1, c2, c3, c4, z0, z1, z2, z3, z4⟩ := cells5 H1.out.blk
 simp only [HF.out] at c3
 go_upto_region 8 with (at_builtin; go_loud (refine wpList_app rfl _ _ 317 rfl 0 TC i0 Z 6 24 Tryz.underlying317 hi hz0 hz1 hz2 rfl (by decide) (by decide) (.slice ad m c) m _ rfl (ownsRow_upd HROW1.out ((Upd.refl Nowhere w1).alloc _) (fun _ _ h => h)) (some ⟨w1.heap.size, 0, none⟩) 1 1 [.int .u32 0, .int .u32 0, .int .u64 0, .int .i32 0, .bool false, .bool false] rfl (fun h => by cases h) rfl (new_at w1 #[.int .u32 0, .int .u32 0, .int .u64 0, .int .i32 0, .bool false, .bool false] TC) (by simp [Value.oneCell']) (by omega) (Nat.zero_le _) ?_; intro v6 w6 hown6 hu6 hn6; have H6 := Lib.hid (H1.out.grow ((0, 0, 0) : Pk) HB.out (by rw [HM.out]; exact hown6) hu6 hn6 ((Upd.refl Nowhere w1).alloc _)); obtain ⟨g6, c6, rfl⟩ := form4 hown6; obtain ⟨b0, b1, b2, b3, b4, y0, y1, y2, y3, y4⟩ := cells5 H6.out.blk; clear hown6 hu6 hn6 c0 c1 c2 c3 c4 z0 z1 z2 z3 z4))
 have hpin := H6.out.pin
 have HOWN : Hid (OwnOrNew w (.slice ad m c) (.slice (some ⟨g6, 0, none⟩) (m + 1) c6)) := Lib.hid (fun k hk => (H6.out.own k hk).imp id (fun h => Nat.le_trans (Nat.le_of_lt HSZ.out) h))
 have hu7 : Upd (POf pb qb (.slice ad m c)) w (w6.setCell ⟨pb, 0, none⟩ (.slice (some ⟨g6, 0, none⟩) (m + 1) c6)) := (U1.out.trans H6.out.upd (fun _ _ h => h)).setCell (a := ⟨pb, 0, none⟩) (fun _ => .inl rfl) _
 have H7 := Lib.hid hpin
 have U7 := Lib.hid hu7
 have hX7 : Blk (w6.setCell ⟨pb, 0, none⟩ (.slice (some ⟨g6, 0, none⟩) (m + 1) c6)) w.heap.size #[.int .u32 xa, .int .u32 xb, .int .u64 xc] TPk := (HX1.out.kept H6.out.upd (fun h => by have := HLT.out _ h; omega)).setOther (a := ⟨pb, 0, none⟩) (fun e => Nat.lt_irrefl w.heap.size (by have h9 := HLT.out pb (.inl rfl); have e9 : w.heap.size = pb := e; omega)) _
 have HX7 := Lib.hid hX7
 clear hX7
 clear hpin hu7 b0 b1 b2 b3 b4 y0 y1 y2 y3 y4 H6
 generalize w6.setCell ⟨pb, 0, none⟩ (.slice (some ⟨g6, 0, none⟩) (m + 1) c6) = w7 at *
 obtain ⟨c0, c1, c2, c3, c4, z0, z1, z2, z3, z4⟩ := cells5 H7.out.blk
 obtain ⟨ka, kb, kc, k1, k2, k3, fa, fb, fc, f1, f2, f3⟩ := H7.out.cells (i := m) (by rw [← HM.out]; exact Nat.lt_succ_self _)
 obtain ⟨x0, x1, x2, _, _, _⟩ := cells3 HX7.out
 go_wp2_with fail
 refine wp_region_tail 8 (by kernel_rfl) (by kernel_rfl) ?_
 simp only [List.take_succ_cons, List.take_zero, List.drop_succ_cons, List.drop_zero]
 iterate 8 (go_big_quiet_step (fail))
 refine wpQuiet_nil ?_
 rintro _ ⟨nq3, rfl⟩
 go_upto_region 9 with fail
 refine Stage.out ?_
 have H8 : Hid (P (((((((w7.drewN nq3).setCell ⟨g6, m * 6, none⟩ (.int .u32 xa)).setCell ⟨g6, m * 6 + 1, none⟩ (.int .u32 xb)).setCell ⟨g6, m * 6 + 2, none⟩ (.int .u64 xc)).setCell ⟨g6, m * 6 + 3, none⟩ (.int .i32 (-1))).setCell ⟨g6, m * 6 + 4, none⟩ (.bool true)).setCell ⟨g6, m * 6 + 5, none⟩ (.bool false)) pb (.slice (some ⟨g6, 0, none⟩) (m + 1) c6) qb most Qn { S with m := S.m + 1, x := upd (upd S.x S.m ((0, 0, 0) : Pk)) m (xa, xb, xc), nx := upd (upd S.nx S.m 0) m (-1), tk := upd (upd S.tk S.m false) m true, qd := upd (upd S.qd S.m false) m false }) := Lib.hid ((H7.out.old ((Upd.refl _ _).drewN nq3)).setAll m (xa, xb, xc) (-1) true false)
 have U8 : Hid (Upd (POf pb qb (.slice ad m c)) w (((((((w7.drewN nq3).setCell ⟨g6, m * 6, none⟩ (.int .u32 xa)).setCell ⟨g6, m * 6 + 1, none⟩ (.int .u32 xb)).setCell ⟨g6, m * 6 + 2, none⟩ (.int .u64 xc)).setCell ⟨g6, m * 6 + 3, none⟩ (.int .i32 (-1))).setCell ⟨g6, m * 6 + 4, none⟩ (.bool true)).setCell ⟨g6, m * 6 + 5, none⟩ (.bool false))) := by
  have hg : g6 < w.heap.size → POf pb qb (.slice ad m c) g6 := fun hlt => by
   rcases HOWN.out g6 rfl with h | h
   · exact .inr (.inr h)
   · omega
  exact Lib.hid (upd6 (U7.out.drewN nq3) hg m _ _ _ _ _ _)
 clear c0 c1 c2 c3 c4 z0 z1 z2 z3 z4 ka kb kc k1 k2 k3 fa fb fc f1 f2 f3
 generalize ((((((w7.drewN nq3).setCell ⟨g6, m * 6, none⟩ (.int .u32 xa)).setCell ⟨g6, m * 6 + 1, none⟩ (.int .u32 xb)).setCell ⟨g6, m * 6 + 2, none⟩ (.int .u64 xc)).setCell ⟨g6, m * 6 + 3, none⟩ (.int .i32 (-1))).setCell ⟨g6, m * 6 + 4, none⟩ (.bool true)).setCell ⟨g6, m * 6 + 5, none⟩ (.bool false) = w8 at *
 obtain ⟨c0, c1, c2, c3, c4, z0, z1, z2, z3, z4⟩ := cells5 H8.out.blk
 simp only [HNN.out] at c4
 have HS := Lib.hid (H8.out.setN (n + 1))
 have HU := Lib.hid (U8.out.setCell (a := ⟨pb, 4, none⟩) (fun _ => .inl rfl) (.int .i64 ((n + 1 : Nat) : Int)))
 go_wp2_with fail
 go_ret2
 exact ⟨by rw [HM.out]; rfl, _, by rw [HE.out, HM.out]; have := HS.out; rw [HM.out] at this; exact this, HOWN.out, HU.out⟩
end
end Go.Proofs.YtpgpjjkeginbbaaGreatDoor.PoolP
namespace Go.Proofs.YtpgpjjkeginbbaaGreatDoor.PoolW
open Go.RowKit
open Pool
/-- As many as there are at most. -/
theorem pig : ∀ (m : Nat) (l : List Nat), l.Nodup → (∀ x ∈ l, x < m) → l.length ≤ m
 | 0, l, _, h => by
   cases l with
   | nil => exact Nat.le_refl _
   | cons a t => have := h a (List.mem_cons_self ..); omega
 | m + 1, l, hn, h => by
   have h1 := pig m (l.erase m) (hn.erase m) (fun x hx => by
    have := (hn.mem_erase_iff).1 hx
    have := h x this.2
    omega)
   have h2 : l.length ≤ (l.erase m).length + 1 := by rw [List.length_erase]; split <;> omega
   omega
theorem pl_lt {α : Type} {S : PS α} {Qn : Nat} {F : List Nat} {Q : Nat → List Nat} {h : Nat} (p : Pl S Qn F Q (some h)) : 0 < S.n := by
 obtain ⟨a1, a2, a3⟩ := p.hel h rfl
 have hnf : h ∉ F := fun hh => by have := (p.fre h hh).2; rw [a2] at this; cases this
 have h1 := pig S.m (h :: F) (List.nodup_cons.2 ⟨hnf, p.fnd⟩) (fun x hx => by
  rcases List.mem_cons.1 hx with rfl | hx
  · exact a1
  · exact (p.fre x hx).1)
 have := p.cnt
 simp at h1
 omega
section
variable {α : Type} {K : α → Nat → Value} {TP TC TQ : TypeId} {w w' : World} {pb : Nat} {cv : Value} {qb most Qn n : Nat} {X : Nat → List α}
/-- A pool of n taken handles, all in queues. -/
def HasP (K : α → Nat → Value) (TP TC TQ : TypeId) (w : World) (pb : Nat) (cv : Value) (qb most Qn n : Nat) (X : Nat → List α) : Prop :=
 ∃ S F Q, PIn K TP TC TQ w pb cv qb most Qn S ∧ S.n = n ∧ Pl S Qn F Q none ∧ ∀ q, q < Qn → (Q q).map S.x = X q
/-- The same, and one handle that is in none. -/
def HeldP (K : α → Nat → Value) (TP TC TQ : TypeId) (w : World) (pb : Nat) (cv : Value) (qb most Qn n : Nat) (X : Nat → List α) (h : Nat) (x : α) : Prop :=
 ∃ S F Q, PIn K TP TC TQ w pb cv qb most Qn S ∧ S.n = n ∧ Pl S Qn F Q (some h) ∧ S.x h = x ∧ ∀ q, q < Qn → (Q q).map S.x = X q
theorem HasP.lts (h : HasP K TP TC TQ w pb cv qb most Qn n X) {k : Nat} (hk : POf pb qb cv k) : k < w.heap.size := by
 obtain ⟨S, F, Q, hp, _⟩ := h; exact hp.lts hk
theorem HasP.kept (h : HasP K TP TC TQ w pb cv qb most Qn n X) {A : Nat → Prop} (hu : Upd A w w') (hs : ∀ k, POf pb qb cv k → ¬ A k) : HasP K TP TC TQ w' pb cv qb most Qn n X := by
 obtain ⟨S, F, Q, hp, hr⟩ := h; exact ⟨S, F, Q, hp.kept hu hs, hr⟩
theorem HasP.off (h : HasP K TP TC TQ w pb cv qb most Qn n X) : cv.ownBlock ≠ some pb ∧ cv.ownBlock ≠ some qb ∧ qb ≠ pb := by
 obtain ⟨S, F, Q, hp, _⟩ := h; exact hp.off
theorem HeldP.kept {x : α} {i : Nat} (h : HeldP K TP TC TQ w pb cv qb most Qn n X i x) {A : Nat → Prop} (hu : Upd A w w') (hs : ∀ k, POf pb qb cv k → ¬ A k) : HeldP K TP TC TQ w' pb cv qb most Qn n X i x := by
 obtain ⟨S, F, Q, hp, hr⟩ := h; exact ⟨S, F, Q, hp.kept hu hs, hr⟩
theorem map_congr {S S' : PS α} {Q : Nat → List Nat} (h : ∀ q, q < Qn → ∀ c ∈ Q q, S'.x c = S.x c) (hX : ∀ q, q < Qn → (Q q).map S.x = X q) : ∀ q, q < Qn → (Q q).map S'.x = X q := fun q hq => by
 rw [← hX q hq]; exact List.map_congr_left fun c hc => h q hq c hc
theorem held_new {S : PS α} {Q : Nat → List Nat} {x : α} (p : Pl S Qn [] Q none) (hX : ∀ q, q < Qn → (Q q).map S.x = X q) (h : PIn K TP TC TQ w pb cv qb most Qn (takeS S S.m (S.m + 1) S.free x)) : HeldP K TP TC TQ w pb cv qb most Qn (S.n + 1) X S.m x :=
 ⟨_, _, _, h, rfl, (take_new p x).1, upd_at _ _ _, map_congr (take_new p x).2 hX⟩
theorem held_old {S : PS α} {Q : Nat → List Nat} {b : Nat} {F : List Nat} {x : α} (p : Pl S Qn (b :: F) Q none) (hX : ∀ q, q < Qn → (Q q).map S.x = X q) (h : PIn K TP TC TQ w pb cv qb most Qn (takeS S b S.m (S.nx b) x)) : HeldP K TP TC TQ w pb cv qb most Qn (S.n + 1) X b x :=
 ⟨_, _, _, h, rfl, (take_old p x).1, upd_at _ _ _, map_congr (take_old p x).2 hX⟩
theorem app_map {S S' : PS α} {Q : Nat → List Nat} {q i : Nat} {x : α} (hx : S'.x = S.x) (hi : S.x i = x) (hX : ∀ q, q < Qn → (Q q).map S.x = X q) (hq : q < Qn) : ∀ r, r < Qn → (upd Q q (Q q ++ [i]) r).map S'.x = upd X q (X q ++ [x]) r := fun r hr => by
 rw [hx]
 by_cases e : r = q
 · subst e; rw [upd_at, upd_at, List.map_append, hX r hr, List.map_singleton, hi]
 · rw [upd_off _ _ _ e, upd_off _ _ _ e, hX r hr]
theorem has_app0 {S : PS α} {F : List Nat} {Q : Nat → List Nat} {q i : Nat} {x : α} (p : Pl S Qn F Q (some i)) (hi : S.x i = x) (hX : ∀ q, q < Qn → (Q q).map S.x = X q) (hq : q < Qn) (h0 : Q q = []) (h : PIn K TP TC TQ w pb cv qb most Qn (appS0 S q i)) : HasP K TP TC TQ w pb cv qb most Qn S.n (upd X q (X q ++ [x])) :=
 ⟨_, _, _, h, rfl, app_none p hq h0, app_map rfl hi hX hq⟩
theorem has_app1 {S : PS α} {F : List Nat} {Q : Nat → List Nat} {q i t : Nat} {x : α} (p : Pl S Qn F Q (some i)) (hi : S.x i = x) (hX : ∀ q, q < Qn → (Q q).map S.x = X q) (hq : q < Qn) (h0 : Q q ≠ []) (ht : (Q q).getLast h0 = t) (h : PIn K TP TC TQ w pb cv qb most Qn (appS1 S q i t)) : HasP K TP TC TQ w pb cv qb most Qn S.n (upd X q (X q ++ [x])) :=
 ⟨_, _, _, h, rfl, app_some p hq h0 ht, app_map rfl hi hX hq⟩
theorem held_pop {S : PS α} {F : List Nat} {Q : Nat → List Nat} {q i : Nat} {l : List Nat} (p : Pl S Qn F Q none) (hX : ∀ q, q < Qn → (Q q).map S.x = X q) (hq : q < Qn) (h0 : Q q = i :: l) (h : PIn K TP TC TQ w pb cv qb most Qn (popS S q i)) : HeldP K TP TC TQ w pb cv qb most Qn S.n (upd X q (l.map S.x)) i (S.x i) :=
 ⟨_, _, _, h, rfl, pop_pl p hq h0, rfl, fun r hr => by
  show (upd Q q l r).map S.x = _
  by_cases e : r = q
  · subst e; rw [upd_at, upd_at]
  · rw [upd_off _ _ _ e, upd_off _ _ _ e, hX r hr]⟩
theorem has_give {S : PS α} {F : List Nat} {Q : Nat → List Nat} {i : Nat} (z : α) (p : Pl S Qn F Q (some i)) (hX : ∀ q, q < Qn → (Q q).map S.x = X q) (h : PIn K TP TC TQ w pb cv qb most Qn (giveS S i z)) : HasP K TP TC TQ w pb cv qb most Qn (S.n - 1) X :=
 ⟨_, _, _, h, rfl, (give_pl p z (pl_lt p)).1, map_congr (give_pl p z (pl_lt p)).2 hX⟩
end
end Go.Proofs.YtpgpjjkeginbbaaGreatDoor.PoolW
namespace Go.Proofs.YtpgpjjkeginbbaaGreatDoor.PoolP
open Go.RowKit Go.Proofs BigFrame Pool PoolW
set_option maxHeartbeats 4000000
set_option maxRecDepth 1000000
theorem infoQ : (Tryz.prog.info? TQ).map (fun i => (i.zero, i.size, i.bytes)) = some (some (.agg #[.int .i32 0, .int .i32 0]), 2, 8) := by kernel_rfl
theorem made_q (n : Nat) : madeCells #[.int .i32 0, .int .i32 0] n = (ran (fun _ => .int .i32 0) n).toArray := by
 unfold madeCells ran
 apply Array.ext'
 simp only [Array.toList_map, Array.toList_range]
 refine List.map_congr_left fun i _ => ?_
 have h := Nat.mod_lt i (show 0 < 2 by omega)
 show (#[Value.int .i32 0, Value.int .i32 0] : Array Value)[i % 2]! = _
 rcases (by omega : i % 2 = 0 ∨ i % 2 = 1) with e | e <;> rw [e] <;> rfl
theorem make_q (W : Nat) (h : W ≤ 262144) (u : World) : (Instr.makeSlice 316 (.int .i64 W) (.int .i64 W)).run Tryz.prog u = .ok (.slice (some ⟨u.heap.size, 0, none⟩) W W) (u.alloc (.cells (ran (fun _ => .int .i32 0) (W * 2)).toArray TQ)) := by
 obtain ⟨i0, hi, hz0, hz1, hz2⟩ := info_parts infoQ
 have h := Go.run_make (P := Tryz.prog) u 316 TQ i0 (.agg #[.int .i32 0, .int .i32 0]) Tryz.underlying316 hi hz0 .i64 .i64 W W (by omega) (by omega) (by rw [hz2]; omega) (by omega)
 rw [h, hz1, ← made_q]
 simp [Value.cells]
/-- A pool whose first k queues are laid. -/
def part (k : Nat) : PS Pk := { newS ((0, 0, 0) : Pk) with hd := fun q => if q < k then -1 else 0, tl := fun q => if q < k then -1 else 0 }
theorem part_step (k : Nat) : ({ part k with hd := upd (part k).hd k (-1), tl := upd (part k).tl k (-1) } : PS Pk) = part (k + 1) := by
 have e : upd (fun q => if q < k then (-1 : Int) else 0) k (-1) = fun q => if q < k + 1 then -1 else 0 := by
  funext q
  unfold upd
  by_cases h1 : q = k
  · subst h1; simp
  · rw [if_neg h1]
    show (if q < k then (-1 : Int) else 0) = _
    by_cases h2 : q < k
    · rw [if_pos h2, if_pos (by omega)]
    · rw [if_neg h2, if_neg (by omega)]
 unfold part
 simp only [e]
theorem part_done {w : World} {pb qb most Qn : Nat} (h : P w pb (.slice none 0 0) qb most Qn (part Qn)) : P w pb (.slice none 0 0) qb most Qn (newS ((0, 0, 0) : Pk)) := by
 refine ⟨h.blk, h.row, ?_, h.off, h.mst, h.qn⟩
 have e : ran (qf (part Qn)) (Qn * 2) = ran (qf (newS (((0, 0, 0) : Pk) : Pk))) (Qn * 2) := ran_congr fun i hi => by
  unfold qf part newS
  simp only [show i / 2 < Qn by omega, if_true]
 rw [← e]; exact h.que
theorem new_ok (most Qn : Nat) (w : World) (h1 : 1 ≤ most) (h2 : most ≤ 4096) (h3 : 1 ≤ Qn) (h4 : Qn ≤ 262144) :
 Calls Tryz.prog 91 #[.int .i64 most, .int .i64 Qn] w fun e w' => e = .returned (.tuple #[.pointer (some ⟨w.heap.size + 1, 0, none⟩), .int .i64 0]) ∧ P w' (w.heap.size + 1) (.slice none 0 0) w.heap.size most Qn (newS ((0, 0, 0) : Pk)) ∧ Upd Nowhere w w' := by
 have d1 : decide ((most : Int) < 1) = false := decide_eq_false (by omega)
 have d2 : decide ((most : Int) > 4096) = false := decide_eq_false (by omega)
 have d3 : decide ((Qn : Int) < 0) = false := decide_eq_false (by omega)
 have d4 : decide ((Qn : Int) > 262144) = false := decide_eq_false (by omega)
 have d5 : decide (4096 < most) = false := decide_eq_false (by omega)
 have d6 : decide (262144 < Qn) = false := decide_eq_false (by omega)
 have d7 : decide (most < 1) = false := decide_eq_false (by omega)
 have hmk := make_q Qn h4
 have HP0 : Hid (P ((w.alloc (.cells (ran (fun _ => .int .i32 0) (Qn * 2)).toArray TQ)).alloc (.cells #[.slice none 0 0, .slice (some ⟨w.heap.size, 0, none⟩) Qn Qn, .int .i64 most, .int .i32 (-1), .int .i64 0] TP)) (w.heap.size + 1) (.slice none 0 0) w.heap.size most Qn (part 0)) := Lib.hid (by
  refine ⟨Blk.new2 _ _ _ _, ownsRow_nil _ _ _ _, ?_, ⟨by simp [Value.ownBlock], by simp [Value.ownBlock], by omega⟩, ⟨Nat.zero_le _, h2⟩, ⟨h3, h4⟩⟩
  have e : ran (qf (part 0)) (Qn * 2) = ran (fun _ => .int .i32 0) (Qn * 2) := ran_congr fun i hi => by unfold qf part; simp
  rw [e]
  exact (Blk.new w _ TQ).alloc _)
 go_enter Tryz.func91, Tryz.ntmps91
 go_wp2_with fail
 go_loopw [7, 32] (fun _ sv wr => ∃ k : Nat, sv = .int .i64 k ∧ k ≤ Qn ∧ P wr (w.heap.size + 1) (.slice none 0 0) w.heap.size most Qn (part k) ∧ Upd Nowhere w wr) (fun _ sv _ => Qn - (intOf sv).toNat)
 case atStart => exact ⟨0, rfl, Nat.zero_le _, HP0.out, ((Upd.refl _ _).alloc _).alloc _⟩
 case round =>
  obtain ⟨k, rfl, hk, hP, hu⟩ := hrel
  obtain ⟨wB, rfl⟩ : ∃ x, x = wr := ⟨_, rfl⟩
  clear HP0 hmk
  have HP := Lib.hid hP
  have HU := Lib.hid hu
  obtain ⟨c0, c1, c2, c3, c4, z0, z1, z2, z3, z4⟩ := cells5 hP.blk
  by_cases hlt : k < Qn
  · obtain ⟨q0, q1, y0, y1⟩ := hP.qcells hlt
    have e1 : decide ((k : Int) < Qn) = true := decide_eq_true (by omega)
    have hI : (k : Int) < Qn := by omega
    have e2 : IntKind.i64.wrap ((k : Int) + 1) = ((k + 1 : Nat) : Int) := by rw [IntKind.wrap_i64]; omega
    have HS := Lib.hid ((hP.setHd k (-1)).setTl k (-1))
    have hUS : Upd Nowhere w ((wB.setCell ⟨w.heap.size, k * 2, none⟩ (.int .i32 (-1))).setCell ⟨w.heap.size, k * 2 + 1, none⟩ (.int .i32 (-1))) := (hu.setNew (a := ⟨w.heap.size, k * 2, none⟩) (Nat.le_refl _) _).setNew (a := ⟨w.heap.size, k * 2 + 1, none⟩) (Nat.le_refl _) _
    have HUS := Lib.hid hUS
    clear hP hu hUS
    go_wp2_with fail
    go_roundw
    case rel => exact ⟨k + 1, rfl, by omega, by rw [← part_step]; exact HS.out, HUS.out⟩
    case measure => simp [intOf]; omega
  · obtain rfl : k = Qn := by omega
    have e1 : decide ((k : Int) < k) = false := decide_eq_false (by omega)
    clear hP hu
    go_wp2_with fail
    go_ret2
    exact ⟨rfl, part_done HP.out, HU.out⟩
end Go.Proofs.YtpgpjjkeginbbaaGreatDoor.PoolP
namespace Go.Proofs.YtpgpjjkeginbbaaGreatDoor.PoolP
open Go.RowKit Go.Proofs BigFrame Pool PoolW
set_option maxHeartbeats 4000000
abbrev HP (w : World) (pb : Nat) (cv : Value) (qb most Qn n : Nat) (X : Nat → List Pk) : Prop := HasP KPv TP TC TQ w pb cv qb most Qn n X
abbrev HH (w : World) (pb : Nat) (cv : Value) (qb most Qn n : Nat) (X : Nat → List Pk) (h : Nat) (x : Pk) : Prop := HeldP KPv TP TC TQ w pb cv qb most Qn n X h x
/-- A handle that is taken, with its thing. -/
def At (w : World) (pb : Nat) (cv : Value) (qb most Qn h : Nat) (x : Pk) : Prop := ∃ S : PS Pk, P w pb cv qb most Qn S ∧ h < S.m ∧ S.tk h = true ∧ S.x h = x
section
variable {w w' : World} {pb : Nat} {cv : Value} {qb most Qn n : Nat} {X : Nat → List Pk}
theorem At.old {h : Nat} {x : Pk} (a : At w pb cv qb most Qn h x) (hu : Upd Nowhere w w') : At w' pb cv qb most Qn h x := by
 obtain ⟨S, h1, h2⟩ := a; exact ⟨S, h1.old hu, h2⟩
theorem t_new (most Qn : Nat) (w : World) (h1 : 1 ≤ most) (h2 : most ≤ 4096) (h3 : 1 ≤ Qn) (h4 : Qn ≤ 262144) :
 Calls Tryz.prog 91 #[.int .i64 most, .int .i64 Qn] w fun e w' => e = .returned (.tuple #[.pointer (some ⟨w.heap.size + 1, 0, none⟩), .int .i64 0]) ∧ HP w' (w.heap.size + 1) (.slice none 0 0) w.heap.size most Qn 0 (fun _ => []) ∧ Upd Nowhere w w' := by
 refine (new_ok most Qn w h1 h2 h3 h4).mono ?_
 rintro e w' ⟨rfl, hp, hu⟩
 exact ⟨rfl, ⟨_, [], fun _ => [], hp, rfl, newPl _ _, fun _ _ => rfl⟩, hu⟩
theorem t_len (h : HP w pb cv qb most Qn n X) : Calls Tryz.prog 222 #[.pointer (some ⟨pb, 0, none⟩)] w fun e w' => e = .returned (.int .i64 n) ∧ w = w' := by
 obtain ⟨S, F, Q, hp, rfl, _⟩ := h
 exact len_any hp
theorem t_take (h : HP w pb cv qb most Qn n X) (hn : n < most) (x : Pk) :
 Calls Tryz.prog 234 #[.pointer (some ⟨pb, 0, none⟩), VP x] w fun e w' => ∃ i : Nat, e = .returned (.tuple #[.int .i64 i, .bool true]) ∧ ∃ cv', HH w' pb cv' qb most Qn (n + 1) X i x ∧ OwnOrNew w cv cv' ∧ Upd (POf pb qb cv) w w' := by
 obtain ⟨S, F, Q, hp, rfl, hl, hx⟩ := h
 cases F with
 | nil =>
   have hc := hl.cnt
   simp at hc
   refine (take_new hp hn hl.fch (by omega) x.1 x.2.1 x.2.2).mono ?_
   rintro e w' ⟨rfl, cv', h1, h2, h3⟩
   exact ⟨_, rfl, cv', held_new hl hx h1, h2, h3⟩
 | cons b F =>
   refine (take_old hp hn hl.fch.1 (hl.fre b (List.mem_cons_self ..)).1 x.1 x.2.1 x.2.2).mono ?_
   rintro e w' ⟨rfl, h1, h3⟩
   exact ⟨_, rfl, cv, held_old hl hx h1, fun k hk => .inl hk, h3⟩
theorem t_app {i : Nat} {x : Pk} (h : HH w pb cv qb most Qn n X i x) {q : Nat} (hq : q < Qn) :
 Calls Tryz.prog 235 #[.pointer (some ⟨pb, 0, none⟩), .int .i64 q, .int .i64 i] w fun e w' => e = .returned (.int .i64 0) ∧ HP w' pb cv qb most Qn n (upd X q (X q ++ [x])) ∧ Upd (POf pb qb cv) w w' := by
 obtain ⟨S, F, Q, hp, rfl, hl, hi, hx⟩ := h
 obtain ⟨a1, a2, a3⟩ := hl.hel i rfl
 have hc := hl.qch q hq
 cases hQ : Q q with
 | nil =>
   rw [hQ] at hc
   refine (append_none hp hq a1 a2 a3 hc).mono ?_
   rintro e w' ⟨rfl, h1, h2⟩
   exact ⟨rfl, has_app0 hl hi hx hq hQ h1, h2⟩
 | cons b l =>
   rw [hQ] at hc
   have h0 : Q q ≠ [] := by rw [hQ]; simp
   have ht := hl.qtl q hq h0
   have hm := (hl.qtk q hq _ (List.getLast_mem h0)).1
   refine (append_some hp hq a1 a2 a3 hc.1 ht hm).mono ?_
   rintro e w' ⟨rfl, h1, h2⟩
   exact ⟨rfl, has_app1 hl hi hx hq h0 rfl h1, h2⟩
theorem t_pop (h : HP w pb cv qb most Qn n X) {q : Nat} (hq : q < Qn) {x : Pk} {l : List Pk} (hX : X q = x :: l) :
 Calls Tryz.prog 223 #[.pointer (some ⟨pb, 0, none⟩), .int .i64 q] w fun e w' => ∃ i : Nat, e = .returned (.tuple #[.int .i64 i, .bool true]) ∧ HH w' pb cv qb most Qn n (upd X q l) i x ∧ Upd (POf pb qb cv) w w' := by
 obtain ⟨S, F, Q, hp, rfl, hl, hx⟩ := h
 have hc := hl.qch q hq
 have hxq := hx q hq
 cases hQ : Q q with
 | nil => rw [hQ, hX] at hxq; cases hxq
 | cons i t =>
   rw [hQ] at hc
   rw [hQ, hX, List.map_cons] at hxq
   injection hxq with e1 e2
   have him := (hl.qtk q hq i (by rw [hQ]; exact List.mem_cons_self ..)).1
   have hfin : ∀ e w', e = Ending.returned (.tuple #[.int .i64 i, .bool true]) ∧ P w' pb cv qb most Qn (popS S q i) ∧ Upd (POf pb qb cv) w w' → ∃ i : Nat, e = .returned (.tuple #[.int .i64 i, .bool true]) ∧ HH w' pb cv qb most Qn S.n (upd X q l) i x ∧ Upd (POf pb qb cv) w w' := by
    rintro e w' ⟨rfl, h1, h2⟩
    have := held_pop hl hx hq hQ h1
    rw [e1, e2] at this
    exact ⟨i, rfl, this, h2⟩
   cases t with
   | nil => exact (pop_last hp hq him hc.1 hc.2).mono hfin
   | cons j t => exact (pop_more hp hq him hc.1 hc.2.1).mono hfin
theorem t_give {i : Nat} {x : Pk} (h : HH w pb cv qb most Qn n X i x) :
 Calls Tryz.prog 224 #[.pointer (some ⟨pb, 0, none⟩), .int .i64 i] w fun e w' => e = .returned (.tuple #[VP x, .int .i64 0]) ∧ HP w' pb cv qb most Qn (n - 1) X ∧ Upd (POf pb qb cv) w w' := by
 obtain ⟨S, F, Q, hp, rfl, hl, rfl, hx⟩ := h
 obtain ⟨a1, a2, a3⟩ := hl.hel i rfl
 have hc := hl.cnt
 have hm := hp.mst
 refine (give_any hp a1 a2 a3 (pl_lt hl) (by omega)).mono ?_
 rintro e w' ⟨rfl, h1, h2⟩
 exact ⟨rfl, has_give _ hl hx h1, h2⟩
theorem t_head0 (h : HP w pb cv qb most Qn n X) {q : Nat} (hq : q < Qn) (hX : X q = []) :
 Calls Tryz.prog 219 #[.pointer (some ⟨pb, 0, none⟩), .int .i64 q] w fun e w' => e = .returned (.tuple #[.int .i64 0, .bool false]) ∧ ∃ k, w' = w.drewN k := by
 obtain ⟨S, F, Q, hp, rfl, hl, hx⟩ := h
 have hc := hl.qch q hq
 have hxq := hx q hq
 rw [hX, List.map_eq_nil_iff] at hxq
 rw [hxq] at hc
 exact head_none hp hq hc
theorem t_headx (h : HP w pb cv qb most Qn n X) {q : Nat} (hq : q < Qn) {x : Pk} {l : List Pk} (hX : X q = x :: l) :
 ∃ i : Nat, At w pb cv qb most Qn i x ∧ ∀ u, Upd Nowhere w u → Calls Tryz.prog 219 #[.pointer (some ⟨pb, 0, none⟩), .int .i64 q] u fun e w' => e = .returned (.tuple #[.int .i64 i, .bool true]) ∧ ∃ k, w' = u.drewN k := by
 obtain ⟨S, F, Q, hp, rfl, hl, hx⟩ := h
 have hc := hl.qch q hq
 have hxq := hx q hq
 have hm := hp.mst
 cases hQ : Q q with
 | nil => rw [hQ, hX] at hxq; cases hxq
 | cons i t =>
   rw [hQ] at hc
   rw [hQ, hX, List.map_cons] at hxq
   injection hxq with e1 e2
   have him := hl.qtk q hq i (by rw [hQ]; exact List.mem_cons_self ..)
   exact ⟨i, ⟨S, hp, him.1, him.2.1, e1⟩, fun u hu => head_some (hp.old hu) hq hc.1 (by omega)⟩
theorem t_get {i : Nat} {x : Pk} (h : At w pb cv qb most Qn i x) :
 Calls Tryz.prog 221 #[.pointer (some ⟨pb, 0, none⟩), .int .i64 i] w fun e w' => e = .returned (.tuple #[VP x, .bool true]) ∧ Upd Nowhere w w' := by
 obtain ⟨S, hp, h1, h2, rfl⟩ := h
 exact get_any hp h1 h2
end
end Go.Proofs.YtpgpjjkeginbbaaGreatDoor.PoolP
namespace Go.Proofs.YtpgpjjkeginbbaaGreatDoor.PoolP
open Go.RowKit Go.Proofs BigFrame Pool PoolW
set_option maxHeartbeats 1000000
/-- A pool of the blocks own: the queues' things. -/
def Pq (w : World) (pb : Nat) (own : Nat → Prop) (most Qn n : Nat) (X : Nat → List Pk) : Prop := ∃ cv qb, HP w pb cv qb most Qn n X ∧ ∀ k, own k ↔ POf pb qb cv k
/-- The same, and one handle that is in none. -/
def Ph (w : World) (pb : Nat) (own : Nat → Prop) (most Qn n : Nat) (X : Nat → List Pk) (i : Nat) (x : Pk) : Prop := ∃ cv qb, HH w pb cv qb most Qn n X i x ∧ ∀ k, own k ↔ POf pb qb cv k
/-- A handle that is taken. -/
def Pa (w : World) (pb i : Nat) (x : Pk) : Prop := ∃ cv qb most Qn, At w pb cv qb most Qn i x
section
variable {w w' : World} {pb most Qn n : Nat} {own : Nat → Prop} {X : Nat → List Pk}
theorem Pa.old {i : Nat} {x : Pk} (a : Pa w pb i x) (hu : Upd Nowhere w w') : Pa w' pb i x := by
 obtain ⟨cv, qb, most, Qn, h⟩ := a; exact ⟨cv, qb, most, Qn, h.old hu⟩
theorem Pq.lts (h : Pq w pb own most Qn n X) {k : Nat} (hk : own k) : k < w.heap.size := by
 obtain ⟨cv, qb, hp, ho⟩ := h; exact hp.lts ((ho k).1 hk)
theorem Pq.kept (h : Pq w pb own most Qn n X) {S : Nat → Prop} (hu : Upd S w w') (hS : ∀ k, own k → ¬ S k) : Pq w' pb own most Qn n X := by
 obtain ⟨cv, qb, hp, ho⟩ := h; exact ⟨cv, qb, hp.kept hu (fun k hk => hS k ((ho k).2 hk)), ho⟩
theorem Ph.kept {i : Nat} {x : Pk} (h : Ph w pb own most Qn n X i x) {S : Nat → Prop} (hu : Upd S w w') (hS : ∀ k, own k → ¬ S k) : Ph w' pb own most Qn n X i x := by
 obtain ⟨cv, qb, hp, ho⟩ := h; exact ⟨cv, qb, hp.kept hu (fun k hk => hS k ((ho k).2 hk)), ho⟩
theorem Ph.lts {i : Nat} {x : Pk} (h : Ph w pb own most Qn n X i x) {k : Nat} (hk : own k) : k < w.heap.size := by
 obtain ⟨cv, qb, ⟨S, F, Q, hp, _⟩, ho⟩ := h; exact hp.lts ((ho k).1 hk)
theorem p_new (most Qn : Nat) (w : World) (h1 : 1 ≤ most) (h2 : most ≤ 4096) (h3 : 1 ≤ Qn) (h4 : Qn ≤ 262144) :
 Calls Tryz.prog 91 #[.int .i64 most, .int .i64 Qn] w fun e w' => e = .returned (.tuple #[.pointer (some ⟨w.heap.size + 1, 0, none⟩), .int .i64 0]) ∧ (∃ own, Pq w' (w.heap.size + 1) own most Qn 0 (fun _ => []) ∧ ∀ k, own k → w.heap.size ≤ k) ∧ Upd Nowhere w w' := by
 refine (t_new most Qn w h1 h2 h3 h4).mono ?_
 rintro e w' ⟨rfl, hp, hu⟩
 refine ⟨rfl, ⟨_, ⟨_, _, hp, fun _ => Iff.rfl⟩, fun k hk => ?_⟩, hu⟩
 rcases hk with rfl | rfl | hk
 · omega
 · exact Nat.le_refl _
 · cases hk
theorem p_len (h : Pq w pb own most Qn n X) : Calls Tryz.prog 222 #[.pointer (some ⟨pb, 0, none⟩)] w fun e w' => e = .returned (.int .i64 n) ∧ w = w' := by
 obtain ⟨cv, qb, hp, ho⟩ := h; exact t_len hp
theorem p_take (h : Pq w pb own most Qn n X) (hn : n < most) (x : Pk) :
 Calls Tryz.prog 234 #[.pointer (some ⟨pb, 0, none⟩), VP x] w fun e w' => ∃ i : Nat, e = .returned (.tuple #[.int .i64 i, .bool true]) ∧ (∃ own', Ph w' pb own' most Qn (n + 1) X i x ∧ ∀ k, own' k → own k ∨ w.heap.size ≤ k) ∧ Upd own w w' := by
 obtain ⟨cv, qb, hp, ho⟩ := h
 refine (t_take hp hn x).mono ?_
 rintro e w' ⟨i, rfl, cv', h1, h2, h3⟩
 refine ⟨i, rfl, ⟨_, ⟨cv', qb, h1, fun _ => Iff.rfl⟩, fun k hk => ?_⟩, h3.mono fun k _ hk => (ho k).2 hk⟩
 rcases hk with rfl | rfl | hk
 · exact .inl ((ho _).2 (.inl rfl))
 · exact .inl ((ho _).2 (.inr (.inl rfl)))
 · rcases h2 k hk with h | h
   · exact .inl ((ho _).2 (.inr (.inr h)))
   · exact .inr h
theorem p_app {i : Nat} {x : Pk} (h : Ph w pb own most Qn n X i x) {q : Nat} (hq : q < Qn) :
 Calls Tryz.prog 235 #[.pointer (some ⟨pb, 0, none⟩), .int .i64 q, .int .i64 i] w fun e w' => e = .returned (.int .i64 0) ∧ Pq w' pb own most Qn n (upd X q (X q ++ [x])) ∧ Upd own w w' := by
 obtain ⟨cv, qb, hp, ho⟩ := h
 refine (t_app hp hq).mono ?_
 rintro e w' ⟨rfl, h1, h2⟩
 exact ⟨rfl, ⟨cv, qb, h1, ho⟩, h2.mono fun k _ hk => (ho k).2 hk⟩
theorem p_pop (h : Pq w pb own most Qn n X) {q : Nat} (hq : q < Qn) {x : Pk} {l : List Pk} (hX : X q = x :: l) :
 Calls Tryz.prog 223 #[.pointer (some ⟨pb, 0, none⟩), .int .i64 q] w fun e w' => ∃ i : Nat, e = .returned (.tuple #[.int .i64 i, .bool true]) ∧ Ph w' pb own most Qn n (upd X q l) i x ∧ Upd own w w' := by
 obtain ⟨cv, qb, hp, ho⟩ := h
 refine (t_pop hp hq hX).mono ?_
 rintro e w' ⟨i, rfl, h1, h2⟩
 exact ⟨i, rfl, ⟨cv, qb, h1, ho⟩, h2.mono fun k _ hk => (ho k).2 hk⟩
theorem p_give {i : Nat} {x : Pk} (h : Ph w pb own most Qn n X i x) :
 Calls Tryz.prog 224 #[.pointer (some ⟨pb, 0, none⟩), .int .i64 i] w fun e w' => e = .returned (.tuple #[VP x, .int .i64 0]) ∧ Pq w' pb own most Qn (n - 1) X ∧ Upd own w w' := by
 obtain ⟨cv, qb, hp, ho⟩ := h
 refine (t_give hp).mono ?_
 rintro e w' ⟨rfl, h1, h2⟩
 exact ⟨rfl, ⟨cv, qb, h1, ho⟩, h2.mono fun k _ hk => (ho k).2 hk⟩
theorem p_head0 (h : Pq w pb own most Qn n X) {q : Nat} (hq : q < Qn) (hX : X q = []) :
 Calls Tryz.prog 219 #[.pointer (some ⟨pb, 0, none⟩), .int .i64 q] w fun e w' => e = .returned (.tuple #[.int .i64 0, .bool false]) ∧ ∃ k, w' = w.drewN k := by
 obtain ⟨cv, qb, hp, ho⟩ := h
 exact t_head0 hp hq hX
theorem p_headx (h : Pq w pb own most Qn n X) {q : Nat} (hq : q < Qn) {x : Pk} {l : List Pk} (hX : X q = x :: l) :
 ∃ i : Nat, Pa w pb i x ∧ ∀ u, Upd Nowhere w u → Calls Tryz.prog 219 #[.pointer (some ⟨pb, 0, none⟩), .int .i64 q] u fun e w' => e = .returned (.tuple #[.int .i64 i, .bool true]) ∧ ∃ k, w' = u.drewN k := by
 obtain ⟨cv, qb, hp, ho⟩ := h
 obtain ⟨i, h1, h2⟩ := t_headx hp hq hX
 exact ⟨i, ⟨_, _, _, _, h1⟩, h2⟩
theorem p_get {i : Nat} {x : Pk} (h : Pa w pb i x) :
 Calls Tryz.prog 221 #[.pointer (some ⟨pb, 0, none⟩), .int .i64 i] w fun e w' => e = .returned (.tuple #[VP x, .bool true]) ∧ Upd Nowhere w w' := by
 obtain ⟨cv, qb, most, Qn, h⟩ := h
 exact t_get h
end
end Go.Proofs.YtpgpjjkeginbbaaGreatDoor.PoolP

