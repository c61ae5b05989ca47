/- EgC2, one behind the other. -/
import Derived.Test.YtdddfmdcjjbegaaGreatMeC
namespace Go.Proofs.YtdddfmdcjjbegaaGreat.Egs
open Go.RowKit Go.Proofs BigFrame
open RingW (It KI zI ZI VI TE)
open First (Cf VC TCl)
set_option maxHeartbeats 40000000
set_option maxRecDepth 1000000
set_option linter.unusedSimpArgs false
abbrev TCo : TypeId := 36
/-- Configurations of classes, in a row in memory. -/
def ClsAt (w : World) (ad : Option Addr) (l : List Cf) : Prop := ∀ i x, l[i]? = some x → ∃ g o, ad = some ⟨g, o, none⟩ ∧ ∀ j v, (VC x)[j]? = some v → w.cell? ⟨g, o + i * 16 + j, none⟩ = some v
def PlnAt (w : World) (ad : Option Addr) (l : List (Nat × Nat)) : Prop := 0 < l.length → ∃ g o, ad = some ⟨g, o, none⟩ ∧ g < w.heap.size ∧ Plan.At w g o l
theorem ClsAt.old {w w' : World} {ad : Option Addr} {l : List Cf} (h : ClsAt w ad l) (hu : Upd Nowhere w w') : ClsAt w' ad l := fun i x hx => by
 obtain ⟨g, o, h1, h2⟩ := h i x hx
 exact ⟨g, o, h1, fun j v hv => cell_old hu (h2 j v hv)⟩
theorem PlnAt.old {w w' : World} {ad : Option Addr} {l : List (Nat × Nat)} (h : PlnAt w ad l) (hu : Upd Nowhere w w') : PlnAt w' ad l := fun hl => by
 obtain ⟨g, o, h1, h2, h3⟩ := h hl
 exact ⟨g, o, h1, Nat.lt_of_lt_of_le h2 hu.size, h3.old hu⟩
theorem ClsAt.cells {u : World} {ad : Option Addr} {l : List Cf} (h : ClsAt u ad l) {i : Nat} {x : Cf} (hx : l[i]? = some x) : ∃ g o, ad = some ⟨g, o, none⟩ ∧ u.cell? ⟨g, o + i * 16, none⟩ = some (.int .i64 x.room) ∧ u.cell? ⟨g, o + i * 16 + 1, none⟩ = some (.int .i64 x.policy) ∧ u.cell? ⟨g, o + i * 16 + 2, none⟩ = some (.bool x.credit) ∧ u.cell? ⟨g, o + i * 16 + 3, none⟩ = some (.int .i64 x.idle) ∧ u.cell? ⟨g, o + i * 16 + 4, none⟩ = some (.int .i64 x.send) ∧ u.cell? ⟨g, o + i * 16 + 5, none⟩ = some (.int .i64 x.high) ∧ u.cell? ⟨g, o + i * 16 + 6, none⟩ = some (.int .u64 (x.el : Nat)) ∧ u.cell? ⟨g, o + i * 16 + 7, none⟩ = some (.int .u64 (x.eh : Nat)) ∧ u.cell? ⟨g, o + i * 16 + 8, none⟩ = some (.int .u64 (x.em : Nat)) ∧ u.cell? ⟨g, o + i * 16 + 9, none⟩ = some (.int .i64 x.es) ∧ u.cell? ⟨g, o + i * 16 + 10, none⟩ = some (.int .u64 (x.lt : Nat)) ∧ u.cell? ⟨g, o + i * 16 + 11, none⟩ = some (.int .u64 (x.li : Nat)) ∧ u.cell? ⟨g, o + i * 16 + 12, none⟩ = some (.int .u64 (x.lm : Nat)) ∧ u.cell? ⟨g, o + i * 16 + 13, none⟩ = some (.int .i64 x.window) ∧ u.cell? ⟨g, o + i * 16 + 14, none⟩ = some (.int .u64 (x.num : Nat)) ∧ u.cell? ⟨g, o + i * 16 + 15, none⟩ = some (.int .u64 (x.den : Nat)) := by
 obtain ⟨g, o, h1, h2⟩ := h i x hx
 exact ⟨g, o, h1, h2 0 _ rfl, h2 1 _ rfl, h2 2 _ rfl, h2 3 _ rfl, h2 4 _ rfl, h2 5 _ rfl, h2 6 _ rfl, h2 7 _ rfl, h2 8 _ rfl, h2 9 _ rfl, h2 10 _ rfl, h2 11 _ rfl, h2 12 _ rfl, h2 13 _ rfl, h2 14 _ rfl, h2 15 _ rfl⟩
/-- The first error of classes. -/
def fstE : List Cf → Nat
 | [] => 0
 | c :: t => if chkS c = 0 then fstE t else chkS c
/-- What Check tells. -/
def chkE (cs : List Cf) (pl : List (Nat × Nat)) (pace : Nat) : Nat :=
 if cs.length = 0 ∨ 8 < cs.length then 29
 else if pace < 1 ∨ 65536 < pace then 27
 else if 0 < pl.length ∧ Plan.ok pl = false then 6
 else fstE cs
theorem fstE_step {cs : List Cf} {i : Nat} {x : Cf} (hx : cs[i]? = some x) : fstE (cs.drop i) = if chkS x = 0 then fstE (cs.drop (i + 1)) else chkS x := by
 have hlt : i < cs.length := by
  rcases Nat.lt_or_ge i cs.length with h' | h'
  · exact h'
  · rw [List.getElem?_eq_none h'] at hx; cases hx
 have e : cs[i] = x := by rw [List.getElem?_eq_getElem hlt] at hx; exact Option.some.inj hx
 rw [← List.getElem_cons_drop hlt, e]
 rfl
theorem fstE_ok {cs : List Cf} (h : fstE cs = 0) : ∀ x ∈ cs, chkS x = 0 := by
 induction cs with
 | nil => intro x hx; cases hx
 | cons c t ih =>
   unfold fstE at h
   by_cases h0 : chkS c = 0
   · rw [if_pos h0] at h
     intro x hx
     rcases List.mem_cons.1 hx with rfl | hx
     · exact h0
     · exact ih h x hx
   · rw [if_neg h0] at h; exact absurd h h0
theorem checkE_size {w : World} {cs : List Cf} {ad ap : Option Addr} {cc cp pn pace : Nat} (h : cs.length = 0 ∨ 8 < cs.length) :
 Calls Tryz.prog 27 #[.agg #[.slice ad cs.length cc, .slice ap pn cp, .int .u64 pace]] w fun x w' => x = .returned (.int .i64 29) ∧ Upd Nowhere w w' := by
 have hU : Upd Nowhere w (w.alloc (.cells #[.slice ad cs.length cc, .slice ap pn cp, .int .u64 pace] TCo)) := (Upd.refl _ _).alloc _
 obtain ⟨n, hn⟩ : ∃ n, cs.length = n := ⟨_, rfl⟩
 rw [hn] at h hU ⊢
 clear hn
 by_cases h0 : n = 0
 · have d0 : ((n : Int) == 0) = true := by simp; omega
   clear h h0
   go_enter Tryz.func27, Tryz.ntmps27
   go_wp2_with fail
   go_ret
   exact ⟨rfl, hU⟩
 · have d0 : ((n : Int) == 0) = false := by simp; omega
   have d1 : decide ((n : Int) > 8) = true := decide_eq_true (by omega)
   have d2 : decide ((8 : Int) < (n : Int)) = true := decide_eq_true (by omega)
   have d3 : decide (8 < n) = true := decide_eq_true (by omega)
   clear h h0
   go_enter Tryz.func27, Tryz.ntmps27
   go_wp2_with fail
   go_ret
   exact ⟨rfl, hU⟩
theorem checkE_pace {w : World} {n : Nat} {ad ap : Option Addr} {cc cp pn pace : Nat} (h1 : 1 ≤ n) (h2 : n ≤ 8) (hp : pace < 1 ∨ 65536 < pace) :
 Calls Tryz.prog 27 #[.agg #[.slice ad n cc, .slice ap pn cp, .int .u64 pace]] w fun x w' => x = .returned (.int .i64 27) ∧ Upd Nowhere w w' := by
 have hU : Upd Nowhere w (w.alloc (.cells #[.slice ad n cc, .slice ap pn cp, .int .u64 pace] TCo)) := (Upd.refl _ _).alloc _
 have d0 : ((n : Int) == 0) = false := by simp; omega
 have d1 : decide ((8 : Int) < (n : Int)) = false := decide_eq_false (by omega)
 have d2 : decide (8 < n) = false := decide_eq_false (by omega)
 clear h1 h2
 by_cases h0 : pace < 1
 · have d3 : decide (pace < 1) = true := decide_eq_true h0
   have d4 : decide ((pace : Int) < 1) = true := decide_eq_true (by omega)
   have d5 : decide (pace = 0) = true := decide_eq_true (by omega)
   clear hp h0
   go_enter Tryz.func27, Tryz.ntmps27
   go_wp2_with fail
   go_ret
   exact ⟨rfl, hU⟩
 · have d3 : decide (pace < 1) = false := decide_eq_false h0
   have d4 : decide ((pace : Int) < 1) = false := decide_eq_false (by omega)
   have d5 : decide (pace = 0) = false := decide_eq_false (by omega)
   have d6 : decide (65536 < pace) = true := decide_eq_true (by omega)
   have d7 : decide ((65536 : Int) < (pace : Int)) = true := decide_eq_true (by omega)
   clear hp h0
   go_enter Tryz.func27, Tryz.ntmps27
   go_wp2_with fail
   go_ret
   exact ⟨rfl, hU⟩
end Go.Proofs.YtdddfmdcjjbegaaGreat.Egs

