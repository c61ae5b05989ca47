/- Eg, one behind the other. -/
import Derived.Test.YtdddfmdcjjbegaaGreatMeCls2
import Derived.Test.YtdddfmdcjjbegaaGreatMeA
namespace Go.Proofs.YtdddfmdcjjbegaaGreat.Egs
open Go.RowKit Go.Proofs BigFrame
open RingW (It KI zI ZI VI TE)
open First (Cf VC)
set_option maxHeartbeats 1000000
set_option maxRecDepth 1000000
abbrev TEg : TypeId := 84
abbrev TKp : TypeId := 85
/-- How an egress stands: its plan, pace, time, the time till which it is busy, its classes (block, configuration, state). -/
structure Eg where
 vc : Value
 vp : Value
 pl : List (Nat × Nat)
 pace : Nat
 now : Nat
 busy : Nat
 q : List (Nat × Cf × Cs)
def ptrs (q : List (Nat × Cf × Cs)) : List Value := q.map fun x => .pointer (some ⟨x.1, 0, none⟩)
def slc (l : List (Nat × Nat)) : List Value := l.flatMap fun x => [.int .u8 x.1, .int .u64 x.2]
def clss (q : List (Nat × Cf × Cs)) : List Comp := q.map fun x => clsC x.1 x.2.1 x.2.2
abbrev EC (E : Eg) (vc vp : Value) : Array Value := #[vc, vp, .int .u64 (E.pace : Nat), .int .u64 (E.now : Nat), .int .u64 (E.busy : Nat)]
/-- The rows that it has. -/
def rws (E : Eg) (vc vp : Value) : List Comp := [rowW TKp 1 vc E.q.length (ptrs E.q), rowW Plan.TS 2 vp E.pl.length (slc E.pl)]
/-- An egress at block e. -/
def EgP (w : World) (own : Nat → Prop) (e : Nat) (E : Eg) : Prop := Sep w (blkC e (EC E E.vc E.vp) TEg :: (rws E E.vc E.vp ++ clss E.q)) own
def egC (e : Nat) (E : Eg) : Comp := ⟨fun w o => EgP w o e E, fun h hu hS => Sep.kp hu h hS, fun h hk => Sep.lt h hk⟩
theorem ptrs_set {q : List (Nat × Cf × Cs)} {i k : Nat} {cf : Cf} {s s' : Cs} (h : q[i]? = some (k, cf, s)) : ptrs (q.set i (k, cf, s')) = ptrs q := by
 unfold ptrs
 rw [List.map_set]
 apply List.ext_getElem?
 intro j
 rw [List.getElem?_set]
 split
 · rename_i e
   subst e
   have hlt : i < q.length := by
    rcases Nat.lt_or_ge i q.length with h' | h'
    · exact h'
    · rw [List.getElem?_eq_none h'] at h; cases h
   rw [if_pos (by rw [List.length_map]; exact hlt), List.getElem?_map, h]
   rfl
 · rfl
/-- One of many, found by its place. -/
theorem Sep.at {w : World} {l1 L : List Comp} {own : Nat → Prop} (h : Sep w (l1 ++ L) own) {i : Nat} {C : Comp} (hi : L[i]? = some C) :
 ∃ o, C.P w o ∧ (∀ k, o k → own k) ∧ ∀ (w' : World) (o' : Nat → Prop) (C' : Comp), C'.P w' o' → Fol w o w' o' → ∃ own', Sep w' (l1 ++ L.set i C') own' ∧ Fol w own w' own' := by
 have hlt : i < L.length := by
  rcases Nat.lt_or_ge i L.length with h' | h'
  · exact h'
  · rw [List.getElem?_eq_none h'] at hi; cases hi
 have e1 : L = L.take i ++ C :: L.drop (i + 1) := by
  have : L[i] = C := by rw [List.getElem?_eq_getElem hlt] at hi; exact Option.some.inj hi
  rw [← this, List.getElem_cons_drop, List.take_append_drop]
 have e2 : ∀ C', L.set i C' = L.take i ++ C' :: L.drop (i + 1) := fun C' => by rw [List.set_eq_take_append_cons_drop, if_pos hlt]
 rw [e1, ← List.append_assoc] at h
 obtain ⟨o, h1, h2, h3⟩ := Sep.foc C (L.drop (i + 1)) (l1 ++ L.take i) h
 refine ⟨o, h1, h2, fun w' o' C' hC hf => ?_⟩
 obtain ⟨own', h4, h5⟩ := h3 w' o' C' hC hf
 exact ⟨own', by rw [e2 C', ← List.append_assoc]; exact h4, h5⟩
section
variable {w w' : World} {own : Nat → Prop} {e : Nat} {E : Eg}
/-- A class of an egress, and what becomes of the egress once it turned. -/
theorem EgP.cls (h : EgP w own e E) {i k : Nat} {cf : Cf} {s : Cs} (hi : E.q[i]? = some (k, cf, s)) :
 ∃ o, ClsP w o k cf s ∧ ¬ o e ∧ (∀ q, o q → own q) ∧ own e ∧
  ∀ (w' : World) (o' : Nat → Prop) (s' : Cs), ClsP w' o' k cf s' → Fol w o w' o' → ∃ own', EgP w' own' e { E with q := E.q.set i (k, cf, s') } ∧ Fol w own w' own' := by
 have hc : (clss E.q)[i]? = some (clsC k cf s) := by unfold clss; rw [List.getElem?_map, hi]; rfl
 obtain ⟨oa, ob, ⟨hB2, hoa⟩, hb2, hb3, hb4⟩ := h
 obtain ⟨o5, hC5, hs5, hK5⟩ := Sep.at (l1 := rws E E.vc E.vp) hb2 hc
 refine ⟨o5, hC5, fun he => hb3 e ((hoa e).2 rfl) (hs5 e he), fun q hq => (hb4 q).2 (.inr (hs5 q hq)), (hb4 e).2 (.inl ((hoa e).2 rfl)), fun w' o' s' hP hF => ?_⟩
 obtain ⟨ob', h6, h7⟩ := hK5 w' o' (clsC k cf s') hP hF
 have hlt : e < w.heap.size := Blk.lt hB2
 refine ⟨fun q => oa q ∨ ob' q, ⟨oa, ob', ⟨Blk.kept hB2 h7.upd (fun hk => hb3 e ((hoa e).2 rfl) hk), hoa⟩, ?_, fun q hq hq' => ?_, fun _ => Iff.rfl⟩, fun q hq => ?_, h7.upd.mono fun q _ hq => (hb4 q).2 (.inr hq)⟩
 · show Sep w' (rws { E with q := E.q.set i (k, cf, s') } E.vc E.vp ++ clss (E.q.set i (k, cf, s'))) ob'
   unfold rws
   rw [show clss (E.q.set i (k, cf, s')) = (clss E.q).set i (clsC k cf s') by unfold clss; rw [List.map_set]]
   simp only [ptrs_set hi, List.length_set]
   exact h6
 · rw [(hoa q).1 hq] at hq'
   rcases h7.at_ e hq' with h8 | h8
   · exact hb3 e ((hoa e).2 rfl) h8
   · exact absurd hlt (Nat.not_lt.2 h8)
 · rcases hq with hq | hq
   · exact .inl ((hb4 q).2 (.inl hq))
   · exact (h7.at_ q hq).imp (fun h8 => (hb4 q).2 (.inr h8)) id
/-- Its own block. -/
theorem EgP.blk (h : EgP w own e E) (hpl : ∀ x ∈ E.pl, x.1 < 256 ∧ x.2 < 18446744073709551616) : own e ∧ ∃ ac cc ap cp, Blk w e (EC E (.slice ac E.q.length cc) (.slice ap E.pl.length cp)) TEg ∧
 (∀ i x, E.q[i]? = some x → ∃ g, ac = some ⟨g, 0, none⟩ ∧ w.cell? ⟨g, i, none⟩ = some (.pointer (some ⟨x.1, 0, none⟩))) ∧
 (0 < E.pl.length → ∃ g, ap = some ⟨g, 0, none⟩ ∧ g < w.heap.size ∧ Plan.At w g 0 E.pl) ∧ E.vc = .slice ac E.q.length cc ∧ E.vp = .slice ap E.pl.length cp := by
 obtain ⟨o1, o2, ⟨hB, ho1⟩, ⟨o3, o4, hr1, ⟨o5, o6, hr2, _⟩, _⟩, _, h4⟩ := h
 obtain ⟨ac, cc, ev1⟩ := row_form hr1.1
 obtain ⟨ap, cp, ev2⟩ := row_form hr2.1
 rw [ev1, ev2] at hB
 rw [ev1] at hr1
 rw [ev2] at hr2
 refine ⟨(h4 e).2 (.inl ((ho1 e).2 rfl)), ac, cc, ap, cp, hB, fun i x hx => ?_, fun hpos => ?_, ev1, ev2⟩
 · have hlt : i < E.q.length := by
    rcases Nat.lt_or_ge i E.q.length with h' | h'
    · exact h'
    · rw [List.getElem?_eq_none h'] at hx; cases hx
   obtain ⟨g, c, he⟩ := rowW_arr hr1 (by omega)
   injection he with e1 e2 e3
   subst e1
   refine ⟨g, rfl, (rowW_cell hr1 (k := i) (by unfold ptrs; rw [List.getElem?_map, hx]; rfl)).1⟩
 · obtain ⟨g, c, he⟩ := rowW_arr hr2 hpos
   injection he with e1 e2 e3
   subst e1
   have hcl : ∀ {k : Nat} {u : Value}, (slc E.pl)[k]? = some u → w.cell? ⟨g, k, none⟩ = some u := fun hu => (rowW_cell hr2 hu).1
   have hgl : g < w.heap.size := by
    cases hE : E.pl with
    | nil => rw [hE] at hpos; simp at hpos
    | cons a t => exact cell_lt (hcl (k := 0) (u := .int .u8 a.1) (by rw [hE]; rfl))
   refine ⟨g, rfl, hgl, fun i a s hi => ?_⟩
   have hm := List.mem_of_getElem? hi
   have hat : ∀ (l : List (Nat × Nat)) (i : Nat), l[i]? = some (a, s) → (slc l)[i * 2]? = some (.int .u8 a) ∧ (slc l)[i * 2 + 1]? = some (.int .u64 s) := by
    intro l
    induction l with
    | nil => intro i h; simp at h
    | cons x r ih =>
      intro i h
      cases i with
      | zero => simp only [List.getElem?_cons_zero] at h; cases h; exact ⟨rfl, rfl⟩
      | succ i =>
        simp only [List.getElem?_cons_succ] at h
        have := ih i h
        rw [show (i + 1) * 2 = i * 2 + 2 by omega]
        exact this
   obtain ⟨h5, h6⟩ := hat _ _ hi
   rw [Nat.zero_add]
   exact ⟨hcl h5, hcl h6, (hpl _ hm).1, (hpl _ hm).2⟩
end
end Go.Proofs.YtdddfmdcjjbegaaGreat.Egs

