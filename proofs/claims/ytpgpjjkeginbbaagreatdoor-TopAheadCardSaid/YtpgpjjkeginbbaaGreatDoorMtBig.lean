/- Big, one behind the other. -/
import Derived.Test.YtpgpjjkeginbbaaGreatDoorMtA
import Derived.Test.YtpgpjjkeginbbaaGreatDoorMeTk
import Derived.Deep.MidRow
import Derived.Laws.Tables
namespace Go.Proofs.YtpgpjjkeginbbaaGreatDoor
open Go.RowKit
section
variable {P : Program}
/-- One operation of a plain region. -/
theorem wpList_one {ops : Array Oper} {rest : List Oper} {op : Oper} {a : Act} {w : World} {Q : Exit → Act → World → Prop} (hgd : op.guard = none) (h : ∀ K : Act → World → Prop, Shut (∀ a w, wpList P ops Q rest a w → K a w) → op.wp P a w K Q) : wpList P ops Q (op :: rest) a w :=
 wpList_plain hgd fun K hK => h K hK
theorem wp_loadV {op : Oper} {a : Act} {w : World} {K : Act → World → Prop} {Q : Exit → Act → World → Prop} (ty : TypeId) (x : Operand) (ho : op.op = .load ty x)
 (ad : Addr) (hx : a.eval x = .pointer (some ad)) (V : Value) (hl : (loadVar ty ad).run P w = .ok V w) (h : K (a.put op.dst V) w) : op.wp P a w K Q := by
 unfold Oper.wp execOp
 simp only [ho, hx, Instr.loadAt, Instr.sureAddr, Sem.run_bind, Sem.run_pure, Result.andThen_ok, hl]
 exact h
theorem wpList_loadV {ops : Array Oper} {rest : List Oper} {op : Oper} {a : Act} {w : World} {Q : Exit → Act → World → Prop} (ty : TypeId) (x : Operand) (ad : Addr) (V : Value) (hl : (loadVar ty ad).run P w = .ok V w)
 (h : wpList P ops Q rest (a.put op.dst V) w) (hgd : op.guard = none := by rfl) (ho : op.op = .load ty x := by rfl) (hx : a.eval x = .pointer (some ad) := by rfl) : wpList P ops Q (op :: rest) a w :=
 wpList_plain hgd fun _ hK => wp_loadV ty x ho ad hx V hl (hK _ _ h)
theorem wp_storeV {op : Oper} {a : Act} {w w' : World} {K : Act → World → Prop} {Q : Exit → Act → World → Prop} (ty : TypeId) (x y : Operand) (ho : op.op = .store ty x y)
 (ad : Addr) (V : Value) (hx : a.eval x = .pointer (some ad)) (hy : a.eval y = V) (hl : (storeVar ty ad V).run P w = .ok () w') (h : K (a.put op.dst undef) w') : op.wp P a w K Q := by
 unfold Oper.wp execOp
 simp only [ho, hx, hy, Instr.storeAt, Instr.sureAddr, Sem.run_bind, Sem.run_pure, Result.andThen_ok, hl]
 exact h
theorem wpList_storeV {ops : Array Oper} {rest : List Oper} {op : Oper} {a : Act} {w w' : World} {Q : Exit → Act → World → Prop} (ty : TypeId) (x y : Operand) (ad : Addr) (V : Value) (hl : (storeVar ty ad V).run P w = .ok () w')
 (h : wpList P ops Q rest (a.put op.dst undef) w') (hgd : op.guard = none := by rfl) (ho : op.op = .store ty x y := by rfl) (hx : a.eval x = .pointer (some ad) := by rfl) (hy : a.eval y = V := by rfl) : wpList P ops Q (op :: rest) a w :=
 wpList_plain hgd fun _ hK => wp_storeV ty x y ho ad V hx hy hl (hK _ _ h)
/-- A value is built. -/
theorem wpList_buildV {ops : Array Oper} {rest : List Oper} {op : Oper} {a : Act} {w : World} {Q : Exit → Act → World → Prop} (V : Value) (hl : (execOp a.eval op).run P w = .ok (.value V) w)
 (h : wpList P ops Q rest (a.put op.dst V) w) (hgd : op.guard = none := by rfl) : wpList P ops Q (op :: rest) a w :=
 wpList_plain hgd fun _ hK => by
  unfold Oper.wp
  rw [hl]
  exact hK _ _ h
/-- The same loads and stores as operations alone. -/
theorem exec_load {a : Act} {op : Oper} {w : World} {ty : TypeId} {x : Operand} {ad : Addr} {V : Value} (hl : (loadVar ty ad).run P w = .ok V w) (ho : op.op = .load ty x := by rfl) (hx : a.eval x = .pointer (some ad) := by rfl) : (execOp a.eval op).run P w = .ok (.value V) w := by
 unfold execOp
 simp only [ho, hx, Instr.loadAt, Instr.sureAddr, Sem.run_bind, Sem.run_pure, Result.andThen_ok, hl]
theorem exec_build {a : Act} {op : Oper} {w : World} {t : TypeId} {parts : Array (Nat × Operand)} {parts' : Array (Nat × Value)} {V : Value} (hl : (Instr.build t parts').run P w = .ok V w) (ho : op.op = .build t parts := by rfl) (hp : parts.map (fun (i, x) => (i, a.eval x)) = parts' := by kernel_rfl) : (execOp a.eval op).run P w = .ok (.value V) w := by
 subst hp
 unfold execOp
 simp only [ho, Sem.run_bind, hl, Result.andThen_ok, Sem.run_pure]
theorem exec_buildSlice {a : Act} {op : Oper} {w w' : World} {t : TypeId} {n : Nat} {parts : Array (Nat × Operand)} {parts' : Array (Nat × Value)} {V : Value} (hl : (Instr.buildSlice t n parts').run P w = .ok V w') (ho : op.op = .buildSlice t n parts := by rfl) (hp : parts.map (fun (i, x) => (i, a.eval x)) = parts' := by kernel_rfl) : (execOp a.eval op).run P w = .ok (.value V) w' := by
 subst hp
 unfold execOp
 simp only [ho, Sem.run_bind, hl, Result.andThen_ok, Sem.run_pure]
theorem wpList_execW {ops : Array Oper} {rest : List Oper} {op : Oper} {a : Act} {w w' : World} {Q : Exit → Act → World → Prop} (V : Value) (hl : (execOp a.eval op).run P w = .ok (.value V) w')
 (h : wpList P ops Q rest (a.put op.dst V) w') (hgd : op.guard = none := by rfl) : wpList P ops Q (op :: rest) a w :=
 wpList_plain hgd fun _ hK => by
  unfold Oper.wp
  rw [hl]
  exact hK _ _ h
/-- A block's cells from an offset on, as one value. -/
theorem load_mid {w : World} {b o : Nat} {t : TypeId} {cs : Array Value} {T : TypeId} {d : TypeDesc} {n : Nat} (h : Blk w b cs t) (hu : P.underlying T = some d) (hd : d.isRow = true) (hi : (P.info? T).map (·.size) = some n) (V : Array Value) (hV : V.size = n) (hc : (cs.toList.drop o).take n = V.toList) :
 (loadVar T ⟨b, o, none⟩).run P w = .ok (.agg V) w := by
 have := run_loadVar_mid (P := P) w b o T V.toList d (fun j v hv => by
  have hj : j < n := by
   rcases Nat.lt_or_ge j n with h | h
   · exact h
   · rw [List.getElem?_eq_none (by simpa [hV] using h)] at hv; cases hv
  rw [← hc, List.getElem?_take_of_lt hj, List.getElem?_drop] at hv
  exact h.cellAt (by simpa using hv)) hu hd (by simpa [hV] using hi)
 simpa using this
/-- A whole block, as one value. -/
theorem load_all {w : World} {b : Nat} {t : TypeId} {cs : Array Value} {T : TypeId} {d : TypeDesc} {n : Nat} (h : Blk w b cs t) (hu : P.underlying T = some d) (hd : d.isRow = true) (hi : (P.info? T).map (·.size) = some n) (hV : cs.size = n) :
 (loadVar T ⟨b, 0, none⟩).run P w = .ok (.agg cs) w := load_mid h hu hd hi cs hV (by rw [List.drop_zero, List.take_of_length_le (by simp [hV])])
/-- A whole block, written. -/
theorem store_all {w : World} {b : Nat} {t : TypeId} {cs V : Array Value} {T : TypeId} {n : Nat} (h : Blk w b cs t) (hi : (P.info? T).map (·.size) = some n) (hc : cs.size = n) (hV : V.size = n) (h1 : V.all (·.oneCell') = true) :
 ∃ w', (storeVar T ⟨b, 0, none⟩ (.agg V)).run P w = .ok () w' ∧ Blk w' b V t ∧ Upd (fun k => k = b) w w' :=
 ⟨_, run_storeVar_row w b t T cs V h (by rw [hi, hV]) (by rw [hc, hV]) h1, (setRow_eq w b V cs t h).1, (setRow_eq w b V cs t h).2⟩
/-- Cells written into an array, from a place on. -/
def putA (cs : Array Value) : Nat → List Value → Array Value
 | _, [] => cs
 | o, v :: l => putA (cs.setIfInBounds o v) (o + 1) l
theorem setCells_blk {b : Nat} {t : TypeId} : ∀ (l : List Value) {w : World} {cs : Array Value} (o : Nat), Blk w b cs t → Blk (w.setCells b o l) b (putA cs o l) t ∧ Upd (fun k => k = b) w (w.setCells b o l)
 | [], _, _, _, h => ⟨h, Upd.refl _ _⟩
 | v :: l, w, cs, o, h => by
   obtain ⟨h1, h2⟩ := setCells_blk l (o + 1) (h.set o v)
   exact ⟨h1, ((Upd.refl (fun k => k = b) w).setCell (a := ⟨b, o, none⟩) (fun _ => rfl) v).trans h2 (fun _ _ h => h)⟩
/-- A part of a block, written. -/
theorem store_mid {w : World} {b o : Nat} {t : TypeId} {cs V : Array Value} {T : TypeId} {n : Nat} (h : Blk w b cs t) (hi : (P.info? T).map (·.size) = some n) (hV : V.size = n) (hc : o + n ≤ cs.size) (h1 : V.all (·.oneCell') = true) :
 ∃ w', (storeVar T ⟨b, o, none⟩ (.agg V)).run P w = .ok () w' ∧ Blk w' b (putA cs o V.toList) t ∧ Upd (fun k => k = b) w w' := by
 obtain ⟨h2, h3⟩ := setCells_blk V.toList o h
 exact ⟨_, run_storeVar_mid w b o T V (fun j hj => ⟨by rw [h.cell, Array.getElem?_eq_getElem (by omega)]; rfl, h.free _⟩) (by rw [hi, hV]) h1, h2, h3⟩
theorem results_cell {fn : Func} {tmps : Array Value} {w : World} {ad : Addr} {V : Value} {x : Nat} {t : TypeId} (hr : fn.results = #[.cell x t]) (ha : tmps[x]? = some (.pointer (some ad))) (hl : (loadVar t ad).run P w = .ok V w) : (results fn tmps).run P w = .ok V w := by
 unfold results
 rw [hr]
 simp [asAddr, hl, ha]
end
end Go.Proofs.YtpgpjjkeginbbaaGreatDoor

