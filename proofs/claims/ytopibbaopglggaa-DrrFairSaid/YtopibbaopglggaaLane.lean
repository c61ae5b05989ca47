/- An append to a slice of numbers of its own. No program in sight. -/
import Derived.Test.YtopibbaopglggaaDrrCore
import Derived.Test.YtopibbaopglggaaLaws
namespace Go.Proofs.Ytopibbaopglggaa
open Go.RowKit
theorem wpList_lane {P : Program} {ops : Array Oper} {rest : List Oper} {o : Oper} {a : Act} {Q : Exit → Act → World → Prop} {w : World} (hgd : o.guard = none) (s x : Operand) (t : TypeId)
    (ho : o.op = .call { callee := .builtin .append, args := #[s, x], argTypes := #[t, t] })
    (TI : TypeId) (i : TypeInfo) (z : Value) (ht : P.underlying t = some (.slice TI)) (hi : P.info? TI = some i) (hz : i.zero = some z) (hsize : i.size = 1) (hby : i.bytes = 8) (hzs : z.cells.size = 1)
    (v : Value) (xs : List Nat) (hs : a.eval s = v) (hl : Lane TI w v xs) (g c y : Nat) (hx : a.eval x = .slice (some ⟨g, 0, none⟩) 1 c) (hy : w.cell? ⟨g, 0, none⟩ = some (.int .i64 (y : Nat))) (hn : xs.length ≤ 65536)
    (h : ∀ ad' c' w', Lane TI w' (.slice ad' (xs.length + 1) c') (xs ++ [y]) → Upd (fun k => v.ownBlock = some k) w w' → OwnOrNew w v (.slice ad' (xs.length + 1) c') → wpList P ops Q rest (a.put o.dst (.slice ad' (xs.length + 1) c')) w') : wpList P ops Q (o :: rest) a w := by
  have hnews : ∀ j u, [Value.int .i64 (y : Nat)][j]? = some u → w.cell? ⟨g, j, none⟩ = some u := fun j u hj => by
    cases j with
    | zero => obtain rfl := Option.some.inj hj; exact hy
    | succ j => simp at hj
  rcases hl with ⟨rfl, rfl⟩ | ⟨g2, o2, c2, rfl, h1, cur, h2, h3, h4⟩
  · refine wpList_push hgd s x t ho w.heap.size TI i z 1 8 ht hi hz hsize hby hzs (by decide) (by decide) (.slice none 0 0) 0 [] hs (ownsRow_nil _ _ _ _) g c [.int .i64 (y : Nat)] hx rfl hnews (by simp [Value.oneCell']) (by omega) (Nat.le_refl _) ?_
    intro v' w' hown hu hno
    have hln : Lane TI w' v' ([] ++ [y]) := (Lane.grown (w := w) (ys := [y]) hown).1
    obtain ⟨ad', c', rfl⟩ := hln.form
    exact h ad' c' w' hln hu hno
  · have hcell : ∀ j u, (xs.map fun x => Value.int .i64 (x : Nat))[j]? = some u → w.cell? ⟨g2, o2 + j, none⟩ = some u := fun j u hj => by
      rw [List.getElem?_map] at hj
      cases hx2 : xs[j]? with
      | none => rw [hx2] at hj; cases hj
      | some q => rw [hx2] at hj; obtain rfl := Option.some.inj hj; exact h2.cellAt (h4 j q hx2)
    refine wpList_append_arg w hgd s x t ho TI i z 1 8 ht hi hz hsize hby hzs (by decide) g2 o2 xs.length c2 (xs.map fun x => .int .i64 (x : Nat)) hs (by simp) hcell ⟨g, 0, none⟩ 1 c [.int .i64 (y : Nat)] hx rfl (fun j u hj => by rw [add_at, Nat.zero_add]; exact hnews j u hj) (by simp [Value.oneCell']) (fun hr j hj => ?_) (by unfold maxLen; omega) (by omega) (fun hr => ?_) (fun hr v' w' hown hgr => ?_)
    · simp only [List.length_singleton] at hj
      obtain rfl : j = 0 := by omega
      refine ⟨?_, h2.free _⟩
      rw [h2.cell, Array.getElem?_eq_getElem (by omega)]
      rfl
    · have e : w.setCells g2 (o2 + xs.length * 1) [.int .i64 (y : Nat)] = w.setCell ⟨g2, o2 + xs.length, none⟩ (.int .i64 (y : Nat)) := by rw [Nat.mul_one]; rfl
      rw [e]
      refine h (some ⟨g2, o2, none⟩) c2 _ (Lane.put (.inr ⟨g2, o2, c2, rfl, h1, cur, h2, h3, h4⟩) hr y ⟨cur, h2, h3⟩) (Upd.setCell (S := fun k => (Value.slice (some ⟨g2, o2, none⟩) xs.length c2).ownBlock = some k) (a := ⟨g2, o2 + xs.length, none⟩) (Upd.refl _ _) (fun _ => rfl) _) (fun k hk => .inl hk)
    · have hln : Lane TI w' v' (xs ++ [y]) ∧ ∀ k, v'.ownBlock = some k → w.heap.size ≤ k := Lane.grown (w := w) (ys := xs ++ [y]) (by rw [List.length_append, List.map_append]; exact hown)
      obtain ⟨ad', c', e⟩ := hln.1.form
      rw [List.length_append, List.length_singleton] at e
      subst e
      exact h ad' c' w' hln.1 ((Upd.refl _ w).grown hgr (fun k _ hk => by cases hk)) (fun k hk => .inr (hln.2 k hk))
/-- The same, as a run. -/
theorem run_lane {P : Program} {w : World} (t ty : TypeId) (TI : TypeId) (i : TypeInfo) (z : Value) (ht : P.underlying t = some (.slice TI)) (hi : P.info? TI = some i) (hz : i.zero = some z) (hsize : i.size = 1) (hby : i.bytes = 8) (hzs : z.cells.size = 1)
    (v : Value) (xs : List Nat) (hl : Lane TI w v xs) (g c y : Nat) (hy : w.cell? ⟨g, 0, none⟩ = some (.int .i64 (y : Nat))) (hn : xs.length ≤ 65536) :
    ∃ ad' c' w', (Builtin.append_ #[t, t] ty #[v, .slice (some ⟨g, 0, none⟩) 1 c]).run P w = .ok (.slice ad' (xs.length + 1) c') w' ∧ Lane TI w' (.slice ad' (xs.length + 1) c') (xs ++ [y]) ∧ Upd (fun k => v.ownBlock = some k) w w' ∧ OwnOrNew w v (.slice ad' (xs.length + 1) c') := by
  have hnews : ∀ j u, [Value.int .i64 (y : Nat)][j]? = some u → w.cell? ((⟨g, 0, none⟩ : Addr).add j) = some u := fun j u hj => by
    rw [add_at, Nat.zero_add]
    cases j with
    | zero => obtain rfl := Option.some.inj hj; exact hy
    | succ j => simp at hj
  rcases hl with ⟨rfl, rfl⟩ | ⟨g2, o2, c2, rfl, h1, cur, h2, h3, h4⟩
  · obtain ⟨v', w', hr, hown, hgr, _, hno⟩ := run_app (P := P) w w.heap.size t ty TI i z 1 8 ht hi hz hsize hby hzs (by decide) (.slice none 0 0) 0 [] (ownsRow_nil _ _ _ _) ⟨g, 0, none⟩ 1 c [.int .i64 (y : Nat)] rfl hnews (by simp [Value.oneCell']) (by unfold maxLen; omega) (by omega) (Nat.le_refl _)
    have hln : Lane TI w' v' ([] ++ [y]) := (Lane.grown (w := w) (ys := [y]) hown).1
    obtain ⟨ad', c', rfl⟩ := hln.form
    exact ⟨ad', c', w', hr, hln, (Upd.refl _ w).grown hgr (fun k _ hk => hk), hno⟩
  · have hcell : ∀ j u, (xs.map fun x => Value.int .i64 (x : Nat))[j]? = some u → w.cell? ((⟨g2, o2, none⟩ : Addr).add j) = some u := fun j u hj => by
      rw [List.getElem?_map] at hj
      cases hx2 : xs[j]? with
      | none => rw [hx2] at hj; cases hj
      | some q => rw [hx2] at hj; obtain rfl := Option.some.inj hj; rw [add_at]; exact h2.cellAt (h4 j q hx2)
    by_cases hr : xs.length + 1 ≤ c2
    · have hrun := run_append_room_cells (P := P) w t ty TI i ht hi g2 o2 xs.length c2 ⟨g, 0, none⟩ 1 c [.int .i64 (y : Nat)] (by rw [hsize]; rfl) hnews (by simp [Value.oneCell']) hr (fun j hj => by
          simp only [List.length_singleton] at hj
          obtain rfl : j = 0 := by omega
          rw [hsize, h2.cell, Array.getElem?_eq_getElem (by omega)]; rfl) (fun j hj => h2.free _)
      have e : w.setCells g2 (o2 + xs.length * i.size) [.int .i64 (y : Nat)] = w.setCell ⟨g2, o2 + xs.length, none⟩ (.int .i64 (y : Nat)) := by rw [hsize, Nat.mul_one]; rfl
      rw [e] at hrun
      exact ⟨some ⟨g2, o2, none⟩, c2, _, hrun, Lane.put (.inr ⟨g2, o2, c2, rfl, h1, cur, h2, h3, h4⟩) hr y ⟨cur, h2, h3⟩, Upd.setCell (S := fun k => (Value.slice (some ⟨g2, o2, none⟩) xs.length c2).ownBlock = some k) (a := ⟨g2, o2 + xs.length, none⟩) (Upd.refl _ _) (fun _ => rfl) _, fun k hk => .inl hk⟩
    · obtain ⟨v', w', hrun, hown, hgr⟩ := run_append_arg_grows (P := P) w t ty TI i z 1 8 ht hi hz hsize hby hzs (by decide) ⟨g2, o2, none⟩ xs.length c2 (xs.map fun x => .int .i64 (x : Nat)) (by simp) hcell ⟨g, 0, none⟩ 1 c [.int .i64 (y : Nat)] rfl hnews (by omega) (by unfold maxLen; omega) (by omega)
      have hln : Lane TI w' v' (xs ++ [y]) ∧ ∀ k, v'.ownBlock = some k → w.heap.size ≤ k := Lane.grown (w := w) (ys := xs ++ [y]) (by rw [List.length_append, List.map_append]; exact hown)
      obtain ⟨ad', c', e⟩ := hln.1.form
      rw [List.length_append, List.length_singleton] at e
      subst e
      exact ⟨ad', c', w', hrun, hln.1, (Upd.refl _ w).grown hgr (fun k _ hk => by cases hk), fun k hk => .inr (hln.2 k hk)⟩
/-- The same, as a step of a region that draws. -/
theorem step_lane {P : Program} {ops : Array Oper} {o : Oper} {a : Act} {K : Act → World → Prop} {Q : Exit → Act → World → Prop} {E : Prop} {w : World} (hgd : o.guard = none) (s x : Operand) (t : TypeId)
    (ho : o.op = .call { callee := .builtin .append, args := #[s, x], argTypes := #[t, t] })
    (TI : TypeId) (i : TypeInfo) (z : Value) (ht : P.underlying t = some (.slice TI)) (hi : P.info? TI = some i) (hz : i.zero = some z) (hsize : i.size = 1) (hby : i.bytes = 8) (hzs : z.cells.size = 1)
    (v : Value) (xs : List Nat) (hs : a.eval s = v) (hl : Lane TI w v xs) (g c y : Nat) (hx : a.eval x = .slice (some ⟨g, 0, none⟩) 1 c) (hy : w.cell? ⟨g, 0, none⟩ = some (.int .i64 (y : Nat))) (hn : xs.length ≤ 65536)
    (h : ∀ ad' c' w', Lane TI w' (.slice ad' (xs.length + 1) c') (xs ++ [y]) → Upd (fun k => v.ownBlock = some k) w w' → OwnOrNew w v (.slice ad' (xs.length + 1) c') → K (a.put o.dst (.slice ad' (xs.length + 1) c')) w') : if Region.wanted o (yielded ops a.tmps) = true then Oper.wp P o a w K Q else E := by
  have hw : Region.wanted o (yielded ops a.tmps) = true := by simp [Region.wanted, hgd]
  rw [if_pos hw]
  obtain ⟨ad', c', w', hr, h1, h2, h3⟩ := run_lane (P := P) t o.type TI i z ht hi hz hsize hby hzs v xs hl g c y hy hn
  unfold Oper.wp execOp
  simp only [ho, resolve, invoke, builtin, Sem.run_bind, Sem.run_pure, Result.andThen_ok, List.map_toArray, List.map_cons, List.map_nil, hs, hx, hr]
  exact h ad' c' w' h1 h2 h3
end Go.Proofs.Ytopibbaopglggaa
