/- Laws of operations that the walk lacks: clear of a slice. No program in sight. -/
import Derived.Test.YtcjneckhaempkaaBase
import Derived.Laws.CopyRow
namespace Go.Proofs.Ytcjneckhaempkaa
open Go.RowKit

theorem setRow_eq (w : World) (g : Nat) (c cur : Array Value) (t : TypeId) (h : Blk w g cur t) : Blk (w.setRow g c) g c t ∧ Upd (fun k => k = g) w (w.setRow g c) := by
  have hb := h.lt
  unfold Blk at h
  refine ⟨?_, rfl, rfl, rfl, by simp [World.setRow], fun k hk hn => ?_⟩
  · unfold Blk
    simp only [World.setRow, Array.getElem?_modify, h]
    simp
  · simp only [World.setRow, Array.getElem?_modify]
    rw [if_neg (fun e => hn e.symm)]

/-- n cells of an array, from o on, are noughts. -/
def zeroed (z : Value) (cur : Array Value) (o n : Nat) : Array Value := (cur.toList.take o ++ List.replicate n z ++ cur.toList.drop (o + n)).toArray

theorem zeroed_size (z : Value) (cur : Array Value) (o n : Nat) (h : o + n ≤ cur.size) : (zeroed z cur o n).size = cur.size := by
  simp [zeroed]; omega
theorem zeroed_ne (z : Value) (cur : Array Value) (o n i : Nat) (h : i < o ∨ o + n ≤ i) (hs : o + n ≤ cur.size) : (zeroed z cur o n)[i]? = cur[i]? := by
  simp only [zeroed, List.getElem?_toArray]
  rcases h with h | h
  · rw [List.append_assoc, List.getElem?_append_left (by simp; omega), List.getElem?_take_of_lt h]
    simp
  · rw [List.getElem?_append_right (by simp; omega), List.getElem?_drop]
    have e : o + n + (i - (List.take o cur.toList ++ List.replicate n z).length) = i := by simp; omega
    rw [e]; simp
theorem zeroed_in (z : Value) (cur : Array Value) (o n i : Nat) (h : o ≤ i) (h' : i < o + n) (hs : o + n ≤ cur.size) : (zeroed z cur o n)[i]? = some z := by
  simp only [zeroed, List.getElem?_toArray]
  rw [List.getElem?_append_left (by simp; omega), List.getElem?_append_right (by simp; omega), List.getElem?_replicate, if_pos (by simp; omega)]

section
variable {P : Program}
theorem zero_replicate (z : Value) (hz : z.cells = #[z]) (n : Nat) : (Builtin.zeroCells z.cells n).toList = List.replicate n z := by
  rw [hz]
  refine List.ext_getElem? fun i => ?_
  simp only [Builtin.zeroCells, List.size_toArray, List.length_cons, List.length_nil, Nat.zero_add, Nat.mul_one, Array.toList_map, List.getElem?_map]
  rcases Nat.lt_or_ge i n with h | h
  · simp [h, Nat.mod_one]
  · rw [List.getElem?_eq_none (by simp; omega), List.getElem?_replicate, if_neg (by omega)]; rfl

theorem run_clear (t ty e : TypeId) (i : TypeInfo) (z : Value) (ht : P.underlying t = some (.slice e)) (hi : P.info? e = some i) (hz : i.zero = some z) (hc : z.cells = #[z]) (h1 : z.oneCell' = true)
    (w : World) (g o n cap : Nat) (cur : Array Value) (hg : Blk w g cur e) (hs : o + n ≤ cur.size) (hn : 0 < n) :
    (Builtin.clear_ #[t] ty #[.slice (some ⟨g, o, none⟩) n cap]).run P w = .ok (.tuple #[]) (w.setRow g (zeroed z cur o n)) := by
  have hst := run_storeCells_at P g o e (List.replicate n z) 0 cur w hg (by simpa using hs) (fun v hv => by rw [List.eq_of_mem_replicate hv]; exact h1)
  simp only [Nat.add_zero, List.length_replicate] at hst
  obtain ⟨m, rfl⟩ : ∃ m, n = m + 1 := ⟨n - 1, by omega⟩
  have hr := zero_replicate z hc (m + 1)
  rw [hc] at hr
  simp [Builtin.clear_, run_underlying ht, zeroValue, typeInfo, hi, hz, hc, hr, hst, zeroed]

theorem wpList_clear {ops : Array Oper} {rest : List Oper} {o : Oper} {a : Act} {Q : Exit → Act → World → Prop} (hgd : o.guard = none) (x : Operand) (t : TypeId)
    (ho : o.op = .call { callee := .builtin .clear, args := #[x], argTypes := #[t] })
    (e : TypeId) (i : TypeInfo) (z : Value) (ht : P.underlying t = some (.slice e)) (hi : P.info? e = some i) (hz : i.zero = some z) (hc : z.cells = #[z]) (h1 : z.oneCell' = true)
    (w : World) (g off n cap : Nat) (cur : Array Value) (hx : a.eval x = .slice (some ⟨g, off, none⟩) n cap) (hg : Blk w g cur e) (hs : off + n ≤ cur.size) (hn : 0 < n)
    (h : ∀ w', Blk w' g (zeroed z cur off n) e → Upd (fun k => k = g) w w' → wpList P ops Q rest (a.put o.dst (.tuple #[])) w') : wpList P ops Q (o :: rest) a w := by
  refine wpList_plain hgd fun K hK => ?_
  have hrun := run_clear (P := P) t o.type e i z ht hi hz hc h1 w g off n cap cur hg hs hn
  unfold Oper.wp
  simp [execOp, ho, resolve, invoke, builtin, hx, hrun, Result.andThen]
  exact hK _ _ (h _ (setRow_eq w g _ cur e hg).1 (setRow_eq w g _ cur e hg).2)

theorem wpList_clear_none {ops : Array Oper} {rest : List Oper} {o : Oper} {a : Act} {Q : Exit → Act → World → Prop} (hgd : o.guard = none) (x : Operand) (t : TypeId)
    (ho : o.op = .call { callee := .builtin .clear, args := #[x], argTypes := #[t] })
    (e : TypeId) (ht : P.underlying t = some (.slice e)) (w : World) (ad : Option Addr) (n cap : Nat) (hx : a.eval x = .slice ad n cap) (hn : ad = none ∨ n = 0)
    (h : wpList P ops Q rest (a.put o.dst (.tuple #[])) w) : wpList P ops Q (o :: rest) a w := by
  refine wpList_plain hgd fun K hK => ?_
  have hrun : (Builtin.clear_ #[t] o.type #[.slice ad n cap]).run P w = .ok (.tuple #[]) w := by
    rcases hn with rfl | rfl
    · simp [Builtin.clear_, run_underlying ht]
    · cases ad <;> simp [Builtin.clear_, run_underlying ht]
  unfold Oper.wp
  simp [execOp, ho, resolve, invoke, builtin, hx, hrun, Result.andThen]
  exact hK _ _ h

/-- What has been collected, and where: at a block that is the call's own. -/
theorem ownsRow_drewN {w : World} {base : Nat} {e : TypeId} {size : Nat} {v : Value} {n : Nat} {xs : List Value} (h : w.ownsRow base e size v n xs) (k : Nat) : (w.drewN k).ownsRow base e size v n xs := h
theorem ownsRow_nil (w : World) (base : Nat) (e : TypeId) (size : Nat) : w.ownsRow base e size (.slice none 0 0) 0 [] := ⟨by simp, .inl ⟨rfl, rfl⟩⟩
theorem ownsRow_upd {w w' : World} {base : Nat} {e : TypeId} {size : Nat} {v : Value} {n : Nat} {xs : List Value} {S : Nat → Prop} (h : w.ownsRow base e size v n xs) (hu : Upd S w w')
    (hs : ∀ k, v.ownBlock = some k → ¬ S k) : w'.ownsRow base e size v n xs := by
  obtain ⟨h1, h2⟩ := h
  refine ⟨h1, ?_⟩
  rcases h2 with h2 | ⟨g, cap, cur, hv, hg, hb, h3⟩
  · exact .inl h2
  · subst hv
    exact .inr ⟨g, cap, cur, rfl, hg, (hu.block g (Blk.lt hb) (hs g rfl)).trans hb, h3⟩
theorem ownsRow_base {w : World} {base base' : Nat} {e : TypeId} {size : Nat} {v : Value} {n : Nat} {xs : List Value} (h : w.ownsRow base e size v n xs) (hb : base' ≤ base) : w.ownsRow base' e size v n xs := by
  obtain ⟨h1, h2⟩ := h
  refine ⟨h1, ?_⟩
  rcases h2 with h2 | ⟨g, cap, cur, hv, hg, h3⟩
  · exact .inl h2
  · exact .inr ⟨g, cap, cur, hv, by omega, h3⟩

/-- One thing more, of whatever size. -/
theorem wpList_push {ops : Array Oper} {rest : List Oper} {o : Oper} {a : Act} {Q : Exit → Act → World → Prop} {w : World} (hgd : o.guard = none) (s x : Operand) (t : TypeId)
    (ho : o.op = .call { callee := .builtin .append, args := #[s, x], argTypes := #[t, t] })
    (base : Nat) (e : TypeId) (i : TypeInfo) (z : Value) (size bytes : Nat) (ht : P.underlying t = some (.slice e)) (hi : P.info? e = some i) (hz : i.zero = some z)
    (hsize : i.size = size) (hby : i.bytes = bytes) (hzs : z.cells.size = size) (hsz : 0 < size) (hbs : bytes ≤ 4096)
    (v : Value) (n : Nat) (xs : List Value) (hs : a.eval s = v) (hown : w.ownsRow base e size v n xs)
    (g c : Nat) (news : List Value) (hx : a.eval x = .slice (some ⟨g, 0, none⟩) 1 c) (hl : news.length = size) (hnews : ∀ j u, news[j]? = some u → w.cell? ⟨g, j, none⟩ = some u) (h1 : ∀ u ∈ news, u.oneCell' = true)
    (hn : n ≤ 1000000000) (hbase : base ≤ w.heap.size)
    (h : ∀ v' w', w'.ownsRow base e size v' (n + 1) (xs ++ news) → Upd (fun k => v.ownBlock = some k) w w' → v' ≠ .slice none 0 0 → wpList P ops Q rest (a.put o.dst v') w') : wpList P ops Q (o :: rest) a w := by
  refine wpList_append_own w hgd s x t ho base e i z size bytes ht hi hz hsize hby hzs hsz v n xs hs hown ⟨g, 0, none⟩ 1 c news hx (by simpa using hl) (fun j u hu => ?_) h1 (by unfold maxLen; omega) ?_ hbase (fun v' w' h2 h3 h4 => ?_)
  · have e : (⟨g, 0, none⟩ : Addr).add j = ⟨g, j, none⟩ := by
      unfold Addr.add
      split
      · next h => subst h; rfl
      · simp
    rw [e]; exact hnews j u hu
  · have : (n + 1) * bytes ≤ 1000000001 * 4096 := Nat.mul_le_mul (by omega) hbs
    omega
  · exact h v' w' h2 ((Upd.refl _ w).grown h3 (fun k _ hk => hk)) (fun e => by have := (h4.1 e).2; omega)
end
end Go.Proofs.Ytcjneckhaempkaa
