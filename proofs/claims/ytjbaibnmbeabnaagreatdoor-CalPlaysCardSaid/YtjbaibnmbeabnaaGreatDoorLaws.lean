/- Laws of operations that the walk lacks: clear of a slice. No program in sight. -/
import Derived.Test.YtjbaibnmbeabnaaGreatDoorBase
import Derived.Laws.CopyRow
namespace Go.Proofs.YtjbaibnmbeabnaaGreatDoor
open Go.RowKit

theorem setRow_eq (w : World) (g : Nat) (c cur : Array Value) (t : TypeId) (h : Blk w g cur t) : Blk (w.setRow g c) g c t ∧ Upd (fun k => k = g) w (w.setRow g c) := by
  have hb := h.lt
  unfold Blk at h
  refine ⟨?_, rfl, rfl, rfl, by simp [World.setRow], fun k hk hn => ?_⟩
  · unfold Blk
    simp only [World.setRow, Array.getElem?_modify, h]
    simp
  · simp only [World.setRow, Array.getElem?_modify]
    rw [if_neg (fun e => hn e.symm)]

/-- n cells of an array, from o on, are noughts. -/
def zeroed (z : Value) (cur : Array Value) (o n : Nat) : Array Value := (cur.toList.take o ++ List.replicate n z ++ cur.toList.drop (o + n)).toArray

theorem zeroed_size (z : Value) (cur : Array Value) (o n : Nat) (h : o + n ≤ cur.size) : (zeroed z cur o n).size = cur.size := by
  simp [zeroed]; omega
theorem zeroed_ne (z : Value) (cur : Array Value) (o n i : Nat) (h : i < o ∨ o + n ≤ i) (hs : o + n ≤ cur.size) : (zeroed z cur o n)[i]? = cur[i]? := by
  simp only [zeroed, List.getElem?_toArray]
  rcases h with h | h
  · rw [List.append_assoc, List.getElem?_append_left (by simp; omega), List.getElem?_take_of_lt h]
    simp
  · rw [List.getElem?_append_right (by simp; omega), List.getElem?_drop]
    have e : o + n + (i - (List.take o cur.toList ++ List.replicate n z).length) = i := by simp; omega
    rw [e]; simp
theorem zeroed_in (z : Value) (cur : Array Value) (o n i : Nat) (h : o ≤ i) (h' : i < o + n) (hs : o + n ≤ cur.size) : (zeroed z cur o n)[i]? = some z := by
  simp only [zeroed, List.getElem?_toArray]
  rw [List.getElem?_append_left (by simp; omega), List.getElem?_append_right (by simp; omega), List.getElem?_replicate, if_pos (by simp; omega)]

section
variable {P : Program}
theorem zero_replicate (z : Value) (hz : z.cells = #[z]) (n : Nat) : (Builtin.zeroCells z.cells n).toList = List.replicate n z := by
  rw [hz]
  refine List.ext_getElem? fun i => ?_
  simp only [Builtin.zeroCells, List.size_toArray, List.length_cons, List.length_nil, Nat.zero_add, Nat.mul_one, Array.toList_map, List.getElem?_map]
  rcases Nat.lt_or_ge i n with h | h
  · simp [h, Nat.mod_one]
  · rw [List.getElem?_eq_none (by simp; omega), List.getElem?_replicate, if_neg (by omega)]; rfl

theorem run_clear (t ty e : TypeId) (i : TypeInfo) (z : Value) (ht : P.underlying t = some (.slice e)) (hi : P.info? e = some i) (hz : i.zero = some z) (hc : z.cells = #[z]) (h1 : z.oneCell' = true)
    (w : World) (g o n cap : Nat) (cur : Array Value) (hg : Blk w g cur e) (hs : o + n ≤ cur.size) (hn : 0 < n) :
    (Builtin.clear_ #[t] ty #[.slice (some ⟨g, o, none⟩) n cap]).run P w = .ok (.tuple #[]) (w.setRow g (zeroed z cur o n)) := by
  have hst := run_storeCells_at P g o e (List.replicate n z) 0 cur w hg (by simpa using hs) (fun v hv => by rw [List.eq_of_mem_replicate hv]; exact h1)
  simp only [Nat.add_zero, List.length_replicate] at hst
  obtain ⟨m, rfl⟩ : ∃ m, n = m + 1 := ⟨n - 1, by omega⟩
  have hr := zero_replicate z hc (m + 1)
  rw [hc] at hr
  simp [Builtin.clear_, run_underlying ht, zeroValue, typeInfo, hi, hz, hc, hr, hst, zeroed]

theorem wpList_clear {ops : Array Oper} {rest : List Oper} {o : Oper} {a : Act} {Q : Exit → Act → World → Prop} (hgd : o.guard = none) (x : Operand) (t : TypeId)
    (ho : o.op = .call { callee := .builtin .clear, args := #[x], argTypes := #[t] })
    (e : TypeId) (i : TypeInfo) (z : Value) (ht : P.underlying t = some (.slice e)) (hi : P.info? e = some i) (hz : i.zero = some z) (hc : z.cells = #[z]) (h1 : z.oneCell' = true)
    (w : World) (g off n cap : Nat) (cur : Array Value) (hx : a.eval x = .slice (some ⟨g, off, none⟩) n cap) (hg : Blk w g cur e) (hs : off + n ≤ cur.size) (hn : 0 < n)
    (h : ∀ w', Blk w' g (zeroed z cur off n) e → Upd (fun k => k = g) w w' → wpList P ops Q rest (a.put o.dst (.tuple #[])) w') : wpList P ops Q (o :: rest) a w := by
  refine wpList_plain hgd fun K hK => ?_
  have hrun := run_clear (P := P) t o.type e i z ht hi hz hc h1 w g off n cap cur hg hs hn
  unfold Oper.wp
  simp [execOp, ho, resolve, invoke, builtin, hx, hrun, Result.andThen]
  exact hK _ _ (h _ (setRow_eq w g _ cur e hg).1 (setRow_eq w g _ cur e hg).2)

theorem wpList_clear_none {ops : Array Oper} {rest : List Oper} {o : Oper} {a : Act} {Q : Exit → Act → World → Prop} (hgd : o.guard = none) (x : Operand) (t : TypeId)
    (ho : o.op = .call { callee := .builtin .clear, args := #[x], argTypes := #[t] })
    (e : TypeId) (ht : P.underlying t = some (.slice e)) (w : World) (ad : Option Addr) (n cap : Nat) (hx : a.eval x = .slice ad n cap) (hn : ad = none ∨ n = 0)
    (h : wpList P ops Q rest (a.put o.dst (.tuple #[])) w) : wpList P ops Q (o :: rest) a w := by
  refine wpList_plain hgd fun K hK => ?_
  have hrun : (Builtin.clear_ #[t] o.type #[.slice ad n cap]).run P w = .ok (.tuple #[]) w := by
    rcases hn with rfl | rfl
    · simp [Builtin.clear_, run_underlying ht]
    · cases ad <;> simp [Builtin.clear_, run_underlying ht]
  unfold Oper.wp
  simp [execOp, ho, resolve, invoke, builtin, hx, hrun, Result.andThen]
  exact hK _ _ h

/-- What has been collected, and where: at a block that is the call's own. -/
theorem ownsRow_drewN {w : World} {base : Nat} {e : TypeId} {size : Nat} {v : Value} {n : Nat} {xs : List Value} (h : w.ownsRow base e size v n xs) (k : Nat) : (w.drewN k).ownsRow base e size v n xs := h
theorem ownsRow_nil (w : World) (base : Nat) (e : TypeId) (size : Nat) : w.ownsRow base e size (.slice none 0 0) 0 [] := ⟨by simp, .inl ⟨rfl, rfl⟩⟩
theorem ownsRow_upd {w w' : World} {base : Nat} {e : TypeId} {size : Nat} {v : Value} {n : Nat} {xs : List Value} {S : Nat → Prop} (h : w.ownsRow base e size v n xs) (hu : Upd S w w')
    (hs : ∀ k, v.ownBlock = some k → ¬ S k) : w'.ownsRow base e size v n xs := by
  obtain ⟨h1, h2⟩ := h
  refine ⟨h1, ?_⟩
  rcases h2 with h2 | ⟨g, cap, cur, hv, hg, hb, h3⟩
  · exact .inl h2
  · subst hv
    exact .inr ⟨g, cap, cur, rfl, hg, (hu.block g (Blk.lt hb) (hs g rfl)).trans hb, h3⟩
theorem ownsRow_base {w : World} {base base' : Nat} {e : TypeId} {size : Nat} {v : Value} {n : Nat} {xs : List Value} (h : w.ownsRow base e size v n xs) (hb : base' ≤ base) : w.ownsRow base' e size v n xs := by
  obtain ⟨h1, h2⟩ := h
  refine ⟨h1, ?_⟩
  rcases h2 with h2 | ⟨g, cap, cur, hv, hg, h3⟩
  · exact .inl h2
  · exact .inr ⟨g, cap, cur, hv, by omega, h3⟩

/-- A slice's array is what it was, or new. -/
def OwnOrNew (w : World) (v v' : Value) : Prop := ∀ k, v'.ownBlock = some k → v.ownBlock = some k ∨ w.heap.size ≤ k

theorem run_app (w : World) (base : Nat) (t ty e : TypeId) (i : TypeInfo) (z : Value) (size bytes : Nat) (ht : P.underlying t = some (.slice e)) (hi : P.info? e = some i) (hz : i.zero = some z)
    (hsize : i.size = size) (hby : i.bytes = bytes) (hzs : z.cells.size = size) (hsz : 0 < size)
    (v : Value) (n : Nat) (xs : List Value) (hown : w.ownsRow base e size v n xs)
    (a : Addr) (m c : Nat) (news : List Value) (hl : news.length = m * size) (hnews : ∀ j u, news[j]? = some u → w.cell? (a.add j) = some u) (h1 : ∀ u ∈ news, u.oneCell' = true)
    (h63 : n + m ≤ maxLen) (hbytes : (n + m) * bytes ≤ 140737488355328) (hbase : base ≤ w.heap.size) :
    ∃ v' w', (Builtin.append_ #[t, t] ty #[v, .slice (some a) m c]).run P w = .ok v' w' ∧ w'.ownsRow base e size v' (n + m) (xs ++ news) ∧ w.grownBy w' v.ownBlock ∧
      (v' = .slice none 0 0 ↔ v = .slice none 0 0 ∧ m = 0) ∧ OwnOrNew w v v' := by
  obtain ⟨v', w', hr, h2, h3, h4⟩ := run_append_own (P := P) w base t ty e i z size bytes ht hi hz hsize hby hzs hsz v n xs hown a m c news hl hnews h1 h63 hbytes hbase
  refine ⟨v', w', hr, h2, h3, h4, ?_⟩
  subst hsize
  subst hby
  have hsmall : n + m ≤ 9223372036854775807 := by simp only [maxLen] at h63; omega
  rcases hown.2 with ⟨rfl, rfl⟩ | ⟨g, cap, cur, rfl, hbg, hg, hnc, hcm, hcs, htake⟩
  · have hx : xs = [] := List.eq_nil_of_length_eq_zero (by simpa using hown.1)
    subst hx
    by_cases hm : m = 0
    · have := h4.2 ⟨rfl, hm⟩
      subst this
      intro k hk; cases hk
    · have hr' := run_append_nil (P := P) w t ty e i z ht hi hz a m c news hl hnews (by omega) (by omega) (by have hb := hbytes; simp only [Nat.zero_add] at hb; omega)
      rw [hr] at hr'
      injection hr' with e1 e2
      subst e1
      intro k hk
      have hk' : w.heap.size = k := by simpa [Value.ownBlock] using hk
      exact .inr (by omega)
  · by_cases hroom : n + m ≤ cap
    · have hfit : n * i.size + news.length ≤ cur.size := by rw [hl, hcs, ← Nat.add_mul]; exact Nat.mul_le_mul_right _ hroom
      have hr' := run_append_room (P := P) w t ty e i ht hi g n cap cur hg a m c news hl hnews h1 hroom hfit
      rw [hr] at hr'
      injection hr' with e1 e2
      subst e1
      exact fun k hk => .inl hk
    · have holds : ∀ j u, xs[j]? = some u → w.cell? ((⟨g, 0, none⟩ : Addr).add j) = some u := hown.cells (g := g) rfl
      have hr' := run_append_grow (P := P) w t ty e i z ht hi hz ⟨g, 0, none⟩ n cap xs hown.1 holds a m c news hl hnews (by omega) (by omega) (growslice_fits (by omega) hbytes)
      rw [hr] at hr'
      injection hr' with e1 e2
      subst e1
      intro k hk
      have hk' : w.heap.size = k := by simpa [Value.ownBlock] using hk
      exact .inr (by omega)

/-- Some things more, out of another slice. -/
theorem wpList_app {ops : Array Oper} {rest : List Oper} {o : Oper} {a : Act} {Q : Exit → Act → World → Prop} {w : World} (hgd : o.guard = none) (s x : Operand) (t : TypeId)
    (ho : o.op = .call { callee := .builtin .append, args := #[s, x], argTypes := #[t, t] })
    (base : Nat) (e : TypeId) (i : TypeInfo) (z : Value) (size bytes : Nat) (ht : P.underlying t = some (.slice e)) (hi : P.info? e = some i) (hz : i.zero = some z)
    (hsize : i.size = size) (hby : i.bytes = bytes) (hzs : z.cells.size = size) (hsz : 0 < size) (hbs : bytes ≤ 4096)
    (v : Value) (n : Nat) (xs : List Value) (hs : a.eval s = v) (hown : w.ownsRow base e size v n xs)
    (ad : Option Addr) (m c : Nat) (news : List Value) (hx : a.eval x = .slice ad m c) (hnil : ad = none → m = 0 ∧ c = 0) (hl : news.length = m * size)
    (hnews : ∀ b, ad = some b → ∀ j u, news[j]? = some u → w.cell? (b.add j) = some u) (h1 : ∀ u ∈ news, u.oneCell' = true)
    (hn : n + m ≤ 1000000000) (hbase : base ≤ w.heap.size)
    (h : ∀ v' w', w'.ownsRow base e size v' (n + m) (xs ++ news) → Upd (fun k => v.ownBlock = some k) w w' → OwnOrNew w v v' → wpList P ops Q rest (a.put o.dst v') w') : wpList P ops Q (o :: rest) a w := by
  refine wpList_plain hgd fun K hK => ?_
  have hb : (n + m) * bytes ≤ 140737488355328 := by
    have : (n + m) * bytes ≤ 1000000000 * 4096 := Nat.mul_le_mul (by omega) hbs
    omega
  cases ad with
  | none =>
    obtain ⟨rfl, rfl⟩ := hnil rfl
    have hn0 : news = [] := List.eq_nil_of_length_eq_zero (by simpa using hl)
    subst hn0
    have hr := run_append_owned_none (P := P) (w := w) base t o.type e i size ht hi v n xs hown
    unfold Oper.wp execOp
    simp only [ho, resolve, invoke, builtin, Sem.run_bind, Sem.run_pure, Result.andThen_ok, List.map_toArray, List.map_cons, List.map_nil, hs, hx, hr]
    refine hK _ _ (h v w ?_ (Upd.refl _ _) (fun k hk => .inl hk))
    simpa using hown
  | some ad =>
    obtain ⟨v', w', hr, h2, h3, _, h5⟩ := run_app (P := P) w base t o.type e i z size bytes ht hi hz hsize hby hzs hsz v n xs hown ad m c news hl (hnews ad rfl) h1 (by unfold maxLen; omega) hb hbase
    unfold Oper.wp execOp
    simp only [ho, resolve, invoke, builtin, Sem.run_bind, Sem.run_pure, Result.andThen_ok, List.map_toArray, List.map_cons, List.map_nil, hs, hx, hr]
    exact hK _ _ (h v' w' h2 ((Upd.refl _ w).grown h3 (fun k _ hk => hk)) h5)

/-- One thing more, of whatever size. -/
theorem wpList_push {ops : Array Oper} {rest : List Oper} {o : Oper} {a : Act} {Q : Exit → Act → World → Prop} {w : World} (hgd : o.guard = none) (s x : Operand) (t : TypeId)
    (ho : o.op = .call { callee := .builtin .append, args := #[s, x], argTypes := #[t, t] })
    (base : Nat) (e : TypeId) (i : TypeInfo) (z : Value) (size bytes : Nat) (ht : P.underlying t = some (.slice e)) (hi : P.info? e = some i) (hz : i.zero = some z)
    (hsize : i.size = size) (hby : i.bytes = bytes) (hzs : z.cells.size = size) (hsz : 0 < size) (hbs : bytes ≤ 4096)
    (v : Value) (n : Nat) (xs : List Value) (hs : a.eval s = v) (hown : w.ownsRow base e size v n xs)
    (g c : Nat) (news : List Value) (hx : a.eval x = .slice (some ⟨g, 0, none⟩) 1 c) (hl : news.length = size) (hnews : ∀ j u, news[j]? = some u → w.cell? ⟨g, j, none⟩ = some u) (h1 : ∀ u ∈ news, u.oneCell' = true)
    (hn : n ≤ 999999999) (hbase : base ≤ w.heap.size)
    (h : ∀ v' w', w'.ownsRow base e size v' (n + 1) (xs ++ news) → Upd (fun k => v.ownBlock = some k) w w' → OwnOrNew w v v' → wpList P ops Q rest (a.put o.dst v') w') : wpList P ops Q (o :: rest) a w := by
  refine wpList_app hgd s x t ho base e i z size bytes ht hi hz hsize hby hzs hsz hbs v n xs hs hown (some ⟨g, 0, none⟩) 1 c news hx (fun h => by cases h) (by simpa using hl) (fun b hb j u hu => ?_) h1 (by omega) hbase h
  cases hb
  have e : (⟨g, 0, none⟩ : Addr).add j = ⟨g, j, none⟩ := by rw [add_at, Nat.zero_add]
  rw [e]; exact hnews j u hu
end

/-- The cells of a block that was just made. -/
theorem new_cells (w : World) (c : Array Value) (t : TypeId) : ∀ (j : Nat) (u : Value), c.toList[j]? = some u → (w.alloc (.cells c t)).cell? ⟨w.heap.size, j, none⟩ = some u := fun j u hu => by
  rw [(Blk.new w c t).cell]; simpa using hu

/-- A slice of one-cell things, wherever it lies, that reads as this list. -/
def RowAt (w : World) (v : Value) (vals : List Value) : Prop :=
  ∃ ad c, v = .slice ad vals.length c ∧ (ad = none → vals = [] ∧ c = 0) ∧ ∀ b, ad = some b → ∀ j u, vals[j]? = some u → b.spot = none ∧ w.cell? ⟨b.block, b.off + j, none⟩ = some u

theorem ownsRow_rowAt {w : World} {base : Nat} {e : TypeId} {v : Value} {n : Nat} {xs : List Value} (h : w.ownsRow base e 1 v n xs) : RowAt w v xs := by
  have hn : xs.length = n := by simpa using h.1
  rcases h.2 with ⟨rfl, h0⟩ | ⟨g, cap, cur, rfl, _, _⟩
  · subst h0
    have : xs = [] := List.eq_nil_of_length_eq_zero hn
    subst this
    exact ⟨none, 0, rfl, fun _ => ⟨rfl, rfl⟩, fun b hb => by cases hb⟩
  · refine ⟨some ⟨g, 0, none⟩, cap, by rw [hn], (fun h => by cases h), fun b hb j u hu => ?_⟩
    obtain rfl : (⟨g, 0, none⟩ : Addr) = b := by simpa using hb
    refine ⟨rfl, ?_⟩
    have := h.cells (g := g) rfl j u hu
    have hadd : (⟨g, 0, none⟩ : Addr).add j = ⟨g, 0 + j, none⟩ := add_at _ _ _
    rw [hadd] at this
    exact this
theorem RowAt.drewN {w : World} {v : Value} {xs : List Value} (h : RowAt w v xs) (k : Nat) : RowAt (w.drewN k) v xs := h
theorem RowAt.nil (w : World) : RowAt w (.slice none 0 0) [] := ⟨none, 0, rfl, fun _ => ⟨rfl, rfl⟩, fun b hb => by cases hb⟩
theorem cell_lt {w : World} {a : Addr} {v : Value} (h : w.cell? a = some v) : a.block < w.heap.size := by
  rcases Nat.lt_or_ge a.block w.heap.size with h' | h'
  · exact h'
  · simp [World.cell?, Array.getElem?_eq_none h'] at h
theorem RowAt.upd {w w' : World} {v : Value} {xs : List Value} {S : Nat → Prop} (h : RowAt w v xs) (hu : Upd S w w') (hs : ∀ k, v.ownBlock = some k → ¬ S k) : RowAt w' v xs := by
  obtain ⟨ad, c, rfl, h1, h2⟩ := h
  refine ⟨ad, c, rfl, h1, fun b hb j u hj => ⟨(h2 b hb j u hj).1, ?_⟩⟩
  have hc := (h2 b hb j u hj).2
  subst hb
  rw [hu.cell _ (cell_lt hc) (hs _ rfl)]
  exact hc
theorem RowAt.old {w w' : World} {v : Value} {xs : List Value} (h : RowAt w v xs) (hu : Upd Nowhere w w') : RowAt w' v xs := h.upd hu (fun _ _ h => h)
/-- A row, taken apart for a walk: the slice's form, and its cells at a block and a place. -/
theorem RowAt.form {w : World} {v : Value} {xs : List Value} (h : RowAt w v xs) :
    (∃ ad c, v = .slice ad 0 c ∧ xs = []) ∨ ∃ g o c, v = .slice (some ⟨g, o, none⟩) xs.length c ∧ ∀ j u, xs[j]? = some u → w.cell? ⟨g, o + j, none⟩ = some u := by
  obtain ⟨ad, c, rfl, h1, h2⟩ := h
  cases xs with
  | nil => exact .inl ⟨ad, c, rfl, rfl⟩
  | cons x r =>
    cases ad with
    | none => obtain ⟨h, _⟩ := h1 rfl; cases h
    | some b =>
      obtain ⟨hs, _⟩ := h2 b rfl 0 x rfl
      obtain ⟨g, o, sp⟩ := b
      simp only at hs
      subst hs
      exact .inr ⟨g, o, c, rfl, fun j u hu => (h2 _ rfl j u hu).2⟩
/-- A place of a row, for a walk. -/
theorem row_at {w : World} {ad : Option Addr} {vals : List Value} (h0 : ad = none → vals = [] ∧ True) (h1 : ∀ b, ad = some b → ∀ j u, vals[j]? = some u → b.spot = none ∧ w.cell? ⟨b.block, b.off + j, none⟩ = some u) {i : Nat} {u : Value} (hi : vals[i]? = some u) :
    ∃ g o, ad = some ⟨g, o, none⟩ ∧ w.cell? ⟨g, o + i, none⟩ = some u := by
  cases ad with
  | none => rw [(h0 rfl).1] at hi; cases hi
  | some a =>
    obtain ⟨hs, hc⟩ := h1 a rfl i u hi
    obtain ⟨g, o, sp⟩ := a
    simp only at hs
    subst hs
    exact ⟨g, o, rfl, hc⟩
/-- A cell of what was there, behind writes from B on. -/
theorem cell_keep {B : Nat} {w wr : World} {v : Value} (hu : Upd (fun k => B ≤ k) w wr) (hB : B = w.heap.size) {a : Addr} (hc : w.cell? a = some v) : wr.cell? a = some v := by
  have hlt := cell_lt hc
  rw [World.cell?_of_block (w := w) (hu.block a.block hlt (by omega))]
  exact hc
theorem cell_old {w wr : World} {v : Value} (hu : Upd Nowhere w wr) {a : Addr} (hc : w.cell? a = some v) : wr.cell? a = some v := by
  rw [World.cell?_of_block (w := w) (hu.block a.block (cell_lt hc) id)]
  exact hc
theorem RowAt.src {w : World} {ad : Option Addr} {m c : Nat} {xs : List Value} (h : RowAt w (.slice ad m c) xs) :
    xs.length = m ∧ (ad = none → m = 0 ∧ c = 0) ∧ ∀ b, ad = some b → ∀ j u, xs[j]? = some u → w.cell? (b.add j) = some u := by
  obtain ⟨ad', c', he, h1, h2⟩ := h
  injection he with e1 e2 e3
  subst e1 e2 e3
  refine ⟨rfl, fun hn => ⟨by rw [(h1 hn).1]; rfl, (h1 hn).2⟩, fun b hb j u hu => ?_⟩
  obtain ⟨hs, hc⟩ := h2 b hb j u hu
  obtain ⟨g, o, sp⟩ := b
  simp only at hs
  subst hs
  have hadd : (⟨g, o, none⟩ : Addr).add j = ⟨g, o + j, none⟩ := add_at _ _ _
  rw [hadd]; exact hc

/-- A row of one-cell things is appended. -/
theorem wpList_appRow {P : Program} {ops : Array Oper} {rest : List Oper} {o : Oper} {a : Act} {Q : Exit → Act → World → Prop} {w : World} (hgd : o.guard = none) (s x : Operand) (t : TypeId)
    (ho : o.op = .call { callee := .builtin .append, args := #[s, x], argTypes := #[t, t] })
    (base : Nat) (e : TypeId) (i : TypeInfo) (z : Value) (bytes : Nat) (ht : P.underlying t = some (.slice e)) (hi : P.info? e = some i) (hz : i.zero = some z)
    (hsize : i.size = 1) (hby : i.bytes = bytes) (hzs : z.cells.size = 1) (hbs : bytes ≤ 4096)
    (v : Value) (n : Nat) (xs : List Value) (hs : a.eval s = v) (hown : w.ownsRow base e 1 v n xs)
    (sv : Value) (news : List Value) (hx : a.eval x = sv) (hr : RowAt w sv news) (h1 : ∀ u ∈ news, u.oneCell' = true)
    (hn : n + news.length ≤ 1000000000) (hbase : base ≤ w.heap.size)
    (h : ∀ v' w', w'.ownsRow base e 1 v' (n + news.length) (xs ++ news) → Upd (fun k => v.ownBlock = some k) w w' → OwnOrNew w v v' → wpList P ops Q rest (a.put o.dst v') w') : wpList P ops Q (o :: rest) a w := by
  obtain ⟨ad, c, rfl, _⟩ := id hr
  obtain ⟨_, h2, h3⟩ := hr.src
  exact wpList_app hgd s x t ho base e i z 1 bytes ht hi hz hsize hby hzs (by decide) hbs v n xs hs hown ad news.length c news hx h2 (by simp) h3 h1 hn hbase h
end Go.Proofs.YtjbaibnmbeabnaaGreatDoor
