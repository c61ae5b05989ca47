/- A wheel in memory: one block of 720 cells, and the lists that lie in it. No program in sight. -/
import Derived.Test.YtjbaibnmbeabnaaDoorWheelPlain2
import Derived.Test.YtjbaibnmbeabnaaDoorHeapCore
import Derived.Test.YtjbaibnmbeabnaaDoorLaws
namespace Go.Proofs.YtjbaibnmbeabnaaDoor.Wheel
open Go.RowKit Heap
/-- A wheel's own blocks. -/
def Own (b : Nat) (vs : Nat → Value) (k : Nat) : Prop := k = b ∨ ∃ o, isRow o ∧ (vs o).ownBlock = some k
/-- An entry's cells. -/
def ec (e : En) : List Value := [.int .u64 (e.1 : Nat), .int .u64 (e.2.1 : Nat), .int .i64 e.2.2]
abbrev es (l : List En) : List Value := ents (Value.int .i64) l
theorem es_snoc (l : List En) (e : En) : es (l ++ [e]) = es l ++ ec e := by unfold es; rw [ents_append]; rfl
/-- The wheel at b: its numbers, and what lies in its places. -/
structure WIn (TW TE : TypeId) (A : Nat → Prop) (w0 w : World) (b now came room n : Nat) (vs : Nat → Value) (qs : Nat → List En) (us : Nat → Nat) : Prop where
  cur : ∃ c : Array Value, Blk w b c TW ∧ c.size = 720 ∧ (∀ l, l < 11 → c[l * 65]? = some (.int .u64 (us l : Nat))) ∧ (∀ o, isRow o → c[o]? = some (vs o)) ∧ c[716]? = some (.int .u64 now) ∧ c[717]? = some (.int .u64 came) ∧ c[718]? = some (.int .i64 n) ∧ c[719]? = some (.int .i64 room)
  row : ∀ o, isRow o → w.ownsRow 0 TE 3 (vs o) (qs o).length (es (qs o))
  ap : ∀ o o', isRow o → isRow o' → o ≠ o' → ∀ k, (vs o).ownBlock = some k → (vs o').ownBlock ≠ some k
  nb : ∀ o, isRow o → (vs o).ownBlock ≠ some b
  far : ∀ k, Own b vs k → w0.heap.size ≤ k ∧ ¬ A k
section
variable {TW TE : TypeId} {A A' : Nat → Prop} {w0 w w' wx w1 : World} {b now came room n : Nat} {vs : Nat → Value} {qs : Nat → List En} {us : Nat → Nat}
theorem WIn.lt (h : WIn TW TE A w0 w b now came room n vs qs us) : b < w.heap.size := by obtain ⟨c, h1, _⟩ := h.cur; exact h1.lt
theorem WIn.lts (h : WIn TW TE A w0 w b now came room n vs qs us) {k : Nat} (hk : Own b vs k) : k < w.heap.size := by
  rcases hk with rfl | ⟨o, ho, hk⟩
  · exact h.lt
  · exact ((h.row o ho).lt k hk).2
theorem WIn.low (h : WIn TW TE A w0 w b now came room n vs qs us) : w0.heap.size ≤ w.heap.size := by have := (h.far b (.inl rfl)).1; have := h.lt; omega
theorem WIn.at_used (h : WIn TW TE A w0 w b now came room n vs qs us) {l : Nat} (hl : l < 11) : w.cell? ⟨b, l * 65, none⟩ = some (.int .u64 (us l : Nat)) ∧ w.frozen? ⟨b, l * 65, none⟩ = false := by
  obtain ⟨c, h1, _, h2, _⟩ := h.cur; exact ⟨h1.cellAt (h2 l hl), h1.free _⟩
theorem WIn.at_row (h : WIn TW TE A w0 w b now came room n vs qs us) {o : Nat} (ho : isRow o) : w.cell? ⟨b, o, none⟩ = some (vs o) ∧ w.frozen? ⟨b, o, none⟩ = false := by
  obtain ⟨c, h1, _, _, h2, _⟩ := h.cur; exact ⟨h1.cellAt (h2 o ho), h1.free _⟩
theorem WIn.at_nums (h : WIn TW TE A w0 w b now came room n vs qs us) : w.cell? ⟨b, 716, none⟩ = some (.int .u64 now) ∧ w.cell? ⟨b, 717, none⟩ = some (.int .u64 came) ∧ w.cell? ⟨b, 718, none⟩ = some (.int .i64 n) ∧ w.cell? ⟨b, 719, none⟩ = some (.int .i64 room) ∧ ∀ i, w.frozen? ⟨b, i, none⟩ = false := by
  obtain ⟨c, h1, _, _, _, h2, h3, h4, h5⟩ := h.cur; exact ⟨h1.cellAt h2, h1.cellAt h3, h1.cellAt h4, h1.cellAt h5, fun _ => h1.free _⟩
theorem WIn.kept (h : WIn TW TE A w0 w b now came room n vs qs us) {S : Nat → Prop} (hu : Upd S w w') (hS : ∀ k, S k → k < w.heap.size → A k ∨ k < w0.heap.size) : WIn TW TE A w0 w' b now came room n vs qs us := by
  have hno : ∀ k, Own b vs k → ¬ S k := fun k hk hs => by
    rcases hS k hs (h.lts hk) with h1 | h1
    · exact (h.far k hk).2 h1
    · exact absurd (h.far k hk).1 (Nat.not_le.2 h1)
  obtain ⟨c, h1, h2⟩ := h.cur
  exact ⟨⟨c, h1.kept hu (hno b (.inl rfl)), h2⟩, fun o ho => ownsRow_upd (h.row o ho) hu (fun k hk => hno k (.inr ⟨o, ho, hk⟩)), h.ap, h.nb, h.far⟩
theorem WIn.old (h : WIn TW TE A w0 w b now came room n vs qs us) (hu : Upd Nowhere w w') : WIn TW TE A w0 w' b now came room n vs qs us := h.kept hu (fun _ h _ => h.elim)
theorem WIn.re (h : WIn TW TE A w0 w b now came room n vs qs us) (hA : ∀ k, A' k → A k ∨ w.heap.size ≤ k) : WIn TW TE A' w0 w b now came room n vs qs us :=
  ⟨h.cur, h.row, h.ap, h.nb, fun k hk => ⟨(h.far k hk).1, fun h1 => (hA k h1).elim (h.far k hk).2 (fun h2 => Nat.not_le.2 (h.lts hk) h2)⟩⟩
/-- A step that writes into the wheel's block alone. -/
theorem upd_blk (a : Addr) (v : Value) : Upd (fun k => k = a.block) w (w.setCell a v) := Upd.setCell (S := fun k => k = a.block) (a := a) (Upd.refl _ _) (fun _ => rfl) v
theorem WIn.own_upd (h : WIn TW TE A w0 w b now came room n vs qs us) {S : Nat → Prop} (hu : Upd S w w') (hS : ∀ k, k < w.heap.size → S k → Own b vs k) : Upd (fun k => w0.heap.size ≤ k ∧ ¬ A k) w w' := hu.mono (fun k hk hs => h.far k (hS k hk hs))
theorem WIn.setUsed (h : WIn TW TE A w0 w b now came room n vs qs us) {l : Nat} (hl : l < 11) (x : Nat) : WIn TW TE A w0 (w.setCell ⟨b, l * 65, none⟩ (.int .u64 (x : Nat))) b now came room n vs qs (put us l x) := by
  obtain ⟨c, h1, h2, h3, h4, h5, h6, h7, h8⟩ := h.cur
  have hu := upd_blk (w := w) ⟨b, l * 65, none⟩ (.int .u64 (x : Nat))
  have hne : ∀ i, i ≠ l * 65 → (c.setIfInBounds (l * 65) (.int .u64 (x : Nat)))[i]? = c[i]? := fun i hi => Array.getElem?_setIfInBounds_ne (Ne.symm hi)
  refine ⟨⟨_, h1.set _ _, by simpa using h2, fun m hm => ?_, fun o ho => ?_, ?_, ?_, ?_, ?_⟩, fun o ho => ownsRow_upd (h.row o ho) hu (fun k hk e => h.nb o ho (by rw [hk, e])), h.ap, h.nb, h.far⟩
  · by_cases e : m = l
    · subst e; rw [put_at]; exact Array.getElem?_setIfInBounds_self_of_lt (by omega)
    · rw [put_ne _ _ e, hne _ (by omega)]; exact h3 m hm
  · rw [hne _ (by unfold isRow at ho; omega)]; exact h4 o ho
  · rw [hne _ (by omega)]; exact h5
  · rw [hne _ (by omega)]; exact h6
  · rw [hne _ (by omega)]; exact h7
  · rw [hne _ (by omega)]; exact h8
theorem WIn.setNow (h : WIn TW TE A w0 w b now came room n vs qs us) (x : Nat) : WIn TW TE A w0 (w.setCell ⟨b, 716, none⟩ (.int .u64 (x : Nat))) b x came room n vs qs us := by
  obtain ⟨c, h1, h2, h3, h4, h5, h6, h7, h8⟩ := h.cur
  have hu := upd_blk (w := w) ⟨b, 716, none⟩ (.int .u64 (x : Nat))
  have hne : ∀ i, i ≠ 716 → (c.setIfInBounds 716 (.int .u64 (x : Nat)))[i]? = c[i]? := fun i hi => Array.getElem?_setIfInBounds_ne (Ne.symm hi)
  exact ⟨⟨_, h1.set _ _, by simpa using h2, fun m hm => by rw [hne _ (by omega)]; exact h3 m hm, fun o ho => by rw [hne _ (by unfold isRow at ho; omega)]; exact h4 o ho, Array.getElem?_setIfInBounds_self_of_lt (by omega), by rw [hne _ (by omega)]; exact h6, by rw [hne _ (by omega)]; exact h7, by rw [hne _ (by omega)]; exact h8⟩, fun o ho => ownsRow_upd (h.row o ho) hu (fun k hk e => h.nb o ho (by rw [hk, e])), h.ap, h.nb, h.far⟩
theorem WIn.setCame (h : WIn TW TE A w0 w b now came room n vs qs us) (x : Nat) : WIn TW TE A w0 (w.setCell ⟨b, 717, none⟩ (.int .u64 (x : Nat))) b now x room n vs qs us := by
  obtain ⟨c, h1, h2, h3, h4, h5, h6, h7, h8⟩ := h.cur
  have hu := upd_blk (w := w) ⟨b, 717, none⟩ (.int .u64 (x : Nat))
  have hne : ∀ i, i ≠ 717 → (c.setIfInBounds 717 (.int .u64 (x : Nat)))[i]? = c[i]? := fun i hi => Array.getElem?_setIfInBounds_ne (Ne.symm hi)
  exact ⟨⟨_, h1.set _ _, by simpa using h2, fun m hm => by rw [hne _ (by omega)]; exact h3 m hm, fun o ho => by rw [hne _ (by unfold isRow at ho; omega)]; exact h4 o ho, by rw [hne _ (by omega)]; exact h5, Array.getElem?_setIfInBounds_self_of_lt (by omega), by rw [hne _ (by omega)]; exact h7, by rw [hne _ (by omega)]; exact h8⟩, fun o ho => ownsRow_upd (h.row o ho) hu (fun k hk e => h.nb o ho (by rw [hk, e])), h.ap, h.nb, h.far⟩
theorem WIn.setN (h : WIn TW TE A w0 w b now came room n vs qs us) (x : Nat) : WIn TW TE A w0 (w.setCell ⟨b, 718, none⟩ (.int .i64 (x : Nat))) b now came room x vs qs us := by
  obtain ⟨c, h1, h2, h3, h4, h5, h6, h7, h8⟩ := h.cur
  have hu := upd_blk (w := w) ⟨b, 718, none⟩ (.int .i64 (x : Nat))
  have hne : ∀ i, i ≠ 718 → (c.setIfInBounds 718 (.int .i64 (x : Nat)))[i]? = c[i]? := fun i hi => Array.getElem?_setIfInBounds_ne (Ne.symm hi)
  exact ⟨⟨_, h1.set _ _, by simpa using h2, fun m hm => by rw [hne _ (by omega)]; exact h3 m hm, fun o ho => by rw [hne _ (by unfold isRow at ho; omega)]; exact h4 o ho, by rw [hne _ (by omega)]; exact h5, by rw [hne _ (by omega)]; exact h6, Array.getElem?_setIfInBounds_self_of_lt (by omega), by rw [hne _ (by omega)]; exact h8⟩, fun o ho => ownsRow_upd (h.row o ho) hu (fun k hk e => h.nb o ho (by rw [hk, e])), h.ap, h.nb, h.far⟩
/-- A list is laid anew at a place: the others stand, its own blocks are no other's. -/
theorem WIn.setRow (h : WIn TW TE A w0 w b now came room n vs qs us) {S : Nat → Prop} (hu : Upd S w w1) {o : Nat} (ho : isRow o) {v' : Value} {q' : List En} (hS : ∀ k, k < w.heap.size → S k → (vs o).ownBlock = some k)
    (hr : w1.ownsRow 0 TE 3 v' q'.length (es q')) (hv : ∀ k, v'.ownBlock = some k → (vs o).ownBlock = some k ∨ w.heap.size ≤ k) (hA : ∀ k, A k → k < w.heap.size) :
    WIn TW TE A w0 (w1.setCell ⟨b, o, none⟩ v') b now came room n (put vs o v') (put qs o q') us := by
  have hb : ¬ S b := fun e => h.nb o ho (hS b h.lt e)
  obtain ⟨c, h1, h2, h3, h4, h5, h6, h7, h8⟩ := h.cur
  have hu2 := upd_blk (w := w1) ⟨b, o, none⟩ v'
  have hne : ∀ i, i ≠ o → (c.setIfInBounds o v')[i]? = c[i]? := fun i hi => Array.getElem?_setIfInBounds_ne (Ne.symm hi)
  have hob : ∀ k, v'.ownBlock = some k → k ≠ b := fun k hk e => by
    subst e
    rcases hv k hk with h9 | h9
    · exact h.nb o ho h9
    · have := h.lt; omega
  have hx : o ≠ 716 ∧ o ≠ 717 ∧ o ≠ 718 ∧ o ≠ 719 := by unfold isRow at ho; omega
  refine ⟨⟨_, (h1.kept hu hb).set _ _, by simpa using h2, fun m hm => ?_, fun p hp => ?_, ?_, ?_, ?_, ?_⟩, fun p hp => ?_, fun p p' hp hp' hpp k hk => ?_, fun p hp => ?_, fun k hk => ?_⟩
  · rw [hne _ (by unfold isRow at ho; omega)]; exact h3 m hm
  · by_cases e : p = o
    · subst e; rw [put_at]; exact Array.getElem?_setIfInBounds_self_of_lt (by unfold isRow at ho; omega)
    · rw [put_ne _ _ e, hne _ e]; exact h4 p hp
  · rw [hne _ (Ne.symm hx.1)]; exact h5
  · rw [hne _ (Ne.symm hx.2.1)]; exact h6
  · rw [hne _ (Ne.symm hx.2.2.1)]; exact h7
  · rw [hne _ (Ne.symm hx.2.2.2)]; exact h8
  · by_cases e : p = o
    · subst e; rw [put_at, put_at]; exact ownsRow_upd hr hu2 (fun k hk => hob k hk)
    · rw [put_ne _ _ e, put_ne _ _ e]
      exact ownsRow_upd (ownsRow_upd (h.row p hp) hu (fun k hk hs => h.ap p o hp ho e k hk (hS k ((h.row p hp).lt k hk).2 hs))) hu2 (fun k hk e9 => h.nb p hp (by rw [hk, e9]))
  · by_cases e : p = o
    · subst e
      rw [put_at] at hk
      rw [put_ne _ _ (Ne.symm hpp)]
      intro hk'
      rcases hv k hk with h9 | h9
      · exact h.ap p p' hp hp' hpp k h9 hk'
      · have := ((h.row p' hp').lt k hk').2; omega
    · rw [put_ne _ _ e] at hk
      by_cases e' : p' = o
      · subst e'
        rw [put_at]
        intro hk'
        rcases hv k hk' with h9 | h9
        · exact h.ap p p' hp hp' hpp k hk h9
        · have := ((h.row p hp).lt k hk).2; omega
      · rw [put_ne _ _ e']; exact h.ap p p' hp hp' hpp k hk
  · by_cases e : p = o
    · subst e; rw [put_at]; exact fun hk => hob b hk rfl
    · rw [put_ne _ _ e]; exact h.nb p hp
  · rcases hk with rfl | ⟨p, hp, hk⟩
    · exact h.far k (.inl rfl)
    · by_cases e : p = o
      · subst e
        rw [put_at] at hk
        rcases hv k hk with h9 | h9
        · exact h.far k (.inr ⟨p, hp, h9⟩)
        · exact ⟨Nat.le_trans h.low h9, fun h8 => Nat.not_le.2 (hA k h8) h9⟩
      · rw [put_ne _ _ e] at hk; exact h.far k (.inr ⟨p, hp, hk⟩)
end
end Go.Proofs.YtjbaibnmbeabnaaDoor.Wheel
