/- Base, HeapPlain, Laws, Steps, Cells, HeapCoreW, Mix, Mix2, Pcs, PoolPlain, CalPlain, Sep, Made, SepRow, RingCore, RingWCore, Sep2, MadeRow, KeepG, TabPlain, SlotL, one behind the other. -/
import Derived.WalkKit
import Derived.WalkSpells
import Derived.WalkLawsBesides
import Derived.Deep.QuietTactic
import Derived.BigQuiet
import Derived.StillTailTactics
import Derived.BigRegion
import Derived.Laws.CopyRow
import Derived.Deep.RegionLaw
import Derived.Deep.Quiet
import Derived.StillTail
namespace Go.Proofs.YtpgpjjkeginbbaaGreatDoor
open Go.RowKit

/-- Blocks outside S are as they were; none has gone. -/
structure Upd (S : Nat → Prop) (w w' : World) : Prop where
 os : w'.os = w.os
 tape : w'.tape = w.tape
 output : w'.output = w.output
 size : w.heap.size ≤ w'.heap.size
 block : ∀ k, k < w.heap.size → ¬ S k → w'.heap[k]? = w.heap[k]?

/-- No old block is touched. -/
def Nowhere : Nat → Prop := fun _ => False

section
variable {S T : Nat → Prop} {w w' w'' : World}
theorem Upd.refl (S : Nat → Prop) (w : World) : Upd S w w := ⟨rfl, rfl, rfl, Nat.le_refl _, fun _ _ _ => rfl⟩
theorem Upd.mono (h : Upd S w w') (hs : ∀ k, k < w.heap.size → S k → T k) : Upd T w w' :=
 ⟨h.os, h.tape, h.output, h.size, fun k hk hn => h.block k hk (fun hs' => hn (hs k hk hs'))⟩
theorem Upd.trans (h : Upd S w w') (h' : Upd T w' w'') (hs : ∀ k, k < w.heap.size → T k → S k) : Upd S w w'' :=
 ⟨h'.os.trans h.os, h'.tape.trans h.tape, h'.output.trans h.output, Nat.le_trans h.size h'.size,
  fun k hk hn => (h'.block k (Nat.lt_of_lt_of_le hk h.size) (fun ht => hn (hs k hk ht))).trans (h.block k hk hn)⟩
theorem Upd.any (h : Upd Nowhere w w') (S : Nat → Prop) : Upd S w w' := h.mono (fun _ _ h => h.elim)
theorem Upd.drewN (h : Upd S w w') (n : Nat) : Upd S w (w'.drewN n) := ⟨h.os, h.tape, h.output, h.size, h.block⟩
theorem Upd.drew (h : Upd S w w') : Upd S w w'.drew := ⟨h.os, h.tape, h.output, h.size, h.block⟩
theorem Upd.alloc (h : Upd S w w') (o : Obj) : Upd S w (w'.alloc o) :=
 ⟨h.os, h.tape, h.output, Nat.le_trans h.size (by simp), fun k hk hn => (Below.heap_alloc _ _ _ (Nat.lt_of_lt_of_le hk h.size)).trans (h.block k hk hn)⟩
theorem Upd.setCell (h : Upd S w w') {a : Addr} (ha : a.block < w.heap.size → S a.block) (v : Value) : Upd S w (w'.setCell a v) :=
 ⟨h.os, h.tape, h.output, by simpa using h.size, fun k hk hn => (Below.heap_setCell _ _ _ _ (fun e => by subst e; exact hn (ha hk))).trans (h.block k hk hn)⟩
theorem Upd.setNew (h : Upd S w w') {a : Addr} (ha : w.heap.size ≤ a.block) (v : Value) : Upd S w (w'.setCell a v) :=
 h.setCell (fun h' => absurd h' (Nat.not_lt.2 ha)) v
theorem Upd.grown {row : Option Nat} (h : Upd S w w') (hg : w'.grownBy w'' row) (hr : ∀ k, k < w.heap.size → row = some k → S k) : Upd S w w'' :=
 h.trans (T := fun k => row = some k) ⟨hg.os, hg.tape, hg.output, hg.size, fun k hk hn => hg.block k hk (fun e => hn e.symm)⟩ hr
theorem Upd.below (h : Upd S w w') {B : Nat} (hB : B ≤ w.heap.size) (hs : ∀ k, k < B → ¬ S k) : Below B w w' :=
 ⟨h.os, h.tape, h.output, h.size, fun k hk => h.block k (Nat.lt_of_lt_of_le hk hB) (hs k hk)⟩
theorem Upd.to_below (h : Upd Nowhere w w') : Below w.heap.size w w' := h.below (Nat.le_refl _) (fun _ _ h => h)
theorem Upd.cell (h : Upd S w w') {b : Nat} (o : Nat) (hb : b < w.heap.size) (hs : ¬ S b) : w'.cell? ⟨b, o, none⟩ = w.cell? ⟨b, o, none⟩ :=
 World.cell?_of_block (w := w) (h.block b hb hs)
theorem Upd.frozen (h : Upd S w w') {b : Nat} (o : Nat) (hb : b < w.heap.size) (hs : ¬ S b) : w'.frozen? ⟨b, o, none⟩ = w.frozen? ⟨b, o, none⟩ :=
 World.frozen?_of_block (w := w) (h.block b hb hs)
end

/-- Block b holds these cells. -/
def Blk (w : World) (b : Nat) (c : Array Value) (t : TypeId) : Prop := w.heap[b]? = some (.cells c t (0, 0))
section
variable {w w' : World} {b : Nat} {c : Array Value} {t : TypeId}
theorem Blk.lt (h : Blk w b c t) : b < w.heap.size := by
 rcases Nat.lt_or_ge b w.heap.size with h' | h'
 · exact h'
 · unfold Blk at h; rw [Array.getElem?_eq_none h'] at h; cases h
theorem Blk.cell (h : Blk w b c t) (i : Nat) : w.cell? ⟨b, i, none⟩ = c[i]? := by
 unfold Blk at h; simp [World.cell?, h]
theorem Blk.cellAt (h : Blk w b c t) {i : Nat} {v : Value} (hv : c[i]? = some v) : w.cell? ⟨b, i, none⟩ = some v := by rw [h.cell, hv]
theorem Blk.free (h : Blk w b c t) (i : Nat) : w.frozen? ⟨b, i, none⟩ = false := by
 unfold Blk at h; simp [World.frozen?, h]
theorem Blk.kept (h : Blk w b c t) {S : Nat → Prop} (hu : Upd S w w') (hs : ¬ S b) : Blk w' b c t := (hu.block b h.lt hs).trans h
theorem Blk.drewN (h : Blk w b c t) (n : Nat) : Blk (w.drewN n) b c t := h
theorem Blk.drew (h : Blk w b c t) : Blk w.drew b c t := h
theorem Blk.alloc (h : Blk w b c t) (o : Obj) : Blk (w.alloc o) b c t := (Below.heap_alloc _ _ _ h.lt).trans h
theorem Blk.setOther (h : Blk w b c t) {a : Addr} (ha : b ≠ a.block) (v : Value) : Blk (w.setCell a v) b c t := (Below.heap_setCell _ _ _ _ ha).trans h
theorem Blk.set (h : Blk w b c t) (i : Nat) (v : Value) : Blk (w.setCell ⟨b, i, none⟩ v) b (c.setIfInBounds i v) t := by
 unfold Blk at *
 have hb := Blk.lt h
 simp only [World.setCell, Array.getElem?_modify, h]
 simp
theorem Blk.new (w : World) (c : Array Value) (t : TypeId) : Blk (w.alloc (.cells c t)) w.heap.size c t := by
 unfold Blk; show (w.heap.push _)[w.heap.size]? = _; simp
theorem Blk.own {base : Nat} {e : TypeId} {size n cap : Nat} {g : Nat} {xs : List Value} (h : w.ownsRow base e size (.slice (some ⟨g, 0, none⟩) n cap) n xs) :
 ∃ cur, Blk w g cur e ∧ base ≤ g ∧ n ≤ cap ∧ cur.size = cap * size ∧ cur.toList.take (n * size) = xs := by
 obtain ⟨_, h | ⟨g', cap', cur, hv, hb, hg, h1, _, h2, h3⟩⟩ := h
 · obtain ⟨h, _⟩ := h; cases h
 · cases hv; exact ⟨cur, hg, hb, h1, h2, h3⟩
end

theorem add_at (g o j : Nat) : (⟨g, o, none⟩ : Addr).add j = ⟨g, o + j, none⟩ := by
 unfold Addr.add
 split
 · next h => subst h; rfl
 · rfl
theorem ret_int {k : IntKind} {a b : Int} (h : a = b) : Ending.returned (.int k a) = .returned (.int k b) := by rw [h]
end Go.Proofs.YtpgpjjkeginbbaaGreatDoor
namespace Go.Proofs.YtpgpjjkeginbbaaGreatDoor.Heap
abbrev Ent (α : Type) := Nat × Nat × α
section
variable {α : Type}
/-- Whether one leaves ahead of another. -/
def ahd (a b : Ent α) : Bool := decide (a.1 < b.1 ∨ (a.1 = b.1 ∧ a.2.1 < b.2.1))
theorem ahd_iff {a b : Ent α} : ahd a b = true ↔ (a.1 < b.1 ∨ (a.1 = b.1 ∧ a.2.1 < b.2.1)) := by simp [ahd]
theorem ahd_not {a b : Ent α} : ahd a b = false ↔ ¬ (a.1 < b.1 ∨ (a.1 = b.1 ∧ a.2.1 < b.2.1)) := by unfold ahd; exact decide_eq_false_iff_not
theorem ahd_self (a : Ent α) : ahd a a = false := by rw [ahd_not]; omega
theorem ahd_asymm {a b : Ent α} (h : ahd a b = true) : ahd b a = false := by rw [ahd_iff] at h; rw [ahd_not]; omega
theorem le_trans' {a b c : Ent α} (h : ahd b a = false) (h' : ahd c b = false) : ahd c a = false := by rw [ahd_not] at *; omega
/-- Two places changed. -/
def swp (l : List (Ent α)) (i j : Nat) : List (Ent α) := match l[i]?, l[j]? with
 | some a, some b => (l.set i b).set j a
 | _, _ => l
theorem swp_length (l : List (Ent α)) (i j : Nat) : (swp l i j).length = l.length := by
 unfold swp; split <;> simp
theorem swp_eq {l : List (Ent α)} {i j : Nat} {a b : Ent α} (hi : l[i]? = some a) (hj : l[j]? = some b) : swp l i j = (l.set i b).set j a := by unfold swp; rw [hi, hj]
theorem get_lt {l : List (Ent α)} {i : Nat} {a : Ent α} (h : l[i]? = some a) : i < l.length := by
 rcases Nat.lt_or_ge i l.length with h' | h'
 · exact h'
 · rw [List.getElem?_eq_none h'] at h; cases h
theorem swp_perm (l : List (Ent α)) (i j : Nat) : (swp l i j).Perm l := by
 cases hi : l[i]? with
 | none => unfold swp; rw [hi]
 | some a =>
   cases hj : l[j]? with
   | none => unfold swp; rw [hi, hj]
   | some b =>
     rw [swp_eq hi hj]
     have h1 := get_lt hi
     have h2 := get_lt hj
     have e1 : l[i] = a := by rw [List.getElem?_eq_getElem h1] at hi; exact Option.some.inj hi
     have e2 : l[j] = b := by rw [List.getElem?_eq_getElem h2] at hj; exact Option.some.inj hj
     have := List.set_set_perm (as := l) h1 h2
     rw [e1, e2] at this
     exact this
/-- What stands at a place once two were changed. -/
theorem swp_get {l : List (Ent α)} {i j : Nat} {a b : Ent α} (hi : l[i]? = some a) (hj : l[j]? = some b) (k : Nat) : (swp l i j)[k]? = if k = j then some a else if k = i then some b else l[k]? := by
 rw [swp_eq hi hj, List.getElem?_set]
 have h1 := get_lt hi
 have h2 := get_lt hj
 by_cases e : k = j
 · subst e; simp [h2]
 · rw [if_neg (fun h => e h.symm), if_neg e, List.getElem?_set]
   by_cases e' : k = i
   · subst e'; simp [h1]
   · rw [if_neg (fun h => e' h.symm), if_neg e']
/-- Whether what stands at one place is ahead of what stands at another. -/
def ahdAt (l : List (Ent α)) (i j : Nat) : Bool := match l[i]?, l[j]? with | some a, some b => ahd a b | _, _ => false
theorem ahdAt_eq {l : List (Ent α)} {i j : Nat} {a b : Ent α} (ha : l[i]? = some a) (hb : l[j]? = some b) : ahdAt l i j = ahd a b := by unfold ahdAt; rw [ha, hb]
/-- One rises while it is ahead of the one above. -/
def upL (l : List (Ent α)) (k : Nat) : List (Ent α) :=
 if _h : 0 < k then
  if ahdAt l k ((k - 1) / 2) then upL (swp l k ((k - 1) / 2)) ((k - 1) / 2) else l
 else l
termination_by k
decreasing_by omega
theorem upL_zero (l : List (Ent α)) : upL l 0 = l := by rw [upL]; simp
theorem upL_stop {l : List (Ent α)} {k : Nat} {a b : Ent α} (ha : l[k]? = some a) (hb : l[(k - 1) / 2]? = some b) (h : ahd a b = false) : upL l k = l := by rw [upL, ahdAt_eq ha hb]; simp [h]
theorem upL_step {l : List (Ent α)} {k : Nat} {a b : Ent α} (hk : 0 < k) (ha : l[k]? = some a) (hb : l[(k - 1) / 2]? = some b) (h : ahd a b = true) : upL l k = upL (swp l k ((k - 1) / 2)) ((k - 1) / 2) := by
 rw [upL, ahdAt_eq ha hb]; simp [h, hk]
/-- Nobody is ahead of the one above. -/
def IsHeap (l : List (Ent α)) : Prop := ∀ i a b, 0 < i → l[i]? = some a → l[(i - 1) / 2]? = some b → ahd a b = false
/-- A heap but for place k, which may be ahead of the one above. -/
structure ButUp (l : List (Ent α)) (k : Nat) : Prop where
 one : ∀ i a b, 0 < i → i ≠ k → l[i]? = some a → l[(i - 1) / 2]? = some b → ahd a b = false
 two : ∀ i a b, 0 < k → 0 < i → (i - 1) / 2 = k → l[i]? = some a → l[(k - 1) / 2]? = some b → ahd a b = false
theorem up_heap : ∀ (k : Nat) (l : List (Ent α)), k < l.length → ButUp l k → IsHeap (upL l k) := by
 intro k
 induction k using Nat.strongRecOn with
 | _ k ih =>
   intro l hk h
   rcases Nat.eq_zero_or_pos k with rfl | hpos
   · rw [upL_zero]
     intro i a b hi ha hb
     exact h.one i a b hi (by omega) ha hb
   · have hp : (k - 1) / 2 < k := by omega
     generalize hpe : (k - 1) / 2 = p at hp
     obtain ⟨a, ha⟩ : ∃ a, l[k]? = some a := ⟨l[k], by simp [hk]⟩
     obtain ⟨b, hb⟩ : ∃ b, l[p]? = some b := ⟨l[p]'(by omega), by simp [show p < l.length by omega]⟩
     cases hab : ahd a b with
     | false =>
       rw [upL_stop ha (by rw [hpe]; exact hb) hab]
       intro i x y hi hx hy
       by_cases e : i = k
       · subst e
         rw [hpe] at hy
         rw [ha] at hx; rw [hb] at hy
         obtain rfl := Option.some.inj hx
         obtain rfl := Option.some.inj hy
         exact hab
       · exact h.one i x y hi e hx hy
     | true =>
       rw [upL_step hpos ha (by rw [hpe]; exact hb) hab, hpe]
       have hg := swp_get ha hb
       refine ih p hp _ (by rw [swp_length]; omega) ⟨fun i x y hi hip hx hy => ?_, fun i x y hp0 hi0 hpi hx hy => ?_⟩
       · rw [hg] at hx hy
         rw [if_neg hip] at hx
         by_cases e : i = k
         · subst e
           rw [if_pos rfl] at hx
           rw [hpe, if_pos rfl] at hy
           obtain rfl := Option.some.inj hx
           obtain rfl := Option.some.inj hy
           exact ahd_asymm hab
         · rw [if_neg e] at hx
           by_cases e2 : (i - 1) / 2 = p
           · rw [if_pos e2] at hy
             obtain rfl := Option.some.inj hy
             have h1 := h.one i x b hi e hx (by rw [e2]; exact hb)
             exact le_trans' (ahd_asymm hab) h1
           · rw [if_neg e2] at hy
             by_cases e3 : (i - 1) / 2 = k
             · rw [if_pos e3] at hy
               obtain rfl := Option.some.inj hy
               exact h.two i x b hpos hi e3 hx (by rw [hpe]; exact hb)
             · rw [if_neg e3] at hy
               exact h.one i x y hi e hx hy
       · rw [hg] at hx hy
         rw [if_neg (by omega), if_neg (by omega)] at hy
         rw [if_neg (by omega)] at hx
         have h1 := h.one p b y hp0 (by omega) hb hy
         by_cases e : i = k
         · rw [if_pos e] at hx
           obtain rfl := Option.some.inj hx
           exact h1
         · rw [if_neg e] at hx
           exact le_trans' h1 (h.one i x b hi0 e hx (by rw [hpi]; exact hb))
theorem up_perm : ∀ (k : Nat) (l : List (Ent α)), (upL l k).Perm l := by
 intro k
 induction k using Nat.strongRecOn with
 | _ k ih =>
   intro l
   rw [upL]
   split
   · split
     · exact (ih ((k - 1) / 2) (by omega) (swp l k ((k - 1) / 2))).trans (swp_perm _ _ _)
     · exact List.Perm.refl _
   · exact List.Perm.refl _
/-- The lesser child of a place, where there is one. -/
def kid (l : List (Ent α)) (k : Nat) : Nat := match l[2 * k + 2]?, l[2 * k + 1]? with
 | some b, some a => if ahd b a then 2 * k + 2 else 2 * k + 1
 | _, _ => 2 * k + 1
theorem kid_or (l : List (Ent α)) (k : Nat) : kid l k = 2 * k + 1 ∨ (kid l k = 2 * k + 2 ∧ 2 * k + 2 < l.length) := by
 unfold kid
 split
 · rename_i b a hb ha
   have := get_lt hb
   split <;> omega
 · exact .inl rfl
/-- One falls while the lesser one below is ahead of it. -/
def dnL (l : List (Ent α)) (k : Nat) : List (Ent α) :=
 if _h : 2 * k + 1 < l.length then
  if ahdAt l (kid l k) k then dnL (swp l k (kid l k)) (kid l k) else l
 else l
termination_by l.length - k
decreasing_by
 have := kid_or l k
 rw [swp_length]
 omega
theorem dnL_none {l : List (Ent α)} {k : Nat} (h : l.length ≤ 2 * k + 1) : dnL l k = l := by rw [dnL, dif_neg (by omega)]
theorem dnL_stop {l : List (Ent α)} {k c : Nat} {a b : Ent α} (hc : kid l k = c) (ha : l[c]? = some a) (hb : l[k]? = some b) (h : ahd a b = false) : dnL l k = l := by
 rw [dnL]; split
 · rw [hc, ahdAt_eq ha hb]; simp [h]
 · rfl
theorem dnL_step {l : List (Ent α)} {k c : Nat} {a b : Ent α} (hk : 2 * k + 1 < l.length) (hc : kid l k = c) (ha : l[c]? = some a) (hb : l[k]? = some b) (h : ahd a b = true) : dnL l k = dnL (swp l k c) c := by
 rw [dnL, dif_pos hk, hc, ahdAt_eq ha hb]; simp [h]
/-- A heap but for place k, which may be behind those below. -/
structure ButDown (l : List (Ent α)) (k : Nat) : Prop where
 one : ∀ i a b, 0 < i → (i - 1) / 2 ≠ k → l[i]? = some a → l[(i - 1) / 2]? = some b → ahd a b = false
 two : ∀ i a b, 0 < k → 0 < i → (i - 1) / 2 = k → l[i]? = some a → l[(k - 1) / 2]? = some b → ahd a b = false
/-- The lesser child is ahead of none, and none of both is ahead of it. -/
theorem kid_min {l : List (Ent α)} {k : Nat} {b : Ent α} (hb : l[kid l k]? = some b) (i : Nat) (x : Ent α) (hi : 0 < i) (hp : (i - 1) / 2 = k) (hx : l[i]? = some x) : ahd x b = false := by
 have hi2 : i = 2 * k + 1 ∨ i = 2 * k + 2 := by omega
 unfold kid at hb
 split at hb
 · rename_i d c hd hc
   split at hb
   · rename_i h
     rw [hd] at hb
     obtain rfl := Option.some.inj hb
     rcases hi2 with rfl | rfl
     · rw [hc] at hx; obtain rfl := Option.some.inj hx; exact ahd_asymm h
     · rw [hd] at hx; obtain rfl := Option.some.inj hx; exact ahd_self _
   · rename_i h
     rw [hc] at hb
     obtain rfl := Option.some.inj hb
     rcases hi2 with rfl | rfl
     · rw [hc] at hx; obtain rfl := Option.some.inj hx; exact ahd_self _
     · rw [hd] at hx; obtain rfl := Option.some.inj hx; simpa using h
 · rename_i h
   rcases hi2 with rfl | rfl
   · rw [hb] at hx; obtain rfl := Option.some.inj hx; exact ahd_self _
   · exact (h _ _ hx hb).elim
theorem down_heap : ∀ (n k : Nat) (l : List (Ent α)), l.length - k ≤ n → k < l.length → ButDown l k → IsHeap (dnL l k) := by
 intro n
 induction n with
 | zero => intro k l hn hk; omega
 | succ n ih =>
   intro k l hn hk h
   rcases Nat.lt_or_ge (2 * k + 1) l.length with hlt | hge
   · have hko := kid_or l k
     have hkl : kid l k < l.length := by omega
     obtain ⟨b, hb⟩ : ∃ b, l[kid l k]? = some b := ⟨l[kid l k], by simp [hkl]⟩
     obtain ⟨a, ha⟩ : ∃ a, l[k]? = some a := ⟨l[k], by simp [hk]⟩
     have hmin := fun i x h1 h2 h3 => kid_min hb i x h1 h2 h3
     generalize hc : kid l k = c at *
     have hcp : (c - 1) / 2 = k := by omega
     cases hab : ahd b a with
     | false =>
       rw [dnL_stop hc hb ha hab]
       intro i x y hi hx hy
       by_cases e : (i - 1) / 2 = k
       · rw [e, ha] at hy
         obtain rfl := Option.some.inj hy
         exact le_trans' hab (hmin i x hi e hx)
       · exact h.one i x y hi e hx hy
     | true =>
       rw [dnL_step hlt hc hb ha hab]
       have hg := swp_get ha hb
       refine ih c _ (by rw [swp_length]; omega) (by rw [swp_length]; omega) ⟨fun i x y hi hip hx hy => ?_, fun i x y hc0 hi0 hpi hx hy => ?_⟩
       · rw [hg] at hx hy
         rw [if_neg hip] at hy
         by_cases e : i = c
         · subst e
           rw [if_pos rfl] at hx
           rw [if_pos hcp] at hy
           obtain rfl := Option.some.inj hx
           obtain rfl := Option.some.inj hy
           exact ahd_asymm hab
         · rw [if_neg e] at hx
           by_cases e2 : i = k
           · subst e2
             rw [if_pos rfl] at hx
             rw [if_neg (by omega)] at hy
             obtain rfl := Option.some.inj hx
             exact h.two c b y hi (by omega) hcp hb hy
           · rw [if_neg e2] at hx
             by_cases e3 : (i - 1) / 2 = k
             · rw [if_pos e3] at hy
               obtain rfl := Option.some.inj hy
               exact hmin i x hi e3 hx
             · rw [if_neg e3] at hy
               exact h.one i x y hi e3 hx hy
       · rw [hg] at hx hy
         rw [if_neg (by omega), if_pos hcp] at hy
         rw [if_neg (by omega), if_neg (by omega)] at hx
         obtain rfl := Option.some.inj hy
         exact h.one i x b hi0 (by omega) hx (by rw [hpi]; exact hb)
   · rw [dnL_none hge]
     intro i x y hi hx hy
     have := get_lt hx
     exact h.one i x y hi (by omega) hx hy
theorem down_perm : ∀ (n k : Nat) (l : List (Ent α)), l.length - k ≤ n → (dnL l k).Perm l := by
 intro n
 induction n with
 | zero => intro k l hn; rw [dnL_none (by omega)]
 | succ n ih =>
   intro k l hn
   rw [dnL]
   split
   · have := kid_or l k
     split
     · exact (ih (kid l k) (swp l k (kid l k)) (by rw [swp_length]; omega)).trans (swp_perm _ _ _)
     · exact List.Perm.refl _
   · exact List.Perm.refl _
/-- The first one of a heap: nobody is ahead of it. -/
theorem heap_least {l : List (Ent α)} {a : Ent α} (h : IsHeap l) (ha : l[0]? = some a) : ∀ x ∈ l, ahd x a = false := by
 have : ∀ (i : Nat) x, l[i]? = some x → ahd x a = false := by
  intro i
  induction i using Nat.strongRecOn with
  | _ i ih =>
    intro x hx
    rcases Nat.eq_zero_or_pos i with rfl | hi
    · rw [ha] at hx; obtain rfl := Option.some.inj hx; exact ahd_self _
    · obtain ⟨b, hb⟩ : ∃ b, l[(i - 1) / 2]? = some b := ⟨l[(i - 1) / 2]'(by have := get_lt hx; omega), by have := get_lt hx; simp [show (i - 1) / 2 < l.length by omega]⟩
      exact le_trans' (ih _ (by omega) b hb) (h i x b hi hx hb)
 intro x hx
 obtain ⟨i, hi, e⟩ := List.getElem_of_mem hx
 exact this i x (by rw [List.getElem?_eq_getElem hi, e])
/-- What a push leaves, and a pop. -/
def pushL (l : List (Ent α)) (e : Ent α) : List (Ent α) := upL (l ++ [e]) l.length
def lastUp (l : List (Ent α)) : List (Ent α) := match l[l.length - 1]? with
 | none => []
 | some z => (l.set 0 z).dropLast
def popL (l : List (Ent α)) : List (Ent α) := dnL (lastUp l) 0
theorem push_heap {l : List (Ent α)} (h : IsHeap l) (e : Ent α) : IsHeap (pushL l e) := by
 refine up_heap _ _ (by simp) ⟨fun i a b hi hk ha hb => ?_, fun i a b hk hi hp ha hb => ?_⟩
 · have h1 := get_lt ha
   simp at h1
   rw [List.getElem?_append_left (by omega)] at ha hb
   exact h i a b hi ha hb
 · have h1 := get_lt ha
   simp at h1
   omega
theorem push_perm (l : List (Ent α)) (e : Ent α) : (pushL l e).Perm (e :: l) := (up_perm _ _).trans (List.perm_append_singleton _ _)
theorem lastUp_at {l : List (Ent α)} {z : Ent α} (hz : l[l.length - 1]? = some z) : lastUp l = (l.set 0 z).dropLast := by unfold lastUp; rw [hz]
theorem last_some (a : Ent α) (r : List (Ent α)) : ∃ z, (a :: r)[(a :: r).length - 1]? = some z := ⟨_, List.getElem?_eq_getElem (by simp)⟩
theorem lastUp_get {a : Ent α} {r : List (Ent α)} (i : Nat) (hi : 0 < i) (x : Ent α) (hx : (lastUp (a :: r))[i]? = some x) : (a :: r)[i]? = some x := by
 have h1 := get_lt hx
 obtain ⟨z, hz⟩ := last_some a r
 rw [lastUp_at hz] at hx h1
 simp only [List.length_dropLast, List.length_set] at h1
 rw [List.getElem?_dropLast] at hx
 simp only [List.length_set] at hx
 rw [if_pos (by omega), List.getElem?_set, if_neg (by omega)] at hx
 exact hx
theorem lastUp_perm (a : Ent α) (r : List (Ent α)) : (lastUp (a :: r)).Perm r := by
 rcases List.eq_nil_or_concat r with rfl | ⟨m, z, rfl⟩
 · exact List.Perm.refl _
 · rw [List.concat_eq_append]
   have hz : (a :: (m ++ [z]))[(a :: (m ++ [z])).length - 1]? = some z := by simp
   rw [lastUp_at hz, List.set_cons_zero, ← List.cons_append, List.dropLast_concat]
   exact (List.perm_append_singleton z m).symm
theorem pop_heap {l : List (Ent α)} (h : IsHeap l) : IsHeap (popL l) := by
 unfold popL
 cases l with
 | nil => rw [dnL_none (by simp [lastUp])]; exact h
 | cons a r =>
   rcases Nat.eq_zero_or_pos (lastUp (a :: r)).length with h0 | hpos
   · rw [dnL_none (by omega)]
     intro i x y hi hx
     have := get_lt hx
     omega
   · refine down_heap _ 0 _ (Nat.le_refl _) hpos ⟨fun i x y hi hp hx hy => ?_, fun i x y h0 => absurd h0 (Nat.lt_irrefl _)⟩
     exact h i x y hi (lastUp_get i hi x hx) (lastUp_get _ (by omega) y hy)
theorem pop_perm (a : Ent α) (r : List (Ent α)) : (popL (a :: r)).Perm r := (down_perm _ _ _ (Nat.le_refl _)).trans (lastUp_perm a r)
end
end Go.Proofs.YtpgpjjkeginbbaaGreatDoor.Heap
namespace Go.Proofs.YtpgpjjkeginbbaaGreatDoor
open Go.RowKit

theorem setRow_eq (w : World) (g : Nat) (c cur : Array Value) (t : TypeId) (h : Blk w g cur t) : Blk (w.setRow g c) g c t ∧ Upd (fun k => k = g) w (w.setRow g c) := by
 have hb := h.lt
 unfold Blk at h
 refine ⟨?_, rfl, rfl, rfl, by simp [World.setRow], fun k hk hn => ?_⟩
 · unfold Blk
   simp only [World.setRow, Array.getElem?_modify, h]
   simp
 · simp only [World.setRow, Array.getElem?_modify]
   rw [if_neg (fun e => hn e.symm)]

section
variable {P : Program}
theorem ownsRow_nil (w : World) (base : Nat) (e : TypeId) (size : Nat) : w.ownsRow base e size (.slice none 0 0) 0 [] := ⟨by simp, .inl ⟨rfl, rfl⟩⟩
theorem ownsRow_upd {w w' : World} {base : Nat} {e : TypeId} {size : Nat} {v : Value} {n : Nat} {xs : List Value} {S : Nat → Prop} (h : w.ownsRow base e size v n xs) (hu : Upd S w w')
 (hs : ∀ k, v.ownBlock = some k → ¬ S k) : w'.ownsRow base e size v n xs := by
 obtain ⟨h1, h2⟩ := h
 refine ⟨h1, ?_⟩
 rcases h2 with h2 | ⟨g, cap, cur, hv, hg, hb, h3⟩
 · exact .inl h2
 · subst hv
   exact .inr ⟨g, cap, cur, rfl, hg, (hu.block g (Blk.lt hb) (hs g rfl)).trans hb, h3⟩
theorem ownsRow_base {w : World} {base base' : Nat} {e : TypeId} {size : Nat} {v : Value} {n : Nat} {xs : List Value} (h : w.ownsRow base e size v n xs) (hb : base' ≤ base) : w.ownsRow base' e size v n xs := by
 obtain ⟨h1, h2⟩ := h
 refine ⟨h1, ?_⟩
 rcases h2 with h2 | ⟨g, cap, cur, hv, hg, h3⟩
 · exact .inl h2
 · exact .inr ⟨g, cap, cur, hv, by omega, h3⟩

/-- A slice's array is what it was, or new. -/
def OwnOrNew (w : World) (v v' : Value) : Prop := ∀ k, v'.ownBlock = some k → v.ownBlock = some k ∨ w.heap.size ≤ k

theorem run_app (w : World) (base : Nat) (t ty e : TypeId) (i : TypeInfo) (z : Value) (size bytes : Nat) (ht : P.underlying t = some (.slice e)) (hi : P.info? e = some i) (hz : i.zero = some z)
 (hsize : i.size = size) (hby : i.bytes = bytes) (hzs : z.cells.size = size) (hsz : 0 < size)
 (v : Value) (n : Nat) (xs : List Value) (hown : w.ownsRow base e size v n xs)
 (a : Addr) (m c : Nat) (news : List Value) (hl : news.length = m * size) (hnews : ∀ j u, news[j]? = some u → w.cell? (a.add j) = some u) (h1 : ∀ u ∈ news, u.oneCell' = true)
 (h63 : n + m ≤ maxLen) (hbytes : (n + m) * bytes ≤ 140737488355328) (hbase : base ≤ w.heap.size) :
 ∃ v' w', (Builtin.append_ #[t, t] ty #[v, .slice (some a) m c]).run P w = .ok v' w' ∧ w'.ownsRow base e size v' (n + m) (xs ++ news) ∧ w.grownBy w' v.ownBlock ∧
  (v' = .slice none 0 0 ↔ v = .slice none 0 0 ∧ m = 0) ∧ OwnOrNew w v v' := by
 obtain ⟨v', w', hr, h2, h3, h4⟩ := run_append_own (P := P) w base t ty e i z size bytes ht hi hz hsize hby hzs hsz v n xs hown a m c news hl hnews h1 h63 hbytes hbase
 refine ⟨v', w', hr, h2, h3, h4, ?_⟩
 subst hsize
 subst hby
 have hsmall : n + m ≤ 9223372036854775807 := by simp only [maxLen] at h63; omega
 rcases hown.2 with ⟨rfl, rfl⟩ | ⟨g, cap, cur, rfl, hbg, hg, hnc, hcm, hcs, htake⟩
 · have hx : xs = [] := List.eq_nil_of_length_eq_zero (by simpa using hown.1)
   subst hx
   by_cases hm : m = 0
   · have := h4.2 ⟨rfl, hm⟩
     subst this
     intro k hk; cases hk
   · have hr' := run_append_nil (P := P) w t ty e i z ht hi hz a m c news hl hnews (by omega) (by omega) (by have hb := hbytes; simp only [Nat.zero_add] at hb; omega)
     rw [hr] at hr'
     injection hr' with e1 e2
     subst e1
     intro k hk
     have hk' : w.heap.size = k := by simpa [Value.ownBlock] using hk
     exact .inr (by omega)
 · by_cases hroom : n + m ≤ cap
   · have hfit : n * i.size + news.length ≤ cur.size := by rw [hl, hcs, ← Nat.add_mul]; exact Nat.mul_le_mul_right _ hroom
     have hr' := run_append_room (P := P) w t ty e i ht hi g n cap cur hg a m c news hl hnews h1 hroom hfit
     rw [hr] at hr'
     injection hr' with e1 e2
     subst e1
     exact fun k hk => .inl hk
   · have holds : ∀ j u, xs[j]? = some u → w.cell? ((⟨g, 0, none⟩ : Addr).add j) = some u := hown.cells (g := g) rfl
     have hr' := run_append_grow (P := P) w t ty e i z ht hi hz ⟨g, 0, none⟩ n cap xs hown.1 holds a m c news hl hnews (by omega) (by omega) (growslice_fits (by omega) hbytes)
     rw [hr] at hr'
     injection hr' with e1 e2
     subst e1
     intro k hk
     have hk' : w.heap.size = k := by simpa [Value.ownBlock] using hk
     exact .inr (by omega)

/-- Some things more, out of another slice. -/
theorem wpList_app {ops : Array Oper} {rest : List Oper} {o : Oper} {a : Act} {Q : Exit → Act → World → Prop} {w : World} (hgd : o.guard = none) (s x : Operand) (t : TypeId)
 (ho : o.op = .call { callee := .builtin .append, args := #[s, x], argTypes := #[t, t] })
 (base : Nat) (e : TypeId) (i : TypeInfo) (z : Value) (size bytes : Nat) (ht : P.underlying t = some (.slice e)) (hi : P.info? e = some i) (hz : i.zero = some z)
 (hsize : i.size = size) (hby : i.bytes = bytes) (hzs : z.cells.size = size) (hsz : 0 < size) (hbs : bytes ≤ 4096)
 (v : Value) (n : Nat) (xs : List Value) (hs : a.eval s = v) (hown : w.ownsRow base e size v n xs)
 (ad : Option Addr) (m c : Nat) (news : List Value) (hx : a.eval x = .slice ad m c) (hnil : ad = none → m = 0 ∧ c = 0) (hl : news.length = m * size)
 (hnews : ∀ b, ad = some b → ∀ j u, news[j]? = some u → w.cell? (b.add j) = some u) (h1 : ∀ u ∈ news, u.oneCell' = true)
 (hn : n + m ≤ 1000000000) (hbase : base ≤ w.heap.size)
 (h : ∀ v' w', w'.ownsRow base e size v' (n + m) (xs ++ news) → Upd (fun k => v.ownBlock = some k) w w' → OwnOrNew w v v' → wpList P ops Q rest (a.put o.dst v') w') : wpList P ops Q (o :: rest) a w := by
 refine wpList_plain hgd fun K hK => ?_
 have hb : (n + m) * bytes ≤ 140737488355328 := by
  have : (n + m) * bytes ≤ 1000000000 * 4096 := Nat.mul_le_mul (by omega) hbs
  omega
 cases ad with
 | none =>
   obtain ⟨rfl, rfl⟩ := hnil rfl
   have hn0 : news = [] := List.eq_nil_of_length_eq_zero (by simpa using hl)
   subst hn0
   have hr := run_append_owned_none (P := P) (w := w) base t o.type e i size ht hi v n xs hown
   unfold Oper.wp execOp
   simp only [ho, resolve, invoke, builtin, Sem.run_bind, Sem.run_pure, Result.andThen_ok, List.map_toArray, List.map_cons, List.map_nil, hs, hx, hr]
   refine hK _ _ (h v w ?_ (Upd.refl _ _) (fun k hk => .inl hk))
   simpa using hown
 | some ad =>
   obtain ⟨v', w', hr, h2, h3, _, h5⟩ := run_app (P := P) w base t o.type e i z size bytes ht hi hz hsize hby hzs hsz v n xs hown ad m c news hl (hnews ad rfl) h1 (by unfold maxLen; omega) hb hbase
   unfold Oper.wp execOp
   simp only [ho, resolve, invoke, builtin, Sem.run_bind, Sem.run_pure, Result.andThen_ok, List.map_toArray, List.map_cons, List.map_nil, hs, hx, hr]
   exact hK _ _ (h v' w' h2 ((Upd.refl _ w).grown h3 (fun k _ hk => hk)) h5)

/-- One thing more, of whatever size. -/
theorem wpList_push {ops : Array Oper} {rest : List Oper} {o : Oper} {a : Act} {Q : Exit → Act → World → Prop} {w : World} (hgd : o.guard = none) (s x : Operand) (t : TypeId)
 (ho : o.op = .call { callee := .builtin .append, args := #[s, x], argTypes := #[t, t] })
 (base : Nat) (e : TypeId) (i : TypeInfo) (z : Value) (size bytes : Nat) (ht : P.underlying t = some (.slice e)) (hi : P.info? e = some i) (hz : i.zero = some z)
 (hsize : i.size = size) (hby : i.bytes = bytes) (hzs : z.cells.size = size) (hsz : 0 < size) (hbs : bytes ≤ 4096)
 (v : Value) (n : Nat) (xs : List Value) (hs : a.eval s = v) (hown : w.ownsRow base e size v n xs)
 (g c : Nat) (news : List Value) (hx : a.eval x = .slice (some ⟨g, 0, none⟩) 1 c) (hl : news.length = size) (hnews : ∀ j u, news[j]? = some u → w.cell? ⟨g, j, none⟩ = some u) (h1 : ∀ u ∈ news, u.oneCell' = true)
 (hn : n ≤ 999999999) (hbase : base ≤ w.heap.size)
 (h : ∀ v' w', w'.ownsRow base e size v' (n + 1) (xs ++ news) → Upd (fun k => v.ownBlock = some k) w w' → OwnOrNew w v v' → wpList P ops Q rest (a.put o.dst v') w') : wpList P ops Q (o :: rest) a w := by
 refine wpList_app hgd s x t ho base e i z size bytes ht hi hz hsize hby hzs hsz hbs v n xs hs hown (some ⟨g, 0, none⟩) 1 c news hx (fun h => by cases h) (by simpa using hl) (fun b hb j u hu => ?_) h1 (by omega) hbase h
 cases hb
 have e : (⟨g, 0, none⟩ : Addr).add j = ⟨g, j, none⟩ := by rw [add_at, Nat.zero_add]
 rw [e]; exact hnews j u hu
end

/-- The cells of a block that was just made. -/
theorem new_cells (w : World) (c : Array Value) (t : TypeId) : ∀ (j : Nat) (u : Value), c.toList[j]? = some u → (w.alloc (.cells c t)).cell? ⟨w.heap.size, j, none⟩ = some u := fun j u hu => by
 rw [(Blk.new w c t).cell]; simpa using hu

/-- A slice of one-cell things, wherever it lies, that reads as this list. -/
def RowAt (w : World) (v : Value) (vals : List Value) : Prop :=
 ∃ ad c, v = .slice ad vals.length c ∧ (ad = none → vals = [] ∧ c = 0) ∧ ∀ b, ad = some b → ∀ j u, vals[j]? = some u → b.spot = none ∧ w.cell? ⟨b.block, b.off + j, none⟩ = some u

theorem ownsRow_rowAt {w : World} {base : Nat} {e : TypeId} {v : Value} {n : Nat} {xs : List Value} (h : w.ownsRow base e 1 v n xs) : RowAt w v xs := by
 have hn : xs.length = n := by simpa using h.1
 rcases h.2 with ⟨rfl, h0⟩ | ⟨g, cap, cur, rfl, _, _⟩
 · subst h0
   have : xs = [] := List.eq_nil_of_length_eq_zero hn
   subst this
   exact ⟨none, 0, rfl, fun _ => ⟨rfl, rfl⟩, fun b hb => by cases hb⟩
 · refine ⟨some ⟨g, 0, none⟩, cap, by rw [hn], (fun h => by cases h), fun b hb j u hu => ?_⟩
   obtain rfl : (⟨g, 0, none⟩ : Addr) = b := by simpa using hb
   refine ⟨rfl, ?_⟩
   have := h.cells (g := g) rfl j u hu
   have hadd : (⟨g, 0, none⟩ : Addr).add j = ⟨g, 0 + j, none⟩ := add_at _ _ _
   rw [hadd] at this
   exact this
theorem RowAt.nil (w : World) : RowAt w (.slice none 0 0) [] := ⟨none, 0, rfl, fun _ => ⟨rfl, rfl⟩, fun b hb => by cases hb⟩
theorem cell_lt {w : World} {a : Addr} {v : Value} (h : w.cell? a = some v) : a.block < w.heap.size := by
 rcases Nat.lt_or_ge a.block w.heap.size with h' | h'
 · exact h'
 · simp [World.cell?, Array.getElem?_eq_none h'] at h
theorem RowAt.upd {w w' : World} {v : Value} {xs : List Value} {S : Nat → Prop} (h : RowAt w v xs) (hu : Upd S w w') (hs : ∀ k, v.ownBlock = some k → ¬ S k) : RowAt w' v xs := by
 obtain ⟨ad, c, rfl, h1, h2⟩ := h
 refine ⟨ad, c, rfl, h1, fun b hb j u hj => ⟨(h2 b hb j u hj).1, ?_⟩⟩
 have hc := (h2 b hb j u hj).2
 subst hb
 rw [hu.cell _ (cell_lt hc) (hs _ rfl)]
 exact hc
theorem RowAt.old {w w' : World} {v : Value} {xs : List Value} (h : RowAt w v xs) (hu : Upd Nowhere w w') : RowAt w' v xs := h.upd hu (fun _ _ h => h)
theorem cell_old {w wr : World} {v : Value} (hu : Upd Nowhere w wr) {a : Addr} (hc : w.cell? a = some v) : wr.cell? a = some v := by
 rw [World.cell?_of_block (w := w) (hu.block a.block (cell_lt hc) id)]
 exact hc
end Go.Proofs.YtpgpjjkeginbbaaGreatDoor
namespace Go.Proofs.YtpgpjjkeginbbaaGreatDoor
open Go.RowKit
section
variable {P : Program}
theorem step_push {ops : Array Oper} {o : Oper} {a : Act} {K : Act → World → Prop} {Q : Exit → Act → World → Prop} {E : Prop} {w : World} (hgd : o.guard = none) (s x : Operand) (t : TypeId)
 (ho : o.op = .call { callee := .builtin .append, args := #[s, x], argTypes := #[t, t] })
 (base : Nat) (e : TypeId) (i : TypeInfo) (z : Value) (size bytes : Nat) (ht : P.underlying t = some (.slice e)) (hi : P.info? e = some i) (hz : i.zero = some z)
 (hsize : i.size = size) (hby : i.bytes = bytes) (hzs : z.cells.size = size) (hsz : 0 < size) (hbs : bytes ≤ 4096)
 (v : Value) (n : Nat) (xs : List Value) (hs : a.eval s = v) (hown : w.ownsRow base e size v n xs)
 (g c : Nat) (news : List Value) (hx : a.eval x = .slice (some ⟨g, 0, none⟩) 1 c) (hl : news.length = size) (hnews : ∀ j u, news[j]? = some u → w.cell? ⟨g, j, none⟩ = some u) (h1 : ∀ u ∈ news, u.oneCell' = true)
 (hn : n ≤ 999999999) (hbase : base ≤ w.heap.size)
 (h : ∀ v' w', w'.ownsRow base e size v' (n + 1) (xs ++ news) → Upd (fun k => v.ownBlock = some k) w w' → OwnOrNew w v v' → K (a.put o.dst v') w') : if Region.wanted o (yielded ops a.tmps) = true then Oper.wp P o a w K Q else E := by
 have hw : Region.wanted o (yielded ops a.tmps) = true := by simp [Region.wanted, hgd]
 rw [if_pos hw]
 have hb : (n + 1) * bytes ≤ 140737488355328 := by
  have : (n + 1) * bytes ≤ 1000000000 * 4096 := Nat.mul_le_mul (by omega) hbs
  omega
 obtain ⟨v', w', hr, h2, h3, _, h5⟩ := run_app (P := P) w base t o.type e i z size bytes ht hi hz hsize hby hzs hsz v n xs hown ⟨g, 0, none⟩ 1 c news (by simpa using hl) (fun j u hu => by
  have e : (⟨g, 0, none⟩ : Addr).add j = ⟨g, j, none⟩ := by rw [add_at, Nat.zero_add]
  rw [e]; exact hnews j u hu) h1 (by unfold maxLen; omega) hb hbase
 unfold Oper.wp execOp
 simp only [ho, resolve, invoke, builtin, Sem.run_bind, Sem.run_pure, Result.andThen_ok, List.map_toArray, List.map_cons, List.map_nil, hs, hx, hr]
 exact h v' w' h2 ((Upd.refl _ w).grown h3 (fun k _ hk => hk)) h5
end
/-- Two rows that the call made, apart from each other and from block b. -/
structure Two (E : TypeId) (B : Nat) (w wr : World) (b : Nat) (pv gv : Value) (P G : List Value) : Prop where
 upd : Upd (fun k => B ≤ k) w wr
 low : B ≤ w.heap.size
 blt : b < wr.heap.size
 put : wr.ownsRow B E 1 pv P.length P
 got : wr.ownsRow B E 1 gv G.length G
 pb : pv.ownBlock ≠ some b
 gb : gv.ownBlock ≠ some b
 apart : ∀ k, pv.ownBlock = some k → gv.ownBlock ≠ some k
section
variable {E : TypeId} {B : Nat} {w wr w1 : World} {b : Nat} {pv gv : Value} {P G : List Value}
theorem Two.base (h : Two E B w wr b pv gv P G) : B ≤ wr.heap.size := Nat.le_trans h.low h.upd.size
theorem Two.old (h : Two E B w wr b pv gv P G) (hu : Upd Nowhere wr w1) : Two E B w w1 b pv gv P G :=
 ⟨h.upd.trans hu (fun _ _ h => h.elim), h.low, Nat.lt_of_lt_of_le h.blt hu.size, ownsRow_upd h.put hu (fun _ _ h => h), ownsRow_upd h.got hu (fun _ _ h => h), h.pb, h.gb, h.apart⟩
theorem Two.setCell (h : Two E B w wr b pv gv P G) {a : Addr} (ha : B ≤ a.block) (hp : pv.ownBlock ≠ some a.block) (hg : gv.ownBlock ≠ some a.block) (v : Value) : Two E B w (wr.setCell a v) b pv gv P G := by
 have hu : Upd (fun k => k = a.block) wr (wr.setCell a v) := Upd.setCell (S := fun k => k = a.block) (Upd.refl _ _) (fun _ => rfl) v
 exact ⟨h.upd.setCell (fun _ => ha) v, h.low, Nat.lt_of_lt_of_le h.blt hu.size, ownsRow_upd h.put hu (fun k hk e => hp (by rw [hk, e])), ownsRow_upd h.got hu (fun k hk e => hg (by rw [hk, e])), h.pb, h.gb, h.apart⟩
end
end Go.Proofs.YtpgpjjkeginbbaaGreatDoor
namespace Go.Proofs.YtpgpjjkeginbbaaGreatDoor
open Go.RowKit
theorem cells1 {w : World} {g : Nat} {t : TypeId} {a0 : Value} (h : Blk w g #[a0] t) : w.cell? ⟨g, 0, none⟩ = some a0 ∧ w.frozen? ⟨g, 0, none⟩ = false :=
 ⟨h.cellAt rfl, h.free 0⟩
theorem cells2 {w : World} {g : Nat} {t : TypeId} {a0 a1 : Value} (h : Blk w g #[a0, a1] t) : w.cell? ⟨g, 0, none⟩ = some a0 ∧ w.cell? ⟨g, 1, none⟩ = some a1 ∧ w.frozen? ⟨g, 0, none⟩ = false ∧ w.frozen? ⟨g, 1, none⟩ = false :=
 ⟨h.cellAt rfl, h.cellAt rfl, h.free 0, h.free 1⟩
theorem cells3 {w : World} {g : Nat} {t : TypeId} {a0 a1 a2 : Value} (h : Blk w g #[a0, a1, a2] t) : w.cell? ⟨g, 0, none⟩ = some a0 ∧ w.cell? ⟨g, 1, none⟩ = some a1 ∧ w.cell? ⟨g, 2, none⟩ = some a2 ∧ w.frozen? ⟨g, 0, none⟩ = false ∧ w.frozen? ⟨g, 1, none⟩ = false ∧ w.frozen? ⟨g, 2, none⟩ = false :=
 ⟨h.cellAt rfl, h.cellAt rfl, h.cellAt rfl, h.free 0, h.free 1, h.free 2⟩
theorem cells4 {w : World} {g : Nat} {t : TypeId} {a0 a1 a2 a3 : Value} (h : Blk w g #[a0, a1, a2, a3] t) : w.cell? ⟨g, 0, none⟩ = some a0 ∧ w.cell? ⟨g, 1, none⟩ = some a1 ∧ w.cell? ⟨g, 2, none⟩ = some a2 ∧ w.cell? ⟨g, 3, none⟩ = some a3 ∧ w.frozen? ⟨g, 0, none⟩ = false ∧ w.frozen? ⟨g, 1, none⟩ = false ∧ w.frozen? ⟨g, 2, none⟩ = false ∧ w.frozen? ⟨g, 3, none⟩ = false :=
 ⟨h.cellAt rfl, h.cellAt rfl, h.cellAt rfl, h.cellAt rfl, h.free 0, h.free 1, h.free 2, h.free 3⟩
theorem cells5 {w : World} {g : Nat} {t : TypeId} {a0 a1 a2 a3 a4 : Value} (h : Blk w g #[a0, a1, a2, a3, a4] t) : w.cell? ⟨g, 0, none⟩ = some a0 ∧ w.cell? ⟨g, 1, none⟩ = some a1 ∧ w.cell? ⟨g, 2, none⟩ = some a2 ∧ w.cell? ⟨g, 3, none⟩ = some a3 ∧ w.cell? ⟨g, 4, none⟩ = some a4 ∧ w.frozen? ⟨g, 0, none⟩ = false ∧ w.frozen? ⟨g, 1, none⟩ = false ∧ w.frozen? ⟨g, 2, none⟩ = false ∧ w.frozen? ⟨g, 3, none⟩ = false ∧ w.frozen? ⟨g, 4, none⟩ = false :=
 ⟨h.cellAt rfl, h.cellAt rfl, h.cellAt rfl, h.cellAt rfl, h.cellAt rfl, h.free 0, h.free 1, h.free 2, h.free 3, h.free 4⟩
theorem Blk.new2 (w : World) (o : Obj) (c : Array Value) (t : TypeId) : Blk ((w.alloc o).alloc (.cells c t)) (w.heap.size + 1) c t := by
 have := Blk.new (w.alloc o) c t
 simpa using this
/-- A struct of 3 cells, stored whole. -/
theorem Blk.put3 {w : World} {b : Nat} {t : TypeId} {a0 a1 a2 : Value} (h : Blk w b #[a0, a1, a2] t) (v0 v1 v2 : Value) : Blk (((w.setCell ⟨b, 0, none⟩ v0).setCell ⟨b, 1, none⟩ v1).setCell ⟨b, 2, none⟩ v2) b #[v0, v1, v2] t := by
 have e := (((h.set 0 v0).set 1 v1).set 2 v2)
 simpa using e
end Go.Proofs.YtpgpjjkeginbbaaGreatDoor
namespace Go.Proofs.YtpgpjjkeginbbaaGreatDoor.HeapW
open Go.RowKit
open Heap (Ent swp swp_eq get_lt)
section
variable {α : Type} {K : α → List Value} {W : Nat}
/-- An entry's cells. -/
def ent (K : α → List Value) (e : Ent α) : List Value := .int .u64 e.1 :: .int .u64 e.2.1 :: K e.2.2
/-- The cells of entries. -/
def ents (K : α → List Value) : List (Ent α) → List Value
 | [] => []
 | e :: r => ent K e ++ ents K r
/-- Cells written one behind the other. -/
def setL : List Value → Nat → List Value → List Value
 | l, _, [] => l
 | l, o, v :: r => setL (l.set o v) (o + 1) r
def putL : World → Nat → Nat → List Value → World
 | w, _, _, [] => w
 | w, g, o, v :: r => putL (w.setCell ⟨g, o, none⟩ v) g (o + 1) r
theorem setL_length : ∀ (vs l : List Value) (o : Nat), (setL l o vs).length = l.length
 | [], _, _ => rfl
 | v :: r, l, o => by unfold setL; rw [setL_length r, List.length_set]
theorem setL_left : ∀ (vs l m : List Value) (o : Nat), o + vs.length ≤ l.length → setL (l ++ m) o vs = setL l o vs ++ m
 | [], _, _, _, _ => rfl
 | v :: r, l, m, o, h => by
   simp at h
   unfold setL
   rw [List.set_append_left _ _ (by omega), setL_left r _ _ _ (by simp; omega)]
theorem setL_right : ∀ (vs l m : List Value) (o : Nat), setL (l ++ m) (l.length + o) vs = l ++ setL m o vs
 | [], _, _, _ => rfl
 | v :: r, l, m, o => by
   unfold setL
   rw [List.set_append_right _ _ (by omega), show l.length + o - l.length = o by omega, show l.length + o + 1 = l.length + (o + 1) by omega, setL_right r]
theorem setL_cons (a : Value) (vs l : List Value) (o : Nat) : setL (a :: l) (o + 1) vs = a :: setL l o vs := by
 have h := setL_right vs [a] l o
 simp only [List.length_singleton] at h
 rw [Nat.add_comm 1 o] at h
 exact h
theorem setL_all : ∀ (vs l : List Value), l.length = vs.length → setL l 0 vs = vs
 | [], l, h => List.length_eq_zero_iff.1 h
 | v :: r, [], h => by simp at h
 | v :: r, a :: l, h => by
   show setL (v :: l) (0 + 1) r = v :: r
   rw [setL_cons v r l 0, setL_all r l (by simpa using h)]
theorem setL_take : ∀ (vs l : List Value) (o n : Nat), (setL l o vs).take n = setL (l.take n) o vs
 | [], _, _, _ => rfl
 | v :: r, l, o, n => by unfold setL; rw [setL_take r, List.take_set]
theorem ent_length (hK : ∀ x, (K x).length + 2 = W) (e : Ent α) : (ent K e).length = W := by have := hK e.2.2; simp [ent]; omega
theorem ents_length (hK : ∀ x, (K x).length + 2 = W) (l : List (Ent α)) : (ents K l).length = l.length * W := by
 induction l with
 | nil => simp [ents]
 | cons e r ih => unfold ents; rw [List.length_append, ih, ent_length hK, List.length_cons, Nat.add_mul, Nat.one_mul, Nat.add_comm]
theorem ents_append (l m : List (Ent α)) : ents K (l ++ m) = ents K l ++ ents K m := by
 induction l with
 | nil => rfl
 | cons e r ih => simp only [List.cons_append, ents, ih, List.append_assoc]
theorem ents_one (e : Ent α) : ents K [e] = ent K e := by simp [ents]
theorem ents_at (hK : ∀ x, (K x).length + 2 = W) : ∀ (l : List (Ent α)) (i : Nat) (e : Ent α), l[i]? = some e → ∀ j, j < W → (ents K l)[i * W + j]? = (ent K e)[j]?
 | [], _, _, h => by cases h
 | a :: r, 0, e, h => fun j hj => by
   obtain rfl := Option.some.inj h
   unfold ents
   rw [Nat.zero_mul, Nat.zero_add, List.getElem?_append_left (by rw [ent_length hK]; exact hj)]
 | a :: r, i + 1, e, h => fun j hj => by
   unfold ents
   have e1 : (i + 1) * W + j = W + (i * W + j) := by rw [Nat.add_mul, Nat.one_mul]; omega
   rw [e1, List.getElem?_append_right (by rw [ent_length hK]; omega), ent_length hK, show W + (i * W + j) - W = i * W + j by omega]
   exact ents_at hK r i e (by simpa using h) j hj
theorem ents_set (hK : ∀ x, (K x).length + 2 = W) : ∀ (l : List (Ent α)) (i : Nat) (e : Ent α), i < l.length → ents K (l.set i e) = setL (ents K l) (i * W) (ent K e)
 | [], _, _, h => by simp at h
 | a :: r, 0, e, _ => by
   show ent K e ++ ents K r = setL (ent K a ++ ents K r) (0 * W) (ent K e)
   rw [Nat.zero_mul, setL_left _ _ _ _ (by rw [ent_length hK, ent_length hK]; omega), setL_all _ _ (by rw [ent_length hK, ent_length hK])]
 | a :: r, i + 1, e, h => by
   show ent K a ++ ents K (r.set i e) = setL (ent K a ++ ents K r) ((i + 1) * W) (ent K e)
   have e1 : (i + 1) * W = (ent K a).length + i * W := by rw [ent_length hK, Nat.add_mul, Nat.one_mul, Nat.add_comm]
   rw [e1, setL_right, ents_set hK r i e (by simpa using h)]
theorem ents_take (hK : ∀ x, (K x).length + 2 = W) : ∀ (l : List (Ent α)) (n : Nat), ents K (l.take n) = (ents K l).take (n * W)
 | [], n => by simp [ents]
 | a :: r, 0 => by simp [ents]
 | a :: r, n + 1 => by
   show ent K a ++ ents K (r.take n) = (ent K a ++ ents K r).take ((n + 1) * W)
   have e1 : (n + 1) * W = (ent K a).length + n * W := by rw [ent_length hK, Nat.add_mul, Nat.one_mul, Nat.add_comm]
   rw [e1, List.take_length_add_append, ents_take hK r n]
end
/-- Writes to one block alone. -/
theorem putL_upd : ∀ (vs : List Value) {S : Nat → Prop} {w w' : World} {g o : Nat}, Upd S w w' → (g < w.heap.size → S g) → Upd S w (putL w' g o vs)
 | [], _, _, _, _, _, h, _ => h
 | v :: r, _, _, _, g, o, h, hg => putL_upd r (h.setCell (a := ⟨g, o, none⟩) hg v) hg
theorem putL_blk : ∀ (vs : List Value) {w : World} {g o : Nat} {cur : Array Value} {t : TypeId}, Blk w g cur t → ∃ cur', Blk (putL w g o vs) g cur' t ∧ cur'.size = cur.size ∧ cur'.toList = setL cur.toList o vs
 | [], _, _, _, cur, _, h => ⟨cur, h, rfl, rfl⟩
 | v :: r, _, _, o, cur, _, h => by
   obtain ⟨cur', h1, h2, h3⟩ := putL_blk r (o := o + 1) (h.set o v)
   exact ⟨cur', h1, by simpa using h2, by rw [h3, Array.toList_setIfInBounds]; rfl⟩
/-- Entries in a row of their own. -/
abbrev Row {α : Type} (K : α → List Value) (W : Nat) (E : TypeId) (w : World) (v : Value) (l : List (Ent α)) : Prop := w.ownsRow 0 E W v l.length (ents K l)
section
variable {α : Type} {K : α → List Value} {W : Nat} {E : TypeId} {w w' : World} {v : Value} {l : List (Ent α)}
theorem Row.form (h : Row K W E w v l) : ∃ ad c, v = .slice ad l.length c := by
 rcases h.2 with ⟨rfl, h0⟩ | ⟨g, c, cur, rfl, _⟩
 · exact ⟨none, 0, by rw [h0]⟩
 · exact ⟨_, c, rfl⟩
theorem Row.arr (h : Row K W E w v l) (hl : 0 < l.length) : ∃ g c, v = .slice (Option.some ⟨g, 0, none⟩) l.length c ∧ l.length ≤ c ∧ c ≤ maxLen := by
 rcases h.2 with ⟨rfl, h0⟩ | ⟨g, c, cur, rfl, _, _, h1, h2, _⟩
 · omega
 · exact ⟨g, c, rfl, h1, h2⟩
theorem Row.cell (hK : ∀ x, (K x).length + 2 = W) {g c : Nat} (h : Row K W E w (.slice (some ⟨g, 0, none⟩) l.length c) l) {i : Nat} {e : Ent α} (he : l[i]? = some e) {j : Nat} {u : Value} (hu : (ent K e)[j]? = some u) :
 w.cell? ⟨g, i * W + j, none⟩ = some u ∧ w.frozen? ⟨g, i * W + j, none⟩ = false := by
 obtain ⟨cur, hb, _, _, _, ht⟩ := Blk.own h
 have hj : j < W := by
  rw [← ent_length hK e]
  rcases Nat.lt_or_ge j (ent K e).length with h' | h'
  · exact h'
  · rw [List.getElem?_eq_none h'] at hu; cases hu
 have hi := get_lt he
 have e1 := ents_at hK l i e he j hj
 have hlt : i * W + j < l.length * W := by
  have : (i + 1) * W ≤ l.length * W := Nat.mul_le_mul_right _ hi
  rw [Nat.add_mul, Nat.one_mul] at this
  omega
 rw [← ht, List.getElem?_take_of_lt hlt, hu] at e1
 exact ⟨hb.cellAt (by simpa using e1), hb.free _⟩
theorem Row.set (hK : ∀ x, (K x).length + 2 = W) {g c : Nat} (h : Row K W E w (.slice (some ⟨g, 0, none⟩) l.length c) l) {i : Nat} (hi : i < l.length) (e : Ent α) :
 Row K W E (putL w g (i * W) (ent K e)) (.slice (some ⟨g, 0, none⟩) (l.set i e).length c) (l.set i e) := by
 rcases h.2 with ⟨h0, _⟩ | ⟨g', c', cur, he, hb, hB, h1, h2, h3, h4⟩
 · cases h0
 · cases he
   obtain ⟨cur', b1, b2, b3⟩ := putL_blk (ent K e) (o := i * W) (show Blk w g cur E from hB)
   refine ⟨by rw [ents_length hK], .inr ⟨g, c, cur', rfl, hb, b1, by simpa using h1, h2, by rw [b2]; exact h3, ?_⟩⟩
   rw [ents_set hK l i e hi, b3, setL_take, List.length_set, h4]
/-- The front of a row. -/
theorem Row.take (hK : ∀ x, (K x).length + 2 = W) {g c : Nat} (h : Row K W E w (.slice (some ⟨g, 0, none⟩) l.length c) l) (n : Nat) (hn : n ≤ l.length) : Row K W E w (.slice (some ⟨g, 0, none⟩) n c) (l.take n) := by
 rcases h.2 with ⟨h0, _⟩ | ⟨g', c', cur, he, hb, hB, h1, h2, h3, h4⟩
 · cases h0
 · cases he
   refine ⟨by rw [ents_length hK], .inr ⟨g, c, cur, by rw [List.length_take, Nat.min_eq_left hn], hb, hB, by rw [List.length_take]; omega, h2, h3, ?_⟩⟩
   rw [ents_take hK, ← h4, List.take_take, List.length_take, Nat.min_eq_left hn, Nat.min_eq_left (Nat.mul_le_mul_right _ hn)]
end
/-- A heap at block b: its entries are the slice v. -/
structure HeapIn {α : Type} (K : α → List Value) (W : Nat) (T E : TypeId) (w : World) (b : Nat) (v : Value) (came room : Nat) (l : List (Ent α)) : Prop where
 wid : ∀ x, (K x).length + 2 = W
 blk : Blk w b #[v, .int .u64 came, .int .i64 room] T
 row : Row K W E w v l
 le : l.length ≤ room
 r1 : 1 ≤ room
 r2 : room ≤ 4096
 off : v.ownBlock ≠ some b
/-- The blocks of a heap. -/
def HeapOf (b : Nat) (v : Value) : Nat → Prop := fun k => k = b ∨ v.ownBlock = some k
section
variable {α : Type} {K : α → List Value} {W : Nat} {T E : TypeId} {w w' : World} {b : Nat} {v : Value} {came room : Nat} {l : List (Ent α)}
theorem HeapIn.lts (h : HeapIn K W T E w b v came room l) {k : Nat} (hk : HeapOf b v k) : k < w.heap.size := by
 rcases hk with rfl | hk
 · exact h.blk.lt
 · exact (h.row.lt k hk).2
theorem HeapIn.kept (h : HeapIn K W T E w b v came room l) {S : Nat → Prop} (hu : Upd S w w') (hs : ∀ k, HeapOf b v k → ¬ S k) : HeapIn K W T E w' b v came room l :=
 { h with blk := h.blk.kept hu (hs b (.inl rfl)), row := ownsRow_upd h.row hu (fun k hk => hs k (.inr hk)) }
theorem HeapIn.old (h : HeapIn K W T E w b v came room l) (hu : Upd Nowhere w w') : HeapIn K W T E w' b v came room l := h.kept hu (fun _ _ h => h)
theorem HeapIn.len {g : Option Addr} {n c : Nat} (h : HeapIn K W T E w b (.slice g n c) came room l) : n = l.length := by
 rcases h.row.2 with ⟨h0, h1⟩ | ⟨g', c', cur, he, _⟩
 · cases h0; omega
 · cases he; rfl
theorem HeapIn.at {g n c : Nat} (h : HeapIn K W T E w b (.slice (some ⟨g, 0, none⟩) n c) came room l) {i : Nat} {e : Ent α} (he : l[i]? = some e) {j : Nat} {u : Value} (hu : (ent K e)[j]? = some u) :
 w.cell? ⟨g, i * W + j, none⟩ = some u ∧ w.frozen? ⟨g, i * W + j, none⟩ = false := by
 obtain rfl := h.len
 exact Row.cell h.wid h.row he hu
/-- An entry, written. -/
theorem HeapIn.setN {g n c : Nat} (h : HeapIn K W T E w b (.slice (some ⟨g, 0, none⟩) n c) came room l) {i : Nat} (hi : i < l.length) (e : Ent α) :
 HeapIn K W T E (putL w g (i * W) (ent K e)) b (.slice (some ⟨g, 0, none⟩) n c) came room (l.set i e) := by
 obtain rfl := h.len
 have hgb : b ≠ g := fun e => h.off (by rw [e]; rfl)
 have hu : Upd (fun k => k = g) w (putL w g (i * W) (ent K e)) := putL_upd _ (Upd.refl _ _) (fun _ => rfl)
 exact { h with blk := h.blk.kept hu hgb, row := by have hr := Row.set h.wid h.row hi e; unfold Row at hr; rw [List.length_set] at hr; unfold Row; rw [List.length_set]; exact hr, le := by rw [List.length_set]; exact h.le }
/-- The slice, written. -/
theorem HeapIn.row' {v' : Value} {l' : List (Ent α)} (h : HeapIn K W T E w b v came room l) (hr : Row K W E w v' l') (hl : l'.length ≤ room) (ho : v'.ownBlock ≠ some b) : HeapIn K W T E (w.setCell ⟨b, 0, none⟩ v') b v' came room l' := by
 have hu : Upd (fun k => k = b) w (w.setCell ⟨b, 0, none⟩ v') := Upd.setCell (S := fun k => k = b) (Upd.refl _ _) (fun _ => rfl) _
 exact { h with blk := by simpa using h.blk.set 0 v', row := ownsRow_upd hr hu (fun k hk e => ho (by rw [hk, e])), le := hl, off := ho }
/-- The slice cut to its front. -/
theorem HeapIn.cut {g n c : Nat} (h : HeapIn K W T E w b (.slice (some ⟨g, 0, none⟩) n c) came room l) (m : Nat) (hm : m ≤ n) : HeapIn K W T E (w.setCell ⟨b, 0, none⟩ (.slice (some ⟨g, 0, none⟩) m c)) b (.slice (some ⟨g, 0, none⟩) m c) came room (l.take m) := by
 obtain rfl := h.len
 exact h.row' (Row.take h.wid h.row m hm) (by have := h.le; simp; omega) h.off
end
end Go.Proofs.YtpgpjjkeginbbaaGreatDoor.HeapW
namespace Go.Proofs.YtpgpjjkeginbbaaGreatDoor
open Go

theorem quiet_more_same {P : Program} {f : FuncId} {args : Array Value} {w : World} {a n : Nat} {v : Value}
 (h : Calls P f args (w.drewN (a + n)) fun e w' => e = .returned v ∧ w.drewN (a + n) = w') : Calls P f args (w.drewN (a + n)) fun e w'' => e = .returned v ∧ ∃ m, w'' = w.drewN (a + m) :=
 h.mono fun _ _ ⟨he, hm⟩ => ⟨he, n, hm.symm⟩
theorem quiet_same {P : Program} {f : FuncId} {args : Array Value} {w : World} {n : Nat} {v : Value}
 (h : Calls P f args (w.drewN n) fun e w' => e = .returned v ∧ w.drewN n = w') : Calls P f args (w.drewN n) fun e w'' => e = .returned v ∧ ∃ m, w'' = w.drewN m :=
 h.mono fun _ _ ⟨he, hm⟩ => ⟨he, n, hm.symm⟩

/-- The world after some draws. -/
def After (w : World) : World → Prop := fun w' => ∃ n, w' = w.drewN n
theorem After.self (w : World) : After w w := ⟨0, rfl⟩

/-- Behind a stage: the next one; no way out by a panic. -/
def Stage (K : Act → World → Prop) (Q : Exit → Act → World → Prop) : Exit → Act → World → Prop
 | .normal, a, w => K a w
 | .panic _, _, _ => False
 | e, a, w => Q e a w

def picked (ops : Array Oper) (l : List Nat) : List Oper := l.filterMap (ops[·]?)

def wpStages (P : Program) (ops : Array Oper) (Q : Exit → Act → World → Prop) : List (List Nat × List Nat) → Act → World → Prop
 | [], a, w => Q .normal a w
 | s :: r, a, w => wpQuiet P ops (fun w' => ∃ n, w' = w.drewN n) (fun a' => ∀ w', (∃ n, w' = w.drewN n) → wpList P ops (Stage (wpStages P ops Q r) Q) (picked ops s.2) a' w') (picked ops s.1) a

/-- Whether j cannot come up before i. -/
def needs (md : Region.Mode) (ops : Array Oper) : Nat → Nat → Nat → Bool
 | 0, _, _ => false
 | n + 1, j, i => match ops[j]? with
   | some oj => oj.after.any fun e => Region.binds md e && (e.on == i || needs md ops n e.on i)
   | none => false

def isMove (o : Oper) : Bool := match o.op with | .move _ => true | _ => false

/-- The static look at one quiet operation. -/
def quietOk (ops : Array Oper) (effs : List Nat) (listed : Array Bool) (i : Nat) : Bool :=
 (Region.ready .any ops listed).contains i && !effs.contains i && Region.free .any ops listed i &&
  (((ops[i]?).map isMove).getD false || effs.all fun j => listed.getD j true || needs .any ops ops.size j i)

def headOk (ops : Array Oper) (effs : List Nat) : List Nat → Array Bool → Option (Array Bool)
 | [], listed => some listed
 | i :: r, listed => if quietOk ops effs listed i then headOk ops effs r (listed.setIfInBounds i true) else none

def tailOk (ops : Array Oper) : List Nat → Array Bool → Option (Array Bool)
 | [], listed => some listed
 | i :: r, listed => if Region.ready .any ops listed = [i] then tailOk ops r (listed.setIfInBounds i true) else none

def stagesOk (ops : Array Oper) (effs : List Nat) : List (List Nat × List Nat) → Array Bool → Bool
 | [], listed => (Region.ready .any ops listed).isEmpty
 | s :: r, listed => match headOk ops effs s.1 listed with
   | none => false
   | some l1 => s.2.all effs.contains && match tailOk ops s.2 l1 with
     | none => false
     | some l2 => stagesOk ops effs r l2

def mixB (ops : Array Oper) (ss : List (List Nat × List Nat)) : Bool :=
 Region.noSelect ops && stagesOk ops (ss.flatMap (·.2)) ss (Array.replicate ops.size false)

section
variable {P : Program} {ops : Array Oper} {Q : Exit → Act → World → Prop} {effs : List Nat}

/-- The very world, or the world after some draws. -/
def Kind (e : Bool) (w : World) : World → Prop := fun w' => if e then w' = w else After w w'
theorem Kind.after {e : Bool} {w w' : World} (h : Kind e w w') : After w w' := by
 cases e
 · exact h
 · have : w' = w := h
   subst this; exact After.self _
theorem Kind.self (e : Bool) (w : World) : Kind e w w := by
 cases e
 · exact After.self w
 · exact (rfl : w = w)
/-- A move leaves the very world. -/
def flagAt (ops : Array Oper) (i : Nat) (e : Bool) : Bool := ((ops[i]?).map isMove).getD true && e
theorem flagAt_comm (ops : Array Oper) (i j : Nat) (e : Bool) : flagAt ops i (flagAt ops j e) = flagAt ops j (flagAt ops i e) := by
 unfold flagAt; rw [← Bool.and_assoc, ← Bool.and_assoc, Bool.and_comm (((ops[i]?).map isMove).getD true)]

def NoFall (Q : Exit → Act → World → Prop) : Exit → Act → World → Prop
 | .panic _, _, _ => False
 | e, a, w => Q e a w

/-- Whatever order is picked from here on: the quiet ones seen in the world after some draws. -/
def wpAnyX (P : Program) (ops : Array Oper) (Q : Exit → Act → World → Prop) (effs : List Nat) : Nat → Array Bool → Act → World → Bool → Prop
 | 0, listed, a, w, e => Region.ready .any ops listed = [] ∧ ∀ w', Kind e w w' → Q .normal a w'
 | fuel + 1, listed, a, w, e => (Region.ready .any ops listed = [] → ∀ w', Kind e w w' → Q .normal a w') ∧
   ∀ i ∈ Region.ready .any ops listed,
    (i ∈ effs → ∀ w', Kind e w w' → wpOp P ops (NoFall Q) i (fun a' w'' => wpAnyX P ops Q effs fuel (listed.setIfInBounds i true) a' w'' true) a w') ∧
    (i ∉ effs → qOp P ops (After w) i (fun a' => wpAnyX P ops Q effs fuel (listed.setIfInBounds i true) a' w (flagAt ops i e)) a)

theorem wpOp_noFall {i : Nat} {K : Act → World → Prop} {a : Act} {w : World} (h : wpOp P ops (NoFall Q) i K a w) : wpOp P ops Q i K a w := by
 have hq : ∀ e a w, NoFall Q e a w → Q e a w := fun e a w h => by cases e <;> first | exact h | exact (h : False).elim
 unfold wpOp at *
 split
 · rename_i ho; simpa [ho] using h
 · rename_i o ho
   simp only [ho] at h
   split
   · rename_i hw
     simp only [hw, if_true] at h
     rcases h with h | ⟨h1, a0, w0, h2⟩
     · refine .inl ?_
       unfold Oper.wp at *
       generalize (execOp a.eval o).run P w = r at *
       cases r with
       | ok n w' =>
         cases n <;> simp only [Oper.upon] at h ⊢ <;>
         first
          | exact h
          | (refine Calls.mono h fun e w'' he => ?_
             cases e with
             | returned v => exact he
             | panicked c => exact (he : False).elim
             | outgrown => obtain ⟨a1, w1, h1⟩ := he; exact ⟨a1, w1, h1⟩)
       | halt x w' => cases x <;> simp only [Oper.upon] at h ⊢ <;> exact (h : False).elim
     · exact .inr ⟨h1, a0, w0, h2⟩
   · rename_i hw; simp only [hw] at h; exact h

theorem yields_of_move {o : Oper} {v : Value} {a : Act} {w : World} (hm : isMove o = true) (h : YieldsIn P ops (After w) o v a) : Yields P ops o v a := by
 rcases h with ⟨h1, h2⟩ | h
 · refine .inl ⟨h1, fun w' => ?_⟩
   have h3 := h2 w (After.self w)
   unfold Oper.quietAt at h3
   unfold isMove at hm
   split at hm
   · rename_i x hx
     simp only [execOp, hx] at h3 ⊢
     have e1 : ∀ w : World, Sem.run P (do let y ← (pure (a.eval x) : Sem Value); pure (Next.value y)) w = .ok (.value (a.eval x)) w := fun _ => rfl
     first
      | (have h4 : a.eval x = v := by simpa [Oper.quietUpon, Sem.run, execOp] using h3
         subst h4; rfl)
   · cases hm
 · exact .inr h

theorem wpAny_of_X : ∀ (fuel : Nat) (listed : Array Bool) (a : Act) (w w' : World) (e : Bool), Kind e w w' → wpAnyX P ops Q effs fuel listed a w e → wpAny P .any ops Q fuel listed a w'
 | 0, _, _, _, _, _, hw, h => ⟨h.1, h.2 _ hw⟩
 | fuel + 1, listed, a, w, w', e, hw, h => by
   refine ⟨fun h0 => h.1 h0 _ hw, fun i hi => ?_⟩
   obtain ⟨h1, h2⟩ := h.2 i hi
   by_cases hm : i ∈ effs
   · exact wpOp_noFall (wpOp_mono (fun a' w'' h3 => wpAny_of_X fuel _ a' w'' w'' true (Kind.self _ _) h3) (h1 hm _ hw))
   · have hq := h2 hm
     by_cases hv : flagAt ops i e = true
     · rw [hv] at hq
       unfold flagAt at hv
       simp only [Bool.and_eq_true] at hv
       cases ho : ops[i]? with
       | none => 
         unfold qOp at hq; unfold wpOp
         simp only [ho] at hq ⊢
         have he : e = true := hv.2
         subst he
         have : w' = w := hw
         subst this
         exact wpAny_of_X fuel _ a w' w' true (Kind.self _ _) hq
       | some o =>
         have hmv : isMove o = true := by simpa [ho] using hv.1
         obtain ⟨v, hy, hk⟩ := yieldsIn_of_qOp ho hq
         have he : e = true := hv.2
         subst he
         have : w' = w := hw
         subst this
         exact (yields_of_move hmv hy).wpOp ho (wpAny_of_X fuel _ _ w' w' true (Kind.self _ _) hk)
     · have hv' : flagAt ops i e = false := by simpa using hv
       rw [hv'] at hq
       exact wpOp_of_qOp (C := After w) hw.after (fun a' w'' hw'' h3 => wpAny_of_X fuel _ a' w w'' false hw'' h3) hq

structure Closed (ops : Array Oper) (listed : Array Bool) : Prop where
 size : listed.size = ops.size
 closed : ∀ j oj, ops[j]? = some oj → listed.getD j false = true → ∀ e ∈ oj.after, Region.binds .any e = true → listed.getD e.on false = true

theorem Closed.start : Closed ops (Array.replicate ops.size false) :=
 ⟨by simp, fun j oj _ h => by rw [getD_replicate_false] at h; cases h⟩

theorem Closed.set {listed : Array Bool} {i : Nat} (c : Closed ops listed) (hi : i ∈ Region.ready .any ops listed) : Closed ops (listed.setIfInBounds i true) := by
 obtain ⟨_, oi, hoi, hall⟩ := mem_ready.1 hi
 refine ⟨by simp [c.size], fun j oj hj hl e he hb => ?_⟩
 by_cases hij : i = j
 · subst hij
   have : oj = oi := Option.some.inj (hj.symm.trans hoi)
   subst this
   exact getD_set_true (hall e he hb)
 · rw [getD_set_ne false hij] at hl
   exact getD_set_true (c.closed j oj hj hl e he hb)

theorem needs_open {listed : Array Bool} (c : Closed ops listed) {i : Nat} (hi : listed.getD i false = false) : ∀ (n j : Nat), needs .any ops n j i = true →
 ∃ oj, ops[j]? = some oj ∧ ∃ e ∈ oj.after, Region.binds .any e = true ∧ listed.getD e.on false = false := by
 intro n
 induction n with
 | zero => intro j h; simp [needs] at h
 | succ n ih =>
   intro j h
   unfold needs at h
   split at h
   · rename_i oj hj
     obtain ⟨e, he, hb⟩ := Array.any_eq_true'.1 h
     simp only [Bool.and_eq_true, Bool.or_eq_true, beq_iff_eq] at hb
     refine ⟨oj, hj, e, he, hb.1, ?_⟩
     rcases hb.2 with h2 | h2
     · rw [h2]; exact hi
     · obtain ⟨ok, hk, e', he', hb', hl'⟩ := ih e.on h2
       cases hl : listed.getD e.on false
       · rfl
       · have := c.closed e.on ok hk hl e' he' hb'
         rw [hl'] at this; cases this
   · cases h

theorem not_ready_of_needs {listed : Array Bool} (c : Closed ops listed) {i j n : Nat} (hi : listed.getD i false = false) (h : needs .any ops n j i = true) : j ∉ Region.ready .any ops listed := by
 intro hr
 obtain ⟨oj, hj, e, he, hb, hl⟩ := needs_open c hi n j h
 obtain ⟨_, ok, hk, hall⟩ := mem_ready.1 hr
 have : oj = ok := Option.some.inj (hj.symm.trans hk)
 subst this
 rw [hall e he hb] at hl; cases hl

/-- A quiet operation that may come up now may be taken first. -/
theorem wpAnyX_first {i : Nat} {oi : Oper} {v : Value} (hi : ops[i]? = some oi) (hne : i ∉ effs) (hsel : ∀ (j : Nat) (o : Oper) cs b, ops[j]? = some o → o.op ≠ .select cs b) :
 ∀ (fuel : Nat) (listed : Array Bool) (a : Act) (w : World) (e : Bool), Closed ops listed →
  (∀ j oj, ops[j]? = some oj → j ≠ i → listed.getD j true = false → (∀ e ∈ oj.after, Region.binds .any e = true → e.on ≠ i) → oi.apart ops oj = true) →
  (isMove oi = true ∨ ∀ j ∈ effs, listed.getD j true = true ∨ needs .any ops ops.size j i = true) →
  i ∈ Region.ready .any ops listed → YieldsIn P ops (After w) oi v a →
  wpAnyX P ops Q effs fuel (listed.setIfInBounds i true) (a.put oi.dst v) w (flagAt ops i e) → wpAnyX P ops Q effs (fuel + 1) listed a w e := by
 intro fuel
 induction fuel with
 | zero =>
   intro listed a w e hc _ _ hr hy H
   refine ⟨fun h => (by rw [h] at hr; cases hr), fun j hj => ?_⟩
   by_cases hji : j = i
   · subst hji; exact ⟨fun hm => absurd hm hne, fun _ => hy.qOp hi H⟩
   · have := ready_mono hj hji
     rw [H.1] at this
     cases this
 | succ fuel ih =>
   intro listed a w e hc hfree hneed hr hy H
   refine ⟨fun h => (by rw [h] at hr; cases hr), fun j hj => ?_⟩
   by_cases hji : j = i
   · subst hji; exact ⟨fun hm => absurd hm hne, fun _ => hy.qOp hi H⟩
   · obtain ⟨g1, g2⟩ := H.2 j (ready_mono hj hji)
     obtain ⟨hjun, oj, hoj, hall⟩ := mem_ready.1 hj
     have hiun := (mem_ready.1 hr).1
     have hnot : ∀ e ∈ oj.after, Region.binds .any e = true → e.on ≠ i := fun e he hb heq => by
      have h1 := hall e he hb
      rw [heq, getD_both hiun] at h1; cases h1
     have hfree' : ∀ k ok, ops[k]? = some ok → k ≠ i → (listed.setIfInBounds j true).getD k true = false →
      (∀ e ∈ ok.after, Region.binds .any e = true → e.on ≠ i) → oi.apart ops ok = true := fun k ok hk hki hun hno => by
      refine hfree k ok hk hki ?_ hno
      by_cases hjk : j = k
      · subst hjk; exact hjun
      · rw [getD_set_ne true hjk] at hun; exact hun
     have hneed' : isMove oi = true ∨ ∀ k ∈ effs, (listed.setIfInBounds j true).getD k true = true ∨ needs .any ops ops.size k i = true := by
      rcases hneed with h | h
      · exact .inl h
      · refine .inr fun k hk => ?_
        rcases h k hk with h2 | h2
        · refine .inl ?_
          by_cases hjk : j = k
          · subst hjk; rw [h2] at hjun; cases hjun
          · rw [getD_set_ne true hjk]; exact h2
        · exact .inr h2
     refine ⟨fun hm w' hw' => ?_, fun hm => ?_⟩
     · rcases hneed with hmv | hnd
       · have hfl : flagAt ops i e = e := by unfold flagAt; simp [hi, hmv]
         have hfl' : flagAt ops i true = true := by unfold flagAt; simp [hi, hmv]
         rw [hfl] at g1
         have h1 := g1 hm w' hw'
         have h2 := wpOp_put hoj (hfree j oj hoj hji hjun hnot) (fun cs b => hsel i oi cs b hi) (fun cs b => hsel j oj cs b hoj) (fun _ _ _ h => h) (yields_of_move hmv hy) h1
         refine wpOp_mono (fun a' w'' h3 => ih (listed.setIfInBounds j true) a' w'' true (hc.set hj) hfree' hneed' (ready_mono hr (Ne.symm hji)) ?_ ?_) h2
         · rcases h3.1 with ⟨y1, y2⟩ | y
           · exact .inl ⟨y1, fun u _ => by unfold Oper.quietAt; rw [y2 u]; exact ⟨rfl, rfl⟩⟩
           · exact .inr y
         · rw [Array.setIfInBounds_comm _ _ hji, hfl']
           exact h3.2
       · rcases hnd j hm with h2 | h2
         · rw [h2] at hjun; cases hjun
         · exact absurd hj (not_ready_of_needs hc (getD_both hiun) h2)
     · have h1 := g2 hm
       have h2 := qOp_put hoj (hfree j oj hoj hji hjun hnot) (fun cs b => hsel i oi cs b hi) (fun cs b => hsel j oj cs b hoj) hy h1
       refine qOp_mono (fun a' h3 => ih (listed.setIfInBounds j true) a' w _ (hc.set hj) hfree' hneed' (ready_mono hr (Ne.symm hji)) h3.1 ?_) h2
       rw [Array.setIfInBounds_comm _ _ hji, flagAt_comm]
       exact h3.2

theorem ready_some {listed : Array Bool} {i : Nat} (h : i ∈ Region.ready .any ops listed) : ∃ o, ops[i]? = some o := by
 obtain ⟨_, o, ho, _⟩ := mem_ready.1 h; exact ⟨o, ho⟩

theorem head_walk (hsel : Region.noSelect ops = true) {w : World} {R : Act → Prop} {fuel : Nat} : ∀ (l : List Nat) (listed l1 : Array Bool) (a : Act) (e : Bool), Closed ops listed →
 headOk ops effs l listed = some l1 → (Closed ops l1 → ∀ a e, R a → wpAnyX P ops Q effs fuel l1 a w e) → wpQuiet P ops (After w) R (picked ops l) a → wpAnyX P ops Q effs (l.length + fuel) listed a w e
 | [], listed, l1, a, e, hc, hB, hR, h => by
   simp only [headOk, Option.some.injEq] at hB; subst hB
   simpa using hR hc a e h
 | i :: r, listed, l1, a, e, hc, hB, hR, h => by
   unfold headOk at hB
   split at hB
   · rename_i hq
     unfold quietOk at hq
     simp only [Bool.and_eq_true, Bool.not_eq_true'] at hq
     obtain ⟨⟨⟨q1, q2⟩, q3⟩, q4⟩ := hq
     have hr : i ∈ Region.ready .any ops listed := by simpa using q1
     obtain ⟨oi, hi⟩ := ready_some hr
     have hp : picked ops (i :: r) = oi :: picked ops r := by simp [picked, hi]
     rw [hp] at h
     have hst : qOp P ops (After w) i (wpQuiet P ops (After w) R (picked ops r)) a := by unfold qOp; simp only [hi]; exact h
     obtain ⟨v, hy, hK⟩ := yieldsIn_of_qOp hi hst
     have hlen : (i :: r).length + fuel = (r.length + fuel) + 1 := by simp only [List.length_cons]; omega
     rw [hlen]
     refine wpAnyX_first hi (by simpa using q2) (Region.noSelect_spec hsel) _ listed a w e hc (Region.free_spec hi q3) ?_ hr hy (head_walk hsel r _ l1 _ _ (hc.set hr) hB hR hK)
     rw [hi] at q4
     simp only [Option.map_some, Option.getD_some, Bool.or_eq_true, List.all_eq_true] at q4
     exact q4
   · cases hB

theorem tail_walk {K : Act → World → Prop} {fuel : Nat} (hK : ∀ a w, K a w → True) : ∀ (l : List Nat) (listed l1 : Array Bool) (a : Act) (w : World) (e : Bool), Closed ops listed →
 (∀ i ∈ l, i ∈ effs) → tailOk ops l listed = some l1 → (Closed ops l1 → ∀ a w e, (∀ w', Kind e w w' → K a w') → wpAnyX P ops Q effs fuel l1 a w e) →
 (∀ w', Kind e w w' → wpList P ops (Stage K Q) (picked ops l) a w') → wpAnyX P ops Q effs (l.length + fuel) listed a w e
 | [], listed, l1, a, w, e, hc, _, hB, hR, h => by
   simp only [tailOk, Option.some.injEq] at hB; subst hB
   simpa using hR hc a w e h
 | i :: r, listed, l1, a, w, e, hc, hin, hB, hR, h => by
   unfold tailOk at hB
   split at hB
   · rename_i hq
     have hr : i ∈ Region.ready .any ops listed := by rw [hq]; exact List.mem_singleton.2 rfl
     obtain ⟨oi, hi⟩ := ready_some hr
     have hp : picked ops (i :: r) = oi :: picked ops r := by simp [picked, hi]
     rw [hp] at h
     have hlen : (i :: r).length + fuel = (r.length + fuel) + 1 := by simp only [List.length_cons]; omega
     rw [hlen]
     refine ⟨fun h0 => (by rw [h0] at hr; cases hr), fun j hj => ?_⟩
     rw [hq] at hj
     obtain rfl : j = i := by simpa using hj
     refine ⟨fun _ w' hw' => ?_, fun hm => absurd (hin j (List.mem_cons_self)) hm⟩
     have h1 := h w' hw'
     have h2 : wpOp P ops (Stage K Q) j (wpList P ops (Stage K Q) (picked ops r)) a w' := by unfold wpOp; simp only [hi]; exact h1
     have h3 : wpOp P ops (NoFall Q) j (fun a' w'' => wpAnyX P ops Q effs (r.length + fuel) (listed.setIfInBounds j true) a' w'' true) a w' := by
      have h4 := wpOp_mono (K' := fun a' w'' => wpAnyX P ops Q effs (r.length + fuel) (listed.setIfInBounds j true) a' w'' true) (fun a' w'' h5 => tail_walk hK r _ l1 a' w'' true (hc.set hr) (fun k hk => hin k (List.mem_cons_of_mem _ hk)) hB hR (fun u hu => by
       have : u = w'' := hu
       subst this; exact h5)) h2
      unfold wpOp at h4 ⊢
      simp only [hi] at h4 ⊢
      split
      · rename_i hw
        simp only [hw, if_true] at h4
        rcases h4 with h4 | ⟨x1, x2⟩
        · refine .inl ?_
          unfold Oper.wp at *
          generalize (execOp a.eval oi).run P w' = rr at *
          cases rr with
          | ok n w' =>
            cases n <;> simp only [Oper.upon] at h4 ⊢ <;>
            first
             | exact h4
             | (refine Calls.mono h4 fun e w'' he => ?_
                cases e with
                | returned v => exact he
                | panicked c => exact (he : False).elim
                | outgrown => exact he)
          | halt x w' => cases x <;> simp only [Oper.upon] at h4 ⊢ <;> exact (h4 : False).elim
        · exact .inr ⟨x1, x2⟩
      · rename_i hw; simp only [hw] at h4; exact h4
     exact h3
   · cases hB

theorem stages_walk (hsel : Region.noSelect ops = true) : ∀ (ss : List (List Nat × List Nat)) (listed : Array Bool) (a : Act) (w : World) (e : Bool), Closed ops listed →
 stagesOk ops effs ss listed = true → (∀ w', Kind e w w' → wpStages P ops Q ss a w') → wpAnyX P ops Q effs ((ss.map fun s => s.1.length + s.2.length).sum) listed a w e
 | [], listed, a, w, e, _, hB, h => by
   simp only [stagesOk, List.isEmpty_iff] at hB
   exact ⟨hB, h⟩
 | s :: r, listed, a, w, e, hc, hB, h => by
   unfold stagesOk at hB
   split at hB
   · cases hB
   · rename_i l1 h1
     simp only [Bool.and_eq_true] at hB
     obtain ⟨hin, hB⟩ := hB
     split at hB
     · cases hB
     · rename_i l2 h2
       have hlen : ((s :: r).map fun s => s.1.length + s.2.length).sum = s.1.length + (s.2.length + (r.map fun s => s.1.length + s.2.length).sum) := by
        simp only [List.map_cons, List.sum_cons]; omega
       rw [hlen]
       have h0 := h w (Kind.self e w)
       refine head_walk hsel s.1 listed l1 a e hc h1 (fun hc1 a' e' hR => ?_) h0
       refine tail_walk (K := wpStages P ops Q r) (fun _ _ _ => trivial) s.2 l1 l2 a' w e' hc1 (fun i hi => by simpa using (List.all_eq_true.1 hin) i hi) h2 (fun hc2 a'' w'' e'' hk => stages_walk hsel r l2 a'' w'' e'' hc2 hB hk) (fun w' hw' => hR w' hw'.after)

theorem stage_walk (hsel : Region.noSelect ops = true) (s : List Nat × List Nat) (r : List (List Nat × List Nat)) (listed : Array Bool) (a : Act) (w : World) (e : Bool) (hc : Closed ops listed)
 (hB : stagesOk ops effs (s :: r) listed = true) (h0 : wpStages P ops Q (s :: r) a w) : wpAnyX P ops Q effs (((s :: r).map fun s => s.1.length + s.2.length).sum) listed a w e := by
 unfold stagesOk at hB
 split at hB
 · cases hB
 · rename_i l1 h1
   simp only [Bool.and_eq_true] at hB
   obtain ⟨hin, hB⟩ := hB
   split at hB
   · cases hB
   · rename_i l2 h2
     have hlen : ((s :: r).map fun s => s.1.length + s.2.length).sum = s.1.length + (s.2.length + (r.map fun s => s.1.length + s.2.length).sum) := by
      simp only [List.map_cons, List.sum_cons]; omega
     rw [hlen]
     refine head_walk hsel s.1 listed l1 a e hc h1 (fun hc1 a' e' hR => ?_) h0
     exact tail_walk (K := wpStages P ops Q r) (fun _ _ _ => trivial) s.2 l1 l2 a' w e' hc1 (fun i hi => by simpa using (List.all_eq_true.1 hin) i hi) h2 (fun hc2 a'' w'' e'' hk => stages_walk hsel r l2 a'' w'' e'' hc2 hB hk) (fun w' hw' => hR w' hw'.after)

/-- **One walk serves every order**, stage by stage. -/
theorem wp_region_mix {id : Nat} {a : Act} {w : World} (s : List Nat × List Nat) (r : List (List Nat × List Nat)) (hm : P.follows .mixedOrders = true) (hB : mixB ops (s :: r) = true)
 (hn : (((s :: r).map fun s => s.1.length + s.2.length).sum) = ops.size) (h : wpStages P ops Q (s :: r) a w) : (Code.region id ops true).wp P Q a w := by
 unfold mixB at hB
 simp only [Bool.and_eq_true] at hB
 refine wp_region_any hm ?_
 have := stage_walk (P := P) (Q := Q) (effs := (s :: r).flatMap (·.2)) hB.1 s r (Array.replicate ops.size false) a w false Closed.start hB.2 h
 rw [hn] at this
 exact wpAny_of_X _ _ _ _ _ false ⟨1, rfl⟩ this

theorem picked_range (l : List Oper) (n : Nat) : picked l.toArray (List.range n) = l.take n := by
 induction n with
 | zero => rfl
 | succ n ih =>
   have e : picked l.toArray (List.range (n + 1)) = picked l.toArray (List.range n) ++ picked l.toArray [n] := by
    simp [picked, List.range_succ]
   rw [e, ih, List.take_add_one]
   cases h : l[n]? <;> simp [picked, h]

theorem picked_range' (l : List Oper) : ∀ (m n : Nat), l.length ≤ n + m → picked l.toArray (List.range' n m) = l.drop n := by
 intro m
 induction m with
 | zero => intro n h; simp only [List.range'_zero, picked, List.filterMap_nil]; rw [List.drop_eq_nil_of_le (by omega)]
 | succ m ih =>
   intro n h
   have e : picked l.toArray (List.range' n (m + 1)) = picked l.toArray [n] ++ picked l.toArray (List.range' (n + 1) m) := by
    rw [List.range'_succ]; cases h : l[n]? <;> simp [picked, h]
   rw [e, ih (n + 1) (by omega)]
   rcases Nat.lt_or_ge n l.length with hl | hl
   · rw [List.drop_eq_getElem_cons hl]; simp [picked, hl]
   · rw [List.drop_eq_nil_of_le hl, List.drop_eq_nil_of_le (by omega)]; simp [picked, hl]

/-- What a tail leaves. -/
theorem Stage.out {K : Act → World → Prop} {a : Act} {w : World} (h : K a w) : Stage K Q .normal a w := h

/-- **A quiet head of n operations, then a tail with effects.** -/
theorem wp_region_tail {id : Nat} {a : Act} {w : World} {l : List Oper} (n : Nat) (hm : P.follows .mixedOrders = true)
 (hB : (mixB l.toArray [(List.range n, List.range' n (l.length - n))] && decide (n ≤ l.length)) = true)
 (h : wpQuiet P l.toArray (fun w' => ∃ k, w' = w.drewN k) (fun a' => ∀ w', (∃ k, w' = w.drewN k) → wpList P l.toArray (Stage (fun a w => Q .normal a w) Q) (l.drop n) a' w') (l.take n) a) :
 (Code.region id l.toArray true).wp P Q a w := by
 simp only [Bool.and_eq_true, decide_eq_true_eq] at hB
 refine wp_region_mix (List.range n, List.range' n (l.length - n)) [] hm hB.1 (by simp; omega) ?_
 unfold wpStages
 rw [picked_range, picked_range' _ _ _ (by omega)]
 exact h
end
end Go.Proofs.YtpgpjjkeginbbaaGreatDoor
namespace Go.Proofs.YtpgpjjkeginbbaaGreatDoor
open Go.RowKit
/-- The cells of pairs. -/
def pcs : List (Nat × Int) → List Value
 | [] => []
 | e :: r => .int .u64 (e.1 : Nat) :: .int .i64 e.2 :: pcs r
theorem pcs_at : ∀ (l : List (Nat × Int)) (i : Nat) (e : Nat × Int), l[i]? = some e → (pcs l)[i * 2]? = some (.int .u64 (e.1 : Nat)) ∧ (pcs l)[i * 2 + 1]? = some (.int .i64 e.2) := by
 intro l
 induction l with
 | nil => intro i e h; cases h
 | cons a r ih =>
   intro i e h
   cases i with
   | zero => obtain rfl := Option.some.inj h; exact ⟨rfl, rfl⟩
   | succ i =>
     have h1 := ih i e (by simpa using h)
     have e1 : (i + 1) * 2 = i * 2 + 1 + 1 := by omega
     simp only [e1, pcs, List.getElem?_cons_succ]
     exact h1
/-- Pairs in a row of their own. -/
abbrev PRow (E : TypeId) (base : Nat) (w : World) (v : Value) (l : List (Nat × Int)) : Prop := w.ownsRow base E 2 v l.length (pcs l)
section
variable {E : TypeId} {base : Nat} {w w' : World} {v : Value} {l : List (Nat × Int)}
theorem PRow.cell (h : PRow E base w v l) {i : Nat} {e : Nat × Int} (he : l[i]? = some e) : ∃ g c, v = .slice (some ⟨g, 0, none⟩) l.length c ∧ g < w.heap.size ∧ w.cell? ⟨g, i * 2, none⟩ = some (.int .u64 (e.1 : Nat)) ∧ w.cell? ⟨g, i * 2 + 1, none⟩ = some (.int .i64 e.2) := by
 have hi : i < l.length := by
  rcases Nat.lt_or_ge i l.length with h' | h'
  · exact h'
  · rw [List.getElem?_eq_none h'] at he; cases he
 rcases h.2 with ⟨rfl, h0⟩ | ⟨g, c, cur, rfl, _, hb, h1, h2, h3, ht⟩
 · omega
 · obtain ⟨e1, e2⟩ := pcs_at l i e he
   rw [← ht] at e1 e2
   rw [List.getElem?_take_of_lt (by omega)] at e1 e2
   exact ⟨g, c, rfl, Blk.lt hb, Blk.cellAt hb (by simpa using e1), Blk.cellAt hb (by simpa using e2)⟩
theorem PRow.nil (E : TypeId) (base : Nat) (w : World) : PRow E base w (.slice none 0 0) [] := ownsRow_nil _ _ _ _
end
end Go.Proofs.YtpgpjjkeginbbaaGreatDoor
namespace Go.Proofs.YtpgpjjkeginbbaaGreatDoor.Pool
/-- A function with another value at one place. -/
def upd {β : Type} (f : Nat → β) (i : Nat) (v : β) : Nat → β := fun j => if j = i then v else f j
theorem upd_at {β : Type} (f : Nat → β) (i : Nat) (v : β) : upd f i v i = v := by simp [upd]
theorem upd_off {β : Type} (f : Nat → β) (i : Nat) (v : β) {j : Nat} (h : j ≠ i) : upd f i v j = f j := by simp [upd, h]
/-- What is linked from a on. -/
def Ch (nx : Nat → Int) : Int → List Nat → Prop
 | a, [] => a = -1
 | a, h :: t => a = (h : Int) ∧ Ch nx (nx h) t
theorem Ch.congr {nx nx' : Nat → Int} : ∀ {l : List Nat} {a : Int}, Ch nx a l → (∀ h ∈ l, nx' h = nx h) → Ch nx' a l
 | [], _, h, _ => h
 | b :: t, _, h, hc => ⟨h.1, by rw [hc b (List.mem_cons_self ..)]; exact Ch.congr h.2 (fun c hc' => hc c (List.mem_cons_of_mem _ hc'))⟩
theorem Ch.none {nx : Nat → Int} {l : List Nat} (h : Ch nx (-1) l) : l = [] := by
 cases l with
 | nil => rfl
 | cons b t => have := h.1; omega
theorem Ch.some {nx : Nat → Int} {l : List Nat} {a : Int} (h : Ch nx a l) (ha : a ≠ -1) : ∃ b t, l = b :: t ∧ a = (b : Int) ∧ Ch nx (nx b) t := by
 cases l with
 | nil => exact absurd h ha
 | cons b t => exact ⟨b, t, rfl, h.1, h.2⟩
end Go.Proofs.YtpgpjjkeginbbaaGreatDoor.Pool
namespace Go.Proofs.YtpgpjjkeginbbaaGreatDoor.Cal
open Heap Pool
section
variable {α : Type}
/-- A thing comes in behind all that are not above it. -/
def ins (r : Nat) (x : α) : List (Nat × α) → List (Nat × α)
 | [] => [(r, x)]
 | a :: t => if r < a.1 then (r, x) :: a :: t else a :: ins r x t
/-- An item: an entry without when it came. -/
def itm (e : Ent α) : Nat × α := (e.1, e.2.2)
/-- The items of entries. -/
def itms (s : List (Ent α)) : List (Nat × α) := s.map itm
theorem itms_len (s : List (Ent α)) : (itms s).length = s.length := by simp [itms]
/-- The list s has the heap's entries in order. -/
structure Mt (came : Nat) (l s : List (Ent α)) : Prop where
 perm : s.Perm l
 ord : s.Pairwise (fun a b => ahd a b = true)
 old : ∀ e ∈ s, e.2.1 < came
theorem Mt.nil : Mt 0 ([] : List (Ent α)) [] := ⟨List.Perm.refl _, List.Pairwise.nil, fun e h => by cases h⟩
theorem Mt.len {came : Nat} {l s : List (Ent α)} (h : Mt came l s) : s.length = l.length := h.perm.length_eq
/-- An entry comes in behind all that are not above it. -/
def insE (p : Ent α) : List (Ent α) → List (Ent α)
 | [] => [p]
 | a :: r => if p.1 < a.1 then p :: a :: r else a :: insE p r
theorem insE_perm (p : Ent α) (l : List (Ent α)) : (insE p l).Perm (p :: l) := by
 induction l with
 | nil => exact List.Perm.refl _
 | cons a r ih =>
   unfold insE
   split
   · exact List.Perm.refl _
   · exact (ih.cons a).trans (List.Perm.swap p a r)
theorem itms_ins (p : Ent α) (l : List (Ent α)) : itms (insE p l) = ins (itm p).1 (itm p).2 (itms l) := by
 induction l with
 | nil => rfl
 | cons a r ih =>
   unfold itms at ih ⊢
   simp only [insE, List.map_cons, ins]
   by_cases h : p.1 < a.1
   · rw [if_pos h, if_pos (show (itm p).1 < (itm a).1 from h)]; rfl
   · rw [if_neg h, if_neg (show ¬ (itm p).1 < (itm a).1 from h), List.map_cons, ih]
theorem insE_ord (p : Ent α) (l : List (Ent α)) (ho : l.Pairwise (fun a b => ahd a b = true)) (hp : ∀ e ∈ l, e.2.1 < p.2.1) : (insE p l).Pairwise (fun a b => ahd a b = true) := by
 induction l with
 | nil => simp [insE]
 | cons a r ih =>
   unfold insE
   have ho' := List.pairwise_cons.1 ho
   split
   · rename_i h
     refine List.pairwise_cons.2 ⟨fun e he => ?_, ho⟩
     rcases List.mem_cons.1 he with rfl | he
     · exact ahd_iff.2 (.inl h)
     · have := ahd_iff.1 (ho'.1 e he); exact ahd_iff.2 (by omega)
   · rename_i h
     refine List.pairwise_cons.2 ⟨fun e he => ?_, ih ho'.2 (fun e he => hp e (List.mem_cons_of_mem _ he))⟩
     rcases List.mem_cons.1 ((insE_perm p r).mem_iff.1 he) with rfl | he
     · have := hp a List.mem_cons_self; exact ahd_iff.2 (by omega)
     · exact ho'.1 e he
theorem Mt.push {came : Nat} {l s : List (Ent α)} (h : Mt came l s) (x : Nat) (y : α) : Mt (came + 1) (pushL l (x, came, y)) (insE (x, came, y) s) := by
 refine ⟨((insE_perm _ _).trans (h.perm.cons _)).trans (push_perm l _).symm, insE_ord _ _ h.ord h.old, fun e he => ?_⟩
 rcases List.mem_cons.1 ((insE_perm _ _).mem_iff.1 he) with rfl | he
 · exact Nat.lt_succ_self _
 · exact Nat.lt_succ_of_lt (h.old e he)
theorem Mt.head {came : Nat} {l s : List (Ent α)} {a : Ent α} (h : Mt came l (a :: s)) (hh : IsHeap l) : l[0]? = some a := by
 cases l with
 | nil => have := h.len; simp at this
 | cons b r =>
   have hb : b ∈ a :: s := h.perm.mem_iff.2 List.mem_cons_self
   rcases List.mem_cons.1 hb with rfl | hb
   · rfl
   · have h1 := (List.pairwise_cons.1 h.ord).1 b hb
     have h2 := heap_least hh (a := b) rfl a (h.perm.mem_iff.1 List.mem_cons_self)
     rw [h1] at h2; cases h2
theorem Mt.pop {came : Nat} {l s : List (Ent α)} {a : Ent α} (h : Mt came l (a :: s)) (hh : IsHeap l) : Mt came (popL l) s := by
 have h0 := h.head hh
 cases l with
 | nil => cases h0
 | cons b r =>
   obtain rfl := Option.some.inj h0
   exact ⟨(List.perm_cons _).1 h.perm |>.trans (pop_perm b r).symm, (List.pairwise_cons.1 h.ord).2, fun e he => h.old e (List.mem_cons_of_mem _ he)⟩
theorem Mt.none {came : Nat} {l : List (Ent α)} (h : Mt came l []) : l = [] := by
 have := h.len; cases l with | nil => rfl | cons a r => simp at this
/-- Ranks that never fall. -/
def Rises (l : List (Nat × α)) : Prop := l.Pairwise (fun a b => a.1 ≤ b.1)
theorem ins_mem {r : Nat} {x : α} {l : List (Nat × α)} {a : Nat × α} : a ∈ ins r x l ↔ a = (r, x) ∨ a ∈ l := by
 induction l with
 | nil => simp [ins]
 | cons b t ih =>
   unfold ins
   split
   · simp
   · simp [ih]; constructor
     · rintro (h | h | h)
       · exact .inr (.inl h)
       · exact .inl h
       · exact .inr (.inr h)
     · rintro (h | h | h)
       · exact .inr (.inl h)
       · exact .inl h
       · exact .inr (.inr h)
theorem ins_len (r : Nat) (x : α) (l : List (Nat × α)) : (ins r x l).length = l.length + 1 := by
 induction l with
 | nil => rfl
 | cons b t ih => unfold ins; split <;> simp [ih]
theorem ins_rises {r : Nat} {x : α} {l : List (Nat × α)} (h : Rises l) : Rises (ins r x l) := by
 induction l with
 | nil => simp [ins, Rises]
 | cons b t ih =>
   have h' := List.pairwise_cons.1 h
   unfold ins
   split
   · rename_i hlt
     refine List.pairwise_cons.2 ⟨fun a ha => ?_, h⟩
     rcases List.mem_cons.1 ha with rfl | ha
     · exact Nat.le_of_lt hlt
     · have := h'.1 a ha; show r ≤ a.1; omega
   · rename_i hlt
     refine List.pairwise_cons.2 ⟨fun a ha => ?_, ih h'.2⟩
     rcases ins_mem.1 ha with rfl | ha
     · show b.1 ≤ r; omega
     · exact h'.1 a ha
theorem ins_behind {r : Nat} {x : α} {A B : List (Nat × α)} (h : ∀ a ∈ A, a.1 ≤ r) : ins r x (A ++ B) = A ++ ins r x B := by
 induction A with
 | nil => rfl
 | cons a t ih =>
   have := h a (List.mem_cons_self ..)
   simp only [List.cons_append, ins]
   rw [if_neg (by omega), ih (fun b hb => h b (List.mem_cons_of_mem _ hb))]
/-- The things of a day. -/
def dayq (N q : Nat) (l : List (Nat × α)) : List α := l.filterMap (fun a => if a.1 % N = q then some a.2 else none)
theorem dayq_cons (N q : Nat) (a : Nat × α) (l : List (Nat × α)) : dayq N q (a :: l) = if a.1 % N = q then a.2 :: dayq N q l else dayq N q l := by
 unfold dayq
 rw [List.filterMap_cons]
 split
 · rename_i h; split at h
   · cases h
   · rename_i h2; rw [if_neg h2]
 · rename_i h; split at h
   · rename_i h2; rw [if_pos h2]; cases h; rfl
   · cases h
theorem dayq_some {N q : Nat} {l : List (Nat × α)} (h : dayq N q l ≠ []) : ∃ a ∈ l, a.1 % N = q := by
 induction l with
 | nil => exact absurd rfl h
 | cons a t ih =>
   rw [dayq_cons] at h
   split at h
   · rename_i e; exact ⟨a, List.mem_cons_self .., e⟩
   · obtain ⟨b, hb, e⟩ := ih h; exact ⟨b, List.mem_cons_of_mem _ hb, e⟩
/-- What is in the window, by days. -/
structure Win (N base : Nat) (Qx : Nat → List α) (W : List (Nat × α)) : Prop where
 inw : ∀ a ∈ W, base ≤ a.1 ∧ a.1 < base + N
 que : ∀ q, q < N → Qx q = dayq N q W
theorem mod_off {N base d : Nat} (hd : d < N) : (base + d) % N = if base % N + d < N then base % N + d else base % N + d - N := by
 have hN : 0 < N := by omega
 have hb := Nat.mod_lt base hN
 have e1 : (base + d) % N = (base % N + d) % N := by rw [Nat.add_mod, Nat.mod_eq_of_lt hd]
 rw [e1]
 split
 · rename_i h; exact Nat.mod_eq_of_lt h
 · rename_i h; rw [Nat.mod_eq_sub_mod (by omega)]; exact Nat.mod_eq_of_lt (by omega)
/-- Of two ranks of the window on one day there is one. -/
theorem same_day {N base r s : Nat} (h1 : base ≤ r) (h2 : r < base + N) (h3 : base ≤ s) (h4 : s < base + N) (h : r % N = s % N) : r = s := by
 have e1 := mod_off (base := base) (show r - base < N by omega)
 have e2 := mod_off (base := base) (show s - base < N by omega)
 rw [show base + (r - base) = r by omega] at e1
 rw [show base + (s - base) = s by omega] at e2
 have hb := Nat.mod_lt base (show 0 < N by omega)
 rw [h, e2] at e1
 split at e1 <;> split at e1 <;> omega
theorem Win.nil (N base : Nat) : Win N base (fun _ => ([] : List α)) [] := ⟨fun a h => (by cases h), fun _ _ => rfl⟩
theorem Win.head {N base r : Nat} {x : α} {Qx : Nat → List α} {W : List (Nat × α)} (h : Win N base Qx ((r, x) :: W)) : Qx (r % N) = x :: dayq N (r % N) W := by
 have h1 := h.inw _ (List.mem_cons_self ..)
 rw [h.que _ (Nat.mod_lt _ (by omega)), dayq_cons, if_pos rfl]
theorem Win.pop {N base r : Nat} {x : α} {Qx : Nat → List α} {W : List (Nat × α)} (h : Win N base Qx ((r, x) :: W)) : Win N base (upd Qx (r % N) (dayq N (r % N) W)) W := by
 refine ⟨fun a ha => h.inw a (List.mem_cons_of_mem _ ha), fun q hq => ?_⟩
 by_cases e : q = r % N
 · subst e; rw [upd_at]
 · rw [upd_off _ _ _ e, h.que q hq, dayq_cons, if_neg (fun h => e h.symm)]
/-- The first day round about is the first one's. -/
theorem Win.first {N base r : Nat} {x : α} {Qx : Nat → List α} {W : List (Nat × α)} (h : Win N base Qx ((r, x) :: W)) (hr : Rises ((r, x) :: W)) {f at_ : Nat} (hf : base % N = f) (ha : at_ < N) (hq : Qx at_ ≠ [])
 (hc : (f ≤ at_ ∧ ∀ k, f ≤ k → k < at_ → Qx k = []) ∨ ((∀ k, f ≤ k → k < N → Qx k = []) ∧ ∀ k, k < at_ → Qx k = [])) : at_ = r % N ∧ r = base + (at_ + N - f) % N := by
 have h0 := h.inw _ (List.mem_cons_self ..)
 simp only at h0
 have hN : 0 < N := by omega
 have hfN : f < N := by rw [← hf]; exact Nat.mod_lt _ hN
 rw [h.que _ ha] at hq
 obtain ⟨a, ham, hae⟩ := dayq_some hq
 have h1 := h.inw a ham
 have hle : r ≤ a.1 := by
  rcases List.mem_cons.1 ham with rfl | ham
  · exact Nat.le_refl _
  · exact (List.pairwise_cons.1 hr).1 a ham
 have hrq : r % N < N := Nat.mod_lt _ hN
 have hne : Qx (r % N) ≠ [] := by rw [h.head]; simp
 have e1 := mod_off (base := base) (show r - base < N by omega)
 have e2 := mod_off (base := base) (show a.1 - base < N by omega)
 rw [show base + (r - base) = r by omega, hf] at e1
 rw [show base + (a.1 - base) = a.1 by omega, hf, hae] at e2
 have hkey : r % N = at_ := by
  rcases hc with ⟨c1, c2⟩ | ⟨c1, c2⟩
  · rcases Nat.lt_or_ge (r % N) at_ with hlt | hge
    · exfalso
      have : ¬ f ≤ r % N := fun hle => hne (c2 _ hle hlt)
      split at e1 <;> split at e2 <;> omega
    · split at e1 <;> split at e2 <;> omega
  · have hlt : r % N < f := Nat.lt_of_not_le fun hle => hne (c1 _ hle hrq)
    have hge : at_ ≤ r % N := Nat.le_of_not_lt fun hlt => hne (c2 _ hlt)
    split at e1 <;> split at e2 <;> omega
 have hra : r = a.1 := same_day h0.1 h0.2 h1.1 h1.2 (by rw [hkey, hae])
 refine ⟨hkey.symm, ?_⟩
 have e3 : (at_ + N - f) % N = r - base := by
  rw [← hkey, e1]
  split
  · rename_i hlt
    rw [show f + (r - base) + N - f = r - base + N by omega, Nat.add_mod_right]; exact Nat.mod_eq_of_lt (by omega)
  · rename_i hlt
    rw [show f + (r - base) - N + N - f = r - base by omega]; exact Nat.mod_eq_of_lt (by omega)
 omega
/-- The list M is what waits below, in the window, and above. -/
structure Cm (N base : Nat) (Qx : Nat → List α) (B W R M : List (Nat × α)) : Prop where
 eq : M = B ++ (W ++ R)
 ris : Rises M
 win : Win N base Qx W
 bel : ∀ a ∈ B, a.1 < base
 abo : ∀ a ∈ R, base + N ≤ a.1
theorem Cm.nil (N base : Nat) : Cm N base (fun _ => ([] : List α)) [] [] [] [] := ⟨rfl, List.Pairwise.nil, Win.nil N base, fun _ h => (by cases h), fun _ h => (by cases h)⟩
section
variable {N base : Nat} {Qx : Nat → List α} {B W R M : List (Nat × α)}
theorem Cm.len (h : Cm N base Qx B W R M) : M.length = B.length + W.length + R.length := by rw [h.eq]; simp; omega
/-- The window is about to begin at a rank: what is above may lie in it. -/
structure Tn (N base : Nat) (Qx : Nat → List α) (W R M : List (Nat × α)) : Prop where
 eq : M = W ++ R
 ris : Rises M
 win : Win N base Qx W
 low : ∀ a ∈ R, base ≤ a.1
theorem Tn.done (h : Tn N base Qx W R M) (h1 : ∀ a, R.head? = some a → base + N ≤ a.1) : Cm N base Qx [] W R M := by
 refine ⟨h.eq, h.ris, h.win, fun _ hb => (by cases hb), fun a ha => ?_⟩
 cases R with
 | nil => cases ha
 | cons b t =>
   have hb := h1 b rfl
   rcases List.mem_cons.1 ha with rfl | ha
   · exact hb
   · have := h.ris; rw [h.eq] at this
     have := (List.pairwise_cons.1 (List.pairwise_append.1 this).2.1).1 a ha
     omega
end
end
end Go.Proofs.YtpgpjjkeginbbaaGreatDoor.Cal
namespace Go.Proofs.YtpgpjjkeginbbaaGreatDoor
open Go.RowKit
/-- A thing in memory: what holds of a world and of the thing's blocks; it is kept where nobody writes to these. -/
structure Comp where
 P : World → (Nat → Prop) → Prop
 kp : ∀ {w w' : World} {o S : Nat → Prop}, P w o → Upd S w w' → (∀ k, o k → ¬ S k) → P w' o
 lt : ∀ {w : World} {o : Nat → Prop} {k : Nat}, P w o → o k → k < w.heap.size
/-- Things off each other, at the blocks own. -/
def Sep (w : World) : List Comp → (Nat → Prop) → Prop
 | [], own => ∀ k, ¬ own k
 | C :: l, own => ∃ o o', C.P w o ∧ Sep w l o' ∧ (∀ k, o k → ¬ o' k) ∧ ∀ k, own k ↔ o k ∨ o' k
theorem Sep.kp {w w' : World} {S : Nat → Prop} (hu : Upd S w w') : ∀ {l : List Comp} {own : Nat → Prop}, Sep w l own → (∀ k, own k → ¬ S k) → Sep w' l own
 | [], _, h, _ => h
 | C :: _, _, ⟨o, o', h1, h2, h3, h4⟩, hS => ⟨o, o', C.kp h1 hu (fun k hk => hS k ((h4 k).2 (.inl hk))), Sep.kp hu h2 (fun k hk => hS k ((h4 k).2 (.inr hk))), h3, h4⟩
theorem Sep.lt {w : World} : ∀ {l : List Comp} {own : Nat → Prop} {k : Nat}, Sep w l own → own k → k < w.heap.size
 | [], _, _, h, hk => absurd hk (h _)
 | C :: _, _, k, ⟨_, _, h1, h2, _, h4⟩, hk => ((h4 k).1 hk).elim (C.lt h1) (Sep.lt h2)
theorem Sep.old {w w' : World} {l : List Comp} {own : Nat → Prop} (h : Sep w l own) (hu : Upd Nowhere w w') : Sep w' l own := h.kp hu (fun _ _ h => h)
/-- They are one thing. -/
def sepC (l : List Comp) : Comp := ⟨fun w o => Sep w l o, fun h hu hS => Sep.kp hu h hS, fun h hk => Sep.lt h hk⟩
/-- One of them: what becomes of all if it alone is turned. -/
theorem Sep.focus {w : World} (C : Comp) (l2 : List Comp) : ∀ (l1 : List Comp) {own : Nat → Prop}, Sep w (l1 ++ C :: l2) own →
 ∃ o, C.P w o ∧ (∀ k, o k → own k) ∧ ∀ (w' : World) (o' : Nat → Prop) (C' : Comp), C'.P w' o' → (∀ k, o' k → o k ∨ w.heap.size ≤ k) → Upd o w w' →
  ∃ own', Sep w' (l1 ++ C' :: l2) own' ∧ (∀ k, own' k → own k ∨ w.heap.size ≤ k) ∧ Upd own w w'
 | [], _, ⟨o, o2, h1, h2, h3, h4⟩ => by
   refine ⟨o, h1, fun k hk => (h4 k).2 (.inl hk), fun w' o' C' hC ho hu => ⟨fun k => o' k ∨ o2 k, ⟨o', o2, hC, h2.kp hu (fun k hk h => h3 k h hk), fun k hk h => ?_, fun _ => Iff.rfl⟩, fun k hk => ?_, hu.mono fun k _ hk => (h4 k).2 (.inl hk)⟩⟩
   · rcases ho k hk with h5 | h5
     · exact h3 k h5 h
     · exact absurd (Sep.lt h2 h) (Nat.not_lt.2 h5)
   · rcases hk with hk | hk
     · exact (ho k hk).imp (fun h => (h4 k).2 (.inl h)) id
     · exact .inl ((h4 k).2 (.inr hk))
 | D :: l1, _, ⟨o1, o2, h1, h2, h3, h4⟩ => by
   obtain ⟨o, a1, a2, a3⟩ := Sep.focus C l2 l1 h2
   refine ⟨o, a1, fun k hk => (h4 k).2 (.inr (a2 k hk)), fun w' o' C' hC ho hu => ?_⟩
   obtain ⟨own', b1, b2, b3⟩ := a3 w' o' C' hC ho hu
   refine ⟨fun k => o1 k ∨ own' k, ⟨o1, own', D.kp h1 hu (fun k hk h => h3 k hk (a2 k h)), b1, fun k hk h => ?_, fun _ => Iff.rfl⟩, fun k hk => ?_, b3.mono fun k _ hk => (h4 k).2 (.inr hk)⟩
   · rcases b2 k h with h5 | h5
     · exact h3 k hk h5
     · exact absurd (D.lt h1 hk) (Nat.not_lt.2 h5)
   · rcases hk with hk | hk
     · exact .inl ((h4 k).2 (.inl hk))
     · exact (b2 k hk).imp (fun h => (h4 k).2 (.inr h)) id
/-- What a call leaves of the blocks own: nothing else is written, and what is own then was own, or is new. -/
structure Fol (w : World) (own : Nat → Prop) (w' : World) (own' : Nat → Prop) : Prop where
 at_ : ∀ k, own' k → own k ∨ w.heap.size ≤ k
 upd : Upd own w w'
theorem Fol.refl (w : World) (own : Nat → Prop) : Fol w own w own := ⟨fun _ h => .inl h, Upd.refl _ _⟩
theorem Fol.trans {w w1 w2 : World} {o o1 o2 : Nat → Prop} (h : Fol w o w1 o1) (h' : Fol w1 o1 w2 o2) : Fol w o w2 o2 :=
 ⟨fun k hk => (h'.at_ k hk).elim (h.at_ k) (fun h2 => .inr (Nat.le_trans h.upd.size h2)), h.upd.trans h'.upd (fun k hlt hk => (h.at_ k hk).elim id (fun h2 => absurd hlt (Nat.not_lt.2 h2)))⟩
theorem Fol.old {w w1 w2 : World} {o o1 : Nat → Prop} (h : Fol w o w1 o1) (hu : Upd Nowhere w1 w2) : Fol w o w2 o1 := h.trans ⟨fun _ h => .inl h, hu.any _⟩
theorem Fol.drewN {w w1 : World} {o o1 : Nat → Prop} (h : Fol w o w1 o1) (n : Nat) : Fol w o (w1.drewN n) o1 := h.old ((Upd.refl _ _).drewN n)
theorem Fol.sub {w w1 : World} {o o1 o2 : Nat → Prop} (h : Fol w o w1 o1) (hs : ∀ k, o2 k → o1 k) : Fol w o w1 o2 := ⟨fun k hk => h.at_ k (hs k hk), h.upd⟩
theorem Sep.foc {w : World} (C : Comp) (l2 l1 : List Comp) {own : Nat → Prop} (h : Sep w (l1 ++ C :: l2) own) :
 ∃ o, C.P w o ∧ (∀ k, o k → own k) ∧ ∀ (w' : World) (o' : Nat → Prop) (C' : Comp), C'.P w' o' → Fol w o w' o' → ∃ own', Sep w' (l1 ++ C' :: l2) own' ∧ Fol w own w' own' := by
 obtain ⟨o, h1, h2, h3⟩ := Sep.focus C l2 l1 h
 refine ⟨o, h1, h2, fun w' o' C' hC hf => ?_⟩
 obtain ⟨own', a1, a2, a3⟩ := h3 w' o' C' hC hf.at_ hf.upd
 exact ⟨own', a1, ⟨a2, a3⟩⟩
/-- One alone. -/
theorem Sep.one {w : World} {C : Comp} {o : Nat → Prop} (h : C.P w o) : Sep w [C] o := ⟨o, fun _ => False, h, fun _ h => h, fun _ _ h => h, fun _ => ⟨.inl, fun h => h.elim id False.elim⟩⟩
/-- One more. -/
theorem Sep.more {w w' : World} {l : List Comp} {own o : Nat → Prop} {C : Comp} (h : Sep w l own) (hu : Upd Nowhere w w') (hC : C.P w' o) (ho : ∀ k, o k → w.heap.size ≤ k) : Sep w' (C :: l) (fun k => o k ∨ own k) :=
 ⟨o, own, hC, h.old hu, fun k hk h1 => absurd (h.lt h1) (Nat.not_lt.2 (ho k hk)), fun _ => Iff.rfl⟩
/-- In any order. -/
theorem Sep.perm {w : World} {l l' : List Comp} (hp : l.Perm l') : ∀ {own : Nat → Prop}, Sep w l own → Sep w l' own := by
 induction hp with
 | nil => exact fun h => h
 | cons C _ ih => exact fun ⟨o, o', h1, h2, h3⟩ => ⟨o, o', h1, ih h2, h3⟩
 | swap C D l =>
   rintro own ⟨o1, o2, h1, ⟨o3, o4, h3, h4, h5, h6⟩, h7, h8⟩
   refine ⟨o3, fun k => o1 k ∨ o4 k, h3, ⟨o1, o4, h1, h4, fun k hk h => h7 k hk ((h6 k).2 (.inr h)), fun _ => Iff.rfl⟩, fun k hk h => ?_, fun k => ?_⟩
   · rcases h with h | h
     · exact h7 k h ((h6 k).2 (.inl hk))
     · exact h5 k hk h
   · rw [h8 k, h6 k]
     constructor
     · rintro (h | h | h)
       · exact .inr (.inl h)
       · exact .inl h
       · exact .inr (.inr h)
     · rintro (h | h | h)
       · exact .inr (.inl h)
       · exact .inl h
       · exact .inr (.inr h)
 | trans _ _ ih1 ih2 => exact fun h => ih2 (ih1 h)
theorem Sep.nil (w : World) : Sep w [] (fun _ => False) := fun _ h => h
/-- A block. -/
def blkC (b : Nat) (c : Array Value) (t : TypeId) : Comp := ⟨fun w o => Blk w b c t ∧ ∀ k, o k ↔ k = b, fun h hu hS => ⟨h.1.kept hu (hS _ ((h.2 _).2 rfl)), h.2⟩, fun h hk => by rw [(h.2 _).1 hk]; exact h.1.lt⟩
end Go.Proofs.YtpgpjjkeginbbaaGreatDoor
namespace Go.Proofs.YtpgpjjkeginbbaaGreatDoor
open Go.RowKit
/-- Things that were made since w0, off each other. -/
def Made (w0 w : World) (l : List Comp) : Prop := ∃ own, Sep w l own ∧ (∀ k, own k → w0.heap.size ≤ k) ∧ Upd Nowhere w0 w
section
variable {w0 w w' : World} {l : List Comp}
theorem Made.start (w : World) : Made w w [] := ⟨_, Sep.nil w, fun _ h => h.elim, Upd.refl _ _⟩
theorem Made.old (h : Made w0 w l) (hu : Upd Nowhere w w') : Made w0 w' l := by
 obtain ⟨own, h1, h2, h3⟩ := h
 exact ⟨own, h1.old hu, h2, h3.trans hu (fun _ _ h => h)⟩
theorem Made.upd (h : Made w0 w l) : Upd Nowhere w0 w := by obtain ⟨_, _, _, h3⟩ := h; exact h3
theorem Made.more (h : Made w0 w l) {C : Comp} {o : Nat → Prop} (hC : C.P w' o) (ho : ∀ k, o k → w.heap.size ≤ k) (hu : Upd Nowhere w w') : Made w0 w' (C :: l) := by
 obtain ⟨own, h1, h2, h3⟩ := h
 exact ⟨_, h1.more hu hC ho, fun k hk => hk.elim (fun h => Nat.le_trans h3.size (ho k h)) (h2 k), h3.trans hu (fun _ _ h => h)⟩
theorem Made.drop {C : Comp} (h : Made w0 w (C :: l)) : Made w0 w l := by
 obtain ⟨own, ⟨o, o', h1, h4, h5, h6⟩, h2, h3⟩ := h
 exact ⟨o', h4, fun k hk => h2 k ((h6 k).2 (.inr hk)), h3⟩
theorem Made.perm {l' : List Comp} (h : Made w0 w l) (hp : l.Perm l') : Made w0 w l' := by
 obtain ⟨own, h1, h2, h3⟩ := h
 exact ⟨own, h1.perm hp, h2, h3⟩
theorem Made.foc (C : Comp) (l2 l1 : List Comp) (h : Made w0 w (l1 ++ C :: l2)) :
 ∃ o, C.P w o ∧ (∀ k, o k → w0.heap.size ≤ k) ∧ ∀ (w' : World) (o' : Nat → Prop) (C' : Comp), C'.P w' o' → Fol w o w' o' → Made w0 w' (l1 ++ C' :: l2) := by
 obtain ⟨own, h1, h2, h3⟩ := h
 obtain ⟨o, a1, a2, a3⟩ := Sep.foc C l2 l1 h1
 refine ⟨o, a1, fun k hk => h2 k (a2 k hk), fun w' o' C' hC hf => ?_⟩
 obtain ⟨own', b1, b2⟩ := a3 w' o' C' hC hf
 exact ⟨own', b1, fun k hk => (b2.at_ k hk).elim (h2 k) (fun h4 => Nat.le_trans h3.size h4), h3.trans b2.upd (fun k hlt hk => absurd (h2 k hk) (Nat.not_le.2 hlt))⟩
end
end Go.Proofs.YtpgpjjkeginbbaaGreatDoor
namespace Go.Proofs.YtpgpjjkeginbbaaGreatDoor
open Go.RowKit
/-- A row of n things of W cells each: the slice v. -/
def rowW (T : TypeId) (W : Nat) (v : Value) (n : Nat) (xs : List Value) : Comp := ⟨fun w o => w.ownsRow 0 T W v n xs ∧ ∀ k, o k ↔ v.ownBlock = some k, fun h hu hS => ⟨ownsRow_upd h.1 hu (fun k hk => hS k ((h.2 k).2 hk)), h.2⟩, fun h hk => (h.1.lt _ ((h.2 _).1 hk)).2⟩
section
variable {T : TypeId} {W n c g : Nat} {xs : List Value} {w w' w0 : World} {o : Nat → Prop} {v : Value}
theorem rowW_arr (h : (rowW T W v n xs).P w o) (hn : 0 < n) : ∃ g c, v = .slice (some ⟨g, 0, none⟩) n c := by
 rcases h.1.2 with ⟨_, h0⟩ | ⟨g, c, cur, rfl, _⟩
 · omega
 · exact ⟨g, c, rfl⟩
theorem rowW_len (h : (rowW T W v n xs).P w o) : xs.length = n * W := h.1.1
/-- A cell of the row. -/
theorem rowW_cell (h : (rowW T W (.slice (some ⟨g, 0, none⟩) n c) n xs).P w o) {k : Nat} {u : Value} (hu : xs[k]? = some u) : w.cell? ⟨g, k, none⟩ = some u ∧ w.frozen? ⟨g, k, none⟩ = false := by
 obtain ⟨cur, hb, _, _, _, ht⟩ := Blk.own h.1
 have hlt : k < n * W := by
  rw [← rowW_len h]
  rcases Nat.lt_or_ge k xs.length with h' | h'
  · exact h'
  · rw [List.getElem?_eq_none h'] at hu; cases hu
 rw [← ht, List.getElem?_take_of_lt hlt] at hu
 exact ⟨hb.cellAt (by simpa using hu), hb.free _⟩
/-- A cell of the row, written. -/
theorem rowW_set (h : (rowW T W (.slice (some ⟨g, 0, none⟩) n c) n xs).P w o) (k : Nat) (u : Value) : (rowW T W (.slice (some ⟨g, 0, none⟩) n c) n (xs.set k u)).P (w.setCell ⟨g, k, none⟩ u) o ∧ Fol w o (w.setCell ⟨g, k, none⟩ u) o := by
 refine ⟨⟨?_, h.2⟩, ⟨fun k hk => .inl hk, Upd.setCell (S := o) (Upd.refl _ _) (fun _ => (h.2 g).2 rfl) u⟩⟩
 rcases h.1.2 with ⟨h0, _⟩ | ⟨g', c', cur, he, hb, hB, h1, h2, h3, h4⟩
 · cases h0
 · cases he
   refine ⟨by rw [List.length_set]; exact h.1.1, .inr ⟨g, c, _, rfl, hb, Blk.set hB k u, h1, h2, by simpa using h3, ?_⟩⟩
   rw [← h4]
   simp only [Array.toList_setIfInBounds, List.take_set]
theorem rowW_start {l : List Comp} (T : TypeId) (W : Nat) (h : Made w0 w l) : Made w0 w (rowW T W (.slice none 0 0) 0 [] :: l) :=
 h.more (C := rowW T W (.slice none 0 0) 0 []) (o := fun _ => False) ⟨ownsRow_nil _ _ _ _, fun k => ⟨fun h => h.elim, fun h => by simp [Value.ownBlock] at h⟩⟩ (fun _ h => h.elim) (Upd.refl _ _)
/-- What an append leaves. -/
theorem rowW_push {v' : Value} {ys : List Value} {n' : Nat} {w1 w2 : World} (h : (rowW T W v n xs).P w o) (hx : Upd Nowhere w w1) (ho : w2.ownsRow 0 T W v' n' ys) (hu : Upd (fun k => v.ownBlock = some k) w1 w2) (hn : OwnOrNew w1 v v') :
 (rowW T W v' n' ys).P w2 (fun k => v'.ownBlock = some k) ∧ Fol w o w2 (fun k => v'.ownBlock = some k) :=
 ⟨⟨ho, fun _ => Iff.rfl⟩, ⟨fun k hk => (hn k hk).imp (fun h9 => (h.2 k).2 h9) (fun h9 => Nat.le_trans hx.size h9), (hx.any _).trans hu (fun k _ hk => (h.2 k).2 hk)⟩⟩
end
end Go.Proofs.YtpgpjjkeginbbaaGreatDoor
namespace Go.Proofs.YtpgpjjkeginbbaaGreatDoor
open Go.RowKit

def slv (g : Option Nat) (len : Nat) : Value := match g with | none => .slice none 0 0 | some g => .slice (some ⟨g, 0, none⟩) len len

/-- The ring at block b: its array is block g, its things are xs, the first one at the place fr. -/
structure RingIn (T E : TypeId) (w : World) (b : Nat) (g : Option Nat) (room : Nat) (xs : List Value) (fr len : Nat) : Prop where
 blk : Blk w b #[slv g len, .int .i64 fr, .int .i64 xs.length, .int .i64 room] T
 le1 : xs.length ≤ len
 le2 : len ≤ room
 le3 : room ≤ 65536
 nil : g = none → len = 0 ∧ fr = 0
 arr : ∀ k, g = some k → k ≠ b ∧ fr < len ∧ ∃ cur : Array Value, Blk w k cur E ∧ cur.size = len ∧ ∀ i v, xs[i]? = some v → cur[(fr + i) % len]? = some v

def RingAt (T E : TypeId) (w : World) (b : Nat) (g : Option Nat) (room : Nat) (xs : List Value) : Prop := ∃ fr len, RingIn T E w b g room xs fr len

/-- The blocks of a ring. -/
def RingOf (b : Nat) (g : Option Nat) : Nat → Prop := fun k => k = b ∨ g = some k

/-- A ring's array is what it was, or new. -/
def SameOrNew (w : World) (g g' : Option Nat) : Prop := ∀ k, g' = some k → g = some k ∨ w.heap.size ≤ k

section
variable {T E : TypeId} {w w' : World} {b : Nat} {g : Option Nat} {room fr len : Nat} {xs : List Value}

theorem SameOrNew.refl (w : World) (g : Option Nat) : SameOrNew w g g := fun _ h => .inl h

theorem RingIn.kept (h : RingIn T E w b g room xs fr len) {S : Nat → Prop} (hu : Upd S w w') (hs : ∀ k, RingOf b g k → ¬ S k) : RingIn T E w' b g room xs fr len :=
 ⟨h.blk.kept hu (hs b (.inl rfl)), h.le1, h.le2, h.le3, h.nil, fun k hk => by
  obtain ⟨h1, h2, cur, h3, h4, h5⟩ := h.arr k hk
  exact ⟨h1, h2, cur, h3.kept hu (hs k (.inr hk)), h4, h5⟩⟩
theorem RingAt.kept (h : RingAt T E w b g room xs) {S : Nat → Prop} (hu : Upd S w w') (hs : ∀ k, RingOf b g k → ¬ S k) : RingAt T E w' b g room xs := by
 obtain ⟨fr, len, h⟩ := h; exact ⟨fr, len, h.kept hu hs⟩
theorem RingIn.c1 (h : RingIn T E w b g room xs fr len) : w.cell? ⟨b, 1, none⟩ = some (.int .i64 fr) := h.blk.cellAt rfl
theorem RingIn.c2 (h : RingIn T E w b g room xs fr len) : w.cell? ⟨b, 2, none⟩ = some (.int .i64 xs.length) := h.blk.cellAt rfl
theorem RingIn.lt (h : RingIn T E w b g room xs fr len) : b < w.heap.size := h.blk.lt
/-- The write of Put. -/
theorem RingIn.put {k : Nat} (h : RingIn T E w b (some k) room xs fr len) (hl : xs.length < len) (v : Value) (n : Int) (hn : n = xs.length + 1) :
 RingIn T E ((w.setCell ⟨k, (fr + xs.length) % len, none⟩ v).setCell ⟨b, 2, none⟩ (.int .i64 n)) b (some k) room (xs ++ [v]) fr len := by
 subst hn
 obtain ⟨h1, h2, cur, h3, h4, h5⟩ := h.arr k rfl
 have hb := (h.blk.setOther (a := ⟨k, (fr + xs.length) % len, none⟩) (Ne.symm h1) v).set 2 (.int .i64 (xs.length + 1))
 refine ⟨by simpa using hb, by simp; omega, h.le2, h.le3, (fun h => by cases h), fun k' hk' => ?_⟩
 obtain rfl : k = k' := by simpa using hk'
 refine ⟨h1, h2, _, (h3.set _ v).setOther (a := ⟨b, 2, none⟩) h1 _, by simpa using h4, fun i u hu => ?_⟩
 rcases Nat.lt_or_ge i xs.length with hi | hi
 · rw [List.getElem?_append_left hi] at hu
   have hne : (fr + xs.length) % len ≠ (fr + i) % len := by
    intro e
    rcases Nat.lt_or_ge (fr + i) len with ha | ha <;> rcases Nat.lt_or_ge (fr + xs.length) len with hc | hc
    · rw [Nat.mod_eq_of_lt ha, Nat.mod_eq_of_lt hc] at e; omega
    · rw [Nat.mod_eq_of_lt ha, Nat.mod_eq_sub_mod hc, Nat.mod_eq_of_lt (by omega)] at e; omega
    · omega
    · rw [Nat.mod_eq_sub_mod ha, Nat.mod_eq_sub_mod hc, Nat.mod_eq_of_lt (by omega), Nat.mod_eq_of_lt (by omega)] at e; omega
   rw [Array.getElem?_setIfInBounds_ne hne]
   exact h5 i u hu
 · have hi2 : i = xs.length := by
    rcases Nat.lt_or_ge i (xs.length + 1) with h' | h'
    · omega
    · rw [List.getElem?_eq_none (by simp; omega)] at hu; cases hu
   subst hi2
   have hu' : v = u := by simpa using hu
   subst hu'
   have hlt : (fr + xs.length) % len < cur.size := by rw [h4]; exact Nat.mod_lt _ (by omega)
   simp [hlt]

/-- The writes of Take. -/
theorem RingIn.take {k : Nat} {v : Value} (h : RingIn T E w b (some k) room (v :: xs) fr len) {w2 : World} {cur cur' : Array Value} (hu : Upd (fun i => i = k) w w2) (hc0 : Blk w k cur E) (hc : Blk w2 k cur' E)
 (hs : cur'.size = cur.size) (he : ∀ i, i ≠ fr → cur'[i]? = cur[i]?) :
 RingIn T E ((w2.setCell ⟨b, 1, none⟩ (.int .i64 ((fr + 1) % len : Nat))).setCell ⟨b, 2, none⟩ (.int .i64 xs.length)) b (some k) room xs ((fr + 1) % len) len := by
 obtain ⟨h1, h2, cur0, h3, h4, h5⟩ := h.arr k rfl
 obtain rfl : cur = cur0 := by
  unfold Blk at hc0 h3; rw [hc0] at h3; injection h3 with h3; injection h3
 have hb := ((h.blk.kept hu (Ne.symm h1)).set 1 (.int .i64 ((fr + 1) % len : Nat))).set 2 (.int .i64 xs.length)
 have hl1 := h.le1
 simp only [List.length_cons] at hl1
 refine ⟨by simpa using hb, by omega, h.le2, h.le3, (fun h => by cases h), fun k' hk' => ?_⟩
 obtain rfl : k = k' := by simpa using hk'
 refine ⟨h1, Nat.mod_lt _ (by omega), cur', (hc.setOther (a := ⟨b, 1, none⟩) h1 _).setOther (a := ⟨b, 2, none⟩) h1 _, by omega, fun i u hu => ?_⟩
 have hi : i < xs.length := by
  rcases Nat.lt_or_ge i xs.length with h' | h'
  · exact h'
  · rw [List.getElem?_eq_none h'] at hu; cases hu
 have e : ((fr + 1) % len + i) % len = (fr + (i + 1)) % len := by rw [Nat.mod_add_mod]; congr 1; omega
 rw [e, he _ (fun e2 => ?_)]
 · exact h5 (i + 1) u (by simpa using hu)
 · rcases Nat.lt_or_ge (fr + (i + 1)) len with ha | ha
   · rw [Nat.mod_eq_of_lt ha] at e2; omega
   · rw [Nat.mod_eq_sub_mod ha, Nat.mod_eq_of_lt (by omega)] at e2; omega

theorem Upd.two {S : Nat → Prop} {w : World} {a a' : Addr} (h : S a.block) (h' : S a'.block) (v v' : Value) : Upd S w ((w.setCell a v).setCell a' v') :=
 ((Upd.refl S w).setCell (fun _ => h) v).setCell (fun _ => h') v'
end
end Go.Proofs.YtpgpjjkeginbbaaGreatDoor
namespace Go.Proofs.YtpgpjjkeginbbaaGreatDoor.RingW
open Go.RowKit
open HeapW (putL putL_upd putL_blk setL setL_length)

theorem setL_ne : ∀ (vs l : List Value) (o i : Nat), i < o ∨ o + vs.length ≤ i → (setL l o vs)[i]? = l[i]?
 | [], _, _, _, _ => rfl
 | v :: r, l, o, i, h => by
   unfold setL
   simp only [List.length_cons] at h
   rw [setL_ne r _ _ i (by omega), List.getElem?_set, if_neg (by omega)]
theorem setL_in : ∀ (vs l : List Value) (o j : Nat) (v : Value), o + vs.length ≤ l.length → vs[j]? = some v → (setL l o vs)[o + j]? = some v
 | [], _, _, _, _, _, h => by cases h
 | a :: r, l, o, 0, v, hl, h => by
   simp only [List.length_cons] at hl
   unfold setL
   rw [setL_ne r _ _ _ (by omega), List.getElem?_set]
   have e : a = v := by simpa using h
   simp [e]; omega
 | a :: r, l, o, j + 1, v, hl, h => by
   simp only [List.length_cons] at hl
   unfold setL
   rw [show o + (j + 1) = o + 1 + j by omega]
   exact setL_in r _ (o + 1) j v (by simp; omega) (by simpa using h)

/-- The ring at block b: its array is block g, its things are xs, the first one at the place fr. -/
structure RingIn {α : Type} (K : α → List Value) (W : Nat) (T E : TypeId) (w : World) (b : Nat) (g : Option Nat) (room : Nat) (xs : List α) (fr len : Nat) : Prop where
 wid : ∀ x, (K x).length = W
 blk : Blk w b #[slv g len, .int .i64 fr, .int .i64 xs.length, .int .i64 room] T
 le1 : xs.length ≤ len
 le2 : len ≤ room
 le3 : room ≤ 65536
 nil : g = none → len = 0 ∧ fr = 0
 arr : ∀ k, g = some k → k ≠ b ∧ fr < len ∧ ∃ cur : Array Value, Blk w k cur E ∧ cur.size = len * W ∧ ∀ i x, xs[i]? = some x → ∀ j v, (K x)[j]? = some v → cur[((fr + i) % len) * W + j]? = some v

def RingAt {α : Type} (K : α → List Value) (W : Nat) (T E : TypeId) (w : World) (b : Nat) (g : Option Nat) (room : Nat) (xs : List α) : Prop := ∃ fr len, RingIn K W T E w b g room xs fr len

/-- What a call that changes a ring leaves. -/
def RingTurned {α : Type} (K : α → List Value) (W : Nat) (T E : TypeId) (w w' : World) (b : Nat) (g : Option Nat) (room : Nat) (xs : List α) : Prop :=
 ∃ g', RingAt K W T E w' b g' room xs ∧ SameOrNew w g g' ∧ Upd (RingOf b g) w w'

def RingGrown {α : Type} (K : α → List Value) (W : Nat) (T E : TypeId) (w w' : World) (b : Nat) (g : Option Nat) (room : Nat) (xs : List α) : Prop :=
 ∃ k fr len, RingIn K W T E w' b (some k) room xs fr len ∧ xs.length < len ∧ SameOrNew w g (some k) ∧ Upd (RingOf b g) w w'

section
variable {α : Type} {K : α → List Value} {W : Nat} {T E : TypeId} {w w' : World} {b : Nat} {g : Option Nat} {room fr len : Nat} {xs : List α}
theorem RingIn.kept (h : RingIn K W T E w b g room xs fr len) {S : Nat → Prop} (hu : Upd S w w') (hs : ∀ k, RingOf b g k → ¬ S k) : RingIn K W T E w' b g room xs fr len :=
 ⟨h.wid, h.blk.kept hu (hs b (.inl rfl)), h.le1, h.le2, h.le3, h.nil, fun k hk => by
  obtain ⟨h1, h2, cur, h3, h4, h5⟩ := h.arr k hk
  exact ⟨h1, h2, cur, h3.kept hu (hs k (.inr hk)), h4, h5⟩⟩
theorem RingIn.old (h : RingIn K W T E w b g room xs fr len) (hu : Upd Nowhere w w') : RingIn K W T E w' b g room xs fr len := h.kept hu (fun _ _ h => h)
theorem RingAt.kept (h : RingAt K W T E w b g room xs) {S : Nat → Prop} (hu : Upd S w w') (hs : ∀ k, RingOf b g k → ¬ S k) : RingAt K W T E w' b g room xs := by
 obtain ⟨fr, len, h⟩ := h; exact ⟨fr, len, h.kept hu hs⟩
theorem RingAt.old (h : RingAt K W T E w b g room xs) (hu : Upd Nowhere w w') : RingAt K W T E w' b g room xs := h.kept hu (fun _ _ h => h)
theorem RingIn.lt (h : RingIn K W T E w b g room xs fr len) : b < w.heap.size := h.blk.lt
theorem RingIn.lts (h : RingIn K W T E w b g room xs fr len) {k : Nat} (hk : RingOf b g k) : k < w.heap.size := by
 rcases hk with rfl | hk
 · exact h.lt
 · obtain ⟨_, _, cur, h3, _⟩ := h.arr k hk; exact h3.lt
theorem RingAt.lts (h : RingAt K W T E w b g room xs) {k : Nat} (hk : RingOf b g k) : k < w.heap.size := by
 obtain ⟨_, _, h⟩ := h; exact h.lts hk
theorem RingIn.atI (h : RingIn K W T E w b g room xs fr len) {i : Nat} {x : α} (hx : xs[i]? = some x) : ∃ k, g = some k ∧ ∀ j v, (K x)[j]? = some v → w.cell? ⟨k, ((fr + i) % len) * W + j, none⟩ = some v := by
 have hi : i < xs.length := by
  rcases Nat.lt_or_ge i xs.length with h' | h'
  · exact h'
  · rw [List.getElem?_eq_none h'] at hx; cases hx
 cases hg : g with
 | none => have := (h.nil hg).1; have := h.le1; omega
 | some k => obtain ⟨_, _, cur, h3, _, h5⟩ := h.arr k hg; exact ⟨k, rfl, fun j v hv => h3.cellAt (h5 i x hx j v hv)⟩

theorem slot_ne {len fr i n : Nat} (hi : i < n) (hn : n < len) (hf : fr < len) : (fr + n) % len ≠ (fr + i) % len := by
 intro e
 rcases Nat.lt_or_ge (fr + i) len with ha | ha <;> rcases Nat.lt_or_ge (fr + n) len with hc | hc
 · rw [Nat.mod_eq_of_lt ha, Nat.mod_eq_of_lt hc] at e; omega
 · rw [Nat.mod_eq_of_lt ha, Nat.mod_eq_sub_mod hc, Nat.mod_eq_of_lt (by omega)] at e; omega
 · omega
 · rw [Nat.mod_eq_sub_mod ha, Nat.mod_eq_sub_mod hc, Nat.mod_eq_of_lt (by omega), Nat.mod_eq_of_lt (by omega)] at e; omega
theorem row_apart {a c W i : Nat} (h : a ≠ c) (hi : i < W) : a * W + i < c * W ∨ c * W + W ≤ a * W + i := by
 rcases Nat.lt_or_ge a c with h1 | h1
 · have : (a + 1) * W ≤ c * W := Nat.mul_le_mul_right _ h1
   rw [Nat.add_mul, Nat.one_mul] at this; omega
 · have : (c + 1) * W ≤ a * W := Nat.mul_le_mul_right _ (by omega)
   rw [Nat.add_mul, Nat.one_mul] at this; omega
theorem row_fits {a n W : Nat} (h : a < n) : a * W + W ≤ n * W := by
 have : (a + 1) * W ≤ n * W := Nat.mul_le_mul_right _ h
 rw [Nat.add_mul, Nat.one_mul] at this; exact this
theorem get_len {β : Type} {l : List β} {i : Nat} {x : β} (h : l[i]? = some x) : i < l.length := by
 rcases Nat.lt_or_ge i l.length with h' | h'
 · exact h'
 · rw [List.getElem?_eq_none h'] at h; cases h
/-- Cells written into an array's place. -/
theorem cells_put {k : Nat} {cur : Array Value} {t : TypeId} (h : Blk w k cur t) (p : Nat) (vs : List Value) (hp : p + vs.length ≤ cur.size) :
 ∃ cur', Blk (putL w k p vs) k cur' t ∧ cur'.size = cur.size ∧ (∀ i, i < p ∨ p + vs.length ≤ i → cur'[i]? = cur[i]?) ∧ ∀ j v, vs[j]? = some v → cur'[p + j]? = some v := by
 obtain ⟨cur', h1, h2, h3⟩ := putL_blk vs (o := p) h
 refine ⟨cur', h1, h2, fun i hi => ?_, fun j v hv => ?_⟩
 · rw [← Array.getElem?_toList, h3, setL_ne vs _ _ _ hi, Array.getElem?_toList]
 · rw [← Array.getElem?_toList, h3]; exact setL_in vs _ _ _ _ (by simpa using hp) hv

/-- The write of Put. -/
theorem RingIn.put {k : Nat} (h : RingIn K W T E w b (some k) room xs fr len) (hl : xs.length < len) (x : α) (n : Int) (hn : n = xs.length + 1) {j : Nat} (hj : (fr + xs.length) % len = j) :
 RingIn K W T E ((putL w k (j * W) (K x)).setCell ⟨b, 2, none⟩ (.int .i64 n)) b (some k) room (xs ++ [x]) fr len := by
 subst hn
 subst hj
 obtain ⟨h1, h2, cur, h3, h4, h5⟩ := h.arr k rfl
 have hlt : (fr + xs.length) % len < len := Nat.mod_lt _ (by omega)
 have hfit := row_fits (W := W) hlt
 obtain ⟨cur', b1, b2, b3, b4⟩ := cells_put h3 ((fr + xs.length) % len * W) (K x) (by rw [h.wid]; omega)
 have hu : Upd (fun q => q = k) w (putL w k ((fr + xs.length) % len * W) (K x)) := putL_upd _ (Upd.refl _ _) (fun _ => rfl)
 have hb := (h.blk.kept hu (Ne.symm h1)).set 2 (.int .i64 (xs.length + 1))
 refine ⟨h.wid, by simpa using hb, by simp; omega, h.le2, h.le3, (fun h => by cases h), fun k' hk' => ?_⟩
 obtain rfl : k = k' := by simpa using hk'
 refine ⟨h1, h2, cur', b1.setOther (a := ⟨b, 2, none⟩) h1 _, by rw [b2]; exact h4, fun i u hu j v hv => ?_⟩
 rcases Nat.lt_or_ge i xs.length with hi | hi
 · rw [List.getElem?_append_left hi] at hu
   have hjW : j < W := by rw [← h.wid u]; exact get_len hv
   rw [b3 _ (by rw [h.wid]; exact row_apart (Ne.symm (slot_ne hi hl h2)) hjW)]
   exact h5 i u hu j v hv
 · have hi2 : i = xs.length := by
    have := get_len hu
    simp at this; omega
   subst hi2
   have hu' : x = u := by simpa using hu
   subst hu'
   exact b4 j v hv

/-- The writes of Take. -/
theorem RingIn.take {k : Nat} {x : α} (h : RingIn K W T E w b (some k) room (x :: xs) fr len) {w2 : World} {cur cur' : Array Value} (hu : Upd (fun i => i = k) w w2) (hc0 : Blk w k cur E) (hc : Blk w2 k cur' E)
 (hs : cur'.size = cur.size) (he : ∀ i, i < fr * W ∨ fr * W + W ≤ i → cur'[i]? = cur[i]?) {j : Nat} (hj : (fr + 1) % len = j) :
 RingIn K W T E ((w2.setCell ⟨b, 1, none⟩ (.int .i64 (j : Nat))).setCell ⟨b, 2, none⟩ (.int .i64 xs.length)) b (some k) room xs j len := by
 subst hj
 obtain ⟨h1, h2, cur0, h3, h4, h5⟩ := h.arr k rfl
 obtain rfl : cur = cur0 := by
  unfold Blk at hc0 h3; rw [hc0] at h3; injection h3 with h3; injection h3
 have hb := ((h.blk.kept hu (Ne.symm h1)).set 1 (.int .i64 ((fr + 1) % len : Nat))).set 2 (.int .i64 xs.length)
 have hl1 := h.le1
 simp only [List.length_cons] at hl1
 refine ⟨h.wid, by simpa using hb, by omega, h.le2, h.le3, (fun h => by cases h), fun k' hk' => ?_⟩
 obtain rfl : k = k' := by simpa using hk'
 refine ⟨h1, Nat.mod_lt _ (by omega), cur', (hc.setOther (a := ⟨b, 1, none⟩) h1 _).setOther (a := ⟨b, 2, none⟩) h1 _, by omega, fun i u hu j v hv => ?_⟩
 have hi := get_len hu
 have hjW : j < W := by rw [← h.wid u]; exact get_len hv
 have e : ((fr + 1) % len + i) % len = (fr + (i + 1)) % len := by rw [Nat.mod_add_mod]; congr 1; omega
 have hne : (fr + (i + 1)) % len ≠ fr := by
  have := slot_ne (len := len) (fr := fr) (i := 0) (n := i + 1) (by omega) (by omega) h2
  rw [show (fr + 0) % len = fr from Nat.mod_eq_of_lt h2] at this; exact this
 rw [e, he _ (row_apart hne hjW)]
 exact h5 (i + 1) u (by simpa using hu) j v hv
end

section
variable {P : Program}
theorem setRow_one (w : World) (g o : Nat) (e : TypeId) (zs : List Value) (cur : Array Value) (hg : Blk w g cur e) (hs : o + zs.length ≤ cur.size) (h1 : ∀ v ∈ zs, v.oneCell' = true) :
 ∃ cur', (storeCells ⟨g, o, none⟩ zs).run P w = .ok () (w.setRow g cur') ∧ cur'.size = cur.size ∧ ∀ i, i < o ∨ o + zs.length ≤ i → cur'[i]? = cur[i]? := by
 have hst := run_storeCells_at P g o e zs 0 cur w hg (by simpa using hs) h1
 simp only [Nat.add_zero] at hst
 refine ⟨_, hst, by simp; omega, fun i hi => ?_⟩
 rw [List.getElem?_toArray]
 rcases hi with h | h
 · rw [List.append_assoc, List.getElem?_append_left (by simp; omega), List.getElem?_take_of_lt h]; simp
 · rw [List.getElem?_append_right (by simp; omega), List.getElem?_drop]
   have e : o + zs.length + (i - (List.take o cur.toList ++ zs).length) = i := by simp; omega
   rw [e]; simp
/-- clear of one thing of many cells. -/
theorem wpList_clear1 {ops : Array Oper} {rest : List Oper} {o : Oper} {a : Act} {Q : Exit → Act → World → Prop} (hgd : o.guard = none) (x : Operand) (t : TypeId)
 (ho : o.op = .call { callee := .builtin .clear, args := #[x], argTypes := #[t] })
 (e : TypeId) (i : TypeInfo) (z : Value) (ht : P.underlying t = some (.slice e)) (hi : P.info? e = some i) (hz : i.zero = some z) (W : Nat) (hW : (Builtin.zeroCells z.cells 1).toList.length = W) (h1 : ∀ v ∈ (Builtin.zeroCells z.cells 1).toList, v.oneCell' = true)
 (w : World) (g off cap : Nat) (cur : Array Value) (hx : a.eval x = .slice (some ⟨g, off, none⟩) 1 cap) (hg : Blk w g cur e) (hs : off + W ≤ cur.size)
 (h : ∀ w' cur', Blk w' g cur' e → cur'.size = cur.size → (∀ i, i < off ∨ off + W ≤ i → cur'[i]? = cur[i]?) → Upd (fun k => k = g) w w' → wpList P ops Q rest (a.put o.dst (.tuple #[])) w') : wpList P ops Q (o :: rest) a w := by
 refine wpList_plain hgd fun K hK => ?_
 subst hW
 obtain ⟨cur', hst, c1, c2⟩ := setRow_one (P := P) w g off e (Builtin.zeroCells z.cells 1).toList cur hg hs h1
 have hrun : (Builtin.clear_ #[t] o.type #[.slice (some ⟨g, off, none⟩) 1 cap]).run P w = .ok (.tuple #[]) (w.setRow g cur') := by
  simp [Builtin.clear_, run_underlying ht, zeroValue, typeInfo, hi, hz, hst]
 unfold Oper.wp
 simp [execOp, ho, resolve, invoke, builtin, hx, hrun, Result.andThen]
 exact hK _ _ (h _ _ (setRow_eq w g _ cur e hg).1 c1 c2 (setRow_eq w g _ cur e hg).2)
end
end Go.Proofs.YtpgpjjkeginbbaaGreatDoor.RingW
namespace Go.Proofs.YtpgpjjkeginbbaaGreatDoor
open Go.RowKit
/-- A block that was new when the call began. -/
theorem Fol.ret {w w1 w2 : World} {o o1 : Nat → Prop} {rb : Nat} (h : Fol w o w1 o1) (hu : Upd (fun k => k = rb) w1 w2) (hs : w.heap.size ≤ rb) : Fol w o w2 o1 :=
 ⟨h.at_, h.upd.trans hu (fun k hlt hk => by omega)⟩
theorem Fol.off {w w1 : World} {o o1 : Nat → Prop} {rb : Nat} (h : Fol w o w1 o1) (hno : ¬ o rb) (hlt : rb < w.heap.size) : ¬ o1 rb := fun hk => (h.at_ rb hk).elim hno (fun h2 => absurd hlt (Nat.not_lt.2 h2))
theorem Fol.blk {w w1 : World} {o o1 : Nat → Prop} {rb : Nat} {c : Array Value} {t : TypeId} (h : Fol w o w1 o1) (hB : Blk w rb c t) (hno : ¬ o rb) : Blk w1 rb c t := hB.kept h.upd hno
/-- One cell of a block that is not own. -/
theorem Fol.cell {w w1 : World} {o o1 : Nat → Prop} {a : Addr} {v : Value} (h : Fol w o w1 o1) (hv : w.cell? a = some v) (hno : ¬ o a.block) : w1.cell? a = some v := by
 rw [World.cell?_of_block (w := w) (h.upd.block a.block (cell_lt hv) hno)]
 exact hv
/-- A write into that one block. -/
theorem Upd.setOne {w w1 : World} {rb : Nat} (h : Upd (fun k => k = rb) w w1) (o : Nat) (v : Value) : Upd (fun k => k = rb) w (w1.setCell ⟨rb, o, none⟩ v) := h.setCell (a := ⟨rb, o, none⟩) (fun _ => rfl) v
end Go.Proofs.YtpgpjjkeginbbaaGreatDoor
namespace Go.Proofs.YtpgpjjkeginbbaaGreatDoor
open Go.RowKit
section
variable {A B C D E : Comp} {l : List Comp}
theorem mem0 : A ∈ A :: l := List.mem_cons_self ..
theorem mem1 : A ∈ B :: A :: l := List.mem_cons_of_mem _ mem0
theorem mem2 : A ∈ B :: C :: A :: l := List.mem_cons_of_mem _ mem1
end
section
variable {w0 w w1 w' : World} {T : TypeId} {W n n' : Nat} {v v' : Value} {xs ys : List Value}
theorem Sep.has' {w : World} {C : Comp} : ∀ {l : List Comp} {own : Nat → Prop}, Sep w l own → C ∈ l → ∃ o, C.P w o ∧ ∀ k, o k → own k
 | _ :: _, _, ⟨o, o', h1, h2, _, h4⟩, hC => by
   rcases List.mem_cons.1 hC with rfl | hC
   · exact ⟨o, h1, fun k hk => (h4 k).2 (.inl hk)⟩
   · obtain ⟨o2, a1, a2⟩ := Sep.has' h2 hC
     exact ⟨o2, a1, fun k hk => (h4 k).2 (.inr (a2 k hk))⟩
theorem m_has {l : List Comp} {C : Comp} (h : Made w0 w l) (hC : C ∈ l) : ∃ o, C.P w o := by
 obtain ⟨own, hs, _⟩ := h
 obtain ⟨o, h1, _⟩ := Sep.has' hs hC
 exact ⟨o, h1⟩
theorem m_own {l : List Comp} (h : Made w0 w l) (hC : rowW T W v n xs ∈ l) : w.ownsRow 0 T W v n xs := by
 obtain ⟨o, h1⟩ := m_has h hC
 exact h1.1
theorem m_cell {l : List Comp} {g c k : Nat} {u : Value} (h : Made w0 w l) (hC : rowW T W (.slice (some ⟨g, 0, none⟩) n c) n xs ∈ l) (hu : xs[k]? = some u) : w.cell? ⟨g, k, none⟩ = some u := by
 obtain ⟨o, h1⟩ := m_has h hC
 exact (rowW_cell h1 hu).1
theorem m_arr {l : List Comp} (h : Made w0 w l) (hC : rowW T W v n xs ∈ l) (hn : 0 < n) : ∃ g c, v = .slice (some ⟨g, 0, none⟩) n c := by
 obtain ⟨o, h1⟩ := m_has h hC
 exact rowW_arr h1 hn
theorem row_form (h : w.ownsRow 0 T W v n xs) : ∃ ad c, v = .slice ad n c := by
 rcases h.2 with ⟨rfl, h0⟩ | ⟨g, c, cur, rfl, _⟩
 · exact ⟨none, 0, by rw [h0]⟩
 · exact ⟨_, c, rfl⟩
/-- A row that grows. -/
theorem m_row (Q1 Q2 : List Comp) (h : Made w0 w (Q1 ++ rowW T W v n xs :: Q2)) (hx : Upd Nowhere w w1) (ho : w'.ownsRow 0 T W v' n' ys) (hu : Upd (fun k => v.ownBlock = some k) w1 w') (hn : OwnOrNew w1 v v') : Made w0 w' (Q1 ++ rowW T W v' n' ys :: Q2) := by
 obtain ⟨o, h1, _, h3⟩ := Made.foc _ _ _ h
 obtain ⟨a1, a2⟩ := rowW_push h1 hx ho hu hn
 exact h3 w' _ _ a1 a2
/-- One more. -/
theorem m_more {l : List Comp} (h : Made w0 w l) (ho : w'.ownsRow w.heap.size T W v n xs) (hu : Upd Nowhere w w') : Made w0 w' (rowW T W v n xs :: l) :=
 h.more (C := rowW T W v n xs) (o := fun k => v.ownBlock = some k) ⟨ownsRow_base ho (Nat.zero_le _), fun _ => Iff.rfl⟩ (fun k hk => (ho.lt k hk).1) hu
theorem m_nil {l : List Comp} (h : Made w0 w l) (T : TypeId) (W : Nat) : Made w0 w (rowW T W (.slice none 0 0) 0 [] :: l) := m_more h (World.ownsRow_nil _ _ _ _) (Upd.refl _ _)
end
end Go.Proofs.YtpgpjjkeginbbaaGreatDoor
namespace Go.Proofs.YtpgpjjkeginbbaaGreatDoor
open Go.RowKit
section
variable {P : Program} {f : FuncId} {args : Array Value} {w w' B : World} {V : Value} {F : World → Prop}
theorem gk_call (hF : ∀ u, Upd Nowhere B u → F u) (h : Calls P f args w fun e w' => e = .returned V ∧ Upd Nowhere w w') (hS : Upd Nowhere B w ∧ F w) : Calls P f args w fun e w' => e = .returned V ∧ Upd Nowhere w w' ∧ Upd Nowhere B w' ∧ F w' :=
 h.mono fun _ _ ⟨x, y⟩ => ⟨x, y, hS.1.trans y (fun _ _ h => h), hF _ (hS.1.trans y (fun _ _ h => h))⟩
theorem gk_start (hF : ∀ u, Upd Nowhere B u → F u) (hu : Upd Nowhere B w) : Upd Nowhere B w ∧ F w := ⟨hu, hF _ hu⟩
end
end Go.Proofs.YtpgpjjkeginbbaaGreatDoor
namespace Go.Proofs.YtpgpjjkeginbbaaGreatDoor.Tab
/-- Slots: each unused, or a number and what is under it. -/
abbrev Sl (α : Type) := Nat → Option (Nat × α)
section
variable {α : Type}
/-- Does a search for a number end here? -/
def stop (s : Sl α) (id at_ : Nat) : Prop := match s at_ with
 | none => True
 | some (k, _) => k = id
/-- Where a search ends, from a place on, within so many steps. -/
def seek (s : Sl α) (N id : Nat) : Nat → Nat → Nat
 | 0, at_ => at_
 | f + 1, at_ => match s at_ with
   | none => at_
   | some (k, _) => if k = id then at_ else seek s N id f ((at_ + 1) % N)
theorem seek_stop {s : Sl α} {N id f at_ : Nat} (h : stop s id at_) : seek s N id f at_ = at_ := by
 cases f with
 | zero => rfl
 | succ f =>
   unfold stop at h
   unfold seek
   cases hs : s at_ with
   | none => rfl
   | some y =>
     obtain ⟨k, x⟩ := y
     rw [hs] at h
     dsimp only at h ⊢
     rw [if_pos h]
theorem seek_go {s : Sl α} {N id f at_ : Nat} (h : ¬ stop s id at_) : seek s N id (f + 1) at_ = seek s N id f ((at_ + 1) % N) := by
 conv => lhs; unfold seek
 cases hs : s at_ with
 | none => exact absurd (by unfold stop; rw [hs]; trivial) h
 | some y =>
   obtain ⟨k, x⟩ := y
   dsimp only
   rw [if_neg (fun e => h (by unfold stop; rw [hs]; exact e))]
/-- The first place at which it ends. -/
theorem seek_at {s : Sl α} {N id h D : Nat} (hD : stop s id ((h + D) % N)) : ∀ (r d f : Nat), d + r = D → r ≤ f → (∀ e, e < D → ¬ stop s id ((h + e) % N)) → seek s N id f ((h + d) % N) = (h + D) % N
 | 0, d, f, e1, _, _ => by
   have : d = D := by omega
   subst this
   exact seek_stop hD
 | r + 1, d, 0, _, hf, _ => by omega
 | r + 1, d, f + 1, e1, hf, hn => by
   rw [seek_go (hn d (by omega)), Nat.mod_add_mod, Nat.add_assoc]
   exact seek_at hD r (d + 1) f (by omega) (by omega) hn
/-- How many places lie between, going round. -/
def dist (N a b : Nat) : Nat := (b + N - a) % N
theorem dist_lt {N a b : Nat} (hN : 0 < N) : dist N a b < N := Nat.mod_lt _ hN
theorem dist_to {N a b : Nat} (ha : a < N) (hb : b < N) : (a + dist N a b) % N = b := by
 unfold dist
 rw [Nat.add_mod_mod, show a + (b + N - a) = b + N by omega, Nat.add_mod_right, Nat.mod_eq_of_lt hb]
theorem round_inj {N a d e : Nat} (hd : d < N) (he : e < N) (h : (a + d) % N = (a + e) % N) : d = e := by
 have h1 := Nat.mod_add_div (a + d) N
 have h2 := Nat.mod_add_div (a + e) N
 rw [h] at h1
 rcases Nat.lt_trichotomy ((a + d) / N) ((a + e) / N) with h3 | h3 | h3
 · have : N * ((a + d) / N) + N ≤ N * ((a + e) / N) := by
    have := Nat.mul_le_mul_left N (Nat.succ_le_of_lt h3)
    rw [Nat.mul_succ] at this
    exact this
   omega
 · rw [h3] at h1; omega
 · have : N * ((a + e) / N) + N ≤ N * ((a + d) / N) := by
    have := Nat.mul_le_mul_left N (Nat.succ_le_of_lt h3)
    rw [Nat.mul_succ] at this
    exact this
   omega
/-- How many slots of the first k are in use. -/
def cnt (s : Sl α) : Nat → Nat
 | 0 => 0
 | k + 1 => cnt s k + (if (s k).isSome = true then 1 else 0)
theorem cnt_none {s : Sl α} {k : Nat} (h : s k = none) : cnt s (k + 1) = cnt s k := by
 conv => lhs; unfold cnt
 rw [h]
 exact Nat.add_zero _
theorem cnt_some {s : Sl α} {k : Nat} {y : Nat × α} (h : s k = some y) : cnt s (k + 1) = cnt s k + 1 := by
 conv => lhs; unfold cnt
 rw [h]
 rfl
theorem cnt_le (s : Sl α) : ∀ k, cnt s k ≤ k
 | 0 => Nat.le_refl _
 | k + 1 => by
   have := cnt_le s k
   unfold cnt
   split <;> omega
theorem cnt_all {s : Sl α} : ∀ {k : Nat}, (∀ j, j < k → s j ≠ none) → cnt s k = k
 | 0, _ => rfl
 | k + 1, h => by
   unfold cnt
   rw [cnt_all (fun j hj => h j (by omega))]
   have := h k (by omega)
   cases hs : s k with
   | none => exact absurd hs this
   | some y => rfl
theorem cnt_gap {s : Sl α} {N : Nat} (h : cnt s N < N) : ∃ j, j < N ∧ s j = none := by
 refine Classical.byContradiction fun hc => ?_
 have := cnt_all (s := s) (k := N) (fun j hj e => hc ⟨j, hj, e⟩)
 omega
/-- Slots, but at one place. -/
def put (s : Sl α) (p : Nat) (y : Nat × α) : Sl α := fun j => if j = p then some y else s j
theorem put_at (s : Sl α) (p : Nat) (y : Nat × α) : put s p y p = some y := if_pos rfl
theorem put_ne (s : Sl α) {p j : Nat} (y : Nat × α) (h : j ≠ p) : put s p y j = s j := if_neg h
theorem cnt_put_ge {s : Sl α} {p : Nat} {y : Nat × α} : ∀ {k : Nat}, k ≤ p → cnt (put s p y) k = cnt s k
 | 0, _ => rfl
 | k + 1, h => by
   unfold cnt
   rw [cnt_put_ge (by omega), put_ne s y (by omega)]
theorem cnt_put_new {s : Sl α} {p : Nat} {y : Nat × α} (hs : s p = none) : ∀ {k : Nat}, p < k → cnt (put s p y) k = cnt s k + 1
 | 0, h => by omega
 | k + 1, h => by
   unfold cnt
   rcases Nat.lt_or_ge p k with h1 | h1
   · rw [cnt_put_new hs h1, put_ne s y (by omega)]; omega
   · have : p = k := by omega
     subst this
     rw [cnt_put_ge (Nat.le_refl _), put_at, hs]
     rfl
theorem cnt_put_old {s : Sl α} {p : Nat} {y z : Nat × α} (hs : s p = some z) : ∀ {k : Nat}, p < k → cnt (put s p y) k = cnt s k
 | 0, h => by omega
 | k + 1, h => by
   unfold cnt
   rcases Nat.lt_or_ge p k with h1 | h1
   · rw [cnt_put_old hs h1, put_ne s y (by omega)]
   · have : p = k := by omega
     subst this
     rw [cnt_put_ge (Nat.le_refl _), put_at, hs]
     rfl
/-- What is true of slots: a number lies once, behind its home with no gap between; one slot is unused. -/
structure Ok (s : Sl α) (N : Nat) (home : Nat → Nat) : Prop where
 hm : ∀ id, home id < N
 one : ∀ i j k x y, i < N → j < N → s i = some (k, x) → s j = some (k, y) → i = j
 run : ∀ j k x, j < N → s j = some (k, x) → ∀ d, d < dist N (home k) j → s ((home k + d) % N) ≠ none
 gap : cnt s N < N
section
variable {s : Sl α} {N id : Nat} {home : Nat → Nat}
/-- Where a number lies, or would. -/
def fnd (s : Sl α) (N : Nat) (home : Nat → Nat) (id : Nat) : Nat := seek s N id N (home id)
theorem Ok.pos (h : Ok s N home) : 0 < N := by have := h.gap; omega
/-- A search ends somewhere. -/
theorem Ok.ends (h : Ok s N home) (id : Nat) : ∃ D, D < N ∧ stop s id ((home id + D) % N) ∧ (∀ e, e < D → ¬ stop s id ((home id + e) % N)) ∧ fnd s N home id = (home id + D) % N := by
 obtain ⟨j, hj, hs⟩ := cnt_gap h.gap
 have hex : ∃ D, D < N ∧ stop s id ((home id + D) % N) := ⟨dist N (home id) j, dist_lt h.pos, by rw [dist_to (h.hm id) hj]; unfold stop; rw [hs]; trivial⟩
 have hmin : ∀ n, (∃ D, D ≤ n ∧ D < N ∧ stop s id ((home id + D) % N)) → ∃ D, D < N ∧ stop s id ((home id + D) % N) ∧ ∀ e, e < D → ¬ stop s id ((home id + e) % N) := by
  intro n
  induction n with
  | zero =>
    rintro ⟨D, h0, h1, h2⟩
    exact ⟨D, h1, h2, fun e he => by omega⟩
  | succ n ih =>
    rintro ⟨D, h0, h1, h2⟩
    by_cases hc : ∃ E, E ≤ n ∧ E < N ∧ stop s id ((home id + E) % N)
    · exact ih hc
    · exact ⟨D, h1, h2, fun e he hst => hc ⟨e, by omega, by omega, hst⟩⟩
 obtain ⟨D0, a1, a2⟩ := hex
 obtain ⟨D, b1, b2, b3⟩ := hmin D0 ⟨D0, Nat.le_refl _, a1, a2⟩
 refine ⟨D, b1, b2, b3, ?_⟩
 have := seek_at (N := N) (h := home id) b2 D 0 N (by omega) (by omega) b3
 rw [Nat.add_zero, Nat.mod_eq_of_lt (h.hm id)] at this
 exact this
theorem Ok.lt (h : Ok s N home) (id : Nat) : fnd s N home id < N := by
 obtain ⟨D, h1, _, _, e⟩ := h.ends id
 rw [e]
 exact Nat.mod_lt _ h.pos
/-- A number that lies there is found. -/
theorem Ok.found (h : Ok s N home) {j : Nat} {x : α} (hj : j < N) (hs : s j = some (id, x)) : fnd s N home id = j := by
 obtain ⟨D, h1, h2, h3, e⟩ := h.ends id
 rw [e]
 have hd := dist_lt (a := home id) (b := j) h.pos
 have hto := dist_to (h.hm id) hj
 have hst : stop s id ((home id + dist N (home id) j) % N) := by rw [hto]; unfold stop; rw [hs]
 rcases Nat.lt_trichotomy D (dist N (home id) j) with h4 | h4 | h4
 · have h5 := h.run j id x hj hs D h4
   unfold stop at h2
   cases hq : s ((home id + D) % N) with
   | none => exact absurd hq h5
   | some y =>
     obtain ⟨k, z⟩ := y
     rw [hq] at h2
     dsimp only at h2
     subst h2
     exact h.one _ _ _ _ _ (Nat.mod_lt _ h.pos) hj hq hs
 · rw [h4]; exact hto
 · exact absurd hst (h3 _ h4)
/-- What is at the place that is found: that number, or nothing. -/
theorem Ok.what (h : Ok s N home) (id : Nat) : s (fnd s N home id) = none ∨ ∃ x, s (fnd s N home id) = some (id, x) := by
 obtain ⟨D, h1, h2, h3, e⟩ := h.ends id
 rw [e]
 unfold stop at h2
 cases hq : s ((home id + D) % N) with
 | none => exact .inl rfl
 | some y =>
   obtain ⟨k, z⟩ := y
   rw [hq] at h2
   dsimp only at h2
   subst h2
   exact .inr ⟨z, rfl⟩
theorem Ok.absent (h : Ok s N home) (ha : ∀ j x, j < N → s j ≠ some (id, x)) : s (fnd s N home id) = none := by
 rcases h.what id with h1 | ⟨x, h1⟩
 · exact h1
 · exact absurd h1 (ha _ x (h.lt id))
/-- One more. -/
theorem Ok.put (h : Ok s N home) (x : α) (ha : ∀ j y, j < N → s j ≠ some (id, y)) (hc : cnt s N + 1 < N) : Ok (put s (fnd s N home id) (id, x)) N home := by
 have h0 := h.absent ha
 have hl := h.lt id
 refine ⟨h.hm, fun i j k y z hi hj h1 h2 => ?_, fun j k y hj h1 d hd => ?_, by rw [cnt_put_new h0 hl]; exact hc⟩
 · by_cases e1 : i = fnd s N home id
   · by_cases e2 : j = fnd s N home id
     · rw [e1, e2]
     · rw [e1, put_at] at h1
       cases h1
       rw [put_ne s _ e2] at h2
       exact absurd h2 (ha j z hj)
   · by_cases e2 : j = fnd s N home id
     · rw [e2, put_at] at h2
       cases h2
       rw [put_ne s _ e1] at h1
       exact absurd h1 (ha i y hi)
     · rw [put_ne s _ e1] at h1
       rw [put_ne s _ e2] at h2
       exact h.one i j k y z hi hj h1 h2
 · by_cases e : (home k + d) % N = fnd s N home id
   · rw [e, put_at]; exact fun h => by cases h
   · rw [put_ne s _ e]
     by_cases e1 : j = fnd s N home id
     · rw [e1, put_at] at h1
       cases h1
       obtain ⟨D, g1, g2, g3, g4⟩ := h.ends id
       have hD : dist N (home id) j = D := by
        rw [e1, g4]
        refine round_inj (a := home id) (dist_lt h.pos) g1 ?_
        rw [dist_to (h.hm id) (Nat.mod_lt _ h.pos)]
       rw [hD] at hd
       have h9 := g3 d hd
       intro hn
       exact h9 (by unfold stop; rw [hn]; trivial)
     · rw [put_ne s _ e1] at h1
       exact h.run j k y hj h1 d hd
/-- Another thing under a number. -/
theorem Ok.set (h : Ok s N home) {p : Nat} {x y : α} (hp : s p = some (id, x)) : Ok (Tab.put s p (id, y)) N home := by
 have hk : ∀ j k z, Tab.put s p (id, y) j = some (k, z) → ∃ z', s j = some (k, z') := fun j k z hj => by
  by_cases e : j = p
  · subst e; rw [put_at] at hj; cases hj; exact ⟨x, hp⟩
  · rw [put_ne s _ e] at hj; exact ⟨z, hj⟩
 refine ⟨h.hm, fun i j k a b hi hj h1 h2 => ?_, fun j k a hj h1 d hd => ?_, ?_⟩
 · obtain ⟨a', h3⟩ := hk i k a h1
   obtain ⟨b', h4⟩ := hk j k b h2
   exact h.one i j k a' b' hi hj h3 h4
 · obtain ⟨a', h3⟩ := hk j k a h1
   by_cases e : (home k + d) % N = p
   · rw [e, put_at]; exact fun h => by cases h
   · rw [put_ne s _ e]; exact h.run j k a' hj h3 d hd
 · by_cases hpN : p < N
   · rw [cnt_put_old hp hpN]; exact h.gap
   · rw [cnt_put_ge (by omega)]; exact h.gap
theorem ok_empty (hN : 0 < N) (hm : ∀ id, home id < N) : Ok (fun _ => (none : Option (Nat × α))) N home := by
 have hc : ∀ k, cnt (fun _ => (none : Option (Nat × α))) k = 0 := fun k => by
  induction k with
  | zero => rfl
  | succ k ih => unfold cnt; rw [ih]; rfl
 exact ⟨hm, (fun i j k x y _ _ h => nomatch h), (fun j k x _ h => nomatch h), by rw [hc]; exact hN⟩
end
/-- What slots hold: under each number a thing, or nothing. -/
def Of (s : Sl α) (N : Nat) (m : Nat → Option α) : Prop := ∀ id x, m id = some x ↔ ∃ j, j < N ∧ s j = some (id, x)
/-- A thing under a number. -/
def upm (m : Nat → Option α) (id : Nat) (x : α) : Nat → Option α := fun k => if k = id then some x else m k
section
variable {s : Sl α} {N id : Nat} {home : Nat → Nat} {m : Nat → Option α}
theorem Of.at_ (hm : Of s N m) (h : Ok s N home) (id : Nat) : s (fnd s N home id) = (m id).map fun x => (id, x) := by
 cases hi : m id with
 | none =>
   refine h.absent fun j x hj hs => ?_
   have := (hm id x).2 ⟨j, hj, hs⟩
   rw [hi] at this; cases this
 | some x =>
   obtain ⟨j, hj, hs⟩ := (hm id x).1 hi
   rw [h.found hj hs, hs]; rfl
theorem Of.put (hm : Of s N m) (h : Ok s N home) (hi : m id = none) (x : α) : Of (put s (fnd s N home id) (id, x)) N (upm m id x) := by
 have h0 : s (fnd s N home id) = none := by rw [hm.at_ h, hi]; rfl
 intro k y
 unfold upm
 by_cases e : k = id
 · subst e
   rw [if_pos rfl]
   refine ⟨fun h1 => ?_, fun ⟨j, hj, h1⟩ => ?_⟩
   · cases h1; exact ⟨_, h.lt k, put_at ..⟩
   · by_cases e1 : j = fnd s N home k
     · rw [e1, put_at] at h1; cases h1; rfl
     · rw [put_ne s _ e1] at h1
       have := (hm k y).2 ⟨j, hj, h1⟩
       rw [hi] at this; cases this
 · rw [if_neg e, hm k y]
   refine ⟨fun ⟨j, hj, h1⟩ => ⟨j, hj, ?_⟩, fun ⟨j, hj, h1⟩ => ⟨j, hj, ?_⟩⟩
   · by_cases e1 : j = fnd s N home id
     · rw [e1, h0] at h1; cases h1
     · rw [put_ne s _ e1]; exact h1
   · by_cases e1 : j = fnd s N home id
     · rw [e1, put_at] at h1; cases h1; exact absurd rfl e
     · rw [put_ne s _ e1] at h1; exact h1
theorem Of.set (hm : Of s N m) (h : Ok s N home) {x : α} (hi : m id = some x) (y : α) : Of (Tab.put s (fnd s N home id) (id, y)) N (upm m id y) := by
 have h0 : s (fnd s N home id) = some (id, x) := by rw [hm.at_ h, hi]; rfl
 intro k z
 unfold upm
 by_cases e : k = id
 · subst e
   rw [if_pos rfl]
   refine ⟨fun h1 => ?_, fun ⟨j, hj, h1⟩ => ?_⟩
   · cases h1; exact ⟨_, h.lt k, put_at ..⟩
   · by_cases e1 : j = fnd s N home k
     · rw [e1, put_at] at h1; cases h1; rfl
     · rw [put_ne s _ e1] at h1
       exact absurd (h.one _ _ _ _ _ hj (h.lt k) h1 h0) e1
 · rw [if_neg e, hm k z]
   refine ⟨fun ⟨j, hj, h1⟩ => ⟨j, hj, ?_⟩, fun ⟨j, hj, h1⟩ => ⟨j, hj, ?_⟩⟩
   · by_cases e1 : j = fnd s N home id
     · rw [e1, h0] at h1; cases h1; exact absurd rfl e
     · rw [put_ne s _ e1]; exact h1
   · by_cases e1 : j = fnd s N home id
     · rw [e1, put_at] at h1; cases h1; exact absurd rfl e
     · rw [put_ne s _ e1] at h1; exact h1
/-- What is in new slots once the first k of the old ones were laid there. -/
structure Moved (s : Sl α) (k : Nat) (t : Sl α) (M : Nat) (home2 : Nat → Nat) : Prop where
 ok : Ok t M home2
 n : cnt t M = cnt s k
 has : ∀ id x, (∃ j, j < M ∧ t j = some (id, x)) ↔ ∃ j, j < k ∧ s j = some (id, x)
theorem Moved.skip {k M : Nat} {t : Sl α} {home2 : Nat → Nat} (h : Moved s k t M home2) (hs : s k = none) : Moved s (k + 1) t M home2 := by
 refine ⟨h.ok, by rw [h.n, cnt_none hs], fun id x => ?_⟩
 rw [h.has]
 refine ⟨fun ⟨j, hj, e⟩ => ⟨j, by omega, e⟩, fun ⟨j, hj, e⟩ => ⟨j, ?_, e⟩⟩
 rcases Nat.lt_or_ge j k with h1 | h1
 · exact h1
 · have : j = k := by omega
   subst this
   rw [hs] at e; cases e
theorem Moved.add {k M : Nat} {t : Sl α} {home2 : Nat → Nat} {x : α} (h : Moved s k t M home2) (ho : Ok s N home) (hk : k < N) (hs : s k = some (id, x)) (hM : N < M) : Moved s (k + 1) (put t (fnd t M home2 id) (id, x)) M home2 := by
 have hab : ∀ j y, j < M → t j ≠ some (id, y) := fun j y hj e => by
  obtain ⟨i, hi, e2⟩ := (h.has id y).1 ⟨j, hj, e⟩
  have := ho.one _ _ _ _ _ (by omega) hk e2 hs
  omega
 have h0 := h.ok.absent hab
 have hcl := cnt_le s k
 refine ⟨h.ok.put x hab (by rw [h.n]; omega), ?_, fun a b => ?_⟩
 · rw [cnt_put_new h0 (h.ok.lt id), h.n, cnt_some hs]
 · refine ⟨fun ⟨j, hj, e⟩ => ?_, fun ⟨j, hj, e⟩ => ?_⟩
   · by_cases e1 : j = fnd t M home2 id
     · rw [e1, put_at] at e
       cases e
       exact ⟨k, by omega, hs⟩
     · rw [put_ne t _ e1] at e
       obtain ⟨i, hi, e2⟩ := (h.has a b).1 ⟨j, hj, e⟩
       exact ⟨i, by omega, e2⟩
   · rcases Nat.lt_or_ge j k with h1 | h1
     · obtain ⟨i, hi, e2⟩ := (h.has a b).2 ⟨j, h1, e⟩
       refine ⟨i, hi, ?_⟩
       by_cases e1 : i = fnd t M home2 id
       · rw [e1, h0] at e2; cases e2
       · rw [put_ne t _ e1]; exact e2
     · have : j = k := by omega
       subst this
       rw [hs] at e
       cases e
       exact ⟨_, h.ok.lt _, put_at ..⟩
theorem Moved.of {M : Nat} {t : Sl α} {home2 : Nat → Nat} (h : Moved s N t M home2) (hm : Of s N m) : Of t M m := fun id x => by rw [hm id x, h.has]
end
end
end Go.Proofs.YtpgpjjkeginbbaaGreatDoor.Tab
namespace Go.Proofs.YtpgpjjkeginbbaaGreatDoor
open Go.RowKit
open HeapW (putL setL putL_upd)
open RingW (row_fits row_apart)
/-- The cells of N places. -/
def slotL (f : Nat → List Value) (N : Nat) : List Value := (List.range N).flatMap f
section
variable {f : Nat → List Value} {W N : Nat}
theorem slotL_succ (f : Nat → List Value) (N : Nat) : slotL f (N + 1) = slotL f N ++ f N := by
 unfold slotL
 rw [List.range_succ, List.flatMap_append]
 simp
theorem slotL_len (h : ∀ j, (f j).length = W) : ∀ N, (slotL f N).length = N * W
 | 0 => by unfold slotL; simp
 | N + 1 => by rw [slotL_succ, List.length_append, slotL_len h N, h, Nat.succ_mul]
theorem slotL_at (h : ∀ j, (f j).length = W) : ∀ {N j r : Nat}, j < N → r < W → (slotL f N)[j * W + r]? = (f j)[r]?
 | 0, j, r, hj, _ => by omega
 | N + 1, j, r, hj, hr => by
   rw [slotL_succ]
   rcases Nat.lt_or_ge j N with h1 | h1
   · have := row_fits (W := W) h1
     rw [List.getElem?_append_left (by rw [slotL_len h]; omega)]
     exact slotL_at h h1 hr
   · have : j = N := by omega
     subst this
     rw [List.getElem?_append_right (by rw [slotL_len h]; omega), slotL_len h]
     congr 1
     omega
theorem slotL_congr {g : Nat → List Value} (h : ∀ j, j < N → f j = g j) : slotL f N = slotL g N := by
 induction N with
 | zero => rfl
 | succ N ih => rw [slotL_succ, slotL_succ, ih (fun j hj => h j (by omega)), h N (by omega)]
/-- A place, written. -/
def updF (f : Nat → List Value) (p : Nat) (l : List Value) : Nat → List Value := fun j => if j = p then l else f j
theorem slotL_set (h : ∀ j, (f j).length = W) {p o : Nat} {vs : List Value} (hp : p < N) (ho : o + vs.length ≤ W) : setL (slotL f N) (p * W + o) vs = slotL (updF f p (setL (f p) o vs)) N := by
 have hu : ∀ j, (updF f p (setL (f p) o vs) j).length = W := fun j => by
  unfold updF
  split
  · rw [HeapW.setL_length, h]
  · exact h j
 have hl := slotL_len h N
 have hl2 := slotL_len hu N
 have hpf := row_fits (W := W) hp
 apply List.ext_getElem?
 intro i
 rcases Nat.lt_or_ge i (N * W) with hi | hi
 · have hW : 0 < W := by
    rcases Nat.eq_zero_or_pos W with h0 | h0
    · rw [h0] at hi; omega
    · exact h0
   obtain ⟨j, r, hj, hr, rfl⟩ : ∃ j r, j < N ∧ r < W ∧ i = j * W + r := ⟨i / W, i % W, (Nat.div_lt_iff_lt_mul hW).2 hi, Nat.mod_lt _ hW, by rw [Nat.mul_comm]; exact (Nat.div_add_mod i W).symm⟩
   rw [slotL_at hu hj hr]
   unfold updF
   by_cases e : j = p
   · subst e
     rw [if_pos rfl]
     by_cases hin : o ≤ r ∧ r < o + vs.length
     · obtain ⟨t, rfl⟩ : ∃ t, r = o + t := ⟨r - o, by omega⟩
       have ht : t < vs.length := by omega
       obtain ⟨v, hv⟩ : ∃ v, vs[t]? = some v := ⟨vs[t], by simp [ht]⟩
       rw [RingW.setL_in vs (f j) o t v (by rw [h]; exact ho) hv, ← Nat.add_assoc, RingW.setL_in vs (slotL f N) (j * W + o) t v (by rw [hl]; omega) hv]
     · rw [RingW.setL_ne vs (f j) o r (by omega), RingW.setL_ne vs (slotL f N) (j * W + o) (j * W + r) (by omega), slotL_at h hj hr]
   · rw [if_neg e, RingW.setL_ne vs (slotL f N) (p * W + o) (j * W + r) ?_, slotL_at h hj hr]
     have := row_apart e hr
     omega
 · rw [List.getElem?_eq_none (by rw [HeapW.setL_length, hl]; exact hi), List.getElem?_eq_none (by rw [hl2]; exact hi)]
end
end Go.Proofs.YtpgpjjkeginbbaaGreatDoor

