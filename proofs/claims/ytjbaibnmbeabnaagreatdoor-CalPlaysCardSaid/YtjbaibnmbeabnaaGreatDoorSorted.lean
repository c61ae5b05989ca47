/- What a sort of the library does to memory, and to a list of which each is ahead of the later ones. No program in sight. -/
import Derived.Test.YtjbaibnmbeabnaaGreatDoorLaws
import Derived.Sort.Grow
import Derived.Sort.Statements
import Derived.Shelf.GgSortFunc.InsertionK
namespace Go.Proofs.YtjbaibnmbeabnaaGreatDoor
open Go.RowKit Go.Sort
section
variable {α : Type} [Inhabited α]
theorem upd_mapBlock (w : World) (blk : Nat) (f : Array Value → Array Value) : Upd (fun q => q = blk) w (mapBlock w blk f) := by
  refine ⟨rfl, rfl, rfl, by simp [mapBlock], fun k _ hk => ?_⟩
  have : blk ≠ k := fun e => hk e.symm
  simp [mapBlock, Array.getElem?_modify, this]
theorem upd_grow {S : Nat → Prop} {w w' : World} (h : Upd S w w') (os : Array Obj) : Upd S w (grow w' os) :=
  ⟨h.os, h.tape, h.output, by have := h.size; simp; omega, fun k hk hs => by rw [← h.block k hk hs]; exact heap_grow_old _ _ (Nat.lt_of_lt_of_le hk h.size)⟩
theorem upd_ahead {S : Nat → Prop} {w w' : World} (h : Upd S w w') (n : Nat) : Upd S w (Sort.ahead w' n) := ⟨h.os, h.tape, h.output, h.size, h.block⟩
theorem upd_sort (enc : α → List Value) (k : Nat) (w : World) (blk off m : Nat) (d : Array α) (os : Array Obj) : Upd (fun q => q = blk) w (sortWorldK enc k w blk off m d os) := by
  unfold sortWorldK putRowK putRow
  refine upd_grow ?_ os
  exact (upd_ahead (Upd.refl (fun q => q = blk) w) m).trans (upd_mapBlock _ _ _) (fun _ _ h => h)
/-- Ahead of all later ones, by an order that parts whatever is unlike. -/
theorem sorted_list (lt : α → α → Bool) (hirr : ∀ x y, lt x y = true → lt y x = false) {d d' : Array α} {s : List α} (hp : PermIn 0 d.size d d') (hs : SortedIn lt 0 d.size d')
    (h1 : s.Perm d.toList) (h2 : s.Pairwise (fun a b => lt a b = true)) : d'.toList = s := by
  have hsz : d'.size = d.size := hp.1
  have hpp : d'.toList.Perm d.toList := by
    have h := hp.2.2
    rw [← hsz] at h
    have e1 : d'.extract 0 d'.size = d' := by simp
    have e2 : d.extract 0 d'.size = d := by rw [hsz]; simp
    rwa [e1, e2] at h
  have hps : d'.toList.Perm s := hpp.trans h1.symm
  refine List.Perm.eq_of_pairwise (le := fun a b => lt b a = false) ?_ ?_ (h2.imp (fun h => hirr _ _ h)) hps
  · intro a b ha hb h3 h4
    have ha' : a ∈ s := hps.subset ha
    rcases List.mem_iff_getElem.1 ha' with ⟨i, hi, rfl⟩
    rcases List.mem_iff_getElem.1 hb with ⟨j, hj, rfl⟩
    rcases Nat.lt_trichotomy i j with hij | rfl | hij
    · rw [List.pairwise_iff_getElem.1 h2 i j hi hj hij] at h4; cases h4
    · rfl
    · rw [List.pairwise_iff_getElem.1 h2 j i hj hi hij] at h3; cases h3
  · refine List.pairwise_iff_getElem.2 (fun i j hi hj hij => ?_)
    have h := hs i j (Nat.zero_le _) hij (by rw [← hsz]; simpa using hj)
    rwa [getElem!_pos d' i (by simpa using hi), getElem!_pos d' j (by simpa using hj)] at h
end
theorem new_cellsB (w : World) (o : Obj) (c : Array Value) (t : TypeId) : ∀ (j : Nat) (u : Value), c.toList[j]? = some u → ((w.alloc o).alloc (.cells c t)).cell? ⟨w.heap.size + 1, j, none⟩ = some u := fun j u hu => by
  have h := new_cells (w.alloc o) c t j u hu
  simpa using h
end Go.Proofs.YtjbaibnmbeabnaaGreatDoor
