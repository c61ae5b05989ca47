/- wheel: the library's SortFunc at entries of int. -/
import Derived.Test.YtjbaibnmbeabnaaDoorWheelOrd
import Derived.Test.YtjbaibnmbeabnaaDoorWheelSort
import Derived.Test.YtjbaibnmbeabnaaDoorWheelState
import Derived.Test.YtjbaibnmbeabnaaDoorSorted
namespace Go.Proofs.YtjbaibnmbeabnaaDoor.Wheel
open Go.RowKit Go.Proofs BigFrame Heap Go.Sort
set_option maxHeartbeats 1000000
set_option maxRecDepth 1000000
theorem lt_cw (x y : En) : ltOf cw x y = ahd x y := by
  unfold ltOf cw
  rw [Bool.eq_iff_iff, ahd_iff, decide_eq_true_eq]
  by_cases h : x.1 = y.1
  · have e := (c3_eq x.1 y.1).2 h
    rw [if_neg (by rw [e]; simp), c3_lt]; omega
  · have e : c3 x.1 y.1 ≠ 0 := fun e => h ((c3_eq x.1 y.1).1 e)
    rw [if_pos e, c3_lt]; omega
theorem swo_cw : SWO (ltOf cw) where
  irrefl x := by rw [lt_cw]; exact ahd_self x
  trans x y z h1 h2 := by rw [lt_cw, ahd_iff] at *; omega
  ntrans x y z h1 h2 := by rw [lt_cw, ahd_not] at *; omega
theorem cmp_lays (blk off size : Nat) (w : World) : CmpLays Tryd.prog 55 #[] ec 3 cw blk off size w :=
  fun _ _ _ _ x y => order_any x y _
theorem es_flat (l : List En) : ∀ t, t < l.length * 3 → (es l)[t]? = some (flatK ec 3 l.toArray)[t]! := by
  intro t ht
  obtain ⟨q, r, hr, rfl⟩ : ∃ q r, r < 3 ∧ t = q * 3 + r := ⟨t / 3, t % 3, by omega, by omega⟩
  have hk : q < l.length := by omega
  obtain ⟨e, he⟩ : ∃ e, l[q]? = some e := ⟨l[q], by simp⟩
  obtain ⟨e0, e1, e2⟩ := ents_at (K := Value.int .i64) l q e he
  rw [get_flatK _ _ _ _ (by simpa using ht), show (q * 3 + r) / 3 = q by omega, show (q * 3 + r) % 3 = r by omega]
  have hg : l.toArray[q]! = e := by
    rw [getElem!_pos _ _ (by simpa using hk)]
    simpa [List.getElem?_eq_getElem hk] using he
  rw [hg]
  obtain rfl | rfl | rfl : r = 0 ∨ r = 1 ∨ r = 2 := by omega
  · exact e0
  · exact e1
  · exact e2
theorem esK {w : World} {g c : Nat} {l : List En} (h : w.ownsRow 0 TE 3 (.slice (some ⟨g, 0, none⟩) l.length c) l.length (es l)) : HoldsK ec 3 w g 0 l.toArray := by
  intro t ht
  obtain ⟨cur, hb, _, h2, _, h3⟩ := Blk.own h
  have ht' : t < l.length * 3 := by simpa using ht
  refine ⟨?_, hb.free _⟩
  have h4 := es_flat l t ht'
  rw [← h3, List.getElem?_take_of_lt ht'] at h4
  rw [Nat.zero_add]
  exact hb.cellAt (by simpa using h4)
theorem holds_at {w : World} {g : Nat} {l : List En} (h : HoldsK ec 3 w g 0 l.toArray) {i : Nat} {e : En} (he : l[i]? = some e) :
    w.cell? ⟨g, i * 3, none⟩ = some (.int .u64 (e.1 : Nat)) ∧ w.cell? ⟨g, i * 3 + 1, none⟩ = some (.int .u64 (e.2.1 : Nat)) ∧ w.cell? ⟨g, i * 3 + 2, none⟩ = some (.int .i64 e.2.2) := by
  have hi := get_lt he
  have hg : l.toArray[i]! = e := by
    rw [getElem!_pos _ _ (by simpa using hi)]
    simpa [List.getElem?_eq_getElem hi] using he
  have h0 := (HoldsK.cell h (i := i) (c := 0) (by simpa using hi) (by decide)).1
  have h1 := (HoldsK.cell h (i := i) (c := 1) (by simpa using hi) (by decide)).1
  have h2 := (HoldsK.cell h (i := i) (c := 2) (by simpa using hi) (by decide)).1
  rw [hg] at h0 h1 h2
  simp only [Nat.zero_add, Nat.add_zero] at h0 h1 h2
  exact ⟨h0, h1, h2⟩
theorem sort_any {w : World} {g c : Nat} {l s : List En} (h : HoldsK ec 3 w g 0 l.toArray) (hg : g < w.heap.size) (hl : l.length ≤ 999999) (hp : s.Perm l) (hs : s.Pairwise (fun a b => ahd a b = true)) :
    Calls Tryd.prog 54 #[.slice (some ⟨g, 0, none⟩) l.length c, .func (.func 55) #[] #[]] w fun e w' => e = .returned (.tuple #[]) ∧ HoldsK ec 3 w' g 0 s.toArray ∧ Upd (fun q => q = g) w w' := by
  have eg : ∀ args w, (callFunc 55 args).run Tryd.prog w = .ok (.enter 55 args) w := enters_of Tryd.func55 (by kernel_rfl) rfl
  have hcon := AnyQ.slices_SortFunc Tryd.sortW 3 Tryd.isAgg101 Tryd.sizeOf101 ec (fun _ => rfl) (fun x v hv => by simp [ec] at hv; rcases hv with rfl | rfl | rfl <;> rfl) cw swo_cw 55 #[] g 0 c l.toArray w eg (cmp_lays g 0 _ w) h hg (by simp; omega)
  change Calls Tryd.prog 54 _ _ _ at hcon
  refine hcon.mono ?_
  rintro e w' ⟨rfl, d', n, os, hpi, hso, rfl⟩
  have hd : d'.toList = s := sorted_list (ltOf cw) (fun x y h => by rw [lt_cw] at *; exact ahd_asymm h) hpi hso hp (hs.imp (fun h => by rw [lt_cw]; exact h))
  have hd2 : d' = s.toArray := by rw [← hd]
  refine ⟨rfl, ?_, upd_sort _ _ _ _ _ _ _ _⟩
  rw [← hd2]
  refine holdsK_grow _ _ _ _ _ _ _ (by simp [putRowK, putRow, mapBlock, Sort.ahead]; exact hg) ?_
  exact holdsK_putRowK _ _ _ _ _ _ _ (holdsK_ahead _ _ _ _ _ _ _ h) hpi.1
end Go.Proofs.YtjbaibnmbeabnaaDoor.Wheel
