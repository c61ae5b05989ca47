/- HeapAll, HeapI7, one behind the other. -/
import Derived.Test.YtjbaibnmbeabnaaGreatDoorHeapLay
import Derived.Test.YtjbaibnmbeabnaaGreatDoorSorted
import Derived.Test.YtjbaibnmbeabnaaGreatDoorHeapMatch
import Derived.Test.YtjbaibnmbeabnaaGreatDoorMHeapI
import Derived.Deep.LoopGhost
namespace Go.Proofs.YtjbaibnmbeabnaaGreatDoor.HeapI
open Go.RowKit Go.Proofs BigFrame Heap Go.Sort
set_option maxHeartbeats 1000000
set_option maxRecDepth 1000000
abbrev TIt : TypeId := 73
theorem infoIt : (Tryz.prog.info? TIt).map (fun i => (i.zero, i.size, i.bytes)) = some (some (.agg #[.int .u64 0, .int .i64 0]), 2, 16) := by kernel_rfl
def encE (e : En) : List Value := [.int .u64 e.1, .int .u64 e.2.1, .int .i64 e.2.2]
theorem lt_cf (x y : En) : ltOf cf x y = ahd x y := by
  unfold ltOf cf
  cases h1 : ahd x y with
  | true => simp
  | false =>
    cases h2 : ahd y x <;> simp
theorem swo_cf : SWO (ltOf cf) where
  irrefl x := by rw [lt_cf]; exact ahd_self x
  trans x y z h1 h2 := by rw [lt_cf, ahd_iff] at *; omega
  ntrans x y z h1 h2 := by rw [lt_cf, ahd_not] at *; omega
theorem cmp_lays (blk off size : Nat) (w : World) : CmpLays Tryz.prog 67 #[] encE 3 cf blk off size w :=
  fun _ _ _ _ x y => compare_any x y _
theorem ents_flat (l : List En) : ∀ t, t < l.length * 3 → (ents (Value.int .i64) l)[t]? = some (flatK encE 3 l.toArray)[t]! := by
  intro t ht
  obtain ⟨q, r, hr, rfl⟩ : ∃ q r, r < 3 ∧ t = q * 3 + r := ⟨t / 3, t % 3, by omega, by omega⟩
  have hk : q < l.length := by omega
  obtain ⟨e, he⟩ : ∃ e, l[q]? = some e := ⟨l[q], by simp⟩
  obtain ⟨e0, e1, e2⟩ := ents_at (K := Value.int .i64) l q e he
  rw [get_flatK _ _ _ _ (by simpa using ht), show (q * 3 + r) / 3 = q by omega, show (q * 3 + r) % 3 = r by omega]
  have hg : l.toArray[q]! = e := by
    rw [getElem!_pos _ _ (by simpa using hk)]
    simpa [List.getElem?_eq_getElem hk] using he
  rw [hg]
  obtain rfl | rfl | rfl : r = 0 ∨ r = 1 ∨ r = 2 := by omega
  · exact e0
  · exact e1
  · exact e2
theorem entK {w : World} {g c : Nat} {l : List En} (h : Row (Value.int .i64) TE w (.slice (some ⟨g, 0, none⟩) l.length c) l) : HoldsK encE 3 w g 0 l.toArray := by
  intro t ht
  obtain ⟨cur, hb, _, h2, _, h3⟩ := Blk.own h
  have ht' : t < l.length * 3 := by simpa using ht
  refine ⟨?_, hb.free _⟩
  have h4 := ents_flat l t ht'
  rw [← h3, List.getElem?_take_of_lt ht'] at h4
  rw [Nat.zero_add]
  exact hb.cellAt (by simpa using h4)
theorem holds_at {w : World} {g : Nat} {l : List En} (h : HoldsK encE 3 w g 0 l.toArray) {i : Nat} {e : En} (he : l[i]? = some e) :
    w.cell? ⟨g, i * 3, none⟩ = some (.int .u64 e.1) ∧ w.cell? ⟨g, i * 3 + 1, none⟩ = some (.int .u64 e.2.1) ∧ w.cell? ⟨g, i * 3 + 2, none⟩ = some (.int .i64 e.2.2) := by
  have hi := get_lt he
  have hg : l.toArray[i]! = e := by
    rw [getElem!_pos _ _ (by simpa using hi)]
    simpa [List.getElem?_eq_getElem hi] using he
  have h0 := (HoldsK.cell h (i := i) (c := 0) (by simpa using hi) (by decide)).1
  have h1 := (HoldsK.cell h (i := i) (c := 1) (by simpa using hi) (by decide)).1
  have h2 := (HoldsK.cell h (i := i) (c := 2) (by simpa using hi) (by decide)).1
  rw [hg] at h0 h1 h2
  simp only [Nat.zero_add, Nat.add_zero] at h0 h1 h2
  exact ⟨h0, h1, h2⟩
theorem all_clone {w : World} {b came room g c : Nat} {l : List En} (h : HeapIn (Value.int .i64) TH TE w b (.slice (some ⟨g, 0, none⟩) l.length c) came room l) (hl : 0 < l.length) :
    Calls Tryz.prog 65 #[.slice (some ⟨g, 0, none⟩) l.length c] w fun e w' => ∃ g2 c2, e = .returned (.slice (some ⟨g2, 0, none⟩) l.length c2) ∧ HoldsK encE 3 w' g2 0 l.toArray ∧ w.heap.size ≤ g2 ∧ g2 < w'.heap.size ∧ Upd Nowhere w w' := by
  obtain ⟨i0, hi, hz0, hz1, hz2⟩ := info_parts infoE
  have hlen := h.le
  have hr2 := h.r2
  have hcon := AnyE.slices_Clone Tryz.cloneE i0 Z 3 24 hi hz0 hz1 hz2 rfl (by decide) Tryz.sizeOf103 g 0 l.length c (ents (Value.int .i64) l) w (ents_length l) (by simp [maxLen]; omega) (by omega)
    (fun j u hu => by
      obtain ⟨cur, hb, _, h2, _, h3⟩ := Blk.own h.row
      have hj : j < l.length * 3 := by
        rcases Nat.lt_or_ge j (l.length * 3) with h' | h'
        · exact h'
        · rw [List.getElem?_eq_none (by rw [ents_length]; exact h')] at hu; cases hu
      rw [← h3, List.getElem?_take_of_lt hj] at hu
      rw [Nat.zero_add]
      exact hb.cellAt (by simpa using hu))
    (fun u hu => by
      obtain ⟨j, hj⟩ := List.mem_iff_getElem?.1 hu
      have hj2 := (List.getElem?_eq_some_iff.1 hj).1
      rw [ents_length] at hj2
      have h4 := ents_flat l j hj2
      rw [hj] at h4
      rw [Option.some.inj h4, get_flatK _ _ _ _ (by simpa using hj2)]
      obtain h5 | h5 | h5 : j % 3 = 0 ∨ j % 3 = 1 ∨ j % 3 = 2 := by omega
      all_goals rw [h5]; rfl)
  change Calls Tryz.prog 65 _ _ _ at hcon
  refine hcon.mono ?_
  rintro e w' ⟨v', rfl, hown, _, hbel⟩
  obtain ⟨g2, c2, rfl⟩ : ∃ g2 c2, v' = .slice (some ⟨g2, 0, none⟩) l.length c2 := by
    rcases hown.2 with ⟨_, h0⟩ | ⟨g', c', cur, rfl, _⟩
    · omega
    · exact ⟨g', c', rfl⟩
  have hlt := hown.lt g2 rfl
  exact ⟨g2, c2, rfl, entK (ownsRow_base hown (Nat.zero_le _)), hlt.1, hlt.2, Upd.of_below hbel (fun k hk h2 => absurd hk (Nat.not_lt.2 h2))⟩
theorem all_sort {w : World} {g c : Nat} {l s : List En} (h : HoldsK encE 3 w g 0 l.toArray) (hg : g < w.heap.size) (hl : l.length ≤ 4096) (hp : s.Perm l) (hs : s.Pairwise (fun a b => ahd a b = true)) :
    Calls Tryz.prog 66 #[.slice (some ⟨g, 0, none⟩) l.length c, .func (.func 67) #[] #[]] w fun e w' => e = .returned (.tuple #[]) ∧ HoldsK encE 3 w' g 0 s.toArray ∧ Upd (fun q => q = g) w w' := by
  have eg : ∀ args w, (callFunc 67 args).run Tryz.prog w = .ok (.enter 67 args) w := enters_of Tryz.func67 (by kernel_rfl) rfl
  have hcon := AnyQ.slices_SortFunc Tryz.sortE 3 Tryz.isAgg103 Tryz.sizeOf103 encE (fun _ => rfl) (fun x v hv => by simp [encE] at hv; rcases hv with rfl | rfl | rfl <;> rfl) cf swo_cf 67 #[] g 0 c l.toArray w eg (cmp_lays g 0 _ w) h hg (by simp; omega)
  change Calls Tryz.prog 66 _ _ _ at hcon
  refine hcon.mono ?_
  rintro e w' ⟨rfl, d', n, os, hpi, hso, rfl⟩
  have hd : d'.toList = s := sorted_list (ltOf cf) (fun x y h => by rw [lt_cf] at *; exact ahd_asymm h) hpi hso hp (hs.imp (fun h => by rw [lt_cf]; exact h))
  have hd2 : d' = s.toArray := by rw [← hd]
  refine ⟨rfl, ?_, upd_sort _ _ _ _ _ _ _ _⟩
  rw [← hd2]
  refine holdsK_grow _ _ _ _ _ _ _ (by simp [putRowK, putRow, mapBlock, Sort.ahead]; exact hg) ?_
  exact holdsK_putRowK _ _ _ _ _ _ _ (holdsK_ahead _ _ _ _ _ _ _ h) hpi.1
theorem all_none {w : World} {b came room : Nat} {v : Value} (h : HeapIn (Value.int .i64) TH TE w b v came room ([] : List En)) :
    Calls Tryz.prog 38 #[.pointer (some ⟨b, 0, none⟩)] w fun e w' => ∃ v', e = .returned v' ∧ PRow TIt w.heap.size w' v' [] ∧ Upd Nowhere w w' := by
  have HL := Lib.hid (len_some h)
  clear h
  go_enter Tryz.func38, Tryz.ntmps38
  go_wp2_with fail
  refine (HL.out).mono ?_
  rintro e w' ⟨rfl, rfl⟩
  go_wp2_with fail
  go_ret
  exact ⟨_, rfl, PRow.nil _ _ _, Upd.refl _ _⟩
theorem all_some {w : World} {b came room : Nat} {v : Value} {l s : List En} (h : HeapIn (Value.int .i64) TH TE w b v came room l) (hl : 0 < l.length) (hp : s.Perm l) (hs : s.Pairwise (fun a b => ahd a b = true)) :
    Calls Tryz.prog 38 #[.pointer (some ⟨b, 0, none⟩)] w fun e w' => ∃ v', e = .returned v' ∧ PRow TIt w.heap.size w' v' (itms s) ∧ Upd Nowhere w w' := by
  obtain ⟨i0, hi, hz0, hz1, hz2⟩ := info_parts infoIt
  obtain ⟨g, c, rfl, _, _⟩ := Row.arr h.row hl
  have HL := Lib.hid (len_some h)
  have HC := Lib.hid (all_clone h hl)
  have hr := h.le
  have hr2 := h.r2
  have HS := fun (u : World) (g2 c2 : Nat) (h1 : HoldsK encE 3 u g2 0 l.toArray) (h2 : g2 < u.heap.size) => Lib.hid (all_sort (c := c2) h1 h2 (by omega) hp hs)
  obtain ⟨c0, c1, c2, z0, z1, z2⟩ := cells3 h.blk
  obtain ⟨n, hn⟩ : ∃ n, l.length = n := ⟨_, rfl⟩
  have hsn : s.length = n := by rw [hp.length_eq]; exact hn
  rw [hn] at HL HC HS c0 hl
  have hd : ((n : Int) == 0) = false := by simp; omega
  have hn4 : n ≤ 4096 := by omega
  have HSN := Lib.hid hsn
  clear h hp hs hn hsn hr hr2
  go_enter Tryz.func38, Tryz.ntmps38
  go_wp2_with fail
  refine (HL.out).mono ?_
  rintro e w' ⟨rfl, rfl⟩
  go_wp2_with fail
  refine HC.out.mono ?_
  rintro e w1 ⟨g2, cc2, rfl, hh1, hlo1, hhi1, hu1⟩
  have HH1 := Lib.hid hh1
  have HLO := Lib.hid hlo1
  have HU1 := Lib.hid hu1
  clear hh1 hlo1 hu1
  go_wp2_with fail
  refine (HS _ g2 _ (by exact HH1.out) (by exact hhi1)).out.mono ?_
  rintro e w2 ⟨rfl, hh2, hu2⟩
  have HH2 := Lib.hid hh2
  have hhi2 : g2 < w2.heap.size := Nat.lt_of_lt_of_le hhi1 hu2.size
  have HU2 := Lib.hid (HU1.out.trans hu2 (fun q hq e => absurd hq (Nat.not_lt.2 (by rw [e]; exact HLO.out))))
  clear hh2 hu2
  go_wp2_with fail
  go_loopw [4, 19] (fun ov i wr => ∃ (k : Nat), k ≤ n ∧ i = .int .i64 k ∧ PRow TIt w2.heap.size wr ov (itms (s.take k)) ∧ Upd Nowhere w2 wr) (fun _ i _ => n - (intOf i).toNat)
  case atStart => exact ⟨0, by omega, rfl, PRow.nil _ _ _, Upd.refl _ _⟩
  case round =>
    obtain ⟨k, hk, rfl, hP, hu⟩ := hrel
    obtain ⟨wB, rfl⟩ : ∃ x, x = wr := ⟨_, rfl⟩
    obtain ⟨ad2, cc3, rfl⟩ := hP.form
    have hkl : (itms (s.take k)).length = k := by rw [itms, List.length_map, List.length_take, HSN.out]; omega
    have hown0 : wB.ownsRow w2.heap.size TIt 2 (.slice ad2 (itms (s.take k)).length cc3) (itms (s.take k)).length (pcs (itms (s.take k))) := hP
    rw [hkl] at hown0 ⊢
    have HO := Lib.hid hown0
    have HU := Lib.hid hu
    clear hP hown0 hkl hu
    by_cases hlt : k < n
    · have hI : (k : Int) < n := by omega
      obtain ⟨a, ha⟩ : ∃ a, s[k]? = some a := ⟨s[k]'(by rw [HSN.out]; exact hlt), by simp⟩
      obtain ⟨b0, b1, b2⟩ := holds_at HH2.out ha
      have htk : s.take (k + 1) = s.take k ++ [a] := by rw [List.take_add_one, ha]; rfl
      have HTK := Lib.hid htk
      obtain ⟨a0, a1, a2⟩ := a
      have k0 : wB.cell? ⟨g2, k * 3, none⟩ = some (.int .u64 (a0 : Nat)) := cell_old HU.out b0
      have k1 : wB.cell? ⟨g2, k * 3 + 1, none⟩ = some (.int .u64 (a1 : Nat)) := cell_old HU.out b1
      have k2 : wB.cell? ⟨g2, k * 3 + 2, none⟩ = some (.int .i64 a2) := cell_old HU.out b2
      have hszB := HU.out.size
      clear b0 b1 b2 ha htk
      go_wp2_with (at_builtin; go_loud (refine wpList_push rfl _ _ 41 rfl w2.heap.size TIt i0 (.agg #[.int .u64 0, .int .i64 0]) 2 16 Tryz.underlying41 hi hz0 hz1 hz2 rfl (by decide) (by decide) (.slice ad2 k cc3) k _ rfl (ownsRow_upd HO.out (((Upd.refl _ _).alloc _).alloc _) (fun _ _ h => h)) (wB.heap.size + 1) 1 [.int .u64 a0, .int .i64 a2] rfl rfl (new_cellsB _ _ #[_, _] _) (by simp [Value.oneCell']) (by omega) (by simp; omega) ?_; intro v3 w3 hown hu hno))
      have HM := Lib.hid (PRow.push (l := itms (s.take k)) (n := k + 1) (a0, a2) (by rw [itms, List.length_map, List.length_take, HSN.out]; omega) hown)
      have HU3 := Lib.hid (HU.out.trans (((((Upd.refl Nowhere wB).alloc _).alloc _).any _).trans hu (fun _ _ h => h)) (fun q hq h => absurd hq (Nat.not_lt.2 (HO.out.lt q h).1)))
      clear hown hu hno
      go_wp2_with fail
      go_roundw
      case rel => exact ⟨k + 1, by omega, by go_num, by have := HM.out; rw [HTK.out, itms, List.map_append]; exact this, HU3.out⟩
      case measure => simp [intOf]; omega
    · obtain rfl : k = n := by omega
      have htk : itms (s.take k) = itms s := by rw [List.take_of_length_le (by rw [HSN.out]; exact Nat.le_refl _)]
      go_wp2_with fail
      go_ret
      refine ⟨_, rfl, ?_, HU2.out.trans HU.out (fun _ _ h => h)⟩
      have := HO.out
      rw [htk] at this
      unfold PRow
      rw [show (itms s).length = k by rw [itms, List.length_map]; exact HSN.out]
      exact ownsRow_base this HU2.out.size
end Go.Proofs.YtjbaibnmbeabnaaGreatDoor.HeapI
namespace Go.Proofs.YtjbaibnmbeabnaaGreatDoor.HeapI
open Go.RowKit Go.Proofs BigFrame Heap
set_option maxHeartbeats 1000000
theorem q_all {w : World} {b room c : Nat} {own : Nat → Prop} {m : List (Nat × Int)} (h : Hq w b own room c m) :
    Calls Tryz.prog 38 #[.pointer (some ⟨b, 0, none⟩)] w fun e w' => ∃ v', e = .returned v' ∧ PRow TIt w.heap.size w' v' m ∧ Upd Nowhere w w' := by
  obtain ⟨v, came, l, s, hh, h1, h2, h3, h4, ho⟩ := h
  have e : itms s = m := h3
  cases l with
  | nil =>
    have h9 := h2.perm.length_eq
    have h8 : s = [] := List.eq_nil_of_length_eq_zero h9
    subst h8
    rw [← e]
    exact all_none hh
  | cons a t =>
    rw [← e]
    exact all_some hh (by simp) h2.perm h2.ord
end Go.Proofs.YtjbaibnmbeabnaaGreatDoor.HeapI
