/- HeapSorts. -/
import Derived.Test.YtbegljpnjcggnaaHeapLives
import Derived.Test.YtbegljpnjcggnaaOpen
import Derived.Test.YtbegljpnjcggnaaClose
import Derived.Laws.MakeOwn
namespace Go.Proofs.Ytbegljpnjcggnaa.HeapI
open Go.RowKit Go.Proofs BigFrame Heap
set_option maxHeartbeats 400000
set_option maxRecDepth 1000000
/-- What came: the ranks, numbered. -/
structure Came (rs : List Nat) (k : Nat) (l : List En) : Prop where
  len : l.length = k
  mem : ∀ e ∈ l, ∃ j x, j < k ∧ rs[j]? = some x ∧ e = (x, j, (j : Int))
  nd : (l.map (·.2.1)).Nodup
theorem Came.push {rs : List Nat} {k x : Nat} {l : List En} (h : Came rs k l) (hx : rs[k]? = some x) : Came rs (k + 1) (pushL l (x, k, (k : Int))) := by
  have hp := push_perm l (x, k, (k : Int))
  refine ⟨by rw [push_length, h.len], fun e he => ?_, ?_⟩
  · rcases List.mem_cons.1 (hp.mem_iff.1 he) with rfl | he
    · exact ⟨k, x, Nat.lt_succ_self _, hx, rfl⟩
    · obtain ⟨j, y, h1, h2, h3⟩ := h.mem e he
      exact ⟨j, y, by omega, h2, h3⟩
  · rw [(hp.map _).nodup_iff, List.map_cons, List.nodup_cons]
    refine ⟨fun hm => ?_, h.nd⟩
    obtain ⟨e, he, heq⟩ := List.mem_map.1 hm
    obtain ⟨j, y, h1, _, rfl⟩ := h.mem e he
    simp only at heq
    omega
/-- What is still to leave. -/
structure Sorts (rs : List Nat) (gone : Nat → Bool) (n k : Nat) (last : Nat) (at_ : Int) (l : List En) : Prop where
  len : l.length + k = n
  mem : ∀ e ∈ l, ∃ j x, j < n ∧ rs[j]? = some x ∧ e = (x, j, (j : Int)) ∧ gone j = false
  nd : (l.map (·.2.1)).Nodup
  low : ∀ e ∈ l, last ≤ e.1 ∧ (0 < k → e.1 = last → at_ ≤ e.2.2)
def updB (f : Nat → Bool) (i : Nat) (x : Bool) : Nat → Bool := fun j => if j = i then x else f j
theorem Came.sorts {rs : List Nat} {n : Nat} {l : List En} (h : Came rs n l) : Sorts rs (fun _ => false) n 0 0 (-1) l :=
  ⟨by have := h.len; omega, fun e he => by obtain ⟨j, x, h1, h2, h3⟩ := h.mem e he; exact ⟨j, x, h1, h2, h3, rfl⟩, h.nd, fun e _ => ⟨Nat.zero_le _, fun h0 => absurd h0 (Nat.lt_irrefl _)⟩⟩
theorem Sorts.pop {rs : List Nat} {gone : Nat → Bool} {n k last : Nat} {at_ : Int} {l : List En} (h : Sorts rs gone n k last at_ l) (hh : IsHeap l) (hk : k < n) :
    ∃ j x, j < n ∧ rs[j]? = some x ∧ l[0]? = some (x, j, (j : Int)) ∧ gone j = false ∧ last ≤ x ∧ (0 < k → x = last → at_ ≤ (j : Int)) ∧ Sorts rs (updB gone j true) n (k + 1) x (j : Int) (popL l) := by
  cases l with
  | nil => have := h.len; simp at this; omega
  | cons a r =>
    obtain ⟨j, x, h1, h2, rfl, h4⟩ := h.mem _ (List.mem_cons_self ..)
    have hl := h.low _ (List.mem_cons_self ..)
    have hp := pop_perm (x, j, (j : Int)) r
    have hleast := heap_least hh (a := (x, j, (j : Int))) rfl
    have hnd := h.nd
    rw [List.map_cons, List.nodup_cons] at hnd
    refine ⟨j, x, h1, h2, rfl, h4, hl.1, hl.2, ?_, fun e he => ?_, ?_, fun e he => ?_⟩
    · have := h.len
      rw [hp.length_eq]
      simp at this
      omega
    · have her := hp.mem_iff.1 he
      obtain ⟨i, y, g1, g2, rfl, g4⟩ := h.mem e (List.mem_cons_of_mem _ her)
      refine ⟨i, y, g1, g2, rfl, ?_⟩
      have hne : i ≠ j := fun e => hnd.1 (List.mem_map.2 ⟨_, her, e⟩)
      unfold updB
      rw [if_neg hne]; exact g4
    · rw [(hp.map _).nodup_iff]; exact hnd.2
    · have her := hp.mem_iff.1 he
      have h5 := hleast e (List.mem_cons_of_mem _ her)
      obtain ⟨i, y, g1, g2, rfl, g4⟩ := h.mem e (List.mem_cons_of_mem _ her)
      rw [ahd_not] at h5
      simp only at h5 ⊢
      exact ⟨by omega, fun _ h6 => by omega⟩
abbrev TB : TypeId := 4
/-- Which left. -/
def Gone (w : World) (b n : Nat) (gone : Nat → Bool) : Prop := ∃ cur : Array Value, Blk w b cur TB ∧ cur.size = n ∧ ∀ i, i < n → cur[i]? = some (.bool (gone i))
theorem Gone.kept {w w' : World} {b n : Nat} {g : Nat → Bool} (h : Gone w b n g) {S : Nat → Prop} (hu : Upd S w w') (hs : ¬ S b) : Gone w' b n g := by
  obtain ⟨cur, h1, h2⟩ := h; exact ⟨cur, h1.kept hu hs, h2⟩
theorem Gone.lt {w : World} {b n : Nat} {g : Nat → Bool} (h : Gone w b n g) : b < w.heap.size := by obtain ⟨cur, h1, h2⟩ := h; exact h1.lt
theorem Gone.at_ {w : World} {b n : Nat} {g : Nat → Bool} (h : Gone w b n g) {i : Nat} (hi : i < n) : w.cell? ⟨b, i, none⟩ = some (.bool (g i)) ∧ w.frozen? ⟨b, i, none⟩ = false := by
  obtain ⟨cur, h1, h2, h3⟩ := h; exact ⟨h1.cellAt (h3 i hi), h1.free i⟩
theorem Gone.set {w : World} {b n : Nat} {g : Nat → Bool} (h : Gone w b n g) {i : Nat} (hi : i < n) (x : Bool) : Gone (w.setCell ⟨b, i, none⟩ (.bool x)) b n (updB g i x) := by
  obtain ⟨cur, h1, h2, h3⟩ := h
  refine ⟨_, h1.set i _, by simpa using h2, fun j hj => ?_⟩
  unfold updB
  by_cases hji : j = i
  · subst hji; rw [if_pos rfl]; exact Array.getElem?_setIfInBounds_self_of_lt (by omega)
  · rw [if_neg hji, Array.getElem?_setIfInBounds_ne (Ne.symm hji)]; exact h3 j hj
theorem infoB : (Try.prog.info? 4).map (fun i => (i.zero, i.size, i.bytes)) = some (some (.bool false), 1, 1) := by kernel_rfl
theorem sorts_big (ad : Option Addr) (n ca : Nat) (h : 400 < n) (w : World) :
    Calls Try.prog 3 #[.slice ad n ca] w fun e w' => e = .returned (.bool true) ∧ Upd Nowhere w w' := by
  have HL := fun u => Lib.hid (HeapS.lives u)
  have t1 : decide ((n : Int) > 400) = true := decide_eq_true (by omega)
  have t2 : decide (400 < n) = true := decide_eq_true h
  go_enter Try.func3, Try.ntmps3
  go_wp2_with fail
  refine ((HL _).out).mono ?_
  rintro e w1 ⟨rfl, u1⟩
  go_wp2_with fail
  go_ret
  exact ⟨rfl, u1⟩
theorem made_at' {cur : Array Value} {n : Nat} {z : Value} (h : cur.toList.take (n * 1) = (madeCells #[z] (n * 1)).toList) {i : Nat} (hi : i < n) : cur[i]? = some z := by
  have h1 : (cur.toList.take (n * 1))[i]? = some z := by rw [h]; simp [madeCells, Nat.mod_one, hi]
  rw [List.getElem?_take] at h1
  split at h1
  · simpa using h1
  · cases h1
theorem sorts_walk (ad : Option Addr) (n ca : Nat) (l : List Nat) (hl : l.length = n) (hn : n ≤ 400) (w : World) (h0 : ad = none → l = [])
    (hc : ∀ b, ad = some b → ∀ (j x : Nat), l[j]? = some x → b.spot = none ∧ w.cell? ⟨b.block, b.off + j, none⟩ = some (.int .u64 (x : Nat))) :
    Calls Try.prog 3 #[.slice ad n ca] w fun e w' => e = .returned (.bool true) ∧ Upd Nowhere w w' := by
  have HL := fun u => Lib.hid (HeapS.lives u)
  obtain ⟨ib, hbi, hbz0, hbz1, hbz2⟩ := info_parts infoB
  have t1 : decide ((n : Int) > 400) = false := decide_eq_false (by omega)
  have t2 : decide (400 < n) = false := decide_eq_false (by omega)
  obtain ⟨R, hR⟩ : ∃ R : Nat, max n 1 = R := ⟨_, rfl⟩
  have hmx1 : (if (n : Int) < 1 then (1 : Int) else n) = (R : Int) := by split <;> omega
  have hR1 : 1 ≤ R := by omega
  have hR2 : R ≤ 4096 := by omega
  have hnR : n ≤ R := by omega
  have HNW := Lib.hid (h_new R w w (fun _ => False) hR1 hR2 (Nat.le_refl _) (fun _ h => h.elim))
  have HC := Lib.hid hc
  have H0 := Lib.hid h0
  have HLN := Lib.hid hl
  clear hc h0 hl hR
  go_enter Try.func3, Try.ntmps3
  go_wp2_with fail
  refine (HNW.out).mono ?_
  rintro e w1 ⟨rfl, hh1, hu1⟩
  have HH1 := Lib.hid hh1
  have HU1 := Lib.hid hu1
  clear hh1 hu1 HNW hmx1
  go_wp2_with fail
  go_loopw [5, 6, 29] (fun _ _ i wr => ∃ (k : Nat) (m : List En), k ≤ n ∧ i = .int .i64 k ∧ H (fun _ => False) w wr w.heap.size k R m ∧ Came l k m ∧ Upd Nowhere w wr) (fun _ _ i _ => n - (intOf i).toNat)
  case atStart => exact ⟨0, [], by omega, rfl, HH1.out, ⟨rfl, (fun e h => by cases h), List.nodup_nil⟩, HU1.out⟩
  case round =>
    obtain ⟨k, m, hk, rfl, hH, hCM, hu⟩ := hrel
    obtain ⟨wB, rfl⟩ : ∃ x, x = wr := ⟨_, rfl⟩
    have HH := Lib.hid hH
    have HCM := Lib.hid hCM
    have HU := Lib.hid hu
    clear hH hCM hu HH1 HU1
    by_cases hlt : k < n
    · have hI : (k : Int) < n := by omega
      obtain ⟨x, hx⟩ : ∃ x, l[k]? = some x := ⟨l[k]'(by rw [HLN.out]; exact hlt), by simp⟩
      cases ad with
      | none => have := H0.out rfl; subst this; cases hx
      | some bb =>
        obtain ⟨hsp, hcell⟩ := HC.out bb rfl k x hx
        obtain ⟨gd, od, sp⟩ := bb
        obtain rfl : sp = none := hsp
        have k0 := cell_old HU.out hcell
        simp only at k0
        have HX := Lib.hid hx
        have HPU := Lib.hid (h_push HH.out (by rw [HCM.out.len]; omega) (by omega) x (k : Int))
        clear hx hcell
        go_wp2_with fail
        refine HPU.out.mono ?_
        rintro e w3 ⟨rfl, h3, u3⟩
        have H3 := Lib.hid h3
        have HU3 := Lib.hid ((HU.out.any (fun k => w.heap.size ≤ k)).trans u3 (fun _ _ h => h.1))
        clear h3 u3 HPU k0
        go_wp2_with fail
        go_roundw
        case rel => exact ⟨k + 1, _, by omega, by go_num, H3.out, HCM.out.push HX.out, HU3.out.nowhere⟩
        case measure => simp [intOf]; omega
    · obtain rfl : n = k := by omega
      have hszB := HU.out.size
      clear hk
      go_wp2_with (refine wpList_make_full _ rfl _ _ 30 rfl wB.heap.size 4 ib (.bool false) 1 Try.underlying30 hbi hbz0 hbz1 .i64 .i64 _ _ n rfl rfl rfl rfl (by rw [hbz2]; omega) (by unfold maxLen; omega) (Nat.le_refl _) ?_; intro w5 howng hgr)
      have hu5 : Upd Nowhere wB w5 := (Upd.refl Nowhere wB).grown hgr (fun k _ h => by cases h)
      obtain ⟨cur, hcur, _, _, hcs, hct⟩ := Blk.own howng
      have hcs' : cur.size = n := by omega
      have HA5 : Hid (H (fun q => q = wB.heap.size) w w5 w.heap.size n R m) := Lib.hid (HH.out.re hu5 (fun q hq => ⟨.inr (Nat.le_of_eq hq.symm), by rw [hq]; exact hcur.lt⟩))
      have HU5' := Lib.hid (HU.out.trans hu5 (fun _ _ h => h))
      have HG5 : Hid (Gone w5 wB.heap.size n (fun _ => false)) := Lib.hid ⟨cur, hcur, hcs', fun i hi => made_at' hct hi⟩
      have HS5 := Lib.hid (HCM.out.sorts)
      clear hu5 howng hgr hct hcs hcs' hcur HH HCM HU hbi hbz0 hbz1 hbz2
      obtain ⟨B, hB⟩ : ∃ B, wB.heap.size = B := ⟨_, rfl⟩
      rw [hB] at HA5 HG5 hszB ⊢
      clear hB
      go_loopw [8, 9, 10, 11, 12, 13, 45] (fun v8 v9 _ _ _ _ i wr => ∃ (k : Nat) (gn : Nat → Bool) (la : Nat) (at_ : Int), k ≤ n ∧ i = .int .i64 k ∧ v8 = .int .u64 la ∧ v9 = .int .i64 at_ ∧ (∃ m2, H (fun q => q = B) w wr w.heap.size n R m2 ∧ Sorts l gn n k la at_ m2) ∧ Gone wr B n gn ∧ Upd Nowhere w wr) (fun _ _ _ _ _ _ i _ => n - (intOf i).toNat)
      case atStart => exact ⟨0, _, 0, -1, by omega, rfl, rfl, rfl, ⟨m, HA5.out, HS5.out⟩, HG5.out, HU5'.out⟩
      case round =>
        obtain ⟨k, gn, la, at_, hk, rfl, rfl, rfl, ⟨m2, hH2, hS2⟩, hG2, hu2⟩ := hrel
        obtain ⟨wC, rfl⟩ : ∃ x, x = wr := ⟨_, rfl⟩
        have HH2 := Lib.hid hH2
        have HS2 := Lib.hid hS2
        have HG2 := Lib.hid hG2
        have HU2 := Lib.hid hu2
        clear hH2 hS2 hG2 hu2 HA5 HS5 HG5 HU5'
        by_cases hlt : k < n
        · have hI : (k : Int) < n := by omega
          obtain ⟨j, x, hj, hx, hm0, hgn, hla, hat, hS4⟩ := HS2.out.pop HH2.out.heap hlt
          have HPP := Lib.hid (h_pop HH2.out hm0)
          have HS4 := Lib.hid hS4
          have HJ := Lib.hid hj
          have HX := Lib.hid hx
          have HGN := Lib.hid hgn
          clear hS4 hx hm0 HS2 hgn
          cases ad with
          | none =>
            have h9 := HX.out
            rw [H0.out rfl] at h9
            cases h9
          | some bb =>
          obtain ⟨hsp, hcell⟩ := HC.out bb rfl j x HX.out
          obtain ⟨gd, od, sp⟩ := bb
          obtain rfl : sp = none := hsp
          have HCELL := Lib.hid hcell
          clear hcell
          go_wp2_with fail
          refine HPP.out.mono ?_
          rintro e w4 ⟨rfl, h4, u4⟩
          have H4' := Lib.hid h4
          have hUw : Upd Nowhere w w4 := ((HU2.out.any (fun q => w.heap.size ≤ q)).trans u4 (fun _ _ h => h.1)).nowhere
          have HG4 := Lib.hid (HG2.out.kept u4 (fun h => h.2 rfl))
          have HU4 := Lib.hid hUw
          clear h4 u4 hUw HPP HG2 HU2 HH2
          have k0 : w4.cell? ⟨gd, od + j, none⟩ = some (.int .u64 (x : Nat)) := cell_old HU4.out HCELL.out
          obtain ⟨k1, f1⟩ := HG4.out.at_ hj
          rw [HGN.out] at k1
          have b1 : decide ((j : Int) < 0) = false := by simp
          have b2 : decide (n ≤ j) = false := by simp; omega
          have b3 : decide (x < la) = false := by simp; omega
          have hB0 : w.heap.size ≤ B := hszB
          have H4 : Hid (H (fun q => q = B) w (w4.setCell ⟨B, j, none⟩ (.bool true)) w.heap.size n R (popL m2)) := Lib.hid (H4'.out.kept (Upd.setCell (S := fun q => q = B) (a := ⟨B, j, none⟩) (Upd.refl _ _) (fun _ => rfl) _) (fun q hq _ => .inl hq))
          have HU5 : Hid (Upd Nowhere w (w4.setCell ⟨B, j, none⟩ (.bool true))) := Lib.hid (HU4.out.setNew (a := ⟨B, j, none⟩) hB0 _)
          clear H4' HU4
          rcases Nat.eq_zero_or_pos k with hk0 | hk0
          · subst hk0
            clear hat
            go_wp2_with fail
            exact ⟨⟨1, updB gn j true, x, (j : Int), by omega, rfl, rfl, rfl, ⟨_, H4.out, HS4.out⟩, HG4.out.set HJ.out true, HU5.out⟩, by simp [intOf]; omega⟩
          · have hI2 : decide ((k : Int) > 0) = true := by simp; omega
            have hI3 : decide ((0 : Int) < k) = true := by simp; omega
            have hI4 : decide (0 < k) = true := by simp; omega
            by_cases hxl : x = la
            · have hle := hat hk0 hxl
              have b4 : decide ((j : Int) < at_) = false := by simp; omega
              subst hxl
              clear hat
              go_wp2_with fail
              go_roundw
              case rel =>
                exact ⟨k + 1, updB gn j true, x, (j : Int), by omega, by go_num, rfl, rfl, ⟨_, H4.out, HS4.out⟩, HG4.out.set HJ.out true, HU5.out⟩
              case measure => simp [intOf]; omega
            · have b5 : ((x : Int) == la) = false := by simp; omega
              have b6 : decide (x = la) = false := by simp; exact hxl
              clear hat
              go_wp2_with fail
              go_roundw
              case rel =>
                exact ⟨k + 1, updB gn j true, x, (j : Int), by omega, by go_num, rfl, rfl, ⟨_, H4.out, HS4.out⟩, HG4.out.set HJ.out true, HU5.out⟩
              case measure => simp [intOf]; omega
        · obtain rfl : n = k := by omega
          have hm0 : m2 = [] := List.eq_nil_of_length_eq_zero (by have := HS2.out.len; omega)
          subst hm0
          have HLN2 := Lib.hid (h_len HH2.out)
          have HLV := Lib.hid (HL wC)
          go_wp2_with fail
          refine HLN2.out.mono ?_
          rintro e w8 ⟨rfl, rfl⟩
          go_wp2_with fail
          refine HLV.out.out.mono ?_
          rintro e w9 ⟨rfl, u9⟩
          go_wp2_with fail
          go_ret
          exact ⟨rfl, HU2.out.trans u9 (fun _ _ h => h)⟩
theorem sorts_law (v : Value) (l : List Int) (w : World) (hr : RowAt w v (l.map (.int .u64))) (hw : ∀ n ∈ l, (Lit.int .u64 n).wf = true) :
    Calls Try.prog 3 #[v] w fun e w' => e = .returned (.bool true) ∧ Upd Nowhere w w' := by
  obtain ⟨ad, ca, rfl, h0, hc⟩ := hr
  have hlen : (l.map (Value.int .u64)).length = l.length := by simp
  rw [hlen]
  rcases Nat.lt_or_ge 400 l.length with hbig | hsm
  · exact sorts_big ad _ ca hbig w
  · refine sorts_walk ad l.length ca (l.map Int.toNat) (by simp) hsm w (fun h => by have := (h0 h).1; simpa using this) (fun b hb j x hx => ?_)
    rw [List.getElem?_map] at hx
    cases hy : l[j]? with
    | none => rw [hy] at hx; cases hx
    | some y =>
      rw [hy] at hx
      obtain rfl := Option.some.inj hx
      have hp := (bd64 (hw y (List.mem_of_getElem? hy))).1
      have := hc b hb j (.int .u64 y) (by rw [List.getElem?_map, hy]; rfl)
      rw [Int.toNat_of_nonneg hp]
      exact this
end Go.Proofs.Ytbegljpnjcggnaa.HeapI
