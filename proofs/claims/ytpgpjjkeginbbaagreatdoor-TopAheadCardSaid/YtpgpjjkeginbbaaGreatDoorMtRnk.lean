/- Rnk0, Rnk1, Rnk2, Rnk3, Rnk4, Rnk5, Rnk6, Rnk7, one behind the other. -/
import Derived.Test.YtpgpjjkeginbbaaGreatDoorMtAdm
import Derived.Test.YtpgpjjkeginbbaaGreatDoorMtPl
import Derived.Test.YtpgpjjkeginbbaaGreatDoorMtA
import Derived.Test.YtpgpjjkeginbbaaGreatDoorMtTab
import Derived.Test.YtpgpjjkeginbbaaGreatDoorMtSat
import Derived.Lib.SliceRun
namespace Go.Proofs.YtpgpjjkeginbbaaGreatDoor.Rnk
open Go.RowKit Go.Proofs BigFrame
open Sh (Fl)
set_option maxHeartbeats 4000000
set_option maxRecDepth 1000000
set_option linter.unusedSimpArgs false
abbrev TFl : TypeId := 99
def KF (f : Fl) : List Value := [.int .u32 (f.id : Nat), .int .u64 (f.cost : Nat), .int .u64 (f.budget : Nat), .int .u64 (f.size : Nat), .int .u64 (f.cap : Nat)]
abbrev VF (i c b s m : Nat) : Value := .agg #[.int .u32 (i : Nat), .int .u64 (c : Nat), .int .u64 (b : Nat), .int .u64 (s : Nat), .int .u64 (m : Nat)]
/-- Flows in memory. -/
def FlsIn (w : World) (ad : Option Addr) (l : List Fl) : Prop := ∀ (k : Nat) (f : Fl), l[k]? = some f → ∃ g o, ad = some ⟨g, o, none⟩ ∧ w.cell? ⟨g, o + k * 5, none⟩ = some (.int .u32 (f.id : Nat)) ∧ w.cell? ⟨g, o + k * 5 + 1, none⟩ = some (.int .u64 (f.cost : Nat)) ∧ w.cell? ⟨g, o + k * 5 + 2, none⟩ = some (.int .u64 (f.budget : Nat)) ∧ w.cell? ⟨g, o + k * 5 + 3, none⟩ = some (.int .u64 (f.size : Nat)) ∧ w.cell? ⟨g, o + k * 5 + 4, none⟩ = some (.int .u64 (f.cap : Nat))
theorem FlsIn.old {w w' : World} {ad : Option Addr} {l : List Fl} (h : FlsIn w ad l) (hu : Upd Nowhere w w') : FlsIn w' ad l := fun k f hf => by
 obtain ⟨g, o, e, c0, c1, c2, c3, c4⟩ := h k f hf
 exact ⟨g, o, e, cell_old hu c0, cell_old hu c1, cell_old hu c2, cell_old hu c3, cell_old hu c4⟩
theorem next1_any {w : World} {pb i : Nat} (hp : w.cell? ⟨pb, 0, none⟩ = some (.int .u32 (i : Nat))) (x c b s m : Nat) :
 Calls Tryz.prog 109 #[VF x c b s m, .pointer (some ⟨pb, 0, none⟩)] w fun e w' => e = .returned (.bool (x == i)) ∧ Upd Nowhere w w' := by
 have hp2 : (w.alloc (.cells #[.int .u32 x, .int .u64 c, .int .u64 b, .int .u64 s, .int .u64 m] TFl)).cell? ⟨pb, 0, none⟩ = some (.int .u32 (i : Nat)) := cell_old ((Upd.refl _ _).alloc _) hp
 have b1 : ((x : Int) == (i : Int)) = (x == i) := by rw [Bool.eq_iff_iff]; simp; omega
 go_enter Tryz.func109, Tryz.ntmps109
 go_wp2_with fail
 go_ret
 exact ⟨by simp [b1], (Upd.refl _ _).alloc _⟩
theorem plc_at {l : List Fl} {x i : Nat} {f : Fl} (h1 : l[i]? = some f) (hx : f.id = x) (h2 : ∀ (j : Nat) (g : Fl), j < i → l[j]? = some g → g.id ≠ x) : Sh.plc l x = some i := by
 have hi : i < l.length := by
  rcases Nat.lt_or_ge i l.length with h | h
  · exact h
  · rw [List.getElem?_eq_none h] at h1; cases h1
 unfold Sh.plc
 rw [List.findIdx?_eq_some_iff_getElem]
 refine ⟨hi, ?_, fun j hj => ?_⟩
 · rw [List.getElem?_eq_getElem hi] at h1
   have := Option.some.inj h1
   rw [this]; simpa using hx
 · have := h2 j (l[j]'(by omega)) hj (List.getElem?_eq_getElem _)
   simpa using this
theorem plc_none {l : List Fl} {x : Nat} (h2 : ∀ (j : Nat) (g : Fl), l[j]? = some g → g.id ≠ x) : Sh.plc l x = none := by
 unfold Sh.plc
 rw [List.findIdx?_eq_none_iff]
 intro y hy
 obtain ⟨j, hj, e⟩ := List.getElem_of_mem hy
 have := h2 j y (by rw [List.getElem?_eq_getElem hj, e])
 simpa using this
theorem ifunc_any {w : World} {ad : Option Addr} {n c pb i : Nat} {l : List Fl} (hn : l.length = n) (hl : n ≤ 64) (hc : FlsIn w ad l) (hp : w.cell? ⟨pb, 0, none⟩ = some (.int .u32 (i : Nat))) :
 Calls Tryz.prog 108 #[.slice ad n c, .func (.func 109) #[] #[.pointer (some ⟨pb, 0, none⟩)]] w fun e w' => e = .returned (.int .i64 (match Sh.plc l i with | none => -1 | some k => k)) ∧ Upd Nowhere w w' := by
 obtain ⟨R, hR⟩ : ∃ R : Int, (match Sh.plc l i with | none => -1 | some k => k) = R := ⟨_, rfl⟩
 rw [hR]
 have HR := Lib.hid hR
 have HC := Lib.hid hc
 have HN := Lib.hid hn
 have HP := Lib.hid hp
 clear hR hc hn hp
 go_enter Tryz.func108, Tryz.ntmps108
 go_wp2_with fail
 go_loopg [5, 8] (n + 1) (fun gk _ v8 wr => ∃ (k : Nat), n - k < gk ∧ k ≤ n ∧ v8 = .int .i64 k ∧ Hid (∀ (j : Nat) (f : Fl), j < k → l[j]? = some f → f.id ≠ i) ∧ Upd Nowhere w wr)
 case atStart => exact ⟨0, by omega, Nat.zero_le _, rfl, Lib.hid (fun j y hj => absurd hj (Nat.not_lt_zero _)), Upd.refl _ _⟩
 case round =>
  obtain ⟨k, hgk, hin, rfl, HA, hu⟩ := hrel
  obtain ⟨wB, rfl⟩ : ∃ x, x = wr := ⟨_, rfl⟩
  have HGK := Lib.hid hgk
  have HU := Lib.hid hu
  clear hgk hu
  rcases Nat.lt_or_ge k n with hlt | hge
  · obtain ⟨f, hf⟩ : ∃ f, l[k]? = some f := ⟨l[k]'(by rw [HN.out]; exact hlt), by simp⟩
    obtain ⟨g, o, rfl, c0, c1, c2, c3, c4⟩ := (HC.out.old HU.out) k f hf
    have hI : (k : Int) < n := by omega
    have HF := Lib.hid hf
    obtain ⟨x, b, d, s, m⟩ := f
    dsimp only at c0 c1 c2 c3 c4
    have H1 := Lib.hid (next1_any (cell_old HU.out HP.out) x b d s m)
    by_cases e : x = i
    · have hRk : R = k := by
       rw [← HR.out, plc_at HF.out e HA.out]
      subst hRk
      subst e
      have b0 : (x == x) = true := by simp
      rw [b0] at H1
      clear hf b0
      go_wp2_with fail
      refine H1.out.mono ?_
      rintro y w3 ⟨rfl, u3⟩
      go_wp2_with fail
      go_ret
      exact ⟨rfl, HU.out.trans u3 (fun _ _ h => h)⟩
    · have b0 : (x == i) = false := by simpa using e
      rw [b0] at H1
      clear hf b0
      go_wp2_with fail
      refine H1.out.mono ?_
      rintro y w3 ⟨rfl, u3⟩
      have HU3 := Lib.hid (HU.out.trans u3 (fun _ _ h => h))
      clear c0 c1 c2 c3 c4 u3 H1
      go_wp2_with fail
      go_roundg (n - k)
      case rel =>
       refine ⟨k + 1, by omega, by omega, rfl, Lib.hid (fun j z hj hz => ?_), HU3.out⟩
       by_cases ej : j = k
       · subst ej; rw [HF.out] at hz; cases hz; exact e
       · exact HA.out j z (by omega) hz
      case measure => have := HGK.out; omega
  · obtain rfl : k = n := by omega
    have dI : decide ((k : Int) < k) = false := by simp
    have hRi : R = -1 := by
     rw [← HR.out, plc_none (fun j g hj => HA.out j g (by rcases Nat.lt_or_ge j l.length with h | h; exact (by rw [HN.out] at h; exact h); exact absurd hj (by rw [List.getElem?_eq_none h]; simp)) hj)]
    subst hRi
    go_wp2_with fail
    go_ret
    exact ⟨rfl, HU.out⟩
end Go.Proofs.YtpgpjjkeginbbaaGreatDoor.Rnk
namespace Go.Proofs.YtpgpjjkeginbbaaGreatDoor.Rnk
open Go.RowKit Go.Proofs BigFrame
open Sh (Fl)
open Adm (TU32)
set_option maxHeartbeats 4000000
set_option maxRecDepth 1000000
set_option linter.unusedSimpArgs false
theorem twice_no : ∀ {l : List Fl}, (l.map Fl.id).Nodup → Sh.twice l = false
 | [], _ => rfl
 | f :: l, h => by
   rw [List.map_cons, List.nodup_cons] at h
   unfold Sh.twice
   rw [twice_no h.2, Bool.or_false, List.any_eq_false]
   intro g hg
   have : g.id ≠ f.id := fun e => h.1 (by rw [← e]; exact List.mem_map_of_mem hg)
   simpa using this
theorem no_twice : ∀ {l : List Fl}, Sh.twice l = false → (l.map Fl.id).Nodup
 | [], _ => List.nodup_nil
 | f :: l, h => by
   unfold Sh.twice at h
   rw [Bool.or_eq_false_iff, List.any_eq_false] at h
   rw [List.map_cons, List.nodup_cons]
   refine ⟨fun hm => ?_, no_twice h.2⟩
   obtain ⟨g, hg, e⟩ := List.mem_map.1 hm
   exact h.1 g hg (by simpa using e)
/-- The first k ids. -/
def ids (l : List Fl) (k : Nat) : List Nat := (l.take k).map Fl.id
theorem ids_succ {l : List Fl} {k : Nat} {f : Fl} (h : l[k]? = some f) : ids l (k + 1) = ids l k ++ [f.id] := by
 unfold ids
 rw [List.take_add_one, h]
 simp
theorem ids_len {l : List Fl} {k : Nat} (h : k ≤ l.length) : (ids l k).length = k := by unfold ids; simp; omega
def rowU (l : List Nat) : List Value := l.map (fun x => .int .u32 (x : Nat))
theorem twice_yes {l : List Fl} {k : Nat} {f : Fl} (h : l[k]? = some f) (ha : (ids l k).any (· == f.id) = true) : Sh.twice l = true := by
 cases ht : Sh.twice l with
 | true => rfl
 | false =>
   have hn := no_twice ht
   have e : l.map Fl.id = ids l (k + 1) ++ (l.drop (k + 1)).map Fl.id := by unfold ids; rw [← List.map_append, List.take_append_drop]
   rw [e, ids_succ h] at hn
   have h2 := (List.nodup_append.1 hn).1
   rw [List.nodup_append] at h2
   obtain ⟨x, hx, e2⟩ := List.any_eq_true.1 ha
   exact absurd (by simpa using e2) (h2.2.2 x hx f.id (List.mem_singleton.2 rfl))
theorem ids_next {l : List Fl} {k : Nat} {f : Fl} (h : l[k]? = some f) (ha : (ids l k).any (· == f.id) = false) (hn : (ids l k).Nodup) : (ids l (k + 1)).Nodup := by
 rw [ids_succ h, List.nodup_append]
 refine ⟨hn, by simp, fun x hx y hy e => ?_⟩
 rw [List.mem_singleton] at hy
 rw [List.any_eq_false] at ha
 exact ha x hx (by simp [e, hy])
theorem infoU32 : (Tryz.prog.info? TU32).map (fun i => (i.zero, i.size, i.bytes)) = some (some (.int .u32 0), 1, 4) := by kernel_rfl
/-- A row of numbers, as a call sees it. -/
theorem row_cells {w : World} {base : Nat} {ad : Option Addr} {n c : Nat} {l : List Nat} (h : w.ownsRow base TU32 1 (.slice ad n c) n (rowU l)) : ∀ i x, l[i]? = some x → ∃ g o, ad = some ⟨g, o, none⟩ ∧ w.cell? ⟨g, o + i, none⟩ = some (.int .u32 (x : Nat)) := fun i x hx => by
 obtain ⟨ad', c', e, h1, h2⟩ := ownsRow_rowAt h
 injection e with e1 e2 e3
 subst e1
 have hv : (rowU l)[i]? = some (.int .u32 (x : Nat)) := by unfold rowU; rw [List.getElem?_map, hx]; rfl
 cases ad with
 | none => rw [(h1 rfl).1] at hv; cases hv
 | some b =>
   obtain ⟨hs, hc⟩ := h2 b rfl i _ hv
   obtain ⟨g, o, sp⟩ := b
   dsimp only at hs hc
   subst hs
   exact ⟨g, o, rfl, hc⟩
theorem twice_any {w : World} {ad : Option Addr} {n c : Nat} {l : List Fl} (hn : l.length = n) (hl : n ≤ 64) (hc : FlsIn w ad l) :
 Calls Tryz.prog 57 #[.slice ad n c] w fun e w' => e = .returned (.bool (Sh.twice l)) ∧ Upd Nowhere w w' := by
 obtain ⟨i0, hi, hz0, hz1, hz2⟩ := info_parts infoU32
 obtain ⟨R, hR⟩ : ∃ R, Sh.twice l = R := ⟨_, rfl⟩
 rw [hR]
 have HR := Lib.hid hR
 have HC := Lib.hid hc
 have HN := Lib.hid hn
 clear hR hc hn
 go_enter Tryz.func57, Tryz.ntmps57
 go_wp2_with fail
 go_loopg [3, 5, 8] (n + 1) (fun gk v3 _ v8 wr => ∃ (k : Nat) (a3 : Option Addr) (c3 : Nat), n - k < gk ∧ k ≤ n ∧ v3 = .slice a3 k c3 ∧ v8 = .int .i64 k ∧ Hid ((ids l k).Nodup) ∧ Hid (wr.ownsRow w.heap.size TU32 1 (.slice a3 k c3) k (rowU (ids l k))) ∧ Upd Nowhere w wr)
 case atStart => exact ⟨0, none, 0, by omega, Nat.zero_le _, rfl, rfl, Lib.hid List.nodup_nil, Lib.hid (World.ownsRow_nil _ _ _ _), Upd.refl _ _⟩
 case round =>
  obtain ⟨k, a3, c3, hgk, hin, rfl, rfl, HD, HO, hu⟩ := hrel
  obtain ⟨wB, rfl⟩ : ∃ x, x = wr := ⟨_, rfl⟩
  have HGK := Lib.hid hgk
  have HU := Lib.hid hu
  clear hgk hu
  rcases Nat.lt_or_ge k n with hlt | hge
  · obtain ⟨f, hf⟩ : ∃ f, l[k]? = some f := ⟨l[k]'(by rw [HN.out]; exact hlt), by simp⟩
    obtain ⟨g, o, rfl, q0, q1, q2, q3, q4⟩ := (HC.out.old HU.out) k f hf
    have hI : (k : Int) < n := by omega
    have HF := Lib.hid hf
    obtain ⟨x, b, d, s, m⟩ := f
    dsimp only at q0 q1 q2 q3 q4
    have hA : Upd Nowhere wB (wB.alloc (.cells #[.int .u32 x, .int .u64 b, .int .u64 d, .int .u64 s, .int .u64 m] TFl)) := (Upd.refl _ _).alloc _
    have HO2 := Lib.hid (ownsRow_upd HO.out hA (fun _ _ h => h))
    have HK := Lib.hid (Adm.contains_any (c := c3) (ids_len (by rw [HN.out]; exact hin)) (row_cells HO2.out) (by omega) x)
    have HU2 := Lib.hid (HU.out.alloc (.cells #[.int .u32 x, .int .u64 b, .int .u64 d, .int .u64 s, .int .u64 m] TFl))
    have hB : Blk (wB.alloc (.cells #[.int .u32 x, .int .u64 b, .int .u64 d, .int .u64 s, .int .u64 m] TFl)) wB.heap.size #[.int .u32 x, .int .u64 b, .int .u64 d, .int .u64 s, .int .u64 m] TFl := Blk.new _ _ _
    obtain ⟨B, hBB⟩ : ∃ B, (ids l k).any (· == x) = B := ⟨_, rfl⟩
    rw [hBB] at HK
    have HBB := Lib.hid hBB
    clear hf hBB HO
    go_wp2_with fail
    refine HK.out.mono ?_
    rintro y w3 ⟨rfl, rfl⟩
    generalize wB.alloc (.cells #[.int .u32 x, .int .u64 b, .int .u64 d, .int .u64 s, .int .u64 m] TFl) = w2 at *
    clear q0 q1 q2 q3 q4
    obtain ⟨c0, c1, c2, c4, c5, _, _, _, _, _⟩ := cells5 hB
    cases B with
    | true =>
      have hRt : R = true := by rw [← HR.out]; exact twice_yes HF.out HBB.out
      subst hRt
      go_wp2_with fail
      go_ret
      exact ⟨rfl, HU2.out⟩
    | false =>
      go_wp2_with (at_builtin; refine wpList_push rfl _ _ 276 rfl w.heap.size TU32 i0 (.int .u32 0) 1 4 Tryz.underlying276 hi hz0 hz1 hz2 rfl (by decide) (by decide) _ _ _ rfl (HO2.out.alloc _) w2.heap.size 1 [.int .u32 (x : Nat)] rfl rfl (new_cells _ #[_] _) (by simp [Value.oneCell']) (by omega) (by have := HU2.out.size; simp; omega) ?_; intro v4 w4 hown4 hu4 hn4; obtain ⟨ad4, c4', rfl⟩ : ∃ ad c, v4 = .slice ad (k + 1) c := by (rcases hown4.2 with ⟨rfl, h⟩ | ⟨g, cap, cur, rfl, _⟩); (exact absurd h (Nat.succ_ne_zero k)); (exact ⟨_, _, rfl⟩))
      have HOF : Hid (w4.ownsRow w.heap.size TU32 1 (.slice ad4 (k + 1) c4') (k + 1) (rowU (ids l (k + 1)))) := Lib.hid (by rw [ids_succ HF.out]; unfold rowU; rw [List.map_append]; exact hown4)
      have HUF : Hid (Upd Nowhere w w4) := Lib.hid ((HU2.out.alloc (.cells #[.int .u32 (x : Nat)] TU32)).trans hu4 (fun q hq hk => absurd hq (Nat.not_lt.2 (HO2.out.lt q hk).1)))
      clear hown4 hu4 hn4
      go_roundg (n - k)
      case rel => exact ⟨k + 1, ad4, c4', by omega, by omega, rfl, rfl, Lib.hid (ids_next HF.out HBB.out HD.out), HOF, HUF.out⟩
      case measure => have := HGK.out; omega
  · obtain rfl : k = n := by omega
    have dI : decide ((k : Int) < k) = false := by simp
    have hRf : R = false := by
     rw [← HR.out]
     refine twice_no ?_
     have := HD.out
     unfold ids at this
     rw [← HN.out, List.take_length] at this
     exact this
    subst hRf
    go_wp2_with fail
    go_ret
    exact ⟨rfl, HU.out⟩
end Go.Proofs.YtpgpjjkeginbbaaGreatDoor.Rnk
namespace Go.Proofs.YtpgpjjkeginbbaaGreatDoor.Rnk
open Go.RowKit Go.Proofs BigFrame
open Sh (Fl)
open HeapW (putL setL putL_upd)
set_option maxHeartbeats 4000000
set_option maxRecDepth 1000000
set_option linter.unusedSimpArgs false
abbrev TRk : TypeId := 189
abbrev TU64 : TypeId := 25
theorem FlsIn.kept {w w' : World} {g : Nat} {l : List Fl} (h : FlsIn w (some ⟨g, 0, none⟩) l) {S : Nat → Prop} (hu : Upd S w w') (hg : ¬ S g) : FlsIn w' (some ⟨g, 0, none⟩) l := fun k f hf => by
 obtain ⟨g', o, e, c0, c1, c2, c3, c4⟩ := h k f hf
 cases e
 have hlt := cell_lt c0
 have hk := fun i => hu.cell i hlt hg
 exact ⟨g, 0, rfl, by rw [hk]; exact c0, by rw [hk]; exact c1, by rw [hk]; exact c2, by rw [hk]; exact c3, by rw [hk]; exact c4⟩
def row64 (l : List Nat) : List Value := l.map (fun x => .int .u64 (x : Nat))
/-- Ranks in memory. -/
structure RkIn (w : World) (r gf gt n cf ct : Nat) (kind : Int) (l : List Fl) (tags : List Nat) (virt : Nat) : Prop where
 blk : Blk w r #[.int .i64 kind, .slice (some ⟨gf, 0, none⟩) n cf, .slice (some ⟨gt, 0, none⟩) n ct, .int .u64 (virt : Nat)] TRk
 fls : FlsIn w (some ⟨gf, 0, none⟩) l
 row : w.ownsRow 0 TU64 1 (.slice (some ⟨gt, 0, none⟩) n ct) n (row64 tags)
 ll : l.length = n
 lt : tags.length = n
 n1 : 1 ≤ n
 n2 : n ≤ 64
 a1 : ¬ r = gt
 a2 : ¬ r = gf
 a3 : ¬ gf = gt
theorem RkIn.kept {w w' : World} {r gf gt n cf ct virt : Nat} {kind : Int} {l : List Fl} {tags : List Nat} (h : RkIn w r gf gt n cf ct kind l tags virt) {S : Nat → Prop} (hu : Upd S w w') (h0 : ¬ S r) (h1 : ¬ S gf) (h2 : ¬ S gt) : RkIn w' r gf gt n cf ct kind l tags virt :=
 { h with blk := h.blk.kept hu h0, fls := h.fls.kept hu h1, row := ownsRow_upd h.row hu (fun k hk => by have := Option.some.inj hk; rw [← this]; exact h2) }
theorem RkIn.old {w w' : World} {r gf gt n cf ct virt : Nat} {kind : Int} {l : List Fl} {tags : List Nat} (h : RkIn w r gf gt n cf ct kind l tags virt) (hu : Upd Nowhere w w') : RkIn w' r gf gt n cf ct kind l tags virt := h.kept hu id id id
theorem RkIn.virt_ {w : World} {r gf gt n cf ct virt : Nat} {kind : Int} {l : List Fl} {tags : List Nat} (h : RkIn w r gf gt n cf ct kind l tags virt) (v : Nat) : RkIn (w.setCell ⟨r, 3, none⟩ (.int .u64 (v : Nat))) r gf gt n cf ct kind l tags v := by
 have hu : Upd (fun q => q = r) w (w.setCell ⟨r, 3, none⟩ (.int .u64 (v : Nat))) := Upd.setCell (S := fun q => q = r) (a := ⟨r, 3, none⟩) (Upd.refl _ _) (fun _ => rfl) _
 exact { h with blk := h.blk.set 3 _, fls := h.fls.kept hu (fun e => h.a2 e.symm), row := ownsRow_upd h.row hu (fun k hk e => by have := Option.some.inj hk; exact h.a1 (by rw [← e]; exact this.symm)) }
theorem sent_any {w : World} {r gf gt n cf ct virt : Nat} {kind : Int} {l : List Fl} {tags : List Nat} (h : RkIn w r gf gt n cf ct kind l tags virt) (v : Nat) :
 Calls Tryz.prog 68 #[.pointer (some ⟨r, 0, none⟩), .int .u64 v] w fun e w' => e = .returned (.tuple #[]) ∧ RkIn w' r gf gt n cf ct kind l tags (if kind = 1 then v else virt) ∧ Upd (fun q => q = r) w w' := by
 have c0 : w.cell? ⟨r, 0, none⟩ = some (.int .i64 kind) := h.blk.cellAt rfl
 have c3 : w.cell? ⟨r, 3, none⟩ = some (.int .u64 (virt : Nat)) := h.blk.cellAt rfl
 have z3 := h.blk.free 3
 have H := Lib.hid h
 clear h
 by_cases hk : kind = 1
 · subst hk
   have HV := Lib.hid (H.out.virt_ v)
   rw [if_pos rfl]
   go_enter Tryz.func68, Tryz.ntmps68
   go_wp2_with fail
   go_end0
   exact ⟨rfl, HV.out, Upd.setCell (S := fun q => q = r) (a := ⟨r, 3, none⟩) (Upd.refl _ _) (fun _ => rfl) _⟩
 · have b0 : (kind == 1) = false := by simpa using hk
   rw [if_neg hk]
   clear hk
   go_enter Tryz.func68, Tryz.ntmps68
   go_wp2_with fail
   go_end0
   exact ⟨rfl, H.out, Upd.refl _ _⟩
end Go.Proofs.YtpgpjjkeginbbaaGreatDoor.Rnk
namespace Go.Proofs.YtpgpjjkeginbbaaGreatDoor.Rnk
open Go.RowKit Go.Proofs BigFrame
open Sh (Fl)
open HeapW (putL setL putL_upd)
set_option maxHeartbeats 4000000
set_option maxRecDepth 1000000
set_option linter.unusedSimpArgs false
theorem RkIn.tag_ {w : World} {r gf gt n cf ct virt a : Nat} {kind : Int} {l : List Fl} {tags : List Nat} (h : RkIn w r gf gt n cf ct kind l tags virt) (v : Nat) : RkIn (w.setCell ⟨gt, a, none⟩ (.int .u64 (v : Nat))) r gf gt n cf ct kind l (tags.set a v) virt := by
 have hu : Upd (fun q => q = gt) w (w.setCell ⟨gt, a, none⟩ (.int .u64 (v : Nat))) := Upd.setCell (S := fun q => q = gt) (a := ⟨gt, a, none⟩) (Upd.refl _ _) (fun _ => rfl) _
 have hr := Tab.own_putL (o := a) (vs := [.int .u64 (v : Nat)]) h.row
 have e : setL (row64 tags) a [.int .u64 (v : Nat)] = row64 (tags.set a v) := by
  show (row64 tags).set a _ = _
  unfold row64
  rw [List.map_set]
 rw [e] at hr
 exact { h with blk := h.blk.kept hu h.a1, fls := h.fls.kept hu h.a3, row := hr, lt := by rw [List.length_set]; exact h.lt }
theorem RkIn.tagc {w : World} {r gf gt n cf ct virt a t : Nat} {kind : Int} {l : List Fl} {tags : List Nat} (h : RkIn w r gf gt n cf ct kind l tags virt) (ha : tags[a]? = some t) : w.cell? ⟨gt, a, none⟩ = some (.int .u64 (t : Nat)) ∧ w.frozen? ⟨gt, a, none⟩ = false := by
 have h1 : (row64 tags)[a]? = some (.int .u64 (t : Nat)) := by unfold row64; rw [List.getElem?_map, ha]; rfl
 exact rowW_cell (o := fun k => k = gt) ⟨h.row, fun k => ⟨fun e => by rw [e]; rfl, fun e => by have := Option.some.inj e; exact this.symm⟩⟩ h1
theorem next2_any {w : World} {r gf gt n cf ct virt id now m a t x c b s q : Nat} {l : List Fl} {tags : List Nat} (h : RkIn w r gf gt n cf ct 2 l tags virt) (hp : Sh.plc l id = some a) (hf : l[a]? = some ⟨x, c, b, s, q⟩) (ht : tags[a]? = some t) (hb : b ≤ 18446744073709551615) (hnow : now ≤ 18446744073709551615) :
 Calls Tryz.prog 65 #[.pointer (some ⟨r, 0, none⟩), .int .u64 now, .int .u32 id, .int .u64 m] w fun e w' => e = .returned (.tuple #[.int .u64 (min (now + b) 18446744073709551615 : Nat), .int .i64 0]) ∧ Upd Nowhere w w' := by
 have hU : Upd Nowhere w (w.alloc (.cells #[.int .u32 id] 42)) := (Upd.refl _ _).alloc _
 have hB : Blk (w.alloc (.cells #[.int .u32 id] 42)) w.heap.size #[.int .u32 id] 42 := Blk.new _ _ _
 have h2 := h.old hU
 have hi := ifunc_any (c := cf) h2.ll h2.n2 h2.fls (hB.cellAt (i := 0) rfl)
 rw [hp] at hi
 have HI := Lib.hid hi
 have c1 : (w.alloc (.cells #[.int .u32 id] 42)).cell? ⟨r, 1, none⟩ = some (.slice (some ⟨gf, 0, none⟩) n cf) := h2.blk.cellAt rfl
 have han : a < n := by
  rcases Nat.lt_or_ge a tags.length with h' | h'
  · rw [h.lt] at h'; exact h'
  · rw [List.getElem?_eq_none h'] at ht; cases ht
 have haI : (a : Int) < n := by omega
 have H := Lib.hid h
 have HT := Lib.hid ht
 have HF := Lib.hid hf
 have HA := fun u => Lib.hid (Bits.sat_add now b u hnow hb)
 generalize min (now + b) 18446744073709551615 = R at *
 clear h h2 hi hp hf ht
 go_enter Tryz.func65, Tryz.ntmps65
 go_wp2_with fail
 generalize w.alloc (.cells #[.int .u32 id] 42) = w2 at *
 refine HI.out.mono ?_
 rintro y w3 ⟨rfl, u3⟩
 have HU3 := Lib.hid (hU.trans u3 (fun _ _ h => h))
 have h3 := H.out.old HU3.out
 have d0 : w3.cell? ⟨r, 0, none⟩ = some (.int .i64 2) := h3.blk.cellAt rfl
 have d1 : w3.cell? ⟨r, 1, none⟩ = some (.slice (some ⟨gf, 0, none⟩) n cf) := h3.blk.cellAt rfl
 have d2 : w3.cell? ⟨r, 2, none⟩ = some (.slice (some ⟨gt, 0, none⟩) n ct) := h3.blk.cellAt rfl
 have d3 := (h3.tagc HT.out).1
 obtain ⟨g', o, e, f0, f1, f2, f3, f4⟩ := h3.fls a _ HF.out
 cases e
 rw [Nat.zero_add] at f0 f1 f2 f3 f4
 clear h3 u3 HI c1 hB
 go_wp2_with fail
 refine (HA _).out.mono ?_
 rintro y w4 ⟨rfl, rfl⟩
 go_wp2_with fail
 go_ret2
 exact ⟨rfl, HU3.out⟩
end Go.Proofs.YtpgpjjkeginbbaaGreatDoor.Rnk
namespace Go.Proofs.YtpgpjjkeginbbaaGreatDoor.Rnk
open Go.RowKit Go.Proofs BigFrame
open Sh (Fl)
open HeapW (putL setL putL_upd)
set_option maxHeartbeats 4000000
set_option maxRecDepth 1000000
set_option linter.unusedSimpArgs false
theorem next3_any {w : World} {r gf gt n cf ct virt id now m a t x c b s q : Nat} {l : List Fl} {tags : List Nat} (h : RkIn w r gf gt n cf ct 3 l tags virt) (hp : Sh.plc l id = some a) (hf : l[a]? = some ⟨x, c, b, s, q⟩) (ht : tags[a]? = some t) (htm : t ≤ 18446744073709551615) (hm : m ≤ 18446744073709551615) :
 Calls Tryz.prog 65 #[.pointer (some ⟨r, 0, none⟩), .int .u64 now, .int .u32 id, .int .u64 m] w fun e w' => e = .returned (.tuple #[.int .u64 t, .int .i64 0]) ∧ RkIn w' r gf gt n cf ct 3 l (tags.set a (t - m)) virt ∧ Upd (fun q => q = gt) w w' := by
 have hU : Upd Nowhere w (w.alloc (.cells #[.int .u32 id] 42)) := (Upd.refl _ _).alloc _
 have hB : Blk (w.alloc (.cells #[.int .u32 id] 42)) w.heap.size #[.int .u32 id] 42 := Blk.new _ _ _
 have h2 := h.old hU
 have hi := ifunc_any (c := cf) h2.ll h2.n2 h2.fls (hB.cellAt (i := 0) rfl)
 rw [hp] at hi
 have HI := Lib.hid hi
 have c1 : (w.alloc (.cells #[.int .u32 id] 42)).cell? ⟨r, 1, none⟩ = some (.slice (some ⟨gf, 0, none⟩) n cf) := h2.blk.cellAt rfl
 have han : a < n := by
  rcases Nat.lt_or_ge a tags.length with h' | h'
  · rw [h.lt] at h'; exact h'
  · rw [List.getElem?_eq_none h'] at ht; cases ht
 have haI : (a : Int) < n := by omega
 have H := Lib.hid h
 have HT := Lib.hid ht
 have HF := Lib.hid hf
 have HA := fun u => Lib.hid (Sat.sat_sub t m htm hm u)
 obtain ⟨T2, hT2⟩ : ∃ T2, t - m = T2 := ⟨_, rfl⟩
 rw [hT2] at HA ⊢
 clear hT2
 clear h h2 hi hp hf ht
 go_enter Tryz.func65, Tryz.ntmps65
 go_wp2_with fail
 generalize w.alloc (.cells #[.int .u32 id] 42) = w2 at *
 refine HI.out.mono ?_
 rintro y w3 ⟨rfl, u3⟩
 have HU3 := Lib.hid (hU.trans u3 (fun _ _ h => h))
 have h3 := H.out.old HU3.out
 have d0 : w3.cell? ⟨r, 0, none⟩ = some (.int .i64 3) := h3.blk.cellAt rfl
 have d1 : w3.cell? ⟨r, 1, none⟩ = some (.slice (some ⟨gf, 0, none⟩) n cf) := h3.blk.cellAt rfl
 have d2 : w3.cell? ⟨r, 2, none⟩ = some (.slice (some ⟨gt, 0, none⟩) n ct) := h3.blk.cellAt rfl
 obtain ⟨d3, z3⟩ := h3.tagc HT.out
 have HFIN := fun j => Lib.hid ((h3.old ((Upd.refl _ _).drewN j)).tag_ (a := a) T2)
 obtain ⟨g', o, e, f0, f1, f2, f3, f4⟩ := h3.fls a _ HF.out
 cases e
 rw [Nat.zero_add] at f0 f1 f2 f3 f4
 clear h3 u3 HI c1 hB
 go_upto_region 14 with fail
 refine wp_region_tail 9 (by kernel_rfl) (by kernel_rfl) ?_
 simp only [List.take_succ_cons, List.take_zero, List.drop_succ_cons, List.drop_zero]
 repeat (go_big_quiet_step ((go_at_call 110; exact quiet_same (HA _).out)))
 refine wpQuiet_nil ?_
 rintro _ ⟨nq, rfl⟩
 go_wp2_with fail
 refine Stage.out ?_
 go_wp2_with fail
 go_ret2
 exact ⟨rfl, (HFIN _).out, Upd.setCell (S := fun q => q = gt) (a := ⟨gt, a, none⟩) ((HU3.out.drewN _).any _) (fun _ => rfl) _⟩
theorem next1_any_ {w : World} {r gf gt n cf ct virt id now m a t x c b s q : Nat} {l : List Fl} {tags : List Nat} (h : RkIn w r gf gt n cf ct 1 l tags virt) (hp : Sh.plc l id = some a) (hf : l[a]? = some ⟨x, c, b, s, q⟩) (ht : tags[a]? = some t) (htm : t ≤ 18446744073709551615) (hvm : virt ≤ 18446744073709551615) (hcm : c ≤ 18446744073709551615) (hm : m ≤ 18446744073709551615) :
 Calls Tryz.prog 65 #[.pointer (some ⟨r, 0, none⟩), .int .u64 now, .int .u32 id, .int .u64 m] w fun e w' => e = .returned (.tuple #[.int .u64 (max virt t : Nat), .int .i64 0]) ∧ RkIn w' r gf gt n cf ct 1 l (tags.set a (min (max virt t + c * m) 18446744073709551615)) virt ∧ Upd (fun q => q = gt) w w' := by
 have hU : Upd Nowhere w (w.alloc (.cells #[.int .u32 id] 42)) := (Upd.refl _ _).alloc _
 have hB : Blk (w.alloc (.cells #[.int .u32 id] 42)) w.heap.size #[.int .u32 id] 42 := Blk.new _ _ _
 have h2 := h.old hU
 have hi := ifunc_any (c := cf) h2.ll h2.n2 h2.fls (hB.cellAt (i := 0) rfl)
 rw [hp] at hi
 have HI := Lib.hid hi
 have c1 : (w.alloc (.cells #[.int .u32 id] 42)).cell? ⟨r, 1, none⟩ = some (.slice (some ⟨gf, 0, none⟩) n cf) := h2.blk.cellAt rfl
 have han : a < n := by
  rcases Nat.lt_or_ge a tags.length with h' | h'
  · rw [h.lt] at h'; exact h'
  · rw [List.getElem?_eq_none h'] at ht; cases ht
 have haI : (a : Int) < n := by omega
 have H := Lib.hid h
 have HT := Lib.hid ht
 have HF := Lib.hid hf
 have hA := fun u => Sat.sat_muladd (max virt t) c m (Nat.max_le.2 ⟨hvm, htm⟩) hcm hm u
 obtain ⟨MX, hMX⟩ : ∃ MX, max virt t = MX := ⟨_, rfl⟩
 have hM1 : max (virt : Int) (t : Int) = (MX : Int) := by omega
 have hM2 : (if (virt : Int) < (t : Int) then (t : Int) else (virt : Int)) = (MX : Int) := by split <;> omega
 have hM3 : (if virt < t then (t : Int) else (virt : Int)) = (MX : Int) := by split <;> omega
 have hM4 : (if (t : Int) < (virt : Int) then (virt : Int) else (t : Int)) = (MX : Int) := by split <;> omega
 rw [hMX] at hA ⊢
 clear hMX
 generalize min (MX + c * m) 18446744073709551615 = T2 at *
 have HA := fun u => Lib.hid (hA u)
 clear hA
 clear h h2 hi hp hf ht
 go_enter Tryz.func65, Tryz.ntmps65
 go_wp2_with fail
 generalize w.alloc (.cells #[.int .u32 id] 42) = w2 at *
 refine HI.out.mono ?_
 rintro y w3 ⟨rfl, u3⟩
 have HU3 := Lib.hid (hU.trans u3 (fun _ _ h => h))
 have h3 := H.out.old HU3.out
 have d0 : w3.cell? ⟨r, 0, none⟩ = some (.int .i64 1) := h3.blk.cellAt rfl
 have d1 : w3.cell? ⟨r, 1, none⟩ = some (.slice (some ⟨gf, 0, none⟩) n cf) := h3.blk.cellAt rfl
 have d2 : w3.cell? ⟨r, 2, none⟩ = some (.slice (some ⟨gt, 0, none⟩) n ct) := h3.blk.cellAt rfl
 obtain ⟨d3, z3⟩ := h3.tagc HT.out
 have d4 : w3.cell? ⟨r, 3, none⟩ = some (.int .u64 (virt : Nat)) := h3.blk.cellAt rfl
 have HFIN := fun j => Lib.hid ((h3.old ((Upd.refl _ _).drewN j)).tag_ (a := a) T2)
 obtain ⟨g', o, e, f0, f1, f2, f3, f4⟩ := h3.fls a _ HF.out
 cases e
 rw [Nat.zero_add] at f0 f1 f2 f3 f4
 clear h3 u3 HI c1 hB
 go_upto_region 10 with fail
 refine wp_region_tail 17 (by kernel_rfl) (by kernel_rfl) ?_
 simp only [List.take_succ_cons, List.take_zero, List.drop_succ_cons, List.drop_zero]
 repeat (go_big_quiet_step ((go_at_call 70; exact quiet_same (HA _).out)))
 refine wpQuiet_nil ?_
 rintro _ ⟨nq, rfl⟩
 go_wp2_with fail
 refine Stage.out ?_
 go_wp2_with fail
 go_ret2
 exact ⟨rfl, (HFIN _).out, Upd.setCell (S := fun q => q = gt) (a := ⟨gt, a, none⟩) ((HU3.out.drewN _).any _) (fun _ => rfl) _⟩
end Go.Proofs.YtpgpjjkeginbbaaGreatDoor.Rnk
namespace Go.Proofs.YtpgpjjkeginbbaaGreatDoor.Rnk
open Go.RowKit Go.Proofs BigFrame
open Sh (Fl)
set_option maxHeartbeats 4000000
set_option maxRecDepth 1000000
set_option linter.unusedSimpArgs false
abbrev f0 : Fl := ⟨0, 0, 0, 0, 0⟩
/-- The cells of flows. -/
def rowF (l : List Fl) (n : Nat) : List Value := slotL (fun k => KF (l.getD k f0)) n
theorem kf_len (f : Fl) : (KF f).length = 5 := rfl
theorem rowF_len (l : List Fl) (n : Nat) : (rowF l n).length = n * 5 := slotL_len (fun _ => kf_len _) n
theorem rowF_at {l : List Fl} {n k r : Nat} {f : Fl} (hf : l[k]? = some f) (hk : k < n) (hr : r < 5) : (rowF l n)[k * 5 + r]? = (KF f)[r]? := by
 have := slotL_at (f := fun k => KF (l.getD k f0)) (W := 5) (N := n) (fun _ => kf_len _) hk hr
 unfold rowF
 rw [this, List.getD_eq_getElem?_getD, hf]
 rfl
theorem rowF_cells {w : World} {ad : Option Addr} {l : List Fl} {n : Nat} (hn : l.length = n) (h : FlsIn w ad l) : ∀ b, ad = some b → ∀ j u, (rowF l n)[j]? = some u → w.cell? (b.add j) = some u := fun b hb j u hj => by
 have hlt : j < n * 5 := by
  rw [← rowF_len l n]
  rcases Nat.lt_or_ge j (rowF l n).length with h' | h'
  · exact h'
  · rw [List.getElem?_eq_none h'] at hj; cases hj
 have hk : j / 5 < n := by omega
 obtain ⟨f, hf⟩ : ∃ f, l[j / 5]? = some f := ⟨l[j / 5]'(by rw [hn]; exact hk), by simp⟩
 obtain ⟨g, o, e, c0, c1, c2, c3, c4⟩ := h _ _ hf
 rw [hb] at e
 cases e
 have hj2 : j = j / 5 * 5 + j % 5 := by omega
 rw [hj2, rowF_at hf hk (by omega)] at hj
 have e2 : (⟨g, o, none⟩ : Addr).add j = ⟨g, o + j, none⟩ := add_at ..
 rw [e2]
 obtain e | e | e | e | e : j % 5 = 0 ∨ j % 5 = 1 ∨ j % 5 = 2 ∨ j % 5 = 3 ∨ j % 5 = 4 := by omega
 all_goals rw [e] at hj; cases hj
 · rw [show o + j = o + j / 5 * 5 by omega]; exact c0
 · rw [show o + j = o + j / 5 * 5 + 1 by omega]; exact c1
 · rw [show o + j = o + j / 5 * 5 + 2 by omega]; exact c2
 · rw [show o + j = o + j / 5 * 5 + 3 by omega]; exact c3
 · rw [show o + j = o + j / 5 * 5 + 4 by omega]; exact c4
theorem flsIn_row {w : World} {base g n c : Nat} {l : List Fl} (hn : l.length = n) (h : w.ownsRow base TFl 5 (.slice (some ⟨g, 0, none⟩) n c) n (rowF l n)) : FlsIn w (some ⟨g, 0, none⟩) l := fun k f hf => by
 have hk : k < n := by
  rw [← hn]
  rcases Nat.lt_or_ge k l.length with h' | h'
  · exact h'
  · rw [List.getElem?_eq_none h'] at hf; cases hf
 have hc : ∀ r u, r < 5 → (KF f)[r]? = some u → w.cell? ⟨g, k * 5 + r, none⟩ = some u := fun r u hr hu =>
  (rowW_cell (o := fun k => k = g) ⟨ownsRow_base h (Nat.zero_le _), fun k => ⟨fun e => by rw [e]; rfl, fun e => by have := Option.some.inj e; exact this.symm⟩⟩ (by rw [rowF_at hf hk hr]; exact hu)).1
 refine ⟨g, 0, rfl, ?_, ?_, ?_, ?_, ?_⟩
 · rw [Nat.zero_add]; exact hc 0 _ (by omega) rfl
 · rw [Nat.zero_add]; exact hc 1 _ (by omega) rfl
 · rw [Nat.zero_add]; exact hc 2 _ (by omega) rfl
 · rw [Nat.zero_add]; exact hc 3 _ (by omega) rfl
 · rw [Nat.zero_add]; exact hc 4 _ (by omega) rfl
theorem rowF_one (l : List Fl) (n : Nat) : ∀ u ∈ rowF l n, u.oneCell' = true := fun u hu => by
 unfold rowF slotL at hu
 obtain ⟨k, _, hk⟩ := List.mem_flatMap.1 hu
 unfold KF at hk
 simp at hk
 rcases hk with rfl | rfl | rfl | rfl | rfl <;> rfl
theorem infoFl : (Tryz.prog.info? TFl).map (fun i => (i.zero, i.size, i.bytes)) = some (some (VF 0 0 0 0 0), 5, 40) := by kernel_rfl
theorem clone_any {w : World} {g0 o0 n c : Nat} {l : List Fl} (hn : l.length = n) (h1 : 1 ≤ n) (hl : n ≤ 64) (h : FlsIn w (some ⟨g0, o0, none⟩) l) :
 Calls Tryz.prog 58 #[.slice (some ⟨g0, o0, none⟩) n c] w fun e w' => ∃ g c', e = .returned (.slice (some ⟨g, 0, none⟩) n c') ∧ FlsIn w' (some ⟨g, 0, none⟩) l ∧ w.heap.size ≤ g ∧ g < w'.heap.size ∧ Upd Nowhere w w' := by
 obtain ⟨i0, hi, hz0, hz1, hz2⟩ := info_parts infoFl
 have hnil : ∀ w a n c, (binOp .eql 33 (.slice a n c) (.slice none 0 0)).run Tryz.prog w = .ok (.bool a.isNone) w := fun w a n c => Lib.run_eql_slice_nil (e := TFl) (h := Tryz.underlying33) ..
 have H := Lib.hid h
 have HN := Lib.hid hn
 clear h hn
 go_enter Tryz.func58, Tryz.ntmps58
 have HE : Hid ((w.alloc (.cells #[] TFl)).ownsRow w.heap.size TFl 5 (.slice (some ⟨w.heap.size, 0, none⟩) 0 0) 0 []) := Lib.hid ⟨rfl, .inr ⟨w.heap.size, 0, #[], rfl, Nat.le_refl _, Blk.new w #[] TFl, Nat.le_refl _, Nat.zero_le _, by simp, by simp⟩⟩
 have hA : Upd Nowhere w (w.alloc (.cells #[] TFl)) := (Upd.refl _ _).alloc _
 have HC := Lib.hid (rowF_cells HN.out (H.out.old hA))
 go_wp2_with (at_builtin; refine wpList_app rfl _ _ 33 rfl w.heap.size TFl i0 (VF 0 0 0 0 0) 5 40 Tryz.underlying33 hi hz0 hz1 hz2 rfl (by decide) (by decide) (.slice (some ⟨w.heap.size, 0, none⟩) 0 0) 0 [] rfl HE.out (some ⟨g0, o0, none⟩) n c (rowF l n) rfl (fun h => by cases h) (rowF_len l n) HC.out (rowF_one l n) (by omega) (by simp) ?_; intro v4 w4 hown4 hu4 hn4; obtain ⟨g4, c4, rfl⟩ : ∃ g c, v4 = .slice (some ⟨g, 0, none⟩) (0 + n) c := by (rcases hown4.2 with ⟨rfl, h⟩ | ⟨g, cap, cur, rfl, _⟩); (exact absurd h (by omega)); (exact ⟨_, _, rfl⟩))
 have e0 : 0 + n = n := Nat.zero_add n
 have HO : Hid (w4.ownsRow w.heap.size TFl 5 (.slice (some ⟨g4, 0, none⟩) n c4) n (rowF l n)) := Lib.hid (by have h4 := hown4; rw [e0] at h4; exact h4)
 have HUF : Hid (Upd Nowhere w w4) := Lib.hid (hA.trans hu4 (fun q hq hk => by have := Option.some.inj hk; dsimp only at this; omega))
 clear hown4 hu4 hn4
 go_ret
 obtain ⟨cur, hb, hge, _⟩ := Blk.own HO.out
 refine ⟨g4, c4, by simp, flsIn_row HN.out HO.out, hge, hb.lt, HUF.out⟩
end Go.Proofs.YtpgpjjkeginbbaaGreatDoor.Rnk
namespace Go.Proofs.YtpgpjjkeginbbaaGreatDoor.Rnk
open Go.RowKit Go.Proofs BigFrame
open Sh (Fl)
set_option maxHeartbeats 8000000
set_option maxRecDepth 1000000
set_option linter.unusedSimpArgs false
/-- The first k tags. -/
def tgs (kind : Int) (l : List Fl) (k : Nat) : List Nat := (l.take k).map (fun f => if kind = 3 then f.size else 0)
theorem tgs_succ {kind : Int} {l : List Fl} {k : Nat} {f : Fl} (h : l[k]? = some f) : tgs kind l (k + 1) = tgs kind l k ++ [if kind = 3 then f.size else 0] := by
 unfold tgs
 rw [List.take_add_one, h]
 simp
theorem infoU64 : (Tryz.prog.info? TU64).map (fun i => (i.zero, i.size, i.bytes)) = some (some (.int .u64 0), 1, 8) := by kernel_rfl
theorem new_ok {w : World} {g0 o0 n c : Nat} {kind : Int} {l : List Fl} (hn : l.length = n) (h1 : 1 ≤ n) (hl : n ≤ 64) (hk1 : 1 ≤ kind) (hk2 : kind ≤ 3) (ht : Sh.twice l = false) (h : FlsIn w (some ⟨g0, o0, none⟩) l) :
 Calls Tryz.prog 24 #[.int .i64 kind, .slice (some ⟨g0, o0, none⟩) n c] w fun e w' => ∃ r gf gt cf ct, e = .returned (.tuple #[.pointer (some ⟨r, 0, none⟩), .int .i64 0]) ∧ RkIn w' r gf gt n cf ct kind l (tgs kind l n) 0 ∧ w.heap.size ≤ r ∧ w.heap.size ≤ gf ∧ w.heap.size ≤ gt ∧ Upd Nowhere w w' := by
 obtain ⟨i0, hi, hz0, hz1, hz2⟩ := info_parts infoU64
 have d1 : decide (kind < 1) = false := decide_eq_false (by omega)
 have d2 : decide (kind > 3) = false := decide_eq_false (by omega)
 have d2' : decide (3 < kind) = false := decide_eq_false (by omega)
 have d3 : ((n : Int) == 0) = false := by simp; omega
 have d4 : decide ((n : Int) > 64) = false := decide_eq_false (by omega)
 have d5 : decide (64 < n) = false := decide_eq_false (by omega)
 have hT := twice_any (c := c) hn hl h
 rw [ht] at hT
 have HT := Lib.hid hT
 have HCl := fun u (hu : Upd Nowhere w u) => Lib.hid (clone_any (c := c) hn h1 hl (h.old hu))
 have H := Lib.hid h
 have HN := Lib.hid hn
 clear h hn hT ht
 go_enter Tryz.func24, Tryz.ntmps24
 go_wp2_with fail
 refine (HT.out).mono ?_
 rintro e w1 ⟨rfl, u1⟩
 go_wp2_with fail
 refine (HCl _ u1).out.mono ?_
 rintro e w2 ⟨gf, cf, rfl, hf2, hge2, hlt2, u2⟩
 have HU2 := Lib.hid (u1.trans u2 (fun _ _ h => h))
 have hs1 := u1.size
 have hs2 := u2.size
 have hA : Upd Nowhere w2 (w2.alloc (.cells #[.int .i64 kind, .slice (some ⟨gf, 0, none⟩) n cf, .slice none 0 0, .int .u64 0] TRk)) := (Upd.refl _ _).alloc _
 have hB : Blk (w2.alloc (.cells #[.int .i64 kind, .slice (some ⟨gf, 0, none⟩) n cf, .slice none 0 0, .int .u64 0] TRk)) w2.heap.size #[.int .i64 kind, .slice (some ⟨gf, 0, none⟩) n cf, .slice none 0 0, .int .u64 0] TRk := Blk.new _ _ _
 have HF3 := Lib.hid (hf2.old hA)
 have HU3 := Lib.hid (HU2.out.alloc (.cells #[.int .i64 kind, .slice (some ⟨gf, 0, none⟩) n cf, .slice none 0 0, .int .u64 0] TRk))
 have HB := Lib.hid hB
 have HS3 : Hid ((w2.alloc (.cells #[.int .i64 kind, .slice (some ⟨gf, 0, none⟩) n cf, .slice none 0 0, .int .u64 0] TRk)).heap.size = w2.heap.size + 1) := Lib.hid (by simp)
 obtain ⟨r, hr⟩ : ∃ r, w2.heap.size = r := ⟨_, rfl⟩
 have HR : Hid (w.heap.size ≤ r ∧ w.heap.size ≤ gf ∧ gf < r) := Lib.hid ⟨by omega, by omega, by omega⟩
 clear hf2 u1 u2 hA hB
 go_upto_region 8 with fail
 rw [hr] at HB HS3
 generalize w2.alloc (.cells #[.int .i64 kind, .slice (some ⟨gf, 0, none⟩) n cf, .slice none 0 0, .int .u64 0] TRk) = w3 at *
 clear hr hge2 hlt2 hs1 hs2
 go_wp2_with fail
 go_loopg [8, 9, 36] (n + 1) (fun gk _ _ v36 wr => ∃ (k : Nat) (a3 : Option Addr) (c3 : Nat), n - k < gk ∧ k ≤ n ∧ v36 = .int .i64 k ∧ Blk wr r #[.int .i64 kind, .slice (some ⟨gf, 0, none⟩) n cf, .slice a3 k c3, .int .u64 0] TRk ∧ Hid (wr.ownsRow (r + 1) TU64 1 (.slice a3 k c3) k (row64 (tgs kind l k))) ∧ Hid (Upd (fun q => q = r) w3 wr))
 case atStart => exact ⟨0, none, 0, by omega, Nat.zero_le _, rfl, HB.out, Lib.hid (World.ownsRow_nil _ _ _ _), Lib.hid (Upd.refl _ _)⟩
 case round =>
  obtain ⟨k, a3, c3, hgk, hin, rfl, hBk, HO, HU⟩ := hrel
  obtain ⟨wB, rfl⟩ : ∃ x, x = wr := ⟨_, rfl⟩
  have HGK := Lib.hid hgk
  have HBK := Lib.hid hBk
  clear hgk hBk
  have HUA : Hid (Upd Nowhere w wB) := Lib.hid (HU3.out.trans HU.out (fun q hq e => by have := HR.out.1; omega))
  rcases Nat.lt_or_ge k n with hlt | hge
  · obtain ⟨f, hf⟩ : ∃ f, l[k]? = some f := ⟨l[k]'(by rw [HN.out]; exact hlt), by simp⟩
    obtain ⟨g', o', e, q0, q1, q2, q3, q4⟩ := (H.out.old HUA.out) k f hf
    cases e
    have hI : (k : Int) < n := by omega
    have htg := tgs_succ (kind := kind) hf
    have HTG := Lib.hid htg
    obtain ⟨x, b, d, s, m⟩ := f
    dsimp only at q0 q1 q2 q3 q4
    have hA : Upd Nowhere wB (wB.alloc (.cells #[.int .u32 x, .int .u64 b, .int .u64 d, .int .u64 s, .int .u64 m] TFl)) := (Upd.refl _ _).alloc _
    have hB2 : Blk (wB.alloc (.cells #[.int .u32 x, .int .u64 b, .int .u64 d, .int .u64 s, .int .u64 m] TFl)) wB.heap.size #[.int .u32 x, .int .u64 b, .int .u64 d, .int .u64 s, .int .u64 m] TFl := Blk.new _ _ _
    have HO2 := Lib.hid (ownsRow_upd HO.out hA (fun _ _ h => h))
    have HBK2 := Lib.hid (HBK.out.kept hA id)
    have HU2' : Hid (Upd (fun q => q = r) w3 (wB.alloc (.cells #[.int .u32 x, .int .u64 b, .int .u64 d, .int .u64 s, .int .u64 m] TFl))) := Lib.hid (HU.out.alloc _)
    have HSZ : Hid (r + 1 ≤ (wB.alloc (.cells #[.int .u32 x, .int .u64 b, .int .u64 d, .int .u64 s, .int .u64 m] TFl)).heap.size) := Lib.hid (by have := HS3.out; have := HU2'.out.size; omega)
    clear hf htg HO HU HBK
    by_cases hk3 : kind = 3
    · skip
      have b0 : (kind == 3) = true := by simpa using hk3
      have HTG0 := HTG.out; rw [if_pos hk3] at HTG0
      have HTG2 := Lib.hid HTG0
      clear HTG0 hk3
      obtain ⟨r0, r1, r2, r3, _, _, _, _⟩ := cells4 HBK2.out
      obtain ⟨t0, t1, t2, t3, t4, _, _, _, _, _⟩ := cells5 hB2
      go_upto_region 11 with fail
      generalize wB.alloc (.cells #[.int .u32 x, .int .u64 b, .int .u64 d, .int .u64 s, .int .u64 m] TFl) = wA at *
      go_wp2_with (at_builtin; refine wpList_push rfl _ _ 22 rfl (r + 1) TU64 i0 (.int .u64 0) 1 8 Tryz.underlying22 hi hz0 hz1 hz2 rfl (by decide) (by decide) (.slice a3 k c3) k (row64 (tgs kind l k)) rfl (HO2.out.alloc _) wA.heap.size 1 [.int .u64 (s : Nat)] rfl rfl (new_cells _ #[_] _) (by simp [Value.oneCell']) (by omega) (by have := HSZ.out; rw [World.size_alloc]; omega) ?_; intro v4 w4 hown4 hu4 hn4; obtain ⟨ad4, c4, rfl⟩ : ∃ ad c, v4 = .slice ad (k + 1) c := (by (rcases hown4.2 with ⟨rfl, h⟩ | ⟨g, cap, cur, rfl, _⟩); (exact absurd h (Nat.succ_ne_zero k)); (exact ⟨_, _, rfl⟩)); have hB4 := (HBK2.out.alloc (.cells #[.int .u64 (s : Nat)] TU64)).kept hu4 (fun hk => by have := (HO2.out.lt _ hk).1; omega); have e2 : w4.cell? ⟨r, 2, none⟩ = some (.slice a3 k c3) := hB4.cellAt rfl; have z2 := hB4.free 2)
      have HOF : Hid ((w4.setCell ⟨r, 2, none⟩ (.slice ad4 (k + 1) c4)).ownsRow (r + 1) TU64 1 (.slice ad4 (k + 1) c4) (k + 1) (row64 (tgs kind l (k + 1)))) := Lib.hid (by
       have ho : w4.ownsRow (r + 1) TU64 1 (.slice ad4 (k + 1) c4) (k + 1) (row64 (tgs kind l (k + 1))) := by rw [HTG2.out]; unfold row64; rw [List.map_append]; exact hown4
       exact ownsRow_upd ho (Upd.setCell (S := fun q => q = r) (a := ⟨r, 2, none⟩) (Upd.refl _ _) (fun _ => rfl) _) (fun q hk e => by have := (ho.lt _ hk).1; omega))
      have HBF : Hid (Blk (w4.setCell ⟨r, 2, none⟩ (.slice ad4 (k + 1) c4)) r #[.int .i64 kind, .slice (some ⟨gf, 0, none⟩) n cf, .slice ad4 (k + 1) c4, .int .u64 0] TRk) := Lib.hid (by simpa using hB4.set 2 (.slice ad4 (k + 1) c4))
      have HUF : Hid (Upd (fun q => q = r) w3 (w4.setCell ⟨r, 2, none⟩ (.slice ad4 (k + 1) c4))) := Lib.hid (Upd.setCell (S := fun q => q = r) (a := ⟨r, 2, none⟩) ((HU2'.out.alloc (.cells #[.int .u64 (s : Nat)] TU64)).trans hu4 (fun q hq hk => by have := (HO2.out.lt q hk).1; have := HS3.out; omega)) (fun _ => rfl) _)
      clear hown4 hu4 hn4 hB4 e2 z2
      go_roundg (n - k)
      case rel => exact ⟨k + 1, ad4, c4, by omega, by omega, rfl, HBF.out, HOF, HUF⟩
      case measure => have := HGK.out; omega
    · skip
      have b0 : (kind == 3) = false := by simpa using hk3
      have HTG0 := HTG.out; rw [if_neg hk3] at HTG0
      have HTG2 := Lib.hid HTG0
      clear HTG0 hk3
      obtain ⟨r0, r1, r2, r3, _, _, _, _⟩ := cells4 HBK2.out
      obtain ⟨t0, t1, t2, t3, t4, _, _, _, _, _⟩ := cells5 hB2
      go_upto_region 11 with fail
      generalize wB.alloc (.cells #[.int .u32 x, .int .u64 b, .int .u64 d, .int .u64 s, .int .u64 m] TFl) = wA at *
      go_wp2_with (at_builtin; refine wpList_push rfl _ _ 22 rfl (r + 1) TU64 i0 (.int .u64 0) 1 8 Tryz.underlying22 hi hz0 hz1 hz2 rfl (by decide) (by decide) (.slice a3 k c3) k (row64 (tgs kind l k)) rfl (HO2.out.alloc _) wA.heap.size 1 [.int .u64 (0 : Nat)] rfl rfl (new_cells _ #[_] _) (by simp [Value.oneCell']) (by omega) (by have := HSZ.out; rw [World.size_alloc]; omega) ?_; intro v4 w4 hown4 hu4 hn4; obtain ⟨ad4, c4, rfl⟩ : ∃ ad c, v4 = .slice ad (k + 1) c := (by (rcases hown4.2 with ⟨rfl, h⟩ | ⟨g, cap, cur, rfl, _⟩); (exact absurd h (Nat.succ_ne_zero k)); (exact ⟨_, _, rfl⟩)); have hB4 := (HBK2.out.alloc (.cells #[.int .u64 (0 : Nat)] TU64)).kept hu4 (fun hk => by have := (HO2.out.lt _ hk).1; omega); have e2 : w4.cell? ⟨r, 2, none⟩ = some (.slice a3 k c3) := hB4.cellAt rfl; have z2 := hB4.free 2)
      have HOF : Hid ((w4.setCell ⟨r, 2, none⟩ (.slice ad4 (k + 1) c4)).ownsRow (r + 1) TU64 1 (.slice ad4 (k + 1) c4) (k + 1) (row64 (tgs kind l (k + 1)))) := Lib.hid (by
       have ho : w4.ownsRow (r + 1) TU64 1 (.slice ad4 (k + 1) c4) (k + 1) (row64 (tgs kind l (k + 1))) := by rw [HTG2.out]; unfold row64; rw [List.map_append]; exact hown4
       exact ownsRow_upd ho (Upd.setCell (S := fun q => q = r) (a := ⟨r, 2, none⟩) (Upd.refl _ _) (fun _ => rfl) _) (fun q hk e => by have := (ho.lt _ hk).1; omega))
      have HBF : Hid (Blk (w4.setCell ⟨r, 2, none⟩ (.slice ad4 (k + 1) c4)) r #[.int .i64 kind, .slice (some ⟨gf, 0, none⟩) n cf, .slice ad4 (k + 1) c4, .int .u64 0] TRk) := Lib.hid (by simpa using hB4.set 2 (.slice ad4 (k + 1) c4))
      have HUF : Hid (Upd (fun q => q = r) w3 (w4.setCell ⟨r, 2, none⟩ (.slice ad4 (k + 1) c4))) := Lib.hid (Upd.setCell (S := fun q => q = r) (a := ⟨r, 2, none⟩) ((HU2'.out.alloc (.cells #[.int .u64 (0 : Nat)] TU64)).trans hu4 (fun q hq hk => by have := (HO2.out.lt q hk).1; have := HS3.out; omega)) (fun _ => rfl) _)
      clear hown4 hu4 hn4 hB4 e2 z2
      go_roundg (n - k)
      case rel => exact ⟨k + 1, ad4, c4, by omega, by omega, rfl, HBF.out, HOF, HUF⟩
      case measure => have := HGK.out; omega
  · obtain rfl : k = n := by omega
    have dI : decide ((k : Int) < k) = false := by simp
    obtain ⟨gt, rfl⟩ : ∃ gt, a3 = some ⟨gt, 0, none⟩ := by
     rcases HO.out.2 with ⟨_, h0⟩ | ⟨g, cap, cur, e, _⟩
     · omega
     · injection e with e1; exact ⟨g, e1⟩
    have hgt := (HO.out.lt gt rfl).1
    have hr := HR.out
    have HRK : Hid (RkIn wB r gf gt k cf c3 kind l (tgs kind l k) 0) := Lib.hid ⟨HBK.out, HF3.out.kept HU.out (by omega), ownsRow_base HO.out (Nat.zero_le _), HN.out, by unfold tgs; simp; have := HN.out; omega, h1, hl, by omega, by omega, by omega⟩
    go_wp2_with fail
    go_ret2
    exact ⟨r, gf, gt, cf, c3, rfl, HRK.out, hr.1, hr.2.1, by omega, HUA.out⟩
end Go.Proofs.YtpgpjjkeginbbaaGreatDoor.Rnk
namespace Go.Proofs.YtpgpjjkeginbbaaGreatDoor.Rnk
open Go.RowKit Go.Proofs BigFrame
open Sh (Fl)
set_option maxHeartbeats 4000000
set_option maxRecDepth 1000000
set_option linter.unusedSimpArgs false
/-- The error's number. -/
def chkR (kind : Int) (l : List Fl) : Nat := if kind < 1 ∨ 3 < kind then 22 else if l.length = 0 ∨ 64 < l.length then 29 else if Sh.twice l then 30 else 0
theorem new_no {w : World} {ad : Option Addr} {n c : Nat} {kind : Int} {l : List Fl} (hn : l.length = n) (hl : n ≤ 65536) (h : FlsIn w ad l) (hc : chkR kind l ≠ 0) :
 Calls Tryz.prog 24 #[.int .i64 kind, .slice ad n c] w fun e w' => e = .returned (.tuple #[.pointer none, .int .i64 (chkR kind l : Nat)]) ∧ Upd Nowhere w w' := by
 unfold chkR at hc ⊢
 rw [hn] at hc ⊢
 by_cases h1 : kind < 1
 · rw [if_pos (.inl h1)]
   have d1 : decide (kind < 1) = true := decide_eq_true h1
   go_enter Tryz.func24, Tryz.ntmps24
   go_wp2_with fail
   go_ret2
   exact ⟨rfl, Upd.refl _ _⟩
 have d1 : decide (kind < 1) = false := decide_eq_false h1
 by_cases h2 : 3 < kind
 · rw [if_pos (.inr h2)]
   have d2 : decide (kind > 3) = true := decide_eq_true h2
   have d2' : decide (3 < kind) = true := decide_eq_true h2
   go_enter Tryz.func24, Tryz.ntmps24
   go_wp2_with fail
   go_ret2
   exact ⟨rfl, Upd.refl _ _⟩
 have d2 : decide (kind > 3) = false := decide_eq_false h2
 have d2' : decide (3 < kind) = false := decide_eq_false h2
 rw [if_neg (by omega)] at hc ⊢
 by_cases h3 : n = 0
 · rw [if_pos (.inl h3)]
   subst h3
   clear h hn hc h1 h2
   go_enter Tryz.func24, Tryz.ntmps24
   go_wp2_with fail
   go_ret2
   exact ⟨rfl, Upd.refl _ _⟩
 have d3 : ((n : Int) == 0) = false := by simp; omega
 by_cases h4 : 64 < n
 · rw [if_pos (.inr h4)]
   have d4 : decide ((n : Int) > 64) = true := decide_eq_true (by omega)
   have d5 : decide (64 < n) = true := decide_eq_true h4
   clear h hn hc h1 h2 h3
   go_enter Tryz.func24, Tryz.ntmps24
   go_wp2_with fail
   go_ret2
   exact ⟨rfl, Upd.refl _ _⟩
 have d4 : decide ((n : Int) > 64) = false := decide_eq_false (by omega)
 have d5 : decide (64 < n) = false := decide_eq_false h4
 rw [if_neg (by omega)] at hc ⊢
 cases ht : Sh.twice l with
 | false => rw [ht] at hc; exact absurd rfl hc
 | true =>
   have hT := twice_any (c := c) hn (by omega) h
   rw [ht] at hT
   have HT := Lib.hid hT
   clear h hn hc h1 h2 h3 h4 hT ht
   go_enter Tryz.func24, Tryz.ntmps24
   go_wp2_with fail
   refine (HT.out).mono ?_
   rintro e w1 ⟨rfl, u1⟩
   go_wp2_with fail
   go_ret2
   exact ⟨rfl, u1⟩
end Go.Proofs.YtpgpjjkeginbbaaGreatDoor.Rnk

