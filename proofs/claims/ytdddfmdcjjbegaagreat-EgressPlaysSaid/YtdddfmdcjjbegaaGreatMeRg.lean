/- Range, RangeB, one behind the other. -/
import Derived.Test.YtdddfmdcjjbegaaGreatMeA
import Derived.RangeFuncNested
import Derived.RangeFuncBound
import Derived.RangeFuncCalls
import Derived.RangeFuncLeaves
import Derived.RangeFuncBox
import Derived.Shelf.Abstract
import Derived.OwnWalkIn
import Derived.TacticsInMore
import Derived.LoopNIn
import Derived.LoopIn
import Derived.Maps.AppendAt
namespace Go.Proofs.YtdddfmdcjjbegaaGreat
open Go.RowKit
theorem upd_put {S : Nat → Prop} {W : World} {l : Nat} {o' : Obj} (h : S l) : Upd S W (W.putObj l o') :=
 ⟨rfl, rfl, rfl, by simp, fun k _ hn => World.putObj_heap_other (fun e => hn (by rw [e]; exact h))⟩
/-- What a loop that collects keeps: the box, and the row in it. -/
def Coll (w : World) (n1 B : Nat) (T E : TypeId) (pre : List Int) (W : World) : Prop := (∃ v, Boxed W B T v ∧ W.ownsRow n1 E 1 v pre.length (pre.map (Value.int .i64))) ∧ Upd Nowhere w W
end Go.Proofs.YtdddfmdcjjbegaaGreat
namespace Go.Proofs.YtdddfmdcjjbegaaGreat
open Go.RowKit
/-- A function value that hands over the things xs, each to one round, up to the first one that stops, if each round writes but to blocks of S. -/
def TellsB {α : Type} (P : Program) (gf : Nat) (first cap : Array Value) (S : Nat → Prop) (enc : α → Value) (stop : α → Bool) (xs : List α) (w : World) : Prop :=
 ∀ (l : Nat) (J F : List α → World → Prop) (W : World), Upd Nowhere w W → (∀ pre W W', J pre W → Upd Nowhere W W' → J pre W') → (∀ pre W W', F pre W → Upd Nowhere W W' → F pre W') →
  (∀ pre x W, J pre W → (∃ r, xs = pre ++ x :: r) → stop x = false → YieldAt Fence.wide 0 P l #[enc x] W fun e W' => e = .returned (.bool true) ∧ J (pre ++ [x]) W' ∧ Upd S W W') →
  (∀ pre x W, J pre W → (∃ r, xs = pre ++ x :: r) → stop x = true → YieldAt Fence.wide 0 P l #[enc x] W fun e W' => e = .returned (.bool false) ∧ F pre W' ∧ Upd S W W') →
  J [] W → CallsIn Fence.wide 0 P gf (first ++ #[.func (.yield l) #[] #[]] ++ cap) W fun e W' => (∃ v, e = .returned v) ∧ ((xs.any stop = false ∧ J xs W') ∨ (xs.any stop = true ∧ F (xs.takeWhile (fun x => !stop x)) W'))
/-- The statement 'for x := range f' over such a value. -/
theorem wp_tellsB {α : Type} {P : Program} {g : Operand} {ps : Array Tmp} {assign body : Code} {Q : Exit → Act → World → Prop} {a : Act} {w : World} {gf : Nat} {first cap : Array Value} {S : Nat → Prop} {enc : α → Value} {stop : α → Bool} {xs : List α}
 (hg : a.eval g = .func (.func gf) first cap) (eg : ∀ args w, (callFunc gf args).run P w = .ok (.enter gf args) w) (h : TellsB P gf first cap S enc stop xs w) (hS : ∀ k, w.heap.size ≤ k → S k) (hps : ps.size = 1)
 (I X : List α → World → Prop) (hIu : ∀ pre W W', I pre W → Upd Nowhere W W' → I pre W') (hXu : ∀ pre W W', X pre W → Upd Nowhere W W' → X pre W')
 (hIp : ∀ pre W l o o', I pre W → w.heap.size ≤ l → W.heap[l]? = some o → o.isCells = false → I pre (W.putObj l o')) (hXp : ∀ pre W l o o', X pre W → w.heap.size ≤ l → W.heap[l]? = some o → o.isCells = false → X pre (W.putObj l o'))
 (h0 : I [] w) (id : Nat) (a1 : α → Nat → Act) (ob : α → Obj)
 (hassign : ∀ l x W K, K (a1 x W.heap.size) (W.alloc (ob x)) → assign.wpIn (Fence.wide.inRound l) 0 P (Exit.then K (fun _ _ _ => False)) { tmps := (ps.zip #[enc x]).foldl (fun t (p, v) => t.setIfInBounds p v) a.tmps, defers := [] } W)
 (hbody : ∀ l pre x N W, I pre W → (∃ r, xs = pre ++ x :: r) → w.heap.size ≤ N → W.heap[N]? = some (ob x) →
  body.wpIn (Fence.wide.inRound l) 0 P (fun e _ W' => KeepsOthers W W' ∧ Upd S W W' ∧ ((stop x = false ∧ e = .normal ∧ I (pre ++ [x]) W') ∨ (stop x = true ∧ e = .exit id ∧ X pre W'))) (a1 x N) W)
 (hdone : ∀ D W, w.heap.size ≤ D → xs.any stop = false → I xs W → W.heap[D]? = some (.deferred (some [])) → Q .normal { a with defers := { target := .collected D, args := #[] } :: a.defers } W)
 (hstop : ∀ D W, w.heap.size ≤ D → xs.any stop = true → X (xs.takeWhile (fun x => !stop x)) W → W.heap[D]? = some (.deferred (some [])) → (Code.exit id).wpIn Fence.wide 1 P Q { a with defers := { target := .collected D, args := #[] } :: a.defers } W) :
 (Code.rangeFunc g ps assign body).wpIn Fence.wide 1 P Q a w := by
 refine wpIn_rangeFunc (fun fn hfn => ?_)
 obtain ⟨B, hB⟩ : ∃ B, w.heap.size = B := ⟨_, rfl⟩
 obtain ⟨rc, hrc⟩ : ∃ rc : LoopState → Option Code → Loop, rc = fun st pe => { state := st, pending := pe, fn, tmps := a.tmps, params := ps, assign, body, defers := B } := ⟨_, rfl⟩
 obtain ⟨w1, hw1⟩ : ∃ w1, (w.alloc (.deferred (some []))).alloc (.loop (rc .ready none)) = w1 := ⟨_, rfl⟩
 have hsz : (w.alloc (.deferred (some []))).heap.size = B + 1 := by rw [World.size_alloc, hB]
 have hL : w1.heap[B + 1]? = some (.loop (rc .ready none)) := by
  rw [← hw1, ← hsz]; exact World.alloc_heap_new _ _
 have hK : w1.heap[B]? = some (.deferred (some [])) := by
  rw [← hw1]
  refine (Below.heap_alloc _ _ _ (by omega)).trans ?_
  rw [← hB]; exact World.alloc_heap_new _ _
 have hb : Upd Nowhere w w1 := by
  rw [← hw1]; exact ((Upd.refl _ w).alloc _).alloc _
 have hI : I [] w1 := hIu _ _ _ h0 hb
 refine ⟨B + 1, [{ target := .collected B, args := #[] }], w1, { target := .fn (.func gf) cap, args := first ++ #[.func (.yield (B + 1)) #[] #[]] }, w1, gf, first ++ #[.func (.yield (B + 1)) #[] #[]] ++ cap, w1, ?_, ?_, fun _ _ => trivial, ?_, fun hd => by simp [Fence.wide] at hd, ?_⟩
 · rw [← hw1, hrc, ← hB]; exact run_enterLoop_outer _ _ _ _ _
 · simp only [resolve, hg]
   simp [go_sem, Deferred.ofValue]
 · simp [invoke, eg]
 · have hblk : ∀ {W W' : World} {k : Nat} {o : Obj}, Upd Nowhere W W' → W.heap[k]? = some o → W'.heap[k]? = some o := fun hu hk => by
    rw [hu.block _ (Array.getElem?_eq_some_iff.1 hk).1 (fun h => h)]; exact hk
   have hround : ∀ pre x W, I pre W → W.heap[B + 1]? = some (.loop (rc .ready none)) → W.heap[B]? = some (.deferred (some [])) → (∃ r, xs = pre ++ x :: r) →
    YieldAt Fence.wide 0 P (B + 1) #[enc x] W fun e W' => Upd S W W' ∧ W'.heap[B]? = some (.deferred (some [])) ∧
     ((stop x = false ∧ e = .returned (.bool true) ∧ I (pre ++ [x]) W' ∧ W'.heap[B + 1]? = some (.loop (rc .ready none))) ∨ (stop x = true ∧ e = .returned (.bool false) ∧ X pre W' ∧ W'.heap[B + 1]? = some (.loop (rc .done (some (.exit id)))))) := by
    intro pre x W hi hl hk hx
    have hlt : B + 1 < W.heap.size := (Array.getElem?_eq_some_iff.1 hl).1
    have hy := run_yield (P := P) (args := #[enc x]) hl (by rw [hrc]; exact hps.symm)
    rw [hrc] at hy
    refine ⟨fn, _, assign, body, hy, roundIn_of_wpIn hfn (hassign _ x W _ ?_)⟩
    have hua : Upd Nowhere W (W.alloc (ob x)) := (Upd.refl _ _).alloc _
    have hla := hblk hua hl
    have hka := hblk hua hk
    have hNa : (W.alloc (ob x)).heap[W.heap.size]? = some (ob x) := World.alloc_heap_new _ _
    refine ⟨_, run_beginRound hla (by rw [hrc]), ?_⟩
    obtain ⟨W2, hW2⟩ : ∃ W2, (W.alloc (ob x)).putObj (B + 1) (.loop { rc .ready none with state := .busy }) = W2 := ⟨_, rfl⟩
    have hl2 : W2.heap[B + 1]? = some (.loop { rc .ready none with state := .busy }) := by rw [← hW2]; exact World.putObj_heap_same (Array.getElem?_eq_some_iff.1 hla).1
    have hk2 : W2.heap[B]? = some (.deferred (some [])) := by rw [← hW2]; exact (World.putObj_heap_other (by omega)).trans hka
    have hN2 : W2.heap[W.heap.size]? = some (ob x) := by rw [← hW2]; exact (World.putObj_heap_other (by omega)).trans hNa
    have hi2 : I pre W2 := by rw [← hW2]; exact hIp _ _ _ _ _ (hIu _ _ _ hi hua) (by omega) hla rfl
    have hb2 : Upd S W W2 := by rw [← hW2]; exact (hua.any S).trans (upd_put (hS _ (by omega))) (fun _ _ h => h)
    rw [hW2]
    refine wpIn_mono (hbody _ pre x W.heap.size W2 hi2 hx (by omega) hN2) ?_
    rintro e a3 W3 ⟨hk3, hb3, h3⟩
    have hl3 := hk3.same _ _ hl2 rfl
    have hk3' := hk3.same _ _ hk2 rfl
    have hlt3 := (Array.getElem?_eq_some_iff.1 hl3).1
    rcases h3 with ⟨hs, rfl, hi3⟩ | ⟨hs, rfl, hx3⟩
    · have hr := run_endRound (P := P) none hl3
      rw [hrc] at hr
      refine ⟨_, _, hr, (hb2.trans hb3 (fun _ _ h => h)).trans (upd_put (hS _ (by omega))) (fun _ _ h => h), (World.putObj_heap_other (by omega)).trans hk3', .inl ⟨hs, rfl, hIp _ _ _ _ _ hi3 (by omega) hl3 rfl, ?_⟩⟩
      rw [hrc]; exact World.putObj_heap_same hlt3
    · have hr := run_endRound (P := P) (some (.exit id)) hl3
      rw [hrc] at hr
      refine ⟨_, _, hr, (hb2.trans hb3 (fun _ _ h => h)).trans (upd_put (hS _ (by omega))) (fun _ _ h => h), (World.putObj_heap_other (by omega)).trans hk3', .inr ⟨hs, rfl, hXp _ _ _ _ _ hx3 (by omega) hl3 rfl, ?_⟩⟩
      rw [hrc]; exact World.putObj_heap_same hlt3
   refine (h (B + 1) (fun pre W => I pre W ∧ W.heap[B + 1]? = some (.loop (rc .ready none)) ∧ W.heap[B]? = some (.deferred (some []))) (fun pre W => X pre W ∧ W.heap[B + 1]? = some (.loop (rc .done (some (.exit id)))) ∧ W.heap[B]? = some (.deferred (some []))) w1 hb
    (fun pre W W' hJ hu => ⟨hIu _ _ _ hJ.1 hu, hblk hu hJ.2.1, hblk hu hJ.2.2⟩) (fun pre W W' hJ hu => ⟨hXu _ _ _ hJ.1 hu, hblk hu hJ.2.1, hblk hu hJ.2.2⟩) ?_ ?_ ⟨hI, hL, hK⟩).mono ?_
   · rintro pre x W ⟨hi, hl, hk⟩ hx hs
     obtain ⟨fn', t', as', bd', hy, hr⟩ := hround pre x W hi hl hk hx
     refine ⟨fn', t', as', bd', hy, hr.mono ?_⟩
     rintro e W' ⟨hu, hd, h | h⟩
     · exact ⟨h.2.1, ⟨h.2.2.1, h.2.2.2, hd⟩, hu⟩
     · rw [hs] at h; cases h.1
   · rintro pre x W ⟨hi, hl, hk⟩ hx hs
     obtain ⟨fn', t', as', bd', hy, hr⟩ := hround pre x W hi hl hk hx
     refine ⟨fn', t', as', bd', hy, hr.mono ?_⟩
     rintro e W' ⟨hu, hd, h | h⟩
     · rw [hs] at h; cases h.1
     · exact ⟨h.2.1, ⟨h.2.2.1, h.2.2.2, hd⟩, hu⟩
   · rintro e W2 ⟨⟨v, rfl⟩, ⟨hs, hi, hl, hk⟩ | ⟨hs, hi, hl, hk⟩⟩
     · have hr := run_endLoop (P := P) hl (by rw [hrc]; simp)
       rw [hrc] at hr
       exact ⟨none, _, hr, hdone B _ (by omega) hs (hIp _ _ _ _ _ hi (by omega) hl rfl) ((World.putObj_heap_other (by omega)).trans hk)⟩
     · have hr := run_endLoop (P := P) hl (by rw [hrc]; simp)
       rw [hrc] at hr
       exact ⟨some (.exit id), _, hr, hstop B _ (by omega) hs (hXp _ _ _ _ _ hi (by omega) hl rfl) ((World.putObj_heap_other (by omega)).trans hk)⟩
end Go.Proofs.YtdddfmdcjjbegaaGreat

