/- The example of red's laws. -/
import Derived.Test.YtgmiggnlhcldlaaRed4
namespace Go.Proofs.Ytgmiggnlhcldlaa.Red
open Go.RowKit Go.Proofs BigFrame
open Wide (Gives)
open Root (slo fol)
set_option maxHeartbeats 2000000
set_option maxRecDepth 100000
/-- A row of the call's own, not empty, taken apart for a walk. -/
theorem own_form {w : World} {base : Nat} {e : TypeId} {v : Value} {n : Nat} {xs : List Value} (h : w.ownsRow base e 1 v (n + 1) xs) : ∃ g cap, v = .slice (some ⟨g, 0, none⟩) (n + 1) cap ∧ ∀ j u, xs[j]? = some u → w.cell? ⟨g, j, none⟩ = some u := by
  have hl : xs.length = n + 1 := by simpa using h.1
  rcases h.2 with ⟨_, h0⟩ | ⟨g, cap, cur, rfl, _, _⟩
  · omega
  · refine ⟨g, cap, rfl, fun j u hu => ?_⟩
    have hc := h.cells (g := g) rfl j u hu
    have e : (⟨g, 0, none⟩ : Addr).add j = ⟨g, j, none⟩ := by rw [add_at, Nat.zero_add]
    rw [e] at hc
    exact hc
theorem lives (w : World) : Calls Try.prog 33 #[] w fun e w' => e = .returned (.bool true) ∧ Upd Nowhere w w' := by
  have hk : ok 10 20 65536 0 := by unfold ok; omega
  have hg : gns 10 20 65536 0 [15, 15, 15, 15] 0 0 4 = [.bool false, .bool true, .bool false, .bool true] := by
    have e0 : gn 10 20 65536 0 [15, 15, 15, 15] 0 0 0 = false := by decide +kernel
    have e1 : gn 10 20 65536 0 [15, 15, 15, 15] 0 0 1 = true := by decide +kernel
    have e2 : gn 10 20 65536 0 [15, 15, 15, 15] 0 0 2 = false := by decide +kernel
    have e3 : gn 10 20 65536 0 [15, 15, 15, 15] 0 0 3 = true := by decide +kernel
    show [Value.bool (gn 10 20 65536 0 [15, 15, 15, 15] 0 0 0), .bool (gn 10 20 65536 0 [15, 15, 15, 15] 0 0 1), .bool (gn 10 20 65536 0 [15, 15, 15, 15] 0 0 2), .bool (gn 10 20 65536 0 [15, 15, 15, 15] 0 0 3)] = _
    rw [e0, e1, e2, e3]
  have H1 := fun v u hv => Lib.hid (play_ok 10 20 65536 0 [15, 15, 15, 15] v hk (by simp) (fun i x h => by have := List.mem_of_getElem? h; simp at this; omega) u hv)
  have hn : nums [15, 15, 15, 15] = [.int .u64 15, .int .u64 15, .int .u64 15, .int .u64 15] := rfl
  have HG := Lib.hid hg
  have HN := Lib.hid hn
  clear hk hg hn
  go_enter Try.func33, Try.ntmps33
  go_wp2_with fail
  refine (H1 _ _ ?hrow).out.mono ?_
  case hrow =>
    refine ⟨some _, 4, rfl, (fun h => by cases h), fun b hb j u hu => ?_⟩
    obtain rfl : (⟨w.heap.size, 0, none⟩ : Addr) = b := by simpa using hb
    rw [HN.out] at hu
    refine ⟨rfl, ?_⟩
    have := new_cells w #[.int .u64 15, .int .u64 15, .int .u64 15, .int .u64 15] 22 j u (by simpa using hu)
    simpa using this
  rintro e w1 ⟨⟨r, rfl, hr⟩, u1⟩
  have hr4 : w1.ownsRow (w.alloc (.cells #[.int .u64 15, .int .u64 15, .int .u64 15, .int .u64 15] 22)).heap.size 4 1 r (3 + 1) (gns 10 20 65536 0 [15, 15, 15, 15] 0 0 4) := hr
  rw [HG.out] at hr4
  obtain ⟨g, cap, rfl, hc⟩ := own_form hr4
  have c0 := hc 0 _ rfl
  have c1 := hc 1 _ rfl
  have c2 := hc 2 _ rfl
  have c3 := hc 3 _ rfl
  clear hr hr4 hc
  go_wp2_with fail
  go_ret
  exact ⟨rfl, ((Upd.refl _ _).alloc _).trans u1 (fun _ _ h => h)⟩
end Go.Proofs.Ytgmiggnlhcldlaa.Red
