/- DrrOrder. -/
import Derived.Test.YtopibbaopglggaaDrrLives
import Derived.Test.YtopibbaopglggaaOpen
namespace Go.Proofs.Ytopibbaopglggaa.Drr
open Go.RowKit Go.Proofs BigFrame
set_option maxHeartbeats 8000000
set_option maxRecDepth 1000000
/-- What is done, as cells. -/
def actv (a : Bool × Int × Nat) : List Value := [.bool a.1, .int .i64 a.2.1, .int .u64 (a.2.2 : Nat)]
theorem actv_at {l : List (Bool × Int × Nat)} {i : Nat} {a : Bool × Int × Nat} (h : l[i]? = some a) {j : Nat} {v : Value} (hj : (actv a)[j]? = some v) : (l.flatMap actv)[i * 3 + j]? = some v := by
  induction l generalizing i with
  | nil => cases h
  | cons b l ih =>
    have hl : (actv b).length = 3 := rfl
    rw [List.flatMap_cons]
    cases i with
    | zero =>
      obtain rfl := Option.some.inj h
      have : j < 3 := by
        rcases Nat.lt_or_ge j 3 with h' | h'
        · exact h'
        · rw [List.getElem?_eq_none (by rw [hl]; exact h')] at hj; cases hj
      rw [List.getElem?_append_left (by rw [hl]; omega), Nat.zero_mul, Nat.zero_add]; exact hj
    | succ i =>
      rw [List.getElem?_append_right (by rw [hl]; omega), hl, show (i + 1) * 3 + j - 3 = i * 3 + j by omega]
      exact ih (by simpa using h)
/-- The row of these numbers. -/
def nrow (K : IntKind) (l : List Nat) : List Value := l.map fun x => .int K (x : Nat)
theorem nrow_len (K : IntKind) (l : List Nat) : (nrow K l).length = l.length := by simp [nrow]
theorem nrow_at {K : IntKind} {l : List Nat} {i x : Nat} (h : l[i]? = some x) : (nrow K l)[i]? = some (.int K (x : Nat)) := by simp [nrow, h]
theorem nrow_one (K : IntKind) (l : List Nat) : ∀ v ∈ nrow K l, v.oneCell' = true := fun v hv => by obtain ⟨x, _, rfl⟩ := List.mem_map.1 hv; rfl
/-- A row of numbers, taken apart. -/
theorem nrow_parts {K : IntKind} {w : World} {v : Value} {l : List Nat} (h : RowAt w v (nrow K l)) : ∃ ad c, v = .slice ad l.length c ∧ (ad = none → l = []) ∧ ∀ g, ad = some g → ∀ (j x : Nat), l[j]? = some x → g.spot = none ∧ w.cell? ⟨g.block, g.off + j, none⟩ = some (.int K (x : Nat)) := by
  obtain ⟨ad, c, rfl, h0, h1⟩ := h
  rw [nrow_len]
  exact ⟨ad, c, rfl, fun hn => by have := (h0 hn).1; simpa [nrow] using this, fun g hg j x hx => h1 g hg j _ (nrow_at hx)⟩
/-- The quanta of the law. -/
def quanta (l : List Nat) : List Nat := l.map (· + 64)
theorem quanta_len (l : List Nat) : (quanta l).length = l.length := by simp [quanta]
theorem quanta_good {l : List Nat} (h : ∀ x ∈ l, x ≤ 65535) : (quanta l).all good = true := by
  rw [List.all_eq_true]
  intro y hy
  obtain ⟨x, hx, rfl⟩ := List.mem_map.1 hy
  have := h x hx
  rw [good_iff]; omega
theorem quanta_take {l : List Nat} {k x : Nat} (h : l[k]? = some x) : quanta (l.take (k + 1)) = quanta (l.take k) ++ [x + 64] := by
  unfold quanta; rw [List.take_add_one, h]; simp
/-- Items of a class leave in the order in which they came: the last one's number, and those that wait. -/
structure InOrder (n : Nat) (its : Items) (la : Nat → Int) (top : Int) : Prop where
  above : ∀ c, c < n → ∀ x ∈ its c, la c < x.2
  rise : ∀ c, c < n → (its c).Pairwise (fun a b => a.2 < b.2)
  most : ∀ c, c < n → ∀ x ∈ its c, x.2 ≤ top
  past : ∀ c, c < n → la c ≤ top
theorem InOrder.push {n : Nat} {its : Items} {la : Nat → Int} {top : Int} (h : InOrder n its la top) (c : Nat) (s : Nat) {b : Int} (hb : top < b) : InOrder n (upd its c (its c ++ [(s, b)])) la b := by
  refine ⟨fun i hi x hx => ?_, fun i hi => ?_, fun i hi x hx => ?_, fun i hi => by have := h.past i hi; omega⟩
  · by_cases hic : i = c
    · subst hic; rw [upd_at] at hx
      rcases List.mem_append.1 hx with hx | hx
      · exact h.above i hi x hx
      · simp only [List.mem_singleton] at hx; subst hx; have := h.past i hi; simp only; omega
    · rw [upd_ne _ _ hic] at hx; exact h.above i hi x hx
  · by_cases hic : i = c
    · subst hic; rw [upd_at, List.pairwise_append]
      exact ⟨h.rise i hi, List.pairwise_singleton _ _, fun a ha b' hb' => by simp only [List.mem_singleton] at hb'; subst hb'; have := h.most i hi a ha; simp only; omega⟩
    · rw [upd_ne _ _ hic]; exact h.rise i hi
  · by_cases hic : i = c
    · subst hic; rw [upd_at] at hx
      rcases List.mem_append.1 hx with hx | hx
      · have := h.most i hi x hx; omega
      · simp only [List.mem_singleton] at hx; subst hx; exact Int.le_refl _
    · rw [upd_ne _ _ hic] at hx; have := h.most i hi x hx; omega
theorem InOrder.pop {n : Nat} {its : Items} {la : Nat → Int} {top : Int} (h : InOrder n its la top) {c : Nat} (hc : c < n) {x : Nat × Int} {tl : List (Nat × Int)} (hx : its c = x :: tl) : la c < x.2 ∧ InOrder n (upd its c tl) (upd la c x.2) top := by
  have hxm : x ∈ its c := by rw [hx]; exact List.mem_cons_self ..
  have hr := h.rise c hc
  rw [hx, List.pairwise_cons] at hr
  refine ⟨h.above c hc x hxm, fun i hi y hy => ?_, fun i hi => ?_, fun i hi y hy => ?_, fun i hi => ?_⟩
  · by_cases hic : i = c
    · subst hic; rw [upd_at] at hy ⊢; exact hr.1 y hy
    · rw [upd_ne _ _ hic] at hy ⊢; exact h.above i hi y hy
  · by_cases hic : i = c
    · subst hic; rw [upd_at]; exact hr.2
    · rw [upd_ne _ _ hic]; exact h.rise i hi
  · by_cases hic : i = c
    · subst hic; rw [upd_at] at hy; exact h.most i hi y (by rw [hx]; exact List.mem_cons_of_mem _ hy)
    · rw [upd_ne _ _ hic] at hy; exact h.most i hi y hy
  · by_cases hic : i = c
    · subst hic; rw [upd_at]; exact h.most i hi x hxm
    · rw [upd_ne _ _ hic]; exact h.past i hi
/-- The row of the last ones' numbers. -/
def Lasts (w : World) (b n : Nat) (la : Nat → Int) : Prop := ∃ cur : Array Value, Blk w b cur TI ∧ cur.size = n ∧ ∀ i, i < n → cur[i]? = some (.int .i64 (la i))
theorem Lasts.kept {w w' : World} {b n : Nat} {la : Nat → Int} (h : Lasts w b n la) {S : Nat → Prop} (hu : Upd S w w') (hs : ¬ S b) : Lasts w' b n la := by
  obtain ⟨cur, h1, h2⟩ := h; exact ⟨cur, h1.kept hu hs, h2⟩
theorem Lasts.lt {w : World} {b n : Nat} {la : Nat → Int} (h : Lasts w b n la) : b < w.heap.size := by obtain ⟨cur, h1, h2⟩ := h; exact h1.lt
theorem Lasts.at_ {w : World} {b n : Nat} {la : Nat → Int} (h : Lasts w b n la) {i : Nat} (hi : i < n) : w.cell? ⟨b, i, none⟩ = some (.int .i64 (la i)) ∧ w.frozen? ⟨b, i, none⟩ = false := by
  obtain ⟨cur, h1, h2, h3⟩ := h; exact ⟨h1.cellAt (h3 i hi), h1.free i⟩
theorem Lasts.set {w : World} {b n : Nat} {la : Nat → Int} (h : Lasts w b n la) {i : Nat} (hi : i < n) (x : Int) : Lasts (w.setCell ⟨b, i, none⟩ (.int .i64 x)) b n (upd la i x) := by
  obtain ⟨cur, h1, h2, h3⟩ := h
  refine ⟨_, h1.set i _, by simpa using h2, fun j hj => ?_⟩
  by_cases hji : j = i
  · subst hji; rw [upd_at]; exact Array.getElem?_setIfInBounds_self_of_lt (by omega)
  · rw [upd_ne _ _ hji, Array.getElem?_setIfInBounds_ne (Ne.symm hji)]; exact h3 j hj
theorem order_big (ad : Option Addr) (n ca : Nat) (ad2 : Option Addr) (n2 ca2 : Nat) (w : World) (h : n = 0 ∨ 20 < n ∨ 300 < n2) :
    Calls Try.prog 8 #[.slice ad n ca, .slice ad2 n2 ca2] w fun e w' => e = .returned (.bool true) ∧ Upd Nowhere w w' := by
  have HL := fun u => Lib.hid (lives u)
  by_cases h0 : n = 0
  · subst h0
    go_enter Try.func8, Try.ntmps8
    go_wp2_with fail
    refine ((HL _).out).mono ?_
    rintro e w1 ⟨rfl, u1⟩
    go_wp2_with fail
    go_ret
    exact ⟨rfl, u1⟩
  have t0 : ((n : Int) == 0) = false := by simp; omega
  by_cases h1 : 20 < n
  · have t1 : decide ((n : Int) > 20) = true := decide_eq_true (by omega)
    have t2 : decide (20 < n) = true := decide_eq_true h1
    clear h h0
    go_enter Try.func8, Try.ntmps8
    go_wp2_with fail
    refine ((HL _).out).mono ?_
    rintro e w1 ⟨rfl, u1⟩
    go_wp2_with fail
    go_ret
    exact ⟨rfl, u1⟩
  have t1 : decide ((n : Int) > 20) = false := decide_eq_false (by omega)
  have t2 : decide (20 < n) = false := decide_eq_false h1
  have t3 : decide ((n2 : Int) > 300) = true := decide_eq_true (by omega)
  have t4 : decide (300 < n2) = true := decide_eq_true (by omega)
  clear h h0
  go_enter Try.func8, Try.ntmps8
  go_wp2_with fail
  refine ((HL _).out).mono ?_
  rintro e w1 ⟨rfl, u1⟩
  go_wp2_with fail
  go_ret
  exact ⟨rfl, u1⟩
end Go.Proofs.Ytopibbaopglggaa.Drr
