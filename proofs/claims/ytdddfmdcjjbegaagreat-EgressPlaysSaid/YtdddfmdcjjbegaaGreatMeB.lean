/- DivPlain, DivPlain2, Pcs, PoolPlain, CalPlain, TwinPlain, TwinList, TwinList2, RootPlain, AifoPlain, GateCore, GateCore2, one behind the other. -/
import Derived.Test.YtdddfmdcjjbegaaGreatMeA
import Derived.WalkKit
namespace Go.Proofs.YtdddfmdcjjbegaaGreat.Div

/-- One digit: what holds of the guess q and the rest r in the loop: u * B + d is divided by Y = a * B + b. -/
structure Guess (u d a b q r : Nat) : Prop where
 rest : u = q * a + r
 high : (u * 4294967296 + d) / (a * 4294967296 + b) ≤ q
 le : q ≤ 4294967297

variable {u d a b q r : Nat}

theorem key_lt (p s : Nat) (h1 : u = p + r) (h2 : r * 4294967296 + d < s) : u * 4294967296 + d < p * 4294967296 + s := by
 rw [h1, Nat.add_mul, Nat.add_assoc]; exact Nat.add_lt_add_left h2 _
theorem key_le (p s : Nat) (h1 : u = p + r) (h2 : s ≤ r * 4294967296 + d) : p * 4294967296 + s ≤ u * 4294967296 + d := by subst h1; omega

theorem guess_start (ha : 2147483648 ≤ a) (hb : b < 4294967296) (hu : u < a * 4294967296 + b) (hd : d < 4294967296) : Guess u d a b (u / a) (u - u / a * a) := by
 have hda := Nat.div_add_mod u a
 have hc : a * (u / a) = u / a * a := Nat.mul_comm _ _
 refine ⟨by omega, ?_, ?_⟩
 · rw [Nat.div_le_iff_le_mul_add_pred (by omega)]
   have h1 : u < (u / a + 1) * a := by rw [Nat.add_mul, Nat.one_mul]; have := Nat.mod_lt u (show 0 < a by omega); omega
   have h2 : (u + 1) * 4294967296 ≤ (u / a + 1) * a * 4294967296 := Nat.mul_le_mul_right _ h1
   have e : (u / a + 1) * a * 4294967296 = u / a * (a * 4294967296) + a * 4294967296 := by rw [Nat.mul_assoc, Nat.add_mul, Nat.one_mul]
   have e2 : (a * 4294967296 + b) * (u / a) = u / a * (a * 4294967296) + b * (u / a) := by rw [Nat.add_mul, Nat.mul_comm (a * 4294967296)]
   rw [e2]
   have : 0 ≤ b * (u / a) := Nat.zero_le _
   omega
 · have h1 : u < (a + 1) * 4294967296 := by omega
   have h2 : u / a < 4294967298 := by
    rw [Nat.div_lt_iff_lt_mul (by omega)]
    omega
   omega

/-- The guess is too great: one less is still no less than the digit. -/
theorem guess_next (g : Guess u d a b q r) (hd : d < 4294967296) (hu : u < a * 4294967296 + b)
 (h : 4294967296 ≤ q ∨ r * 4294967296 + d < q * b) : Guess u d a b (q - 1) (r + a) ∧ 1 ≤ q := by
 have hlt : (u * 4294967296 + d) / (a * 4294967296 + b) < q := by
  rcases h with h | h
  · rw [Nat.div_lt_iff_lt_mul (by omega)]
    have h1 : 4294967296 * (a * 4294967296 + b) ≤ q * (a * 4294967296 + b) := Nat.mul_le_mul_right _ h
    omega
  · rw [Nat.div_lt_iff_lt_mul (by omega), Nat.mul_add q (a * 4294967296) b]
    have e : q * (a * 4294967296) = q * a * 4294967296 := (Nat.mul_assoc q a 4294967296).symm
    rw [e]
    exact key_lt _ _ g.rest h
 have h1 : 1 ≤ q := Nat.lt_of_le_of_lt (Nat.zero_le _) hlt
 have hk := Nat.le_sub_one_of_lt hlt
 obtain ⟨k, rfl⟩ : ∃ k, q = k + 1 := ⟨q - 1, (Nat.sub_add_cancel h1).symm⟩
 have hr := g.rest
 rw [Nat.add_mul, Nat.one_mul] at hr
 have := g.le
 exact ⟨⟨by rw [Nat.add_sub_cancel]; omega, hk, by omega⟩, h1⟩

/-- The guess is not too great: it is the digit. -/
theorem guess_done (g : Guess u d a b q r) (ha : 2147483648 ≤ a) (h : q * b ≤ r * 4294967296 + d) : q = (u * 4294967296 + d) / (a * 4294967296 + b) := by
 have h1 : q ≤ (u * 4294967296 + d) / (a * 4294967296 + b) := by
  rw [Nat.le_div_iff_mul_le (by omega), Nat.mul_add q (a * 4294967296) b]
  have e : q * (a * 4294967296) = q * a * 4294967296 := (Nat.mul_assoc q a 4294967296).symm
  rw [e]
  exact key_le _ _ g.rest h
 exact Nat.le_antisymm h1 g.high

/-- The rest has grown over a digit: the guess is the digit. -/
theorem guess_over (g : Guess u d a b q r) (ha : 2147483648 ≤ a) (hb : b < 4294967296) (hq : q ≤ 4294967296) (h : 4294967296 ≤ r) : q = (u * 4294967296 + d) / (a * 4294967296 + b) := by
 refine guess_done g ha ?_
 have h1 : q * b ≤ 4294967296 * 4294967295 := Nat.mul_le_mul hq (by omega)
 omega

end Go.Proofs.YtdddfmdcjjbegaaGreat.Div
namespace Go.Proofs.YtdddfmdcjjbegaaGreat.Div

theorem wraps (X Z d R : Nat) (h : X + d = Z + R) (hR : R < 18446744073709551616) :
 ((((X % 18446744073709551616 + d) % 18446744073709551616 : Nat) : Int) - ((Z % 18446744073709551616 : Nat) : Int)) % 18446744073709551616 = (R : Int) := by omega

theorem lin {u d1 d0 A C R R0 : Nat} (h1 : u * 4294967296 + d1 = A + R) (h2 : R * 4294967296 + d0 = C + R0) : u * 18446744073709551616 + (d1 * 4294967296 + d0) = A * 4294967296 + C + R0 := by
 have e1 : u * 18446744073709551616 = u * 4294967296 * 4294967296 := by rw [Nat.mul_assoc]
 rw [e1, ← Nat.add_assoc, ← Nat.add_mul, h1, Nat.add_mul, Nat.add_assoc, h2, Nat.add_assoc]

/-- N is what is divided, y by what; both doubled s times. -/
structure Parts (N y s Y u L : Nat) : Prop where
 eY : Y = y * 2 ^ s
 eN : N * 2 ^ s = u * 18446744073709551616 + L
 lt : L < 18446744073709551616
 low : u < Y
 nz : 0 < y

theorem quot {N y s Y u L d1 d0 Q R Q0 R0 : Nat} (p : Parts N y s Y u L) (hL : L = d1 * 4294967296 + d0) (h1 : u * 4294967296 + d1 = Q * Y + R) (h2 : R * 4294967296 + d0 = Q0 * Y + R0) (hR : R0 < Y) :
 N / y = Q * 4294967296 + Q0 ∧ N % y = R0 / 2 ^ s := by
 have hp : 0 < 2 ^ s := Nat.two_pow_pos s
 have hY : 0 < Y := by rw [p.eY]; exact Nat.mul_pos p.nz hp
 have e : N * 2 ^ s = (Q * 4294967296 + Q0) * Y + R0 := by
  have h3 : (Q * 4294967296 + Q0) * Y = Q * Y * 4294967296 + Q0 * Y := by rw [Nat.add_mul, Nat.mul_right_comm]
  have h4 := p.eN
  rw [h3, h4, hL]
  exact lin h1 h2
 have hd : N * 2 ^ s / Y = Q * 4294967296 + Q0 := by
  rw [e, Nat.mul_comm _ Y, Nat.mul_add_div hY, Nat.div_eq_of_lt hR, Nat.add_zero]
 have hm : N * 2 ^ s % Y = R0 := by
  rw [e, Nat.mul_comm _ Y, Nat.mul_add_mod, Nat.mod_eq_of_lt hR]
 rw [p.eY] at hd hm
 refine ⟨by rw [← hd, Nat.mul_div_mul_right _ _ hp], ?_⟩
 rw [Nat.mul_mod_mul_right] at hm
 rw [← hm, Nat.mul_div_cancel _ hp]
end Go.Proofs.YtdddfmdcjjbegaaGreat.Div
namespace Go.Proofs.YtdddfmdcjjbegaaGreat
open Go.RowKit
/-- The cells of pairs. -/
def pcs : List (Nat × Int) → List Value
 | [] => []
 | e :: r => .int .u64 (e.1 : Nat) :: .int .i64 e.2 :: pcs r
theorem pcs_append (l m : List (Nat × Int)) : pcs (l ++ m) = pcs l ++ pcs m := by
 induction l with
 | nil => rfl
 | cons e r ih => simp only [List.cons_append, pcs, ih]
theorem pcs_at : ∀ (l : List (Nat × Int)) (i : Nat) (e : Nat × Int), l[i]? = some e → (pcs l)[i * 2]? = some (.int .u64 (e.1 : Nat)) ∧ (pcs l)[i * 2 + 1]? = some (.int .i64 e.2) := by
 intro l
 induction l with
 | nil => intro i e h; cases h
 | cons a r ih =>
   intro i e h
   cases i with
   | zero => obtain rfl := Option.some.inj h; exact ⟨rfl, rfl⟩
   | succ i =>
     have h1 := ih i e (by simpa using h)
     have e1 : (i + 1) * 2 = i * 2 + 1 + 1 := by omega
     simp only [e1, pcs, List.getElem?_cons_succ]
     exact h1
/-- Pairs in a row of their own. -/
abbrev PRow (E : TypeId) (base : Nat) (w : World) (v : Value) (l : List (Nat × Int)) : Prop := w.ownsRow base E 2 v l.length (pcs l)
section
variable {E : TypeId} {base : Nat} {w w' : World} {v : Value} {l : List (Nat × Int)}
theorem PRow.form (h : PRow E base w v l) : ∃ ad c, v = .slice ad l.length c := by
 rcases h.2 with ⟨rfl, h0⟩ | ⟨g, c, cur, rfl, _⟩
 · exact ⟨none, 0, by rw [h0]⟩
 · exact ⟨_, c, rfl⟩
theorem PRow.cell (h : PRow E base w v l) {i : Nat} {e : Nat × Int} (he : l[i]? = some e) : ∃ g c, v = .slice (some ⟨g, 0, none⟩) l.length c ∧ g < w.heap.size ∧ w.cell? ⟨g, i * 2, none⟩ = some (.int .u64 (e.1 : Nat)) ∧ w.cell? ⟨g, i * 2 + 1, none⟩ = some (.int .i64 e.2) := by
 have hi : i < l.length := by
  rcases Nat.lt_or_ge i l.length with h' | h'
  · exact h'
  · rw [List.getElem?_eq_none h'] at he; cases he
 rcases h.2 with ⟨rfl, h0⟩ | ⟨g, c, cur, rfl, _, hb, h1, h2, h3, ht⟩
 · omega
 · obtain ⟨e1, e2⟩ := pcs_at l i e he
   rw [← ht] at e1 e2
   rw [List.getElem?_take_of_lt (by omega)] at e1 e2
   exact ⟨g, c, rfl, Blk.lt hb, Blk.cellAt hb (by simpa using e1), Blk.cellAt hb (by simpa using e2)⟩
theorem PRow.nil (E : TypeId) (base : Nat) (w : World) : PRow E base w (.slice none 0 0) [] := ownsRow_nil _ _ _ _
theorem PRow.push {n : Nat} (e : Nat × Int) (hn : l.length + 1 = n) (h : w.ownsRow base E 2 v n (pcs l ++ [.int .u64 (e.1 : Nat), .int .i64 e.2])) : PRow E base w v (l ++ [e]) := by
 have e1 : (l ++ [e]).length = n := by simpa using hn
 have e2 : pcs (l ++ [e]) = pcs l ++ [.int .u64 (e.1 : Nat), .int .i64 e.2] := by rw [pcs_append]; rfl
 unfold PRow
 rw [e1, e2]
 exact h
end
/-- One comes in behind all that are not above it. -/
def insR (p : Nat × Int) : List (Nat × Int) → List (Nat × Int)
 | [] => [p]
 | a :: r => if p.1 < a.1 then p :: a :: r else a :: insR p r
theorem insR_perm (p : Nat × Int) (l : List (Nat × Int)) : (insR p l).Perm (p :: l) := by
 induction l with
 | nil => exact List.Perm.refl _
 | cons a r ih =>
   unfold insR
   split
   · exact List.Perm.refl _
   · exact (ih.cons a).trans (List.Perm.swap p a r)
theorem insR_length (p : Nat × Int) (l : List (Nat × Int)) : (insR p l).length = l.length + 1 := by rw [(insR_perm p l).length_eq]; rfl
end Go.Proofs.YtdddfmdcjjbegaaGreat
namespace Go.Proofs.YtdddfmdcjjbegaaGreat.Cal
open Heap
section
variable {α : Type}
/-- A thing comes in behind all that are not above it. -/
def ins (r : Nat) (x : α) : List (Nat × α) → List (Nat × α)
 | [] => [(r, x)]
 | a :: t => if r < a.1 then (r, x) :: a :: t else a :: ins r x t
/-- An item: an entry without when it came. -/
def itm (e : Ent α) : Nat × α := (e.1, e.2.2)
/-- The items of entries. -/
def itms (s : List (Ent α)) : List (Nat × α) := s.map itm
theorem itms_len (s : List (Ent α)) : (itms s).length = s.length := by simp [itms]
/-- The list s has the heap's entries in order. -/
structure Mt (came : Nat) (l s : List (Ent α)) : Prop where
 perm : s.Perm l
 ord : s.Pairwise (fun a b => ahd a b = true)
 old : ∀ e ∈ s, e.2.1 < came
theorem Mt.nil : Mt 0 ([] : List (Ent α)) [] := ⟨List.Perm.refl _, List.Pairwise.nil, fun e h => by cases h⟩
theorem Mt.len {came : Nat} {l s : List (Ent α)} (h : Mt came l s) : s.length = l.length := h.perm.length_eq
/-- An entry comes in behind all that are not above it. -/
def insE (p : Ent α) : List (Ent α) → List (Ent α)
 | [] => [p]
 | a :: r => if p.1 < a.1 then p :: a :: r else a :: insE p r
theorem insE_perm (p : Ent α) (l : List (Ent α)) : (insE p l).Perm (p :: l) := by
 induction l with
 | nil => exact List.Perm.refl _
 | cons a r ih =>
   unfold insE
   split
   · exact List.Perm.refl _
   · exact (ih.cons a).trans (List.Perm.swap p a r)
theorem itms_ins (p : Ent α) (l : List (Ent α)) : itms (insE p l) = ins (itm p).1 (itm p).2 (itms l) := by
 induction l with
 | nil => rfl
 | cons a r ih =>
   unfold itms at ih ⊢
   simp only [insE, List.map_cons, ins]
   by_cases h : p.1 < a.1
   · rw [if_pos h, if_pos (show (itm p).1 < (itm a).1 from h)]; rfl
   · rw [if_neg h, if_neg (show ¬ (itm p).1 < (itm a).1 from h), List.map_cons, ih]
theorem insE_ord (p : Ent α) (l : List (Ent α)) (ho : l.Pairwise (fun a b => ahd a b = true)) (hp : ∀ e ∈ l, e.2.1 < p.2.1) : (insE p l).Pairwise (fun a b => ahd a b = true) := by
 induction l with
 | nil => simp [insE]
 | cons a r ih =>
   unfold insE
   have ho' := List.pairwise_cons.1 ho
   split
   · rename_i h
     refine List.pairwise_cons.2 ⟨fun e he => ?_, ho⟩
     rcases List.mem_cons.1 he with rfl | he
     · exact ahd_iff.2 (.inl h)
     · have := ahd_iff.1 (ho'.1 e he); exact ahd_iff.2 (by omega)
   · rename_i h
     refine List.pairwise_cons.2 ⟨fun e he => ?_, ih ho'.2 (fun e he => hp e (List.mem_cons_of_mem _ he))⟩
     rcases List.mem_cons.1 ((insE_perm p r).mem_iff.1 he) with rfl | he
     · have := hp a List.mem_cons_self; exact ahd_iff.2 (by omega)
     · exact ho'.1 e he
theorem Mt.none {came : Nat} {l : List (Ent α)} (h : Mt came l []) : l = [] := by
 have := h.len; cases l with | nil => rfl | cons a r => simp at this
/-- Ranks that never fall. -/
def Rises (l : List (Nat × α)) : Prop := l.Pairwise (fun a b => a.1 ≤ b.1)
theorem ins_mem {r : Nat} {x : α} {l : List (Nat × α)} {a : Nat × α} : a ∈ ins r x l ↔ a = (r, x) ∨ a ∈ l := by
 induction l with
 | nil => simp [ins]
 | cons b t ih =>
   unfold ins
   split
   · simp
   · simp [ih]; constructor
     · rintro (h | h | h)
       · exact .inr (.inl h)
       · exact .inl h
       · exact .inr (.inr h)
     · rintro (h | h | h)
       · exact .inr (.inl h)
       · exact .inl h
       · exact .inr (.inr h)
theorem ins_len (r : Nat) (x : α) (l : List (Nat × α)) : (ins r x l).length = l.length + 1 := by
 induction l with
 | nil => rfl
 | cons b t ih => unfold ins; split <;> simp [ih]
/-- The things of a day. -/
def dayq (N q : Nat) (l : List (Nat × α)) : List α := l.filterMap (fun a => if a.1 % N = q then some a.2 else none)
/-- What is in the window, by days. -/
structure Win (N base : Nat) (Qx : Nat → List α) (W : List (Nat × α)) : Prop where
 inw : ∀ a ∈ W, base ≤ a.1 ∧ a.1 < base + N
 que : ∀ q, q < N → Qx q = dayq N q W
theorem Win.nil (N base : Nat) : Win N base (fun _ => ([] : List α)) [] := ⟨fun a h => (by cases h), fun _ _ => rfl⟩
/-- The list M is what waits below, in the window, and above. -/
structure Cm (N base : Nat) (Qx : Nat → List α) (B W R M : List (Nat × α)) : Prop where
 eq : M = B ++ (W ++ R)
 ris : Rises M
 win : Win N base Qx W
 bel : ∀ a ∈ B, a.1 < base
 abo : ∀ a ∈ R, base + N ≤ a.1
theorem Cm.nil (N base : Nat) : Cm N base (fun _ => ([] : List α)) [] [] [] [] := ⟨rfl, List.Pairwise.nil, Win.nil N base, fun _ h => (by cases h), fun _ h => (by cases h)⟩
end
end Go.Proofs.YtdddfmdcjjbegaaGreat.Cal
namespace Go.Proofs.YtdddfmdcjjbegaaGreat.TwinL
/-- Of each pair the first is not above the second, and each pair lies between those above it. -/
structure PT (a b : Nat → Nat) (m : Nat) : Prop where
 P : ∀ r, r < m → a r ≤ b r
 L : ∀ r, 0 < r → r < m → a ((r - 1) / 2) ≤ a r
 H : ∀ r, 0 < r → r < m → b r ≤ b ((r - 1) / 2)
/-- The same, but for the pair p, one of which may be out of the pair above. -/
structure BU (a b : Nat → Nat) (m p : Nat) : Prop where
 P : ∀ r, r < m → a r ≤ b r
 L : ∀ r, 0 < r → r < m → r ≠ p → a ((r - 1) / 2) ≤ a r
 H : ∀ r, 0 < r → r < m → r ≠ p → b r ≤ b ((r - 1) / 2)
 two : ∀ c, 0 < p → 0 < c → c < m → (c - 1) / 2 = p → a ((p - 1) / 2) ≤ a c ∧ b c ≤ b ((p - 1) / 2)
 one : 0 < p → a ((p - 1) / 2) ≤ a p ∨ b p ≤ b ((p - 1) / 2)
section
variable {a b a' b' : Nat → Nat} {m p q u : Nat}
theorem BU.low (h : BU a b m p) (hp : 0 < p) (hpm : p < m) (hq : (p - 1) / 2 = q) (hlt : a p < a q) (ha : ∀ r, r < m → a' r = if r = q then a p else if r = p then a q else a r)
 (hb : ∀ r, r < m → r ≠ p → b' r = b r) (hs : b' p = b p ∧ a q ≤ b p ∨ b' p = a q ∧ ∀ c, 0 < c → c < m → (c - 1) / 2 ≠ p) : BU a' b' m q := by
 have hqp : q < p := by omega
 have a1 : a' q = a p := by rw [ha q (by omega), if_pos rfl]
 have a2 : a' p = a q := by rw [ha p hpm, if_neg (by omega), if_pos rfl]
 have a3 : ∀ r, r < m → r ≠ q → r ≠ p → a' r = a r := fun r hm h1 h2 => by rw [ha r hm, if_neg h1, if_neg h2]
 have b1 : b' q = b q := hb q (by omega) (by omega)
 have pq := h.P q (by omega)
 have pp := h.P p hpm
 have ho := h.one hp
 rw [hq] at ho
 refine ⟨fun r hr => ?_, fun r h0 hr hne => ?_, fun r h0 hr hne => ?_, fun c hq0 h0 hc hcp => ?_, fun hq0 => ?_⟩
 · by_cases e1 : r = q
   · subst e1; omega
   · by_cases e2 : r = p
     · subst e2; omega
     · rw [a3 r hr e1 e2, hb r hr e2]; exact h.P r hr
 · by_cases e2 : r = p
   · subst e2; rw [hq]; omega
   · rw [a3 r hr hne e2]
     have hL := h.L r h0 hr e2
     by_cases e3 : (r - 1) / 2 = q
     · rw [e3] at hL ⊢; omega
     · by_cases e4 : (r - 1) / 2 = p
       · rw [e4, a2]
         have := h.two r hp h0 hr e4
         rw [hq] at this
         exact this.1
       · rw [a3 _ (by omega) e3 e4]; exact hL
 · by_cases e2 : r = p
   · subst e2; rw [hq]; omega
   · rw [hb r hr e2]
     have hH := h.H r h0 hr e2
     by_cases e4 : (r - 1) / 2 = p
     · rw [e4] at hH ⊢
       rcases hs with hs | hs
       · omega
       · exact absurd e4 (hs.2 r h0 hr)
     · rw [hb _ (by omega) e4]; exact hH
 · have hLq := h.L q hq0 (by omega) (by omega)
   have hHq := h.H q hq0 (by omega) (by omega)
   rw [a3 ((q - 1) / 2) (by omega) (by omega) (by omega), hb ((q - 1) / 2) (by omega) (by omega)]
   by_cases e2 : c = p
   · subst e2; omega
   · rw [a3 c hc (by omega) e2, hb c hc e2]
     have hL := h.L c h0 hc e2
     have hH := h.H c h0 hc e2
     rw [hcp] at hL hH
     omega
 · have hHq := h.H q hq0 (by omega) (by omega)
   rw [b1, hb ((q - 1) / 2) (by omega) (by omega)]
   exact .inr hHq
theorem BU.high (h : BU a b m p) (hp : 0 < p) (hpm : p < m) (hq : (p - 1) / 2 = q) (hlt : b q < b p) (hb : ∀ r, r < m → b' r = if r = q then b p else if r = p then b q else b r)
 (ha : ∀ r, r < m → r ≠ p → a' r = a r) (hs : a' p = a p ∧ a p ≤ b q ∨ a' p = b q ∧ ∀ c, 0 < c → c < m → (c - 1) / 2 ≠ p) : BU a' b' m q := by
 have hqp : q < p := by omega
 have b1 : b' q = b p := by rw [hb q (by omega), if_pos rfl]
 have b2 : b' p = b q := by rw [hb p hpm, if_neg (by omega), if_pos rfl]
 have b3 : ∀ r, r < m → r ≠ q → r ≠ p → b' r = b r := fun r hm h1 h2 => by rw [hb r hm, if_neg h1, if_neg h2]
 have a1 : a' q = a q := ha q (by omega) (by omega)
 have pq := h.P q (by omega)
 have pp := h.P p hpm
 have ho := h.one hp
 rw [hq] at ho
 refine ⟨fun r hr => ?_, fun r h0 hr hne => ?_, fun r h0 hr hne => ?_, fun c hq0 h0 hc hcp => ?_, fun hq0 => ?_⟩
 · by_cases e1 : r = q
   · subst e1; omega
   · by_cases e2 : r = p
     · subst e2; omega
     · rw [b3 r hr e1 e2, ha r hr e2]; exact h.P r hr
 · by_cases e2 : r = p
   · subst e2; rw [hq]; omega
   · rw [ha r hr e2]
     have hL := h.L r h0 hr e2
     by_cases e4 : (r - 1) / 2 = p
     · rw [e4] at hL ⊢
       rcases hs with hs | hs
       · omega
       · exact absurd e4 (hs.2 r h0 hr)
     · rw [ha _ (by omega) e4]; exact hL
 · by_cases e2 : r = p
   · subst e2; rw [hq]; omega
   · rw [b3 r hr hne e2]
     have hH := h.H r h0 hr e2
     by_cases e3 : (r - 1) / 2 = q
     · rw [e3] at hH ⊢; omega
     · by_cases e4 : (r - 1) / 2 = p
       · rw [e4, b2]
         have := h.two r hp h0 hr e4
         rw [hq] at this
         exact this.2
       · rw [b3 _ (by omega) e3 e4]; exact hH
 · have hLq := h.L q hq0 (by omega) (by omega)
   have hHq := h.H q hq0 (by omega) (by omega)
   rw [b3 ((q - 1) / 2) (by omega) (by omega) (by omega), ha ((q - 1) / 2) (by omega) (by omega)]
   by_cases e2 : c = p
   · subst e2; omega
   · rw [b3 c hc (by omega) e2, ha c hc e2]
     have hL := h.L c h0 hc e2
     have hH := h.H c h0 hc e2
     rw [hcp] at hL hH
     omega
 · have hLq := h.L q hq0 (by omega) (by omega)
   rw [a1, ha ((q - 1) / 2) (by omega) (by omega)]
   exact .inl hLq
theorem BU.done (h : BU a b m p) (h1 : 0 < p → a ((p - 1) / 2) ≤ a p) (h2 : 0 < p → b p ≤ b ((p - 1) / 2)) : PT a b m :=
 ⟨h.P, fun r h0 hr => if e : r = p then by subst e; exact h1 h0 else h.L r h0 hr e, fun r h0 hr => if e : r = p then by subst e; exact h2 h0 else h.H r h0 hr e⟩
/-- But for the first of pair p, which may be too great. -/
structure BL (a b : Nat → Nat) (m p : Nat) : Prop where
 P : ∀ r, r < m → r ≠ p → a r ≤ b r
 L : ∀ r, 0 < r → r < m → (r - 1) / 2 ≠ p → a ((r - 1) / 2) ≤ a r
 H : ∀ r, 0 < r → r < m → b r ≤ b ((r - 1) / 2)
 up : 0 < p → a ((p - 1) / 2) ≤ a p ∧ a ((p - 1) / 2) ≤ b p ∧ a p ≤ b ((p - 1) / 2)
 two : ∀ c, 0 < p → 0 < c → c < m → (c - 1) / 2 = p → a ((p - 1) / 2) ≤ a c
theorem BL.pair (h : BL a b m p) (hpm : p < m) (hlt : b p < a p) (ha : ∀ r, r < m → a' r = if r = p then b p else a r) (hb : ∀ r, r < m → b' r = if r = p then a p else b r) : BL a' b' m p ∧ a' p ≤ b' p := by
 have a1 : a' p = b p := by rw [ha p hpm, if_pos rfl]
 have b1 : b' p = a p := by rw [hb p hpm, if_pos rfl]
 have a2 : ∀ r, r < m → r ≠ p → a' r = a r := fun r hr e => by rw [ha r hr, if_neg e]
 have b2 : ∀ r, r < m → r ≠ p → b' r = b r := fun r hr e => by rw [hb r hr, if_neg e]
 refine ⟨⟨fun r hr hne => by rw [a2 r hr hne, b2 r hr hne]; exact h.P r hr hne, fun r h0 hr hne => ?_, fun r h0 hr => ?_, fun h0 => ?_, fun c hp0 h0 hc hcp => ?_⟩, by omega⟩
 · have hL := h.L r h0 hr hne
   by_cases e : r = p
   · subst e; rw [a2 _ (by omega) hne]; have := h.up h0; omega
   · rw [a2 _ (by omega) hne, a2 r hr e]; exact hL
 · have hH := h.H r h0 hr
   by_cases e : r = p
   · subst e; rw [b2 ((r - 1) / 2) (by omega) (by omega)]; have := h.up h0; omega
   · rw [b2 r hr e]
     by_cases e2 : (r - 1) / 2 = p
     · rw [e2] at hH ⊢; omega
     · rw [b2 _ (by omega) e2]; exact hH
 · have hu := h.up h0
   have hH := h.H p h0 hpm
   rw [a2 ((p - 1) / 2) (by omega) (by omega), b2 ((p - 1) / 2) (by omega) (by omega)]
   omega
 · rw [a2 ((p - 1) / 2) (by omega) (by omega), a2 c hc (by omega)]
   exact h.two c hp0 h0 hc hcp
theorem BL.step (h : BL a b m p) (hP : a p ≤ b p) (hum : u < m) (hu0 : 0 < u) (hu : (u - 1) / 2 = p) (hlt : a u < a p) (hmin : ∀ c, 0 < c → c < m → (c - 1) / 2 = p → a u ≤ a c)
 (ha : ∀ r, r < m → a' r = if r = p then a u else if r = u then a p else a r) (hb : ∀ r, r < m → r ≠ u → b' r = b r) (hs : b' u = b u ∨ b' u = a p ∧ ∀ c, 0 < c → c < m → (c - 1) / 2 ≠ u) : BL a' b' m u := by
 have hpu : p < u := by omega
 have a1 : a' p = a u := by rw [ha p (by omega), if_pos rfl]
 have a2 : a' u = a p := by rw [ha u hum, if_neg (by omega), if_pos rfl]
 have a3 : ∀ r, r < m → r ≠ p → r ≠ u → a' r = a r := fun r hm h1 h2 => by rw [ha r hm, if_neg h1, if_neg h2]
 have b1 : b' p = b p := hb p (by omega) (by omega)
 have Pu := h.P u hum (by omega)
 have Hu := h.H u hu0 hum
 rw [hu] at Hu
 refine ⟨fun r hr hne => ?_, fun r h0 hr hne => ?_, fun r h0 hr => ?_, fun _ => ?_, fun c _ h0 hc hcp => ?_⟩
 · by_cases e : r = p
   · subst e; omega
   · rw [a3 r hr e hne, hb r hr hne]; exact h.P r hr e
 · by_cases e : (r - 1) / 2 = p
   · rw [e, a1]
     by_cases e2 : r = u
     · subst e2; omega
     · rw [a3 r hr (by omega) e2]; exact hmin r h0 hr e
   · rw [a3 _ (by omega) e hne]
     by_cases e2 : r = p
     · subst e2; rw [a1]; exact h.two u h0 hu0 hum hu
     · rw [a3 r hr e2 (by omega)]; exact h.L r h0 hr e
 · have hH := h.H r h0 hr
   by_cases e : r = u
   · subst e; rw [hu] at hH ⊢; omega
   · rw [hb r hr e]
     by_cases e2 : (r - 1) / 2 = u
     · rcases hs with hs | hs
       · rw [e2] at hH ⊢; omega
       · exact absurd e2 (hs.2 r h0 hr)
     · rw [hb _ (by omega) e2]; exact hH
 · rw [hu]; omega
 · rw [hu, a1, a3 c hc (by omega) (by omega)]
   have := h.L c h0 hc (by omega)
   rw [hcp] at this
   exact this
theorem BL.done (h : BL a b m p) (hP : a p ≤ b p) (hL : ∀ c, 0 < c → c < m → (c - 1) / 2 = p → a p ≤ a c) : PT a b m :=
 ⟨fun r hr => if e : r = p then by subst e; exact hP else h.P r hr e, fun r h0 hr => if e : (r - 1) / 2 = p then by rw [e]; exact hL r h0 hr e else h.L r h0 hr e, h.H⟩
/-- But for the second of pair p, which may be too small. -/
structure BH (a b : Nat → Nat) (m p : Nat) : Prop where
 P : ∀ r, r < m → r ≠ p → a r ≤ b r
 L : ∀ r, 0 < r → r < m → a ((r - 1) / 2) ≤ a r
 H : ∀ r, 0 < r → r < m → (r - 1) / 2 ≠ p → b r ≤ b ((r - 1) / 2)
 up : 0 < p → b p ≤ b ((p - 1) / 2) ∧ a p ≤ b ((p - 1) / 2) ∧ a ((p - 1) / 2) ≤ b p
 two : ∀ c, 0 < p → 0 < c → c < m → (c - 1) / 2 = p → b c ≤ b ((p - 1) / 2)
theorem BH.pair (h : BH a b m p) (hpm : p < m) (hlt : b p < a p) (ha : ∀ r, r < m → a' r = if r = p then b p else a r) (hb : ∀ r, r < m → b' r = if r = p then a p else b r) : BH a' b' m p ∧ a' p ≤ b' p := by
 have a1 : a' p = b p := by rw [ha p hpm, if_pos rfl]
 have b1 : b' p = a p := by rw [hb p hpm, if_pos rfl]
 have a2 : ∀ r, r < m → r ≠ p → a' r = a r := fun r hr e => by rw [ha r hr, if_neg e]
 have b2 : ∀ r, r < m → r ≠ p → b' r = b r := fun r hr e => by rw [hb r hr, if_neg e]
 refine ⟨⟨fun r hr hne => by rw [a2 r hr hne, b2 r hr hne]; exact h.P r hr hne, fun r h0 hr => ?_, fun r h0 hr hne => ?_, fun h0 => ?_, fun c hp0 h0 hc hcp => ?_⟩, by omega⟩
 · have hL := h.L r h0 hr
   by_cases e : r = p
   · subst e; rw [a2 ((r - 1) / 2) (by omega) (by omega)]; have := h.up h0; omega
   · rw [a2 r hr e]
     by_cases e2 : (r - 1) / 2 = p
     · rw [e2] at hL ⊢; omega
     · rw [a2 _ (by omega) e2]; exact hL
 · have hH := h.H r h0 hr hne
   by_cases e : r = p
   · subst e; rw [b2 _ (by omega) hne]; have := h.up h0; omega
   · rw [b2 _ (by omega) hne, b2 r hr e]; exact hH
 · have hu := h.up h0
   have hL := h.L p h0 hpm
   rw [a2 ((p - 1) / 2) (by omega) (by omega), b2 ((p - 1) / 2) (by omega) (by omega)]
   omega
 · rw [b2 ((p - 1) / 2) (by omega) (by omega), b2 c hc (by omega)]
   exact h.two c hp0 h0 hc hcp
theorem BH.step (h : BH a b m p) (hP : a p ≤ b p) (hum : u < m) (hu0 : 0 < u) (hu : (u - 1) / 2 = p) (hlt : b p < b u) (hmax : ∀ c, 0 < c → c < m → (c - 1) / 2 = p → b c ≤ b u)
 (hb : ∀ r, r < m → b' r = if r = p then b u else if r = u then b p else b r) (ha : ∀ r, r < m → r ≠ u → a' r = a r) (hs : a' u = a u ∨ a' u = b p ∧ ∀ c, 0 < c → c < m → (c - 1) / 2 ≠ u) : BH a' b' m u := by
 have hpu : p < u := by omega
 have b1 : b' p = b u := by rw [hb p (by omega), if_pos rfl]
 have b2 : b' u = b p := by rw [hb u hum, if_neg (by omega), if_pos rfl]
 have b3 : ∀ r, r < m → r ≠ p → r ≠ u → b' r = b r := fun r hm h1 h2 => by rw [hb r hm, if_neg h1, if_neg h2]
 have a1 : a' p = a p := ha p (by omega) (by omega)
 have Pu := h.P u hum (by omega)
 have Lu := h.L u hu0 hum
 rw [hu] at Lu
 refine ⟨fun r hr hne => ?_, fun r h0 hr => ?_, fun r h0 hr hne => ?_, fun _ => ?_, fun c _ h0 hc hcp => ?_⟩
 · by_cases e : r = p
   · subst e; omega
   · rw [b3 r hr e hne, ha r hr hne]; exact h.P r hr e
 · have hL := h.L r h0 hr
   by_cases e : r = u
   · subst e; rw [hu] at hL ⊢; omega
   · rw [ha r hr e]
     by_cases e2 : (r - 1) / 2 = u
     · rcases hs with hs | hs
       · rw [e2] at hL ⊢; omega
       · exact absurd e2 (hs.2 r h0 hr)
     · rw [ha _ (by omega) e2]; exact hL
 · by_cases e : (r - 1) / 2 = p
   · rw [e, b1]
     by_cases e2 : r = u
     · subst e2; omega
     · rw [b3 r hr (by omega) e2]; exact hmax r h0 hr e
   · rw [b3 _ (by omega) e hne]
     by_cases e2 : r = p
     · subst e2; rw [b1]; exact h.two u h0 hu0 hum hu
     · rw [b3 r hr e2 (by omega)]; exact h.H r h0 hr e
 · rw [hu]; omega
 · rw [hu, b1, b3 c hc (by omega) (by omega)]
   have := h.H c h0 hc (by omega)
   rw [hcp] at this
   exact this
theorem BH.done (h : BH a b m p) (hP : a p ≤ b p) (hH : ∀ c, 0 < c → c < m → (c - 1) / 2 = p → b c ≤ b p) : PT a b m :=
 ⟨fun r hr => if e : r = p then by subst e; exact hP else h.P r hr e, h.L, fun r h0 hr => if e : (r - 1) / 2 = p then by rw [e]; exact hH r h0 hr e else h.H r h0 hr e⟩
/-- The first of all, and the last. -/
theorem PT.low (h : PT a b m) : ∀ r, r < m → a 0 ≤ a r := by
 intro r
 induction r using Nat.strongRecOn with
 | _ r ih =>
   intro hr
   rcases Nat.eq_zero_or_pos r with rfl | h0
   · exact Nat.le_refl _
   · have := h.L r h0 hr
     have := ih ((r - 1) / 2) (by omega) (by omega)
     omega
theorem PT.high (h : PT a b m) : ∀ r, r < m → b r ≤ b 0 := by
 intro r
 induction r using Nat.strongRecOn with
 | _ r ih =>
   intro hr
   rcases Nat.eq_zero_or_pos r with rfl | h0
   · exact Nat.le_refl _
   · have := h.H r h0 hr
     have := ih ((r - 1) / 2) (by omega) (by omega)
     omega
end
end Go.Proofs.YtdddfmdcjjbegaaGreat.TwinL
namespace Go.Proofs.YtdddfmdcjjbegaaGreat.TwinL
open Heap Cal
section
variable {α : Type}
/-- An entry as one number. -/
def key (e : Ent α) : Nat := e.1 * 18446744073709551616 + e.2.1
def Few (l : List (Ent α)) : Prop := ∀ e ∈ l, e.2.1 < 18446744073709551616
theorem ahd_key {a b : Ent α} (ha : a.2.1 < 18446744073709551616) (hb : b.2.1 < 18446744073709551616) : ahd a b = decide (key a < key b) := by
 unfold ahd key
 obtain ⟨a1, a2, _⟩ := a
 obtain ⟨b1, b2, _⟩ := b
 simp only at ha hb ⊢
 congr 1
 apply propext
 omega
/-- The number at a place. -/
def K (l : List (Ent α)) (i : Nat) : Nat := match l[i]? with | some e => key e | none => 0
theorem K_at {l : List (Ent α)} {i : Nat} {e : Ent α} (h : l[i]? = some e) : K l i = key e := by unfold K; rw [h]
theorem get_some {l : List (Ent α)} {i : Nat} (h : i < l.length) : ∃ e, l[i]? = some e ∧ e ∈ l := ⟨l[i], List.getElem?_eq_getElem h, List.getElem_mem h⟩
theorem ahdAt_K {l : List (Ent α)} {i j : Nat} (hf : Few l) (hi : i < l.length) (hj : j < l.length) : ahdAt l i j = decide (K l i < K l j) := by
 obtain ⟨a, ha, ma⟩ := get_some hi
 obtain ⟨b, hb, mb⟩ := get_some hj
 rw [ahdAt_eq ha hb, K_at ha, K_at hb, ahd_key (hf a ma) (hf b mb)]
theorem swp_few {l : List (Ent α)} (h : Few l) (i j : Nat) : Few (swp l i j) := fun e he => h e ((swp_perm l i j).mem_iff.1 he)
theorem K_swp {l : List (Ent α)} {i j : Nat} (hi : i < l.length) (hj : j < l.length) (k : Nat) : K (swp l i j) k = if k = j then K l i else if k = i then K l j else K l k := by
 obtain ⟨a, ha, _⟩ := get_some hi
 obtain ⟨b, hb, _⟩ := get_some hj
 rw [K_at ha, K_at hb]
 by_cases e : k = j
 · rw [if_pos e]; exact K_at (by rw [swp_get ha hb, if_pos e])
 · rw [if_neg e]
   by_cases e2 : k = i
   · rw [if_pos e2]; exact K_at (by rw [swp_get ha hb, if_neg e, if_pos e2])
   · rw [if_neg e2]; unfold K; rw [swp_get ha hb, if_neg e, if_neg e2]
/-- Where a pair's second entry stands. -/
def hi (n p : Nat) : Nat := min (2 * p + 1) (n - 1)
def A (l : List (Ent α)) (p : Nat) : Nat := K l (2 * p)
def B (l : List (Ent α)) (p : Nat) : Nat := K l (hi l.length p)
/-- Pairs in order. -/
def IsT (l : List (Ent α)) : Prop := PT (A l) (B l) ((l.length + 1) / 2)
/-- A pair's first entry changed with another's. -/
theorem A_low {l : List (Ent α)} {p q : Nat} (hp : 2 * p < l.length) (hq : 2 * q < l.length) (r : Nat) : A (swp l (2 * p) (2 * q)) r = if r = q then A l p else if r = p then A l q else A l r := by
 unfold A
 rw [K_swp hp hq]
 by_cases e : r = q
 · rw [if_pos (by omega), if_pos e]
 · rw [if_neg (by omega), if_neg e]
   by_cases e2 : r = p
   · rw [if_pos (by omega), if_pos e2]
   · rw [if_neg (by omega), if_neg e2]
theorem B_low {l : List (Ent α)} {p q : Nat} (hp : 2 * p < l.length) (hq : q < p) (r : Nat) (hr : r < (l.length + 1) / 2) (hne : r ≠ p) : B (swp l (2 * p) (2 * q)) r = B l r := by
 unfold B hi
 rw [swp_length, K_swp hp (by omega), if_neg (by omega), if_neg (by omega)]
theorem B_low_at {l : List (Ent α)} {p q : Nat} (hp : 2 * p < l.length) (hq : q < p) : B (swp l (2 * p) (2 * q)) p = if 2 * p + 1 < l.length then B l p else A l q := by
 unfold B hi
 rw [swp_length, K_swp hp (by omega)]
 by_cases hs : 2 * p + 1 < l.length
 · rw [if_pos hs, if_neg (by omega), if_neg (by omega)]
 · rw [if_neg hs, if_neg (by omega), if_pos (by omega)]; rfl
/-- A pair's second entry changed with another's. -/
theorem B_high {l : List (Ent α)} {p q : Nat} (hp : 2 * p < l.length) (hq : q < p) (r : Nat) (hr : r < (l.length + 1) / 2) : B (swp l (hi l.length p) (hi l.length q)) r = if r = q then B l p else if r = p then B l q else B l r := by
 unfold B
 rw [swp_length, K_swp (by unfold hi; omega) (by unfold hi; omega)]
 by_cases e : r = q
 · subst e; rw [if_pos rfl, if_pos rfl]
 · rw [if_neg (by unfold hi; omega), if_neg e]
   by_cases e2 : r = p
   · subst e2; rw [if_pos rfl, if_pos rfl]
   · rw [if_neg (by unfold hi; omega), if_neg e2]
theorem A_high {l : List (Ent α)} {p q : Nat} (hp : 2 * p < l.length) (hq : q < p) (r : Nat) (_hr : r < (l.length + 1) / 2) (hne : r ≠ p) : A (swp l (hi l.length p) (hi l.length q)) r = A l r := by
 unfold A
 rw [K_swp (by unfold hi; omega) (by unfold hi; omega), if_neg (by unfold hi; omega), if_neg (by unfold hi; omega)]
theorem A_high_at {l : List (Ent α)} {p q : Nat} (hp : 2 * p < l.length) (hq : q < p) : A (swp l (hi l.length p) (hi l.length q)) p = if 2 * p + 1 < l.length then A l p else B l q := by
 unfold A B
 rw [K_swp (by unfold hi; omega) (by unfold hi; omega)]
 by_cases hs : 2 * p + 1 < l.length
 · rw [if_pos hs, if_neg (by unfold hi; omega), if_neg (by unfold hi; omega)]
 · rw [if_neg hs, if_neg (by unfold hi; omega), if_pos (by unfold hi; omega)]
theorem swp_comm (l : List (Ent α)) (i j : Nat) : swp l i j = swp l j i := by
 cases hi : l[i]? with
 | none => unfold swp; rw [hi]; cases hj : l[j]? <;> rfl
 | some a =>
   cases hj : l[j]? with
   | none => unfold swp; rw [hi, hj]
   | some b =>
     apply List.ext_getElem?
     intro k
     rw [swp_get hi hj, swp_get hj hi]
     by_cases e1 : k = j
     · subst e1
       rw [if_pos rfl]
       by_cases e2 : k = i
       · subst e2; rw [if_pos rfl]; rw [hi] at hj; exact hj
       · rw [if_neg e2, if_pos rfl]
     · rw [if_neg e1]
       by_cases e2 : k = i
       · rw [if_pos e2, if_pos e2]
       · rw [if_neg e2, if_neg e2, if_neg e1]
/-- Both entries of a pair changed. -/
theorem A_pair {l : List (Ent α)} {p : Nat} (hp : 2 * p < l.length) (r : Nat) (_hr : r < (l.length + 1) / 2) : A (swp l (hi l.length p) (2 * p)) r = if r = p then B l p else A l r := by
 unfold A B
 rw [K_swp (by unfold hi; omega) hp]
 by_cases e : r = p
 · subst e; rw [if_pos rfl, if_pos rfl]
 · rw [if_neg (by omega), if_neg (by unfold hi; omega), if_neg e]
theorem B_pair {l : List (Ent α)} {p : Nat} (hp : 2 * p < l.length) (r : Nat) (hr : r < (l.length + 1) / 2) : B (swp l (hi l.length p) (2 * p)) r = if r = p then A l p else B l r := by
 unfold B A
 rw [swp_length, K_swp (by unfold hi; omega) hp]
 by_cases e : r = p
 · subst e
   rw [if_pos rfl]
   by_cases e2 : hi l.length r = 2 * r
   · rw [if_pos e2, if_pos rfl, e2]
   · rw [if_neg e2, if_pos rfl]
 · rw [if_neg (by unfold hi; omega), if_neg (by unfold hi; omega), if_neg e]
/-- An entry rises. -/
def upT (l : List (Ent α)) (p : Nat) : List (Ent α) :=
 if _h : 0 < p then
  if ahdAt l (2 * p) (2 * ((p - 1) / 2)) then upT (swp l (2 * p) (2 * ((p - 1) / 2))) ((p - 1) / 2)
  else if ahdAt l (hi l.length ((p - 1) / 2)) (hi l.length p) then upT (swp l (hi l.length p) (hi l.length ((p - 1) / 2))) ((p - 1) / 2)
  else l
 else l
termination_by p
decreasing_by all_goals omega
theorem upT_zero (l : List (Ent α)) : upT l 0 = l := by rw [upT]; simp
theorem upT_low {l : List (Ent α)} {p q : Nat} (hp : 0 < p) (hq : (p - 1) / 2 = q) (h : ahdAt l (2 * p) (2 * q) = true) : upT l p = upT (swp l (2 * p) (2 * q)) q := by
 rw [upT, dif_pos hp, hq, if_pos h]
theorem upT_high {l : List (Ent α)} {p q : Nat} (hp : 0 < p) (hq : (p - 1) / 2 = q) (h : ahdAt l (2 * p) (2 * q) = false) (h2 : ahdAt l (hi l.length q) (hi l.length p) = true) : upT l p = upT (swp l (hi l.length p) (hi l.length q)) q := by
 rw [upT, dif_pos hp, hq, if_neg (by rw [h]; simp), if_pos h2]
theorem upT_stop {l : List (Ent α)} {p q : Nat} (hq : (p - 1) / 2 = q) (h : ahdAt l (2 * p) (2 * q) = false) (h2 : ahdAt l (hi l.length q) (hi l.length p) = false) : upT l p = l := by
 rw [upT]
 split
 · rw [hq, if_neg (by rw [h]; simp), if_neg (by rw [h2]; simp)]
 · rfl
theorem upT_perm : ∀ (p : Nat) (l : List (Ent α)), (upT l p).Perm l := by
 intro p
 induction p using Nat.strongRecOn with
 | _ p ih =>
   intro l
   rw [upT]
   split
   · split
     · exact (ih _ (by omega) _).trans (swp_perm _ _ _)
     · split
       · exact (ih _ (by omega) _).trans (swp_perm _ _ _)
       · exact List.Perm.refl _
   · exact List.Perm.refl _
theorem upT_is : ∀ (p : Nat) (l : List (Ent α)), Few l → 2 * p < l.length → BU (A l) (B l) ((l.length + 1) / 2) p → (2 * p + 1 < l.length → 0 < p → A l ((p - 1) / 2) ≤ B l p ∧ A l p ≤ B l ((p - 1) / 2)) → IsT (upT l p) := by
 intro p
 induction p using Nat.strongRecOn with
 | _ p ih =>
   intro l hf hp h hfull
   rcases Nat.eq_zero_or_pos p with rfl | h0
   · rw [upT_zero]
     exact h.done (fun h => absurd h (Nat.lt_irrefl _)) (fun h => absurd h (Nat.lt_irrefl _))
   · obtain ⟨q, hq⟩ : ∃ q, (p - 1) / 2 = q := ⟨_, rfl⟩
     have hqp : q < p := by omega
     rw [hq] at hfull
     have nokid : ¬ 2 * p + 1 < l.length → ∀ c, 0 < c → c < (l.length + 1) / 2 → (c - 1) / 2 ≠ p := fun _ c _ _ => by omega
     have pq := h.P q (by omega)
     cases h1 : ahdAt l (2 * p) (2 * q) with
     | true =>
       rw [upT_low h0 hq h1]
       rw [ahdAt_K hf hp (by omega)] at h1
       have hlt : A l p < A l q := of_decide_eq_true h1
       have hB := B_low_at (l := l) hp hqp
       have key : BU (A (swp l (2 * p) (2 * q))) (B (swp l (2 * p) (2 * q))) ((l.length + 1) / 2) q := by
        refine h.low h0 (by omega) hq hlt (fun r _ => A_low hp (by omega) r) (fun r hr hne => B_low hp hqp r hr hne) ?_
        by_cases hs : 2 * p + 1 < l.length
        · rw [if_pos hs] at hB; exact .inl ⟨hB, (hfull hs h0).1⟩
        · rw [if_neg hs] at hB; exact .inr ⟨hB, nokid hs⟩
       refine ih q hqp _ (swp_few hf _ _) (by rw [swp_length]; omega) (by rw [swp_length]; exact key) (fun _ hq0 => ?_)
       have hL := h.L q hq0 (by omega) (by omega)
       have hH := h.H q hq0 (by omega) (by omega)
       rw [A_low hp (by omega), if_neg (by omega), if_neg (by omega), B_low hp hqp q (by omega) (by omega), A_low hp (by omega), if_pos rfl, B_low hp hqp _ (by omega) (by omega)]
       omega
     | false =>
       have hge : A l q ≤ A l p := by
        have h1' := h1
        rw [ahdAt_K hf hp (by omega)] at h1'
        have := of_decide_eq_false h1'
        exact Nat.le_of_not_lt this
       cases h2 : ahdAt l (hi l.length q) (hi l.length p) with
       | true =>
         rw [upT_high h0 hq h1 h2]
         rw [ahdAt_K hf (by unfold hi; omega) (by unfold hi; omega)] at h2
         have hlt : B l q < B l p := of_decide_eq_true h2
         have hA := A_high_at (l := l) hp hqp
         have key : BU (A (swp l (hi l.length p) (hi l.length q))) (B (swp l (hi l.length p) (hi l.length q))) ((l.length + 1) / 2) q := by
          refine h.high h0 (by omega) hq hlt (fun r hr => B_high hp hqp r hr) (fun r hr hne => A_high hp hqp r hr hne) ?_
          by_cases hs : 2 * p + 1 < l.length
          · rw [if_pos hs] at hA; exact .inl ⟨hA, (hfull hs h0).2⟩
          · rw [if_neg hs] at hA; exact .inr ⟨hA, nokid hs⟩
         refine ih q hqp _ (swp_few hf _ _) (by rw [swp_length]; omega) (by rw [swp_length]; exact key) (fun _ hq0 => ?_)
         have hL := h.L q hq0 (by omega) (by omega)
         have hH := h.H q hq0 (by omega) (by omega)
         rw [A_high hp hqp _ (by omega) (by omega), B_high hp hqp q (by omega), if_pos rfl, A_high hp hqp q (by omega) (by omega), B_high hp hqp _ (by omega), if_neg (by omega), if_neg (by omega)]
         omega
       | false =>
         rw [upT_stop hq h1 h2]
         rw [ahdAt_K hf (by unfold hi; omega) (by unfold hi; omega)] at h2
         have hle : B l p ≤ B l q := Nat.le_of_not_lt (of_decide_eq_false h2)
         exact h.done (fun _ => by rw [hq]; exact hge) (fun _ => by rw [hq]; exact hle)
/-- The last one's own pair put in order. -/
def prT (l : List (Ent α)) (i : Nat) : List (Ent α) := if i % 2 = 1 ∧ ahdAt l i (i - 1) = true then swp l i (i - 1) else l
theorem prT_perm (l : List (Ent α)) (i : Nat) : (prT l i).Perm l := by
 unfold prT
 split
 · exact swp_perm _ _ _
 · exact List.Perm.refl _
def pushT (l : List (Ent α)) (e : Ent α) : List (Ent α) := upT (prT (l ++ [e]) l.length) (l.length / 2)
theorem pushT_perm (l : List (Ent α)) (e : Ent α) : (pushT l e).Perm (e :: l) := (upT_perm _ _).trans ((prT_perm _ _).trans (List.perm_append_singleton _ _))
theorem K_app {l : List (Ent α)} {e : Ent α} {i : Nat} (hi : i < l.length) : K (l ++ [e]) i = K l i := by unfold K; rw [List.getElem?_append_left hi]
theorem push_is {l : List (Ent α)} {e : Ent α} (h : IsT l) (hf : Few l) (he : e.2.1 < 18446744073709551616) : IsT (pushT l e) := by
 have hf1 : Few (l ++ [e]) := fun x hx => by
  rcases List.mem_append.1 hx with hx | hx
  · exact hf x hx
  · rw [List.mem_singleton.1 hx]; exact he
 have hlen : (l ++ [e]).length = l.length + 1 := by simp
 have hAe : ∀ r, 2 * r < l.length → A (l ++ [e]) r = A l r := fun r hr => K_app hr
 have hBe : ∀ r, 2 * r + 1 < l.length → B (l ++ [e]) r = B l r := fun r hr => by
  unfold B
  rw [hlen, show hi (l.length + 1) r = 2 * r + 1 by unfold hi; omega, show hi l.length r = 2 * r + 1 by unfold hi; omega]
  exact K_app hr
 unfold pushT
 obtain ⟨p, hp⟩ : ∃ p, l.length / 2 = p := ⟨_, rfl⟩
 rw [hp]
 by_cases hodd : l.length % 2 = 1
 · -- its pair has two now
   have hn : l.length = 2 * p + 1 := by omega
   have hBold : ∀ r, r < p → B l r = K l (2 * r + 1) := fun r hr => by unfold B; rw [show hi l.length r = 2 * r + 1 by unfold hi; omega]
   have hBp : B l p = A l p := by unfold B A; rw [show hi l.length p = 2 * p by unfold hi; omega]
   have e1 : B (l ++ [e]) p = key e := by
    unfold B; rw [hlen, show hi (l.length + 1) p = l.length by unfold hi; omega]; exact K_at (by simp)
   have e2 : A (l ++ [e]) p = A l p := hAe p (by omega)
   have base : ∀ (a b : Nat → Nat), (∀ r, r < p → a r = A l r ∧ b r = B l r) → a p ≤ b p → (a p = A l p ∨ b p = A l p) → BU a b (p + 1) p ∧ (0 < p → a ((p - 1) / 2) ≤ b p ∧ a p ≤ b ((p - 1) / 2)) := by
    intro a b h1 h2 h3
    have fac : 0 < p → A l ((p - 1) / 2) ≤ A l p ∧ A l p ≤ B l ((p - 1) / 2) := fun h0 => ⟨h.L p h0 (by omega), by have := h.H p h0 (by omega); rw [hBp] at this; exact this⟩
    refine ⟨⟨fun r hr => ?_, fun r h0 hr hne => ?_, fun r h0 hr hne => ?_, fun c _ _ hc hcp => by omega, fun h0 => ?_⟩, fun h0 => ?_⟩
    · by_cases e : r = p
      · subst e; exact h2
      · rw [(h1 r (by omega)).1, (h1 r (by omega)).2]; exact h.P r (by omega)
    · rw [(h1 r (by omega)).1, (h1 _ (by omega)).1]; exact h.L r h0 (by omega)
    · rw [(h1 r (by omega)).2, (h1 _ (by omega)).2]; exact h.H r h0 (by omega)
    · have f := fac h0
      rw [(h1 ((p - 1) / 2) (by omega)).1, (h1 ((p - 1) / 2) (by omega)).2]
      omega
    · have f := fac h0
      rw [(h1 ((p - 1) / 2) (by omega)).1, (h1 ((p - 1) / 2) (by omega)).2]
      omega
   cases hc : ahdAt (l ++ [e]) l.length (l.length - 1) with
   | true =>
     have hpr : prT (l ++ [e]) l.length = swp (l ++ [e]) (hi (l ++ [e]).length p) (2 * p) := by
      unfold prT; rw [if_pos ⟨hodd, hc⟩, hlen, show hi (l.length + 1) p = l.length by unfold hi; omega, show l.length - 1 = 2 * p by omega]
     rw [hpr]
     rw [ahdAt_K hf1 (by omega) (by omega)] at hc
     have hlt : B (l ++ [e]) p < A (l ++ [e]) p := by
      have := of_decide_eq_true hc
      unfold A B
      rw [hlen, show hi (l.length + 1) p = l.length by unfold hi; omega, show 2 * p = l.length - 1 by omega]
      exact this
     have qa := fun r hr => A_pair (l := l ++ [e]) (p := p) (by omega) r hr
     have qb := fun r hr => B_pair (l := l ++ [e]) (p := p) (by omega) r hr
     rw [hlen] at qa qb
     obtain ⟨k1, k2⟩ := base (A (swp (l ++ [e]) (hi (l ++ [e]).length p) (2 * p))) (B (swp (l ++ [e]) (hi (l ++ [e]).length p) (2 * p))) (fun r hr => by
      rw [hlen, qa r (by omega), qb r (by omega), if_neg (by omega), if_neg (by omega)]
      exact ⟨hAe r (by omega), hBe r (by omega)⟩) (by rw [hlen, qa p (by omega), qb p (by omega), if_pos rfl, if_pos rfl]; omega) (by rw [hlen, qb p (by omega), if_pos rfl, e2]; exact .inr rfl)
     exact upT_is p _ (swp_few hf1 _ _) (by rw [swp_length]; omega) (by rw [swp_length, hlen, show (l.length + 1 + 1) / 2 = p + 1 by omega]; rw [hlen] at k1; exact k1) (fun _ h0 => k2 h0)
   | false =>
     have hpr : prT (l ++ [e]) l.length = l ++ [e] := by unfold prT; rw [if_neg (by rw [hc]; simp)]
     rw [hpr]
     rw [ahdAt_K hf1 (by omega) (by omega)] at hc
     have hge : A (l ++ [e]) p ≤ B (l ++ [e]) p := by
      have := of_decide_eq_false hc
      unfold A B
      rw [hlen, show hi (l.length + 1) p = l.length by unfold hi; omega, show 2 * p = l.length - 1 by omega]
      exact Nat.le_of_not_lt this
     obtain ⟨k1, k2⟩ := base (A (l ++ [e])) (B (l ++ [e])) (fun r hr => ⟨hAe r (by omega), hBe r (by omega)⟩) hge (.inl e2)
     exact upT_is p _ hf1 (by omega) (by rw [hlen, show (l.length + 1 + 1) / 2 = p + 1 by omega]; exact k1) (fun _ h0 => k2 h0)
 · -- it is alone in a pair
   have hn : l.length = 2 * p := by omega
   have hpr : prT (l ++ [e]) l.length = l ++ [e] := by unfold prT; rw [if_neg (by omega)]
   rw [hpr]
   have e1 : B (l ++ [e]) p = A (l ++ [e]) p := by unfold B A; rw [hlen, show hi (l.length + 1) p = 2 * p by unfold hi; omega]
   refine upT_is p _ hf1 (by omega) ?_ (fun h => by omega)
   rw [hlen, show (l.length + 1 + 1) / 2 = p + 1 by omega]
   refine ⟨fun r hr => ?_, fun r h0 hr hne => ?_, fun r h0 hr hne => ?_, fun c _ _ hc hcp => by omega, fun h0 => ?_⟩
   · by_cases e : r = p
     · subst e; rw [e1]; exact Nat.le_refl _
     · rw [hAe r (by omega), hBe r (by omega)]; exact h.P r (by omega)
   · rw [hAe r (by omega), hAe _ (by omega)]; exact h.L r h0 (by omega)
   · rw [hBe r (by omega), hBe _ (by omega)]; exact h.H r h0 (by omega)
   · have := h.P ((p - 1) / 2) (by omega)
     rw [hAe ((p - 1) / 2) (by omega), hBe ((p - 1) / 2) (by omega), e1]
     omega
end
end Go.Proofs.YtdddfmdcjjbegaaGreat.TwinL
namespace Go.Proofs.YtdddfmdcjjbegaaGreat.TwinL
open Heap Cal
section
variable {α : Type}
/-- A pair put in order. -/
def pairT (l : List (Ent α)) (p : Nat) : List (Ent α) := if ahdAt l (hi l.length p) (2 * p) = true then swp l (hi l.length p) (2 * p) else l
theorem pairT_len (l : List (Ent α)) (p : Nat) : (pairT l p).length = l.length := by unfold pairT; split; exact swp_length _ _ _; rfl
theorem pairT_perm (l : List (Ent α)) (p : Nat) : (pairT l p).Perm l := by unfold pairT; split; exact swp_perm _ _ _; exact List.Perm.refl _
theorem pairT_yes {l : List (Ent α)} {p : Nat} (h : ahdAt l (hi l.length p) (2 * p) = true) : pairT l p = swp l (hi l.length p) (2 * p) := by unfold pairT; rw [if_pos h]
theorem pairT_no {l : List (Ent α)} {p : Nat} (h : ahdAt l (hi l.length p) (2 * p) = false) : pairT l p = l := by unfold pairT; rw [if_neg (by rw [h]; simp)]
theorem few_perm {l m : List (Ent α)} (h : l.Perm m) (hf : Few m) : Few l := fun e he => hf e (h.mem_iff.1 he)
/-- Which pair below is to rise. -/
def kidL (l : List (Ent α)) (p : Nat) : Nat := if 2 * (2 * p + 2) < l.length ∧ ahdAt l (2 * (2 * p + 2)) (2 * (2 * p + 1)) = true then 2 * p + 2 else 2 * p + 1
def kidH (l : List (Ent α)) (p : Nat) : Nat := if 2 * (2 * p + 2) < l.length ∧ ahdAt l (hi l.length (2 * p + 1)) (hi l.length (2 * p + 2)) = true then 2 * p + 2 else 2 * p + 1
theorem kidL_or (l : List (Ent α)) (p : Nat) : kidL l p = 2 * p + 1 ∨ kidL l p = 2 * p + 2 ∧ 2 * (2 * p + 2) < l.length := by
 unfold kidL; split
 · rename_i h; exact .inr ⟨rfl, h.1⟩
 · exact .inl rfl
theorem kidH_or (l : List (Ent α)) (p : Nat) : kidH l p = 2 * p + 1 ∨ kidH l p = 2 * p + 2 ∧ 2 * (2 * p + 2) < l.length := by
 unfold kidH; split
 · rename_i h; exact .inr ⟨rfl, h.1⟩
 · exact .inl rfl
theorem kidL_min {l : List (Ent α)} {p : Nat} (hf : Few l) : ∀ c, 0 < c → c < (l.length + 1) / 2 → (c - 1) / 2 = p → A l (kidL l p) ≤ A l c := by
 intro c h0 hc hcp
 have hc2 : c = 2 * p + 1 ∨ c = 2 * p + 2 := by omega
 unfold kidL
 by_cases h2 : 2 * (2 * p + 2) < l.length
 · have hk := ahdAt_K (l := l) (i := 2 * (2 * p + 2)) (j := 2 * (2 * p + 1)) hf (by omega) (by omega)
   rw [hk]
   by_cases h3 : K l (2 * (2 * p + 2)) < K l (2 * (2 * p + 1))
   · rw [if_pos ⟨h2, decide_eq_true h3⟩]
     rcases hc2 with rfl | rfl
     · exact Nat.le_of_lt h3
     · exact Nat.le_refl _
   · rw [if_neg (by simp [h3])]
     rcases hc2 with rfl | rfl
     · exact Nat.le_refl _
     · exact Nat.le_of_not_lt h3
 · rw [if_neg (fun h => h2 h.1)]
   rcases hc2 with rfl | rfl
   · exact Nat.le_refl _
   · omega
theorem kidH_max {l : List (Ent α)} {p : Nat} (hf : Few l) : ∀ c, 0 < c → c < (l.length + 1) / 2 → (c - 1) / 2 = p → B l c ≤ B l (kidH l p) := by
 intro c h0 hc hcp
 have hc2 : c = 2 * p + 1 ∨ c = 2 * p + 2 := by omega
 unfold kidH
 by_cases h2 : 2 * (2 * p + 2) < l.length
 · have hk := ahdAt_K (l := l) (i := hi l.length (2 * p + 1)) (j := hi l.length (2 * p + 2)) hf (by unfold hi; omega) (by unfold hi; omega)
   rw [hk]
   by_cases h3 : K l (hi l.length (2 * p + 1)) < K l (hi l.length (2 * p + 2))
   · rw [if_pos ⟨h2, decide_eq_true h3⟩]
     rcases hc2 with rfl | rfl
     · exact Nat.le_of_lt h3
     · exact Nat.le_refl _
   · rw [if_neg (by simp [h3])]
     rcases hc2 with rfl | rfl
     · exact Nat.le_refl _
     · exact Nat.le_of_not_lt h3
 · rw [if_neg (fun h => h2 h.1)]
   rcases hc2 with rfl | rfl
   · exact Nat.le_refl _
   · omega
/-- The first entry of a pair sinks. -/
def snkL (l : List (Ent α)) (p : Nat) : List (Ent α) :=
 if _h : 2 * (2 * p + 1) < l.length then
  if ahdAt (pairT l p) (2 * kidL (pairT l p) p) (2 * p) = true then snkL (swp (pairT l p) (2 * kidL (pairT l p) p) (2 * p)) (kidL (pairT l p) p) else pairT l p
 else pairT l p
termination_by l.length - p
decreasing_by
 have := kidL_or (pairT l p) p
 rw [pairT_len] at this
 rw [swp_length, pairT_len]
 omega
/-- The second one sinks. -/
def snkH (l : List (Ent α)) (p : Nat) : List (Ent α) :=
 if _h : 2 * (2 * p + 1) < l.length then
  if ahdAt (pairT l p) (hi l.length p) (hi l.length (kidH (pairT l p) p)) = true then snkH (swp (pairT l p) (hi l.length p) (hi l.length (kidH (pairT l p) p))) (kidH (pairT l p) p) else pairT l p
 else pairT l p
termination_by l.length - p
decreasing_by
 have := kidH_or (pairT l p) p
 rw [pairT_len] at this
 rw [swp_length, pairT_len]
 omega
theorem snkL_none {l : List (Ent α)} {p : Nat} (h : ¬ 2 * (2 * p + 1) < l.length) : snkL l p = pairT l p := by rw [snkL, dif_neg h]
theorem snkL_stop {l m : List (Ent α)} {p u : Nat} (hm : pairT l p = m) (hu : kidL m p = u) (h : ahdAt m (2 * u) (2 * p) = false) : snkL l p = m := by
 rw [snkL, hm, hu, if_neg (by rw [h]; simp)]; split <;> rfl
theorem snkL_step {l m : List (Ent α)} {p u : Nat} (h0 : 2 * (2 * p + 1) < l.length) (hm : pairT l p = m) (hu : kidL m p = u) (h : ahdAt m (2 * u) (2 * p) = true) : snkL l p = snkL (swp m (2 * u) (2 * p)) u := by
 rw [snkL, dif_pos h0, hm, hu, if_pos h]
theorem snkH_none {l : List (Ent α)} {p : Nat} (h : ¬ 2 * (2 * p + 1) < l.length) : snkH l p = pairT l p := by rw [snkH, dif_neg h]
theorem snkH_stop {l m : List (Ent α)} {p u : Nat} (hm : pairT l p = m) (hu : kidH m p = u) (h : ahdAt m (hi l.length p) (hi l.length u) = false) : snkH l p = m := by
 rw [snkH, hm, hu, if_neg (by rw [h]; simp)]; split <;> rfl
theorem snkH_step {l m : List (Ent α)} {p u : Nat} (h0 : 2 * (2 * p + 1) < l.length) (hm : pairT l p = m) (hu : kidH m p = u) (h : ahdAt m (hi l.length p) (hi l.length u) = true) : snkH l p = snkH (swp m (hi l.length p) (hi l.length u)) u := by
 rw [snkH, dif_pos h0, hm, hu, if_pos h]
theorem snkL_perm : ∀ (n p : Nat) (l : List (Ent α)), l.length - p ≤ n → (snkL l p).Perm l := by
 intro n
 induction n with
 | zero => intro p l hn; rw [snkL_none (by omega)]; exact pairT_perm _ _
 | succ n ih =>
   intro p l hn
   by_cases h0 : 2 * (2 * p + 1) < l.length
   · have hk := kidL_or (pairT l p) p
     rw [pairT_len] at hk
     cases h : ahdAt (pairT l p) (2 * kidL (pairT l p) p) (2 * p) with
     | true =>
       rw [snkL_step h0 rfl rfl h]
       exact (ih _ _ (by rw [swp_length, pairT_len]; omega)).trans ((swp_perm _ _ _).trans (pairT_perm _ _))
     | false => rw [snkL_stop rfl rfl h]; exact pairT_perm _ _
   · rw [snkL_none h0]; exact pairT_perm _ _
theorem snkH_perm : ∀ (n p : Nat) (l : List (Ent α)), l.length - p ≤ n → (snkH l p).Perm l := by
 intro n
 induction n with
 | zero => intro p l hn; rw [snkH_none (by omega)]; exact pairT_perm _ _
 | succ n ih =>
   intro p l hn
   by_cases h0 : 2 * (2 * p + 1) < l.length
   · have hk := kidH_or (pairT l p) p
     rw [pairT_len] at hk
     cases h : ahdAt (pairT l p) (hi l.length p) (hi l.length (kidH (pairT l p) p)) with
     | true =>
       rw [snkH_step h0 rfl rfl h]
       exact (ih _ _ (by rw [swp_length, pairT_len]; omega)).trans ((swp_perm _ _ _).trans (pairT_perm _ _))
     | false => rw [snkH_stop rfl rfl h]; exact pairT_perm _ _
   · rw [snkH_none h0]; exact pairT_perm _ _
/-- A pair put in order, on the way of a sink. -/
theorem pair_L {l : List (Ent α)} {p : Nat} (hf : Few l) (hp : 2 * p < l.length) (h : BL (A l) (B l) ((l.length + 1) / 2) p) :
 BL (A (pairT l p)) (B (pairT l p)) ((l.length + 1) / 2) p ∧ A (pairT l p) p ≤ B (pairT l p) p := by
 cases hc : ahdAt l (hi l.length p) (2 * p) with
 | true =>
   rw [pairT_yes hc]
   rw [ahdAt_K hf (by unfold hi; omega) hp] at hc
   exact h.pair (by omega) (of_decide_eq_true hc) (fun r hr => A_pair hp r hr) (fun r hr => B_pair hp r hr)
 | false =>
   rw [pairT_no hc]
   rw [ahdAt_K hf (by unfold hi; omega) hp] at hc
   exact ⟨h, Nat.le_of_not_lt (of_decide_eq_false hc)⟩
theorem pair_H {l : List (Ent α)} {p : Nat} (hf : Few l) (hp : 2 * p < l.length) (h : BH (A l) (B l) ((l.length + 1) / 2) p) :
 BH (A (pairT l p)) (B (pairT l p)) ((l.length + 1) / 2) p ∧ A (pairT l p) p ≤ B (pairT l p) p := by
 cases hc : ahdAt l (hi l.length p) (2 * p) with
 | true =>
   rw [pairT_yes hc]
   rw [ahdAt_K hf (by unfold hi; omega) hp] at hc
   exact h.pair (by omega) (of_decide_eq_true hc) (fun r hr => A_pair hp r hr) (fun r hr => B_pair hp r hr)
 | false =>
   rw [pairT_no hc]
   rw [ahdAt_K hf (by unfold hi; omega) hp] at hc
   exact ⟨h, Nat.le_of_not_lt (of_decide_eq_false hc)⟩
theorem snkL_is : ∀ (n p : Nat) (l : List (Ent α)), l.length - p ≤ n → Few l → 2 * p < l.length → BL (A l) (B l) ((l.length + 1) / 2) p → IsT (snkL l p) := by
 intro n
 induction n with
 | zero => intro p l hn _ hp; omega
 | succ n ih =>
   intro p l hn hf hp h
   obtain ⟨h1, hP⟩ := pair_L hf hp h
   have hl1 := pairT_len l p
   have hf1 : Few (pairT l p) := few_perm (pairT_perm l p) hf
   obtain ⟨m, hm⟩ : ∃ m, pairT l p = m := ⟨_, rfl⟩
   rw [hm] at h1 hP hl1 hf1
   by_cases h0 : 2 * (2 * p + 1) < l.length
   · have hk := kidL_or m p
     have hmin := kidL_min (l := m) (p := p) hf1
     obtain ⟨u, hu⟩ : ∃ u, kidL m p = u := ⟨_, rfl⟩
     rw [hu] at hk hmin
     rw [hl1] at hk hmin
     have hup : (u - 1) / 2 = p := by omega
     cases hc : ahdAt m (2 * u) (2 * p) with
     | true =>
       rw [snkL_step h0 hm hu hc]
       rw [ahdAt_K hf1 (by omega) (by omega)] at hc
       have hB := B_low_at (l := m) (p := u) (q := p) (by omega) (by omega)
       refine ih u _ (by rw [swp_length]; omega) (swp_few hf1 _ _) (by rw [swp_length]; omega) ?_
       rw [swp_length, hl1]
       rw [← hl1] at h1 hmin ⊢
       refine h1.step hP (by omega) (by omega) hup (of_decide_eq_true hc) hmin (fun r _ => A_low (by omega) (by omega) r) (fun r hr hne => B_low (by omega) (by omega) r hr hne) ?_
       by_cases hs : 2 * u + 1 < m.length
       · rw [if_pos hs] at hB; exact .inl hB
       · rw [if_neg hs] at hB; exact .inr ⟨hB, fun c _ _ => by omega⟩
     | false =>
       rw [snkL_stop hm hu hc]
       rw [ahdAt_K hf1 (by omega) (by omega)] at hc
       have hge : A m p ≤ A m u := Nat.le_of_not_lt (of_decide_eq_false hc)
       unfold IsT
       rw [hl1]
       exact h1.done hP (fun c h2 h3 h4 => Nat.le_trans hge (hmin c h2 h3 h4))
   · rw [snkL_none h0, hm]
     unfold IsT
     rw [hl1]
     exact h1.done hP (fun c h2 h3 h4 => by omega)
theorem snkH_is : ∀ (n p : Nat) (l : List (Ent α)), l.length - p ≤ n → Few l → 2 * p < l.length → BH (A l) (B l) ((l.length + 1) / 2) p → IsT (snkH l p) := by
 intro n
 induction n with
 | zero => intro p l hn _ hp; omega
 | succ n ih =>
   intro p l hn hf hp h
   obtain ⟨h1, hP⟩ := pair_H hf hp h
   have hl1 := pairT_len l p
   have hf1 : Few (pairT l p) := few_perm (pairT_perm l p) hf
   obtain ⟨m, hm⟩ : ∃ m, pairT l p = m := ⟨_, rfl⟩
   rw [hm] at h1 hP hl1 hf1
   by_cases h0 : 2 * (2 * p + 1) < l.length
   · have hk := kidH_or m p
     have hmax := kidH_max (l := m) (p := p) hf1
     obtain ⟨u, hu⟩ : ∃ u, kidH m p = u := ⟨_, rfl⟩
     rw [hu] at hk hmax
     rw [hl1] at hk hmax
     have hup : (u - 1) / 2 = p := by omega
     cases hc : ahdAt m (hi l.length p) (hi l.length u) with
     | true =>
       rw [snkH_step h0 hm hu hc, swp_comm]
       rw [ahdAt_K hf1 (by unfold hi; omega) (by unfold hi; omega)] at hc
       have hA := A_high_at (l := m) (p := u) (q := p) (by omega) (by omega)
       have hlt : B m p < B m u := by unfold B; rw [hl1]; exact of_decide_eq_true hc
       refine ih u _ (by rw [swp_length]; omega) (swp_few hf1 _ _) (by rw [swp_length]; omega) ?_
       rw [swp_length]
       rw [← hl1] at h1 hmax ⊢
       refine h1.step hP (by omega) (by omega) hup hlt hmax (fun r hr => B_high (by omega) (by omega) r hr) (fun r hr hne => A_high (by omega) (by omega) r hr hne) ?_
       by_cases hs : 2 * u + 1 < m.length
       · rw [if_pos hs] at hA; exact .inl hA
       · rw [if_neg hs] at hA; exact .inr ⟨hA, fun c _ _ => by omega⟩
     | false =>
       rw [snkH_stop hm hu hc]
       rw [ahdAt_K hf1 (by unfold hi; omega) (by unfold hi; omega)] at hc
       have hge : B m u ≤ B m p := by unfold B; rw [hl1]; exact Nat.le_of_not_lt (of_decide_eq_false hc)
       unfold IsT
       rw [hl1]
       exact h1.done hP (fun c h2 h3 h4 => Nat.le_trans (hmax c h2 h3 h4) hge)
   · rw [snkH_none h0, hm]
     unfold IsT
     rw [hl1]
     exact h1.done hP (fun c h2 h3 h4 => by omega)
/-- The last place taken away: its entry comes to the place i. -/
def cutAt (l : List (Ent α)) (i : Nat) : List (Ent α) := match l[l.length - 1]? with
 | none => []
 | some z => (l.set i z).dropLast
theorem cutAt_eq {l : List (Ent α)} {i : Nat} {z : Ent α} (hz : l[l.length - 1]? = some z) : cutAt l i = (l.set i z).dropLast := by unfold cutAt; rw [hz]
theorem set_last {m : List (Ent α)} {n : Nat} (a : Ent α) (h : m.length = n + 1) : m.set n a = m.dropLast ++ [a] := by
 apply List.ext_getElem?
 intro k
 rw [List.getElem?_set]
 by_cases e : n = k
 · subst e
   rw [if_pos rfl, if_pos (by omega), List.getElem?_append_right (by simp; omega)]
   simp [h]
 · rw [if_neg e]
   by_cases e2 : k < n
   · rw [List.getElem?_append_left (by simp; omega), List.getElem?_dropLast, if_pos (by omega)]
   · rw [List.getElem?_eq_none (by omega), List.getElem?_eq_none (by simp; omega)]
theorem cutAt_perm {l : List (Ent α)} {i : Nat} {a : Ent α} (ha : l[i]? = some a) : (a :: cutAt l i).Perm l := by
 have hi := get_lt ha
 obtain ⟨z, hz, _⟩ := get_some (l := l) (i := l.length - 1) (by omega)
 rw [cutAt_eq hz]
 have h1 := swp_perm l i (l.length - 1)
 rw [swp_eq ha hz, set_last (n := l.length - 1) a (by rw [List.length_set]; omega)] at h1
 exact (List.perm_append_singleton a _).symm.trans h1
theorem cutAt_len (l : List (Ent α)) (i : Nat) : (cutAt l i).length = l.length - 1 := by
 unfold cutAt
 split
 · rename_i h
   have := List.getElem?_eq_none_iff.1 h
   simp; omega
 · simp
theorem K_cut {l : List (Ent α)} {i k : Nat} (hk : k < l.length - 1) (hne : k ≠ i) : K (cutAt l i) k = K l k := by
 obtain ⟨z, hz, _⟩ := get_some (l := l) (i := l.length - 1) (by omega)
 rw [cutAt_eq hz]
 unfold K
 rw [List.getElem?_dropLast, List.length_set, if_pos hk, List.getElem?_set, if_neg (fun h => hne h.symm)]
theorem one_is {l : List (Ent α)} (h : l.length ≤ 1) : IsT l := by
 refine ⟨fun r hr => ?_, fun r h0 hr => by omega, fun r h0 hr => by omega⟩
 obtain rfl : r = 0 := by omega
 unfold A B
 rw [show hi l.length 0 = 2 * 0 by unfold hi; omega]
 exact Nat.le_refl _
def popMinT (l : List (Ent α)) : List (Ent α) := snkL (cutAt l 0) 0
def popMaxT (l : List (Ent α)) : List (Ent α) := snkH (cutAt l (min 1 (l.length - 1))) 0
theorem cut_few {l : List (Ent α)} {i : Nat} {a : Ent α} (ha : l[i]? = some a) (hf : Few l) : Few (cutAt l i) := fun e he => hf e ((cutAt_perm ha).mem_iff.1 (List.mem_cons_of_mem _ he))
theorem cut_B {l : List (Ent α)} {i r : Nat} (hr : 2 * r < l.length - 1) (h1 : 2 * r ≠ i) (h2 : 2 * r + 1 ≠ i) (hP : A l r ≤ B l r) : A (cutAt l i) r = A l r ∧ B (cutAt l i) r ≤ B l r ∧ A l r ≤ B (cutAt l i) r ∧ (2 * r + 1 < l.length - 1 → B (cutAt l i) r = B l r) := by
 have e1 : A (cutAt l i) r = A l r := K_cut hr h1
 have e3 : 2 * r + 1 < l.length - 1 → B (cutAt l i) r = B l r := fun h => by
  unfold B
  rw [cutAt_len, show hi (l.length - 1) r = 2 * r + 1 by unfold hi; omega, show hi l.length r = 2 * r + 1 by unfold hi; omega]
  exact K_cut h h2
 by_cases h : 2 * r + 1 < l.length - 1
 · rw [e3 h]; exact ⟨e1, Nat.le_refl _, hP, fun _ => rfl⟩
 · have e4 : B (cutAt l i) r = A l r := by
    rw [← e1]; unfold B A
    rw [cutAt_len, show hi (l.length - 1) r = 2 * r by unfold hi; omega]
   rw [e4]
   exact ⟨e1, hP, Nat.le_refl _, fun h' => absurd h' h⟩
theorem popMin_is {l : List (Ent α)} {a : Ent α} (ha : l[0]? = some a) (h : IsT l) (hf : Few l) : IsT (popMinT l) := by
 have hl := cutAt_len l 0
 unfold popMinT
 by_cases h0 : l.length - 1 = 0
 · rw [snkL_none (by omega)]; exact one_is (by rw [pairT_len]; omega)
 · refine snkL_is _ 0 _ (Nat.le_refl _) (cut_few ha hf) (by omega) ?_
   rw [hl]
   have hc : ∀ r, 0 < r → r < (l.length - 1 + 1) / 2 → A (cutAt l 0) r = A l r ∧ B (cutAt l 0) r ≤ B l r ∧ A l r ≤ B (cutAt l 0) r ∧ (2 * r + 1 < l.length - 1 → B (cutAt l 0) r = B l r) := fun r h1 h2 => cut_B (by omega) (by omega) (by omega) (h.P r (by omega))
   have hb0 : 2 < l.length - 1 → B (cutAt l 0) 0 = B l 0 := fun h2 => by
    unfold B
    rw [cutAt_len, show hi (l.length - 1) 0 = 1 by unfold hi; omega, show hi l.length 0 = 1 by unfold hi; omega]
    exact K_cut (by omega) (by omega)
   refine ⟨fun r hr hne => ?_, fun r h1 hr hne => ?_, fun r h1 hr => ?_, fun h => absurd h (Nat.lt_irrefl _), fun c h => absurd h (Nat.lt_irrefl _)⟩
   · obtain ⟨c1, c2, c3, _⟩ := hc r (by omega) hr
     rw [c1]; exact c3
   · rw [(hc r h1 hr).1, (hc ((r - 1) / 2) (by omega) (by omega)).1]
     exact h.L r h1 (by omega)
   · have hH := h.H r h1 (by omega)
     have c2 := (hc r h1 hr).2.1
     by_cases e : (r - 1) / 2 = 0
     · rw [e] at hH ⊢; rw [hb0 (by omega)]; omega
     · rw [(hc ((r - 1) / 2) (by omega) (by omega)).2.2.2 (by omega)]; omega
theorem popMax_is {l : List (Ent α)} {a : Ent α} (ha : l[min 1 (l.length - 1)]? = some a) (h : IsT l) (hf : Few l) : IsT (popMaxT l) := by
 have hl := cutAt_len l (min 1 (l.length - 1))
 unfold popMaxT
 by_cases h0 : l.length - 1 ≤ 1
 · rw [snkH_none (by omega)]; exact one_is (by rw [pairT_len]; omega)
 · rw [show min 1 (l.length - 1) = 1 by omega] at ha hl ⊢
   refine snkH_is _ 0 _ (Nat.le_refl _) (cut_few ha hf) (by omega) ?_
   rw [hl]
   have hc : ∀ r, 0 < r → r < (l.length - 1 + 1) / 2 → A (cutAt l 1) r = A l r ∧ B (cutAt l 1) r ≤ B l r ∧ A l r ≤ B (cutAt l 1) r ∧ (2 * r + 1 < l.length - 1 → B (cutAt l 1) r = B l r) := fun r h1 h2 => cut_B (by omega) (by omega) (by omega) (h.P r (by omega))
   have ha0 : A (cutAt l 1) 0 = A l 0 := K_cut (by omega) (by omega)
   refine ⟨fun r hr hne => ?_, fun r h1 hr => ?_, fun r h1 hr hne => ?_, fun h => absurd h (Nat.lt_irrefl _), fun c h => absurd h (Nat.lt_irrefl _)⟩
   · obtain ⟨c1, c2, c3, _⟩ := hc r (by omega) hr
     rw [c1]; exact c3
   · rw [(hc r h1 hr).1]
     have hL := h.L r h1 (by omega)
     by_cases e : (r - 1) / 2 = 0
     · rw [e] at hL ⊢; rw [ha0]; exact hL
     · rw [(hc ((r - 1) / 2) (by omega) (by omega)).1]; exact hL
   · have hH := h.H r h1 (by omega)
     have c2 := (hc r h1 hr).2.1
     rw [(hc ((r - 1) / 2) (by omega) (by omega)).2.2.2 (by omega)]; omega
/-- Nobody is ahead of the first, nobody behind the last. -/
theorem K_parts (l : List (Ent α)) {i : Nat} (hi' : i < l.length) : K l i = A l (i / 2) ∨ K l i = B l (i / 2) := by
 rcases Nat.mod_two_eq_zero_or_one i with h | h
 · exact .inl (by unfold A; rw [show 2 * (i / 2) = i by omega])
 · exact .inr (by unfold B; rw [show hi l.length (i / 2) = i by unfold hi; omega])
theorem low_all {l : List (Ent α)} {a : Ent α} (h : IsT l) (hf : Few l) (ha : l[0]? = some a) : ∀ x ∈ l, ahd x a = false := by
 intro x hx
 obtain ⟨i, hlt, e⟩ := List.getElem_of_mem hx
 have hx' : l[i]? = some x := by rw [List.getElem?_eq_getElem hlt, e]
 have ma : a ∈ l := List.mem_of_getElem? ha
 rw [ahd_key (hf x hx) (hf a ma), ← K_at hx', ← K_at ha]
 have h1 := h.low (i / 2) (by omega)
 have h2 := h.P (i / 2) (by omega)
 have e0 : A l 0 = K l 0 := rfl
 have := K_parts l hlt
 exact decide_eq_false (by omega)
theorem high_all {l : List (Ent α)} {a : Ent α} (h : IsT l) (hf : Few l) (ha : l[min 1 (l.length - 1)]? = some a) : ∀ x ∈ l, ahd a x = false := by
 intro x hx
 obtain ⟨i, hlt, e⟩ := List.getElem_of_mem hx
 have hx' : l[i]? = some x := by rw [List.getElem?_eq_getElem hlt, e]
 have ma : a ∈ l := List.mem_of_getElem? ha
 rw [ahd_key (hf a ma) (hf x hx), ← K_at hx', ← K_at ha]
 have h1 := h.high (i / 2) (by omega)
 have h2 := h.P (i / 2) (by omega)
 have e0 : B l 0 = K l (min 1 (l.length - 1)) := rfl
 have := K_parts l hlt
 exact decide_eq_false (by omega)
/-- The pairs l have the entries of the list s, which is in order. -/
structure Tw (came : Nat) (l s : List (Ent α)) : Prop where
 mt : Mt came l s
 is_ : IsT l
 cm : came ≤ 18446744073709551615
theorem Tw.few {came : Nat} {l s : List (Ent α)} (h : Tw came l s) : Few l := fun e he => by have := h.mt.old e (h.mt.perm.mem_iff.2 he); have := h.cm; omega
theorem Tw.nil : Tw 0 ([] : List (Ent α)) [] := ⟨Mt.nil, one_is (by simp), by omega⟩
theorem Tw.len {came : Nat} {l s : List (Ent α)} (h : Tw came l s) : s.length = l.length := h.mt.len
theorem Tw.push {came : Nat} {l s : List (Ent α)} (h : Tw came l s) (hc : came < 18446744073709551615) (x : Nat) (y : α) : Tw (came + 1) (pushT l (x, came, y)) (insE (x, came, y) s) := by
 refine ⟨⟨((insE_perm _ _).trans (h.mt.perm.cons _)).trans (pushT_perm l _).symm, insE_ord _ _ h.mt.ord h.mt.old, fun e he => ?_⟩, push_is h.is_ h.few (by show came < 18446744073709551616; omega), by omega⟩
 rcases List.mem_cons.1 ((insE_perm _ _).mem_iff.1 he) with rfl | he
 · exact Nat.lt_succ_self _
 · exact Nat.lt_succ_of_lt (h.mt.old e he)
theorem Tw.head {came : Nat} {l s : List (Ent α)} {a : Ent α} (h : Tw came l (a :: s)) : l[0]? = some a := by
 obtain ⟨b, hb, mb⟩ := get_some (l := l) (i := 0) (by have := h.len; simp at this; omega)
 rw [hb]
 have hbs : b ∈ a :: s := h.mt.perm.mem_iff.2 mb
 rcases List.mem_cons.1 hbs with rfl | hbs
 · rfl
 · have h1 := (List.pairwise_cons.1 h.mt.ord).1 b hbs
   have h2 := low_all h.is_ h.few hb a (h.mt.perm.mem_iff.1 List.mem_cons_self)
   rw [h1] at h2; cases h2
theorem Tw.last {came : Nat} {l s : List (Ent α)} {a : Ent α} (h : Tw came l (s ++ [a])) : l[min 1 (l.length - 1)]? = some a := by
 obtain ⟨b, hb, mb⟩ := get_some (l := l) (i := min 1 (l.length - 1)) (by have := h.len; simp at this; omega)
 rw [hb]
 have hbs : b ∈ s ++ [a] := h.mt.perm.mem_iff.2 mb
 rcases List.mem_append.1 hbs with hbs | hbs
 · have h1 := (List.pairwise_append.1 h.mt.ord).2.2 b hbs a (by simp)
   have h2 := high_all h.is_ h.few hb a (h.mt.perm.mem_iff.1 (by simp))
   rw [h1] at h2; cases h2
 · rw [List.mem_singleton.1 hbs]
theorem Tw.popMin {came : Nat} {l s : List (Ent α)} {a : Ent α} (h : Tw came l (a :: s)) : Tw came (popMinT l) s := by
 have h0 := h.head
 have hp : (popMinT l).Perm (cutAt l 0) := snkL_perm _ _ _ (Nat.le_refl _)
 exact ⟨⟨((List.perm_cons a).1 (h.mt.perm.trans (cutAt_perm h0).symm)).trans hp.symm, (List.pairwise_cons.1 h.mt.ord).2, fun e he => h.mt.old e (List.mem_cons_of_mem _ he)⟩, popMin_is h0 h.is_ h.few, h.cm⟩
theorem Tw.popMax {came : Nat} {l s : List (Ent α)} {a : Ent α} (h : Tw came l (s ++ [a])) : Tw came (popMaxT l) s := by
 have h0 := h.last
 have hp : (popMaxT l).Perm (cutAt l (min 1 (l.length - 1))) := snkH_perm _ _ _ (Nat.le_refl _)
 exact ⟨⟨((List.perm_cons a).1 (((List.perm_append_singleton a s).symm.trans h.mt.perm).trans (cutAt_perm h0).symm)).trans hp.symm, (List.pairwise_append.1 h.mt.ord).1, fun e he => h.mt.old e (List.mem_append_left _ he)⟩, popMax_is h0 h.is_ h.few, h.cm⟩
theorem Tw.none {came : Nat} {l : List (Ent α)} (h : Tw came l []) : l = [] := h.mt.none
end
end Go.Proofs.YtdddfmdcjjbegaaGreat.TwinL
namespace Go.Proofs.YtdddfmdcjjbegaaGreat.Root

/-- Bit by bit: the greatest number of so many bits, from k on, that p bears. -/
def top (p : Nat → Bool) : Nat → Nat → Nat
 | 0, k => k
 | i + 1, k => top p i (if p (k + 2 ^ i) then k + 2 ^ i else k)
theorem top_congr {p q : Nat → Bool} (h : ∀ m, p m = q m) : ∀ i k, top p i k = top q i k
 | 0, _ => rfl
 | i + 1, k => by unfold top; rw [h, top_congr h i]
theorem top_spec {p : Nat → Bool} (hp : ∀ m n, m ≤ n → p n = true → p m = true) : ∀ i k, p k = true → p (k + 2 ^ i) = false → p (top p i k) = true ∧ p (top p i k + 1) = false
 | 0, k, h0, h1 => by simpa [top] using And.intro h0 h1
 | i + 1, k, h0, h1 => by
   unfold top
   have h2 : 2 ^ (i + 1) = 2 ^ i + 2 ^ i := by rw [Nat.pow_succ]; omega
   cases hc : p (k + 2 ^ i) with
   | true => exact top_spec hp i _ (by simpa using hc) (by simpa [h2, Nat.add_assoc] using h1)
   | false => exact top_spec hp i _ (by simpa using h0) (by simpa using hc)

/-- The root, rounded down. -/
def sq (n : Nat) : Nat := top (fun m => decide (m * m ≤ n)) 32 0
theorem sq_spec (n : Nat) (hn : n ≤ 18446744073709551615) : sq n * sq n ≤ n ∧ n < (sq n + 1) * (sq n + 1) := by
 have h := top_spec (p := fun m => decide (m * m ≤ n)) (fun a b hab h => by
  simp only [decide_eq_true_eq] at *
  exact Nat.le_trans (Nat.mul_le_mul hab hab) h) 32 0 (by simp) (by simp; omega)
 simpa [sq] using h
theorem sq_le {n k : Nat} (h : n ≤ k * k) (hn : n ≤ 18446744073709551615) : sq n ≤ k := by
 have h1 := sq_spec n hn
 rcases Nat.lt_or_ge k (sq n) with hlt | hge
 · have := Nat.mul_le_mul (show k + 1 ≤ sq n from hlt) (show k + 1 ≤ sq n from hlt)
   have h3 : (k + 1) * (k + 1) = k * k + 2 * k + 1 := by rw [Nat.add_mul, Nat.mul_add]; omega
   omega
 · exact hge

/-- A base, capped. -/
def bse (n : Nat) : Nat := min n 2147483648
theorem bse_sq (n : Nat) : bse n * bse n ≤ 4611686018427387904 := by
 have : bse n ≤ 2147483648 := Nat.min_le_right _ _
 exact Nat.mul_le_mul this this
/-- A part of a base. -/
def part (n c : Nat) : Nat := if c = 0 then bse n else sq (bse n * bse n / c)
/-- What the program asks of a candidate. -/
theorem part_test (b c m : Nat) (hc : 0 < c) (hb : b ≤ 2147483648) : (decide (m ≤ 2147483648) && decide (m * m * c ≤ b * b)) = decide (m * m ≤ b * b / c) := by
 rw [Bool.eq_iff_iff]
 simp only [Bool.and_eq_true, decide_eq_true_eq]
 rw [Nat.le_div_iff_mul_le hc]
 constructor
 · exact fun h => h.2
 · intro h
   refine ⟨?_, h⟩
   rcases Nat.lt_or_ge 2147483648 m with hlt | hge
   · have h1 := Nat.mul_le_mul (show 2147483649 ≤ m from hlt) (show 2147483649 ≤ m from hlt)
     have h2 := Nat.mul_le_mul (Nat.le_refl (m * m)) (show 1 ≤ c from hc)
     have h3 := Nat.mul_le_mul hb hb
     omega
   · exact hge
theorem part_le (n c : Nat) : part n c ≤ bse n := by
 unfold part
 split
 · exact Nat.le_refl _
 · have h := bse_sq n
   have h2 : bse n * bse n / c ≤ bse n * bse n := Nat.div_le_self _ _
   exact sq_le h2 (by omega)
/-- How much slower. -/
def slo (n : Int) : Nat := (min (max n 0) 16).toNat
theorem slo_le (n : Int) : slo n ≤ 16 := by unfold slo; omega
/-- A mean that follows. -/
def fol (m x : Nat) (s : Nat) : Nat := min (m - m / 2 ^ s + x) 18446744073709551615

end Go.Proofs.YtdddfmdcjjbegaaGreat.Root
namespace Go.Proofs.YtdddfmdcjjbegaaGreat.Aifo
open Go.RowKit
def us (l : List Int) : List Value := l.map (.int .u64)
theorem us_len (l : List Int) : (us l).length = l.length := by simp [us]
theorem us_at {l : List Int} {i : Nat} {x : Int} (h : l[i]? = some x) : (us l)[i]? = some (.int .u64 x) := by simp [us, h]
theorem us_get (l : List Int) {j : Nat} (h : j < l.length) : (us l)[j]? = some (.int .u64 (l.getD j 0)) := us_at (by rw [List.getD_eq_getElem?_getD]; simp [h])
theorem us_one (l : List Int) : ∀ v ∈ us l, v.oneCell' = true := fun v hv => by
 obtain ⟨x, _, rfl⟩ := List.mem_map.1 hv; rfl
theorem us_take {zs : List Int} {k j : Nat} {v : Value} (h : (us (zs.take k))[j]? = some v) : (us zs)[j]? = some v := by
 unfold us at h ⊢
 rw [List.map_take, List.getElem?_take] at h
 split at h
 · exact h
 · cases h
theorem us_drop {zs : List Int} {k j : Nat} {v : Value} (h : (us (zs.drop k))[j]? = some v) : (us zs)[k + j]? = some v := by
 unfold us at h ⊢
 rw [List.map_drop, List.getElem?_drop] at h
 exact h
/-- A number put in its place. -/
def ins (zs : List Int) (x : Int) : List Int := zs.take (zs.countP (· < x)) ++ x :: zs.drop (zs.countP (· < x))
/-- A number taken out. -/
def del (zs : List Int) (x : Int) : List Int := zs.take (zs.countP (· < x)) ++ zs.drop (zs.countP (· < x) + 1)
theorem parts (x : Int) : ∀ (zs : List Int), zs.Pairwise (· ≤ ·) → zs.take (zs.countP (· < x)) = zs.filter (· < x) ∧ zs.drop (zs.countP (· < x)) = zs.filter (fun z => !decide (z < x))
 | [], _ => ⟨rfl, rfl⟩
 | z :: zs, h => by
   obtain ⟨h1, h2⟩ := List.pairwise_cons.1 h
   obtain ⟨i1, i2⟩ := parts x zs h2
   by_cases hz : z < x
   · rw [List.countP_cons_of_pos (by simpa using hz), List.filter_cons_of_pos (by simpa using hz), List.filter_cons_of_neg (by simp [hz])]
     exact ⟨by rw [List.take_succ_cons, i1], by rw [List.drop_succ_cons, i2]⟩
   · have hall : ∀ y ∈ zs, ¬ y < x := fun y hy => by have := h1 y hy; omega
     have e0 : zs.countP (· < x) = 0 := by rw [List.countP_eq_zero]; intro a ha; simpa using hall a ha
     rw [List.countP_cons_of_neg (by simpa using hz), e0]
     refine ⟨?_, ?_⟩
     · rw [List.take_zero]; symm; rw [List.filter_eq_nil_iff]; intro a ha
       rcases List.mem_cons.1 ha with rfl | ha
       · simpa using hz
       · simpa using hall a ha
     · rw [List.drop_zero]; symm; rw [List.filter_eq_self]; intro a ha
       rcases List.mem_cons.1 ha with rfl | ha
       · simpa using hz
       · simpa using hall a ha
theorem ins_sorted {zs : List Int} {x : Int} (h : zs.Pairwise (· ≤ ·)) : (ins zs x).Pairwise (· ≤ ·) := by
 obtain ⟨h1, h2⟩ := parts x zs h
 unfold ins
 rw [h1, h2, List.pairwise_append]
 refine ⟨h.filter _, List.pairwise_cons.2 ⟨fun y hy => ?_, h.filter _⟩, fun a ha b hb => ?_⟩
 · have := (List.mem_filter.1 hy).2; simp at this; omega
 · have h3 := (List.mem_filter.1 ha).2
   simp at h3
   rcases List.mem_cons.1 hb with rfl | hb
   · omega
   · have := (List.mem_filter.1 hb).2; simp at this; omega
theorem ins_perm (zs : List Int) (x : Int) : (ins zs x).Perm (x :: zs) := by
 unfold ins
 refine List.perm_middle.trans ?_
 rw [List.take_append_drop]
theorem del_sorted {zs : List Int} {x : Int} (h : zs.Pairwise (· ≤ ·)) : (del zs x).Pairwise (· ≤ ·) := by
 refine List.Pairwise.sublist ?_ h
 unfold del
 have e := List.take_append_drop (zs.countP (· < x)) zs
 refine List.Sublist.trans (List.Sublist.append (List.Sublist.refl _) ?_) (by rw [e]; exact List.Sublist.refl _)
 rw [← List.drop_drop]
 exact List.drop_sublist _ _
theorem del_perm {zs : List Int} {x : Int} (h : zs.Pairwise (· ≤ ·)) (hx : x ∈ zs) : zs.Perm (x :: del zs x) := by
 obtain ⟨h1, h2⟩ := parts x zs h
 have e := List.take_append_drop (zs.countP (· < x)) zs
 have hd : ∃ r, zs.drop (zs.countP (· < x)) = x :: r := by
  have hm : x ∈ zs.drop (zs.countP (· < x)) := by rw [h2]; exact List.mem_filter.2 ⟨hx, by simp⟩
  have hs : (zs.drop (zs.countP (· < x))).Pairwise (· ≤ ·) := h.sublist (List.drop_sublist _ _)
  have hge : ∀ y ∈ zs.drop (zs.countP (· < x)), x ≤ y := fun y hy => by
   rw [h2] at hy
   have := (List.mem_filter.1 hy).2; simp at this; omega
  revert hm hs hge
  generalize zs.drop (zs.countP (· < x)) = l
  intro hm hs hge
  cases l with
  | nil => cases hm
  | cons y r =>
    have h3 := hge y (List.mem_cons_self ..)
    rcases List.mem_cons.1 hm with rfl | hm
    · exact ⟨r, rfl⟩
    · have := (List.pairwise_cons.1 hs).1 x hm
      obtain rfl : x = y := by omega
      exact ⟨r, rfl⟩
 obtain ⟨r, hr⟩ := hd
 have hr' : zs.drop (zs.countP (· < x) + 1) = r := by rw [← List.drop_drop, hr]; rfl
 unfold del
 rw [hr']
 have e2 : zs = zs.take (zs.countP (· < x)) ++ x :: r := by rw [← hr, e]
 have e3 : zs.Perm (zs.take (zs.countP (· < x)) ++ x :: r) := by rw [← e2]
 exact e3.trans List.perm_middle
theorem count_in {zs : List Int} {x : Int} (hx : x ∈ zs) : zs.countP (· < x) < zs.length := by
 rcases Nat.lt_or_ge (zs.countP (· < x)) zs.length with h | h
 · exact h
 · have := List.countP_eq_length.1 (Nat.le_antisymm List.countP_le_length h) x hx
   simp at this
/-- Rising numbers in a slice of their own. -/
def Rising (w : World) (v : Value) (rs : List Int) : Prop :=
 (v = .slice none 0 0 ∧ rs = []) ∨ ∃ g c, v = .slice (some ⟨g, 0, none⟩) rs.length c ∧ rs.length ≤ c ∧ g < w.heap.size ∧ ∀ j u, (us rs)[j]? = some u → w.cell? ⟨g, j, none⟩ = some u
/-- A slice's array is new. -/
def NewRow (w : World) (v : Value) : Prop := ∀ k, v.ownBlock = some k → w.heap.size ≤ k
theorem Rising.upd {w w' : World} {v : Value} {rs : List Int} {S : Nat → Prop} (h : Rising w v rs) (hu : Upd S w w') (hs : ∀ k, v.ownBlock = some k → ¬ S k) : Rising w' v rs := by
 rcases h with h | ⟨g, c, rfl, h1, h2, h3⟩
 · exact .inl h
 · refine .inr ⟨g, c, rfl, h1, Nat.lt_of_lt_of_le h2 hu.size, fun j u hj => ?_⟩
   rw [hu.cell j h2 (hs g rfl)]
   exact h3 j u hj
theorem Rising.lt {w : World} {v : Value} {rs : List Int} (h : Rising w v rs) {k : Nat} (hk : v.ownBlock = some k) : k < w.heap.size := by
 rcases h with ⟨rfl, _⟩ | ⟨g, c, rfl, _, h2, _⟩
 · cases hk
 · obtain rfl : g = k := by simpa [Value.ownBlock] using hk
   exact h2
end Go.Proofs.YtdddfmdcjjbegaaGreat.Aifo
namespace Go.Proofs.YtdddfmdcjjbegaaGreat.Aifo
open Go.RowKit
/-- A gate at block b: its window is the ring at rb, its rising numbers rs are the slice rv. -/
structure GateIn (T TR TE : TypeId) (w : World) (b rb : Nat) (rg : Option Nat) (rv : Value) (room most wait num den : Nat) (win rs : List Int) : Prop where
 blk : Blk w b #[.pointer (some ⟨rb, 0, none⟩), rv, .int .i64 room, .int .i64 wait, .int .u64 num, .int .u64 den] T
 ring : RingAt TR TE w rb rg most (win.map (.int .u64 ·))
 row : Rising w rv rs
 perm : rs.Perm win
 srt : rs.Pairwise (· ≤ ·)
 r1 : 1 ≤ room
 r2 : room ≤ 4096
 r3 : wait ≤ room
 m1 : 1 ≤ most
 m2 : most ≤ 1024
 m3 : win.length ≤ most
 d1 : num < den
 d2 : den ≤ 65536
 off : ∀ k, RingOf rb rg k → k ≠ b
 voff : ∀ k, rv.ownBlock = some k → k ≠ b ∧ ¬ RingOf rb rg k
/-- The blocks of a gate. -/
def GateOf (b rb : Nat) (rg : Option Nat) (rv : Value) : Nat → Prop := fun k => k = b ∨ RingOf rb rg k ∨ rv.ownBlock = some k
section
variable {T TR TE : TypeId} {w w' : World} {b rb : Nat} {rg : Option Nat} {rv : Value} {room most wait num den : Nat} {win rs : List Int}
theorem GateIn.len (h : GateIn T TR TE w b rb rg rv room most wait num den win rs) : rs.length = win.length := h.perm.length_eq
theorem GateIn.lts (h : GateIn T TR TE w b rb rg rv room most wait num den win rs) {k : Nat} (hk : GateOf b rb rg rv k) : k < w.heap.size := by
 rcases hk with rfl | hk | hk
 · exact h.blk.lt
 · exact h.ring.lts hk
 · exact h.row.lt hk
theorem GateIn.kept (h : GateIn T TR TE w b rb rg rv room most wait num den win rs) {S : Nat → Prop} (hu : Upd S w w') (hs : ∀ k, GateOf b rb rg rv k → ¬ S k) : GateIn T TR TE w' b rb rg rv room most wait num den win rs :=
 { h with blk := h.blk.kept hu (hs b (.inl rfl)), ring := h.ring.kept hu (fun k hk => hs k (.inr (.inl hk))), row := h.row.upd hu (fun k hk => hs k (.inr (.inr hk))) }
theorem GateIn.old (h : GateIn T TR TE w b rb rg rv room most wait num den win rs) (hu : Upd Nowhere w w') : GateIn T TR TE w' b rb rg rv room most wait num den win rs := h.kept hu (fun _ _ h => h)
/-- How many wait, written. -/
theorem GateIn.setW (h : GateIn T TR TE w b rb rg rv room most wait num den win rs) (c : Nat) (hc : c ≤ room) : GateIn T TR TE (w.setCell ⟨b, 3, none⟩ (.int .i64 c)) b rb rg rv room most c num den win rs := by
 have hu : Upd (fun k => k = b) w (w.setCell ⟨b, 3, none⟩ (.int .i64 c)) := Upd.setCell (S := fun k => k = b) (Upd.refl _ _) (fun _ => rfl) _
 exact { h with blk := by simpa using h.blk.set 3 (.int .i64 c), r3 := hc, ring := h.ring.kept hu (fun k hk e => h.off k hk e), row := h.row.upd hu (fun k hk e => (h.voff k hk).1 e) }
/-- What a gate that turned leaves: its blocks are what they were, or new. -/
def GateTurned (T TR TE : TypeId) (w w' : World) (b rb : Nat) (rg : Option Nat) (rv : Value) (room most wait num den : Nat) (win : List Int) : Prop :=
 ∃ rg' rv' rs', GateIn T TR TE w' b rb rg' rv' room most wait num den win rs' ∧ (∀ k, GateOf b rb rg' rv' k → GateOf b rb rg rv k ∨ w.heap.size ≤ k) ∧ Upd (GateOf b rb rg rv) w w'
end
/-- A gate that was made since w0, off the blocks of A. -/
def HasG (T TR TE : TypeId) (A : Nat → Prop) (w0 w : World) (b room most wait num den : Nat) (win : List Int) : Prop :=
 ∃ rb rg rv rs, GateIn T TR TE w b rb rg rv room most wait num den win rs ∧ (∀ k, GateOf b rb rg rv k → w0.heap.size ≤ k ∧ ¬ A k) ∧ w0.heap.size ≤ w.heap.size
end Go.Proofs.YtdddfmdcjjbegaaGreat.Aifo
namespace Go.Proofs.YtdddfmdcjjbegaaGreat.Aifo
open Go.RowKit
section
variable {T TR TE : TypeId} {w w1 w2 : World} {b rb : Nat} {rg rg1 : Option Nat} {rv rv1 rv' : Value} {room most wait wait' num den : Nat} {win win' rs rs' : List Int}
theorem turned_trans (hb : ∀ k, GateOf b rb rg1 rv1 k → GateOf b rb rg rv k ∨ w.heap.size ≤ k) (hu : Upd (GateOf b rb rg rv) w w1) (t : GateTurned T TR TE w1 w2 b rb rg1 rv1 room most wait num den win) : GateTurned T TR TE w w2 b rb rg rv room most wait num den win := by
 obtain ⟨rg', rv', rs', h, hb2, hu2⟩ := t
 exact ⟨rg', rv', rs', h, fun k hk => (hb2 k hk).elim (hb k) (fun h => .inr (Nat.le_trans hu.size h)), hu.trans hu2 (fun k hkw hk => (hb k hk).elim id (fun h => absurd hkw (Nat.not_lt.2 h)))⟩
theorem turned_self (h : GateIn T TR TE w1 b rb rg rv room most wait num den win rs) (hu : Upd (GateOf b rb rg rv) w w1) : GateTurned T TR TE w w1 b rb rg rv room most wait num den win := ⟨rg, rv, rs, h, fun _ hk => .inl hk, hu⟩
/-- The ring has turned; then new rising numbers were made, and are stored. -/
theorem GateIn.swap (h : GateIn T TR TE w b rb rg rv room most wait num den win rs) (t : RingTurned TR TE w w1 rb rg most (win'.map (.int .u64 ·))) (hu : Upd Nowhere w1 w2) (hr : Rising w2 rv' rs') (hn : NewRow w1 rv') (hp : rs'.Perm win') (hs : rs'.Pairwise (· ≤ ·)) (hl : win'.length ≤ most) :
 GateTurned T TR TE w (w2.setCell ⟨b, 1, none⟩ rv') b rb rg rv room most wait num den win' := by
 obtain ⟨rg', hR, hsn, hu1⟩ := t
 have hbw := h.blk.lt
 have hb1 : Blk w1 b #[.pointer (some ⟨rb, 0, none⟩), rv, .int .i64 room, .int .i64 wait, .int .u64 num, .int .u64 den] T := h.blk.kept hu1 (fun hk => h.off b hk rfl)
 have hb2 := hb1.kept hu id
 have hub : Upd (fun k => k = b) w2 (w2.setCell ⟨b, 1, none⟩ rv') := Upd.setCell (S := fun k => k = b) (Upd.refl _ _) (fun _ => rfl) _
 have hrr : ∀ k, RingOf rb rg' k → RingOf rb rg k ∨ w.heap.size ≤ k := fun k hk => by
  rcases hk with rfl | hk
  · exact .inl (.inl rfl)
  · exact (hsn k hk).imp (fun h => .inr h) id
 have hoff : ∀ k, RingOf rb rg' k → k ≠ b := fun k hk => (hrr k hk).elim (h.off k) (fun h => by omega)
 have hsz := hu1.size
 refine ⟨rg', rv', rs', ⟨by simpa using hb2.set 1 rv', (hR.kept hu (fun _ _ h => h)).kept hub (fun k hk e => hoff k hk e), hr.upd hub (fun k hk e => ?_), hp, hs, h.r1, h.r2, h.r3, h.m1, h.m2, hl, h.d1, h.d2, hoff, fun k hk => ⟨fun e => ?_, fun e => ?_⟩⟩, fun k hk => ?_, ?_⟩
 · have := hn k hk; omega
 · have := hn k hk; omega
 · have := hn k hk
   have := hR.lts e
   omega
 · rcases hk with rfl | hk | hk
   · exact .inl (.inl rfl)
   · exact (hrr k hk).imp (fun h => .inr (.inl h)) id
   · exact .inr (Nat.le_trans hsz (hn k hk))
 · exact ((hu1.mono (fun k _ hk => .inr (.inl hk))).trans hu (fun _ _ h => h.elim)).setCell (fun _ => .inl rfl) _
end
end Go.Proofs.YtdddfmdcjjbegaaGreat.Aifo

