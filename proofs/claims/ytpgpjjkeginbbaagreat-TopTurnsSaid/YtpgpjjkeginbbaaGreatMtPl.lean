/- ShPlain, ShLaws, ShGood, ShOne, one behind the other. -/
import Derived.Test.YtpgpjjkeginbbaaGreatMtA
import Derived.Test.YtpgpjjkeginbbaaGreatMtSp0
namespace Go.Proofs.YtpgpjjkeginbbaaGreat.Sh
open Cal (ins)
/-- A packet: flow, number, length. -/
abbrev Pk := Nat × Nat × Nat
/-- A flow's configuration. -/
structure Fl where
  id : Nat
  cost : Nat
  budget : Nat
  size : Nat
  cap : Nat
/-- A configuration. -/
structure Cg where
  rank : Int
  back : Int
  levels : Int
  queues : Int
  packets : Int
  bytes : Nat
  share : Int
  mtu : Nat
  rate : Nat
  burst : Nat
  flows : List Fl
abbrev mx : Nat := 18446744073709551615
/-- What waits: a sorted list; or queues, with bounds, and how many there are. -/
inductive Bk where
  | srt (M : List (Nat × Pk))
  | qs (n : Nat) (bs : Nat → Nat) (q : Nat → List (Nat × Pk))
/-- The first queue that is not empty, of the first n from k on. -/
def fstQ (q : Nat → List (Nat × Pk)) : Nat → Nat → Option Nat
  | 0, _ => none
  | f + 1, k => if (q k).length = 0 then fstQ q f (k + 1) else some k
def Bk.push (b : Bk) (r : Nat) (p : Pk) : Bk := match b with
  | .srt M => .srt (ins r p M)
  | .qs n bs q => .qs n (pushed bs r (pick bs r (n - 1))) (upd q (pick bs r (n - 1)) (q (pick bs r (n - 1)) ++ [(r, p)]))
def Bk.peek (b : Bk) : Option (Nat × Pk) := match b with
  | .srt M => M.head?
  | .qs n _ q => match fstQ q n 0 with
    | none => none
    | some k => (q k).head?
def Bk.pop (b : Bk) : Bk := match b with
  | .srt M => .srt M.tail
  | .qs n bs q => match fstQ q n 0 with
    | none => b
    | some k => .qs n bs (upd q k (q k).tail)
def Bk.len (b : Bk) : Nat := match b with
  | .srt M => M.length
  | .qs n _ q => tot q n
/-- What waits of a flow: packets, bytes, and how many bytes may. -/
abbrev Own := Nat × Nat × Nat
/-- A shaper. -/
structure St where
  pk : Nat
  by_ : Nat
  own : Nat → Option Own
  tags : List Nat
  virt : Nat
  tok : Nat
  bk : Bk
  now : Nat
  ref : List Nat
/-- An operation. -/
structure Op where
  kind : Int
  flow : Nat
  id : Nat
  len : Nat
  ticks : Nat
/-- A reply: its kind, its code, a packet, a rank, and the stats: now, tokens, packets, bytes, what was refused. -/
structure Re where
  kind : Int
  code : Nat
  pkt : Pk
  rank : Nat
  now : Nat
  tok : Nat
  pk : Nat
  by_ : Nat
  ref : List Nat
def z32 : List Nat := List.replicate 32 0
def re0 (kind : Int) : Re := ⟨kind, 0, (0, 0, 0), 0, 0, 0, 0, 0, z32⟩
def shl (a : Nat) (n : Int) : Nat := if n ≤ 0 then a else min (a * 2 ^ n.toNat) mx
/-- May a packet come in? The error's number. -/
def mayIn (c : Cg) (s : St) (id n : Nat) : Nat :=
  if n = 0 ∨ c.mtu < n then 12
  else match s.own id with
    | none => 13
    | some (_, b, m) =>
      if c.packets ≤ (s.pk : Int) then 14
      else if c.bytes - s.by_ < n then 15
      else if m < b ∨ m - b < n then 16
      else if shl (c.bytes - s.by_) c.share ≤ b then 17
      else 0
/-- The place of a flow. -/
def plc (l : List Fl) (id : Nat) : Option Nat := l.findIdx? (fun f => f.id == id)
/-- A packet's rank, and the tags behind it. -/
def rankOf (c : Cg) (s : St) (id n : Nat) : Nat × List Nat :=
  match plc c.flows id with
  | none => (0, s.tags)
  | some at_ =>
    let tag := s.tags.getD at_ 0
    let f := c.flows.getD at_ ⟨0, 0, 0, 0, 0⟩
    if c.rank = 1 then (max s.virt tag, s.tags.set at_ (min (max s.virt tag + min (f.cost * n) mx) mx))
    else if c.rank = 2 then (min (s.now + f.budget) mx, s.tags)
    else (tag, s.tags.set at_ (tag - n))
def refuse (s : St) (why : Nat) : St := { s with ref := s.ref.set why (min (s.ref.getD why 0 + 1) mx) }
def enq (c : Cg) (s : St) (x : Op) : Re × St :=
  let why := mayIn c s x.flow x.len
  if why ≠ 0 then ({ re0 1 with code := why, pkt := (x.flow, x.id, x.len) }, refuse s why)
  else
    let o := (s.own x.flow).getD (0, 0, 0)
    let r := rankOf c s x.flow x.len
    ({ re0 1 with pkt := (x.flow, x.id, x.len), rank := r.1 },
      { s with pk := s.pk + 1, by_ := s.by_ + x.len, own := Tab.upm s.own x.flow (o.1 + 1, o.2.1 + x.len, o.2.2), tags := r.2, bk := s.bk.push r.1 (x.flow, x.id, x.len) })
def deq (c : Cg) (s : St) : Re × St :=
  match s.bk.peek with
  | none => ({ re0 2 with code := 18 }, s)
  | some (r, p) =>
    if s.tok < p.2.2 then ({ re0 2 with code := 19 }, s)
    else
      let o := (s.own p.1).getD (0, 0, 0)
      ({ re0 2 with pkt := p, rank := r },
        { s with pk := s.pk - 1, by_ := s.by_ - p.2.2, own := Tab.upm s.own p.1 (o.1 - 1, o.2.1 - p.2.2, o.2.2), virt := if c.rank = 1 then r else s.virt, tok := s.tok - p.2.2, bk := s.bk.pop })
def known (k : Int) : Int := if k < 0 ∨ 5 < k then 0 else k
def doS (c : Cg) (s : St) (x : Op) : Re × St :=
  if known x.kind = 1 then enq c s x
  else if known x.kind = 2 then deq c s
  else if known x.kind = 3 then (re0 3, { s with now := min (s.now + x.ticks) mx, tok := min (min (s.tok + min (c.rate * x.ticks) mx) mx) c.burst })
  else if known x.kind = 4 then ({ re0 4 with now := s.now, tok := s.tok, pk := s.pk, by_ := s.by_, ref := s.ref }, s)
  else if known x.kind = 5 then ({ re0 5 with code := 2 }, refuse s 2)
  else ({ re0 0 with code := 1 }, refuse s 1)
def runS (c : Cg) : St → List Op → List Re × St
  | s, [] => ([], s)
  | s, x :: l => ((doS c s x).1 :: (runS c (doS c s x).2 l).1, (runS c (doS c s x).2 l).2)
/-- Whether a configuration may be: the error's number. -/
def twice : List Fl → Bool
  | [] => false
  | f :: l => l.any (fun g => g.id == f.id) || twice l
def chk (c : Cg) : Nat :=
  if c.rank < 1 ∨ 3 < c.rank ∨ c.back < 1 ∨ 3 < c.back then 22
  else if c.levels < 1 ∨ 3 < c.levels then 23
  else if c.queues < 1 ∨ 32 < c.queues then 24
  else if c.packets < 1 ∨ 4096 < c.packets ∨ c.bytes = 0 ∨ c.share < 0 ∨ 16 < c.share then 25
  else if mx / 2 ^ c.share.toNat < c.bytes then 25
  else if c.mtu < 1 ∨ 65535 < c.mtu then 26
  else if c.flows.length = 0 ∨ 64 < c.flows.length then 29
  else if twice c.flows then 30
  else if c.rate = 0 then 27
  else if c.burst < c.mtu then 28
  else 0
/-- A shaper at first. -/
def st0 (c : Cg) : St :=
  ⟨0, 0, fun id => (c.flows.find? (fun f => f.id == id)).map (fun f => (0, 0, f.cap)), c.flows.map (fun f => if c.rank = 3 then f.size else 0), 0, c.burst,
    if c.back = 3 then .qs c.queues.toNat (fun _ => 0) (fun _ => []) else .srt [], 0, z32⟩
end Go.Proofs.YtpgpjjkeginbbaaGreat.Sh
namespace Go.Proofs.YtpgpjjkeginbbaaGreat.Sh
open Cal (ins)
set_option linter.unusedSimpArgs false
/-- One refused operation more. -/
def bump (s : St) (w : Nat) : St := { s with ref := s.ref.set w (s.ref.getD w 0 + 1) }
theorem getD_set_eq {l : List Nat} {w v : Nat} (h : w < l.length) : (l.set w v).getD w 0 = v := by
  rw [List.getD_eq_getElem?_getD, List.getElem?_set_self h]; rfl
theorem getD_set_ne {l : List Nat} {w k v : Nat} (h : w ≠ k) : (l.set w v).getD k 0 = l.getD k 0 := by
  rw [List.getD_eq_getElem?_getD, List.getElem?_set_ne h, List.getD_eq_getElem?_getD]
/-- A reply, one refused operation more. -/
def bumpR (r : Re) (w : Nat) : Re := if r.kind = 4 then { r with ref := r.ref.set w (r.ref.getD w 0 + 1) } else r
theorem refuse_bump {s : St} {w y : Nat} (hw : w < s.ref.length) (hb : s.ref.getD w 0 + 2 ≤ mx) : refuse (bump s w) y = bump (refuse s y) w := by
  unfold refuse bump
  dsimp only
  by_cases e : w = y
  · subst e
    rw [getD_set_eq hw, getD_set_eq hw, List.set_set, List.set_set, Nat.min_eq_left (by omega), Nat.min_eq_left (by omega)]
  · rw [getD_set_ne e, getD_set_ne (fun h => e h.symm), List.set_comm _ _ (fun h => e h)]
theorem mayIn_bump (c : Cg) (s : St) (w id n : Nat) : mayIn c (bump s w) id n = mayIn c s id n := rfl
theorem rankOf_bump (c : Cg) (s : St) (w id n : Nat) : rankOf c (bump s w) id n = rankOf c s id n := rfl
theorem enq_bump {c : Cg} {s : St} {x : Op} {w : Nat} (hw : w < s.ref.length) (hb : s.ref.getD w 0 + 2 ≤ mx) : enq c (bump s w) x = ((enq c s x).1, bump (enq c s x).2 w) := by
  unfold enq
  rw [mayIn_bump]
  by_cases h : mayIn c s x.flow x.len ≠ 0
  · simp only [if_pos h]
    rw [refuse_bump hw hb]
  · simp only [if_neg h]
    rfl
theorem deq_bump {c : Cg} {s : St} {w : Nat} : deq c (bump s w) = ((deq c s).1, bump (deq c s).2 w) := by
  unfold deq
  show (match s.bk.peek with | none => _ | some (r, p) => _) = _
  cases s.bk.peek with
  | none => rfl
  | some y =>
    obtain ⟨r, p⟩ := y
    dsimp only
    by_cases h : s.tok < p.2.2
    · rw [if_pos (show (bump s w).tok < p.2.2 from h), if_pos h]
    · rw [if_neg (show ¬ (bump s w).tok < p.2.2 from h), if_neg h]
      rfl
theorem enq_kind (c : Cg) (s : St) (x : Op) : (enq c s x).1.kind = 1 := by
  unfold enq
  dsimp only
  split <;> rfl
theorem deq_kind (c : Cg) (s : St) : (deq c s).1.kind = 2 := by
  unfold deq
  split
  · rfl
  · dsimp only; split <;> rfl
theorem bumpR_ne {r : Re} {w : Nat} (h : r.kind ≠ 4) : bumpR r w = r := if_neg h
theorem doS_bump {c : Cg} {s : St} {x : Op} {w : Nat} (hw : w < s.ref.length) (hb : s.ref.getD w 0 + 2 ≤ mx) : doS c (bump s w) x = (bumpR (doS c s x).1 w, bump (doS c s x).2 w) := by
  unfold doS
  by_cases h1 : known x.kind = 1
  · simp only [if_pos h1]
    rw [enq_bump hw hb, bumpR_ne (by rw [enq_kind]; decide)]
  · simp only [if_neg h1]
    by_cases h2 : known x.kind = 2
    · simp only [if_pos h2]
      rw [deq_bump, bumpR_ne (by rw [deq_kind]; decide)]
    · simp only [if_neg h2]
      by_cases h3 : known x.kind = 3
      · simp only [if_pos h3]
        rfl
      · simp only [if_neg h3]
        by_cases h4 : known x.kind = 4
        · simp only [if_pos h4]
          rfl
        · simp only [if_neg h4]
          by_cases h5 : known x.kind = 5
          · simp only [if_pos h5]
            rw [refuse_bump hw hb]
            rfl
          · simp only [if_neg h5]
            rw [refuse_bump hw hb]
            rfl
theorem refuse_len (s : St) (y : Nat) : (refuse s y).ref.length = s.ref.length := by unfold refuse; simp
theorem doS_len (c : Cg) (s : St) (x : Op) : (doS c s x).2.ref.length = s.ref.length := by
  unfold doS enq deq
  dsimp only
  repeat' split
  all_goals first | rfl | exact refuse_len _ _
theorem refuse_le (s : St) (y w : Nat) : (refuse s y).ref.getD w 0 ≤ s.ref.getD w 0 + 1 := by
  unfold refuse
  dsimp only
  by_cases e : y = w
  · subst e
    by_cases hl : y < s.ref.length
    · rw [getD_set_eq hl]; exact Nat.min_le_left _ _
    · rw [List.set_eq_of_length_le (by omega)]; omega
  · rw [getD_set_ne e]; omega
theorem doS_le (c : Cg) (s : St) (x : Op) (w : Nat) : (doS c s x).2.ref.getD w 0 ≤ s.ref.getD w 0 + 1 := by
  unfold doS enq deq
  dsimp only
  repeat' split
  all_goals first | exact Nat.le_succ _ | exact refuse_le _ _ _
/-- The rest of a run behind one refused operation more. -/
theorem runS_bump {c : Cg} {w : Nat} : ∀ {l : List Op} {s : St}, w < s.ref.length → s.ref.getD w 0 + l.length + 1 ≤ mx → (runS c (bump s w) l).1 = (runS c s l).1.map (fun r => bumpR r w)
  | [], s, _, _ => rfl
  | x :: l, s, hw, hb => by
    rw [List.length_cons] at hb
    have hd := doS_bump (c := c) (x := x) hw (by omega)
    show (doS c (bump s w) x).1 :: (runS c (doS c (bump s w) x).2 l).1 = _
    rw [hd]
    have h1 := doS_le c s x w
    have ih := runS_bump (c := c) (l := l) (s := (doS c s x).2) (by rw [doS_len]; exact hw) (by omega)
    dsimp only
    rw [ih]
    rfl
theorem runS_len (c : Cg) : ∀ (l : List Op) (s : St), (runS c s l).1.length = l.length
  | [], _ => rfl
  | x :: l, s => by show (_ :: _).length = _; rw [List.length_cons, runS_len c l, List.length_cons]
theorem runS_app (c : Cg) : ∀ (l m : List Op) (s : St), (runS c s (l ++ m)).1 = (runS c s l).1 ++ (runS c (runS c s l).2 m).1 ∧ (runS c s (l ++ m)).2 = (runS c (runS c s l).2 m).2
  | [], m, s => ⟨rfl, rfl⟩
  | x :: l, m, s => by
    obtain ⟨h1, h2⟩ := runS_app c l m (doS c s x).2
    exact ⟨by show (doS c s x).1 :: (runS c (doS c s x).2 (l ++ m)).1 = _; rw [h1]; rfl, h2⟩
/-- A refused operation turns nothing but how many were refused. -/
theorem doS_refused {c : Cg} {s : St} {x : Op} (h0 : (doS c s x).1.code ≠ 0) (h18 : (doS c s x).1.code ≠ 18) (h19 : (doS c s x).1.code ≠ 19) : (doS c s x).2 = refuse s (doS c s x).1.code := by
  unfold doS at *
  by_cases h1 : known x.kind = 1
  · rw [if_pos h1] at h0 h18 h19 ⊢
    unfold enq at h0 ⊢
    dsimp only at h0 ⊢
    split
    · rfl
    · rename_i hw
      rw [if_neg hw] at h0
      exact absurd rfl h0
  · rw [if_neg h1] at h0 h18 h19 ⊢
    by_cases h2 : known x.kind = 2
    · rw [if_pos h2] at h0 h18 h19 ⊢
      unfold deq at h0 h18 h19 ⊢
      cases hp : s.bk.peek with
      | none => rw [hp] at h18; exact absurd rfl h18
      | some y =>
        obtain ⟨r, p⟩ := y
        rw [hp] at h0 h19
        dsimp only at h0 h19 ⊢
        by_cases ht : s.tok < p.2.2
        · rw [if_pos ht] at h19; exact absurd rfl h19
        · rw [if_neg ht] at h0; exact absurd rfl h0
    · rw [if_neg h2] at h0 h18 h19 ⊢
      by_cases h3 : known x.kind = 3
      · rw [if_pos h3] at h0; exact absurd rfl h0
      · rw [if_neg h3] at h0 h18 h19 ⊢
        by_cases h4 : known x.kind = 4
        · rw [if_pos h4] at h0; exact absurd rfl h0
        · rw [if_neg h4] at h0 h18 h19 ⊢
          by_cases h5 : known x.kind = 5
          · rw [if_pos h5]
          · rw [if_neg h5]
theorem doS_quiet {c : Cg} {s : St} {x : Op} (h : (doS c s x).1.code = 18 ∨ (doS c s x).1.code = 19) (hm : ∀ id n, mayIn c s id n ≠ 18 ∧ mayIn c s id n ≠ 19) : (doS c s x).2 = s := by
  unfold doS at *
  by_cases h1 : known x.kind = 1
  · rw [if_pos h1] at h ⊢
    unfold enq at h ⊢
    dsimp only at h ⊢
    have := hm x.flow x.len
    split at h
    · simp only [re0] at h; omega
    · simp only [re0] at h; omega
  · rw [if_neg h1] at h ⊢
    by_cases h2 : known x.kind = 2
    · rw [if_pos h2] at h ⊢
      unfold deq at h ⊢
      cases hp : s.bk.peek with
      | none => rfl
      | some y =>
        obtain ⟨r, p⟩ := y
        rw [hp] at h
        dsimp only at h ⊢
        by_cases ht : s.tok < p.2.2
        · rw [if_pos ht]
        · rw [if_neg ht] at h
          simp only [re0] at h; omega
    · rw [if_neg h2] at h ⊢
      by_cases h3 : known x.kind = 3
      · rw [if_pos h3] at h; simp only [re0] at h; omega
      · rw [if_neg h3] at h ⊢
        by_cases h4 : known x.kind = 4
        · rw [if_pos h4]
        · rw [if_neg h4] at h
          by_cases h5 : known x.kind = 5
          · rw [if_pos h5] at h; simp only [re0] at h; omega
          · rw [if_neg h5] at h; simp only [re0] at h; omega
theorem mayIn_codes (c : Cg) (s : St) (id n : Nat) : mayIn c s id n ≠ 18 ∧ mayIn c s id n ≠ 19 := by
  unfold mayIn
  repeat' split
  all_goals exact ⟨by omega, by omega⟩
end Go.Proofs.YtpgpjjkeginbbaaGreat.Sh
namespace Go.Proofs.YtpgpjjkeginbbaaGreat.Sh
open Cal (ins)
set_option linter.unusedSimpArgs false
/-- All that waits in the first k queues. -/
def flatQ (q : Nat → List (Nat × Pk)) : Nat → List (Nat × Pk)
  | 0 => []
  | k + 1 => flatQ q k ++ q k
/-- All that waits. -/
def Bk.flat (b : Bk) : List (Nat × Pk) := match b with
  | .srt M => M
  | .qs n _ q => flatQ q n
theorem flatQ_len (q : Nat → List (Nat × Pk)) : ∀ n, (flatQ q n).length = tot q n
  | 0 => rfl
  | n + 1 => by unfold flatQ tot; rw [List.length_append, flatQ_len q n]
theorem flatQ_far (q : Nat → List (Nat × Pk)) (i : Nat) (l : List (Nat × Pk)) : ∀ k, k ≤ i → flatQ (upd q i l) k = flatQ q k
  | 0, _ => rfl
  | k + 1, h => by unfold flatQ; rw [flatQ_far q i l k (by omega), upd_ne _ _ (by omega)]
theorem flatQ_perm {q : Nat → List (Nat × Pk)} {i : Nat} {l X : List (Nat × Pk)} : ∀ {n : Nat}, i < n → l.Perm (X ++ q i) → (flatQ (upd q i l) n).Perm (X ++ flatQ q n)
  | 0, h, _ => by omega
  | n + 1, h, hp => by
    unfold flatQ
    rcases Nat.lt_or_ge i n with h1 | h1
    · rw [upd_ne q l (show n ≠ i by omega)]
      have h2 := (flatQ_perm h1 hp).append_right (q n)
      rw [List.append_assoc] at h2
      exact h2
    · have : i = n := by omega
      subst this
      rw [flatQ_far q i l i (Nat.le_refl _), upd_at]
      have h2 := List.Perm.append_left (flatQ q i) hp
      refine h2.trans ?_
      rw [← List.append_assoc, ← List.append_assoc]
      exact (List.perm_append_comm).append_right _
theorem flatQ_mem {q : Nat → List (Nat × Pk)} {x : Nat × Pk} : ∀ {n : Nat}, x ∈ flatQ q n ↔ ∃ k, k < n ∧ x ∈ q k
  | 0 => ⟨fun h => (nomatch h), fun ⟨k, h, _⟩ => by omega⟩
  | n + 1 => by
    unfold flatQ
    rw [List.mem_append, flatQ_mem]
    refine ⟨fun h => h.elim (fun ⟨k, h1, h2⟩ => ⟨k, by omega, h2⟩) (fun h => ⟨n, by omega, h⟩), fun ⟨k, h1, h2⟩ => ?_⟩
    rcases Nat.lt_or_ge k n with h3 | h3
    · exact .inl ⟨k, h3, h2⟩
    · have : k = n := by omega
      subst this
      exact .inr h2
theorem fstQ_some {q : Nat → List (Nat × Pk)} : ∀ {f k i : Nat}, fstQ q f k = some i → k ≤ i ∧ i < k + f ∧ (q i).length ≠ 0 ∧ ∀ j, k ≤ j → j < i → (q j).length = 0
  | 0, k, i, h => by cases h
  | f + 1, k, i, h => by
    unfold fstQ at h
    by_cases h0 : (q k).length = 0
    · rw [if_pos h0] at h
      obtain ⟨h1, h2, h3, h4⟩ := fstQ_some h
      refine ⟨by omega, by omega, h3, fun j hj1 hj2 => ?_⟩
      by_cases e : j = k
      · rw [e]; exact h0
      · exact h4 j (by omega) hj2
    · rw [if_neg h0] at h
      cases h
      exact ⟨Nat.le_refl _, by omega, h0, fun j h1 h2 => by omega⟩
theorem fstQ_none {q : Nat → List (Nat × Pk)} : ∀ {f k : Nat}, fstQ q f k = none → ∀ j, k ≤ j → j < k + f → (q j).length = 0
  | 0, k, _, j, h1, h2 => by omega
  | f + 1, k, h, j, h1, h2 => by
    unfold fstQ at h
    by_cases h0 : (q k).length = 0
    · rw [if_pos h0] at h
      by_cases e : j = k
      · rw [e]; exact h0
      · exact fstQ_none h j (by omega) (by omega)
    · rw [if_neg h0] at h; cases h
theorem ins_perm (r : Nat) (x : Pk) : ∀ M : List (Nat × Pk), (ins r x M).Perm ((r, x) :: M)
  | [] => List.Perm.refl _
  | a :: t => by
    unfold ins
    split
    · exact List.Perm.refl _
    · exact ((ins_perm r x t).cons a).trans (List.Perm.swap _ _ _)
/-- At least one queue. -/
def Bk.Fits (b : Bk) : Prop := match b with
  | .srt _ => True
  | .qs n bs _ => 0 < n ∧ n ≤ 32 ∧ Fit n bs
theorem Bk.push_flat {b : Bk} (h : b.Fits) (r : Nat) (p : Pk) : (b.push r p).flat.Perm ((r, p) :: b.flat) := by
  cases b with
  | srt M => exact ins_perm r p M
  | qs n bs q =>
    have hn : 0 < n := h.1
    have hp := pick_le bs r (n - 1)
    exact flatQ_perm (X := [(r, p)]) (show pick bs r (n - 1) < n by omega) List.perm_append_comm
theorem Bk.peek_flat {b : Bk} {r : Nat} {p : Pk} (h : b.peek = some (r, p)) : b.flat.Perm ((r, p) :: b.pop.flat) := by
  cases b with
  | srt M =>
    cases M with
    | nil => cases h
    | cons a t => cases h; exact List.Perm.refl _
  | qs n bs q =>
    unfold Bk.peek at h
    unfold Bk.pop
    dsimp only at h ⊢
    cases hf : fstQ q n 0 with
    | none => rw [hf] at h; cases h
    | some k =>
      rw [hf] at h
      dsimp only at h ⊢
      obtain ⟨_, h2, h3, _⟩ := fstQ_some hf
      cases hq : q k with
      | nil => rw [hq] at h; cases h
      | cons a t =>
        rw [hq] at h
        cases h
        have h4 := flatQ_perm (q := upd q k t) (i := k) (l := (r, p) :: t) (X := [(r, p)]) (n := n) (by omega) (by rw [upd_at]; exact List.Perm.refl _)
        have e : upd (upd q k t) k ((r, p) :: t) = q := by
          funext j
          by_cases ej : j = k
          · rw [ej, upd_at, hq]
          · rw [upd_ne _ _ ej, upd_ne _ _ ej]
        rw [e] at h4
        exact h4
theorem Bk.push_fits {b : Bk} (h : b.Fits) {r : Nat} (hr : r ≤ mx) (p : Pk) : (b.push r p).Fits := by
  cases b with
  | srt M => trivial
  | qs n bs q => exact ⟨h.1, h.2.1, h.2.2.pushed h.1 hr⟩
theorem Bk.pop_fits {b : Bk} (h : b.Fits) : b.pop.Fits := by
  cases b with
  | srt M => trivial
  | qs n bs q =>
    unfold Bk.pop
    dsimp only
    split
    · exact h
    · exact h
/-- What waits of a flow. -/
def cntF (id : Nat) (L : List (Nat × Pk)) : Nat := L.countP (fun x => x.2.1 == id)
def bytF (id : Nat) (L : List (Nat × Pk)) : Nat := ((L.filter (fun x => x.2.1 == id)).map (fun x => x.2.2.2)).sum
def sumB (L : List (Nat × Pk)) : Nat := (L.map (fun x => x.2.2.2)).sum
theorem cntF_perm {L M : List (Nat × Pk)} (h : L.Perm M) (id : Nat) : cntF id L = cntF id M := h.countP_eq _
theorem bytF_perm {L M : List (Nat × Pk)} (h : L.Perm M) (id : Nat) : bytF id L = bytF id M := ((h.filter _).map _).sum_nat
theorem sumB_perm {L M : List (Nat × Pk)} (h : L.Perm M) : sumB L = sumB M := (h.map _).sum_nat
theorem cntF_cons (id r : Nat) (p : Pk) (L : List (Nat × Pk)) : cntF id ((r, p) :: L) = cntF id L + if p.1 = id then 1 else 0 := by
  unfold cntF
  rw [List.countP_cons]
  by_cases e : p.1 = id
  · simp [e]
  · simp [e]
theorem bytF_cons (id r : Nat) (p : Pk) (L : List (Nat × Pk)) : bytF id ((r, p) :: L) = bytF id L + if p.1 = id then p.2.2 else 0 := by
  unfold bytF
  by_cases e : p.1 = id
  · rw [List.filter_cons_of_pos (by simpa using e), List.map_cons, List.sum_cons, if_pos e]; exact Nat.add_comm _ _
  · rw [List.filter_cons_of_neg (by simpa using e), if_neg e]; omega
theorem sumB_cons (r : Nat) (p : Pk) (L : List (Nat × Pk)) : sumB ((r, p) :: L) = sumB L + p.2.2 := by
  unfold sumB
  rw [List.map_cons, List.sum_cons]; exact Nat.add_comm _ _
theorem bytF_le (id : Nat) (L : List (Nat × Pk)) : bytF id L ≤ sumB L := by
  induction L with
  | nil => exact Nat.le_refl _
  | cons a L ih =>
    obtain ⟨r, p⟩ := a
    rw [bytF_cons, sumB_cons]
    split <;> omega
/-- A flow of an id. -/
def flow? (c : Cg) (id : Nat) : Option Fl := c.flows.find? (fun f => f.id == id)
/-- What is true of a shaper. -/
structure Good (c : Cg) (s : St) : Prop where
  own : ∀ id, s.own id = (flow? c id).map (fun f => (cntF id s.bk.flat, bytF id s.bk.flat, f.cap))
  pk : s.pk = s.bk.flat.length
  pkl : (s.pk : Int) ≤ c.packets
  by1 : s.by_ = sumB s.bk.flat
  by2 : s.by_ ≤ c.bytes
  mem : ∀ x ∈ s.bk.flat, x.1 ≤ mx ∧ x.2.1 < 4294967296 ∧ x.2.2.1 < 4294967296 ∧ 1 ≤ x.2.2.2 ∧ x.2.2.2 ≤ 65535 ∧ (flow? c x.2.1).isSome = true
  tl : s.tags.length = c.flows.length
  tg : ∀ t ∈ s.tags, t ≤ mx
  vt : s.virt ≤ mx
  tk : s.tok ≤ c.burst
  nw : s.now ≤ mx
  rl : s.ref.length = 32
  rb : ∀ x ∈ s.ref, x ≤ mx
  ft : s.bk.Fits
/-- What is true of a configuration that may be. -/
structure Cok (c : Cg) : Prop where
  k0 : chk c = 0
  by_ : c.bytes ≤ mx
  rate : c.rate ≤ mx
  burst : c.burst ≤ mx
  mtu : c.mtu ≤ 65535
  pk : 1 ≤ c.packets ∧ c.packets ≤ 4096
  fl : ∀ f ∈ c.flows, f.id < 4294967296 ∧ f.cost ≤ mx ∧ f.budget ≤ mx ∧ f.size ≤ mx ∧ f.cap ≤ mx
def Op.Ok (x : Op) : Prop := x.flow < 4294967296 ∧ x.id < 4294967296 ∧ x.len ≤ mx ∧ x.ticks ≤ mx
theorem set_le {l : List Nat} {i v B : Nat} (h : ∀ t ∈ l, t ≤ B) (hv : v ≤ B) : ∀ t ∈ l.set i v, t ≤ B := fun t ht => (List.mem_or_eq_of_mem_set ht).elim (h t) (fun e => by rw [e]; exact hv)
theorem getD_le {l : List Nat} {i B : Nat} (h : ∀ t ∈ l, t ≤ B) : l.getD i 0 ≤ B := by
  rw [List.getD_eq_getElem?_getD]
  cases e : l[i]? with
  | none => exact Nat.zero_le _
  | some t => exact h t (List.mem_of_getElem? e)
theorem Good.refuse {c : Cg} {s : St} (h : Good c s) (y : Nat) : Good c (refuse s y) :=
  { h with rl := by rw [refuse_len]; exact h.rl, rb := set_le h.rb (Nat.min_le_right _ _) }
theorem rankOf_le {c : Cg} {s : St} (h : Good c s) (id n : Nat) : (rankOf c s id n).1 ≤ mx ∧ (rankOf c s id n).2.length = s.tags.length ∧ ∀ t ∈ (rankOf c s id n).2, t ≤ mx := by
  unfold rankOf
  split
  · exact ⟨Nat.zero_le _, rfl, h.tg⟩
  · rename_i at_ _
    dsimp only
    have h1 := getD_le (i := at_) h.tg
    have h2 := h.vt
    split
    · exact ⟨Nat.max_le.2 ⟨h2, h1⟩, List.length_set, set_le h.tg (Nat.min_le_right _ _)⟩
    · split
      · exact ⟨Nat.min_le_right _ _, rfl, h.tg⟩
      · exact ⟨h1, List.length_set, set_le h.tg (by omega)⟩
theorem mayIn_ok {c : Cg} {s : St} {id n : Nat} (h : mayIn c s id n = 0) : n ≠ 0 ∧ n ≤ c.mtu ∧ ∃ p b m, s.own id = some (p, b, m) ∧ (s.pk : Int) < c.packets ∧ n ≤ c.bytes - s.by_ := by
  unfold mayIn at h
  split at h
  · cases h
  · rename_i h0
    split at h
    · cases h
    · rename_i p b m ho
      split at h
      · cases h
      · rename_i h1
        split at h
        · cases h
        · rename_i h2
          exact ⟨by omega, by omega, p, b, m, ho, by omega, by omega⟩
theorem Good.enq {c : Cg} {s : St} {x : Op} (h : Good c s) (hc : Cok c) (hx : x.Ok) : Good c (enq c s x).2 := by
  unfold Sh.enq
  dsimp only
  split
  · exact h.refuse _
  · rename_i hw
    obtain ⟨h0, h1, p, b, m, ho, h2, h3⟩ := mayIn_ok (Classical.not_not.1 hw)
    obtain ⟨r1, r2, r3⟩ := rankOf_le h x.flow x.len
    have hp := Bk.push_flat h.ft (rankOf c s x.flow x.len).1 (x.flow, x.id, x.len)
    have hown := h.own x.flow
    rw [ho] at hown
    obtain ⟨f, hf⟩ : ∃ f, flow? c x.flow = some f := by
      cases hf : flow? c x.flow with
      | none => rw [hf] at hown; cases hown
      | some f => exact ⟨f, rfl⟩
    rw [hf] at hown
    obtain ⟨rfl, rfl, rfl⟩ : p = cntF x.flow s.bk.flat ∧ b = bytF x.flow s.bk.flat ∧ m = f.cap := by cases hown; exact ⟨rfl, rfl, rfl⟩
    have hb2 := h.by2
    have hmt := hc.mtu
    refine ⟨fun id => ?_, ?_, ?_, ?_, ?_, fun y hy => ?_, r2.trans h.tl, r3, h.vt, h.tk, h.nw, h.rl, h.rb, Bk.push_fits h.ft r1 _⟩
    · show Tab.upm s.own x.flow _ id = _
      unfold Tab.upm
      rw [cntF_perm hp, bytF_perm hp, cntF_cons, bytF_cons, ho]
      by_cases e : id = x.flow
      · subst e
        rw [if_pos rfl, hf, if_pos rfl, if_pos rfl]
        rfl
      · rw [if_neg e, if_neg (fun h => e h.symm), if_neg (fun h => e h.symm), Nat.add_zero, Nat.add_zero]
        exact h.own id
    · show s.pk + 1 = _
      rw [hp.length_eq, List.length_cons, h.pk]
    · show ((s.pk + 1 : Nat) : Int) ≤ c.packets
      omega
    · show s.by_ + x.len = _
      rw [sumB_perm hp, sumB_cons, h.by1]
    · show s.by_ + x.len ≤ _
      omega
    · rcases List.mem_cons.1 (hp.mem_iff.1 hy) with rfl | hy
      · exact ⟨r1, hx.1, hx.2.1, by show 1 ≤ x.len; omega, by show x.len ≤ 65535; omega, by rw [hf]; rfl⟩
      · exact h.mem y hy
theorem Good.deq {c : Cg} {s : St} (h : Good c s) : Good c (deq c s).2 := by
  unfold Sh.deq
  split
  · exact h
  · rename_i r p hpk
    split
    · exact h
    · have hp := Bk.peek_flat hpk
      have hm := h.mem (r, p) (hp.mem_iff.2 (List.mem_cons_self ..))
      obtain ⟨f, hf⟩ := Option.isSome_iff_exists.1 hm.2.2.2.2.2
      have hown := h.own p.1
      dsimp only at hf
      rw [hf] at hown
      have hown2 : s.own p.1 = some (cntF p.1 s.bk.flat, bytF p.1 s.bk.flat, f.cap) := hown
      have hpkn := h.pk
      have hby := h.by1
      rw [hp.length_eq, List.length_cons] at hpkn
      rw [sumB_perm hp, sumB_cons] at hby
      refine ⟨fun id => ?_, ?_, ?_, ?_, ?_, fun y hy => h.mem y (hp.mem_iff.2 (List.mem_cons_of_mem _ hy)), h.tl, h.tg, ?_, Nat.le_trans (Nat.sub_le _ _) h.tk, h.nw, h.rl, h.rb, Bk.pop_fits h.ft⟩
      · show Tab.upm s.own p.1 _ id = _
        unfold Tab.upm
        by_cases e : id = p.1
        · subst e
          rw [if_pos rfl, hf, hown2]
          show some (cntF _ s.bk.flat - 1, bytF _ s.bk.flat - p.2.2, f.cap) = _
          rw [cntF_perm hp, bytF_perm hp, cntF_cons, bytF_cons, if_pos rfl, if_pos rfl, Nat.add_sub_cancel, Nat.add_sub_cancel]
          rfl
        · rw [if_neg e, h.own id, cntF_perm hp, bytF_perm hp, cntF_cons, bytF_cons, if_neg (fun h => e h.symm), if_neg (fun h => e h.symm)]
          rfl
      · show s.pk - 1 = s.bk.pop.flat.length
        omega
      · show ((s.pk - 1 : Nat) : Int) ≤ c.packets
        have := h.pkl
        omega
      · show s.by_ - p.2.2 = sumB s.bk.pop.flat
        omega
      · show s.by_ - p.2.2 ≤ c.bytes
        have := h.by2
        omega
      · show (if c.rank = 1 then r else s.virt) ≤ mx
        split
        · exact hm.1
        · exact h.vt
theorem Good.doS {c : Cg} {s : St} {x : Op} (h : Good c s) (hc : Cok c) (hx : x.Ok) : Good c (doS c s x).2 := by
  unfold Sh.doS
  split
  · exact h.enq hc hx
  · split
    · exact h.deq
    · split
      · exact { h with tk := Nat.min_le_right _ _, nw := Nat.min_le_right _ _ }
      · split
        · exact h
        · split
          · exact h.refuse _
          · exact h.refuse _
theorem flatQ_nil : ∀ n, flatQ (fun _ => []) n = []
  | 0 => rfl
  | n + 1 => by unfold flatQ; rw [flatQ_nil n]; rfl
theorem good_st0 {c : Cg} (hc : Cok c) (hq : 1 ≤ c.queues ∧ c.queues ≤ 32) : Good c (st0 c) := by
  have hfl : (st0 c).bk.flat = [] := by
    unfold st0
    dsimp only
    split
    · exact flatQ_nil _
    · rfl
  have hpk := hc.pk
  refine ⟨(fun id => ?_), (by rw [hfl]; rfl), (by show (0 : Int) ≤ c.packets; omega), (by rw [hfl]; rfl), Nat.zero_le _, (fun y hy => by rw [hfl] at hy; cases hy), List.length_map .., (fun t ht => ?_), Nat.zero_le _, Nat.le_refl _, Nat.zero_le _, rfl, (fun y hy => ?_), ?_⟩
  · rw [hfl]; rfl
  · obtain ⟨f, hf, rfl⟩ := List.mem_map.1 ht
    split
    · exact (hc.fl f hf).2.2.2.1
    · exact Nat.zero_le _
  · obtain rfl := List.eq_of_mem_replicate hy
    exact Nat.zero_le _
  · show Bk.Fits (if c.back = 3 then _ else _)
    split
    · exact ⟨by omega, by omega, fun _ _ _ _ => Nat.le_refl _, fun _ _ => Nat.zero_le _⟩
    · trivial
end Go.Proofs.YtpgpjjkeginbbaaGreat.Sh
namespace Go.Proofs.YtpgpjjkeginbbaaGreat.Sh
open Cal (ins)
set_option linter.unusedSimpArgs false
/-- The state behind the first i operations. -/
def stA (c : Cg) (s : St) (l : List Op) (i : Nat) : St := (runS c s (l.take i)).2
theorem runS_one (c : Cg) (s : St) (x : Op) : runS c s [x] = ([(doS c s x).1], (doS c s x).2) := rfl
theorem stA_succ {c : Cg} {s : St} {l : List Op} {i : Nat} {x : Op} (h : l[i]? = some x) : stA c s l (i + 1) = (doS c (stA c s l i) x).2 := by
  unfold stA
  rw [List.take_add_one, h, (runS_app c _ _ s).2]
  rfl
theorem runS_at {c : Cg} {s : St} {l : List Op} {i : Nat} {x : Op} (h : l[i]? = some x) : (runS c s l).1[i]? = some (doS c (stA c s l i) x).1 := by
  have hlt : i < l.length := by
    rcases Nat.lt_or_ge i l.length with h' | h'
    · exact h'
    · rw [List.getElem?_eq_none h'] at h; cases h
  have e : l = l.take i ++ x :: l.drop (i + 1) := by
    conv => lhs; rw [← List.take_append_drop i l]
    rw [List.drop_eq_getElem_cons hlt]
    rw [List.getElem?_eq_getElem hlt] at h
    rw [Option.some.inj h]
  have h1 := (runS_app c (l.take i) (x :: l.drop (i + 1)) s).1
  rw [← e] at h1
  rw [h1, List.getElem?_append_right (by rw [runS_len, List.length_take]; omega), runS_len, List.length_take, Nat.min_eq_left (by omega), Nat.sub_self]
  rfl
theorem Good.run {c : Cg} (hc : Cok c) : ∀ {l : List Op} {s : St}, Good c s → (∀ x ∈ l, x.Ok) → Good c (runS c s l).2
  | [], _, h, _ => h
  | x :: l, _, h, hx => Good.run hc (l := l) (h.doS hc (hx x (List.mem_cons_self ..))) (fun y hy => hx y (List.mem_cons_of_mem _ hy))
theorem Good.at_ {c : Cg} (hc : Cok c) {l : List Op} {s : St} (h : Good c s) (hx : ∀ x ∈ l, x.Ok) (i : Nat) : Good c (stA c s l i) := h.run hc (fun x hm => hx x (List.mem_of_mem_take hm))
/-- What waits, of one queue. -/
def Bk.one (b : Bk) : List (Nat × Pk) := match b with
  | .srt M => M
  | .qs _ _ q => q 0
def Bk.is1 (b : Bk) : Prop := match b with
  | .srt _ => False
  | .qs n _ _ => n = 1
theorem Bk.push_one {b : Bk} (h : b.is1) (r : Nat) (p : Pk) : (b.push r p).is1 ∧ (b.push r p).one = b.one ++ [(r, p)] := by
  cases b with
  | srt M => exact h.elim
  | qs n bs q =>
    obtain rfl : n = 1 := h
    exact ⟨rfl, by show upd q (pick bs r 0) _ 0 = _; rw [show pick bs r 0 = 0 from rfl, upd_at]; rfl⟩
theorem Bk.peek_one {b : Bk} (h : b.is1) : b.peek = b.one.head? := by
  cases b with
  | srt M => exact h.elim
  | qs n bs q =>
    obtain rfl : n = 1 := h
    unfold Bk.peek Bk.one
    dsimp only
    unfold fstQ
    by_cases h0 : (q 0).length = 0
    · rw [if_pos h0, List.eq_nil_of_length_eq_zero h0]; rfl
    · rw [if_neg h0]
theorem Bk.pop_one {b : Bk} (h : b.is1) : b.pop.is1 ∧ b.pop.one = b.one.tail := by
  cases b with
  | srt M => exact h.elim
  | qs n bs q =>
    obtain rfl : n = 1 := h
    unfold Bk.pop
    dsimp only
    unfold fstQ
    by_cases h0 : (q 0).length = 0
    · rw [if_pos h0]
      refine ⟨rfl, ?_⟩
      show q 0 = (q 0).tail
      rw [List.eq_nil_of_length_eq_zero h0]; rfl
    · rw [if_neg h0]
      exact ⟨rfl, upd_at ..⟩
/-- A step, with one queue. -/
theorem one_do {c : Cg} {s : St} (h : s.bk.is1) (x : Op) : (doS c s x).2.bk.is1 ∧
    ((doS c s x).1.code = 0 → (doS c s x).1.kind = 1 → (doS c s x).2.bk.one = s.bk.one ++ [((doS c s x).1.rank, (doS c s x).1.pkt)]) ∧
    ((doS c s x).1.code = 0 → (doS c s x).1.kind = 2 → s.bk.one = ((doS c s x).1.rank, (doS c s x).1.pkt) :: (doS c s x).2.bk.one) ∧
    (((doS c s x).1.code ≠ 0 ∨ ((doS c s x).1.kind ≠ 1 ∧ (doS c s x).1.kind ≠ 2)) → (doS c s x).2.bk.one = s.bk.one) := by
  unfold doS
  split
  · unfold enq
    dsimp only
    split
    · rename_i hw
      exact ⟨h, fun e => absurd e hw, fun _ e => absurd e (of_decide_eq_false rfl), fun _ => rfl⟩
    · obtain ⟨h1, h2⟩ := Bk.push_one h (rankOf c s x.flow x.len).1 (x.flow, x.id, x.len)
      exact ⟨h1, fun _ _ => h2, fun _ e => absurd e (of_decide_eq_false rfl), fun e => by rcases e with e | e; exact absurd rfl e; exact absurd rfl e.1⟩
  · split
    · unfold deq
      rw [Bk.peek_one h]
      cases ho : s.bk.one with
      | nil => exact ⟨h, fun e => absurd e (of_decide_eq_false rfl), fun e => absurd e (of_decide_eq_false rfl), fun _ => ho⟩
      | cons a t =>
        obtain ⟨r, p⟩ := a
        dsimp only [List.head?_cons]
        split
        · exact ⟨h, fun e => absurd e (of_decide_eq_false rfl), fun e => absurd e (of_decide_eq_false rfl), fun _ => ho⟩
        · obtain ⟨h1, h2⟩ := Bk.pop_one h
          rw [ho] at h2
          exact ⟨h1, fun _ e => absurd e (of_decide_eq_false rfl), fun _ _ => by show (r, p) :: t = (r, p) :: s.bk.pop.one; rw [h2]; rfl, fun e => by rcases e with e | e; exact absurd rfl e; exact absurd rfl e.2⟩
    · split
      · exact ⟨h, fun _ e => absurd e (of_decide_eq_false rfl), fun _ e => absurd e (of_decide_eq_false rfl), fun _ => rfl⟩
      · split
        · exact ⟨h, fun _ e => absurd e (of_decide_eq_false rfl), fun _ e => absurd e (of_decide_eq_false rfl), fun _ => rfl⟩
        · split
          · exact ⟨h, fun _ e => absurd e (of_decide_eq_false rfl), fun _ e => absurd e (of_decide_eq_false rfl), fun _ => rfl⟩
          · exact ⟨h, fun _ e => absurd e (of_decide_eq_false rfl), fun _ e => absurd e (of_decide_eq_false rfl), fun _ => rfl⟩
theorem one_at {c : Cg} {s : St} (h : s.bk.is1) : ∀ (l : List Op), (runS c s l).2.bk.is1
  | [] => h
  | x :: l => one_at (one_do h x).1 l
end Go.Proofs.YtpgpjjkeginbbaaGreat.Sh

