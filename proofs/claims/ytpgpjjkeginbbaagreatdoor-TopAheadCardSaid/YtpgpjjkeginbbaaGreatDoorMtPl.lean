/- ShPlain, ShLaws, ShGood, ShOne, one behind the other. -/
import Derived.Test.YtpgpjjkeginbbaaGreatDoorMtA
import Derived.Test.YtpgpjjkeginbbaaGreatDoorMtSp0
namespace Go.Proofs.YtpgpjjkeginbbaaGreatDoor.Sh
open Cal (ins)
/-- A packet: flow, number, length. -/
abbrev Pk := Nat × Nat × Nat
/-- A flow's configuration. -/
structure Fl where
 id : Nat
 cost : Nat
 budget : Nat
 size : Nat
 cap : Nat
/-- A configuration. -/
structure Cg where
 rank : Int
 back : Int
 levels : Int
 queues : Int
 packets : Int
 bytes : Nat
 share : Int
 mtu : Nat
 rate : Nat
 burst : Nat
 flows : List Fl
abbrev mx : Nat := 18446744073709551615
/-- What waits: a sorted list; or queues, with bounds, and how many there are. -/
inductive Bk where
 | srt (M : List (Nat × Pk))
 | qs (n : Nat) (bs : Nat → Nat) (q : Nat → List (Nat × Pk))
/-- The first queue that is not empty, of the first n from k on. -/
def fstQ (q : Nat → List (Nat × Pk)) : Nat → Nat → Option Nat
 | 0, _ => none
 | f + 1, k => if (q k).length = 0 then fstQ q f (k + 1) else some k
def Bk.push (b : Bk) (r : Nat) (p : Pk) : Bk := match b with
 | .srt M => .srt (ins r p M)
 | .qs n bs q => .qs n (pushed bs r (pick bs r (n - 1))) (upd q (pick bs r (n - 1)) (q (pick bs r (n - 1)) ++ [(r, p)]))
def Bk.peek (b : Bk) : Option (Nat × Pk) := match b with
 | .srt M => M.head?
 | .qs n _ q => match fstQ q n 0 with
   | none => none
   | some k => (q k).head?
def Bk.pop (b : Bk) : Bk := match b with
 | .srt M => .srt M.tail
 | .qs n bs q => match fstQ q n 0 with
   | none => b
   | some k => .qs n bs (upd q k (q k).tail)
def Bk.len (b : Bk) : Nat := match b with
 | .srt M => M.length
 | .qs n _ q => tot q n
/-- What waits of a flow: packets, bytes, and how many bytes may. -/
abbrev Own := Nat × Nat × Nat
/-- A shaper. -/
structure St where
 pk : Nat
 by_ : Nat
 own : Nat → Option Own
 tags : List Nat
 virt : Nat
 tok : Nat
 bk : Bk
 now : Nat
 ref : List Nat
/-- An operation. -/
structure Op where
 kind : Int
 flow : Nat
 id : Nat
 len : Nat
 ticks : Nat
/-- A reply: its kind, its code, a packet, a rank, and the stats: now, tokens, packets, bytes, what was refused. -/
structure Re where
 kind : Int
 code : Nat
 pkt : Pk
 rank : Nat
 now : Nat
 tok : Nat
 pk : Nat
 by_ : Nat
 ref : List Nat
def z32 : List Nat := List.replicate 32 0
def re0 (kind : Int) : Re := ⟨kind, 0, (0, 0, 0), 0, 0, 0, 0, 0, z32⟩
def shl (a : Nat) (n : Int) : Nat := if n ≤ 0 then a else min (a * 2 ^ n.toNat) mx
/-- May a packet come in? The error's number. -/
def mayIn (c : Cg) (s : St) (id n : Nat) : Nat :=
 if n = 0 ∨ c.mtu < n then 12
 else match s.own id with
  | none => 13
  | some (_, b, m) =>
    if c.packets ≤ (s.pk : Int) then 14
    else if c.bytes - s.by_ < n then 15
    else if m < b ∨ m - b < n then 16
    else if shl (c.bytes - s.by_) c.share ≤ b then 17
    else 0
/-- The place of a flow. -/
def plc (l : List Fl) (id : Nat) : Option Nat := l.findIdx? (fun f => f.id == id)
/-- A packet's rank, and the tags behind it. -/
def rankOf (c : Cg) (s : St) (id n : Nat) : Nat × List Nat :=
 match plc c.flows id with
 | none => (0, s.tags)
 | some at_ =>
   let tag := s.tags.getD at_ 0
   let f := c.flows.getD at_ ⟨0, 0, 0, 0, 0⟩
   if c.rank = 1 then (max s.virt tag, s.tags.set at_ (min (max s.virt tag + min (f.cost * n) mx) mx))
   else if c.rank = 2 then (min (s.now + f.budget) mx, s.tags)
   else (tag, s.tags.set at_ (tag - n))
def refuse (s : St) (why : Nat) : St := { s with ref := s.ref.set why (min (s.ref.getD why 0 + 1) mx) }
def enq (c : Cg) (s : St) (x : Op) : Re × St :=
 let why := mayIn c s x.flow x.len
 if why ≠ 0 then ({ re0 1 with code := why, pkt := (x.flow, x.id, x.len) }, refuse s why)
 else
  let o := (s.own x.flow).getD (0, 0, 0)
  let r := rankOf c s x.flow x.len
  ({ re0 1 with pkt := (x.flow, x.id, x.len), rank := r.1 },
    { s with pk := s.pk + 1, by_ := s.by_ + x.len, own := Tab.upm s.own x.flow (o.1 + 1, o.2.1 + x.len, o.2.2), tags := r.2, bk := s.bk.push r.1 (x.flow, x.id, x.len) })
def deq (c : Cg) (s : St) : Re × St :=
 match s.bk.peek with
 | none => ({ re0 2 with code := 18 }, s)
 | some (r, p) =>
   if s.tok < p.2.2 then ({ re0 2 with code := 19 }, s)
   else
    let o := (s.own p.1).getD (0, 0, 0)
    ({ re0 2 with pkt := p, rank := r },
      { s with pk := s.pk - 1, by_ := s.by_ - p.2.2, own := Tab.upm s.own p.1 (o.1 - 1, o.2.1 - p.2.2, o.2.2), virt := if c.rank = 1 then r else s.virt, tok := s.tok - p.2.2, bk := s.bk.pop })
def known (k : Int) : Int := if k < 0 ∨ 5 < k then 0 else k
def doS (c : Cg) (s : St) (x : Op) : Re × St :=
 if known x.kind = 1 then enq c s x
 else if known x.kind = 2 then deq c s
 else if known x.kind = 3 then (re0 3, { s with now := min (s.now + x.ticks) mx, tok := min (min (s.tok + min (c.rate * x.ticks) mx) mx) c.burst })
 else if known x.kind = 4 then ({ re0 4 with now := s.now, tok := s.tok, pk := s.pk, by_ := s.by_, ref := s.ref }, s)
 else if known x.kind = 5 then ({ re0 5 with code := 2 }, refuse s 2)
 else ({ re0 0 with code := 1 }, refuse s 1)
def runS (c : Cg) : St → List Op → List Re × St
 | s, [] => ([], s)
 | s, x :: l => ((doS c s x).1 :: (runS c (doS c s x).2 l).1, (runS c (doS c s x).2 l).2)
/-- Whether a configuration may be: the error's number. -/
def twice : List Fl → Bool
 | [] => false
 | f :: l => l.any (fun g => g.id == f.id) || twice l
def chk (c : Cg) : Nat :=
 if c.rank < 1 ∨ 3 < c.rank ∨ c.back < 1 ∨ 3 < c.back then 22
 else if c.levels < 1 ∨ 3 < c.levels then 23
 else if c.queues < 1 ∨ 32 < c.queues then 24
 else if c.packets < 1 ∨ 4096 < c.packets ∨ c.bytes = 0 ∨ c.share < 0 ∨ 16 < c.share then 25
 else if mx / 2 ^ c.share.toNat < c.bytes then 25
 else if c.mtu < 1 ∨ 65535 < c.mtu then 26
 else if c.flows.length = 0 ∨ 64 < c.flows.length then 29
 else if twice c.flows then 30
 else if c.rate = 0 then 27
 else if c.burst < c.mtu then 28
 else 0
/-- A shaper at first. -/
def st0 (c : Cg) : St :=
 ⟨0, 0, fun id => (c.flows.find? (fun f => f.id == id)).map (fun f => (0, 0, f.cap)), c.flows.map (fun f => if c.rank = 3 then f.size else 0), 0, c.burst,
  if c.back = 3 then .qs c.queues.toNat (fun _ => 0) (fun _ => []) else .srt [], 0, z32⟩
end Go.Proofs.YtpgpjjkeginbbaaGreatDoor.Sh
namespace Go.Proofs.YtpgpjjkeginbbaaGreatDoor.Sh
open Cal (ins)
set_option linter.unusedSimpArgs false
theorem getD_set_eq {l : List Nat} {w v : Nat} (h : w < l.length) : (l.set w v).getD w 0 = v := by
 rw [List.getD_eq_getElem?_getD, List.getElem?_set_self h]; rfl
theorem getD_set_ne {l : List Nat} {w k v : Nat} (h : w ≠ k) : (l.set w v).getD k 0 = l.getD k 0 := by
 rw [List.getD_eq_getElem?_getD, List.getElem?_set_ne h, List.getD_eq_getElem?_getD]
theorem refuse_len (s : St) (y : Nat) : (refuse s y).ref.length = s.ref.length := by unfold refuse; simp
theorem runS_app (c : Cg) : ∀ (l m : List Op) (s : St), (runS c s (l ++ m)).1 = (runS c s l).1 ++ (runS c (runS c s l).2 m).1 ∧ (runS c s (l ++ m)).2 = (runS c (runS c s l).2 m).2
 | [], m, s => ⟨rfl, rfl⟩
 | x :: l, m, s => by
   obtain ⟨h1, h2⟩ := runS_app c l m (doS c s x).2
   exact ⟨by show (doS c s x).1 :: (runS c (doS c s x).2 (l ++ m)).1 = _; rw [h1]; rfl, h2⟩
end Go.Proofs.YtpgpjjkeginbbaaGreatDoor.Sh
namespace Go.Proofs.YtpgpjjkeginbbaaGreatDoor.Sh
open Cal (ins)
set_option linter.unusedSimpArgs false
/-- All that waits in the first k queues. -/
def flatQ (q : Nat → List (Nat × Pk)) : Nat → List (Nat × Pk)
 | 0 => []
 | k + 1 => flatQ q k ++ q k
/-- All that waits. -/
def Bk.flat (b : Bk) : List (Nat × Pk) := match b with
 | .srt M => M
 | .qs n _ q => flatQ q n
theorem flatQ_len (q : Nat → List (Nat × Pk)) : ∀ n, (flatQ q n).length = tot q n
 | 0 => rfl
 | n + 1 => by unfold flatQ tot; rw [List.length_append, flatQ_len q n]
theorem flatQ_far (q : Nat → List (Nat × Pk)) (i : Nat) (l : List (Nat × Pk)) : ∀ k, k ≤ i → flatQ (upd q i l) k = flatQ q k
 | 0, _ => rfl
 | k + 1, h => by unfold flatQ; rw [flatQ_far q i l k (by omega), upd_ne _ _ (by omega)]
theorem flatQ_perm {q : Nat → List (Nat × Pk)} {i : Nat} {l X : List (Nat × Pk)} : ∀ {n : Nat}, i < n → l.Perm (X ++ q i) → (flatQ (upd q i l) n).Perm (X ++ flatQ q n)
 | 0, h, _ => by omega
 | n + 1, h, hp => by
   unfold flatQ
   rcases Nat.lt_or_ge i n with h1 | h1
   · rw [upd_ne q l (show n ≠ i by omega)]
     have h2 := (flatQ_perm h1 hp).append_right (q n)
     rw [List.append_assoc] at h2
     exact h2
   · have : i = n := by omega
     subst this
     rw [flatQ_far q i l i (Nat.le_refl _), upd_at]
     have h2 := List.Perm.append_left (flatQ q i) hp
     refine h2.trans ?_
     rw [← List.append_assoc, ← List.append_assoc]
     exact (List.perm_append_comm).append_right _
theorem fstQ_some {q : Nat → List (Nat × Pk)} : ∀ {f k i : Nat}, fstQ q f k = some i → k ≤ i ∧ i < k + f ∧ (q i).length ≠ 0 ∧ ∀ j, k ≤ j → j < i → (q j).length = 0
 | 0, k, i, h => by cases h
 | f + 1, k, i, h => by
   unfold fstQ at h
   by_cases h0 : (q k).length = 0
   · rw [if_pos h0] at h
     obtain ⟨h1, h2, h3, h4⟩ := fstQ_some h
     refine ⟨by omega, by omega, h3, fun j hj1 hj2 => ?_⟩
     by_cases e : j = k
     · rw [e]; exact h0
     · exact h4 j (by omega) hj2
   · rw [if_neg h0] at h
     cases h
     exact ⟨Nat.le_refl _, by omega, h0, fun j h1 h2 => by omega⟩
theorem fstQ_none {q : Nat → List (Nat × Pk)} : ∀ {f k : Nat}, fstQ q f k = none → ∀ j, k ≤ j → j < k + f → (q j).length = 0
 | 0, k, _, j, h1, h2 => by omega
 | f + 1, k, h, j, h1, h2 => by
   unfold fstQ at h
   by_cases h0 : (q k).length = 0
   · rw [if_pos h0] at h
     by_cases e : j = k
     · rw [e]; exact h0
     · exact fstQ_none h j (by omega) (by omega)
   · rw [if_neg h0] at h; cases h
theorem ins_perm (r : Nat) (x : Pk) : ∀ M : List (Nat × Pk), (ins r x M).Perm ((r, x) :: M)
 | [] => List.Perm.refl _
 | a :: t => by
   unfold ins
   split
   · exact List.Perm.refl _
   · exact ((ins_perm r x t).cons a).trans (List.Perm.swap _ _ _)
/-- At least one queue. -/
def Bk.Fits (b : Bk) : Prop := match b with
 | .srt _ => True
 | .qs n bs _ => 0 < n ∧ n ≤ 32 ∧ Fit n bs
theorem Bk.push_flat {b : Bk} (h : b.Fits) (r : Nat) (p : Pk) : (b.push r p).flat.Perm ((r, p) :: b.flat) := by
 cases b with
 | srt M => exact ins_perm r p M
 | qs n bs q =>
   have hn : 0 < n := h.1
   have hp := pick_le bs r (n - 1)
   exact flatQ_perm (X := [(r, p)]) (show pick bs r (n - 1) < n by omega) List.perm_append_comm
theorem Bk.peek_flat {b : Bk} {r : Nat} {p : Pk} (h : b.peek = some (r, p)) : b.flat.Perm ((r, p) :: b.pop.flat) := by
 cases b with
 | srt M =>
   cases M with
   | nil => cases h
   | cons a t => cases h; exact List.Perm.refl _
 | qs n bs q =>
   unfold Bk.peek at h
   unfold Bk.pop
   dsimp only at h ⊢
   cases hf : fstQ q n 0 with
   | none => rw [hf] at h; cases h
   | some k =>
     rw [hf] at h
     dsimp only at h ⊢
     obtain ⟨_, h2, h3, _⟩ := fstQ_some hf
     cases hq : q k with
     | nil => rw [hq] at h; cases h
     | cons a t =>
       rw [hq] at h
       cases h
       have h4 := flatQ_perm (q := upd q k t) (i := k) (l := (r, p) :: t) (X := [(r, p)]) (n := n) (by omega) (by rw [upd_at]; exact List.Perm.refl _)
       have e : upd (upd q k t) k ((r, p) :: t) = q := by
        funext j
        by_cases ej : j = k
        · rw [ej, upd_at, hq]
        · rw [upd_ne _ _ ej, upd_ne _ _ ej]
       rw [e] at h4
       exact h4
theorem Bk.push_fits {b : Bk} (h : b.Fits) {r : Nat} (hr : r ≤ mx) (p : Pk) : (b.push r p).Fits := by
 cases b with
 | srt M => trivial
 | qs n bs q => exact ⟨h.1, h.2.1, h.2.2.pushed h.1 hr⟩
theorem Bk.pop_fits {b : Bk} (h : b.Fits) : b.pop.Fits := by
 cases b with
 | srt M => trivial
 | qs n bs q =>
   unfold Bk.pop
   dsimp only
   split
   · exact h
   · exact h
/-- What waits of a flow. -/
def cntF (id : Nat) (L : List (Nat × Pk)) : Nat := L.countP (fun x => x.2.1 == id)
def bytF (id : Nat) (L : List (Nat × Pk)) : Nat := ((L.filter (fun x => x.2.1 == id)).map (fun x => x.2.2.2)).sum
def sumB (L : List (Nat × Pk)) : Nat := (L.map (fun x => x.2.2.2)).sum
theorem cntF_perm {L M : List (Nat × Pk)} (h : L.Perm M) (id : Nat) : cntF id L = cntF id M := h.countP_eq _
theorem bytF_perm {L M : List (Nat × Pk)} (h : L.Perm M) (id : Nat) : bytF id L = bytF id M := ((h.filter _).map _).sum_nat
theorem sumB_perm {L M : List (Nat × Pk)} (h : L.Perm M) : sumB L = sumB M := (h.map _).sum_nat
theorem cntF_cons (id r : Nat) (p : Pk) (L : List (Nat × Pk)) : cntF id ((r, p) :: L) = cntF id L + if p.1 = id then 1 else 0 := by
 unfold cntF
 rw [List.countP_cons]
 by_cases e : p.1 = id
 · simp [e]
 · simp [e]
theorem bytF_cons (id r : Nat) (p : Pk) (L : List (Nat × Pk)) : bytF id ((r, p) :: L) = bytF id L + if p.1 = id then p.2.2 else 0 := by
 unfold bytF
 by_cases e : p.1 = id
 · rw [List.filter_cons_of_pos (by simpa using e), List.map_cons, List.sum_cons, if_pos e]; exact Nat.add_comm _ _
 · rw [List.filter_cons_of_neg (by simpa using e), if_neg e]; omega
theorem sumB_cons (r : Nat) (p : Pk) (L : List (Nat × Pk)) : sumB ((r, p) :: L) = sumB L + p.2.2 := by
 unfold sumB
 rw [List.map_cons, List.sum_cons]; exact Nat.add_comm _ _
theorem bytF_le (id : Nat) (L : List (Nat × Pk)) : bytF id L ≤ sumB L := by
 induction L with
 | nil => exact Nat.le_refl _
 | cons a L ih =>
   obtain ⟨r, p⟩ := a
   rw [bytF_cons, sumB_cons]
   split <;> omega
/-- A flow of an id. -/
def flow? (c : Cg) (id : Nat) : Option Fl := c.flows.find? (fun f => f.id == id)
/-- What is true of a shaper. -/
structure Good (c : Cg) (s : St) : Prop where
 own : ∀ id, s.own id = (flow? c id).map (fun f => (cntF id s.bk.flat, bytF id s.bk.flat, f.cap))
 pk : s.pk = s.bk.flat.length
 pkl : (s.pk : Int) ≤ c.packets
 by1 : s.by_ = sumB s.bk.flat
 by2 : s.by_ ≤ c.bytes
 mem : ∀ x ∈ s.bk.flat, x.1 ≤ mx ∧ x.2.1 < 4294967296 ∧ x.2.2.1 < 4294967296 ∧ 1 ≤ x.2.2.2 ∧ x.2.2.2 ≤ 65535 ∧ (flow? c x.2.1).isSome = true
 tl : s.tags.length = c.flows.length
 tg : ∀ t ∈ s.tags, t ≤ mx
 vt : s.virt ≤ mx
 tk : s.tok ≤ c.burst
 nw : s.now ≤ mx
 rl : s.ref.length = 32
 rb : ∀ x ∈ s.ref, x ≤ mx
 ft : s.bk.Fits
/-- What is true of a configuration that may be. -/
structure Cok (c : Cg) : Prop where
 k0 : chk c = 0
 by_ : c.bytes ≤ mx
 rate : c.rate ≤ mx
 burst : c.burst ≤ mx
 mtu : c.mtu ≤ 65535
 pk : 1 ≤ c.packets ∧ c.packets ≤ 4096
 fl : ∀ f ∈ c.flows, f.id < 4294967296 ∧ f.cost ≤ mx ∧ f.budget ≤ mx ∧ f.size ≤ mx ∧ f.cap ≤ mx
def Op.Ok (x : Op) : Prop := x.flow < 4294967296 ∧ x.id < 4294967296 ∧ x.len ≤ mx ∧ x.ticks ≤ mx
theorem set_le {l : List Nat} {i v B : Nat} (h : ∀ t ∈ l, t ≤ B) (hv : v ≤ B) : ∀ t ∈ l.set i v, t ≤ B := fun t ht => (List.mem_or_eq_of_mem_set ht).elim (h t) (fun e => by rw [e]; exact hv)
theorem getD_le {l : List Nat} {i B : Nat} (h : ∀ t ∈ l, t ≤ B) : l.getD i 0 ≤ B := by
 rw [List.getD_eq_getElem?_getD]
 cases e : l[i]? with
 | none => exact Nat.zero_le _
 | some t => exact h t (List.mem_of_getElem? e)
theorem Good.refuse {c : Cg} {s : St} (h : Good c s) (y : Nat) : Good c (refuse s y) :=
 { h with rl := by rw [refuse_len]; exact h.rl, rb := set_le h.rb (Nat.min_le_right _ _) }
theorem rankOf_le {c : Cg} {s : St} (h : Good c s) (id n : Nat) : (rankOf c s id n).1 ≤ mx ∧ (rankOf c s id n).2.length = s.tags.length ∧ ∀ t ∈ (rankOf c s id n).2, t ≤ mx := by
 unfold rankOf
 split
 · exact ⟨Nat.zero_le _, rfl, h.tg⟩
 · rename_i at_ _
   dsimp only
   have h1 := getD_le (i := at_) h.tg
   have h2 := h.vt
   split
   · exact ⟨Nat.max_le.2 ⟨h2, h1⟩, List.length_set, set_le h.tg (Nat.min_le_right _ _)⟩
   · split
     · exact ⟨Nat.min_le_right _ _, rfl, h.tg⟩
     · exact ⟨h1, List.length_set, set_le h.tg (by omega)⟩
theorem mayIn_ok {c : Cg} {s : St} {id n : Nat} (h : mayIn c s id n = 0) : n ≠ 0 ∧ n ≤ c.mtu ∧ ∃ p b m, s.own id = some (p, b, m) ∧ (s.pk : Int) < c.packets ∧ n ≤ c.bytes - s.by_ := by
 unfold mayIn at h
 split at h
 · cases h
 · rename_i h0
   split at h
   · cases h
   · rename_i p b m ho
     split at h
     · cases h
     · rename_i h1
       split at h
       · cases h
       · rename_i h2
         exact ⟨by omega, by omega, p, b, m, ho, by omega, by omega⟩
theorem Good.enq {c : Cg} {s : St} {x : Op} (h : Good c s) (hc : Cok c) (hx : x.Ok) : Good c (enq c s x).2 := by
 unfold Sh.enq
 dsimp only
 split
 · exact h.refuse _
 · rename_i hw
   obtain ⟨h0, h1, p, b, m, ho, h2, h3⟩ := mayIn_ok (Classical.not_not.1 hw)
   obtain ⟨r1, r2, r3⟩ := rankOf_le h x.flow x.len
   have hp := Bk.push_flat h.ft (rankOf c s x.flow x.len).1 (x.flow, x.id, x.len)
   have hown := h.own x.flow
   rw [ho] at hown
   obtain ⟨f, hf⟩ : ∃ f, flow? c x.flow = some f := by
    cases hf : flow? c x.flow with
    | none => rw [hf] at hown; cases hown
    | some f => exact ⟨f, rfl⟩
   rw [hf] at hown
   obtain ⟨rfl, rfl, rfl⟩ : p = cntF x.flow s.bk.flat ∧ b = bytF x.flow s.bk.flat ∧ m = f.cap := by cases hown; exact ⟨rfl, rfl, rfl⟩
   have hb2 := h.by2
   have hmt := hc.mtu
   refine ⟨fun id => ?_, ?_, ?_, ?_, ?_, fun y hy => ?_, r2.trans h.tl, r3, h.vt, h.tk, h.nw, h.rl, h.rb, Bk.push_fits h.ft r1 _⟩
   · show Tab.upm s.own x.flow _ id = _
     unfold Tab.upm
     rw [cntF_perm hp, bytF_perm hp, cntF_cons, bytF_cons, ho]
     by_cases e : id = x.flow
     · subst e
       rw [if_pos rfl, hf, if_pos rfl, if_pos rfl]
       rfl
     · rw [if_neg e, if_neg (fun h => e h.symm), if_neg (fun h => e h.symm), Nat.add_zero, Nat.add_zero]
       exact h.own id
   · show s.pk + 1 = _
     rw [hp.length_eq, List.length_cons, h.pk]
   · show ((s.pk + 1 : Nat) : Int) ≤ c.packets
     omega
   · show s.by_ + x.len = _
     rw [sumB_perm hp, sumB_cons, h.by1]
   · show s.by_ + x.len ≤ _
     omega
   · rcases List.mem_cons.1 (hp.mem_iff.1 hy) with rfl | hy
     · exact ⟨r1, hx.1, hx.2.1, by show 1 ≤ x.len; omega, by show x.len ≤ 65535; omega, by rw [hf]; rfl⟩
     · exact h.mem y hy
theorem Good.deq {c : Cg} {s : St} (h : Good c s) : Good c (deq c s).2 := by
 unfold Sh.deq
 split
 · exact h
 · rename_i r p hpk
   split
   · exact h
   · have hp := Bk.peek_flat hpk
     have hm := h.mem (r, p) (hp.mem_iff.2 (List.mem_cons_self ..))
     obtain ⟨f, hf⟩ := Option.isSome_iff_exists.1 hm.2.2.2.2.2
     have hown := h.own p.1
     dsimp only at hf
     rw [hf] at hown
     have hown2 : s.own p.1 = some (cntF p.1 s.bk.flat, bytF p.1 s.bk.flat, f.cap) := hown
     have hpkn := h.pk
     have hby := h.by1
     rw [hp.length_eq, List.length_cons] at hpkn
     rw [sumB_perm hp, sumB_cons] at hby
     refine ⟨fun id => ?_, ?_, ?_, ?_, ?_, fun y hy => h.mem y (hp.mem_iff.2 (List.mem_cons_of_mem _ hy)), h.tl, h.tg, ?_, Nat.le_trans (Nat.sub_le _ _) h.tk, h.nw, h.rl, h.rb, Bk.pop_fits h.ft⟩
     · show Tab.upm s.own p.1 _ id = _
       unfold Tab.upm
       by_cases e : id = p.1
       · subst e
         rw [if_pos rfl, hf, hown2]
         show some (cntF _ s.bk.flat - 1, bytF _ s.bk.flat - p.2.2, f.cap) = _
         rw [cntF_perm hp, bytF_perm hp, cntF_cons, bytF_cons, if_pos rfl, if_pos rfl, Nat.add_sub_cancel, Nat.add_sub_cancel]
         rfl
       · rw [if_neg e, h.own id, cntF_perm hp, bytF_perm hp, cntF_cons, bytF_cons, if_neg (fun h => e h.symm), if_neg (fun h => e h.symm)]
         rfl
     · show s.pk - 1 = s.bk.pop.flat.length
       omega
     · show ((s.pk - 1 : Nat) : Int) ≤ c.packets
       have := h.pkl
       omega
     · show s.by_ - p.2.2 = sumB s.bk.pop.flat
       omega
     · show s.by_ - p.2.2 ≤ c.bytes
       have := h.by2
       omega
     · show (if c.rank = 1 then r else s.virt) ≤ mx
       split
       · exact hm.1
       · exact h.vt
theorem Good.doS {c : Cg} {s : St} {x : Op} (h : Good c s) (hc : Cok c) (hx : x.Ok) : Good c (doS c s x).2 := by
 unfold Sh.doS
 split
 · exact h.enq hc hx
 · split
   · exact h.deq
   · split
     · exact { h with tk := Nat.min_le_right _ _, nw := Nat.min_le_right _ _ }
     · split
       · exact h
       · split
         · exact h.refuse _
         · exact h.refuse _
theorem flatQ_nil : ∀ n, flatQ (fun _ => []) n = []
 | 0 => rfl
 | n + 1 => by unfold flatQ; rw [flatQ_nil n]; rfl
theorem good_st0 {c : Cg} (hc : Cok c) (hq : 1 ≤ c.queues ∧ c.queues ≤ 32) : Good c (st0 c) := by
 have hfl : (st0 c).bk.flat = [] := by
  unfold st0
  dsimp only
  split
  · exact flatQ_nil _
  · rfl
 have hpk := hc.pk
 refine ⟨(fun id => ?_), (by rw [hfl]; rfl), (by show (0 : Int) ≤ c.packets; omega), (by rw [hfl]; rfl), Nat.zero_le _, (fun y hy => by rw [hfl] at hy; cases hy), List.length_map .., (fun t ht => ?_), Nat.zero_le _, Nat.le_refl _, Nat.zero_le _, rfl, (fun y hy => ?_), ?_⟩
 · rw [hfl]; rfl
 · obtain ⟨f, hf, rfl⟩ := List.mem_map.1 ht
   split
   · exact (hc.fl f hf).2.2.2.1
   · exact Nat.zero_le _
 · obtain rfl := List.eq_of_mem_replicate hy
   exact Nat.zero_le _
 · show Bk.Fits (if c.back = 3 then _ else _)
   split
   · exact ⟨by omega, by omega, fun _ _ _ _ => Nat.le_refl _, fun _ _ => Nat.zero_le _⟩
   · trivial
end Go.Proofs.YtpgpjjkeginbbaaGreatDoor.Sh
namespace Go.Proofs.YtpgpjjkeginbbaaGreatDoor.Sh
open Cal (ins)
set_option linter.unusedSimpArgs false
/-- The state behind the first i operations. -/
def stA (c : Cg) (s : St) (l : List Op) (i : Nat) : St := (runS c s (l.take i)).2
theorem Good.run {c : Cg} (hc : Cok c) : ∀ {l : List Op} {s : St}, Good c s → (∀ x ∈ l, x.Ok) → Good c (runS c s l).2
 | [], _, h, _ => h
 | x :: l, _, h, hx => Good.run hc (l := l) (h.doS hc (hx x (List.mem_cons_self ..))) (fun y hy => hx y (List.mem_cons_of_mem _ hy))
theorem Good.at_ {c : Cg} (hc : Cok c) {l : List Op} {s : St} (h : Good c s) (hx : ∀ x ∈ l, x.Ok) (i : Nat) : Good c (stA c s l i) := h.run hc (fun x hm => hx x (List.mem_of_mem_take hm))
/-- What waits, of one queue. -/
def Bk.one (b : Bk) : List (Nat × Pk) := match b with
 | .srt M => M
 | .qs _ _ q => q 0
end Go.Proofs.YtpgpjjkeginbbaaGreatDoor.Sh

