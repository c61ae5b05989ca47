/- A region that draws its order: stages of quiet operations (they only read) and of operations with an effect, in a forced order: one walk of one order serves every order. No program in sight. -/
import Derived.Deep.Quiet
import Derived.StillTail
import Derived.WalkKit
namespace Go.Proofs.YtjbaibnmbeabnaaGreatDoor
open Go

/-- A callee's contract met in a quiet walk, where the world's draws are already a sum. -/
theorem quiet_more {P : Program} {f : FuncId} {args : Array Value} {w : World} {a n : Nat} {v : Value}
    (h : Calls P f args (w.drewN (a + n)) fun e w' => e = .returned v ∧ ∃ m, w' = (w.drewN (a + n)).drewN m) : Calls P f args (w.drewN (a + n)) fun e w'' => e = .returned v ∧ ∃ m, w'' = w.drewN (a + m) :=
  h.mono fun _ _ ⟨he, m, hm⟩ => ⟨he, n + m, by rw [hm, World.drewN_drewN, Nat.add_assoc]⟩
theorem quiet_more_same {P : Program} {f : FuncId} {args : Array Value} {w : World} {a n : Nat} {v : Value}
    (h : Calls P f args (w.drewN (a + n)) fun e w' => e = .returned v ∧ w.drewN (a + n) = w') : Calls P f args (w.drewN (a + n)) fun e w'' => e = .returned v ∧ ∃ m, w'' = w.drewN (a + m) :=
  h.mono fun _ _ ⟨he, hm⟩ => ⟨he, n, hm.symm⟩
theorem quiet_same {P : Program} {f : FuncId} {args : Array Value} {w : World} {n : Nat} {v : Value}
    (h : Calls P f args (w.drewN n) fun e w' => e = .returned v ∧ w.drewN n = w') : Calls P f args (w.drewN n) fun e w'' => e = .returned v ∧ ∃ m, w'' = w.drewN m :=
  h.mono fun _ _ ⟨he, hm⟩ => ⟨he, n, hm.symm⟩

/-- The world after some draws. -/
def After (w : World) : World → Prop := fun w' => ∃ n, w' = w.drewN n
theorem After.self (w : World) : After w w := ⟨0, rfl⟩

/-- Behind a stage: the next one; no way out by a panic. -/
def Stage (K : Act → World → Prop) (Q : Exit → Act → World → Prop) : Exit → Act → World → Prop
  | .normal, a, w => K a w
  | .panic _, _, _ => False
  | e, a, w => Q e a w

def picked (ops : Array Oper) (l : List Nat) : List Oper := l.filterMap (ops[·]?)

def wpStages (P : Program) (ops : Array Oper) (Q : Exit → Act → World → Prop) : List (List Nat × List Nat) → Act → World → Prop
  | [], a, w => Q .normal a w
  | s :: r, a, w => wpQuiet P ops (fun w' => ∃ n, w' = w.drewN n) (fun a' => ∀ w', (∃ n, w' = w.drewN n) → wpList P ops (Stage (wpStages P ops Q r) Q) (picked ops s.2) a' w') (picked ops s.1) a

/-- Whether j cannot come up before i. -/
def needs (md : Region.Mode) (ops : Array Oper) : Nat → Nat → Nat → Bool
  | 0, _, _ => false
  | n + 1, j, i => match ops[j]? with
    | some oj => oj.after.any fun e => Region.binds md e && (e.on == i || needs md ops n e.on i)
    | none => false

def isMove (o : Oper) : Bool := match o.op with | .move _ => true | _ => false

/-- The static look at one quiet operation. -/
def quietOk (ops : Array Oper) (effs : List Nat) (listed : Array Bool) (i : Nat) : Bool :=
  (Region.ready .any ops listed).contains i && !effs.contains i && Region.free .any ops listed i &&
    (((ops[i]?).map isMove).getD false || effs.all fun j => listed.getD j true || needs .any ops ops.size j i)

def headOk (ops : Array Oper) (effs : List Nat) : List Nat → Array Bool → Option (Array Bool)
  | [], listed => some listed
  | i :: r, listed => if quietOk ops effs listed i then headOk ops effs r (listed.setIfInBounds i true) else none

def tailOk (ops : Array Oper) : List Nat → Array Bool → Option (Array Bool)
  | [], listed => some listed
  | i :: r, listed => if Region.ready .any ops listed = [i] then tailOk ops r (listed.setIfInBounds i true) else none

def stagesOk (ops : Array Oper) (effs : List Nat) : List (List Nat × List Nat) → Array Bool → Bool
  | [], listed => (Region.ready .any ops listed).isEmpty
  | s :: r, listed => match headOk ops effs s.1 listed with
    | none => false
    | some l1 => s.2.all effs.contains && match tailOk ops s.2 l1 with
      | none => false
      | some l2 => stagesOk ops effs r l2

def mixB (ops : Array Oper) (ss : List (List Nat × List Nat)) : Bool :=
  Region.noSelect ops && stagesOk ops (ss.flatMap (·.2)) ss (Array.replicate ops.size false)

section
variable {P : Program} {ops : Array Oper} {Q : Exit → Act → World → Prop} {effs : List Nat}

/-- The very world, or the world after some draws. -/
def Kind (e : Bool) (w : World) : World → Prop := fun w' => if e then w' = w else After w w'
theorem Kind.after {e : Bool} {w w' : World} (h : Kind e w w') : After w w' := by
  cases e
  · exact h
  · have : w' = w := h
    subst this; exact After.self _
theorem Kind.self (e : Bool) (w : World) : Kind e w w := by
  cases e
  · exact After.self w
  · exact (rfl : w = w)
/-- A move leaves the very world. -/
def flagAt (ops : Array Oper) (i : Nat) (e : Bool) : Bool := ((ops[i]?).map isMove).getD true && e
theorem flagAt_comm (ops : Array Oper) (i j : Nat) (e : Bool) : flagAt ops i (flagAt ops j e) = flagAt ops j (flagAt ops i e) := by
  unfold flagAt; rw [← Bool.and_assoc, ← Bool.and_assoc, Bool.and_comm (((ops[i]?).map isMove).getD true)]

def NoFall (Q : Exit → Act → World → Prop) : Exit → Act → World → Prop
  | .panic _, _, _ => False
  | e, a, w => Q e a w

/-- Whatever order is picked from here on: the quiet ones seen in the world after some draws. -/
def wpAnyX (P : Program) (ops : Array Oper) (Q : Exit → Act → World → Prop) (effs : List Nat) : Nat → Array Bool → Act → World → Bool → Prop
  | 0, listed, a, w, e => Region.ready .any ops listed = [] ∧ ∀ w', Kind e w w' → Q .normal a w'
  | fuel + 1, listed, a, w, e => (Region.ready .any ops listed = [] → ∀ w', Kind e w w' → Q .normal a w') ∧
    ∀ i ∈ Region.ready .any ops listed,
      (i ∈ effs → ∀ w', Kind e w w' → wpOp P ops (NoFall Q) i (fun a' w'' => wpAnyX P ops Q effs fuel (listed.setIfInBounds i true) a' w'' true) a w') ∧
      (i ∉ effs → qOp P ops (After w) i (fun a' => wpAnyX P ops Q effs fuel (listed.setIfInBounds i true) a' w (flagAt ops i e)) a)

theorem wpOp_noFall {i : Nat} {K : Act → World → Prop} {a : Act} {w : World} (h : wpOp P ops (NoFall Q) i K a w) : wpOp P ops Q i K a w := by
  have hq : ∀ e a w, NoFall Q e a w → Q e a w := fun e a w h => by cases e <;> first | exact h | exact (h : False).elim
  unfold wpOp at *
  split
  · rename_i ho; simpa [ho] using h
  · rename_i o ho
    simp only [ho] at h
    split
    · rename_i hw
      simp only [hw, if_true] at h
      rcases h with h | ⟨h1, a0, w0, h2⟩
      · refine .inl ?_
        unfold Oper.wp at *
        generalize (execOp a.eval o).run P w = r at *
        cases r with
        | ok n w' =>
          cases n <;> simp only [Oper.upon] at h ⊢ <;>
          first
            | exact h
            | (refine Calls.mono h fun e w'' he => ?_
               cases e with
               | returned v => exact he
               | panicked c => exact (he : False).elim
               | outgrown => obtain ⟨a1, w1, h1⟩ := he; exact ⟨a1, w1, h1⟩)
        | halt x w' => cases x <;> simp only [Oper.upon] at h ⊢ <;> exact (h : False).elim
      · exact .inr ⟨h1, a0, w0, h2⟩
    · rename_i hw; simp only [hw] at h; exact h

theorem yields_of_move {o : Oper} {v : Value} {a : Act} {w : World} (hm : isMove o = true) (h : YieldsIn P ops (After w) o v a) : Yields P ops o v a := by
  rcases h with ⟨h1, h2⟩ | h
  · refine .inl ⟨h1, fun w' => ?_⟩
    have h3 := h2 w (After.self w)
    unfold Oper.quietAt at h3
    unfold isMove at hm
    split at hm
    · rename_i x hx
      simp only [execOp, hx] at h3 ⊢
      have e1 : ∀ w : World, Sem.run P (do let y ← (pure (a.eval x) : Sem Value); pure (Next.value y)) w = .ok (.value (a.eval x)) w := fun _ => rfl
      first
        | (have h4 : a.eval x = v := by simpa [Oper.quietUpon, Sem.run, execOp] using h3
           subst h4; rfl)
    · cases hm
  · exact .inr h

theorem wpAny_of_X : ∀ (fuel : Nat) (listed : Array Bool) (a : Act) (w w' : World) (e : Bool), Kind e w w' → wpAnyX P ops Q effs fuel listed a w e → wpAny P .any ops Q fuel listed a w'
  | 0, _, _, _, _, _, hw, h => ⟨h.1, h.2 _ hw⟩
  | fuel + 1, listed, a, w, w', e, hw, h => by
    refine ⟨fun h0 => h.1 h0 _ hw, fun i hi => ?_⟩
    obtain ⟨h1, h2⟩ := h.2 i hi
    by_cases hm : i ∈ effs
    · exact wpOp_noFall (wpOp_mono (fun a' w'' h3 => wpAny_of_X fuel _ a' w'' w'' true (Kind.self _ _) h3) (h1 hm _ hw))
    · have hq := h2 hm
      by_cases hv : flagAt ops i e = true
      · rw [hv] at hq
        unfold flagAt at hv
        simp only [Bool.and_eq_true] at hv
        cases ho : ops[i]? with
        | none => 
          unfold qOp at hq; unfold wpOp
          simp only [ho] at hq ⊢
          have he : e = true := hv.2
          subst he
          have : w' = w := hw
          subst this
          exact wpAny_of_X fuel _ a w' w' true (Kind.self _ _) hq
        | some o =>
          have hmv : isMove o = true := by simpa [ho] using hv.1
          obtain ⟨v, hy, hk⟩ := yieldsIn_of_qOp ho hq
          have he : e = true := hv.2
          subst he
          have : w' = w := hw
          subst this
          exact (yields_of_move hmv hy).wpOp ho (wpAny_of_X fuel _ _ w' w' true (Kind.self _ _) hk)
      · have hv' : flagAt ops i e = false := by simpa using hv
        rw [hv'] at hq
        exact wpOp_of_qOp (C := After w) hw.after (fun a' w'' hw'' h3 => wpAny_of_X fuel _ a' w w'' false hw'' h3) hq

structure Closed (ops : Array Oper) (listed : Array Bool) : Prop where
  size : listed.size = ops.size
  closed : ∀ j oj, ops[j]? = some oj → listed.getD j false = true → ∀ e ∈ oj.after, Region.binds .any e = true → listed.getD e.on false = true

theorem Closed.start : Closed ops (Array.replicate ops.size false) :=
  ⟨by simp, fun j oj _ h => by rw [getD_replicate_false] at h; cases h⟩

theorem Closed.set {listed : Array Bool} {i : Nat} (c : Closed ops listed) (hi : i ∈ Region.ready .any ops listed) : Closed ops (listed.setIfInBounds i true) := by
  obtain ⟨_, oi, hoi, hall⟩ := mem_ready.1 hi
  refine ⟨by simp [c.size], fun j oj hj hl e he hb => ?_⟩
  by_cases hij : i = j
  · subst hij
    have : oj = oi := Option.some.inj (hj.symm.trans hoi)
    subst this
    exact getD_set_true (hall e he hb)
  · rw [getD_set_ne false hij] at hl
    exact getD_set_true (c.closed j oj hj hl e he hb)

theorem needs_open {listed : Array Bool} (c : Closed ops listed) {i : Nat} (hi : listed.getD i false = false) : ∀ (n j : Nat), needs .any ops n j i = true →
    ∃ oj, ops[j]? = some oj ∧ ∃ e ∈ oj.after, Region.binds .any e = true ∧ listed.getD e.on false = false := by
  intro n
  induction n with
  | zero => intro j h; simp [needs] at h
  | succ n ih =>
    intro j h
    unfold needs at h
    split at h
    · rename_i oj hj
      obtain ⟨e, he, hb⟩ := Array.any_eq_true'.1 h
      simp only [Bool.and_eq_true, Bool.or_eq_true, beq_iff_eq] at hb
      refine ⟨oj, hj, e, he, hb.1, ?_⟩
      rcases hb.2 with h2 | h2
      · rw [h2]; exact hi
      · obtain ⟨ok, hk, e', he', hb', hl'⟩ := ih e.on h2
        cases hl : listed.getD e.on false
        · rfl
        · have := c.closed e.on ok hk hl e' he' hb'
          rw [hl'] at this; cases this
    · cases h

theorem not_ready_of_needs {listed : Array Bool} (c : Closed ops listed) {i j n : Nat} (hi : listed.getD i false = false) (h : needs .any ops n j i = true) : j ∉ Region.ready .any ops listed := by
  intro hr
  obtain ⟨oj, hj, e, he, hb, hl⟩ := needs_open c hi n j h
  obtain ⟨_, ok, hk, hall⟩ := mem_ready.1 hr
  have : oj = ok := Option.some.inj (hj.symm.trans hk)
  subst this
  rw [hall e he hb] at hl; cases hl

/-- A quiet operation that may come up now may be taken first. -/
theorem wpAnyX_first {i : Nat} {oi : Oper} {v : Value} (hi : ops[i]? = some oi) (hne : i ∉ effs) (hsel : ∀ (j : Nat) (o : Oper) cs b, ops[j]? = some o → o.op ≠ .select cs b) :
    ∀ (fuel : Nat) (listed : Array Bool) (a : Act) (w : World) (e : Bool), Closed ops listed →
      (∀ j oj, ops[j]? = some oj → j ≠ i → listed.getD j true = false → (∀ e ∈ oj.after, Region.binds .any e = true → e.on ≠ i) → oi.apart ops oj = true) →
      (isMove oi = true ∨ ∀ j ∈ effs, listed.getD j true = true ∨ needs .any ops ops.size j i = true) →
      i ∈ Region.ready .any ops listed → YieldsIn P ops (After w) oi v a →
      wpAnyX P ops Q effs fuel (listed.setIfInBounds i true) (a.put oi.dst v) w (flagAt ops i e) → wpAnyX P ops Q effs (fuel + 1) listed a w e := by
  intro fuel
  induction fuel with
  | zero =>
    intro listed a w e hc _ _ hr hy H
    refine ⟨fun h => (by rw [h] at hr; cases hr), fun j hj => ?_⟩
    by_cases hji : j = i
    · subst hji; exact ⟨fun hm => absurd hm hne, fun _ => hy.qOp hi H⟩
    · have := ready_mono hj hji
      rw [H.1] at this
      cases this
  | succ fuel ih =>
    intro listed a w e hc hfree hneed hr hy H
    refine ⟨fun h => (by rw [h] at hr; cases hr), fun j hj => ?_⟩
    by_cases hji : j = i
    · subst hji; exact ⟨fun hm => absurd hm hne, fun _ => hy.qOp hi H⟩
    · obtain ⟨g1, g2⟩ := H.2 j (ready_mono hj hji)
      obtain ⟨hjun, oj, hoj, hall⟩ := mem_ready.1 hj
      have hiun := (mem_ready.1 hr).1
      have hnot : ∀ e ∈ oj.after, Region.binds .any e = true → e.on ≠ i := fun e he hb heq => by
        have h1 := hall e he hb
        rw [heq, getD_both hiun] at h1; cases h1
      have hfree' : ∀ k ok, ops[k]? = some ok → k ≠ i → (listed.setIfInBounds j true).getD k true = false →
          (∀ e ∈ ok.after, Region.binds .any e = true → e.on ≠ i) → oi.apart ops ok = true := fun k ok hk hki hun hno => by
        refine hfree k ok hk hki ?_ hno
        by_cases hjk : j = k
        · subst hjk; exact hjun
        · rw [getD_set_ne true hjk] at hun; exact hun
      have hneed' : isMove oi = true ∨ ∀ k ∈ effs, (listed.setIfInBounds j true).getD k true = true ∨ needs .any ops ops.size k i = true := by
        rcases hneed with h | h
        · exact .inl h
        · refine .inr fun k hk => ?_
          rcases h k hk with h2 | h2
          · refine .inl ?_
            by_cases hjk : j = k
            · subst hjk; rw [h2] at hjun; cases hjun
            · rw [getD_set_ne true hjk]; exact h2
          · exact .inr h2
      refine ⟨fun hm w' hw' => ?_, fun hm => ?_⟩
      · rcases hneed with hmv | hnd
        · have hfl : flagAt ops i e = e := by unfold flagAt; simp [hi, hmv]
          have hfl' : flagAt ops i true = true := by unfold flagAt; simp [hi, hmv]
          rw [hfl] at g1
          have h1 := g1 hm w' hw'
          have h2 := wpOp_put hoj (hfree j oj hoj hji hjun hnot) (fun cs b => hsel i oi cs b hi) (fun cs b => hsel j oj cs b hoj) (fun _ _ _ h => h) (yields_of_move hmv hy) h1
          refine wpOp_mono (fun a' w'' h3 => ih (listed.setIfInBounds j true) a' w'' true (hc.set hj) hfree' hneed' (ready_mono hr (Ne.symm hji)) ?_ ?_) h2
          · rcases h3.1 with ⟨y1, y2⟩ | y
            · exact .inl ⟨y1, fun u _ => by unfold Oper.quietAt; rw [y2 u]; exact ⟨rfl, rfl⟩⟩
            · exact .inr y
          · rw [Array.setIfInBounds_comm _ _ hji, hfl']
            exact h3.2
        · rcases hnd j hm with h2 | h2
          · rw [h2] at hjun; cases hjun
          · exact absurd hj (not_ready_of_needs hc (getD_both hiun) h2)
      · have h1 := g2 hm
        have h2 := qOp_put hoj (hfree j oj hoj hji hjun hnot) (fun cs b => hsel i oi cs b hi) (fun cs b => hsel j oj cs b hoj) hy h1
        refine qOp_mono (fun a' h3 => ih (listed.setIfInBounds j true) a' w _ (hc.set hj) hfree' hneed' (ready_mono hr (Ne.symm hji)) h3.1 ?_) h2
        rw [Array.setIfInBounds_comm _ _ hji, flagAt_comm]
        exact h3.2

theorem ready_some {listed : Array Bool} {i : Nat} (h : i ∈ Region.ready .any ops listed) : ∃ o, ops[i]? = some o := by
  obtain ⟨_, o, ho, _⟩ := mem_ready.1 h; exact ⟨o, ho⟩

theorem head_walk (hsel : Region.noSelect ops = true) {w : World} {R : Act → Prop} {fuel : Nat} : ∀ (l : List Nat) (listed l1 : Array Bool) (a : Act) (e : Bool), Closed ops listed →
    headOk ops effs l listed = some l1 → (Closed ops l1 → ∀ a e, R a → wpAnyX P ops Q effs fuel l1 a w e) → wpQuiet P ops (After w) R (picked ops l) a → wpAnyX P ops Q effs (l.length + fuel) listed a w e
  | [], listed, l1, a, e, hc, hB, hR, h => by
    simp only [headOk, Option.some.injEq] at hB; subst hB
    simpa using hR hc a e h
  | i :: r, listed, l1, a, e, hc, hB, hR, h => by
    unfold headOk at hB
    split at hB
    · rename_i hq
      unfold quietOk at hq
      simp only [Bool.and_eq_true, Bool.not_eq_true'] at hq
      obtain ⟨⟨⟨q1, q2⟩, q3⟩, q4⟩ := hq
      have hr : i ∈ Region.ready .any ops listed := by simpa using q1
      obtain ⟨oi, hi⟩ := ready_some hr
      have hp : picked ops (i :: r) = oi :: picked ops r := by simp [picked, hi]
      rw [hp] at h
      have hst : qOp P ops (After w) i (wpQuiet P ops (After w) R (picked ops r)) a := by unfold qOp; simp only [hi]; exact h
      obtain ⟨v, hy, hK⟩ := yieldsIn_of_qOp hi hst
      have hlen : (i :: r).length + fuel = (r.length + fuel) + 1 := by simp only [List.length_cons]; omega
      rw [hlen]
      refine wpAnyX_first hi (by simpa using q2) (Region.noSelect_spec hsel) _ listed a w e hc (Region.free_spec hi q3) ?_ hr hy (head_walk hsel r _ l1 _ _ (hc.set hr) hB hR hK)
      rw [hi] at q4
      simp only [Option.map_some, Option.getD_some, Bool.or_eq_true, List.all_eq_true] at q4
      exact q4
    · cases hB

theorem tail_walk {K : Act → World → Prop} {fuel : Nat} (hK : ∀ a w, K a w → True) : ∀ (l : List Nat) (listed l1 : Array Bool) (a : Act) (w : World) (e : Bool), Closed ops listed →
    (∀ i ∈ l, i ∈ effs) → tailOk ops l listed = some l1 → (Closed ops l1 → ∀ a w e, (∀ w', Kind e w w' → K a w') → wpAnyX P ops Q effs fuel l1 a w e) →
    (∀ w', Kind e w w' → wpList P ops (Stage K Q) (picked ops l) a w') → wpAnyX P ops Q effs (l.length + fuel) listed a w e
  | [], listed, l1, a, w, e, hc, _, hB, hR, h => by
    simp only [tailOk, Option.some.injEq] at hB; subst hB
    simpa using hR hc a w e h
  | i :: r, listed, l1, a, w, e, hc, hin, hB, hR, h => by
    unfold tailOk at hB
    split at hB
    · rename_i hq
      have hr : i ∈ Region.ready .any ops listed := by rw [hq]; exact List.mem_singleton.2 rfl
      obtain ⟨oi, hi⟩ := ready_some hr
      have hp : picked ops (i :: r) = oi :: picked ops r := by simp [picked, hi]
      rw [hp] at h
      have hlen : (i :: r).length + fuel = (r.length + fuel) + 1 := by simp only [List.length_cons]; omega
      rw [hlen]
      refine ⟨fun h0 => (by rw [h0] at hr; cases hr), fun j hj => ?_⟩
      rw [hq] at hj
      obtain rfl : j = i := by simpa using hj
      refine ⟨fun _ w' hw' => ?_, fun hm => absurd (hin j (List.mem_cons_self)) hm⟩
      have h1 := h w' hw'
      have h2 : wpOp P ops (Stage K Q) j (wpList P ops (Stage K Q) (picked ops r)) a w' := by unfold wpOp; simp only [hi]; exact h1
      have h3 : wpOp P ops (NoFall Q) j (fun a' w'' => wpAnyX P ops Q effs (r.length + fuel) (listed.setIfInBounds j true) a' w'' true) a w' := by
        have h4 := wpOp_mono (K' := fun a' w'' => wpAnyX P ops Q effs (r.length + fuel) (listed.setIfInBounds j true) a' w'' true) (fun a' w'' h5 => tail_walk hK r _ l1 a' w'' true (hc.set hr) (fun k hk => hin k (List.mem_cons_of_mem _ hk)) hB hR (fun u hu => by
          have : u = w'' := hu
          subst this; exact h5)) h2
        unfold wpOp at h4 ⊢
        simp only [hi] at h4 ⊢
        split
        · rename_i hw
          simp only [hw, if_true] at h4
          rcases h4 with h4 | ⟨x1, x2⟩
          · refine .inl ?_
            unfold Oper.wp at *
            generalize (execOp a.eval oi).run P w' = rr at *
            cases rr with
            | ok n w' =>
              cases n <;> simp only [Oper.upon] at h4 ⊢ <;>
              first
                | exact h4
                | (refine Calls.mono h4 fun e w'' he => ?_
                   cases e with
                   | returned v => exact he
                   | panicked c => exact (he : False).elim
                   | outgrown => exact he)
            | halt x w' => cases x <;> simp only [Oper.upon] at h4 ⊢ <;> exact (h4 : False).elim
          · exact .inr ⟨x1, x2⟩
        · rename_i hw; simp only [hw] at h4; exact h4
      exact h3
    · cases hB

theorem stages_walk (hsel : Region.noSelect ops = true) : ∀ (ss : List (List Nat × List Nat)) (listed : Array Bool) (a : Act) (w : World) (e : Bool), Closed ops listed →
    stagesOk ops effs ss listed = true → (∀ w', Kind e w w' → wpStages P ops Q ss a w') → wpAnyX P ops Q effs ((ss.map fun s => s.1.length + s.2.length).sum) listed a w e
  | [], listed, a, w, e, _, hB, h => by
    simp only [stagesOk, List.isEmpty_iff] at hB
    exact ⟨hB, h⟩
  | s :: r, listed, a, w, e, hc, hB, h => by
    unfold stagesOk at hB
    split at hB
    · cases hB
    · rename_i l1 h1
      simp only [Bool.and_eq_true] at hB
      obtain ⟨hin, hB⟩ := hB
      split at hB
      · cases hB
      · rename_i l2 h2
        have hlen : ((s :: r).map fun s => s.1.length + s.2.length).sum = s.1.length + (s.2.length + (r.map fun s => s.1.length + s.2.length).sum) := by
          simp only [List.map_cons, List.sum_cons]; omega
        rw [hlen]
        have h0 := h w (Kind.self e w)
        refine head_walk hsel s.1 listed l1 a e hc h1 (fun hc1 a' e' hR => ?_) h0
        refine tail_walk (K := wpStages P ops Q r) (fun _ _ _ => trivial) s.2 l1 l2 a' w e' hc1 (fun i hi => by simpa using (List.all_eq_true.1 hin) i hi) h2 (fun hc2 a'' w'' e'' hk => stages_walk hsel r l2 a'' w'' e'' hc2 hB hk) (fun w' hw' => hR w' hw'.after)

theorem stage_walk (hsel : Region.noSelect ops = true) (s : List Nat × List Nat) (r : List (List Nat × List Nat)) (listed : Array Bool) (a : Act) (w : World) (e : Bool) (hc : Closed ops listed)
    (hB : stagesOk ops effs (s :: r) listed = true) (h0 : wpStages P ops Q (s :: r) a w) : wpAnyX P ops Q effs (((s :: r).map fun s => s.1.length + s.2.length).sum) listed a w e := by
  unfold stagesOk at hB
  split at hB
  · cases hB
  · rename_i l1 h1
    simp only [Bool.and_eq_true] at hB
    obtain ⟨hin, hB⟩ := hB
    split at hB
    · cases hB
    · rename_i l2 h2
      have hlen : ((s :: r).map fun s => s.1.length + s.2.length).sum = s.1.length + (s.2.length + (r.map fun s => s.1.length + s.2.length).sum) := by
        simp only [List.map_cons, List.sum_cons]; omega
      rw [hlen]
      refine head_walk hsel s.1 listed l1 a e hc h1 (fun hc1 a' e' hR => ?_) h0
      exact tail_walk (K := wpStages P ops Q r) (fun _ _ _ => trivial) s.2 l1 l2 a' w e' hc1 (fun i hi => by simpa using (List.all_eq_true.1 hin) i hi) h2 (fun hc2 a'' w'' e'' hk => stages_walk hsel r l2 a'' w'' e'' hc2 hB hk) (fun w' hw' => hR w' hw'.after)

/-- **One walk serves every order**, stage by stage. -/
theorem wp_region_mix {id : Nat} {a : Act} {w : World} (s : List Nat × List Nat) (r : List (List Nat × List Nat)) (hm : P.follows .mixedOrders = true) (hB : mixB ops (s :: r) = true)
    (hn : (((s :: r).map fun s => s.1.length + s.2.length).sum) = ops.size) (h : wpStages P ops Q (s :: r) a w) : (Code.region id ops true).wp P Q a w := by
  unfold mixB at hB
  simp only [Bool.and_eq_true] at hB
  refine wp_region_any hm ?_
  have := stage_walk (P := P) (Q := Q) (effs := (s :: r).flatMap (·.2)) hB.1 s r (Array.replicate ops.size false) a w false Closed.start hB.2 h
  rw [hn] at this
  exact wpAny_of_X _ _ _ _ _ false ⟨1, rfl⟩ this

theorem picked_range (l : List Oper) (n : Nat) : picked l.toArray (List.range n) = l.take n := by
  induction n with
  | zero => rfl
  | succ n ih =>
    have e : picked l.toArray (List.range (n + 1)) = picked l.toArray (List.range n) ++ picked l.toArray [n] := by
      simp [picked, List.range_succ]
    rw [e, ih, List.take_add_one]
    cases h : l[n]? <;> simp [picked, h]

theorem picked_range' (l : List Oper) : ∀ (m n : Nat), l.length ≤ n + m → picked l.toArray (List.range' n m) = l.drop n := by
  intro m
  induction m with
  | zero => intro n h; simp only [List.range'_zero, picked, List.filterMap_nil]; rw [List.drop_eq_nil_of_le (by omega)]
  | succ m ih =>
    intro n h
    have e : picked l.toArray (List.range' n (m + 1)) = picked l.toArray [n] ++ picked l.toArray (List.range' (n + 1) m) := by
      rw [List.range'_succ]; cases h : l[n]? <;> simp [picked, h]
    rw [e, ih (n + 1) (by omega)]
    rcases Nat.lt_or_ge n l.length with hl | hl
    · rw [List.drop_eq_getElem_cons hl]; simp [picked, hl]
    · rw [List.drop_eq_nil_of_le hl, List.drop_eq_nil_of_le (by omega)]; simp [picked, hl]

/-- What a tail leaves. -/
theorem Stage.out {K : Act → World → Prop} {a : Act} {w : World} (h : K a w) : Stage K Q .normal a w := h

/-- **A quiet head of n operations, then a tail with effects.** -/
theorem wp_region_tail {id : Nat} {a : Act} {w : World} {l : List Oper} (n : Nat) (hm : P.follows .mixedOrders = true)
    (hB : (mixB l.toArray [(List.range n, List.range' n (l.length - n))] && decide (n ≤ l.length)) = true)
    (h : wpQuiet P l.toArray (fun w' => ∃ k, w' = w.drewN k) (fun a' => ∀ w', (∃ k, w' = w.drewN k) → wpList P l.toArray (Stage (fun a w => Q .normal a w) Q) (l.drop n) a' w') (l.take n) a) :
    (Code.region id l.toArray true).wp P Q a w := by
  simp only [Bool.and_eq_true, decide_eq_true_eq] at hB
  refine wp_region_mix (List.range n, List.range' n (l.length - n)) [] hm hB.1 (by simp; omega) ?_
  unfold wpStages
  rw [picked_range, picked_range' _ _ _ (by omega)]
  exact h
end
end Go.Proofs.YtjbaibnmbeabnaaGreatDoor
