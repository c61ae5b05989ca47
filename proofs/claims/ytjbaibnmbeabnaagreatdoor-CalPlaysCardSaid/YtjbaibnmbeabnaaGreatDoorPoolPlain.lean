/- A pool of cells: free ones, and queues, linked. No program in sight. -/
import Derived.Test.YtjbaibnmbeabnaaGreatDoorLaws
namespace Go.Proofs.YtjbaibnmbeabnaaGreatDoor.Pool
/-- What a pool is: how many cells there are, their things, what follows each, which are taken, which wait in a queue; the queues' ends; the first free one; how many are taken. -/
structure PS (α : Type) where
  m : Nat
  x : Nat → α
  nx : Nat → Int
  tk : Nat → Bool
  qd : Nat → Bool
  hd : Nat → Int
  tl : Nat → Int
  free : Int
  n : Nat
/-- A function with another value at one place. -/
def upd {β : Type} (f : Nat → β) (i : Nat) (v : β) : Nat → β := fun j => if j = i then v else f j
theorem upd_at {β : Type} (f : Nat → β) (i : Nat) (v : β) : upd f i v i = v := by simp [upd]
theorem upd_off {β : Type} (f : Nat → β) (i : Nat) (v : β) {j : Nat} (h : j ≠ i) : upd f i v j = f j := by simp [upd, h]
/-- What is linked from a on. -/
def Ch (nx : Nat → Int) : Int → List Nat → Prop
  | a, [] => a = -1
  | a, h :: t => a = (h : Int) ∧ Ch nx (nx h) t
theorem Ch.congr {nx nx' : Nat → Int} : ∀ {l : List Nat} {a : Int}, Ch nx a l → (∀ h ∈ l, nx' h = nx h) → Ch nx' a l
  | [], _, h, _ => h
  | b :: t, _, h, hc => ⟨h.1, by rw [hc b (List.mem_cons_self ..)]; exact Ch.congr h.2 (fun c hc' => hc c (List.mem_cons_of_mem _ hc'))⟩
theorem Ch.none {nx : Nat → Int} {l : List Nat} (h : Ch nx (-1) l) : l = [] := by
  cases l with
  | nil => rfl
  | cons b t => have := h.1; omega
theorem Ch.some {nx : Nat → Int} {l : List Nat} {a : Int} (h : Ch nx a l) (ha : a ≠ -1) : ∃ b t, l = b :: t ∧ a = (b : Int) ∧ Ch nx (nx b) t := by
  cases l with
  | nil => exact absurd h ha
  | cons b t => exact ⟨b, t, rfl, h.1, h.2⟩
/-- One more behind all. -/
theorem Ch.snoc {nx nx' : Nat → Int} {h : Nat} (hn : nx' h = -1) : ∀ {l : List Nat} {a : Int} (b : Nat), Ch nx a (b :: l) → (b :: l).Nodup → nx' ((b :: l).getLast (by simp)) = (h : Int) → (∀ c ∈ b :: l, c ≠ (b :: l).getLast (by simp) → nx' c = nx c) → Ch nx' a (b :: l ++ [h])
  | [], _, b, hc, _, hl, _ => by
    refine ⟨hc.1, ?_, ?_⟩
    · simpa using hl
    · exact hn
  | c :: t, _, b, hc, hnd, hl, ho => by
    have hl2 : (b :: c :: t).getLast (by simp) = (c :: t).getLast (by simp) := List.getLast_cons (by simp)
    rw [hl2] at hl ho
    have hb : nx' b = nx b := ho b (List.mem_cons_self ..) (fun e => (List.nodup_cons.1 hnd).1 (by rw [e]; exact List.getLast_mem _))
    refine ⟨hc.1, ?_⟩
    rw [hb]
    exact Ch.snoc hn c hc.2 (List.nodup_cons.1 hnd).2 hl (fun d hd => ho d (List.mem_cons_of_mem _ hd))
/-- What holds of a pool: F are free, Q are the queues; one may be held that is in none. -/
structure Pl {α : Type} (S : PS α) (Qn : Nat) (F : List Nat) (Q : Nat → List Nat) (held : Option Nat) : Prop where
  fch : Ch S.nx S.free F
  qch : ∀ q, q < Qn → Ch S.nx (S.hd q) (Q q)
  qtl : ∀ q, q < Qn → ∀ h : Q q ≠ [], S.tl q = (((Q q).getLast h : Nat) : Int)
  fnd : F.Nodup
  qnd : ∀ q, q < Qn → (Q q).Nodup
  qap : ∀ q r, q < Qn → r < Qn → q ≠ r → ∀ h ∈ Q q, h ∉ Q r
  fre : ∀ h ∈ F, h < S.m ∧ S.tk h = false
  qtk : ∀ q, q < Qn → ∀ h ∈ Q q, h < S.m ∧ S.tk h = true ∧ S.qd h = true
  hel : ∀ h, held = some h → h < S.m ∧ S.tk h = true ∧ S.qd h = false
  cnt : S.n + F.length = S.m
section
variable {α : Type} {S : PS α} {Qn : Nat} {F : List Nat} {Q : Nat → List Nat}
/-- A new pool. -/
def newS (z : α) : PS α := ⟨0, fun _ => z, fun _ => -1, fun _ => false, fun _ => false, fun _ => -1, fun _ => -1, -1, 0⟩
theorem newPl (z : α) (Qn : Nat) : Pl (newS z) Qn [] (fun _ => []) none :=
  ⟨rfl, fun _ _ => rfl, fun _ _ h => absurd rfl h, List.nodup_nil, fun _ _ => List.nodup_nil, fun _ _ _ _ _ _ h => by simp at h, fun _ h => by simp at h, fun _ _ _ h => by simp at h, fun _ h => (by cases h), rfl⟩
/-- Taken: the handle is h, with m cells behind it, and another first free one. -/
def takeS (S : PS α) (h m : Nat) (free : Int) (x : α) : PS α := { S with m := m, x := upd S.x h x, nx := upd S.nx h (-1), tk := upd S.tk h true, qd := upd S.qd h false, free := free, n := S.n + 1 }
theorem take_new (p : Pl S Qn [] Q none) (x : α) : Pl (takeS S S.m (S.m + 1) S.free x) Qn [] Q (some S.m) ∧ ∀ q, q < Qn → ∀ h ∈ Q q, (takeS S S.m (S.m + 1) S.free x).x h = S.x h := by
  have hne : ∀ q, q < Qn → ∀ h ∈ Q q, h ≠ S.m := fun q hq h hh => by have := (p.qtk q hq h hh).1; omega
  refine ⟨⟨p.fch, fun q hq => (p.qch q hq).congr fun h hh => upd_off _ _ _ (hne q hq h hh), p.qtl, p.fnd, p.qnd, p.qap, fun h hh => (by cases hh), fun q hq h hh => ?_, fun h hh => ?_, ?_⟩, fun q hq h hh => upd_off _ _ _ (hne q hq h hh)⟩
  · obtain ⟨h1, h2, h3⟩ := p.qtk q hq h hh
    exact ⟨Nat.lt_succ_of_lt h1, by rw [← h2]; exact upd_off _ _ _ (hne q hq h hh), by rw [← h3]; exact upd_off _ _ _ (hne q hq h hh)⟩
  · obtain rfl := Option.some.inj hh
    exact ⟨Nat.lt_succ_self _, upd_at _ _ _, upd_at _ _ _⟩
  · have := p.cnt; simp [takeS] at *; omega
theorem take_old {b : Nat} (p : Pl S Qn (b :: F) Q none) (x : α) : Pl (takeS S b S.m (S.nx b) x) Qn F Q (some b) ∧ ∀ q, q < Qn → ∀ h ∈ Q q, (takeS S b S.m (S.nx b) x).x h = S.x h := by
  have hb := p.fre b (List.mem_cons_self ..)
  have hne : ∀ q, q < Qn → ∀ h ∈ Q q, h ≠ b := fun q hq h hh e => by have := (p.qtk q hq h hh).2.1; rw [e, hb.2] at this; cases this
  have hnd := List.nodup_cons.1 p.fnd
  have hnf : ∀ h ∈ F, h ≠ b := fun h hh e => hnd.1 (by rw [← e]; exact hh)
  refine ⟨⟨p.fch.2.congr fun h hh => upd_off _ _ _ (hnf h hh), fun q hq => (p.qch q hq).congr fun h hh => upd_off _ _ _ (hne q hq h hh), p.qtl, hnd.2, p.qnd, p.qap, fun h hh => ?_, fun q hq h hh => ?_, fun h hh => ?_, ?_⟩, fun q hq h hh => upd_off _ _ _ (hne q hq h hh)⟩
  · obtain ⟨h1, h2⟩ := p.fre h (List.mem_cons_of_mem _ hh)
    exact ⟨h1, by rw [← h2]; exact upd_off _ _ _ (hnf h hh)⟩
  · obtain ⟨h1, h2, h3⟩ := p.qtk q hq h hh
    exact ⟨h1, by rw [← h2]; exact upd_off _ _ _ (hne q hq h hh), by rw [← h3]; exact upd_off _ _ _ (hne q hq h hh)⟩
  · obtain rfl := Option.some.inj hh
    exact ⟨hb.1, upd_at _ _ _, upd_at _ _ _⟩
  · have := p.cnt; simp [takeS] at *; omega
/-- A handle behind a queue that was empty. -/
def appS0 (S : PS α) (q h : Nat) : PS α := { S with nx := upd S.nx h (-1), qd := upd S.qd h true, hd := upd S.hd q h, tl := upd S.tl q h }
/-- A handle behind a queue's last one. -/
def appS1 (S : PS α) (q h t : Nat) : PS α := { S with nx := upd (upd S.nx h (-1)) t h, qd := upd S.qd h true, tl := upd S.tl q h }
theorem app_none {q h : Nat} (p : Pl S Qn F Q (some h)) (hq : q < Qn) (h0 : Q q = []) : Pl (appS0 S q h) Qn F (upd Q q (Q q ++ [h])) none := by
  obtain ⟨a1, a2, a3⟩ := p.hel h rfl
  have hne : ∀ q, q < Qn → ∀ c ∈ Q q, c ≠ h := fun q hq c hh e => by have := (p.qtk q hq c hh).2.2; rw [e, a3] at this; cases this
  have hnf : ∀ c ∈ F, c ≠ h := fun c hh e => by have := (p.fre c hh).2; rw [e, a2] at this; cases this
  rw [h0, List.nil_append]
  have hQ : ∀ r, r ≠ q → upd Q q [h] r = Q r := fun r hr => upd_off _ _ _ hr
  have hQq : upd Q q [h] q = [h] := upd_at _ _ _
  refine ⟨p.fch.congr fun c hc => upd_off _ _ _ (hnf c hc), fun r hr => ?_, fun r hr hn => ?_, p.fnd, fun r hr => ?_, fun r s hr hs hrs c hc => ?_, p.fre, fun r hr c hc => ?_, fun _ e => (by cases e), p.cnt⟩
  · by_cases e : r = q
    · subst e; rw [hQq]; exact ⟨upd_at _ _ _, upd_at _ _ _⟩
    · rw [hQ r e]
      show Ch _ (upd S.hd q h r) _
      rw [upd_off _ _ _ e]
      exact (p.qch r hr).congr fun c hc => upd_off _ _ _ (hne r hr c hc)
  · by_cases e : r = q
    · subst e; show upd S.tl r h r = _; rw [upd_at]; simp [hQq]
    · show upd S.tl q h r = _; rw [upd_off _ _ _ e]
      have h1 := p.qtl r hr (by rw [hQ r e] at hn; exact hn)
      rw [h1]; simp only [hQ r e]
  · by_cases e : r = q
    · subst e; rw [hQq]; simp
    · rw [hQ r e]; exact p.qnd r hr
  · by_cases e : r = q
    · subst e; rw [hQq] at hc; rw [hQ s (fun e => hrs e.symm)]
      obtain rfl := List.mem_singleton.1 hc
      exact fun hm => hne s hs c hm rfl
    · rw [hQ r e] at hc
      by_cases e2 : s = q
      · subst e2; rw [hQq]; exact fun hm => hne r hr c hc (List.mem_singleton.1 hm)
      · rw [hQ s e2]; exact p.qap r s hr hs hrs c hc
  · by_cases e : r = q
    · subst e; rw [hQq] at hc
      obtain rfl := List.mem_singleton.1 hc
      exact ⟨a1, a2, upd_at _ _ _⟩
    · rw [hQ r e] at hc
      obtain ⟨b1, b2, b3⟩ := p.qtk r hr c hc
      exact ⟨b1, b2, by rw [← b3]; exact upd_off _ _ _ (hne r hr c hc)⟩
theorem app_some {q h t : Nat} (p : Pl S Qn F Q (some h)) (hq : q < Qn) (h0 : Q q ≠ []) (ht : (Q q).getLast h0 = t) : Pl (appS1 S q h t) Qn F (upd Q q (Q q ++ [h])) none := by
  obtain ⟨a1, a2, a3⟩ := p.hel h rfl
  have hne : ∀ q, q < Qn → ∀ c ∈ Q q, c ≠ h := fun q hq c hh e => by have := (p.qtk q hq c hh).2.2; rw [e, a3] at this; cases this
  have hnf : ∀ c ∈ F, c ≠ h := fun c hh e => by have := (p.fre c hh).2; rw [e, a2] at this; cases this
  have htm : t ∈ Q q := by rw [← ht]; exact List.getLast_mem _
  have hth := hne q hq t htm
  have htf : ∀ c ∈ F, c ≠ t := fun c hh e => by have := (p.fre c hh).2; rw [e, (p.qtk q hq t htm).2.1] at this; cases this
  have hQ : ∀ r, r ≠ q → upd Q q (Q q ++ [h]) r = Q r := fun r hr => upd_off _ _ _ hr
  have hQq : upd Q q (Q q ++ [h]) q = Q q ++ [h] := upd_at _ _ _
  have hnx : ∀ c, c ≠ h → c ≠ t → (appS1 S q h t).nx c = S.nx c := fun c h1 h2 => by show upd (upd S.nx h (-1)) t h c = _; rw [upd_off _ _ _ h2, upd_off _ _ _ h1]
  refine ⟨p.fch.congr fun c hc => hnx c (hnf c hc) (htf c hc), fun r hr => ?_, fun r hr hn => ?_, p.fnd, fun r hr => ?_, fun r s hr hs hrs c hc => ?_, p.fre, fun r hr c hc => ?_, fun _ e => (by cases e), p.cnt⟩
  · by_cases e : r = q
    · subst e; rw [hQq]
      have hc := p.qch r hr
      have hnd := p.qnd r hr
      have hmem := hne r hr
      revert hc hnd hmem
      cases hl : Q r with
      | nil => exact absurd hl h0
      | cons b l =>
        intro hc hnd hmem
        have ht2 : (b :: l).getLast (by simp) = t := by rw [← ht]; simp only [hl]
        refine Ch.snoc (nx := S.nx) ?_ b hc hnd ?_ ?_
        · show upd (upd S.nx h (-1)) t h h = -1
          rw [upd_off _ _ _ (Ne.symm hth), upd_at]
        · rw [ht2]; exact upd_at _ _ _
        · intro c hc1 hc2
          rw [ht2] at hc2
          exact hnx c (hmem c hc1) hc2
    · rw [hQ r e]
      refine (p.qch r hr).congr fun c hc => hnx c (hne r hr c hc) (fun e2 => ?_)
      exact p.qap r q hr hq e c hc (by rw [e2]; exact htm)
  · by_cases e : r = q
    · subst e; show upd S.tl r h r = _; rw [upd_at]; simp [hQq]
    · show upd S.tl q h r = _; rw [upd_off _ _ _ e]
      have h1 := p.qtl r hr (by rw [hQ r e] at hn; exact hn)
      rw [h1]; simp only [hQ r e]
  · by_cases e : r = q
    · subst e; rw [hQq, List.nodup_append]; exact ⟨p.qnd r hr, by simp, fun a ha b hb => by obtain rfl := List.mem_singleton.1 hb; exact hne r hr a ha⟩
    · rw [hQ r e]; exact p.qnd r hr
  · by_cases e : r = q
    · subst e; rw [hQq] at hc; rw [hQ s (fun e => hrs e.symm)]
      rcases List.mem_append.1 hc with h1 | h1
      · exact p.qap r s hr hs hrs c h1
      · obtain rfl := List.mem_singleton.1 h1
        exact fun hm => hne s hs c hm rfl
    · rw [hQ r e] at hc
      by_cases e2 : s = q
      · subst e2; rw [hQq]; intro hm
        rcases List.mem_append.1 hm with h1 | h1
        · exact p.qap r s hr hs hrs c hc h1
        · exact hne r hr c hc (List.mem_singleton.1 h1)
      · rw [hQ s e2]; exact p.qap r s hr hs hrs c hc
  · by_cases e : r = q
    · subst e; rw [hQq] at hc
      rcases List.mem_append.1 hc with h1 | h1
      · obtain ⟨b1, b2, b3⟩ := p.qtk r hr c h1
        exact ⟨b1, b2, by rw [← b3]; exact upd_off _ _ _ (hne r hr c h1)⟩
      · obtain rfl := List.mem_singleton.1 h1
        exact ⟨a1, a2, upd_at _ _ _⟩
    · rw [hQ r e] at hc
      obtain ⟨b1, b2, b3⟩ := p.qtk r hr c hc
      exact ⟨b1, b2, by rw [← b3]; exact upd_off _ _ _ (hne r hr c hc)⟩
/-- The first one out of a queue. -/
def popS (S : PS α) (q h : Nat) : PS α := { S with nx := upd S.nx h (-1), qd := upd S.qd h false, hd := upd S.hd q (S.nx h), tl := if S.nx h = -1 then upd S.tl q (-1) else S.tl }
theorem pop_pl {q h : Nat} {l : List Nat} (p : Pl S Qn F Q none) (hq : q < Qn) (h0 : Q q = h :: l) : Pl (popS S q h) Qn F (upd Q q l) (some h) := by
  have hm : h ∈ Q q := by rw [h0]; exact List.mem_cons_self ..
  obtain ⟨a1, a2, a3⟩ := p.qtk q hq h hm
  have hnd : (h :: l).Nodup := h0 ▸ p.qnd q hq
  obtain ⟨hn1, hn2⟩ := List.nodup_cons.1 hnd
  have hnf : ∀ c ∈ F, c ≠ h := fun c hh e => by have := (p.fre c hh).2; rw [e, a2] at this; cases this
  have hQ : ∀ r, r ≠ q → upd Q q l r = Q r := fun r hr => upd_off _ _ _ hr
  have hQq : upd Q q l q = l := upd_at _ _ _
  have hne : ∀ r, r < Qn → r ≠ q → ∀ c ∈ Q r, c ≠ h := fun r hr e c hc e2 => p.qap q r hq hr (Ne.symm e) h hm (by rw [← e2]; exact hc)
  have hnl : ∀ c ∈ l, c ≠ h := fun c hc e => hn1 (by rw [← e]; exact hc)
  have hin : ∀ c ∈ l, c ∈ Q q := fun c hc => by rw [h0]; exact List.mem_cons_of_mem _ hc
  have hch : Ch S.nx (S.nx h) l := by have := p.qch q hq; rw [h0] at this; exact this.2
  refine ⟨p.fch.congr fun c hc => upd_off _ _ _ (hnf c hc), fun r hr => ?_, fun r hr hn => ?_, p.fnd, fun r hr => ?_, fun r s hr hs hrs c hc => ?_, p.fre, fun r hr c hc => ?_, fun c e => ?_, p.cnt⟩
  · by_cases e : r = q
    · subst e; rw [hQq]
      show Ch _ (upd S.hd r (S.nx h) r) _
      rw [upd_at]
      exact hch.congr fun c hc => upd_off _ _ _ (hnl c hc)
    · rw [hQ r e]
      show Ch _ (upd S.hd q (S.nx h) r) _
      rw [upd_off _ _ _ e]
      exact (p.qch r hr).congr fun c hc => upd_off _ _ _ (hne r hr e c hc)
  · by_cases e : r = q
    · subst e
      have hl : l ≠ [] := by rw [hQq] at hn; exact hn
      have hnx : S.nx h ≠ -1 := fun e1 => by rw [e1] at hch; exact hl hch.none
      show (if S.nx h = -1 then upd S.tl r (-1) else S.tl) r = _
      rw [if_neg hnx]
      have h1 := p.qtl r hr (by rw [h0]; simp)
      rw [h1]
      simp only [hQq, h0]
      rw [List.getLast_cons hl]
    · show (if S.nx h = -1 then upd S.tl q (-1) else S.tl) r = _
      have h2 : (if S.nx h = -1 then upd S.tl q (-1) else S.tl) r = S.tl r := by split; exact upd_off _ _ _ e; rfl
      rw [h2]
      have h1 := p.qtl r hr (by rw [hQ r e] at hn; exact hn)
      rw [h1]; simp only [hQ r e]
  · by_cases e : r = q
    · subst e; rw [hQq]; exact hn2
    · rw [hQ r e]; exact p.qnd r hr
  · by_cases e : r = q
    · subst e; rw [hQq] at hc; rw [hQ s (fun e => hrs e.symm)]
      exact p.qap r s hr hs hrs c (hin c hc)
    · rw [hQ r e] at hc
      by_cases e2 : s = q
      · subst e2; rw [hQq]; exact fun hm => p.qap r s hr hs hrs c hc (hin c hm)
      · rw [hQ s e2]; exact p.qap r s hr hs hrs c hc
  · by_cases e : r = q
    · subst e; rw [hQq] at hc
      obtain ⟨b1, b2, b3⟩ := p.qtk r hr c (hin c hc)
      exact ⟨b1, b2, by rw [← b3]; exact upd_off _ _ _ (hnl c hc)⟩
    · rw [hQ r e] at hc
      obtain ⟨b1, b2, b3⟩ := p.qtk r hr c hc
      exact ⟨b1, b2, by rw [← b3]; exact upd_off _ _ _ (hne r hr e c hc)⟩
  · obtain rfl := Option.some.inj e
    exact ⟨a1, a2, upd_at _ _ _⟩
/-- A handle given back. -/
def giveS (S : PS α) (h : Nat) (z : α) : PS α := { S with x := upd S.x h z, nx := upd S.nx h S.free, tk := upd S.tk h false, qd := upd S.qd h false, free := h, n := S.n - 1 }
theorem give_pl {h : Nat} (p : Pl S Qn F Q (some h)) (z : α) (hn : 0 < S.n) : Pl (giveS S h z) Qn (h :: F) Q none ∧ ∀ q, q < Qn → ∀ c ∈ Q q, (giveS S h z).x c = S.x c := by
  obtain ⟨a1, a2, a3⟩ := p.hel h rfl
  have hne : ∀ q, q < Qn → ∀ c ∈ Q q, c ≠ h := fun q hq c hh e => by have := (p.qtk q hq c hh).2.2; rw [e, a3] at this; cases this
  have hnf : ∀ c ∈ F, c ≠ h := fun c hh e => by have := (p.fre c hh).2; rw [e, a2] at this; cases this
  refine ⟨⟨⟨rfl, ?_⟩, fun q hq => (p.qch q hq).congr fun c hc => upd_off _ _ _ (hne q hq c hc), p.qtl, List.nodup_cons.2 ⟨fun hm => hnf h hm rfl, p.fnd⟩, p.qnd, p.qap, fun c hc => ?_, fun q hq c hc => ?_, fun _ e => (by cases e), ?_⟩, fun q hq c hc => upd_off _ _ _ (hne q hq c hc)⟩
  · show Ch _ (upd S.nx h S.free h) F
    rw [upd_at]
    exact p.fch.congr fun c hc => upd_off _ _ _ (hnf c hc)
  · rcases List.mem_cons.1 hc with rfl | hc
    · exact ⟨a1, upd_at _ _ _⟩
    · obtain ⟨b1, b2⟩ := p.fre c hc
      exact ⟨b1, by rw [← b2]; exact upd_off _ _ _ (hnf c hc)⟩
  · obtain ⟨b1, b2, b3⟩ := p.qtk q hq c hc
    exact ⟨b1, by rw [← b2]; exact upd_off _ _ _ (hne q hq c hc), by rw [← b3]; exact upd_off _ _ _ (hne q hq c hc)⟩
  · have := p.cnt; simp [giveS] at *; omega
end
end Go.Proofs.YtjbaibnmbeabnaaGreatDoor.Pool
