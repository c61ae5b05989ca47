/- Ref30Plain, Ref30Plain2, Ref30Core, Ref30Leaf, Ref30Come, Ref30Pass, Ref30Plain3, Ref30Push, Ref30Pop, Ref30New, Ref30Check, one behind the other. -/
import Derived.Test.YtllfloapiliheaaDoorMTree
import Derived.Test.YtllfloapiliheaaDoorPcs
import Derived.Test.YtllfloapiliheaaDoorRef09
import Derived.Deep.DeepCutAuto
import Derived.Deep.RegionWith
import Derived.BigQuiet
import Derived.Test.YtllfloapiliheaaDoorSat3
import Derived.Deep.RegionHeld3
import Derived.Deep.LoopGhost
import Derived.Test.YtllfloapiliheaaDoorSteps
namespace Go.Proofs.YtllfloapiliheaaDoor.R30
open Tree (Sh TS up up_at up_off mad chi rk tagged entered holds come rise1 rises meas push pop down pass PK Bal Comes)
open HeapE (El)
open WheelR (Ri)
open Cal (ins)
/-- Its state. -/
structure RS where
  L : Nat → List (Nat × Int)
  Vi : Nat → Nat
  Tg : Nat → Nat
  Fr : Nat → Nat
  P : List (Nat × Nat × Nat)
  R : List (Nat × Nat)
  H : List (Nat × Int)
  now : Nat
  left : Nat
def pk (P : List (Nat × Nat × Nat)) (x : Int) : Nat × Nat × Nat := (P[x.toNat]?).getD (0, 0, 0)
def rrk (sh : Sh) (r : RS) (v : Nat) (x : Int) : Nat :=
  if sh.kind v = 2 then (if sh.leaf v = true then (pk r.P x).2.2 else sh.wt x.toNat) else if sh.kind v = 3 then (if sh.leaf v = true then (pk r.P x).1 else max (r.Vi v) (r.Tg x.toNat)) else 0
def rtag (sh : Sh) (r : RS) (v : Nat) (x : Int) (b : Nat) : RS :=
  if sh.kind v = 3 ∧ sh.leaf v = false then { r with Tg := up r.Tg x.toNat (mad (max (r.Vi v) (r.Tg x.toNat)) (sh.wt x.toNat) b) } else r
def rlay (r : RS) (v k : Nat) (x : Int) : RS := { r with L := up r.L v (ins k x (r.L v)) }
def rent (sh : Sh) (r : RS) (v : Nat) (x : Int) (b : Nat) : RS := rlay (rtag sh r v x b) v (rrk sh r v x) x
def rhold (sh : Sh) (r : RS) (t v b : Nat) : RS :=
  { r with Fr := up r.Fr v (mad (max t (r.Fr v)) (sh.gap v) b), H := ins (max t (r.Fr v)) (r.R.length : Int) r.H, R := r.R ++ [(v, b)] }
def rcome (sh : Sh) : Nat → RS → Nat → Nat → Int → Nat → RS
  | 0, r, _, _, _, _ => r
  | f + 1, r, t, v, x, b =>
    if v = 0 then rent sh r v x b
    else if sh.gap v = 0 then rcome sh f (rent sh r v x b) t (sh.par v) v b
    else rhold sh (rent sh r v x b) t v b
/-- The same ranks, and what belongs together. -/
def Two {α β : Type} (R : α → β → Prop) : List (Nat × α) → List (Nat × β) → Prop
  | [], [] => True
  | a :: l, b :: m => a.1 = b.1 ∧ R a.2 b.2 ∧ Two R l m
  | _, _ => False
section
variable {α β : Type} {R R' : α → β → Prop}
theorem Two.len : ∀ {l : List (Nat × α)} {m : List (Nat × β)}, Two R l m → l.length = m.length
  | [], [], _ => rfl
  | _ :: _, _ :: _, h => by rw [List.length_cons, List.length_cons, Two.len h.2.2]
  | [], _ :: _, h => h.elim
  | _ :: _, [], h => h.elim
theorem Two.mono (hR : ∀ a b, R a b → R' a b) : ∀ {l : List (Nat × α)} {m : List (Nat × β)}, Two R l m → Two R' l m
  | [], [], _ => trivial
  | _ :: _, _ :: _, h => ⟨h.1, hR _ _ h.2.1, Two.mono hR h.2.2⟩
  | [], _ :: _, h => h.elim
  | _ :: _, [], h => h.elim
theorem Two.ins_ {t : Nat} {x : α} {y : β} (hx : R x y) : ∀ {l : List (Nat × α)} {m : List (Nat × β)}, Two R l m → Two R (ins t x l) (ins t y m)
  | [], [], _ => ⟨rfl, hx, trivial⟩
  | a :: l, b :: m, h => by
    unfold ins
    rw [h.1]
    split
    · exact ⟨rfl, hx, h⟩
    · exact ⟨h.1, h.2.1, Two.ins_ hx h.2.2⟩
  | [], _ :: _, h => h.elim
  | _ :: _, [], h => h.elim
end
theorem insR_ins (t : Nat) (x : Int) : ∀ l, insR (t, x) l = ins t x l
  | [] => rfl
  | a :: l => by
    unfold insR ins
    rw [insR_ins t x l]
/-- An element, and what the reference has for it. -/
def Enc (sh : Sh) (P : List (Nat × Nat × Nat)) (i : Nat) (e : El) (x : Int) : Prop :=
  if sh.leaf i = true then ∃ k : Nat, x = k ∧ P[k]? = some e.2 else x = e.1
def EncH (R : List (Nat × Nat)) (e : Ri) (x : Int) : Prop := ∃ k : Nat, x = k ∧ R[k]? = some e
theorem Enc.more {sh : Sh} {P Q : List (Nat × Nat × Nat)} {i : Nat} {e : El} {x : Int} (h : Enc sh P i e x) : Enc sh (P ++ Q) i e x := by
  unfold Enc at h ⊢
  split
  · rename_i hl
    rw [if_pos hl] at h
    obtain ⟨k, h1, h2⟩ := h
    refine ⟨k, h1, ?_⟩
    rw [List.getElem?_append_left]
    · exact h2
    · rcases Nat.lt_or_ge k P.length with h' | h'
      · exact h'
      · rw [List.getElem?_eq_none h'] at h2; cases h2
  · rename_i hl
    rw [if_neg hl] at h
    exact h
theorem EncH.more {P Q : List (Nat × Nat)} {e : Ri} {x : Int} (h : EncH P e x) : EncH (P ++ Q) e x := by
  obtain ⟨k, h1, h2⟩ := h
  refine ⟨k, h1, ?_⟩
  rw [List.getElem?_append_left]
  · exact h2
  · rcases Nat.lt_or_ge k P.length with h' | h'
    · exact h'
    · rw [List.getElem?_eq_none h'] at h2; cases h2
/-- Both stand alike. -/
structure Sim (sh : Sh) (s : TS) (r : RS) : Prop where
  L : ∀ i, i < sh.n → Two (Enc sh r.P i) (s.q i) (r.L i)
  vi : ∀ i, i < sh.n → r.Vi i = s.vi i
  tg : ∀ i, i < sh.n → r.Tg i = s.tg i
  fr : ∀ i, i < sh.n → r.Fr i = s.fr i
  H : Two (EncH r.R) s.H r.H
  now : r.now = s.now
  m : r.P.length = s.m + r.left
theorem tagged_pt (sh : Sh) (s : TS) (i : Nat) (e : El) (b : Nat) : (tagged sh s i e b).tg = if sh.kind i = 3 ∧ sh.leaf i = false then up s.tg e.1.toNat (mad (max (s.vi i) (s.tg e.1.toNat)) (sh.wt e.1.toNat) b) else s.tg := by
  unfold tagged; split <;> rfl
theorem rtag_L (sh : Sh) (r : RS) (v : Nat) (x : Int) (b : Nat) : (rtag sh r v x b).L = r.L := by unfold rtag; split <;> rfl
theorem rtag_Vi (sh : Sh) (r : RS) (v : Nat) (x : Int) (b : Nat) : (rtag sh r v x b).Vi = r.Vi := by unfold rtag; split <;> rfl
theorem rtag_Fr (sh : Sh) (r : RS) (v : Nat) (x : Int) (b : Nat) : (rtag sh r v x b).Fr = r.Fr := by unfold rtag; split <;> rfl
theorem rtag_P (sh : Sh) (r : RS) (v : Nat) (x : Int) (b : Nat) : (rtag sh r v x b).P = r.P := by unfold rtag; split <;> rfl
theorem rtag_R (sh : Sh) (r : RS) (v : Nat) (x : Int) (b : Nat) : (rtag sh r v x b).R = r.R := by unfold rtag; split <;> rfl
theorem rtag_H (sh : Sh) (r : RS) (v : Nat) (x : Int) (b : Nat) : (rtag sh r v x b).H = r.H := by unfold rtag; split <;> rfl
theorem rtag_now (sh : Sh) (r : RS) (v : Nat) (x : Int) (b : Nat) : (rtag sh r v x b).now = r.now := by unfold rtag; split <;> rfl
theorem rtag_left (sh : Sh) (r : RS) (v : Nat) (x : Int) (b : Nat) : (rtag sh r v x b).left = r.left := by unfold rtag; split <;> rfl
theorem rtag_Tg (sh : Sh) (r : RS) (v : Nat) (x : Int) (b : Nat) : (rtag sh r v x b).Tg = if sh.kind v = 3 ∧ sh.leaf v = false then up r.Tg x.toNat (mad (max (r.Vi v) (r.Tg x.toNat)) (sh.wt x.toNat) b) else r.Tg := by unfold rtag; split <;> rfl
section
variable {sh : Sh} {s : TS} {r : RS}
theorem Sim.rk_ (hs : sh.Ok) (h : Sim sh s r) {i : Nat} (hi : i < sh.n) {e : El} {x : Int} (he : Enc sh r.P i e x) (hc : sh.leaf i = false → ∃ c, c < sh.n ∧ e = chi c) : rrk sh r i x = rk sh s i e := by
  have h1 := hs.k1 i hi
  have h3 := hs.k3 i hi
  unfold rrk rk
  unfold Enc at he
  cases hl : sh.leaf i with
  | true =>
    rw [if_pos hl] at he
    obtain ⟨k, rfl, hk⟩ := he
    have hp : pk r.P (k : Int) = e.2 := by unfold pk; rw [Int.toNat_natCast, hk]; rfl
    rw [hp]
    rcases (by omega : sh.kind i = 1 ∨ sh.kind i = 2 ∨ sh.kind i = 3) with e | e | e
    · simp [e]
    · simp [e]
    · simp [e]
  | false =>
    rw [if_neg (by rw [hl]; simp)] at he
    obtain ⟨c, hc1, rfl⟩ := hc hl
    have hx : x = (c : Int) := he
    subst hx
    rcases (by omega : sh.kind i = 1 ∨ sh.kind i = 2 ∨ sh.kind i = 3) with e | e | e
    · simp [e]
    · simp [e]
    · simp [e, h.vi i hi, h.tg c hc1]
theorem Sim.ent (hs : sh.Ok) (h : Sim sh s r) {i : Nat} (hi : i < sh.n) {e : El} {x : Int} (he : Enc sh r.P i e x) (hc : sh.leaf i = false → ∃ c, c < sh.n ∧ e = chi c) (b : Nat) : Sim sh (entered sh s i e b) (rent sh r i x b) := by
  have hrk := h.rk_ hs hi he hc
  refine ⟨fun j hj => ?_, fun j hj => ?_, fun j hj => ?_, fun j hj => ?_, ?_, ?_, ?_⟩
  · show Two (Enc sh (rtag sh r i x b).P j) (up s.q i (ins (rk sh s i e) e (s.q i)) j) (up (rtag sh r i x b).L i (ins (rrk sh r i x) x ((rtag sh r i x b).L i)) j)
    rw [rtag_P, rtag_L, hrk]
    by_cases e1 : j = i
    · subst e1
      rw [up_at, up_at]
      exact Two.ins_ he (h.L j hj)
    · rw [up_off _ e1, up_off _ e1]
      exact h.L j hj
  · show (rtag sh r i x b).Vi j = (tagged sh s i e b).vi j
    rw [rtag_Vi, Tree.tagged_vi]; exact h.vi j hj
  · show (rtag sh r i x b).Tg j = (tagged sh s i e b).tg j
    rw [rtag_Tg, tagged_pt]
    by_cases hk : sh.kind i = 3 ∧ sh.leaf i = false
    · rw [if_pos hk, if_pos hk]
      obtain ⟨c, hc1, rfl⟩ := hc hk.2
      unfold Enc at he
      rw [if_neg (by rw [hk.2]; simp)] at he
      have hx : x = (c : Int) := he
      subst hx
      show up r.Tg c (mad (max (r.Vi i) (r.Tg c)) (sh.wt c) b) j = up s.tg c (mad (max (s.vi i) (s.tg c)) (sh.wt c) b) j
      rw [h.vi i hi, h.tg c hc1]
      unfold up
      split
      · rfl
      · exact h.tg j hj
    · rw [if_neg hk, if_neg hk]; exact h.tg j hj
  · show (rtag sh r i x b).Fr j = (tagged sh s i e b).fr j
    rw [rtag_Fr, Tree.tagged_fr]; exact h.fr j hj
  · show Two (EncH (rtag sh r i x b).R) (tagged sh s i e b).H (rtag sh r i x b).H
    rw [rtag_R, Tree.tagged_H, rtag_H]; exact h.H
  · show (rtag sh r i x b).now = (tagged sh s i e b).now
    rw [rtag_now, Tree.tagged_now]; exact h.now
  · show (rtag sh r i x b).P.length = (tagged sh s i e b).m + (rtag sh r i x b).left
    rw [rtag_P, Tree.tagged_m, rtag_left]; exact h.m
theorem Sim.hold (h : Sim sh s r) {v : Nat} (hv : v < sh.n) (t b : Nat) : Sim sh (holds sh s t v b) (rhold sh r t v b) := by
  refine ⟨h.L, h.vi, h.tg, fun j hj => ?_, ?_, h.now, h.m⟩
  · show up r.Fr v (mad (max t (r.Fr v)) (sh.gap v) b) j = up s.fr v (mad (max t (s.fr v)) (sh.gap v) b) j
    rw [h.fr v hv]
    unfold up
    split
    · rfl
    · exact h.fr j hj
  · show Two (EncH (r.R ++ [(v, b)])) (ins (max t (s.fr v)) ((v, b) : Ri) s.H) (ins (max t (r.Fr v)) (r.R.length : Int) r.H)
    rw [h.fr v hv]
    refine Two.ins_ ⟨r.R.length, rfl, by rw [List.getElem?_append_right (Nat.le_refl _), Nat.sub_self]; rfl⟩ (h.H.mono fun a b h => h.more)
theorem rent_P (v : Nat) (x : Int) (b : Nat) : (rent sh r v x b).P = r.P := rtag_P ..
theorem Sim.come_ (hs : sh.Ok) : ∀ (f : Nat) {s : TS} {r : RS} (t i : Nat) (e : El) (x : Int) (b : Nat), i < sh.n → Sim sh s r → Enc sh r.P i e x → (sh.leaf i = false → ∃ c, c < sh.n ∧ e = chi c) → Sim sh (come sh f s t i e b) (rcome sh f r t i x b) ∧ (rcome sh f r t i x b).P = r.P ∧ (rcome sh f r t i x b).left = r.left
  | 0, _, _, _, _, _, _, _, _, h, _, _ => ⟨h, rfl, rfl⟩
  | f + 1, s, r, t, i, e, x, b, hi, h, he, hc => by
    have h1 := h.ent hs hi he hc b
    unfold come rcome
    by_cases h0 : i = 0
    · rw [if_pos h0, if_pos h0]; exact ⟨h1, rtag_P .., rtag_left ..⟩
    · rw [if_neg h0, if_neg h0]
      obtain ⟨hp1, hp2⟩ := hs.inner hi h0
      by_cases hg : sh.gap i = 0
      · rw [if_pos hg, if_pos hg]
        obtain ⟨a1, a2, a3⟩ := Sim.come_ hs f t (sh.par i) (chi i) (i : Int) b hp1 h1 (by unfold Enc; rw [if_neg (by rw [hp2]; simp)]) (fun _ => ⟨i, hi, rfl⟩)
        exact ⟨a1, a2.trans (rtag_P ..), a3.trans (rtag_left ..)⟩
      · rw [if_neg hg, if_neg hg]
        exact ⟨h1.hold hi t b, rtag_P .., rtag_left ..⟩
/-- How many rises there are, and may come. -/
theorem come_pot (hs : sh.Ok) : ∀ (f : Nat) {s : TS} {r : RS} (t i : Nat) (e : El) (x : Int) (b : Nat), i < sh.n → (rcome sh f r t i x b).R.length + meas (come sh f s t i e b).H ≤ r.R.length + meas s.H + i + 2
  | 0, s, r, _, _, _, _, _, _ => by show r.R.length + meas s.H ≤ _; omega
  | f + 1, s, r, t, i, e, x, b, hi => by
    have e1 : (rent sh r i x b).R = r.R := rtag_R ..
    have e2 : (entered sh s i e b).H = s.H := Tree.entered_H ..
    unfold come rcome
    by_cases h0 : i = 0
    · rw [if_pos h0, if_pos h0, e1, e2]; omega
    · rw [if_neg h0, if_neg h0]
      have hp := hs.par i hi h0
      by_cases hg : sh.gap i = 0
      · rw [if_pos hg, if_pos hg]
        have := come_pot hs f (s := entered sh s i e b) (r := rent sh r i x b) t (sh.par i) (chi i) (i : Int) b (by omega)
        rw [e1, e2] at this
        omega
      · rw [if_neg hg, if_neg hg]
        show ((rent sh r i x b).R ++ [(i, b)]).length + meas (ins _ ((i, b) : Ri) (entered sh s i e b).H) ≤ _
        rw [Tree.meas_ins, e1, e2, List.length_append]
        show r.R.length + 1 + (meas s.H + (i + 1)) ≤ _
        omega
end
end Go.Proofs.YtllfloapiliheaaDoor.R30
namespace Go.Proofs.YtllfloapiliheaaDoor.R30
open Tree (Sh TS up up_at up_off mad chi rk come rise1 rises meas Bal rise1_some headless)
open HeapE (El)
open WheelR (Ri)
open Cal (ins)
/-- The first one held rises, on both sides. -/
theorem Sim.rise {sh : Sh} {s : TS} {r : RS} (hs : sh.Ok) (h : Sim sh s r) (hb : Bal sh s 0) {t v b : Nat} {l : List (Nat × Ri)} (hH : s.H = (t, (v, b)) :: l) (ht : t ≤ s.now) :
    ∃ (k : Nat) (rl : List (Nat × Int)), r.H = (t, (k : Int)) :: rl ∧ r.R[k]? = some (v, b) ∧ Sim sh (rise1 sh s) (rcome sh 32 { r with H := rl } t (sh.par v) v b) ∧
      (rcome sh 32 { r with H := rl } t (sh.par v) v b).P = r.P ∧ (rcome sh 32 { r with H := rl } t (sh.par v) v b).left = r.left ∧
      (rcome sh 32 { r with H := rl } t (sh.par v) v b).R.length + meas (rise1 sh s).H ≤ r.R.length + meas s.H := by
  obtain ⟨e1, _, _, hp, _, _, _⟩ := rise1_some hs hb hH ht
  obtain ⟨_, _, _, _, hv, hv0, _⟩ := headless hb hH
  have h2 := h.H
  rw [hH] at h2
  cases hr : r.H with
  | nil => rw [hr] at h2; exact h2.elim
  | cons a rl =>
    rw [hr] at h2
    obtain ⟨a1, a2⟩ := a
    obtain ⟨k1, ⟨k, k2, k3⟩, k4⟩ := h2
    have k1 : t = a1 := k1
    have k2 : a2 = (k : Int) := k2
    subst k1
    subst k2
    obtain ⟨hp1, hp2⟩ := hs.inner hv hv0
    have h3 : Sim sh { s with H := l, wn := t } { r with H := rl } := ⟨h.L, h.vi, h.tg, h.fr, k4, h.now, h.m⟩
    obtain ⟨c1, c2, c3⟩ := Sim.come_ hs 32 t (sh.par v) (chi v) (v : Int) b hp1 h3 (by unfold Enc; rw [if_neg (by rw [hp2]; simp)]) (fun _ => ⟨v, hv, rfl⟩)
    have c4 := come_pot hs 32 (s := { s with H := l, wn := t }) (r := { r with H := rl }) t (sh.par v) (chi v) (v : Int) b hp1
    refine ⟨k, rl, rfl, k3, by rw [e1]; exact c1, c2, c3, ?_⟩
    rw [e1, hH, Tree.meas_cons]
    have c5 : (rcome sh 32 { r with H := rl } t (sh.par v) v b).R.length + meas (come sh 32 { s with H := l, wn := t } t (sh.par v) (chi v) b).H ≤ r.R.length + meas l + sh.par v + 2 := c4
    show _ ≤ r.R.length + (v + 1 + meas l)
    omega
end Go.Proofs.YtllfloapiliheaaDoor.R30
namespace Go.Proofs.YtllfloapiliheaaDoor.R30
open Go.RowKit Go.Proofs BigFrame
open Tree (Sh TS up up_at up_off mad chi rk Nd NodesAt shOf)
open Cal (ins)
abbrev TT : TypeId := 66
abbrev TI : TypeId := 98
abbrev TLs : TypeId := 61
abbrev TU : TypeId := 31
abbrev TPk : TypeId := 38
abbrev TRi : TypeId := 124
abbrev TNd : TypeId := 50
def pc (p : Nat × Nat × Nat) : List Value := [.int .u32 p.1, .int .u32 p.2.1, .int .u64 p.2.2]
def rc (p : Nat × Nat) : List Value := [.int .i64 p.1, .int .u64 p.2]
theorem flat3 {α : Type} {W : Nat} (f : α → List Value) (hf : ∀ a, (f a).length = W) : ∀ l : List α, (l.flatMap f).length = l.length * W
  | [] => by simp
  | a :: l => by rw [List.flatMap_cons, List.length_append, flat3 f hf l, hf, List.length_cons, Nat.succ_mul, Nat.add_comm]
theorem flat3_at {α : Type} {W : Nat} (f : α → List Value) (hf : ∀ a, (f a).length = W) : ∀ {l : List α} {k : Nat} {a : α}, l[k]? = some a → ∀ {j : Nat} {v : Value}, (f a)[j]? = some v → (l.flatMap f)[k * W + j]? = some v
  | [], k, a, h, _, _, _ => by simp at h
  | b :: l, k, a, h, j, v, hv => by
    rw [List.flatMap_cons]
    have hj : j < W := by
      rcases Nat.lt_or_ge j W with h' | h'
      · exact h'
      · rw [List.getElem?_eq_none (by rw [hf]; exact h')] at hv; cases hv
    cases k with
    | zero =>
      simp only [List.getElem?_cons_zero] at h; cases h
      rw [Nat.zero_mul, Nat.zero_add, List.getElem?_append_left (by rw [hf]; exact hj)]; exact hv
    | succ k =>
      simp only [List.getElem?_cons_succ] at h
      have e : (k + 1) * W = k * W + W := Nat.succ_mul k W
      rw [List.getElem?_append_right (by rw [hf]; omega), hf, show (k + 1) * W + j - W = k * W + j by omega]
      exact flat3_at f hf h hv
/-- Where it lies. -/
structure RLay where
  b : Nat
  gL : Nat
  gV : Nat
  gT : Nat
  gF : Nat
  cL : Nat
  cV : Nat
  cT : Nat
  cF : Nat
/-- The slices that vary. -/
structure RV where
  vP : Value
  vR : Value
  vH : Value
  VL : Nat → Value
def rtop (vn : Value) (Y : RLay) (u : RV) (n : Nat) (room : Int) (r : RS) : Array Value :=
  #[vn, .slice (some ⟨Y.gL, 0, none⟩) n Y.cL, .slice (some ⟨Y.gV, 0, none⟩) n Y.cV, .slice (some ⟨Y.gT, 0, none⟩) n Y.cT, .slice (some ⟨Y.gF, 0, none⟩) n Y.cF, u.vP, u.vR, u.vH, .int .u64 (r.now : Nat), .int .i64 (r.left : Nat), .int .i64 room]
def nrow (g c n : Nat) (f : Nat → Nat) : Comp := rowW TU 1 (.slice (some ⟨g, 0, none⟩) n c) n ((List.range n).map (fun i => .int .u64 (f i : Nat)))
def lrow (u : RV) (r : RS) (i : Nat) : Comp := rowW TI 2 (u.VL i) (r.L i).length (pcs (r.L i))
def rcomps (vn : Value) (Y : RLay) (u : RV) (n : Nat) (room : Int) (r : RS) : List Comp :=
  [blkC Y.b (rtop vn Y u n room r) TT, rowW TLs 1 (.slice (some ⟨Y.gL, 0, none⟩) n Y.cL) n ((List.range n).map u.VL), nrow Y.gV Y.cV n r.Vi, nrow Y.gT Y.cT n r.Tg, nrow Y.gF Y.cF n r.Fr,
    rowW TPk 3 u.vP r.P.length (r.P.flatMap pc), rowW TRi 2 u.vR r.R.length (r.R.flatMap rc), rowW TI 2 u.vH r.H.length (pcs r.H)] ++ (List.range n).map (lrow u r)
theorem cells11 {w : World} {g : Nat} {t : TypeId} {a0 a1 a2 a3 a4 a5 a6 a7 a8 a9 a10 : Value} (h : Blk w g #[a0, a1, a2, a3, a4, a5, a6, a7, a8, a9, a10] t) :
    (w.cell? ⟨g, 0, none⟩ = some a0 ∧ w.cell? ⟨g, 1, none⟩ = some a1 ∧ w.cell? ⟨g, 2, none⟩ = some a2 ∧ w.cell? ⟨g, 3, none⟩ = some a3 ∧ w.cell? ⟨g, 4, none⟩ = some a4 ∧ w.cell? ⟨g, 5, none⟩ = some a5 ∧ w.cell? ⟨g, 6, none⟩ = some a6 ∧ w.cell? ⟨g, 7, none⟩ = some a7 ∧ w.cell? ⟨g, 8, none⟩ = some a8 ∧ w.cell? ⟨g, 9, none⟩ = some a9 ∧ w.cell? ⟨g, 10, none⟩ = some a10) ∧ ∀ k, w.frozen? ⟨g, k, none⟩ = false :=
  ⟨⟨h.cellAt rfl, h.cellAt rfl, h.cellAt rfl, h.cellAt rfl, h.cellAt rfl, h.cellAt rfl, h.cellAt rfl, h.cellAt rfl, h.cellAt rfl, h.cellAt rfl, h.cellAt rfl⟩, fun k => h.free k⟩
theorem Sep.has {w : World} {C : Comp} : ∀ {l : List Comp} {own : Nat → Prop}, Sep w l own → C ∈ l → ∃ o, C.P w o ∧ ∀ k, o k → own k
  | _ :: _, _, ⟨o, o', h1, h2, _, h4⟩, hC => by
    rcases List.mem_cons.1 hC with rfl | hC
    · exact ⟨o, h1, fun k hk => (h4 k).2 (.inl hk)⟩
    · obtain ⟨o2, a1, a2⟩ := Sep.has h2 hC
      exact ⟨o2, a1, fun k hk => (h4 k).2 (.inr (a2 k hk))⟩
section
variable {w w' : World} {own : Nat → Prop} {vn : Value} {Y : RLay} {u : RV} {n : Nat} {room : Int} {r : RS}
theorem r_blk (Q : List Comp) (h : Sep w (Q ++ rcomps vn Y u n room r) own) : Blk w Y.b (rtop vn Y u n room r) TT := by
  obtain ⟨o, h1, _⟩ := Sep.has (C := blkC Y.b (rtop vn Y u n room r) TT) h (List.mem_append_right _ (by simp [rcomps]))
  exact h1.1
theorem r_vl (Q : List Comp) (h : Sep w (Q ++ rcomps vn Y u n room r) own) {i : Nat} (hi : i < n) : w.cell? ⟨Y.gL, i, none⟩ = some (u.VL i) ∧ w.frozen? ⟨Y.gL, i, none⟩ = false := by
  obtain ⟨o, h1, _⟩ := Sep.has (C := rowW TLs 1 (.slice (some ⟨Y.gL, 0, none⟩) n Y.cL) n ((List.range n).map u.VL)) h (List.mem_append_right _ (by simp [rcomps]))
  exact rowW_cell h1 (by rw [List.getElem?_map, List.getElem?_range hi]; rfl)
theorem r_vi (Q : List Comp) (h : Sep w (Q ++ rcomps vn Y u n room r) own) {i : Nat} (hi : i < n) : w.cell? ⟨Y.gV, i, none⟩ = some (.int .u64 (r.Vi i : Nat)) ∧ w.frozen? ⟨Y.gV, i, none⟩ = false := by
  obtain ⟨o, h1, _⟩ := Sep.has (C := nrow Y.gV Y.cV n r.Vi) h (List.mem_append_right _ (by simp [rcomps]))
  exact rowW_cell h1 (by rw [List.getElem?_map, List.getElem?_range hi]; rfl)
theorem r_tg (Q : List Comp) (h : Sep w (Q ++ rcomps vn Y u n room r) own) {i : Nat} (hi : i < n) : w.cell? ⟨Y.gT, i, none⟩ = some (.int .u64 (r.Tg i : Nat)) ∧ w.frozen? ⟨Y.gT, i, none⟩ = false := by
  obtain ⟨o, h1, _⟩ := Sep.has (C := nrow Y.gT Y.cT n r.Tg) h (List.mem_append_right _ (by simp [rcomps]))
  exact rowW_cell h1 (by rw [List.getElem?_map, List.getElem?_range hi]; rfl)
theorem r_fr (Q : List Comp) (h : Sep w (Q ++ rcomps vn Y u n room r) own) {i : Nat} (hi : i < n) : w.cell? ⟨Y.gF, i, none⟩ = some (.int .u64 (r.Fr i : Nat)) ∧ w.frozen? ⟨Y.gF, i, none⟩ = false := by
  obtain ⟨o, h1, _⟩ := Sep.has (C := nrow Y.gF Y.cF n r.Fr) h (List.mem_append_right _ (by simp [rcomps]))
  exact rowW_cell h1 (by rw [List.getElem?_map, List.getElem?_range hi]; rfl)
theorem r_row (Q : List Comp) (h : Sep w (Q ++ rcomps vn Y u n room r) own) {i : Nat} (hi : i < n) : PRow TI 0 w (u.VL i) (r.L i) := by
  obtain ⟨o, h1, _⟩ := Sep.has (C := lrow u r i) h (List.mem_append_right _ (List.mem_append_right _ (List.mem_map.2 ⟨i, List.mem_range.2 hi, rfl⟩)))
  exact h1.1
theorem r_held (Q : List Comp) (h : Sep w (Q ++ rcomps vn Y u n room r) own) : PRow TI 0 w u.vH r.H := by
  obtain ⟨o, h1, _⟩ := Sep.has (C := rowW TI 2 u.vH r.H.length (pcs r.H)) h (List.mem_append_right _ (by simp [rcomps]))
  exact h1.1
theorem r_rs (Q : List Comp) (h : Sep w (Q ++ rcomps vn Y u n room r) own) : w.ownsRow 0 TRi 2 u.vR r.R.length (r.R.flatMap rc) := by
  obtain ⟨o, h1, _⟩ := Sep.has (C := rowW TRi 2 u.vR r.R.length (r.R.flatMap rc)) h (List.mem_append_right _ (by simp [rcomps]))
  exact h1.1
theorem r_ps (Q : List Comp) (h : Sep w (Q ++ rcomps vn Y u n room r) own) : w.ownsRow 0 TPk 3 u.vP r.P.length (r.P.flatMap pc) := by
  obtain ⟨o, h1, _⟩ := Sep.has (C := rowW TPk 3 u.vP r.P.length (r.P.flatMap pc)) h (List.mem_append_right _ (by simp [rcomps]))
  exact h1.1
theorem r_pk (Q : List Comp) (h : Sep w (Q ++ rcomps vn Y u n room r) own) {k : Nat} {p : Nat × Nat × Nat} (hk : r.P[k]? = some p) :
    ∃ g c, u.vP = .slice (some ⟨g, 0, none⟩) r.P.length c ∧ w.cell? ⟨g, k * 3, none⟩ = some (.int .u32 p.1) ∧ w.cell? ⟨g, k * 3 + 1, none⟩ = some (.int .u32 p.2.1) ∧ w.cell? ⟨g, k * 3 + 2, none⟩ = some (.int .u64 p.2.2) := by
  have hlt : k < r.P.length := by
    rcases Nat.lt_or_ge k r.P.length with h' | h'
    · exact h'
    · rw [List.getElem?_eq_none h'] at hk; cases hk
  obtain ⟨o, h1, _⟩ := Sep.has (C := rowW TPk 3 u.vP r.P.length (r.P.flatMap pc)) h (List.mem_append_right _ (by simp [rcomps]))
  obtain ⟨g, c, he⟩ := rowW_arr h1 (by omega)
  rw [he] at h1
  exact ⟨g, c, he, (rowW_cell h1 (flat3_at (W := 3) pc (fun _ => rfl) hk (j := 0) rfl)).1, (rowW_cell h1 (flat3_at (W := 3) pc (fun _ => rfl) hk (j := 1) rfl)).1, (rowW_cell h1 (flat3_at (W := 3) pc (fun _ => rfl) hk (j := 2) rfl)).1⟩
theorem r_rk (Q : List Comp) (h : Sep w (Q ++ rcomps vn Y u n room r) own) {k : Nat} {p : Nat × Nat} (hk : r.R[k]? = some p) :
    ∃ g c, u.vR = .slice (some ⟨g, 0, none⟩) r.R.length c ∧ w.cell? ⟨g, k * 2, none⟩ = some (.int .i64 p.1) ∧ w.cell? ⟨g, k * 2 + 1, none⟩ = some (.int .u64 p.2) := by
  have hlt : k < r.R.length := by
    rcases Nat.lt_or_ge k r.R.length with h' | h'
    · exact h'
    · rw [List.getElem?_eq_none h'] at hk; cases hk
  obtain ⟨o, h1, _⟩ := Sep.has (C := rowW TRi 2 u.vR r.R.length (r.R.flatMap rc)) h (List.mem_append_right _ (by simp [rcomps]))
  obtain ⟨g, c, he⟩ := rowW_arr h1 (by omega)
  rw [he] at h1
  exact ⟨g, c, he, (rowW_cell h1 (flat3_at (W := 2) rc (fun _ => rfl) hk (j := 0) rfl)).1, (rowW_cell h1 (flat3_at (W := 2) rc (fun _ => rfl) hk (j := 1) rfl)).1⟩
theorem range_set {α : Type} (f : Nat → α) (i : Nat) (x : α) (K : Nat) : ((List.range K).map f).set i x = (List.range K).map (up f i x) := by
  apply List.ext_getElem?
  intro j
  rw [List.getElem?_set, List.length_map, List.length_range, List.getElem?_map, List.getElem?_map]
  by_cases e : i = j
  · subst e
    rw [if_pos rfl]
    by_cases h : i < K
    · rw [if_pos h, List.getElem?_range h]; simp [up]
    · rw [if_neg h, List.getElem?_eq_none (by simpa using h)]; rfl
  · rw [if_neg e]
    rcases Nat.lt_or_ge j K with h | h
    · rw [List.getElem?_range h]; simp [up, show ¬ j = i from fun h => e h.symm]
    · rw [List.getElem?_eq_none (by simpa using h)]; rfl
/-- A cell of a row of numbers is written. -/
theorem nrow_set {g c i : Nat} {f : Nat → Nat} {o : Nat → Prop} (h : (nrow g c n f).P w o) (x : Nat) : (nrow g c n (up f i x)).P (w.setCell ⟨g, i, none⟩ (.int .u64 (x : Nat))) o ∧ Fol w o (w.setCell ⟨g, i, none⟩ (.int .u64 (x : Nat))) o := by
  obtain ⟨a1, a2⟩ := rowW_set h i (.int .u64 (x : Nat))
  rw [range_set] at a1
  have e : up (fun i => Value.int .u64 ((f i : Nat) : Int)) i (.int .u64 (x : Nat)) = fun j => .int .u64 (up f i x j : Nat) := funext fun j => by
    unfold up; split <;> rfl
  rw [e] at a1
  exact ⟨a1, a2⟩
theorem r_set_tg (Q : List Comp) (h : Sep w (Q ++ rcomps vn Y u n room r) own) (i x : Nat) : ∃ own', Sep (w.setCell ⟨Y.gT, i, none⟩ (.int .u64 (x : Nat))) (Q ++ rcomps vn Y u n room { r with Tg := up r.Tg i x }) own' ∧ Fol w own (w.setCell ⟨Y.gT, i, none⟩ (.int .u64 (x : Nat))) own' := by
  have h' : Sep w ((Q ++ [blkC Y.b (rtop vn Y u n room r) TT, rowW TLs 1 (.slice (some ⟨Y.gL, 0, none⟩) n Y.cL) n ((List.range n).map u.VL), nrow Y.gV Y.cV n r.Vi]) ++ nrow Y.gT Y.cT n r.Tg :: ([nrow Y.gF Y.cF n r.Fr, rowW TPk 3 u.vP r.P.length (r.P.flatMap pc), rowW TRi 2 u.vR r.R.length (r.R.flatMap rc), rowW TI 2 u.vH r.H.length (pcs r.H)] ++ (List.range n).map (lrow u r))) own := by rw [List.append_assoc]; exact h
  obtain ⟨o, h1, _, h3⟩ := Sep.foc _ _ _ h'
  obtain ⟨a1, a2⟩ := nrow_set h1 (i := i) x
  obtain ⟨own', b1, b2⟩ := h3 _ o _ a1 a2
  rw [List.append_assoc] at b1
  exact ⟨own', b1, b2⟩
theorem r_set_vi (Q : List Comp) (h : Sep w (Q ++ rcomps vn Y u n room r) own) (i x : Nat) : ∃ own', Sep (w.setCell ⟨Y.gV, i, none⟩ (.int .u64 (x : Nat))) (Q ++ rcomps vn Y u n room { r with Vi := up r.Vi i x }) own' ∧ Fol w own (w.setCell ⟨Y.gV, i, none⟩ (.int .u64 (x : Nat))) own' := by
  have h' : Sep w ((Q ++ [blkC Y.b (rtop vn Y u n room r) TT, rowW TLs 1 (.slice (some ⟨Y.gL, 0, none⟩) n Y.cL) n ((List.range n).map u.VL)]) ++ nrow Y.gV Y.cV n r.Vi :: ([nrow Y.gT Y.cT n r.Tg, nrow Y.gF Y.cF n r.Fr, rowW TPk 3 u.vP r.P.length (r.P.flatMap pc), rowW TRi 2 u.vR r.R.length (r.R.flatMap rc), rowW TI 2 u.vH r.H.length (pcs r.H)] ++ (List.range n).map (lrow u r))) own := by rw [List.append_assoc]; exact h
  obtain ⟨o, h1, _, h3⟩ := Sep.foc _ _ _ h'
  obtain ⟨a1, a2⟩ := nrow_set h1 (i := i) x
  obtain ⟨own', b1, b2⟩ := h3 _ o _ a1 a2
  rw [List.append_assoc] at b1
  exact ⟨own', b1, b2⟩
theorem r_set_fr (Q : List Comp) (h : Sep w (Q ++ rcomps vn Y u n room r) own) (i x : Nat) : ∃ own', Sep (w.setCell ⟨Y.gF, i, none⟩ (.int .u64 (x : Nat))) (Q ++ rcomps vn Y u n room { r with Fr := up r.Fr i x }) own' ∧ Fol w own (w.setCell ⟨Y.gF, i, none⟩ (.int .u64 (x : Nat))) own' := by
  have h' : Sep w ((Q ++ [blkC Y.b (rtop vn Y u n room r) TT, rowW TLs 1 (.slice (some ⟨Y.gL, 0, none⟩) n Y.cL) n ((List.range n).map u.VL), nrow Y.gV Y.cV n r.Vi, nrow Y.gT Y.cT n r.Tg]) ++ nrow Y.gF Y.cF n r.Fr :: ([rowW TPk 3 u.vP r.P.length (r.P.flatMap pc), rowW TRi 2 u.vR r.R.length (r.R.flatMap rc), rowW TI 2 u.vH r.H.length (pcs r.H)] ++ (List.range n).map (lrow u r))) own := by rw [List.append_assoc]; exact h
  obtain ⟨o, h1, _, h3⟩ := Sep.foc _ _ _ h'
  obtain ⟨a1, a2⟩ := nrow_set h1 (i := i) x
  obtain ⟨own', b1, b2⟩ := h3 _ o _ a1 a2
  rw [List.append_assoc] at b1
  exact ⟨own', b1, b2⟩
/-- A field of the tree is written. -/
theorem r_set_b (Q : List Comp) (h : Sep w (Q ++ rcomps vn Y u n room r) own) (k : Nat) (v : Value) {u' : RV} {r' : RS} (e : (rtop vn Y u n room r).setIfInBounds k v = rtop vn Y u' n room r')
    {l : List Comp} (el : rcomps vn Y u' n room r' = blkC Y.b (rtop vn Y u' n room r') TT :: l) (hl : rcomps vn Y u n room r = blkC Y.b (rtop vn Y u n room r) TT :: l) :
    ∃ own', Sep (w.setCell ⟨Y.b, k, none⟩ v) (Q ++ rcomps vn Y u' n room r') own' ∧ Fol w own (w.setCell ⟨Y.b, k, none⟩ v) own' := by
  rw [hl] at h
  obtain ⟨o, h1, _, h3⟩ := Sep.foc _ _ _ h
  have hb : o Y.b := (h1.2 _).2 rfl
  obtain ⟨own', b1, b2⟩ := h3 (w.setCell ⟨Y.b, k, none⟩ v) o (blkC Y.b (rtop vn Y u' n room r') TT) ⟨by rw [← e]; exact h1.1.set k v, h1.2⟩ ⟨fun k hk => .inl hk, Upd.setCell (Upd.refl _ _) (fun _ => hb) v⟩
  rw [el]
  exact ⟨own', b1, b2⟩
/-- A row is turned, then a field of the block. -/
theorem Sep.two {b : Nat} {c : Array Value} {t : TypeId} {C : Comp} (Q A B : List Comp) (h : Sep w (Q ++ blkC b c t :: (A ++ C :: B)) own) :
    ∃ o, C.P w o ∧ ∀ (w' : World) (o' : Nat → Prop) (C' : Comp), C'.P w' o' → Fol w o w' o' → ∀ (k : Nat) (v : Value), ∃ own', Sep (w'.setCell ⟨b, k, none⟩ v) (Q ++ blkC b (c.setIfInBounds k v) t :: (A ++ C' :: B)) own' ∧ Fol w own (w'.setCell ⟨b, k, none⟩ v) own' := by
  have h' : Sep w ((Q ++ blkC b c t :: A) ++ C :: B) own := by rw [List.append_assoc]; exact h
  obtain ⟨o, h1, _, h3⟩ := Sep.foc _ _ _ h'
  refine ⟨o, h1, fun w' o' C' hC hf k v => ?_⟩
  obtain ⟨own1, a1, a2⟩ := h3 w' o' C' hC hf
  rw [List.append_assoc] at a1
  obtain ⟨o2, b1, _, b3⟩ := Sep.foc (blkC b c t) (A ++ C' :: B) Q a1
  have hb : o2 b := (b1.2 _).2 rfl
  obtain ⟨own2, c1, c2⟩ := b3 (w'.setCell ⟨b, k, none⟩ v) o2 (blkC b (c.setIfInBounds k v) t) ⟨b1.1.set k v, b1.2⟩ ⟨fun k hk => .inl hk, Upd.setCell (Upd.refl _ _) (fun _ => hb) v⟩
  exact ⟨own2, c1, a2.trans c2⟩
/-- A row that was made stands for an elder one. -/
theorem row_new {T : TypeId} {W m n' : Nat} {v v' : Value} {xs ys : List Value} {o : Nat → Prop} {base : Nat} (_ : (rowW T W v m xs).P w o) (hu : Upd Nowhere w w') (hb : w.heap.size ≤ base) (hr : w'.ownsRow base T W v' n' ys) : (rowW T W v' n' ys).P w' (fun k => v'.ownBlock = some k) ∧ Fol w o w' (fun k => v'.ownBlock = some k) :=
  ⟨⟨ownsRow_base hr (Nat.zero_le _), fun _ => Iff.rfl⟩, ⟨fun k hk => .inr (Nat.le_trans hb (hr.lt k hk).1), hu.any _⟩⟩
theorem r_new_held (Q : List Comp) (h : Sep w (Q ++ rcomps vn Y u n room r) own) {v : Value} {H : List (Nat × Int)} (hu : Upd Nowhere w w') (hr : PRow TI w.heap.size w' v H) :
    ∃ own', Sep (w'.setCell ⟨Y.b, 7, none⟩ v) (Q ++ rcomps vn Y { u with vH := v } n room { r with H := H }) own' ∧ Fol w own (w'.setCell ⟨Y.b, 7, none⟩ v) own' := by
  have h' : Sep w (Q ++ blkC Y.b (rtop vn Y u n room r) TT :: ([rowW TLs 1 (.slice (some ⟨Y.gL, 0, none⟩) n Y.cL) n ((List.range n).map u.VL), nrow Y.gV Y.cV n r.Vi, nrow Y.gT Y.cT n r.Tg, nrow Y.gF Y.cF n r.Fr, rowW TPk 3 u.vP r.P.length (r.P.flatMap pc), rowW TRi 2 u.vR r.R.length (r.R.flatMap rc)] ++ rowW TI 2 u.vH r.H.length (pcs r.H) :: (List.range n).map (lrow u r))) own := h
  obtain ⟨o, h1, h3⟩ := Sep.two _ _ _ h'
  obtain ⟨a1, a2⟩ := row_new h1 hu (Nat.le_refl _) hr
  exact h3 w' _ _ a1 a2 7 v
theorem r_push_rise (Q : List Comp) (h : Sep w (Q ++ rcomps vn Y u n room r) own) {w1 : World} {v : Value} {p : Nat × Nat} (hx : Upd Nowhere w w1) (ho : w'.ownsRow 0 TRi 2 v (r.R.length + 1) (r.R.flatMap rc ++ rc p)) (hu : Upd (fun k => u.vR.ownBlock = some k) w1 w') (hn : OwnOrNew w1 u.vR v) :
    ∃ own', Sep (w'.setCell ⟨Y.b, 6, none⟩ v) (Q ++ rcomps vn Y { u with vR := v } n room { r with R := r.R ++ [p] }) own' ∧ Fol w own (w'.setCell ⟨Y.b, 6, none⟩ v) own' := by
  have h' : Sep w (Q ++ blkC Y.b (rtop vn Y u n room r) TT :: ([rowW TLs 1 (.slice (some ⟨Y.gL, 0, none⟩) n Y.cL) n ((List.range n).map u.VL), nrow Y.gV Y.cV n r.Vi, nrow Y.gT Y.cT n r.Tg, nrow Y.gF Y.cF n r.Fr, rowW TPk 3 u.vP r.P.length (r.P.flatMap pc)] ++ rowW TRi 2 u.vR r.R.length (r.R.flatMap rc) :: (rowW TI 2 u.vH r.H.length (pcs r.H) :: (List.range n).map (lrow u r)))) own := h
  obtain ⟨o, h1, h3⟩ := Sep.two _ _ _ h'
  obtain ⟨a1, a2⟩ := rowW_push h1 hx ho hu hn
  have e1 : (r.R ++ [p]).length = r.R.length + 1 := by simp
  have e2 : (r.R ++ [p]).flatMap rc = r.R.flatMap rc ++ rc p := by rw [List.flatMap_append]; simp
  obtain ⟨own', b1, b2⟩ := h3 w' _ (rowW TRi 2 v (r.R ++ [p]).length ((r.R ++ [p]).flatMap rc)) (by rw [e1, e2]; exact a1) a2 6 v
  exact ⟨own', b1, b2⟩
theorem r_push_pk (Q : List Comp) (h : Sep w (Q ++ rcomps vn Y u n room r) own) {w1 : World} {v : Value} {p : Nat × Nat × Nat} (hx : Upd Nowhere w w1) (ho : w'.ownsRow 0 TPk 3 v (r.P.length + 1) (r.P.flatMap pc ++ pc p)) (hu : Upd (fun k => u.vP.ownBlock = some k) w1 w') (hn : OwnOrNew w1 u.vP v) :
    ∃ own', Sep (w'.setCell ⟨Y.b, 5, none⟩ v) (Q ++ rcomps vn Y { u with vP := v } n room { r with P := r.P ++ [p] }) own' ∧ Fol w own (w'.setCell ⟨Y.b, 5, none⟩ v) own' := by
  have h' : Sep w (Q ++ blkC Y.b (rtop vn Y u n room r) TT :: ([rowW TLs 1 (.slice (some ⟨Y.gL, 0, none⟩) n Y.cL) n ((List.range n).map u.VL), nrow Y.gV Y.cV n r.Vi, nrow Y.gT Y.cT n r.Tg, nrow Y.gF Y.cF n r.Fr] ++ rowW TPk 3 u.vP r.P.length (r.P.flatMap pc) :: (rowW TRi 2 u.vR r.R.length (r.R.flatMap rc) :: rowW TI 2 u.vH r.H.length (pcs r.H) :: (List.range n).map (lrow u r)))) own := h
  obtain ⟨o, h1, h3⟩ := Sep.two _ _ _ h'
  obtain ⟨a1, a2⟩ := rowW_push h1 hx ho hu hn
  have e1 : (r.P ++ [p]).length = r.P.length + 1 := by simp
  have e2 : (r.P ++ [p]).flatMap pc = r.P.flatMap pc ++ pc p := by rw [List.flatMap_append]; simp
  obtain ⟨own', b1, b2⟩ := h3 w' _ (rowW TPk 3 v (r.P ++ [p]).length ((r.P ++ [p]).flatMap pc)) (by rw [e1, e2]; exact a1) a2 5 v
  exact ⟨own', b1, b2⟩
theorem lrow_up (i : Nat) (v : Value) (l : List (Nat × Int)) : (fun k => if k = i then rowW TI 2 v l.length (pcs l) else lrow u r k) = lrow { u with VL := up u.VL i v } { r with L := up r.L i l } := funext fun k => by
  by_cases h : k = i
  · subst h
    rw [if_pos rfl]
    show _ = rowW TI 2 (up u.VL k v k) (up r.L k l k).length (pcs (up r.L k l k))
    rw [up_at, up_at]
  · rw [if_neg h]
    show _ = rowW TI 2 (up u.VL i v k) (up r.L i l k).length (pcs (up r.L i l k))
    rw [up_off _ h, up_off _ h]
    rfl
/-- A node's list was made anew, and is laid into the row. -/
theorem r_new_row (Q : List Comp) (h : Sep w (Q ++ rcomps vn Y u n room r) own) {i : Nat} (hi : i < n) {v : Value} {l : List (Nat × Int)} (hu : Upd Nowhere w w') (hr : PRow TI w.heap.size w' v l) :
    ∃ own', Sep (w'.setCell ⟨Y.gL, i, none⟩ v) (Q ++ rcomps vn Y { u with VL := up u.VL i v } n room { r with L := up r.L i l }) own' ∧ Fol w own (w'.setCell ⟨Y.gL, i, none⟩ v) own' := by
  have h' : Sep w ((Q ++ [blkC Y.b (rtop vn Y u n room r) TT, rowW TLs 1 (.slice (some ⟨Y.gL, 0, none⟩) n Y.cL) n ((List.range n).map u.VL), nrow Y.gV Y.cV n r.Vi, nrow Y.gT Y.cT n r.Tg, nrow Y.gF Y.cF n r.Fr, rowW TPk 3 u.vP r.P.length (r.P.flatMap pc), rowW TRi 2 u.vR r.R.length (r.R.flatMap rc), rowW TI 2 u.vH r.H.length (pcs r.H)]) ++ (List.range n).map (lrow u r)) own := by rw [List.append_assoc]; exact h
  obtain ⟨o, h1, _, h3⟩ := Sep.nth _ _ h' (List.mem_range.2 hi) List.nodup_range
  obtain ⟨a1, a2⟩ := row_new h1 hu (Nat.le_refl _) hr
  obtain ⟨own1, b1, b2⟩ := h3 w' _ _ a1 a2
  rw [lrow_up, List.append_assoc] at b1
  have h4 : Sep w' ((Q ++ [blkC Y.b (rtop vn Y u n room r) TT]) ++ rowW TLs 1 (.slice (some ⟨Y.gL, 0, none⟩) n Y.cL) n ((List.range n).map u.VL) :: ([nrow Y.gV Y.cV n r.Vi, nrow Y.gT Y.cT n r.Tg, nrow Y.gF Y.cF n r.Fr, rowW TPk 3 u.vP r.P.length (r.P.flatMap pc), rowW TRi 2 u.vR r.R.length (r.R.flatMap rc), rowW TI 2 u.vH r.H.length (pcs r.H)] ++ (List.range n).map (lrow { u with VL := up u.VL i v } { r with L := up r.L i l }))) own1 := by rw [List.append_assoc]; exact b1
  obtain ⟨o2, c1, _, c3⟩ := Sep.foc _ _ _ h4
  obtain ⟨d1, d2⟩ := rowW_set c1 i v
  rw [range_set] at d1
  obtain ⟨own2, e1, e2⟩ := c3 _ o2 _ d1 d2
  rw [List.append_assoc] at e1
  exact ⟨own2, e1, b2.trans e2⟩
end
/-- The tree's block is none of its rows. -/
theorem sep_ne {w : World} {l : List Comp} {own : Nat → Prop} {b g n c W : Nat} {cs : Array Value} {t T : TypeId} {xs : List Value} (h : Sep w l own) (l1 l2 : List Comp) (hl : l = l1 ++ blkC b cs t :: l2) (hD : rowW T W (.slice (some ⟨g, 0, none⟩) n c) n xs ∈ l1 ++ l2) : b ≠ g := by
  rw [hl] at h
  obtain ⟨o, o', h1, h2, h3, _⟩ := Sep.perm (l' := blkC b cs t :: (l1 ++ l2)) List.perm_middle h
  obtain ⟨oD, a1, a2⟩ := Sep.has h2 hD
  intro e
  exact h3 b ((h1.2 b).2 rfl) (a2 b ((a1.2 b).2 (by rw [e]; rfl)))
/-- The nodes, as they were handed in. -/
theorem nodes_get {w0 wB : World} {ad : Option Addr} {nl : List Nd} (h : NodesAt w0 ad nl) (hu : Upd Nowhere w0 wB) (hok : Tree.okL 0 nl = true) {i : Nat} (hi : i < nl.length) :
    ∃ ga oa, ad = some ⟨ga, oa, none⟩ ∧
    (wB.cell? ⟨ga, oa + i * 4, none⟩ = some (.int .i64 ((shOf nl).par i : Nat)) ∧ wB.cell? ⟨ga, oa + i * 4 + 1, none⟩ = some (.int .i64 ((shOf nl).kind i : Nat)) ∧ wB.cell? ⟨ga, oa + i * 4 + 2, none⟩ = some (.int .u64 ((shOf nl).wt i : Nat)) ∧ wB.cell? ⟨ga, oa + i * 4 + 3, none⟩ = some (.int .u64 ((shOf nl).gap i : Nat))) ∧
    (wB.cell? ⟨ga, oa + (i * 4 + 1), none⟩ = some (.int .i64 ((shOf nl).kind i : Nat)) ∧ wB.cell? ⟨ga, oa + (i * 4 + 2), none⟩ = some (.int .u64 ((shOf nl).wt i : Nat)) ∧ wB.cell? ⟨ga, oa + (i * 4 + 3), none⟩ = some (.int .u64 ((shOf nl).gap i : Nat))) := by
  cases ad with
  | none => have := h.none rfl; omega
  | some b =>
    obtain ⟨g, o, sp⟩ := b
    obtain ⟨hs, hc⟩ := h.at_ _ rfl (by omega)
    simp only at hs
    subst hs
    have hx : nl[i]? = some (nl[i]'hi) := List.getElem?_eq_getElem hi
    obtain ⟨k1, _, k2, _, _⟩ := Tree.nth_ok hok hi
    rw [Tree.nth_at hx] at k1 k2
    obtain ⟨r0, r1, r2, r3⟩ := hc i _ hx
    have e0 : (nl[i]'hi).par = (((shOf nl).par i : Nat) : Int) := by
      show _ = (((Tree.nth nl i).par.toNat : Nat) : Int)
      rw [Tree.nth_at hx]; omega
    have e1 : (nl[i]'hi).kind = (((shOf nl).kind i : Nat) : Int) := by
      show _ = (((Tree.nth nl i).kind.toNat : Nat) : Int)
      rw [Tree.nth_at hx]; omega
    have e2 : (nl[i]'hi).wt = (shOf nl).wt i := by
      show _ = (Tree.nth nl i).wt
      rw [Tree.nth_at hx]
    have e3 : (nl[i]'hi).gap = (shOf nl).gap i := by
      show _ = (Tree.nth nl i).gap
      rw [Tree.nth_at hx]
    rw [e0] at r0; rw [e1] at r1; rw [e2] at r2; rw [e3] at r3
    have s0 := cell_old hu r0
    have s1 := cell_old hu r1
    have s2 := cell_old hu r2
    have s3 := cell_old hu r3
    exact ⟨g, o, rfl, ⟨s0, s1, s2, s3⟩, by rw [← Nat.add_assoc]; exact s1, by rw [← Nat.add_assoc]; exact s2, by rw [← Nat.add_assoc]; exact s3⟩
theorem nodes_at {w0 wB : World} {ga oa : Nat} {nl : List Nd} (h : NodesAt w0 (some ⟨ga, oa, none⟩) nl) (hu : Upd Nowhere w0 wB) (hok : Tree.okL 0 nl = true) {i : Nat} (hi : i < nl.length) :
    (wB.cell? ⟨ga, oa + i * 4, none⟩ = some (.int .i64 ((shOf nl).par i : Nat)) ∧ wB.cell? ⟨ga, oa + i * 4 + 1, none⟩ = some (.int .i64 ((shOf nl).kind i : Nat)) ∧ wB.cell? ⟨ga, oa + i * 4 + 2, none⟩ = some (.int .u64 ((shOf nl).wt i : Nat)) ∧ wB.cell? ⟨ga, oa + i * 4 + 3, none⟩ = some (.int .u64 ((shOf nl).gap i : Nat))) ∧
    (wB.cell? ⟨ga, oa + (i * 4 + 1), none⟩ = some (.int .i64 ((shOf nl).kind i : Nat)) ∧ wB.cell? ⟨ga, oa + (i * 4 + 2), none⟩ = some (.int .u64 ((shOf nl).wt i : Nat)) ∧ wB.cell? ⟨ga, oa + (i * 4 + 3), none⟩ = some (.int .u64 ((shOf nl).gap i : Nat))) := by
  obtain ⟨_, _, e, h1, h2⟩ := nodes_get h hu hok hi
  cases e
  exact ⟨h1, h2⟩
theorem sep_ne' {w : World} {l : List Comp} {own : Nat → Prop} {b n W : Nat} {cs : Array Value} {t T : TypeId} {xs : List Value} {v : Value} (h : Sep w l own) (l1 l2 : List Comp) (hl : l = l1 ++ blkC b cs t :: l2) (hD : rowW T W v n xs ∈ l1 ++ l2) : v.ownBlock ≠ some b := by
  rw [hl] at h
  obtain ⟨o, o', h1, h2, h3, _⟩ := Sep.perm (l' := blkC b cs t :: (l1 ++ l2)) List.perm_middle h
  obtain ⟨oD, a1, a2⟩ := Sep.has h2 hD
  intro e
  exact h3 b ((h1.2 b).2 rfl) (a2 b ((a1.2 b).2 e))
theorem r_ne_rs (Q : List Comp) {w : World} {own : Nat → Prop} {vn : Value} {Y : RLay} {u : RV} {n : Nat} {room : Int} {r : RS} (h : Sep w (Q ++ rcomps vn Y u n room r) own) : u.vR.ownBlock ≠ some Y.b :=
  sep_ne' h Q _ rfl (T := TRi) (W := 2) (n := r.R.length) (xs := r.R.flatMap rc) (List.mem_append_right _ (by simp))
theorem r_ne_ps (Q : List Comp) {w : World} {own : Nat → Prop} {vn : Value} {Y : RLay} {u : RV} {n : Nat} {room : Int} {r : RS} (h : Sep w (Q ++ rcomps vn Y u n room r) own) : u.vP.ownBlock ≠ some Y.b :=
  sep_ne' h Q _ rfl (T := TPk) (W := 3) (n := r.P.length) (xs := r.P.flatMap pc) (List.mem_append_right _ (by simp))
theorem cell_off {w w1 w' : World} {S : Nat → Prop} {b i : Nat} {v : Value} (hx : Upd Nowhere w w1) (hu : Upd S w1 w') (hs : ¬ S b) (h : w.cell? ⟨b, i, none⟩ = some v) (hf : w.frozen? ⟨b, i, none⟩ = false) : w'.cell? ⟨b, i, none⟩ = some v ∧ w'.frozen? ⟨b, i, none⟩ = false := by
  have hlt : b < w.heap.size := cell_lt h
  have hlx := Nat.lt_of_lt_of_le hlt hx.size
  exact ⟨by rw [hu.cell i hlx hs, hx.cell i hlt id]; exact h, by rw [hu.frozen i hlx hs, hx.frozen i hlt id]; exact hf⟩
theorem r_ne (Q : List Comp) {w : World} {own : Nat → Prop} {vn : Value} {Y : RLay} {u : RV} {n : Nat} {room : Int} {r : RS} (h : Sep w (Q ++ rcomps vn Y u n room r) own) : Y.b ≠ Y.gL ∧ Y.b ≠ Y.gV ∧ Y.b ≠ Y.gT ∧ Y.b ≠ Y.gF :=
  ⟨sep_ne h Q _ rfl (T := TLs) (W := 1) (n := n) (c := Y.cL) (xs := (List.range n).map u.VL) (List.mem_append_right _ (by simp)),
   sep_ne h Q _ rfl (T := TU) (W := 1) (n := n) (c := Y.cV) (xs := (List.range n).map (fun i => .int .u64 (r.Vi i : Nat))) (List.mem_append_right _ (by simp [nrow])),
   sep_ne h Q _ rfl (T := TU) (W := 1) (n := n) (c := Y.cT) (xs := (List.range n).map (fun i => .int .u64 (r.Tg i : Nat))) (List.mem_append_right _ (by simp [nrow])),
   sep_ne h Q _ rfl (T := TU) (W := 1) (n := n) (c := Y.cF) (xs := (List.range n).map (fun i => .int .u64 (r.Fr i : Nat))) (List.mem_append_right _ (by simp [nrow]))⟩
theorem keepS3 {w : World} {g i : Nat} {v v0 v1 v2 : Value} {a0 a1 a2 : Addr} (h : w.cell? a0 = some v0 ∧ w.cell? a1 = some v1 ∧ w.cell? a2 = some v2) (n0 : a0.block ≠ g) (n1 : a1.block ≠ g) (n2 : a2.block ≠ g) :
    (w.setCell ⟨g, i, none⟩ v).cell? a0 = some v0 ∧ (w.setCell ⟨g, i, none⟩ v).cell? a1 = some v1 ∧ (w.setCell ⟨g, i, none⟩ v).cell? a2 = some v2 := by
  have k : ∀ {x : Addr} {u : Value}, x.block ≠ g → w.cell? x = some u → (w.setCell ⟨g, i, none⟩ v).cell? x = some u := fun {x u} hx hc => by
    rw [World.cell?_of_block (w := w) (Below.heap_setCell _ _ _ _ hx)]; exact hc
  exact ⟨k n0 h.1, k n1 h.2.1, k n2 h.2.2⟩
theorem keepT3 {w : World} {b : Nat} {u v0 v1 v2 : Value} {a1 a2 : Addr} (h : w.cell? ⟨b, 6, none⟩ = some v0 ∧ w.cell? a1 = some v1 ∧ w.cell? a2 = some v2) (n1 : a1.block ≠ b) (n2 : a2.block ≠ b) :
    (w.setCell ⟨b, 7, none⟩ u).cell? ⟨b, 6, none⟩ = some v0 ∧ (w.setCell ⟨b, 7, none⟩ u).cell? a1 = some v1 ∧ (w.setCell ⟨b, 7, none⟩ u).cell? a2 = some v2 := by
  have k : ∀ {x : Addr} {y : Value}, x.block ≠ b → w.cell? x = some y → (w.setCell ⟨b, 7, none⟩ u).cell? x = some y := fun {x y} hx hc => by
    rw [World.cell?_of_block (w := w) (Below.heap_setCell _ _ _ _ hx)]; exact hc
  exact ⟨by rw [World.cell?_setCell_other _ _ _ _ (by simp)]; exact h.1, k n1 h.2.1, k n2 h.2.2⟩
theorem keepC3' {P : Program} {f : FuncId} {args : Array Value} {w : World} {V v0 v1 v2 : Value} {a0 a1 a2 : Addr} (h : Calls P f args w fun e w' => e = .returned V ∧ Upd Nowhere w w') (hS : w.cell? a0 = some v0 ∧ w.cell? a1 = some v1 ∧ w.cell? a2 = some v2) :
    Calls P f args w fun e w' => e = .returned V ∧ (w'.cell? a0 = some v0 ∧ w'.cell? a1 = some v1 ∧ w'.cell? a2 = some v2) ∧ Upd Nowhere w w' := h.mono fun _ _ ⟨x, y⟩ => ⟨x, ⟨cell_old y hS.1, cell_old y hS.2.1, cell_old y hS.2.2⟩, y⟩
theorem keepS4 {w : World} {g i : Nat} {v v0 v1 v2 v3 : Value} {a0 a1 a2 a3 : Addr} (h : w.cell? a0 = some v0 ∧ w.cell? a1 = some v1 ∧ w.cell? a2 = some v2 ∧ w.cell? a3 = some v3) (n0 : a0.block ≠ g) (n1 : a1.block ≠ g) (n2 : a2.block ≠ g) (n3 : a3.block ≠ g) :
    (w.setCell ⟨g, i, none⟩ v).cell? a0 = some v0 ∧ (w.setCell ⟨g, i, none⟩ v).cell? a1 = some v1 ∧ (w.setCell ⟨g, i, none⟩ v).cell? a2 = some v2 ∧ (w.setCell ⟨g, i, none⟩ v).cell? a3 = some v3 := by
  have k : ∀ {x : Addr} {u : Value}, x.block ≠ g → w.cell? x = some u → (w.setCell ⟨g, i, none⟩ v).cell? x = some u := fun {x u} hx hc => by
    rw [World.cell?_of_block (w := w) (Below.heap_setCell _ _ _ _ hx)]; exact hc
  exact ⟨k n0 h.1, k n1 h.2.1, k n2 h.2.2.1, k n3 h.2.2.2⟩
theorem keepC4' {P : Program} {f : FuncId} {args : Array Value} {w : World} {V v0 v1 v2 v3 : Value} {a0 a1 a2 a3 : Addr} (h : Calls P f args w fun e w' => e = .returned V ∧ Upd Nowhere w w') (hS : w.cell? a0 = some v0 ∧ w.cell? a1 = some v1 ∧ w.cell? a2 = some v2 ∧ w.cell? a3 = some v3) :
    Calls P f args w fun e w' => e = .returned V ∧ (w'.cell? a0 = some v0 ∧ w'.cell? a1 = some v1 ∧ w'.cell? a2 = some v2 ∧ w'.cell? a3 = some v3) ∧ Upd Nowhere w w' := h.mono fun _ _ ⟨x, y⟩ => ⟨x, ⟨cell_old y hS.1, cell_old y hS.2.1, cell_old y hS.2.2.1, cell_old y hS.2.2.2⟩, y⟩
/-- What was made is turned. -/
theorem mlift {w0 w w' : World} {l l' : List Comp} (h : Made w0 w l) (F : ∀ own, Sep w l own → ∃ own', Sep w' l' own' ∧ Fol w own w' own') : Made w0 w' l' := by
  obtain ⟨own, h1, h2, h3⟩ := h
  obtain ⟨own', b1, b2⟩ := F own h1
  exact ⟨own', b1, fun k hk => (b2.at_ k hk).elim (h2 k) (fun h4 => Nat.le_trans h3.size h4), h3.trans b2.upd (fun k hlt hk => absurd (h2 k hk) (Nat.not_le.2 hlt))⟩
/-- Numbers that fit. -/
structure RFit (r : RS) : Prop where
  vi : ∀ i, r.Vi i ≤ 18446744073709551615
  tg : ∀ i, r.Tg i ≤ 18446744073709551615
  fr : ∀ i, r.Fr i ≤ 18446744073709551615
  pk : ∀ p ∈ r.P, p.1 < 4294967296 ∧ p.2.1 < 4294967296 ∧ p.2.2 ≤ 18446744073709551615
theorem rtag_fit {sh : Sh} {r : RS} (h : RFit r) (v : Nat) (x : Int) (b : Nat) : RFit (rtag sh r v x b) := by
  unfold rtag
  split
  · exact ⟨h.vi, Tree.up_le h.tg (Tree.mad_le _ _ _) _, h.fr, h.pk⟩
  · exact h
theorem rcome_fit {sh : Sh} : ∀ (f : Nat) {r : RS}, RFit r → ∀ (t v : Nat) (x : Int) (b : Nat), RFit (rcome sh f r t v x b)
  | 0, _, h, _, _, _, _ => h
  | f + 1, r, h, t, v, x, b => by
    have h1 : RFit (rent sh r v x b) := ⟨(rtag_fit h v x b).vi, (rtag_fit h v x b).tg, (rtag_fit h v x b).fr, (rtag_fit h v x b).pk⟩
    unfold rcome
    split
    · exact h1
    · split
      · exact rcome_fit f h1 _ _ _ _
      · exact ⟨h1.vi, h1.tg, Tree.up_le h1.fr (Tree.mad_le _ _ _) _, h1.pk⟩
end Go.Proofs.YtllfloapiliheaaDoor.R30
namespace Go.Proofs.YtllfloapiliheaaDoor.R30
open Go.RowKit Go.Proofs BigFrame
open Tree (Sh TS up up_at up_off mad chi rk Nd NodesAt shOf)
open Cal (ins)
set_option maxHeartbeats 4000000
set_option maxRecDepth 1000000
theorem leaf_any {w0 w : World} {ad : Option Addr} {nl : List Nd} (cp : Nat) (hn : NodesAt w0 ad nl) (hu : Upd Nowhere w0 w) (hok : Tree.okL 0 nl = true) (h0 : 0 < nl.length) (h32 : nl.length ≤ 32) (v : Nat) :
    Calls Tryd.prog 41 #[.slice ad nl.length cp, .int .i64 (v : Nat)] w fun e w' => e = .returned (.bool ((shOf nl).leaf v)) ∧ w = w' := by
  have HG := fun i (hi : i < nl.length) => Lib.hid (nodes_get hn hu hok hi)
  have hlf : (shOf nl).leaf v = decide (∀ j, j < nl.length → j ≠ 0 → (shOf nl).par j ≠ v) := rfl
  obtain ⟨b, hb⟩ : ∃ b, (shOf nl).leaf v = b := ⟨_, rfl⟩
  rw [hb]
  rw [hb] at hlf
  have HLF := Lib.hid hlf
  obtain ⟨n, hnl⟩ : ∃ n, nl.length = n := ⟨_, rfl⟩
  rw [hnl] at h0 h32 HG HLF ⊢
  clear hnl hb hlf hn hok
  go_enter Tryd.func41, Tryd.ntmps41
  go_wp2_with fail
  go_loopw [5] (fun iv wr => ∃ i : Nat, iv = .int .i64 i ∧ 1 ≤ i ∧ i ≤ n ∧ (∀ j, j < i → j ≠ 0 → (shOf nl).par j ≠ v) ∧ wr = w) (fun iv _ => n - (intOf iv).toNat)
  case atStart => exact ⟨1, rfl, Nat.le_refl _, h0, fun j hj h => absurd (by omega : j = 0) h, rfl⟩
  case round =>
    obtain ⟨i, rfl, h1, h2, h3, rfl⟩ := hrel
    have H3 := Lib.hid h3
    clear h3
    by_cases hlt : i < n
    · have hI : (i : Int) < n := by omega
      obtain ⟨ga, oa, rfl, ⟨c0, -⟩, -⟩ := (HG i hlt).out
      obtain ⟨p, hp⟩ : ∃ p, (shOf nl).par i = p := ⟨_, rfl⟩
      rw [hp] at c0
      have HP := Lib.hid hp
      clear hp
      by_cases e : p = v
      · subst e
        have hbf : b = false := by
          rw [HLF.out]
          exact decide_eq_false (fun h => h i hlt (by omega) HP.out)
        subst hbf
        go_wp2_with fail
        go_ret
        exact ⟨rfl, rfl⟩
      · have d1 : ((p : Int) == (v : Int)) = false := by simp; omega
        have d2 : decide (p = v) = false := decide_eq_false e
        have HE := Lib.hid e
        clear e
        go_wp2_with fail
        go_roundw
        case rel => exact ⟨i + 1, by first | rfl | go_num, by omega, by omega, fun j hj h => by
          by_cases ej : j = i
          · subst ej; rw [HP.out]; exact HE.out
          · exact H3.out j (by omega) h, by first | trivial | rfl⟩
        case measure => simp [intOf]; omega
    · obtain rfl : i = n := by omega
      have hI : ¬ (i : Int) < i := by omega
      have hbt : b = true := by
        rw [HLF.out]
        exact decide_eq_true H3.out
      subst hbt
      go_wp2_with fail
      go_ret
      exact ⟨rfl, rfl⟩
theorem waits_any (Q : List Comp) {w : World} {own : Nat → Prop} {vn : Value} {Y : RLay} {u : RV} {n : Nat} {room : Int} {r : RS} (h : Sep w (Q ++ rcomps vn Y u n room r) own) (hl : r.left ≤ r.P.length) (hb : r.P.length ≤ 1000000) {m : Nat} (hm : r.P.length = m + r.left) :
    Calls Tryd.prog 26 #[.pointer (some ⟨Y.b, 0, none⟩)] w fun e w' => e = .returned (.int .i64 (m : Nat)) ∧ ∃ k, w' = w.drewN k := by
  obtain ⟨⟨c0, c1, c2, c3, c4, c5, c6, c7, c8, c9, c10⟩, hf⟩ := cells11 (r_blk Q h)
  obtain ⟨ap, cp, hv⟩ : ∃ ad c, u.vP = .slice ad r.P.length c := by
    rcases (r_ps Q h).2 with ⟨h1, h0⟩ | ⟨g, c, cur, h1, _⟩
    · exact ⟨none, 0, by rw [h0]; exact h1⟩
    · exact ⟨_, c, h1⟩
  rw [hv] at c5
  obtain ⟨L, hL⟩ : ∃ L, r.P.length = L := ⟨_, rfl⟩
  rw [hL] at c5 hl hb hm
  generalize r.left = lf at *
  have hs : (L : Int) - (lf : Int) = (m : Int) := by omega
  clear hv hL h hm hf
  go_enter Tryd.func26, Tryd.ntmps26
  go_wp2_with fail
  go_quiet (fail)
  go_wp2_with fail
  go_ret
  exact ⟨rfl, _, rfl⟩
end Go.Proofs.YtllfloapiliheaaDoor.R30
namespace Go.Proofs.YtllfloapiliheaaDoor.R30
open Go.RowKit Go.Proofs BigFrame
open Tree (Sh TS up up_at up_off mad chi rk Nd NodesAt shOf)
open Cal (ins)
open Sat (ref_muladd)
open Wide (Gives)
set_option maxHeartbeats 8000000
set_option maxRecDepth 1000000
set_option linter.unusedSimpArgs false
/-- What may come into a node. -/
def Rx (sh : Sh) (r : RS) (v : Nat) (x : Int) : Prop := if sh.leaf v = true then ∃ (k : Nat) (p : Nat × Nat × Nat), x = k ∧ r.P[k]? = some p else ∃ c : Nat, c < sh.n ∧ x = c
abbrev ndC (sh : Sh) (NB v : Nat) : Comp := blkC NB #[.int .i64 (sh.par v : Nat), .int .i64 (sh.kind v : Nat), .int .u64 (sh.wt v : Nat), .int .u64 (sh.gap v : Nat)] TNd
theorem infoRi : (Tryd.prog.info? TRi).map (fun i => (i.zero, i.size, i.bytes)) = some (some (.agg #[.int .i64 0, .int .u64 0]), 2, 16) := by kernel_rfl
theorem own_form {E : TypeId} {size base n : Nat} {w : World} {v : Value} {xs : List Value} (h : w.ownsRow base E size v n xs) : ∃ ad c, v = .slice ad n c := by
  rcases h.2 with ⟨rfl, h0⟩ | ⟨g, c, cur, rfl, _⟩
  · exact ⟨none, 0, by rw [h0]⟩
  · exact ⟨_, c, rfl⟩
theorem keepP3 {P : Program} {f : FuncId} {args : Array Value} {w : World} {l : List (Nat × Int)} {v0 v1 v2 : Value} {a0 a1 a2 : Addr} (h : Calls P f args w fun e w' => ∃ v', e = .returned v' ∧ Ref09.Made w w' v' l) (hS : w.cell? a0 = some v0 ∧ w.cell? a1 = some v1 ∧ w.cell? a2 = some v2) :
    Calls P f args w fun e w' => ∃ v', e = .returned v' ∧ Ref09.Made w w' v' l ∧ (w'.cell? a0 = some v0 ∧ w'.cell? a1 = some v1 ∧ w'.cell? a2 = some v2) := h.mono fun _ _ ⟨v, x, y⟩ => ⟨v, x, y, cell_old y.2 hS.1, cell_old y.2 hS.2.1, cell_old y.2 hS.2.2⟩
/-- What the reference reads of a tree. -/
structure Rd (w : World) (Y : RLay) (u : RV) (vn : Value) (n : Nat) (room : Int) (r : RS) : Prop where
  c0 : w.cell? ⟨Y.b, 0, none⟩ = some vn
  c1 : w.cell? ⟨Y.b, 1, none⟩ = some (.slice (some ⟨Y.gL, 0, none⟩) n Y.cL)
  c2 : w.cell? ⟨Y.b, 2, none⟩ = some (.slice (some ⟨Y.gV, 0, none⟩) n Y.cV)
  c3 : w.cell? ⟨Y.b, 3, none⟩ = some (.slice (some ⟨Y.gT, 0, none⟩) n Y.cT)
  c4 : w.cell? ⟨Y.b, 4, none⟩ = some (.slice (some ⟨Y.gF, 0, none⟩) n Y.cF)
  c5 : w.cell? ⟨Y.b, 5, none⟩ = some u.vP
  c6 : w.cell? ⟨Y.b, 6, none⟩ = some u.vR
  c7 : w.cell? ⟨Y.b, 7, none⟩ = some u.vH
  c8 : w.cell? ⟨Y.b, 8, none⟩ = some (.int .u64 (r.now : Nat))
  c9 : w.cell? ⟨Y.b, 9, none⟩ = some (.int .i64 (r.left : Nat))
  c10 : w.cell? ⟨Y.b, 10, none⟩ = some (.int .i64 room)
  fz : ∀ k, w.frozen? ⟨Y.b, k, none⟩ = false
theorem rd (Q : List Comp) {w0 w : World} {vn : Value} {Y : RLay} {u : RV} {n : Nat} {room : Int} {r : RS} (h : Made w0 w (Q ++ rcomps vn Y u n room r)) : Rd w Y u vn n room r := by
  obtain ⟨own, hs, _⟩ := h
  obtain ⟨⟨c0, c1, c2, c3, c4, c5, c6, c7, c8, c9, c10⟩, hf⟩ := cells11 (r_blk Q hs)
  exact ⟨c0, c1, c2, c3, c4, c5, c6, c7, c8, c9, c10, hf⟩
theorem m_blk' {w0 w : World} {l : List Comp} (h : Made w0 w l) (c : Array Value) (t : TypeId) : Made w0 (w.alloc (.cells c t)) (blkC w.heap.size c t :: l) :=
  h.more (C := blkC w.heap.size c t) (o := fun k => k = w.heap.size) ⟨Blk.new _ _ _, fun _ => Iff.rfl⟩ (fun k hk => by rw [hk]; exact Nat.le_refl _) ((Upd.refl _ _).alloc (.cells c t))
theorem nd_cells {w0 w : World} {l : List Comp} {sh : Sh} {NB v : Nat} (h : Made w0 w (ndC sh NB v :: l)) : w.cell? ⟨NB, 0, none⟩ = some (.int .i64 (sh.par v : Nat)) ∧ w.cell? ⟨NB, 1, none⟩ = some (.int .i64 (sh.kind v : Nat)) ∧ w.cell? ⟨NB, 2, none⟩ = some (.int .u64 (sh.wt v : Nat)) ∧ w.cell? ⟨NB, 3, none⟩ = some (.int .u64 (sh.gap v : Nat)) := by
  obtain ⟨own, ⟨o, o', h1, _⟩, _⟩ := h
  exact ⟨h1.1.cellAt rfl, h1.1.cellAt rfl, h1.1.cellAt rfl, h1.1.cellAt rfl⟩
theorem come_any {w0 : World} {ga oa : Nat} {nl : List Nd} (cp : Nat) (hn : NodesAt w0 (some ⟨ga, oa, none⟩) nl) (hok : Tree.okL 0 nl = true) (h0 : 0 < nl.length) (h32 : nl.length ≤ 32) (hs : (shOf nl).Ok) (Y : RLay) (room : Int) :
    ∀ (f : Nat) (w : World) (Q : List Comp) (u : RV) (r : RS) (t v : Nat) (x : Int) (b : Nat), v < f → v < nl.length → Made w0 w (Q ++ rcomps (.slice (some ⟨ga, oa, none⟩) nl.length cp) Y u nl.length room r) → RFit r → Rx (shOf nl) r v x → (∀ j, j ≤ v → (r.L j).length ≤ 4095) → r.H.length ≤ 4095 → r.R.length ≤ 900000000 → r.P.length ≤ 1000000 → t ≤ 18446744073709551615 → b ≤ 18446744073709551615 →
    Calls Tryd.prog 42 #[.pointer (some ⟨Y.b, 0, none⟩), .int .u64 (t : Nat), .int .i64 (v : Nat), .int .i64 x, .int .u64 (b : Nat)] w fun e w' => e = .returned (.tuple #[]) ∧ ∃ u', Made w0 w' (Q ++ rcomps (.slice (some ⟨ga, oa, none⟩) nl.length cp) Y u' nl.length room (rcome (shOf nl) f r t v x b)) := by
  intro f
  induction f with
  | zero => intro w Q u r t v x b h; exact absurd h (Nat.not_lt_zero _)
  | succ f ih =>
    intro w Q u r t v x b hvf hv hm hfit hx hL hH hR hP ht hb
    have hM1 := m_blk' hm #[.int .i64 ((shOf nl).par v : Nat), .int .i64 ((shOf nl).kind v : Nat), .int .u64 ((shOf nl).wt v : Nat), .int .u64 ((shOf nl).gap v : Nat)] TNd
    obtain ⟨⟨n0, n1, n2, n3⟩, ⟨n1', n2', n3'⟩⟩ := nodes_at hn hm.upd hok hv
    have HLF := fun (u : World) (hu : Upd Nowhere w0 u) => Lib.hid (leaf_any cp hn hu hok h0 h32 v)
    have d0 := (rd Q hm).c0
    have hshn : (shOf nl).n = nl.length := rfl
    have HGA : Hid (ga < w0.heap.size) := Lib.hid (by
      obtain ⟨⟨q0, _⟩, _⟩ := nodes_at hn (Upd.refl _ _) hok hv
      exact cell_lt q0)
    have HND := fun (u : World) (hu : Upd Nowhere w0 u) (i : Nat) (hi : i < nl.length) => Lib.hid (nodes_at hn hu hok hi)
    obtain ⟨sh, hsh⟩ : ∃ sh, shOf nl = sh := ⟨_, rfl⟩
    rw [hsh] at n0 n1 n2 n3 n1' n2' n3' hM1 HLF hx ih hs hshn HND ⊢
    obtain ⟨n, hnl⟩ : ∃ n, nl.length = n := ⟨_, rfl⟩
    rw [hnl] at h0 h32 hv hM1 HLF ih d0 hshn HND ⊢
    obtain ⟨kd, hkd⟩ : ∃ k, sh.kind v = k := ⟨_, rfl⟩
    obtain ⟨lf, hlf⟩ : ∃ k, sh.leaf v = k := ⟨_, rfl⟩
    have hvI : (v : Int) < (n : Int) := by omega
    have hn64 : n ≤ 32 := h32
    have HS := Lib.hid hs
    have HFIT := Lib.hid hfit
    have HX := Lib.hid hx
    have HLL := Lib.hid hL
    have HKD := Lib.hid hkd
    have HLFE := Lib.hid hlf
    have HIH := Lib.hid ih
    have HSN := Lib.hid hshn
    have HVF := Lib.hid hvf
    obtain ⟨NB, hNB⟩ : ∃ B, w.heap.size = B := ⟨_, rfl⟩
    rw [hNB] at hM1
    have HNB := Lib.hid hNB
    have HM1 := Lib.hid hM1
    clear hs hfit hx hL ih hkd hlf hM1 hNB hm hn hok hsh hnl hshn hvf
    go_enter Tryd.func42, Tryd.ntmps42
    go_upto_region 1 with fail
    have hNB := HNB.out
    try simp only [hNB]
    clear hNB HNB n0 n1 n2 n3 n1' n2' n3' d0
    generalize w.alloc (.cells #[.int .i64 (sh.par v : Nat), .int .i64 (sh.kind v : Nat), .int .u64 (sh.wt v : Nat), .int .u64 (sh.gap v : Nat)] TNd) = w1 at *
    have d0 := (rd (ndC sh NB v :: Q) HM1.out).c0
    have HLF1 := Lib.hid (HLF w1 HM1.out.upd).out
    go_wp2_with fail
    refine (HLF1.out).mono ?_
    rintro e w' ⟨rfl, rfl⟩
    have hl9 := HLFE.out
    simp only [hl9]
    clear hl9 HLF HLF1 d0
    obtain ⟨e0, e1, e2, e3⟩ := nd_cells HM1.out
    rw [HKD.out] at e1
    go_upto_region 3 with fail
    obtain ⟨B1, hB1⟩ : ∃ B, (decide (kd = 2) && lf) = B := ⟨_, rfl⟩
    obtain ⟨B2, hB2⟩ : ∃ B, (decide (kd = 2) && !lf) = B := ⟨_, rfl⟩
    obtain ⟨B3, hB3⟩ : ∃ B, (decide (kd = 3) && lf) = B := ⟨_, rfl⟩
    obtain ⟨B4, hB4⟩ : ∃ B, (decide (kd = 3) && !lf) = B := ⟨_, rfl⟩
    have HB1 := Lib.hid hB1
    have HB2 := Lib.hid hB2
    have HB3 := Lib.hid hB3
    have HB4 := Lib.hid hB4
    clear hB1 hB2 hB3 hB4
    go_cut [32] from 27 to 32 (fun tv wc => tv = .bool B1 ∧ wc = w1)
    case first =>
      by_cases h2 : kd = 2
      · have q : ((kd : Int) == 2) = true := by rw [h2]; rfl
        have hB := HB1.out
        rw [decide_eq_true h2, Bool.true_and] at hB
        subst hB
        clear h2
        go_wp2_with fail
        go_meet
        exact ⟨rfl, rfl⟩
      · have q : ((kd : Int) == 2) = false := by simp; omega
        have hB := HB1.out
        rw [decide_eq_false h2, Bool.false_and] at hB
        subst hB
        clear h2
        go_wp2_with fail
        go_meet
        exact ⟨rfl, rfl⟩
    case rest =>
      obtain ⟨rfl, hwc⟩ := hcut
      obtain rfl : w1 = wc := hwc.symm
      go_upto_if 32 with fail
      obtain ⟨z1, hz1⟩ : ∃ z, (if B1 = true then (pk r.P x).2.2 else 0) = z := ⟨_, rfl⟩
      have HZ1 := Lib.hid hz1
      clear hz1
      go_cut [12] from 33 to 40 (fun tv wc => tv = .int .u64 (z1 : Nat) ∧ wc = w1)
      case first =>
        cases B1 with
        | true =>
          have hlt : lf = true := by have := HB1.out; revert this; cases lf <;> simp
          have hx9 := HX.out
          unfold Rx at hx9
          rw [HLFE.out, hlt, if_pos rfl] at hx9
          obtain ⟨k, p, rfl, hk⟩ := hx9
          have hp : pk r.P (k : Int) = p := by unfold pk; rw [Int.toNat_natCast, hk]; rfl
          have hz := HZ1.out
          rw [if_pos rfl, hp] at hz
          have hkl : k < r.P.length := by
            rcases Nat.lt_or_ge k r.P.length with h' | h'
            · exact h'
            · rw [List.getElem?_eq_none h'] at hk; cases hk
          have hkI : (k : Int) < (r.P.length : Nat) := by omega
          have hD := rd (ndC sh NB v :: Q) HM1.out
          obtain ⟨own, hsep, _⟩ := HM1.out
          obtain ⟨g, c, hvp, q0, q1, q2⟩ := r_pk (ndC sh NB v :: Q) hsep hk
          have d5 := hD.c5
          rw [hvp] at d5
          rw [hz] at q2
          have q2' : w1.cell? ⟨g, k * 3 + 2, none⟩ = some (.int .u64 (z1 : Nat)) := q2
          clear hD hsep hvp hz hp hk q0 q1 hlt
          go_wp2_with fail
          go_meet
          exact ⟨rfl, rfl⟩
        | false =>
          have hz := HZ1.out
          rw [if_neg (by simp)] at hz
          have HZ := Lib.hid hz
          clear hz
          go_wp2_with fail
          go_meet
          exact ⟨by rw [← HZ.out]; rfl, rfl⟩
      case rest =>
        obtain ⟨rfl, hwc⟩ := hcut
        obtain rfl : w1 = wc := hwc.symm
        go_upto_region 5 with fail
        go_cut [47] from 41 to 47 (fun tv wc => tv = .bool B2 ∧ wc = w1)
        case first =>
          by_cases h2 : kd = 2
          · have q : ((kd : Int) == 2) = true := by rw [h2]; rfl
            have hB := HB2.out
            rw [decide_eq_true h2, Bool.true_and] at hB
            have q9 : (!lf) = B2 := hB
            clear h2 hB
            go_wp2_with fail
            go_meet
            exact ⟨by first | rfl | rw [q9] | simp, rfl⟩
          · have q : ((kd : Int) == 2) = false := by simp; omega
            have hB := HB2.out
            rw [decide_eq_false h2, Bool.false_and] at hB
            subst hB
            clear h2
            go_wp2_with fail
            go_meet
            exact ⟨rfl, rfl⟩
        case rest =>
          obtain ⟨rfl, hwc⟩ := hcut
          obtain rfl : w1 = wc := hwc.symm
          go_upto_if 47 with fail
          obtain ⟨z2, hz2⟩ : ∃ z, (if B2 = true then sh.wt x.toNat else z1) = z := ⟨_, rfl⟩
          have HZ2 := Lib.hid hz2
          clear hz2
          go_cut [12] from 48 to 55 (fun tv wc => tv = .int .u64 (z2 : Nat) ∧ wc = w1)
          case first =>
            cases B2 with
            | true =>
              have hlt : lf = false := by have := HB2.out; revert this; cases lf <;> simp
              have hx9 := HX.out
              unfold Rx at hx9
              rw [HLFE.out, hlt, if_neg (by simp)] at hx9
              obtain ⟨c, hc, rfl⟩ := hx9
              have hz := HZ2.out
              rw [if_pos rfl, Int.toNat_natCast] at hz
              have hcn : c < n := by rw [← HSN.out]; exact hc
              have hcI : (c : Int) < (n : Int) := by omega
              obtain ⟨⟨n0, n1, n2, n3⟩, ⟨n1', n2', n3'⟩⟩ := (HND w1 HM1.out.upd c hcn).out
              rw [hz] at n2 n2'
              have d0 := (rd (ndC sh NB v :: Q) HM1.out).c0
              clear hz hc n0 n1 n3 n1' n3' HND hlt
              go_wp2_with fail
              go_meet
              exact ⟨rfl, rfl⟩
            | false =>
              have hz := HZ2.out
              rw [if_neg (by simp)] at hz
              subst hz
              go_wp2_with fail
              go_meet
              exact ⟨rfl, rfl⟩
          case rest =>
            obtain ⟨rfl, hwc⟩ := hcut
            obtain rfl : w1 = wc := hwc.symm
            go_upto_region 7 with fail
            go_cut [61] from 56 to 61 (fun tv wc => tv = .bool B3 ∧ wc = w1)
            case first =>
              by_cases h2 : kd = 3
              · have q : ((kd : Int) == 3) = true := by rw [h2]; rfl
                have hB := HB3.out
                rw [decide_eq_true h2, Bool.true_and] at hB
                subst hB
                clear h2
                go_wp2_with fail
                go_meet
                exact ⟨rfl, rfl⟩
              · have q : ((kd : Int) == 3) = false := by simp; omega
                have hB := HB3.out
                rw [decide_eq_false h2, Bool.false_and] at hB
                subst hB
                clear h2
                go_wp2_with fail
                go_meet
                exact ⟨rfl, rfl⟩
            case rest =>
              obtain ⟨rfl, hwc⟩ := hcut
              obtain rfl : w1 = wc := hwc.symm
              go_upto_if 61 with fail
              obtain ⟨z3, hz3⟩ : ∃ z, (if B3 = true then (pk r.P x).1 else z2) = z := ⟨_, rfl⟩
              have HZ3 := Lib.hid hz3
              clear hz3
              go_cut [12] from 62 to 70 (fun tv wc => tv = .int .u64 (z3 : Nat) ∧ wc = w1)
              case first =>
                cases B3 with
                | true =>
                  have hlt : lf = true := by have := HB3.out; revert this; cases lf <;> simp
                  have hx9 := HX.out
                  unfold Rx at hx9
                  rw [HLFE.out, hlt, if_pos rfl] at hx9
                  obtain ⟨k, p, rfl, hk⟩ := hx9
                  have hp : pk r.P (k : Int) = p := by unfold pk; rw [Int.toNat_natCast, hk]; rfl
                  have hz := HZ3.out
                  rw [if_pos rfl, hp] at hz
                  have hp32 := (HFIT.out.pk p (List.mem_of_getElem? hk)).1
                  have hkl : k < r.P.length := by
                    rcases Nat.lt_or_ge k r.P.length with h' | h'
                    · exact h'
                    · rw [List.getElem?_eq_none h'] at hk; cases hk
                  have hkI : (k : Int) < (r.P.length : Nat) := by omega
                  have hD := rd (ndC sh NB v :: Q) HM1.out
                  obtain ⟨own, hsep, _⟩ := HM1.out
                  obtain ⟨g, c, hvp, q0, q1, q2⟩ := r_pk (ndC sh NB v :: Q) hsep hk
                  have d5 := hD.c5
                  rw [hvp] at d5
                  rw [hz] at q0 hp32
                  have q9 : IntKind.u64.wrap (z3 : Int) = (z3 : Int) := by rw [IntKind.wrap_u64]; omega
                  clear hD hsep hvp hz hp hk q1 q2 hlt
                  go_wp2_with fail
                  go_meet
                  exact ⟨rfl, rfl⟩
                | false =>
                  have hz := HZ3.out
                  rw [if_neg (by simp)] at hz
                  subst hz
                  go_wp2_with fail
                  go_meet
                  exact ⟨rfl, rfl⟩
              case rest =>
                obtain ⟨rfl, hwc⟩ := hcut
                obtain rfl : w1 = wc := hwc.symm
                go_upto_region 9 with fail
                go_cut [77] from 71 to 77 (fun tv wc => tv = .bool B4 ∧ wc = w1)
                case first =>
                  by_cases h2 : kd = 3
                  · have q : ((kd : Int) == 3) = true := by rw [h2]; rfl
                    have hB := HB4.out
                    rw [decide_eq_true h2, Bool.true_and] at hB
                    have q9 : (!lf) = B4 := hB
                    clear h2 hB
                    go_wp2_with fail
                    go_meet
                    exact ⟨by first | rfl | rw [q9] | simp, rfl⟩
                  · have q : ((kd : Int) == 3) = false := by simp; omega
                    have hB := HB4.out
                    rw [decide_eq_false h2, Bool.false_and] at hB
                    subst hB
                    clear h2
                    go_wp2_with fail
                    go_meet
                    exact ⟨rfl, rfl⟩
                case rest =>
                  obtain ⟨rfl, hwc⟩ := hcut
                  obtain rfl : w1 = wc := hwc.symm
                  go_upto_if 77 with fail
                  obtain ⟨z4, hz4⟩ : ∃ z, rrk sh r v x = z := ⟨_, rfl⟩
                  have HZ4 := Lib.hid hz4
                  clear hz4
                  have hz34 : B4 = false → z3 = z4 := fun h4 => by
                    have h1 := HZ1.out
                    have h2 := HZ2.out
                    have h3 := HZ3.out
                    have h4' := HZ4.out
                    have b1 := HB1.out
                    have b2 := HB2.out
                    have b3 := HB3.out
                    have b4 := HB4.out
                    rw [h4] at b4
                    unfold rrk at h4'
                    rw [HKD.out, HLFE.out] at h4'
                    by_cases e2 : kd = 2
                    · rw [if_pos e2] at h4'
                      rw [decide_eq_true e2] at b1 b2
                      rw [decide_eq_false (by omega)] at b3
                      cases lf <;> simp at * <;> simp_all
                    · rw [if_neg e2] at h4'
                      rw [decide_eq_false e2] at b1 b2
                      by_cases e3 : kd = 3
                      · rw [if_pos e3] at h4'
                        rw [decide_eq_true e3] at b3 b4
                        cases lf <;> simp at * <;> simp_all
                      · rw [if_neg e3] at h4'
                        rw [decide_eq_false e3] at b3
                        simp at * <;> simp_all
                  have HZ34 := Lib.hid hz34
                  clear hz34 e1
                  go_cut [12] from 78 to 117 (fun tv wc => tv = .int .u64 (z4 : Nat) ∧ Made w0 wc (ndC sh NB v :: (Q ++ rcomps (.slice (some ⟨ga, oa, none⟩) n cp) Y u n room (rtag sh r v x b))))
                  case first =>
                    as_aux_lemma =>
                      cases B4 with
                      | false =>
                        have hz := HZ34.out rfl
                        have HRT : Hid (rtag sh r v x b = r) := Lib.hid (by
                          unfold rtag
                          rw [HKD.out, HLFE.out, if_neg]
                          rintro ⟨h1, h2⟩
                          have h3 := HB4.out
                          rw [h2, decide_eq_true h1] at h3
                          simp at h3)
                        subst hz
                        go_wp2_with fail
                        go_meet
                        exact ⟨rfl, by rw [HRT.out]; exact HM1.out⟩
                      | true =>
                        have hlt : kd = 3 ∧ lf = false := by
                          have := HB4.out
                          revert this
                          cases lf <;> simp
                        have hx9 := HX.out
                        unfold Rx at hx9
                        rw [HLFE.out, hlt.2, if_neg (by simp)] at hx9
                        obtain ⟨c, hc, rfl⟩ := hx9
                        have hcn : c < n := by rw [← HSN.out]; exact hc
                        have hcI : (c : Int) < (n : Int) := by omega
                        obtain ⟨⟨n0, n1, n2, n3⟩, ⟨n1', n2', n3'⟩⟩ := (HND w1 HM1.out.upd c hcn).out
                        have hD := rd (ndC sh NB v :: Q) HM1.out
                        have d0 := hD.c0
                        have d2 := hD.c2
                        have d3 := hD.c3
                        obtain ⟨own, hsep, hown⟩ := id HM1.out
                        obtain ⟨y0, y1⟩ := r_vi (ndC sh NB v :: Q) hsep hv
                        obtain ⟨y2, y3⟩ := r_tg (ndC sh NB v :: Q) hsep hcn
                        obtain ⟨vi, hvi⟩ : ∃ y, r.Vi v = y := ⟨_, rfl⟩
                        obtain ⟨tg, htg⟩ : ∃ y, r.Tg c = y := ⟨_, rfl⟩
                        obtain ⟨wt, hwt⟩ : ∃ y, sh.wt c = y := ⟨_, rfl⟩
                        rw [hvi] at y0
                        rw [htg] at y2
                        rw [hwt] at n2 n2'
                        have hz4 : max vi tg = z4 := by
                          have h := HZ4.out
                          unfold rrk at h
                          rw [HKD.out, HLFE.out, hlt.1, hlt.2, if_neg (by decide), if_pos rfl, if_neg (by simp), Int.toNat_natCast, hvi, htg] at h
                          exact h
                        obtain ⟨mm, hmm⟩ : ∃ y, mad z4 wt b = y := ⟨_, rfl⟩
                        have HRT : Hid (rtag sh r v (c : Int) b = { r with Tg := up r.Tg c mm }) := Lib.hid (by
                          unfold rtag
                          rw [HKD.out, HLFE.out, if_pos hlt, Int.toNat_natCast, hvi, htg, hwt, hz4, hmm])
                        have hvi2 : vi ≤ 18446744073709551615 := by rw [← hvi]; exact HFIT.out.vi v
                        have htg2 : tg ≤ 18446744073709551615 := by rw [← htg]; exact HFIT.out.tg c
                        have hwt2 : wt ≤ 18446744073709551615 := by rw [← hwt]; exact HS.out.wt c hc
                        have HMA : ∀ u : World, Hid (Calls Tryd.prog 51 #[.int .u64 z4, .int .u64 wt, .int .u64 b] u fun e w' => Gives u (.int .u64 (mm : Nat)) e w') := fun u => Lib.hid (by
                          have h := ref_muladd z4 wt b (by omega) hwt2 hb u
                          rw [show min (z4 + wt * b) 18446744073709551615 = mm from hmm] at h
                          exact h)
                        have HCN := Lib.hid hcn
                        have HZM := Lib.hid hz4
                        clear hD hsep hown hvi htg hwt hlt hc hmm hz4 n0 n1 n3 n1' n3' hvi2 htg2 hwt2 HZ1 HZ2 HZ3 HZ34 HZ4 HIH HLL hcn
                        obtain ⟨bb, hbb⟩ : ∃ bb, decide (vi < tg) = bb := ⟨_, rfl⟩
                        have t1 : decide ((tg : Int) > (vi : Int)) = bb := by rw [← hbb]; exact decide_eq_decide.2 (by omega)
                        have HBB := Lib.hid hbb
                        go_upto_if 93 with fail
                        clear t1 hbb
                        go_cut [12] from 78 to 117 (fun tv wc => tv = .int .u64 (z4 : Nat) ∧ wc = w1)
                        case first =>
                          have hz := HZM.out
                          cases bb with
                          | true =>
                            have hgt : vi < tg := of_decide_eq_true HBB.out
                            have e9 : tg = z4 := by omega
                            subst e9
                            clear hz hgt
                            go_wp2_with fail
                            go_meet
                            exact ⟨rfl, rfl⟩
                          | false =>
                            have hgt : ¬ vi < tg := of_decide_eq_false HBB.out
                            have e9 : vi = z4 := by omega
                            subst e9
                            clear hz hgt
                            go_wp2_with fail
                            go_meet
                            exact ⟨rfl, rfl⟩
                        case rest =>
                          obtain ⟨rfl, hwc⟩ := hcut
                          obtain rfl : w1 = wc := hwc.symm
                          go_upto_region 13 with fail
                          obtain ⟨hb1, _, hb3, _⟩ := r_ne (ndC sh NB v :: Q) (show Sep w1 _ _ from (id HM1.out).choose_spec.1)
                          have hga : ga < w0.heap.size := HGA.out
                          have hgt9 : w0.heap.size ≤ Y.gT := by
                            obtain ⟨own, hs, hlo, _⟩ := id HM1.out
                            obtain ⟨o, a1, a2⟩ := Sep.has (C := nrow Y.gT Y.cT n r.Tg) hs (List.mem_cons_of_mem _ (List.mem_append_right _ (by simp [rcomps])))
                            exact hlo _ (a2 _ ((a1.2 _).2 rfl))
                          have hne9 : ga ≠ Y.gT := by omega
                          clear hga hgt9
                          go_region_held3 (fun w' => w'.cell? ⟨Y.b, 3, none⟩ = some (.slice (some ⟨Y.gT, 0, none⟩) n Y.cT) ∧ w'.cell? ⟨Y.b, 0, none⟩ = some (.slice (some ⟨ga, oa, none⟩) n cp) ∧ w'.cell? ⟨ga, oa + c * 4 + 2, none⟩ = some (.int .u64 (wt : Nat)) ∧ w'.cell? ⟨ga, oa + (c * 4 + 2), none⟩ = some (.int .u64 (wt : Nat))) (first | exact ⟨d3, d0, n2, n2'⟩ | assumption | exact keepS4 (by assumption) hb3 hb3 hne9 hne9) (first
                            | (go_at_call 51; refine (keepC4' (HMA _).out (by assumption)).mono ?_; rintro e w4 ⟨rfl, hS4, hu4⟩; have hU4 : Upd Nowhere w1 w4 := (by first | with_reducible exact hu4 | with_reducible exact ((Upd.refl Nowhere w1).drew).trans hu4 (fun _ _ h => h)); have HM4 := Lib.hid (Made.old HM1.out hU4); have HF4 := Lib.hid (show Made w0 (w4.setCell ⟨Y.gT, c, none⟩ (.int .u64 (mm : Nat))) (ndC sh NB v :: (Q ++ rcomps (.slice (some ⟨ga, oa, none⟩) n cp) Y u n room { r with Tg := up r.Tg c mm })) from mlift HM4.out (fun own hs => r_set_tg (ndC sh NB v :: Q) hs c mm)); obtain ⟨y2', y3'⟩ : w4.cell? ⟨Y.gT, c, none⟩ = some (.int .u64 (r.Tg c : Nat)) ∧ w4.frozen? ⟨Y.gT, c, none⟩ = false := (by obtain ⟨own, hs, _⟩ := HM4.out; exact r_tg (ndC sh NB v :: Q) hs HCN.out); clear hu4 hU4))
                          all_goals
                            go_wp2_with fail
                            go_meet
                            first
                              | exact ⟨rfl, by rw [HRT.out]; with_reducible exact HF4.out⟩
                              | exact ⟨rfl, by rw [HRT.out]; with_reducible exact HF4.out.old (Upd.refl _ _).drew⟩
                  case rest =>
                    as_aux_lemma =>
                      obtain ⟨rfl, hM2⟩ := hcut
                      obtain ⟨w2, rfl⟩ : ∃ y, y = wc := ⟨_, rfl⟩
                      obtain ⟨r2, hr2⟩ : ∃ y, rtag sh r v x b = y := ⟨_, rfl⟩
                      rw [hr2] at hM2
                      have hr2L : r2.L = r.L := by rw [← hr2]; exact rtag_L ..
                      have hr2F : r2.Fr = r.Fr := by rw [← hr2]; exact rtag_Fr ..
                      have hr2H : r2.H = r.H := by rw [← hr2]; exact rtag_H ..
                      have hr2R : r2.R = r.R := by rw [← hr2]; exact rtag_R ..
                      have hfit2 : RFit r2 := by rw [← hr2]; exact rtag_fit HFIT.out v x b
                      have hr2P : r2.P = r.P := by rw [← hr2]; exact rtag_P ..
                      have HRC : Hid (rcome sh (f + 1) r t v x b = if v = 0 then rlay r2 v z4 x else if sh.gap v = 0 then rcome sh f (rlay r2 v z4 x) t (sh.par v) v b else rhold sh (rlay r2 v z4 x) t v b) := Lib.hid (by
                        show (if v = 0 then rent sh r v x b else if sh.gap v = 0 then rcome sh f (rent sh r v x b) t (sh.par v) v b else rhold sh (rent sh r v x b) t v b) = _
                        have e : rent sh r v x b = rlay r2 v z4 x := by unfold rent; rw [hr2, HZ4.out]
                        rw [e])
                      have HFIT2 := Lib.hid hfit2
                      have HM2 := Lib.hid hM2
                      clear hr2 hfit2 hM2 HM1 HZ1 HZ2 HZ3 HZ4 HZ34 HB1 HB2 HB3 HB4 HX HFIT HND HKD HLFE e0 e2 e3
                      go_upto_region 14 with fail
                      go_cut [] from 118 to 133 (fun wc => ∃ u', Made w0 wc (ndC sh NB v :: (Q ++ rcomps (.slice (some ⟨ga, oa, none⟩) n cp) Y u' n room (rlay r2 v z4 x))))
                      case first =>
                        have d1 := (rd (ndC sh NB v :: Q) HM2.out).c1
                        obtain ⟨own, hsep, hown⟩ := id HM2.out
                        obtain ⟨l0, l1⟩ := r_vl (ndC sh NB v :: Q) hsep hv
                        have hrow := r_row (ndC sh NB v :: Q) hsep hv
                        obtain ⟨ax, cx, hvl⟩ := hrow.form
                        rw [hvl] at l0
                        have hlen : (r2.L v).length ≤ 4096 := by rw [hr2L]; have := HLL.out v (Nat.le_refl _); omega
                        have HPU : ∀ (u' : World) (_ : Upd Nowhere w2 u'), Hid (Calls Tryd.prog 52 #[.slice ax (r2.L v).length cx, .int .u64 z4, .int .i64 x] u' fun e w' => ∃ v', e = .returned v' ∧ Ref09.Made u' w' v' (insR (z4, x) (r2.L v))) := fun u' hu => Lib.hid (Ref09.push_any (base := 0) (by rw [← hvl]; exact ownsRow_upd hrow hu (fun _ _ h => h)) hlen z4 x)
                        have HV := Lib.hid hv
                        clear hsep hown hrow hvl hlen hr2L hr2F hr2H hr2R hr2P HLL HIH HFIT2 HRC hv
                        obtain ⟨hb1, _, _, _⟩ := r_ne (ndC sh NB v :: Q) (show Sep w2 _ _ from (id HM2.out).choose_spec.1)
                        have d0 := (rd (ndC sh NB v :: Q) HM2.out).c0
                        have d4 := (rd (ndC sh NB v :: Q) HM2.out).c4
                        refine wp_region_held_drew (S := (fun w' => w'.cell? ⟨Y.b, 1, none⟩ = some (.slice (some ⟨Y.gL, 0, none⟩) n Y.cL) ∧ w'.cell? ⟨Y.b, 0, none⟩ = some (.slice (some ⟨ga, oa, none⟩) n cp) ∧ w'.cell? ⟨Y.b, 4, none⟩ = some (.slice (some ⟨Y.gF, 0, none⟩) n Y.cF))) (by kernel_rfl) ⟨d1, d0, d4⟩ (fun hHeld => ?_)
                        refine wpAnyH_take (i := 0) (v := ?_) (by simp only [List.getElem?_toArray, List.getElem?_cons_zero, List.getElem?_cons_succ]; rfl) (by kernel_rfl) (by kernel_rfl) (by kernel_rfl) (by intro _ _ _ h; exact h) (Or.inl ⟨by rfl, ?_⟩) (by assumption) ?_
                        rotate_left 1
                        · intro w hSw; (try dsimp only at hSw); go_simp; try with_reducible rfl
                        try simp only [Act.put, List.setIfInBounds_toArray, List.set_cons_zero, List.set_cons_succ]
                        refine wpAnyH_take (i := 1) (v := ?_) (by simp only [List.getElem?_toArray, List.getElem?_cons_zero, List.getElem?_cons_succ]; rfl) (by kernel_rfl) (by kernel_rfl) (by kernel_rfl) (by intro _ _ _ h; exact h) (Or.inl ⟨by rfl, ?_⟩) (by assumption) ?_
                        rotate_left 1
                        · intro w hSw; (try dsimp only at hSw); go_simp; try with_reducible rfl
                        try simp only [Act.put, List.setIfInBounds_toArray, List.set_cons_zero, List.set_cons_succ]
                        refine wpAnyH_take (i := 2) (v := ?_) (by simp only [List.getElem?_toArray, List.getElem?_cons_zero, List.getElem?_cons_succ]; rfl) (by kernel_rfl) (by kernel_rfl) (by kernel_rfl) (by intro _ _ _ h; exact h) (Or.inl ⟨by rfl, ?_⟩) (by assumption) ?_
                        rotate_left 1
                        · intro w hSw; (try dsimp only at hSw); go_simp; try with_reducible rfl
                        try simp only [Act.put, List.setIfInBounds_toArray, List.set_cons_zero, List.set_cons_succ]
                        refine wpAnyH_take (i := 3) (v := ?_) (by simp only [List.getElem?_toArray, List.getElem?_cons_zero, List.getElem?_cons_succ]; rfl) (by kernel_rfl) (by kernel_rfl) (by kernel_rfl) (by intro _ _ _ h; exact h) (Or.inl ⟨by rfl, ?_⟩) (by assumption) ?_
                        rotate_left 1
                        · intro w hSw; (try dsimp only at hSw); go_simp; try with_reducible rfl
                        try simp only [Act.put, List.setIfInBounds_toArray, List.set_cons_zero, List.set_cons_succ]
                        refine wpAnyH_take (i := 4) (v := ?_) (by simp only [List.getElem?_toArray, List.getElem?_cons_zero, List.getElem?_cons_succ]; rfl) (by kernel_rfl) (by kernel_rfl) (by kernel_rfl) (by intro _ _ _ h; exact h) (Or.inl ⟨by rfl, ?_⟩) (by assumption) ?_
                        rotate_left 1
                        · intro w hSw; (try dsimp only at hSw); go_simp; try with_reducible rfl
                        try simp only [Act.put, List.setIfInBounds_toArray, List.set_cons_zero, List.set_cons_succ]
                        refine wpAnyH_take (i := 5) (v := ?_) (by simp only [List.getElem?_toArray, List.getElem?_cons_zero, List.getElem?_cons_succ]; rfl) (by kernel_rfl) (by kernel_rfl) (by kernel_rfl) (by intro _ _ _ h; exact h) (Or.inl ⟨by rfl, ?_⟩) (by assumption) ?_
                        rotate_left 1
                        · intro w hSw; (try dsimp only at hSw); go_simp; try with_reducible rfl
                        try simp only [Act.put, List.setIfInBounds_toArray, List.set_cons_zero, List.set_cons_succ]
                        refine wpAnyH_take (i := 6) (v := ?_) (by simp only [List.getElem?_toArray, List.getElem?_cons_zero, List.getElem?_cons_succ]; rfl) (by kernel_rfl) (by kernel_rfl) (by kernel_rfl) (by intro _ _ _ h; exact h) (Or.inl ⟨by rfl, ?_⟩) (by assumption) ?_
                        rotate_left 1
                        · intro w hSw; (try dsimp only at hSw); go_simp; try with_reducible rfl
                        try simp only [Act.put, List.setIfInBounds_toArray, List.set_cons_zero, List.set_cons_succ]
                        refine wpAnyH_take (i := 7) (v := ?_) (by simp only [List.getElem?_toArray, List.getElem?_cons_zero, List.getElem?_cons_succ]; rfl) (by kernel_rfl) (by kernel_rfl) (by kernel_rfl) (by intro _ _ _ h; exact h) (Or.inl ⟨by rfl, ?_⟩) (by assumption) ?_
                        rotate_left 1
                        · intro w hSw; (try dsimp only at hSw); go_simp; try with_reducible rfl
                        try simp only [Act.put, List.setIfInBounds_toArray, List.set_cons_zero, List.set_cons_succ]
                        refine wpAnyH_take (i := 8) (v := ?_) (by simp only [List.getElem?_toArray, List.getElem?_cons_zero, List.getElem?_cons_succ]; rfl) (by kernel_rfl) (by kernel_rfl) (by kernel_rfl) (by intro _ _ _ h; exact h) (Or.inl ⟨by rfl, ?_⟩) (by assumption) ?_
                        rotate_left 1
                        · intro w hSw; (try dsimp only at hSw); go_simp; try with_reducible rfl
                        try simp only [Act.put, List.setIfInBounds_toArray, List.set_cons_zero, List.set_cons_succ]
                        refine wpAnyH_take (i := 9) (v := ?_) (by simp only [List.getElem?_toArray, List.getElem?_cons_zero, List.getElem?_cons_succ]; rfl) (by kernel_rfl) (by kernel_rfl) (by kernel_rfl) (by intro _ _ _ h; exact h) (Or.inl ⟨by rfl, ?_⟩) (by assumption) ?_
                        rotate_left 1
                        · intro w hSw; (try dsimp only at hSw); go_simp; try with_reducible rfl
                        try simp only [Act.put, List.setIfInBounds_toArray, List.set_cons_zero, List.set_cons_succ]
                        refine wpAnyH_take (i := 10) (v := ?_) (by simp only [List.getElem?_toArray, List.getElem?_cons_zero, List.getElem?_cons_succ]; rfl) (by kernel_rfl) (by kernel_rfl) (by kernel_rfl) (by intro _ _ _ h; exact h) (Or.inl ⟨by rfl, ?_⟩) (by assumption) ?_
                        rotate_left 1
                        · intro w hSw; (try dsimp only at hSw); go_simp; try with_reducible rfl
                        try simp only [Act.put, List.setIfInBounds_toArray, List.set_cons_zero, List.set_cons_succ]
                        refine wpAnyH_take (i := 12) (v := ?_) (by simp only [List.getElem?_toArray, List.getElem?_cons_zero, List.getElem?_cons_succ]; rfl) (by kernel_rfl) (by kernel_rfl) (by kernel_rfl) (by intro _ _ _ h; exact h) (Or.inl ⟨by rfl, ?_⟩) (by assumption) ?_
                        rotate_left 1
                        · intro w hSw; (try dsimp only at hSw); go_simp; try with_reducible rfl
                        try simp only [Act.put, List.setIfInBounds_toArray, List.set_cons_zero, List.set_cons_succ]
                        refine wpAnyH_take (i := 13) (v := ?_) (by simp only [List.getElem?_toArray, List.getElem?_cons_zero, List.getElem?_cons_succ]; rfl) (by kernel_rfl) (by kernel_rfl) (by kernel_rfl) (by intro _ _ _ h; exact h) (Or.inl ⟨by rfl, ?_⟩) (by assumption) ?_
                        rotate_left 1
                        · intro w hSw; (try dsimp only at hSw); go_simp; try with_reducible rfl
                        try simp only [Act.put, List.setIfInBounds_toArray, List.set_cons_zero, List.set_cons_succ]
                        refine wpAnyH_ready (rs := [11]) (by kernel_rfl) (by simp) ?_
                        refine AllReadyH.cons (by simp only [List.getElem?_toArray, List.getElem?_cons_zero, List.getElem?_cons_succ]; rfl) (fun K hK => ?_) AllReadyH.nil
                        go_simp
                        refine hK.out _ _ (by (try dsimp only); assumption) (fun hHeld => ?_)
                        clear hK K
                        refine wpAnyH_ready (rs := [14]) (by kernel_rfl) (by simp) ?_
                        refine AllReadyH.cons (by simp only [List.getElem?_toArray, List.getElem?_cons_zero, List.getElem?_cons_succ]; rfl) (fun K hK => ?_) AllReadyH.nil
                        go_simp
                        go_wp2_with (go_at_call 52; refine (keepP3 (HPU _ (by first | with_reducible exact Upd.refl _ _ | with_reducible exact (Upd.refl _ _).drew)).out (by assumption)).mono ?_; rintro e w4 ⟨v4, rfl, hM4, hS4⟩; have hu4 := hM4.2; have hU4 : Upd Nowhere w2 w4 := (by first | with_reducible exact hu4 | with_reducible exact ((Upd.refl Nowhere w2).drew).trans hu4 (fun _ _ h => h)); have HM4 := Lib.hid (Made.old HM2.out hU4); have HF4 := Lib.hid (show Made w0 (w4.setCell ⟨Y.gL, v, none⟩ v4) (ndC sh NB v :: (Q ++ rcomps (.slice (some ⟨ga, oa, none⟩) n cp) Y { u with VL := up u.VL v v4 } n room (rlay r2 v z4 x))) from (by unfold rlay; rw [← insR_ins]; exact mlift HM2.out (fun own hs => r_new_row (ndC sh NB v :: Q) hs HV.out (v := v4) (l := insR (z4, x) (r2.L v)) hU4 hM4.1))); obtain ⟨y2', y3'⟩ : w4.cell? ⟨Y.gL, v, none⟩ = some (u.VL v) ∧ w4.frozen? ⟨Y.gL, v, none⟩ = false := (by obtain ⟨own, hs, _⟩ := HM4.out; exact r_vl (ndC sh NB v :: Q) hs HV.out); obtain ⟨a4, c4, rfl⟩ := hM4.1.form; clear hU4 hM4 hu4)
                        refine hK.out _ _ (by (try dsimp only); assumption) (fun hHeld => ?_)
                        clear hK K
                        refine wpAnyH_take (i := 15) (v := ?_) (by simp only [List.getElem?_toArray, List.getElem?_cons_zero, List.getElem?_cons_succ]; rfl) (by kernel_rfl) (by kernel_rfl) (by kernel_rfl) (by intro _ _ _ h; exact h) (Or.inl ⟨by rfl, ?_⟩) (by assumption) ?_
                        rotate_left 1
                        · intro w hSw; (try dsimp only at hSw); go_simp; try with_reducible rfl
                        try simp only [Act.put, List.setIfInBounds_toArray, List.set_cons_zero, List.set_cons_succ]
                        refine wpAnyH_ready (rs := [16]) (by kernel_rfl) (by simp) ?_
                        refine AllReadyH.cons (by simp only [List.getElem?_toArray, List.getElem?_cons_zero, List.getElem?_cons_succ]; rfl) (fun K hK => ?_) AllReadyH.nil
                        go_simp
                        refine hK.out _ _ (by (try dsimp only); exact keepS3 (by assumption) hb1 hb1 hb1) (fun hHeld => ?_)
                        clear hK K
                        refine wpAnyH_done (by kernel_rfl) ?_ _
                        all_goals
                          go_wp2_with fail
                          go_meet
                          first
                            | exact ⟨_, by with_reducible exact HF4.out⟩
                            | exact ⟨_, by with_reducible exact HF4.out.old (Upd.refl _ _).drew⟩
                      case rest =>
                        as_aux_lemma =>
                          obtain ⟨u3, hM3⟩ := hcut
                          obtain ⟨w3, rfl⟩ : ∃ y, y = wc := ⟨_, rfl⟩
                          obtain ⟨r3, hr3⟩ : ∃ y, rlay r2 v z4 x = y := ⟨_, rfl⟩
                          rw [hr3] at hM3 HRC
                          have hr3F : r3.Fr = r.Fr := by rw [← hr3]; exact hr2F
                          have hr3H : r3.H = r.H := by rw [← hr3]; exact hr2H
                          have hr3R : r3.R = r.R := by rw [← hr3]; exact hr2R
                          have hr3P : r3.P = r.P := by rw [← hr3]; exact hr2P
                          have hr3L : ∀ j, j ≠ v → r3.L j = r.L j := fun j hj => by
                            rw [← hr3]
                            show up r2.L v _ j = _
                            rw [up_off _ hj, hr2L]
                          have hfit3 : RFit r3 := by rw [← hr3]; exact ⟨HFIT2.out.vi, HFIT2.out.tg, HFIT2.out.fr, HFIT2.out.pk⟩
                          have HM3 := Lib.hid hM3
                          have HFIT3 := Lib.hid hfit3
                          have HR3L := Lib.hid hr3L
                          clear hr3 hM3 hfit3 hr3L HM2 hr2L hr2F hr2H hr2R hr2P HFIT2
                          by_cases hv0 : v = 0
                          · have q : ((v : Int) == 0) = true := by simp; omega
                            have e9 : rcome sh (f + 1) r t v x b = r3 := by rw [HRC.out, if_pos hv0]
                            have HE9 := Lib.hid e9
                            clear hv0 e9
                            go_wp2_with fail
                            (try simp only [Exit.inBlock, Exit.then]); refine bodyPost_ret (results_none rfl _ _ _) rfl ?_
                            exact ⟨rfl, u3, by rw [HE9.out]; exact HM3.out.drop⟩
                          · have q : ((v : Int) == 0) = false := by simp; omega
                            obtain ⟨e0, -, -, e3⟩ := nd_cells HM3.out
                            obtain ⟨gp, hgp⟩ : ∃ y, sh.gap v = y := ⟨_, rfl⟩
                            rw [hgp] at e3
                            have hv2 : v < sh.n := by rw [HSN.out]; exact hv
                            have hpv := HS.out.par v hv2 hv0
                            have hgb : gp ≤ 18446744073709551615 := by rw [← hgp]; exact HS.out.gap v hv2
                            by_cases hg : gp = 0
                            · have q2 : ((gp : Int) == 0) = true := by simp; omega
                              have hin := HS.out.inner hv2 hv0
                              have HIH2 := Lib.hid (HIH.out w3 (ndC sh NB v :: Q) u3 r3 t (sh.par v) (v : Int) b (by have := HVF.out; omega) (by omega) HM3.out HFIT3.out (by unfold Rx; rw [if_neg (by rw [hin.2]; simp)]; exact ⟨v, hv2, rfl⟩) (fun j hj => by rw [HR3L.out j (by omega)]; exact HLL.out j (by omega)) (by rw [hr3H]; exact hH) (by rw [hr3R]; exact hR) (by rw [hr3P]; exact hP) ht hb)
                              have e9 : rcome sh (f + 1) r t v x b = rcome sh f r3 t (sh.par v) v b := by rw [HRC.out, if_neg hv0, if_pos (by rw [hgp]; exact hg)]
                              have HE9 := Lib.hid e9
                              clear hv0 e9 hg hin hpv hgp HIH
                              go_upto_region 17 with fail
                              go_wp2_with (go_at_call 42; refine HIH2.out.mono ?_; rintro e w5 ⟨rfl, u5, hM5⟩)
                              (try simp only [Exit.inBlock, Exit.then]); refine bodyPost_ret (results_none rfl _ _ _) rfl ?_
                              exact ⟨rfl, u5, by rw [HE9.out]; exact hM5.drop⟩
                            · have q2 : ((gp : Int) == 0) = false := by simp; omega
                              have hD := rd (ndC sh NB v :: Q) HM3.out
                              have d4 := hD.c4
                              obtain ⟨own, hsep, hown⟩ := id HM3.out
                              obtain ⟨y0, y1⟩ := r_fr (ndC sh NB v :: Q) hsep hv
                              obtain ⟨fr, hfr⟩ : ∃ y, r3.Fr v = y := ⟨_, rfl⟩
                              rw [hfr] at y0
                              have hfr2 : fr ≤ 18446744073709551615 := by rw [← hfr]; exact HFIT3.out.fr v
                              obtain ⟨st, hst⟩ : ∃ y, max t fr = y := ⟨_, rfl⟩
                              have hst2 : st ≤ 18446744073709551615 := by omega
                              obtain ⟨mm, hmm⟩ : ∃ y, mad st gp b = y := ⟨_, rfl⟩
                              have e9 : rcome sh (f + 1) r t v x b = { r3 with Fr := up r3.Fr v mm, H := ins st (r3.R.length : Int) r3.H, R := r3.R ++ [(v, b)] } := by
                                rw [HRC.out, if_neg hv0, if_neg (by rw [hgp]; exact hg)]
                                unfold rhold
                                rw [hfr, hgp, hst, hmm]
                              have HE9 := Lib.hid e9
                              have HST := Lib.hid hst
                              have HMA : ∀ u : World, Hid (Calls Tryd.prog 51 #[.int .u64 st, .int .u64 gp, .int .u64 b] u fun e w' => Gives u (.int .u64 (mm : Nat)) e w') := fun u => Lib.hid (by
                                have h := ref_muladd st gp b hst2 hgb hb u
                                rw [show min (st + gp * b) 18446744073709551615 = mm from hmm] at h
                                exact h)
                              clear hv0 e9 hg hpv hgp hD hsep hown hfr hst hmm HIH HRC HLL HR3L HFIT3 HVF e0
                              obtain ⟨bb, hbb⟩ : ∃ bb, decide (t < fr) = bb := ⟨_, rfl⟩
                              have t1 : decide ((fr : Int) > (t : Int)) = bb := by rw [← hbb]; exact decide_eq_decide.2 (by omega)
                              have HBB := Lib.hid hbb
                              go_upto_if 155 with fail
                              clear t1 hbb
                              go_cut [13] from 147 to 162 (fun tv wc => tv = .int .u64 (st : Nat) ∧ wc = w3)
                              case first =>
                                have hz := HST.out
                                cases bb with
                                | true =>
                                  have hgt : t < fr := of_decide_eq_true HBB.out
                                  have e9 : fr = st := by omega
                                  subst e9
                                  clear hz hgt
                                  go_wp2_with fail
                                  go_meet
                                  exact ⟨rfl, rfl⟩
                                | false =>
                                  have hgt : ¬ t < fr := of_decide_eq_false HBB.out
                                  have e9 : st = t := by omega
                                  have HE := Lib.hid e9
                                  clear hz hgt e9
                                  go_wp2_with fail
                                  go_meet
                                  exact ⟨by rw [HE.out], rfl⟩
                              case rest =>
                                obtain ⟨rfl, hwc⟩ := hcut
                                obtain rfl : w3 = wc := hwc.symm
                                go_upto_region 21 with fail
                                go_cut [] from 163 to 173 (fun wc => Made w0 wc (ndC sh NB v :: (Q ++ rcomps (.slice (some ⟨ga, oa, none⟩) n cp) Y u3 n room { r3 with Fr := up r3.Fr v mm })))
                                case first =>
                                  have HV := Lib.hid hv
                                  clear hv
                                  obtain ⟨_, _, _, hb4⟩ := r_ne (ndC sh NB v :: Q) (show Sep w3 _ _ from (id HM3.out).choose_spec.1)
                                  have hnb4 : NB ≠ Y.gF := by
                                    obtain ⟨own, hs, _⟩ := id HM3.out
                                    exact sep_ne hs [] _ rfl (T := TU) (W := 1) (n := n) (c := Y.cF) (xs := (List.range n).map (fun i => .int .u64 (r3.Fr i : Nat))) (List.mem_append_right _ (List.mem_append_right _ (by simp [rcomps, nrow])))
                                  have d0 := (rd (ndC sh NB v :: Q) HM3.out).c0
                                  go_region_held3 (fun w' => w'.cell? ⟨Y.b, 4, none⟩ = some (.slice (some ⟨Y.gF, 0, none⟩) n Y.cF) ∧ w'.cell? ⟨Y.b, 0, none⟩ = some (.slice (some ⟨ga, oa, none⟩) n cp) ∧ w'.cell? ⟨NB, 3, none⟩ = some (.int .u64 (gp : Nat))) (first | exact ⟨d4, d0, e3⟩ | assumption | exact keepS3 (by assumption) hb4 hb4 hnb4) (first
                                    | (go_at_call 51; refine (keepC3' (HMA _).out (by assumption)).mono ?_; rintro e w4 ⟨rfl, hS4, hu4⟩; have hU4 : Upd Nowhere w3 w4 := (by first | with_reducible exact hu4 | with_reducible exact ((Upd.refl Nowhere w3).drew).trans hu4 (fun _ _ h => h)); have HM4 := Lib.hid (Made.old HM3.out hU4); have HF4 := Lib.hid (show Made w0 (w4.setCell ⟨Y.gF, v, none⟩ (.int .u64 (mm : Nat))) (ndC sh NB v :: (Q ++ rcomps (.slice (some ⟨ga, oa, none⟩) n cp) Y u3 n room { r3 with Fr := up r3.Fr v mm })) from mlift HM4.out (fun own hs => r_set_fr (ndC sh NB v :: Q) hs v mm)); obtain ⟨y2', y3'⟩ : w4.cell? ⟨Y.gF, v, none⟩ = some (.int .u64 (r3.Fr v : Nat)) ∧ w4.frozen? ⟨Y.gF, v, none⟩ = false := (by obtain ⟨own, hs, _⟩ := HM4.out; exact r_fr (ndC sh NB v :: Q) hs HV.out); clear hu4 hU4))
                                  all_goals
                                    go_wp2_with fail
                                    go_meet
                                    first
                                      | with_reducible exact HF4.out
                                      | with_reducible exact HF4.out.old (Upd.refl _ _).drew
                                case rest =>
                                  have HM4 := Lib.hid hcut
                                  obtain ⟨w4, rfl⟩ : ∃ y, y = wc := ⟨_, rfl⟩
                                  clear hcut HM3 y0 y1 d4 e3 HMA
                                  obtain ⟨r4, hr4⟩ : ∃ y : RS, { r3 with Fr := up r3.Fr v mm } = y := ⟨_, rfl⟩
                                  rw [hr4] at HM4
                                  have h4H : r4.H = r3.H := by rw [← hr4]
                                  have h4R : r4.R = r3.R := by rw [← hr4]
                                  have h4E : ({ r3 with Fr := up r3.Fr v mm, H := ins st (r3.R.length : Int) r3.H, R := r3.R ++ [(v, b)] } : RS) = { r4 with H := ins st (r4.R.length : Int) r4.H, R := r4.R ++ [(v, b)] } := by rw [← hr4]
                                  have HE4 := Lib.hid h4E
                                  clear hr4 h4E
                                  go_upto_region 22 with fail
                                  go_cut [] from 174 to 187 (fun wc => ∃ u', Made w0 wc (ndC sh NB v :: (Q ++ rcomps (.slice (some ⟨ga, oa, none⟩) n cp) Y u' n room { r4 with H := ins st (r4.R.length : Int) r4.H })))
                                  case first =>
                                    have hD := rd (ndC sh NB v :: Q) HM4.out
                                    have d7 := hD.c7
                                    have d6 := hD.c6
                                    obtain ⟨own, hsep, hown⟩ := id HM4.out
                                    have hrow := r_held (ndC sh NB v :: Q) hsep
                                    obtain ⟨ah, ch, hvh⟩ := hrow.form
                                    obtain ⟨ar, cr, hvr⟩ := own_form (r_rs (ndC sh NB v :: Q) hsep)
                                    rw [hvh] at d7
                                    rw [hvr] at d6
                                    have hlen : r4.H.length ≤ 4096 := by rw [h4H, hr3H]; omega
                                    have HPU : ∀ (u' : World) (_ : Upd Nowhere w4 u'), Hid (Calls Tryd.prog 52 #[.slice ah r4.H.length ch, .int .u64 st, .int .i64 (r4.R.length : Nat)] u' fun e w' => ∃ v', e = .returned v' ∧ Ref09.Made u' w' v' (insR (st, (r4.R.length : Int)) r4.H)) := fun u' hu => Lib.hid (Ref09.push_any (base := 0) (by rw [← hvh]; exact ownsRow_upd hrow hu (fun _ _ h => h)) hlen st _)
                                    clear hD hsep hown hrow hvh hvr hlen h4H h4R hr3F hr3H hr3R hr3P
                                    obtain ⟨e0, -, -, e3⟩ := nd_cells HM4.out
                                    have hnb : NB ≠ Y.b := by
                                      obtain ⟨own, hs, _⟩ := id HM4.out
                                      obtain ⟨o, o', h1, h2, h3, _⟩ := hs
                                      obtain ⟨o2, k1, k2⟩ := Sep.has (C := blkC Y.b (rtop (.slice (some ⟨ga, oa, none⟩) n cp) Y u3 n room r4) TT) h2 (List.mem_append_right _ (by simp [rcomps]))
                                      intro e9
                                      exact h3 NB ((h1.2 _).2 rfl) (k2 _ ((k1.2 _).2 e9))
                                    refine wp_region_held_drew (S := fun w' => w'.cell? ⟨Y.b, 6, none⟩ = some (.slice ar r4.R.length cr) ∧ w'.cell? ⟨NB, 0, none⟩ = some (.int .i64 (sh.par v : Nat)) ∧ w'.cell? ⟨NB, 3, none⟩ = some (.int .u64 (sh.gap v : Nat))) (by kernel_rfl) ⟨d6, e0, e3⟩ (fun hHeld => ?_)
                                    refine wpAnyH_take (i := 0) (v := ?_) (by simp only [List.getElem?_toArray, List.getElem?_cons_zero, List.getElem?_cons_succ]; rfl) (by kernel_rfl) (by kernel_rfl) (by kernel_rfl) (by intro _ _ _ h; exact h) (Or.inl ⟨by rfl, ?_⟩) (by assumption) ?_
                                    rotate_left 1
                                    · intro w hSw; (try dsimp only at hSw); go_simp; try with_reducible rfl
                                    try simp only [Act.put, List.setIfInBounds_toArray, List.set_cons_zero, List.set_cons_succ]
                                    refine wpAnyH_take (i := 1) (v := ?_) (by simp only [List.getElem?_toArray, List.getElem?_cons_zero, List.getElem?_cons_succ]; rfl) (by kernel_rfl) (by kernel_rfl) (by kernel_rfl) (by intro _ _ _ h; exact h) (Or.inl ⟨by rfl, ?_⟩) (by assumption) ?_
                                    rotate_left 1
                                    · intro w hSw; (try dsimp only at hSw); go_simp; try with_reducible rfl
                                    try simp only [Act.put, List.setIfInBounds_toArray, List.set_cons_zero, List.set_cons_succ]
                                    refine wpAnyH_take (i := 2) (v := ?_) (by simp only [List.getElem?_toArray, List.getElem?_cons_zero, List.getElem?_cons_succ]; rfl) (by kernel_rfl) (by kernel_rfl) (by kernel_rfl) (by intro _ _ _ h; exact h) (Or.inl ⟨by rfl, ?_⟩) (by assumption) ?_
                                    rotate_left 1
                                    · intro w hSw; (try dsimp only at hSw); go_simp; try with_reducible rfl
                                    try simp only [Act.put, List.setIfInBounds_toArray, List.set_cons_zero, List.set_cons_succ]
                                    refine wpAnyH_take (i := 3) (v := ?_) (by simp only [List.getElem?_toArray, List.getElem?_cons_zero, List.getElem?_cons_succ]; rfl) (by kernel_rfl) (by kernel_rfl) (by kernel_rfl) (by intro _ _ _ h; exact h) (Or.inl ⟨by rfl, ?_⟩) (by assumption) ?_
                                    rotate_left 1
                                    · intro w hSw; (try dsimp only at hSw); go_simp; try with_reducible rfl
                                    try simp only [Act.put, List.setIfInBounds_toArray, List.set_cons_zero, List.set_cons_succ]
                                    refine wpAnyH_take (i := 5) (v := ?_) (by simp only [List.getElem?_toArray, List.getElem?_cons_zero, List.getElem?_cons_succ]; rfl) (by kernel_rfl) (by kernel_rfl) (by kernel_rfl) (by intro _ _ _ h; exact h) (Or.inl ⟨by rfl, ?_⟩) (by assumption) ?_
                                    rotate_left 1
                                    · intro w hSw; (try dsimp only at hSw); go_simp; try with_reducible rfl
                                    try simp only [Act.put, List.setIfInBounds_toArray, List.set_cons_zero, List.set_cons_succ]
                                    refine wpAnyH_take (i := 6) (v := ?_) (by simp only [List.getElem?_toArray, List.getElem?_cons_zero, List.getElem?_cons_succ]; rfl) (by kernel_rfl) (by kernel_rfl) (by kernel_rfl) (by intro _ _ _ h; exact h) (Or.inl ⟨by rfl, ?_⟩) (by assumption) ?_
                                    rotate_left 1
                                    · intro w hSw; (try dsimp only at hSw); go_simp; try with_reducible rfl
                                    try simp only [Act.put, List.setIfInBounds_toArray, List.set_cons_zero, List.set_cons_succ]
                                    refine wpAnyH_take (i := 7) (v := ?_) (by simp only [List.getElem?_toArray, List.getElem?_cons_zero, List.getElem?_cons_succ]; rfl) (by kernel_rfl) (by kernel_rfl) (by kernel_rfl) (by intro _ _ _ h; exact h) (Or.inl ⟨by rfl, ?_⟩) (by assumption) ?_
                                    rotate_left 1
                                    · intro w hSw; (try dsimp only at hSw); go_simp; try with_reducible rfl
                                    try simp only [Act.put, List.setIfInBounds_toArray, List.set_cons_zero, List.set_cons_succ]
                                    refine wpAnyH_take (i := 8) (v := ?_) (by simp only [List.getElem?_toArray, List.getElem?_cons_zero, List.getElem?_cons_succ]; rfl) (by kernel_rfl) (by kernel_rfl) (by kernel_rfl) (by intro _ _ _ h; exact h) (Or.inl ⟨by rfl, ?_⟩) (by assumption) ?_
                                    rotate_left 1
                                    · intro w hSw; (try dsimp only at hSw); go_simp; try with_reducible rfl
                                    try simp only [Act.put, List.setIfInBounds_toArray, List.set_cons_zero, List.set_cons_succ]
                                    refine wpAnyH_take (i := 9) (v := ?_) (by simp only [List.getElem?_toArray, List.getElem?_cons_zero, List.getElem?_cons_succ]; rfl) (by kernel_rfl) (by kernel_rfl) (by kernel_rfl) (by intro _ _ _ h; exact h) (Or.inl ⟨by rfl, ?_⟩) (by assumption) ?_
                                    rotate_left 1
                                    · intro w hSw; (try dsimp only at hSw); go_simp; try with_reducible rfl
                                    try simp only [Act.put, List.setIfInBounds_toArray, List.set_cons_zero, List.set_cons_succ]
                                    refine wpAnyH_take (i := 10) (v := ?_) (by simp only [List.getElem?_toArray, List.getElem?_cons_zero, List.getElem?_cons_succ]; rfl) (by kernel_rfl) (by kernel_rfl) (by kernel_rfl) (by intro _ _ _ h; exact h) (Or.inl ⟨by rfl, ?_⟩) (by assumption) ?_
                                    rotate_left 1
                                    · intro w hSw; (try dsimp only at hSw); go_simp; try with_reducible rfl
                                    try simp only [Act.put, List.setIfInBounds_toArray, List.set_cons_zero, List.set_cons_succ]
                                    refine wpAnyH_ready (rs := [4]) (by kernel_rfl) (by simp) ?_
                                    refine AllReadyH.cons (by simp only [List.getElem?_toArray, List.getElem?_cons_zero, List.getElem?_cons_succ]; rfl) (fun K hK => ?_) AllReadyH.nil
                                    go_simp
                                    refine hK.out _ _ (by (try dsimp only); assumption) (fun hHeld => ?_)
                                    clear hK K
                                    refine wpAnyH_ready (rs := [11]) (by kernel_rfl) (by simp) ?_
                                    refine AllReadyH.cons (by simp only [List.getElem?_toArray, List.getElem?_cons_zero, List.getElem?_cons_succ]; rfl) (fun K hK => ?_) AllReadyH.nil
                                    go_simp
                                    go_wp2_with (go_at_call 52; refine (keepP3 (HPU _ (by first | with_reducible exact Upd.refl _ _ | with_reducible exact (Upd.refl _ _).drew)).out (by assumption)).mono ?_; rintro e w5 ⟨v5, rfl, hM5, hS5⟩; have hu5 := hM5.2; have hU5 : Upd Nowhere w4 w5 := (by first | with_reducible exact hu5 | with_reducible exact ((Upd.refl Nowhere w4).drew).trans hu5 (fun _ _ h => h)); have HM5 := Lib.hid (Made.old HM4.out hU5); have hD5 := rd (ndC sh NB v :: Q) HM5.out; have d7' := hD5.c7; have z7' := hD5.fz 7; have HF5 := Lib.hid (show Made w0 (w5.setCell ⟨Y.b, 7, none⟩ v5) (ndC sh NB v :: (Q ++ rcomps (.slice (some ⟨ga, oa, none⟩) n cp) Y { u3 with vH := v5 } n room { r4 with H := ins st (r4.R.length : Int) r4.H })) from (by rw [← insR_ins]; exact mlift HM4.out (fun own hs => r_new_held (ndC sh NB v :: Q) hs (v := v5) (H := insR (st, (r4.R.length : Int)) r4.H) hU5 hM5.1))); obtain ⟨a5, c5, rfl⟩ := hM5.1.form; clear hU5 hM5 hD5 hu5)
                                    refine hK.out _ _ (by (try dsimp only); assumption) (fun hHeld => ?_)
                                    clear hK K
                                    refine wpAnyH_take (i := 12) (v := ?_) (by simp only [List.getElem?_toArray, List.getElem?_cons_zero, List.getElem?_cons_succ]; rfl) (by kernel_rfl) (by kernel_rfl) (by kernel_rfl) (by intro _ _ _ h; exact h) (Or.inl ⟨by rfl, ?_⟩) (by assumption) ?_
                                    rotate_left 1
                                    · intro w hSw; (try dsimp only at hSw); go_simp; try with_reducible rfl
                                    try simp only [Act.put, List.setIfInBounds_toArray, List.set_cons_zero, List.set_cons_succ]
                                    refine wpAnyH_take (i := 13) (v := ?_) (by simp only [List.getElem?_toArray, List.getElem?_cons_zero, List.getElem?_cons_succ]; rfl) (by kernel_rfl) (by kernel_rfl) (by kernel_rfl) (by intro _ _ _ h; exact h) (Or.inl ⟨by rfl, ?_⟩) (by assumption) ?_
                                    rotate_left 1
                                    · intro w hSw; (try dsimp only at hSw); go_simp; try with_reducible rfl
                                    try simp only [Act.put, List.setIfInBounds_toArray, List.set_cons_zero, List.set_cons_succ]
                                    refine wpAnyH_ready (rs := [14]) (by kernel_rfl) (by simp) ?_
                                    refine AllReadyH.cons (by simp only [List.getElem?_toArray, List.getElem?_cons_zero, List.getElem?_cons_succ]; rfl) (fun K hK => ?_) AllReadyH.nil
                                    go_simp
                                    refine hK.out _ _ (by (try dsimp only); exact keepT3 (by assumption) hnb hnb) (fun hHeld => ?_)
                                    clear hK K
                                    refine wpAnyH_done (by kernel_rfl) ?_ _
                                    all_goals
                                      go_wp2_with fail
                                      go_meet
                                      first
                                        | exact ⟨_, by with_reducible exact HF5.out⟩
                                        | exact ⟨_, by with_reducible exact HF5.out.old (Upd.refl _ _).drew⟩
                                  case rest =>
                                    obtain ⟨u5, hM5⟩ := hcut
                                    have HM5 := Lib.hid hM5
                                    obtain ⟨w5, rfl⟩ : ∃ y, y = wc := ⟨_, rfl⟩
                                    obtain ⟨i0, hi, hz0, hz1, hz2⟩ := info_parts infoRi
                                    have hD := rd (ndC sh NB v :: Q) HM5.out
                                    have d6 := hD.c6
                                    have z6 := hD.fz 6
                                    obtain ⟨own, hsep, hown⟩ := id HM5.out
                                    have hrs := r_rs (ndC sh NB v :: Q) hsep
                                    have hne := r_ne_rs (ndC sh NB v :: Q) hsep
                                    obtain ⟨ar, cr, hvr⟩ := own_form hrs
                                    rw [hvr] at d6 hrs hne
                                    have HRS := Lib.hid hrs
                                    have HVR := Lib.hid hvr
                                    have hlen : r4.R.length ≤ 999999999 := by rw [h4R, hr3R]; omega
                                    obtain ⟨m, hm9⟩ : ∃ y, r4.R.length = y := ⟨_, rfl⟩
                                    have HMM := Lib.hid hm9
                                    change w5.cell? ⟨Y.b, 6, none⟩ = some (.slice ar r4.R.length cr) at d6
                                    rw [hm9] at d6 hlen
                                    change (Value.slice ar r4.R.length cr).ownBlock ≠ some Y.b at hne
                                    rw [hm9] at hne
                                    have HNE := Lib.hid hne
                                    clear hM5 hD hsep hown hrs hvr hm9 HM4 hne
                                    go_wp2_with (at_builtin; go_loud (refine wpList_push rfl _ _ 64 rfl 0 TRi i0 (.agg #[.int .i64 0, .int .u64 0]) 2 16 Tryd.underlying64 hi hz0 hz1 hz2 rfl (by decide) (by decide) (.slice ar m cr) m (r4.R.flatMap rc) rfl (by have h9 := HRS.out; change w5.ownsRow 0 TRi 2 (.slice ar r4.R.length cr) r4.R.length (r4.R.flatMap rc) at h9; rw [HMM.out] at h9; exact ownsRow_upd h9 ((Upd.refl Nowhere w5).alloc _) (fun _ _ h => h)) w5.heap.size 1 [.int .i64 (v : Nat), .int .u64 (b : Nat)] rfl rfl (new_cells w5 #[.int .i64 (v : Nat), .int .u64 (b : Nat)] _) (by simp [Value.oneCell']) hlen (Nat.zero_le _) ?_; intro v6 w6 ho6 hu6 hn6; obtain ⟨a6, c6, rfl⟩ := own_form ho6; have HF6 := Lib.hid (mlift HM5.out (fun own hs => r_push_rise (ndC sh NB v :: Q) hs (p := (v, b)) (v := .slice a6 (m + 1) c6) ((Upd.refl Nowhere w5).alloc _) (by change w6.ownsRow 0 TRi 2 (.slice a6 (m + 1) c6) (r4.R.length + 1) _; rw [HMM.out]; exact ho6) (by rw [HVR.out]; change Upd (fun k => (Value.slice ar r4.R.length cr).ownBlock = some k) _ _; rw [HMM.out]; exact hu6) (by rw [HVR.out]; change OwnOrNew _ (.slice ar r4.R.length cr) _; rw [HMM.out]; exact hn6))); obtain ⟨y6, f6⟩ : w6.cell? ⟨Y.b, 6, none⟩ = some (.slice ar m cr) ∧ w6.frozen? ⟨Y.b, 6, none⟩ = false := cell_off ((Upd.refl Nowhere w5).alloc _) hu6 HNE.out d6 z6; clear ho6 hu6 hn6))
                                    go_end0
                                    exact ⟨rfl, _, by rw [HE9.out, HE4.out]; exact HF6.out.drop⟩
end Go.Proofs.YtllfloapiliheaaDoor.R30
namespace Go.Proofs.YtllfloapiliheaaDoor.R30
open Go.RowKit Go.Proofs BigFrame
open Tree (Sh TS up up_at up_off mad chi rk Nd NodesAt shOf Bal Still rises rise1 meas)
open Cal (ins)
set_option maxHeartbeats 8000000
set_option maxRecDepth 1000000
set_option linter.unusedSimpArgs false
/-- On the way to T. -/
structure Way (sh : Sh) (rm : Nat) (T s : TS) (r r0 : RS) (B : Nat) : Prop where
  sim : Sim sh s r
  bal : Bal sh s 0
  tot : Tree.Tot s 0
  le : s.m ≤ rm
  ends : rises sh (meas s.H) s = T
  fit : RFit r
  P : r.P = r0.P
  left : r.left = r0.left
  pot : r.R.length + meas s.H ≤ B
theorem Way.step {sh : Sh} {rm : Nat} {T s : TS} {r r0 : RS} {B : Nat} (hs : sh.Ok) (h : Way sh rm T s r r0 B) {t v b : Nat} {l : List (Nat × WheelR.Ri)} (hH : s.H = (t, (v, b)) :: l) (ht : t ≤ s.now) :
    ∃ (k : Nat) (rl : List (Nat × Int)), r.H = (t, (k : Int)) :: rl ∧ r.R[k]? = some (v, b) ∧ Way sh rm T (rise1 sh s) (rcome sh 32 { r with H := rl } t (sh.par v) v b) r0 B ∧ meas (rise1 sh s).H < meas s.H ∧ (rise1 sh s).now = s.now := by
  obtain ⟨k, rl, a1, a2, a3, a4, a5, a6⟩ := h.sim.rise hs h.bal hH ht
  obtain ⟨_, _, _, _, b1, b2, b3⟩ := Tree.rise1_some hs h.bal hH ht
  have hf : RFit { r with H := rl } := ⟨h.fit.vi, h.fit.tg, h.fit.fr, h.fit.pk⟩
  refine ⟨k, rl, a1, a2, ⟨a3, b1, ?_, by rw [b2.m]; exact h.le, by rw [← Tree.rises_step hs h.bal hH ht]; exact h.ends, rcome_fit 32 hf _ _ _ _, a4.trans h.P, a5.trans h.left, Nat.le_trans a6 h.pot⟩, b3, b2.now⟩
  have h1 := h.tot
  have h2 := b2.len
  have h3 := b2.m
  unfold Tree.Tot at h1 ⊢
  omega
/-- Before the first one held rises: there is room. -/
theorem Way.room {sh : Sh} {rm : Nat} {T s : TS} {r r0 : RS} {B : Nat} (hs : sh.Ok) (h : Way sh rm T s r r0 B) {t v b : Nat} {l : List (Nat × WheelR.Ri)} (hH : s.H = (t, (v, b)) :: l) :
    v < sh.n ∧ sh.par v < sh.n ∧ sh.par v < 32 ∧ t ≤ 18446744073709551615 ∧ b ≤ 18446744073709551615 ∧ (∀ j, j ≤ sh.par v → (r.L j).length < rm) ∧ l.length < rm := by
  obtain ⟨h1, h2, h3, h4, h5, h6, h7⟩ := Tree.headless h.bal hH
  have hp := hs.par v h5 h6
  have hle := hs.le
  have htot := h.tot
  have hm := h.le
  have hl : s.H.length = l.length + 1 := by rw [hH]; rfl
  have ht1 : Tree.Tot { s with H := l } 1 := by
    unfold Tree.Tot at htot ⊢
    show s.m = (s.q 0).length + l.length + 1
    omega
  refine ⟨h5, by omega, by omega, h4, by omega, fun j hj => ?_, ?_⟩
  · have := Bal.room h1 hs ht1 (room := rm) (i := sh.par v) hm (.inr hp) j hj (by omega)
    rw [← (h.sim.L j (by omega)).len]
    exact this
  · unfold Tree.Tot at htot
    omega
theorem Way.nil_or {sh : Sh} {rm : Nat} {T s : TS} {r r0 : RS} {B : Nat} (h : Way sh rm T s r r0 B) : (Still s ∧ s = T ∧ (r.H = [] ∨ ∃ t k rl, r.H = (t, k) :: rl ∧ s.now < t ∧ t ≤ 18446744073709551615)) ∨ ∃ t v b l, s.H = (t, (v, b)) :: l ∧ t ≤ s.now := by
  rcases Tree.due_or h.bal with hst | ⟨t, v, b, l, hH, ht⟩
  · left
    have he : s = T := by
      have := h.ends
      rw [Tree.rises_still _ hst] at this
      exact this
    refine ⟨hst, he, ?_⟩
    have h2 := h.sim.H
    cases hr : r.H with
    | nil => exact .inl rfl
    | cons a rl =>
      rw [hr] at h2
      cases hs : s.H with
      | nil => rw [hs] at h2; exact h2.elim
      | cons c l =>
        rw [hs] at h2
        have h3 := hst c (by rw [hs]; exact List.mem_cons_self ..)
        have h4 := h.bal.hn c (by rw [hs]; exact List.mem_cons_self ..)
        obtain ⟨k1, _⟩ := h2
        exact .inr ⟨a.1, a.2, rl, rfl, by rw [← k1]; exact h3, by rw [← k1]; exact h4.2.2.2.2⟩
  · exact .inr ⟨t, v, b, l, hH, ht⟩
theorem keepA4 {w : World} {o : Obj} {v0 v1 v2 v3 : Value} {a0 a1 a2 a3 : Addr} (h : w.cell? a0 = some v0 ∧ w.cell? a1 = some v1 ∧ w.cell? a2 = some v2 ∧ w.cell? a3 = some v3) :
    (w.alloc o).cell? a0 = some v0 ∧ (w.alloc o).cell? a1 = some v1 ∧ (w.alloc o).cell? a2 = some v2 ∧ (w.alloc o).cell? a3 = some v3 :=
  have hu := (Upd.refl Nowhere w).alloc o
  ⟨cell_old hu h.1, cell_old hu h.2.1, cell_old hu h.2.2.1, cell_old hu h.2.2.2⟩
theorem pass_any {w0 : World} {ga oa : Nat} {nl : List Nd} (cp : Nat) (hn : NodesAt w0 (some ⟨ga, oa, none⟩) nl) (hok : Tree.okL 0 nl = true) (h0 : 0 < nl.length) (h32 : nl.length ≤ 32) (hs : (shOf nl).Ok) (Y : RLay) (room : Int) {w : World} (Q : List Comp) {u : RV} {r : RS} {s : TS} {rm B : Nat}
    (hm : Made w0 w (Q ++ rcomps (.slice (some ⟨ga, oa, none⟩) nl.length cp) Y u nl.length room r)) (hS : Sim (shOf nl) s r) (hg : Tree.Good (shOf nl) rm s) (hrm : rm ≤ 4096) (hfit : RFit r) (hP : r.P.length ≤ 1000000) (hB : r.R.length + meas s.H ≤ B) (hB2 : B ≤ 900000000) (now : Nat) (ht : now ≤ 18446744073709551615) :
    Calls Tryd.prog 39 #[.pointer (some ⟨Y.b, 0, none⟩), .int .u64 (now : Nat)] w fun e w' => e = .returned (.tuple #[]) ∧ ∃ u' r', Made w0 w' (Q ++ rcomps (.slice (some ⟨ga, oa, none⟩) nl.length cp) Y u' nl.length room r') ∧ Way (shOf nl) rm (Tree.pass (shOf nl) s now) (Tree.pass (shOf nl) s now) r' r B := by
  have HCM := Lib.hid (come_any cp hn hok h0 h32 hs Y room 32)
  have HND := fun (u : World) (hu : Upd Nowhere w0 u) (i : Nat) (hi : i < nl.length) => Lib.hid (nodes_at hn hu hok hi)
  have hnow := hg.bal.now
  obtain ⟨N, hN⟩ : ∃ N, max s.now now = N := ⟨_, rfl⟩
  have hrn : r.now = s.now := hS.now
  have hway : Way (shOf nl) rm (Tree.pass (shOf nl) s now) { s with now := N } { r with now := N } r B := ⟨⟨hS.L, hS.vi, hS.tg, hS.fr, hS.H, rfl, hS.m⟩, by rw [← hN]; exact Tree.later_bal hg.bal ht, hg.tot, hg.le, by unfold Tree.pass; rw [hN], ⟨hfit.vi, hfit.tg, hfit.fr, hfit.pk⟩, rfl, rfl, hB⟩
  have hN2 : N ≤ 18446744073709551615 := by omega
  obtain ⟨sh, hsh⟩ : ∃ sh, shOf nl = sh := ⟨_, rfl⟩
  have hshn : (shOf nl).n = nl.length := rfl
  rw [hsh] at hS hg hs HCM HND hway hshn ⊢
  obtain ⟨n, hnl⟩ : ∃ n, nl.length = n := ⟨_, rfl⟩
  rw [hnl] at hm HCM HND hshn ⊢
  obtain ⟨T, hT⟩ : ∃ T, Tree.pass sh s now = T := ⟨_, rfl⟩
  rw [hT] at hway ⊢
  have HWAY := Lib.hid hway
  have HS := Lib.hid hs
  have HSN := Lib.hid hshn
  have HM := Lib.hid hm
  have hNr : max r.now now = N := by rw [hrn]; exact hN
  have HNR := Lib.hid hNr
  have hD := rd Q hm
  have c8 := hD.c8
  have z8 := hD.fz 8
  obtain ⟨rn, hrn9⟩ : ∃ x, r.now = x := ⟨_, rfl⟩
  rw [hrn9] at c8
  have HRN := Lib.hid hrn9
  clear hway hs hshn hm hD hS hg hnow hN hrn hsh hT hnl hn hok h0 hNr hrn9 hfit
  obtain ⟨bb, hbb⟩ : ∃ bb, decide (rn < now) = bb := ⟨_, rfl⟩
  have t1 : decide ((now : Int) > (rn : Int)) = bb := by rw [← hbb]; exact decide_eq_decide.2 (by omega)
  have HBB := Lib.hid hbb
  go_enter Tryd.func39, Tryd.ntmps39
  go_upto_if 11 with fail
  clear t1 hbb
  go_cut [] from 6 to 15 (fun wc => ∃ u', Made w0 wc (Q ++ rcomps (.slice (some ⟨ga, oa, none⟩) n cp) Y u' n room { r with now := N }))
  case first =>
    have hz := HNR.out
    rw [HRN.out] at hz
    cases bb with
    | true =>
      have hgt : rn < now := of_decide_eq_true HBB.out
      have e9 : N = now := by omega
      have HE := Lib.hid e9
      clear hz hgt e9
      go_wp2_with fail
      go_meet
      exact ⟨u, by rw [HE.out]; exact mlift HM.out (fun own hs => r_set_b Q hs 8 _ (u' := u) (r' := { r with now := now }) rfl rfl rfl)⟩
    | false =>
      have hgt : ¬ rn < now := of_decide_eq_false HBB.out
      have e9 : ({ r with now := N } : RS) = r := by rw [show N = r.now by rw [HRN.out]; omega]
      have HE := Lib.hid e9
      clear hz hgt e9
      go_wp2_with fail
      go_meet
      exact ⟨u, by rw [HE.out]; exact HM.out⟩
  case rest =>
    obtain ⟨u2, hm2⟩ := hcut
    have HM2 := Lib.hid hm2
    obtain ⟨w2, rfl⟩ : ∃ y, y = wc := ⟨_, rfl⟩
    clear hm2 HM c8 z8
    go_wp2_with fail
    go_loopg [4] (meas s.H + 1) (fun gk _ wr => ∃ s' r' u', meas s'.H < gk ∧ Made w0 wr (Q ++ rcomps (.slice (some ⟨ga, oa, none⟩) n cp) Y u' n room r') ∧ Way sh rm T s' r' r B ∧ s'.now = N)
    case atStart => exact ⟨{ s with now := N }, _, u2, Nat.lt_succ_self _, HM2.out, HWAY.out, rfl⟩
    case round =>
      obtain ⟨s', r', u', hgk, hM3, hW, hNow⟩ := hrel
      obtain ⟨w3, rfl⟩ : ∃ y, y = wr := ⟨_, rfl⟩
      have HM3 := Lib.hid hM3
      have HW := Lib.hid hW
      have HGK := Lib.hid hgk
      have hD := rd Q hM3
      have c7 := hD.c7
      have c8 := hD.c8
      obtain ⟨own, hsep, hown⟩ := id hM3
      have hrow := r_held Q hsep
      obtain ⟨ah, ch, hvh⟩ := hrow.form
      have hrow2 := hrow
      rw [hvh] at c7
      have hnw : r'.now = N := by rw [hW.sim.now]; exact hNow
      rw [hnw] at c8
      have HNW := Lib.hid hNow
      rcases hW.nil_or with ⟨hst, hsT, hr⟩ | ⟨t, v, b, l, hH, hle⟩
      · subst hsT
        rcases hr with hr | ⟨t, k, rl, hr, hlt, ht2⟩
        · rw [hr] at c7
          clear hM3 hgk hD hsep hown hrow hrow2 hvh hr hst hnw hNow HM2 HWAY
          go_upto_region 2 with fail
          go_quiet (fail)
          go_wp2_with fail
          go_end0
          exact ⟨rfl, u', r', HM3.out.old ((Upd.refl _ _).drewN _), HW.out⟩
        · obtain ⟨g, c, he, hg, q0, q1⟩ := hrow.cell (i := 0) (e := (t, k)) (by rw [hr]; rfl)
          rw [hvh] at he
          injection he with he1 he2 he3
          subst he1
          subst he3
          clear he2
          obtain ⟨m, hm9⟩ : ∃ m, r'.H.length = m := ⟨_, rfl⟩
          have hm0 : 0 < m := by rw [← hm9, hr]; simp
          rw [hm9] at c7
          have d1 : decide ((m : Int) > 0) = true := decide_eq_true (by omega)
          have d2 : decide (0 < m) = true := decide_eq_true hm0
          have d3 : decide ((t : Int) ≤ (N : Int)) = false := decide_eq_false (by rw [hNow] at hlt; omega)
          have d4 : decide (t ≤ N) = false := decide_eq_false (by rw [hNow] at hlt; omega)
          have hmI : (0 : Int) < (m : Int) := by omega
          clear hM3 hgk hD hsep hown hrow hrow2 hvh hr hst hnw hNow HM2 HWAY hm9 hlt
          go_upto_region 2 with fail
          go_quiet (fail)
          go_wp2_with fail
          go_end0
          exact ⟨rfl, u', r', HM3.out.old ((Upd.refl _ _).drewN _), HW.out⟩
      · obtain ⟨k, rl, hr, hrk, hW2, hlt, hnw2⟩ := hW.step HS.out hH hle
        obtain ⟨p1, p2, p3, p4, p5, p6, p7⟩ := hW.room HS.out hH
        obtain ⟨g, c, he, hg, q0, q1⟩ := hrow.cell (i := 0) (e := (t, (k : Int))) (by rw [hr]; rfl)
        have q2 : w3.cell? ⟨g, 0, none⟩ = some (.int .u64 (t : Nat)) := q0
        have q3 : w3.cell? ⟨g, 1, none⟩ = some (.int .i64 (k : Nat)) := q1
        rw [hvh] at he
        injection he with he1 he2 he3
        subst he1
        subst he3
        clear he2
        obtain ⟨m, hm9⟩ : ∃ m, r'.H.length = m := ⟨_, rfl⟩
        have hm0 : 0 < m := by rw [← hm9, hr]; simp
        have hm1 : m ≤ 4096 := by
          have h9 := hW.sim.H.len
          rw [hH, hm9] at h9
          simp at h9
          omega
        rw [hm9] at c7
        have d1 : decide ((m : Int) > 0) = true := decide_eq_true (by omega)
        have d2 : decide (0 < m) = true := decide_eq_true hm0
        have d3 : decide ((t : Int) ≤ (N : Int)) = true := decide_eq_true (by rw [hNow] at hle; omega)
        have d4 : decide (t ≤ N) = true := decide_eq_true (by rw [hNow] at hle; omega)
        have hmI : (0 : Int) < (m : Int) := by omega
        have HW2 := Lib.hid hW2
        have HLT := Lib.hid hlt
        have HNW2 := Lib.hid hnw2
        have HRK := Lib.hid hrk
        have HRL := Lib.hid hr
        have HVH := Lib.hid hvh
        have HMM := Lib.hid hm9
        have HP6 := Lib.hid p6
        clear hM3 hgk hD hsep hown hrow hrow2 hvh hr hnw hNow HM2 HWAY hm9 hW2 hlt hnw2 hrk hW hle p6
        go_upto_region 2 with fail
        go_quiet (fail)
        have HM4 := Lib.hid (HM3.out.old ((Upd.refl Nowhere w3).drewN nq))
        have c7' : (w3.drewN nq).cell? ⟨Y.b, 7, none⟩ = _ := c7
        have q2' : (w3.drewN nq).cell? ⟨g, 0, none⟩ = _ := q2
        have q3' : (w3.drewN nq).cell? ⟨g, 1, none⟩ = _ := q3
        clear c7 c8 q0 q1 q2 q3
        generalize w3.drewN nq = w4 at *
        go_upto_region 4 with fail
        have hM5 := m_blk' HM4.out #[.int .u64 (t : Nat), .int .i64 (k : Nat)] TI
        obtain ⟨XB, hXB⟩ : ∃ x, w4.heap.size = x := ⟨_, rfl⟩
        rw [hXB] at hM5
        simp only [hXB]
        clear hXB
        generalize w4.alloc (.cells #[.int .u64 (t : Nat), .int .i64 (k : Nat)] TI) = w5 at *
        have HM5 := Lib.hid hM5
        obtain ⟨own5, hsep5, hown5⟩ := id hM5
        have hrow5 := r_held (blkC XB #[.int .u64 (t : Nat), .int .i64 (k : Nat)] TI :: Q) hsep5
        rw [HVH.out] at hrow5
        have hrest := Ref09.rest_any hrow5 (by rw [HMM.out]; omega)
        rw [HMM.out, HRL.out, List.tail_cons] at hrest
        have HRS := Lib.hid hrest
        have c7 := (rd (blkC XB #[.int .u64 (t : Nat), .int .i64 (k : Nat)] TI :: Q) hM5).c7
        rw [HVH.out, HMM.out] at c7
        clear hM5 hsep5 hown5 hrow5 hrest c7' q2' q3'
        go_wp2_with fail
        refine (HRS.out).mono ?_
        rintro e w6 ⟨v6, rfl, hM6⟩
        have hu6 := hM6.2
        have hD6 := rd (blkC XB #[.int .u64 (t : Nat), .int .i64 (k : Nat)] TI :: Q) (HM5.out.old hu6)
        have d7 := hD6.c7
        have z7 := hD6.fz 7
        have HF6 := Lib.hid (mlift HM5.out (fun own hs => r_new_held (blkC XB #[.int .u64 (t : Nat), .int .i64 (k : Nat)] TI :: Q) hs (v := v6) (H := rl) hu6 hM6.1))
        obtain ⟨a6, c6, rfl⟩ := hM6.1.form
        clear hD6 hM6 hu6 c7
        go_upto_region 5 with fail
        generalize w6.setCell ⟨Y.b, 7, none⟩ (.slice a6 rl.length c6) = w7 at *
        clear d7 z7
        have hD7 := rd (blkC XB #[.int .u64 (t : Nat), .int .i64 (k : Nat)] TI :: Q) HF6.out
        have d6 : w7.cell? ⟨Y.b, 6, none⟩ = some u'.vR := hD7.c6
        obtain ⟨own7, hsep7, hown7⟩ := id HF6.out
        obtain ⟨g7, cR, hvr, k0, k1⟩ := r_rk (blkC XB #[.int .u64 (t : Nat), .int .i64 (k : Nat)] TI :: Q) hsep7 (show ({ r' with H := rl } : RS).R[k]? = some (v, b) from HRK.out)
        have hvr2 : u'.vR = .slice (some ⟨g7, 0, none⟩) r'.R.length cR := hvr
        rw [hvr2] at d6
        have hkl : k < r'.R.length := by
          rcases Nat.lt_or_ge k r'.R.length with h' | h'
          · exact h'
          · have h9 := HRK.out
            rw [List.getElem?_eq_none h'] at h9; cases h9
        have hRB : r'.R.length ≤ 900000000 := by
          have h9 := HW.out.pot
          omega
        obtain ⟨RL, hRL⟩ : ∃ x, r'.R.length = x := ⟨_, rfl⟩
        rw [hRL] at d6 hkl
        have hkI : (k : Int) < (RL : Nat) := by omega
        have k0' : w7.cell? ⟨g7, k * 2, none⟩ = some (.int .i64 (v : Nat)) := k0
        have k1' : w7.cell? ⟨g7, k * 2 + 1, none⟩ = some (.int .u64 (b : Nat)) := k1
        obtain ⟨x0, x1⟩ : w7.cell? ⟨XB, 0, none⟩ = some (.int .u64 (t : Nat)) ∧ w7.cell? ⟨XB, 1, none⟩ = some (.int .i64 (k : Nat)) := by
          obtain ⟨o, h1, _, _⟩ := Made.foc (blkC XB #[.int .u64 (t : Nat), .int .i64 (k : Nat)] TI) _ [] HF6.out
          exact ⟨h1.1.cellAt rfl, h1.1.cellAt rfl⟩
        have HRLL := Lib.hid hRL
        clear hD7 hsep7 hown7 hvr hvr2 k0 k1 hRL
        refine wp_region_held_drew (S := fun w' => w'.cell? ⟨Y.b, 6, none⟩ = some (.slice (some ⟨g7, 0, none⟩) RL cR) ∧ w'.cell? ⟨XB, 1, none⟩ = some (.int .i64 (k : Nat)) ∧ w'.cell? ⟨g7, k * 2, none⟩ = some (.int .i64 (v : Nat)) ∧ w'.cell? ⟨g7, k * 2 + 1, none⟩ = some (.int .u64 (b : Nat))) (by kernel_rfl) ⟨d6, x1, k0', k1'⟩ (fun hHeld => ?_)
        refine wpAnyH_take (i := 0) (v := ?_) (by simp only [List.getElem?_toArray, List.getElem?_cons_zero, List.getElem?_cons_succ]; rfl) (by kernel_rfl) (by kernel_rfl) (by kernel_rfl) (by intro _ _ _ h; exact h) (Or.inl ⟨by rfl, ?_⟩) (by assumption) ?_
        rotate_left 1
        · intro w hSw; (try dsimp only at hSw); go_simp; try with_reducible rfl
        try simp only [Act.put, List.setIfInBounds_toArray, List.set_cons_zero, List.set_cons_succ]
        refine wpAnyH_take (i := 1) (v := ?_) (by simp only [List.getElem?_toArray, List.getElem?_cons_zero, List.getElem?_cons_succ]; rfl) (by kernel_rfl) (by kernel_rfl) (by kernel_rfl) (by intro _ _ _ h; exact h) (Or.inl ⟨by rfl, ?_⟩) (by assumption) ?_
        rotate_left 1
        · intro w hSw; (try dsimp only at hSw); go_simp; try with_reducible rfl
        try simp only [Act.put, List.setIfInBounds_toArray, List.set_cons_zero, List.set_cons_succ]
        refine wpAnyH_take (i := 2) (v := ?_) (by simp only [List.getElem?_toArray, List.getElem?_cons_zero, List.getElem?_cons_succ]; rfl) (by kernel_rfl) (by kernel_rfl) (by kernel_rfl) (by intro _ _ _ h; exact h) (Or.inl ⟨by rfl, ?_⟩) (by assumption) ?_
        rotate_left 1
        · intro w hSw; (try dsimp only at hSw); go_simp; try with_reducible rfl
        try simp only [Act.put, List.setIfInBounds_toArray, List.set_cons_zero, List.set_cons_succ]
        refine wpAnyH_take (i := 3) (v := ?_) (by simp only [List.getElem?_toArray, List.getElem?_cons_zero, List.getElem?_cons_succ]; rfl) (by kernel_rfl) (by kernel_rfl) (by kernel_rfl) (by intro _ _ _ h; exact h) (Or.inl ⟨by rfl, ?_⟩) (by assumption) ?_
        rotate_left 1
        · intro w hSw; (try dsimp only at hSw); go_simp; try with_reducible rfl
        try simp only [Act.put, List.setIfInBounds_toArray, List.set_cons_zero, List.set_cons_succ]
        refine wpAnyH_take (i := 4) (v := ?_) (by simp only [List.getElem?_toArray, List.getElem?_cons_zero, List.getElem?_cons_succ]; rfl) (by kernel_rfl) (by kernel_rfl) (by kernel_rfl) (by intro _ _ _ h; exact h) (Or.inl ⟨by rfl, ?_⟩) (by assumption) ?_
        rotate_left 1
        · intro w hSw; (try dsimp only at hSw); go_simp; try with_reducible rfl
        try simp only [Act.put, List.setIfInBounds_toArray, List.set_cons_zero, List.set_cons_succ]
        refine wpAnyH_take (i := 5) (v := ?_) (by simp only [List.getElem?_toArray, List.getElem?_cons_zero, List.getElem?_cons_succ]; rfl) (by kernel_rfl) (by kernel_rfl) (by kernel_rfl) (by intro _ _ _ h; exact h) (Or.inl ⟨by rfl, ?_⟩) (by assumption) ?_
        rotate_left 1
        · intro w hSw; (try dsimp only at hSw); go_simp; try with_reducible rfl
        try simp only [Act.put, List.setIfInBounds_toArray, List.set_cons_zero, List.set_cons_succ]
        refine wpAnyH_take (i := 6) (v := ?_) (by simp only [List.getElem?_toArray, List.getElem?_cons_zero, List.getElem?_cons_succ]; rfl) (by kernel_rfl) (by kernel_rfl) (by kernel_rfl) (by intro _ _ _ h; exact h) (Or.inl ⟨by rfl, ?_⟩) (by assumption) ?_
        rotate_left 1
        · intro w hSw; (try dsimp only at hSw); go_simp; try with_reducible rfl
        try simp only [Act.put, List.setIfInBounds_toArray, List.set_cons_zero, List.set_cons_succ]
        refine wpAnyH_take (i := 7) (v := ?_) (by simp only [List.getElem?_toArray, List.getElem?_cons_zero, List.getElem?_cons_succ]; rfl) (by kernel_rfl) (by kernel_rfl) (by kernel_rfl) (by intro _ _ _ h; exact h) (Or.inl ⟨by rfl, ?_⟩) (by assumption) ?_
        rotate_left 1
        · intro w hSw; (try dsimp only at hSw); go_simp; try with_reducible rfl
        try simp only [Act.put, List.setIfInBounds_toArray, List.set_cons_zero, List.set_cons_succ]
        refine wpAnyH_ready (rs := [8]) (by kernel_rfl) (by simp) ?_
        refine AllReadyH.cons (by simp only [List.getElem?_toArray, List.getElem?_cons_zero, List.getElem?_cons_succ]; rfl) (fun K hK => ?_) AllReadyH.nil
        go_simp
        refine hK.out _ _ (by (try dsimp only); exact keepA4 (by assumption)) (fun hHeld => ?_)
        clear hK K
        refine wpAnyH_ready (rs := [9]) (by kernel_rfl) (by simp) ?_
        refine AllReadyH.cons (by simp only [List.getElem?_toArray, List.getElem?_cons_zero, List.getElem?_cons_succ]; rfl) (fun K hK => ?_) AllReadyH.nil
        go_simp
        refine hK.out _ _ (by (try dsimp only); exact keepA4 (by assumption)) (fun hHeld => ?_)
        clear hK K
        refine wpAnyH_done (by kernel_rfl) ?_ _
        have hM8 := (m_blk' HF6.out #[.int .i64 (v : Nat), .int .u64 (b : Nat)] TRi).old (Upd.refl _ _).drew
        clear d6 k0' k1' x0 x1 hHeld
        obtain ⟨UB, hUB⟩ : ∃ x, w7.heap.size = x := ⟨_, rfl⟩
        rw [hUB] at hM8
        try simp only [hUB]
        clear hUB
        generalize (w7.alloc (.cells #[.int .i64 (v : Nat), .int .u64 (b : Nat)] TRi)).drew = w8 at *
        have HM8 := Lib.hid hM8
        obtain ⟨x0, x1⟩ : w8.cell? ⟨XB, 0, none⟩ = some (.int .u64 (t : Nat)) ∧ w8.cell? ⟨XB, 1, none⟩ = some (.int .i64 (k : Nat)) := by
          obtain ⟨o, h1, _, _⟩ := Made.foc (blkC XB #[.int .u64 (t : Nat), .int .i64 (k : Nat)] TI) _ [blkC UB _ TRi] hM8
          exact ⟨h1.1.cellAt rfl, h1.1.cellAt rfl⟩
        obtain ⟨y0, y1⟩ : w8.cell? ⟨UB, 0, none⟩ = some (.int .i64 (v : Nat)) ∧ w8.cell? ⟨UB, 1, none⟩ = some (.int .u64 (b : Nat)) := by
          obtain ⟨o, h1, _, _⟩ := Made.foc (blkC UB #[.int .i64 (v : Nat), .int .u64 (b : Nat)] TRi) _ [] hM8
          exact ⟨h1.1.cellAt rfl, h1.1.cellAt rfl⟩
        have d0 := (rd (blkC UB #[.int .i64 (v : Nat), .int .u64 (b : Nat)] TRi :: blkC XB #[.int .u64 (t : Nat), .int .i64 (k : Nat)] TI :: Q) hM8).c0
        have hvn : v < n := by rw [← HSN.out]; exact p1
        have hvI : (v : Int) < (n : Int) := by omega
        obtain ⟨⟨n0, n1, n2, n3⟩, -⟩ := (HND w8 hM8.upd v hvn).out
        have hle2 := HS.out.le
        have HCO := fun (u : World) (hu : Upd Nowhere w8 u) => Lib.hid (HCM.out u (blkC UB #[.int .i64 (v : Nat), .int .u64 (b : Nat)] TRi :: blkC XB #[.int .u64 (t : Nat), .int .i64 (k : Nat)] TI :: Q) { u' with vH := .slice a6 rl.length c6 } { r' with H := rl } t (sh.par v) (v : Int) b p3 (by rw [← HSN.out]; exact p2) (hM8.old hu) ⟨HW.out.fit.vi, HW.out.fit.tg, HW.out.fit.fr, HW.out.fit.pk⟩
          (by
            obtain ⟨e1, e2⟩ := HS.out.inner p1 (by
              have h9 := Tree.headless HW.out.bal hH
              exact h9.2.2.2.2.2.1)
            unfold Rx
            rw [if_neg (by rw [e2]; simp)]
            exact ⟨v, p1, rfl⟩)
          (fun j hj => by have h9 := HP6.out j hj; show (r'.L j).length ≤ 4095; omega)
          (by
            have h9 := HMM.out
            rw [HRL.out, List.length_cons] at h9
            show rl.length ≤ 4095
            omega)
          hRB (by show r'.P.length ≤ 1000000; rw [HW.out.P]; exact hP) p4 p5)
        clear hM8 n1 n2 n3 hkl hkI HND HNR
        go_upto_region 6 with fail
        refine wp_region_tail 16 (by kernel_rfl) (by kernel_rfl) ?_
        simp only [List.take_succ_cons, List.take_zero, List.drop_succ_cons, List.drop_zero]
        repeat (go_big_quiet_step (fail))
        refine wpQuiet_nil ?_
        rintro _ ⟨nq2, rfl⟩
        have HC9 := Lib.hid (HCO _ ((Upd.refl Nowhere w8).drewN nq2)).out
        generalize w8.drewN nq2 = w9 at *
        clear HCO d0 x0 x1 y0 y1 n0
        go_wp2_with fail
        refine HC9.out.mono ?_
        rintro e w10 ⟨rfl, u10, hM10⟩
        have HM10 := Lib.hid hM10.drop.drop
        clear hM10 HC9
        go_wp2_with fail
        refine Stage.out ?_
        go_wp2_with fail
        go_roundg (meas s'.H)
        case rel => exact ⟨rise1 sh s', _, u10, HLT.out, HM10.out, HW2.out, HNW2.out.trans HNW.out⟩
        case measure => exact HGK.out
end Go.Proofs.YtllfloapiliheaaDoor.R30
namespace Go.Proofs.YtllfloapiliheaaDoor.R30
open Tree (Sh TS up up_at up_off mad chi rk come rise1 rises meas push pop down pass PK Bal Comes Good Gone stepped stepped_gone taken vi_bal)
open HeapE (El)
open WheelR (Ri)
open Cal (ins)
section
variable {sh : Sh} {s : TS} {r : RS}
/-- A packet is laid among the packets. -/
theorem Sim.packet (h : Sim sh s r) (p : Nat × Nat × Nat) : Sim sh { s with m := s.m + 1 } { r with P := r.P ++ [p] } :=
  ⟨fun i hi => (h.L i hi).mono fun _ _ he => he.more, h.vi, h.tg, h.fr, h.H, h.now, by
    show (r.P ++ [p]).length = s.m + 1 + r.left
    rw [List.length_append, h.m]
    simp only [List.length_cons, List.length_nil]
    omega⟩
/-- It comes into a leaf. -/
theorem Sim.pushed (hs : sh.Ok) (h : Sim sh s r) {i : Nat} (hi : i < sh.n) (hl : sh.leaf i = true) (p : Nat × Nat × Nat) (t b : Nat) :
    Sim sh (come sh 32 { s with m := s.m + 1 } t i ((0 : Int), p) b) (rcome sh 32 { r with P := r.P ++ [p] } t i (r.P.length : Int) b) ∧
      (rcome sh 32 { r with P := r.P ++ [p] } t i (r.P.length : Int) b).P = r.P ++ [p] ∧ (rcome sh 32 { r with P := r.P ++ [p] } t i (r.P.length : Int) b).left = r.left ∧
      (rcome sh 32 { r with P := r.P ++ [p] } t i (r.P.length : Int) b).R.length + meas (come sh 32 { s with m := s.m + 1 } t i ((0 : Int), p) b).H ≤ r.R.length + meas s.H + 34 := by
  obtain ⟨c1, c2, c3⟩ := Sim.come_ hs 32 t i ((0 : Int), p) (r.P.length : Int) b hi (h.packet p) (by
    unfold Enc
    rw [if_pos hl]
    exact ⟨r.P.length, rfl, by show (r.P ++ [p])[r.P.length]? = some p; rw [List.getElem?_append_right (Nat.le_refl _), Nat.sub_self]; rfl⟩) (fun h9 => by rw [hl] at h9; cases h9)
  have c4 := come_pot hs 32 (s := { s with m := s.m + 1 }) (r := { r with P := r.P ++ [p] }) t i ((0 : Int), p) (r.P.length : Int) b hi
  have hn := hs.le
  exact ⟨c1, c2, c3, Nat.le_trans c4 (by show r.R.length + meas s.H + i + 2 ≤ _; omega)⟩
/-- One leaves a node. -/
theorem Sim.take (h : Sim sh s r) {v : Nat} (hv : v < sh.n) {k : Nat} {e : El} {l : List (Nat × El)} (hq : s.q v = (k, e) :: l) :
    ∃ (x : Int) (rl : List (Nat × Int)), r.L v = (k, x) :: rl ∧ Enc sh r.P v e x ∧ Sim sh { s with q := up s.q v l } { r with L := up r.L v rl } := by
  have h2 := h.L v hv
  rw [hq] at h2
  cases hr : r.L v with
  | nil => rw [hr] at h2; exact h2.elim
  | cons a rl =>
    rw [hr] at h2
    obtain ⟨a1, a2⟩ := a
    obtain ⟨k1, k2, k3⟩ := h2
    have k1 : k = a1 := k1
    subst k1
    refine ⟨a2, rl, rfl, k2, ⟨fun j hj => ?_, h.vi, h.tg, h.fr, h.H, h.now, h.m⟩⟩
    show Two (Enc sh r.P j) (up s.q v l j) (up r.L v rl j)
    by_cases e1 : j = v
    · subst e1; rw [up_at, up_at]; exact k3
    · rw [up_off _ e1, up_off _ e1]; exact h.L j hj
/-- What going down one step leaves. -/
def rstep (sh : Sh) (r : RS) (v k : Nat) (rl : List (Nat × Int)) : RS := if sh.kind v = 3 then { r with L := up r.L v rl, Vi := up r.Vi v k } else { r with L := up r.L v rl }
theorem Sim.step {v k : Nat} {l : List (Nat × El)} {rl : List (Nat × Int)} (h : Sim sh { s with q := up s.q v l } { r with L := up r.L v rl }) : Sim sh (stepped sh s v k l) (rstep sh r v k rl) := by
  unfold stepped rstep
  split
  · refine ⟨h.L, fun j hj => ?_, h.tg, h.fr, h.H, h.now, h.m⟩
    show up r.Vi v k j = up s.vi v k j
    unfold up
    split
    · rfl
    · exact h.vi j hj
  · exact h
theorem rstep_P (v k : Nat) (rl : List (Nat × Int)) : (rstep sh r v k rl).P = r.P ∧ (rstep sh r v k rl).R = r.R ∧ (rstep sh r v k rl).left = r.left := by unfold rstep; split <;> exact ⟨rfl, rfl, rfl⟩
theorem down_leaf {f x k : Nat} {e : El} {t : List (Nat × El)} (hq : s.q x = (k, e) :: t) (hl : sh.leaf x = true) : down sh (f + 1) s x = (e, { s with q := up s.q x t }) := by
  simp only [down, hq]; rw [if_pos hl]
theorem down_step (hs : sh.Ok) {x k : Nat} (h : Bal sh s x) (hx : x < sh.n) {e : El} {t : List (Nat × El)} (hq : s.q x = (k, e) :: t) (hl : sh.leaf x = false) :
    ∃ c, c < sh.n ∧ x < c ∧ e = chi c ∧ (∀ f, down sh (f + 1) s x = down sh f (stepped sh s x k t) c) ∧ Bal sh (stepped sh s x k t) c ∧ (stepped sh s x k t).q c ≠ [] := by
  obtain ⟨c, hc, hlt, hcp, rfl, hne, hb, hr⟩ := (taken hs h hx hq).2 hl
  refine ⟨c, hc, hlt, rfl, fun f => ?_, ?_, ?_⟩
  · simp only [down, hq]; rw [if_neg (by rw [hl]; exact Bool.false_ne_true)]
    unfold stepped
    have e2 : (chi c).1.toNat = c := Int.toNat_natCast c
    rw [e2]
  · unfold stepped
    split
    · exact vi_bal hb x hr
    · exact hb
  · rw [(stepped_gone (sh := sh) (s := s) x k t).2, up_off _ (by omega)]; exact hne
/-- On the way down to T. -/
structure Down (sh : Sh) (T : El × TS) (s0 s : TS) (r0 r : RS) (v f : Nat) : Prop where
  lt : v < sh.n
  fu : sh.n ≤ f + v
  bal : Bal sh s v
  ne : s.q v ≠ []
  sim : Sim sh s r
  ends : down sh f s v = T
  P : r.P = r0.P
  R : r.R = r0.R
  left : r.left = r0.left
  H : s.H = s0.H
  vi : ∀ i, r.Vi i ≤ 18446744073709551615
  tg : ∀ i, r.Tg i ≤ 18446744073709551615
  fr : ∀ i, r.Fr i ≤ 18446744073709551615
  lens : ∀ i, i < sh.n → (s.q i).length ≤ 4096
theorem up_len {s : TS} {x k : Nat} {e : El} {t : List (Nat × El)} (hq : s.q x = (k, e) :: t) {n : Nat} (h : ∀ i, i < n → (s.q i).length ≤ 4096) : ∀ i, i < n → (up s.q x t i).length ≤ 4096 := fun i hi => by
  have h1 := h i hi
  by_cases e1 : i = x
  · subst e1; rw [up_at]; rw [hq, List.length_cons] at h1; omega
  · rw [up_off _ e1]; exact h1
theorem Down.go (hs : sh.Ok) {T : El × TS} {s0 : TS} {r0 : RS} {v f : Nat} (h : Down sh T s0 s r0 r v f) :
    ∃ (f' k : Nat) (e : El) (l : List (Nat × El)) (x : Int) (rl : List (Nat × Int)), f = f' + 1 ∧ s.q v = (k, e) :: l ∧ r.L v = (k, x) :: rl ∧ k ≤ 18446744073709551615 ∧ Enc sh r.P v e x ∧
      (sh.leaf v = true → T = (e, { s with q := up s.q v l }) ∧ Sim sh { s with q := up s.q v l } { r with L := up r.L v rl }) ∧
      (sh.leaf v = false → ∃ c : Nat, x = (c : Int) ∧ v < c ∧ c < sh.n ∧ Down sh T s0 (stepped sh s v k l) r0 (rstep sh r v k rl) c f') := by
  have hlt := h.lt
  have hfu := h.fu
  obtain ⟨f', rfl⟩ : ∃ f', f = f' + 1 := ⟨f - 1, by omega⟩
  cases hq : s.q v with
  | nil => exact absurd hq h.ne
  | cons a l =>
    obtain ⟨k, e⟩ := a
    obtain ⟨x, rl, h1, h2, h3⟩ := h.sim.take hlt hq
    have hk : k ≤ 18446744073709551615 := h.bal.rnk v hlt (k, e) (by rw [hq]; exact List.mem_cons_self ..)
    refine ⟨f', k, e, l, x, rl, rfl, rfl, h1, hk, h2, fun hl => ⟨?_, h3⟩, fun hl => ?_⟩
    · rw [← h.ends]; exact down_leaf hq hl
    · obtain ⟨c, c1, c2, rfl, c3, c4, c5⟩ := down_step hs h.bal hlt hq hl
      unfold Enc at h2
      rw [if_neg (by rw [hl]; simp)] at h2
      have hx : x = (c : Int) := h2
      obtain ⟨p1, p2, p3⟩ := rstep_P (sh := sh) (r := r) v k rl
      have g1 := stepped_gone (sh := sh) (s := s) v k l
      refine ⟨c, hx, c2, c1, ⟨c1, by omega, c4, c5, h3.step, by rw [← c3]; exact h.ends, p1.trans h.P, p2.trans h.R, p3.trans h.left, g1.1.H.trans h.H, ?_, ?_, ?_, by rw [g1.2]; exact up_len hq h.lens⟩⟩
      · unfold rstep
        split
        · exact Tree.up_le h.vi hk _
        · exact h.vi
      · unfold rstep; split <;> exact h.tg
      · unfold rstep; split <;> exact h.fr
end
end Go.Proofs.YtllfloapiliheaaDoor.R30
namespace Go.Proofs.YtllfloapiliheaaDoor.R30
open Go.RowKit Go.Proofs BigFrame
open Tree (Sh TS up up_at up_off mad chi rk Nd NodesAt shOf Bal Still rises rise1 meas pcell push pass come)
open Cal (ins)
set_option maxHeartbeats 8000000
set_option maxRecDepth 1000000
set_option linter.unusedSimpArgs false
theorem infoPk : (Tryd.prog.info? TPk).map (fun i => (i.zero, i.size, i.bytes)) = some (some (.agg #[.int .u32 0, .int .u32 0, .int .u64 0]), 3, 16) := by kernel_rfl
theorem keepA3 {w : World} {o : Obj} {v0 v1 v2 : Value} {a0 a1 a2 : Addr} (h : w.cell? a0 = some v0 ∧ w.cell? a1 = some v1 ∧ w.cell? a2 = some v2) :
    (w.alloc o).cell? a0 = some v0 ∧ (w.alloc o).cell? a1 = some v1 ∧ (w.alloc o).cell? a2 = some v2 :=
  have hu := (Upd.refl Nowhere w).alloc o
  ⟨cell_old hu h.1, cell_old hu h.2.1, cell_old hu h.2.2⟩
theorem pass_same {sh : Sh} {s : TS} {t t' : Nat} (h : max s.now t = max s.now t') : pass sh s t = pass sh s t' := by unfold pass; rw [h]
/-- How the reference stands behind an operation. -/
structure Aft (sh : Sh) (s' : TS) (r' : RS) (B M : Nat) : Prop where
  sim : Sim sh s' r'
  fit : RFit r'
  P : r'.P.length ≤ M
  pot : r'.R.length + meas s'.H ≤ B
theorem pk_cells {w0 w : World} {l : List Comp} {PB : Nat} {a b c : Nat} (h : Made w0 w (blkC PB (pcell a b c) TPk :: l)) : w.cell? ⟨PB, 0, none⟩ = some (.int .u32 a) ∧ w.cell? ⟨PB, 1, none⟩ = some (.int .u32 b) ∧ w.cell? ⟨PB, 2, none⟩ = some (.int .u64 c) := by
  obtain ⟨o, h1, _, _⟩ := Made.foc (blkC PB (pcell a b c) TPk) l [] h
  exact ⟨h1.1.cellAt rfl, h1.1.cellAt rfl, h1.1.cellAt rfl⟩
/-- A block is none of a tree's rows. -/
theorem blk_ne {w0 w : World} {PB n W : Nat} {cs : Array Value} {t T : TypeId} {v : Value} {xs : List Value} {l1 l2 : List Comp} (h : Made w0 w (l1 ++ blkC PB cs t :: l2)) (hD : rowW T W v n xs ∈ l1 ++ l2) : v.ownBlock ≠ some PB := by
  obtain ⟨own, hs, _⟩ := h
  exact sep_ne' hs l1 l2 rfl hD
theorem blk_bb {w0 w : World} {PB b : Nat} {cs ds : Array Value} {t T : TypeId} {l1 l2 : List Comp} (h : Made w0 w (l1 ++ blkC PB cs t :: l2)) (hD : blkC b ds T ∈ l1 ++ l2) : b ≠ PB := by
  obtain ⟨own, hs, _⟩ := h
  obtain ⟨o, o', h1, h2, h3, _⟩ := Sep.perm (l' := blkC PB cs t :: (l1 ++ l2)) List.perm_middle hs
  obtain ⟨oD, a1, a2⟩ := Sep.has h2 hD
  intro e
  exact h3 PB ((h1.2 PB).2 rfl) (a2 PB ((a1.2 PB).2 e.symm))
theorem push_any {w0 : World} {ga oa : Nat} {nl : List Nd} (cp : Nat) (hn : NodesAt w0 (some ⟨ga, oa, none⟩) nl) (hok : Tree.okL 0 nl = true) (h0 : 0 < nl.length) (h32 : nl.length ≤ 32) (hs : (shOf nl).Ok) (Y : RLay) {w : World} (Q : List Comp) {u : RV} {r : RS} {s : TS} {room : Nat}
    (hm : Made w0 w (Q ++ rcomps (.slice (some ⟨ga, oa, none⟩) nl.length cp) Y u nl.length (room : Int) r)) (hS : Sim (shOf nl) s r) (hg : Tree.Good (shOf nl) room s) (hrm : room ≤ 4096) (hfit : RFit r) (hP : r.P.length ≤ 900000) (hB : r.R.length + meas s.H ≤ 800000000) (now : Nat) (ht : now ≤ 18446744073709551615) (leaf : Int) (a b c : Nat) (ha : a < 4294967296) (hb : b < 4294967296) (hc : c ≤ 18446744073709551615) :
    Calls Tryd.prog 24 #[.pointer (some ⟨Y.b, 0, none⟩), .int .u64 (now : Nat), .int .i64 leaf, .agg (pcell a b c)] w fun e w' => e = .returned (.int .i64 ((push (shOf nl) room s now leaf (a, b, c)).1 : Nat)) ∧
      ∃ u' r', Made w0 w' (Q ++ rcomps (.slice (some ⟨ga, oa, none⟩) nl.length cp) Y u' nl.length (room : Int) r') ∧ Aft (shOf nl) (push (shOf nl) room s now leaf (a, b, c)).2 r' (r.R.length + meas s.H + 34) (r.P.length + 1) := by
  have HPS := fun (w1 : World) (Q : List Comp) (u : RV) (r : RS) (s : TS) (B : Nat) (hm : Made w0 w1 (Q ++ rcomps (.slice (some ⟨ga, oa, none⟩) nl.length cp) Y u nl.length (room : Int) r)) (hS : Sim (shOf nl) s r) (hg : Tree.Good (shOf nl) room s) (hfit : RFit r) (hP : r.P.length ≤ 1000000) (hB : r.R.length + meas s.H ≤ B) (hB2 : B ≤ 900000000) => Lib.hid (pass_any cp hn hok h0 h32 hs Y (room : Int) Q hm hS hg hrm hfit hP hB hB2 now ht)
  have HCM := Lib.hid (come_any cp hn hok h0 h32 hs Y (room : Int) 32)
  have HLF := fun (u : World) (hu : Upd Nowhere w0 u) (v : Nat) => Lib.hid (leaf_any cp hn hu hok h0 h32 v)
  have hshn : (shOf nl).n = nl.length := rfl
  have hgp := Tree.pass_good hs hg ht
  have hnw := (Tree.pass_bal hs hg.bal ht).2.2.1
  obtain ⟨R, hR⟩ : ∃ R, push (shOf nl) room s now leaf (a, b, c) = R := ⟨_, rfl⟩
  rw [hR]
  unfold push at hR
  simp only at hR
  obtain ⟨sh, hsh⟩ : ∃ sh, shOf nl = sh := ⟨_, rfl⟩
  rw [hsh] at hS hg hs hshn HPS HCM HLF hgp hR hnw ⊢
  obtain ⟨n, hnl⟩ : ∃ n, nl.length = n := ⟨_, rfl⟩
  rw [hnl] at hm HPS HCM HLF hshn h0 h32 ⊢
  obtain ⟨s1, hs1⟩ : ∃ s1, pass sh s now = s1 := ⟨_, rfl⟩
  obtain ⟨B, hBB⟩ : ∃ B, r.R.length + meas s.H = B := ⟨_, rfl⟩
  have hm1 := m_blk' hm (pcell a b c) TPk
  obtain ⟨PB, hPB⟩ : ∃ x, w.heap.size = x := ⟨_, rfl⟩
  rw [hPB] at hm1
  have hps := (HPS _ (blkC PB (pcell a b c) TPk :: Q) u r s B hm1 hS hg hfit (by omega) (Nat.le_of_eq hBB) (by omega)).out
  rw [hs1] at hps hR hgp hnw
  rw [hBB] at hB ⊢
  have HS := Lib.hid hs
  have HSN := Lib.hid hshn
  have HG := Lib.hid hgp
  have HNW : Hid (now ≤ s1.now) := Lib.hid (by rw [hnw]; exact Nat.le_max_right _ _)
  have HRR := Lib.hid hR
  have HP1 := Lib.hid hps
  have HPB := Lib.hid hPB
  have HPL := Lib.hid hP
  clear hm hS hg hfit hs hshn hgp hR hnw hs1 hBB hm1 hps hPB hP hn hok hsh hnl
  go_enter Tryd.func24, Tryd.ntmps24
  go_upto_region 1 with fail
  have hPB := HPB.out
  try simp only [hPB]
  clear hPB HPB
  generalize w.alloc (.cells (pcell a b c) TPk) = wA at *
  go_wp2_with fail
  refine (HP1.out).mono ?_
  rintro e w1 ⟨rfl, u1, r1, hM1, hW1⟩
  have HM1 := Lib.hid hM1
  have HW1 := Lib.hid hW1
  have HAFT : Hid (Aft sh s1 r1 (B + 34) (r.P.length + 1)) := Lib.hid ⟨hW1.sim, hW1.fit, by rw [hW1.P]; exact Nat.le_succ _, Nat.le_trans hW1.pot (Nat.le_add_right _ _)⟩
  clear hM1 hW1 HP1
  have d0 := (rd (blkC PB (pcell a b c) TPk :: Q) HM1.out).c0
  by_cases hl : leaf < 0 ∨ (n : Int) ≤ leaf
  · have hR := HRR.out
    rw [if_pos (by rw [HSN.out]; exact hl)] at hR
    subst hR
    rcases Classical.em (leaf < 0) with hl0 | hl0
    · have d1 : decide (leaf < 0) = true := decide_eq_true hl0
      clear HRR hl hl0
      go_wp2_with fail
      go_ret
      exact ⟨rfl, u1, r1, HM1.out.drop, HAFT.out⟩
    · have d1 : decide (leaf < 0) = false := decide_eq_false hl0
      have d2 : decide (leaf ≥ (n : Int)) = true := decide_eq_true (by omega)
      have d3 : decide ((n : Int) ≤ leaf) = true := decide_eq_true (by omega)
      clear HRR hl hl0
      go_wp2_with fail
      go_ret
      exact ⟨rfl, u1, r1, HM1.out.drop, HAFT.out⟩
  · obtain ⟨i, rfl⟩ : ∃ i : Nat, leaf = i := ⟨leaf.toNat, by omega⟩
    have hi : i < n := by omega
    have hi2 : i < sh.n := by rw [HSN.out]; exact hi
    have hR := HRR.out
    rw [if_neg (by rw [HSN.out]; exact hl)] at hR
    rw [Int.toNat_natCast] at hR
    have d1 : decide ((i : Int) < 0) = false := decide_eq_false (by omega)
    have d2 : decide ((i : Int) ≥ (n : Int)) = false := decide_eq_false (by omega)
    have d3 : decide ((n : Int) ≤ (i : Int)) = false := decide_eq_false (by omega)
    have d4 : decide (n ≤ i) = false := decide_eq_false (by omega)
    have HLF1 := Lib.hid (HLF w1 HM1.out.upd i).out
    obtain ⟨lf, hlf⟩ : ∃ lf, sh.leaf i = lf := ⟨_, rfl⟩
    rw [hlf] at hR HLF1
    have HLE := Lib.hid hlf
    clear hl hlf HRR HLF
    go_wp2_with fail
    refine (HLF1.out).mono ?_
    rintro e w' ⟨rfl, rfl⟩
    cases lf with
    | false =>
      rw [if_pos rfl] at hR
      subst hR
      go_wp2_with fail
      go_ret
      exact ⟨rfl, u1, r1, HM1.out.drop, HAFT.out⟩
    | true =>
      rw [if_neg (by simp)] at hR
      obtain ⟨b0, b1, b2⟩ := pk_cells HM1.out
      by_cases hcl : c = 0 ∨ 65535 < c
      · rw [if_pos hcl] at hR
        subst hR
        by_cases hc0 : c = 0
        · have q0 : decide ((c : Int) < 1) = true := decide_eq_true (by omega)
          have q0' : decide (c < 1) = true := decide_eq_true (by omega)
          clear hcl hc0
          go_wp2_with fail
          go_ret
          exact ⟨rfl, u1, r1, HM1.out.drop, HAFT.out⟩
        · have q0 : decide ((c : Int) < 1) = false := decide_eq_false (by omega)
          have q0' : decide (c < 1) = false := decide_eq_false (by omega)
          have q1 : decide ((c : Int) > 65535) = true := decide_eq_true (by omega)
          have q2 : decide (65535 < c) = true := decide_eq_true (by omega)
          clear hcl hc0
          go_wp2_with fail
          go_ret
          exact ⟨rfl, u1, r1, HM1.out.drop, HAFT.out⟩
      · rw [if_neg hcl] at hR
        have q0 : decide ((c : Int) < 1) = false := decide_eq_false (by omega)
        have q0' : decide (c < 1) = false := decide_eq_false (by omega)
        have q1 : decide ((c : Int) > 65535) = false := decide_eq_false (by omega)
        have q2 : decide (65535 < c) = false := decide_eq_false (by omega)
        have hc1 : c ≤ 65535 := by omega
        clear hcl
        obtain ⟨m, hmm⟩ : ∃ m, s1.m = m := ⟨_, rfl⟩
        have hM1 := HM1.out
        obtain ⟨own, hsep, hown⟩ := id hM1
        have hml := HAFT.out.P
        have hpl := HPL.out
        have hmeq := HW1.out.sim.m
        rw [hmm] at hmeq
        have HWT := fun (x : World) (hx : Upd Nowhere w1 x) => Lib.hid (waits_any (blkC PB (pcell a b c) TPk :: Q) (Sep.old hsep hx) (by omega) (by omega) hmeq)
        have c10 := (rd (blkC PB (pcell a b c) TPk :: Q) hM1).c10
        clear hM1 hsep hown hml hmeq hpl
        by_cases hful : room ≤ m
        · rw [if_pos (by rw [hmm]; exact hful)] at hR
          subst hR
          have r1' : decide ((m : Int) ≥ (room : Int)) = true := decide_eq_true (by omega)
          have r2' : decide ((room : Int) ≤ (m : Int)) = true := decide_eq_true (by omega)
          have r3' : decide (room ≤ m) = true := decide_eq_true hful
          clear hmm hful
          go_upto_region 8 with fail
          go_quiet ((go_at_call 26; exact Calls.quiet_of (HWT _ ((Upd.refl _ _).drewN _)).out))
          go_wp2_with fail
          go_ret
          exact ⟨rfl, u1, r1, (HM1.out.old ((Upd.refl _ _).drewN _)).drop, HAFT.out⟩
        · rw [if_neg (by rw [hmm]; exact hful)] at hR
          have r1' : decide ((m : Int) ≥ (room : Int)) = false := decide_eq_false (by omega)
          have r2' : decide ((room : Int) ≤ (m : Int)) = false := decide_eq_false (by omega)
          have r3' : decide (room ≤ m) = false := decide_eq_false hful
          have HMM := Lib.hid hmm
          have HRR := Lib.hid hR
          have hmr : m < room := by omega
          clear hmm hful hR
          go_upto_region 8 with fail
          go_quiet ((go_at_call 26; exact Calls.quiet_of (HWT _ ((Upd.refl _ _).drewN _)).out))
          have HM2 := Lib.hid (HM1.out.old ((Upd.refl Nowhere w1).drewN nq))
          clear d0 c10 b0 b1 b2 HM1 HWT
          generalize w1.drewN nq = w2 at *
          obtain ⟨i0, hi0, hz0, hz1, hz2⟩ := info_parts infoPk
          have hD := rd (blkC PB (pcell a b c) TPk :: Q) HM2.out
          have d5 := hD.c5
          have z5 := hD.fz 5
          obtain ⟨own, hsep, hown⟩ := id HM2.out
          have hps := r_ps (blkC PB (pcell a b c) TPk :: Q) hsep
          have hne := r_ne_ps (blkC PB (pcell a b c) TPk :: Q) hsep
          have hnp := blk_ne (l1 := []) HM2.out (T := TPk) (W := 3) (v := u1.vP) (n := r1.P.length) (xs := r1.P.flatMap pc) (List.mem_append_right _ (by simp [rcomps]))
          obtain ⟨_, hpf, _, _⟩ := Made.foc (blkC PB (pcell a b c) TPk) _ [] HM2.out
          have f0 := hpf.1.free 0
          have f1 := hpf.1.free 1
          have f2 := hpf.1.free 2
          obtain ⟨b0, b1, b2⟩ := pk_cells HM2.out
          have hbp : PB ≠ Y.b := by
            obtain ⟨o, o', h1, h2, h3, _⟩ := hsep
            obtain ⟨o2, k1, k2⟩ := Sep.has (C := blkC Y.b (rtop (.slice (some ⟨ga, oa, none⟩) n cp) Y u1 n (room : Int) r1) TT) h2 (List.mem_append_right _ (by simp [rcomps]))
            intro e9
            exact h3 PB ((h1.2 _).2 rfl) (k2 _ ((k1.2 _).2 e9))
          obtain ⟨ap, cq, hvp⟩ := own_form hps
          rw [hvp] at d5 hps hne hnp
          have HPS2 := Lib.hid hps
          have HVP := Lib.hid hvp
          obtain ⟨pm, hpm⟩ : ∃ y, r1.P.length = y := ⟨_, rfl⟩
          change (Value.slice ap r1.P.length cq).ownBlock ≠ some Y.b at hne
          rw [hpm] at hne hnp
          have HNE := Lib.hid hne
          have HNP := Lib.hid hnp
          have HPM := Lib.hid hpm
          have hpm9 : pm ≤ 999999999 := by have h1 := HAFT.out.P; have h2 := HPL.out; omega
          change w2.cell? ⟨Y.b, 5, none⟩ = some (.slice ap r1.P.length cq) at d5
          rw [hpm] at d5
          obtain ⟨pm1, hpm1⟩ : ∃ y, pm + 1 = y := ⟨_, rfl⟩
          have HPM1 := Lib.hid hpm1
          have hpm2 : (pm1 : Int) - 1 = (pm : Int) := by omega
          clear hD hsep hown hps hvp hne hpm hpm1 hnp hpf
          go_upto_region 10 with fail
          go_cut [] from 45 to 54 (fun wc => ∃ v6, Made w0 wc ((blkC PB (pcell a b c) TPk :: Q) ++ rcomps (.slice (some ⟨ga, oa, none⟩) n cp) Y { u1 with vP := v6 } n (room : Int) { r1 with P := r1.P ++ [(a, b, c)] }))
          case first =>
            refine wp_region_held_drew (S := fun w' => w'.cell? ⟨PB, 0, none⟩ = some (.int .u32 a) ∧ w'.cell? ⟨PB, 1, none⟩ = some (.int .u32 b) ∧ w'.cell? ⟨PB, 2, none⟩ = some (.int .u64 c)) (by kernel_rfl) ⟨b0, b1, b2⟩ (fun hHeld => ?_)
            have hx : Upd Nowhere w2 (w2.alloc (.cells #[.int .u32 a, .int .u32 b, .int .u64 c] TPk)).drew := ((Upd.refl Nowhere w2).alloc _).drew
            have ny0 : ∀ j v, [Value.int .u32 a, .int .u32 b, .int .u64 c][j]? = some v → (w2.alloc (.cells (pcell a b c) TPk)).cell? ⟨w2.heap.size, j, none⟩ = some v := new_cells w2 (pcell a b c) TPk
            have ny1 : ∀ j v, [Value.int .u32 a, .int .u32 b, .int .u64 c][j]? = some v → (w2.alloc (.cells (pcell a b c) TPk)).drew.cell? ⟨w2.heap.size, j, none⟩ = some v := ny0
            have ny2 : ∀ j v, [Value.int .u32 a, .int .u32 b, .int .u64 c][j]? = some v → (w2.drew.alloc (.cells (pcell a b c) TPk)).cell? ⟨w2.heap.size, j, none⟩ = some v := ny0
            have d5a : (w2.alloc (.cells #[.int .u32 a, .int .u32 b, .int .u64 c] TPk)).cell? ⟨Y.b, 5, none⟩ = some (.slice ap pm cq) := cell_old ((Upd.refl Nowhere w2).alloc _) d5
            refine wpAnyH_take (i := 0) (v := ?_) (by simp only [List.getElem?_toArray, List.getElem?_cons_zero, List.getElem?_cons_succ]; rfl) (by kernel_rfl) (by kernel_rfl) (by kernel_rfl) (by intro _ _ _ h; exact h) (Or.inl ⟨by rfl, ?_⟩) (by assumption) ?_
            rotate_left 1
            · intro w hSw; (try dsimp only at hSw); go_simp; try with_reducible rfl
            try simp only [Act.put, List.setIfInBounds_toArray, List.set_cons_zero, List.set_cons_succ]
            refine wpAnyH_take (i := 1) (v := ?_) (by simp only [List.getElem?_toArray, List.getElem?_cons_zero, List.getElem?_cons_succ]; rfl) (by kernel_rfl) (by kernel_rfl) (by kernel_rfl) (by intro _ _ _ h; exact h) (Or.inl ⟨by rfl, ?_⟩) (by assumption) ?_
            rotate_left 1
            · intro w hSw; (try dsimp only at hSw); go_simp; try with_reducible rfl
            try simp only [Act.put, List.setIfInBounds_toArray, List.set_cons_zero, List.set_cons_succ]
            refine wpAnyH_take (i := 2) (v := ?_) (by simp only [List.getElem?_toArray, List.getElem?_cons_zero, List.getElem?_cons_succ]; rfl) (by kernel_rfl) (by kernel_rfl) (by kernel_rfl) (by intro _ _ _ h; exact h) (Or.inl ⟨by rfl, ?_⟩) (by assumption) ?_
            rotate_left 1
            · intro w hSw; (try dsimp only at hSw); go_simp; try with_reducible rfl
            try simp only [Act.put, List.setIfInBounds_toArray, List.set_cons_zero, List.set_cons_succ]
            refine wpAnyH_take (i := 3) (v := ?_) (by simp only [List.getElem?_toArray, List.getElem?_cons_zero, List.getElem?_cons_succ]; rfl) (by kernel_rfl) (by kernel_rfl) (by kernel_rfl) (by intro _ _ _ h; exact h) (Or.inl ⟨by rfl, ?_⟩) (by assumption) ?_
            rotate_left 1
            · intro w hSw; (try dsimp only at hSw); go_simp; try with_reducible rfl
            try simp only [Act.put, List.setIfInBounds_toArray, List.set_cons_zero, List.set_cons_succ]
            refine wpAnyH_take (i := 5) (v := ?_) (by simp only [List.getElem?_toArray, List.getElem?_cons_zero, List.getElem?_cons_succ]; rfl) (by kernel_rfl) (by kernel_rfl) (by kernel_rfl) (by intro _ _ _ h; exact h) (Or.inl ⟨by rfl, ?_⟩) (by assumption) ?_
            rotate_left 1
            · intro w hSw; (try dsimp only at hSw); go_simp; try with_reducible rfl
            try simp only [Act.put, List.setIfInBounds_toArray, List.set_cons_zero, List.set_cons_succ]
            refine wpAnyH_ready (rs := [4, 6]) (by kernel_rfl) (by simp) ?_
            refine AllReadyH.cons (by simp only [List.getElem?_toArray, List.getElem?_cons_zero, List.getElem?_cons_succ]; rfl) (fun K hK => ?_) (AllReadyH.cons (by simp only [List.getElem?_toArray, List.getElem?_cons_zero, List.getElem?_cons_succ]; rfl) (fun K hK => ?_) AllReadyH.nil)
            focus
              go_simp
              refine hK.out _ _ (by (try dsimp only); assumption) (fun hHeld => ?_)
              clear hK K
              refine wpAnyH_ready (rs := [6]) (by kernel_rfl) (by simp) ?_
              refine AllReadyH.cons (by simp only [List.getElem?_toArray, List.getElem?_cons_zero, List.getElem?_cons_succ]; rfl) (fun K hK => ?_) AllReadyH.nil
              go_simp
              refine hK.out _ _ (by (try dsimp only); exact keepA3 (by assumption)) (fun hHeld => ?_)
              clear hK K
            rotate_left 1
            focus
              go_simp
              refine hK.out _ _ (by (try dsimp only); exact keepA3 (by assumption)) (fun hHeld => ?_)
              clear hK K
              refine wpAnyH_ready (rs := [4]) (by kernel_rfl) (by simp) ?_
              refine AllReadyH.cons (by simp only [List.getElem?_toArray, List.getElem?_cons_zero, List.getElem?_cons_succ]; rfl) (fun K hK => ?_) AllReadyH.nil
              go_simp
              refine hK.out _ _ (by (try dsimp only); assumption) (fun hHeld => ?_)
              clear hK K
            all_goals
              refine wpAnyH_ready (rs := [7]) (by kernel_rfl) (by simp) ?_
              refine AllReadyH.cons (by simp only [List.getElem?_toArray, List.getElem?_cons_zero, List.getElem?_cons_succ]; rfl) (fun K hK => ?_) AllReadyH.nil
              (refine step_push rfl _ _ 63 rfl 0 TPk i0 (.agg #[.int .u32 0, .int .u32 0, .int .u64 0]) 3 16 Tryd.underlying63 hi0 hz0 hz1 hz2 rfl (by decide) (by decide) (.slice ap pm cq) pm (r1.P.flatMap pc) rfl (by have h9 := HPS2.out; change w2.ownsRow 0 TPk 3 (.slice ap r1.P.length cq) r1.P.length (r1.P.flatMap pc) at h9; rw [HPM.out] at h9; exact ownsRow_upd h9 (S := Nowhere) (by repeat (first | with_reducible exact Upd.refl _ _ | with_reducible refine Upd.drew ?_ | with_reducible refine Upd.alloc ?_ _)) (fun _ _ h => h)) w2.heap.size 1 [.int .u32 a, .int .u32 b, .int .u64 c] rfl rfl (by with_reducible first | exact ny0 | exact ny1 | exact ny2) (by simp [Value.oneCell']) hpm9 (Nat.zero_le _) ?_; intro v6 w6 ho6 hu6 hn6; obtain ⟨a6, c6, rfl⟩ := own_form ho6; have HF6 := Lib.hid (mlift HM2.out (fun own hs => r_push_pk (blkC PB (pcell a b c) TPk :: Q) hs (p := (a, b, c)) (v := .slice a6 (pm + 1) c6) hx (by change w6.ownsRow 0 TPk 3 (.slice a6 (pm + 1) c6) (r1.P.length + 1) _; rw [HPM.out]; exact ho6) (by rw [HVP.out]; change Upd (fun k => (Value.slice ap r1.P.length cq).ownBlock = some k) _ _; rw [HPM.out]; exact hu6) (by rw [HVP.out]; change OwnOrNew _ (.slice ap r1.P.length cq) _; rw [HPM.out]; exact hn6))); obtain ⟨y6, f6⟩ : w6.cell? ⟨Y.b, 5, none⟩ = some (.slice ap pm cq) ∧ w6.frozen? ⟨Y.b, 5, none⟩ = false := cell_off hx hu6 HNE.out d5 z5; have hS6 : w6.cell? ⟨PB, 0, none⟩ = some (.int .u32 a) ∧ w6.cell? ⟨PB, 1, none⟩ = some (.int .u32 b) ∧ w6.cell? ⟨PB, 2, none⟩ = some (.int .u64 c) := ⟨(cell_off hx hu6 HNP.out b0 f0).1, (cell_off hx hu6 HNP.out b1 f1).1, (cell_off hx hu6 HNP.out b2 f2).1⟩; clear ho6 hu6 hn6)
              refine hK.out _ _ (by (try dsimp only); assumption) (fun hHeld => ?_)
              clear hK K
              refine wpAnyH_take (i := 8) (v := ?_) (by simp only [List.getElem?_toArray, List.getElem?_cons_zero, List.getElem?_cons_succ]; rfl) (by kernel_rfl) (by kernel_rfl) (by kernel_rfl) (by intro _ _ _ h; exact h) (Or.inl ⟨by rfl, ?_⟩) (by assumption) ?_
              rotate_left 1
              · intro w hSw; (try dsimp only at hSw); go_simp; try with_reducible rfl
              try simp only [Act.put, List.setIfInBounds_toArray, List.set_cons_zero, List.set_cons_succ]
              refine wpAnyH_take (i := 9) (v := ?_) (by simp only [List.getElem?_toArray, List.getElem?_cons_zero, List.getElem?_cons_succ]; rfl) (by kernel_rfl) (by kernel_rfl) (by kernel_rfl) (by intro _ _ _ h; exact h) (Or.inl ⟨by rfl, ?_⟩) (by assumption) ?_
              rotate_left 1
              · intro w hSw; (try dsimp only at hSw); go_simp; try with_reducible rfl
              try simp only [Act.put, List.setIfInBounds_toArray, List.set_cons_zero, List.set_cons_succ]
              refine wpAnyH_ready (rs := [10]) (by kernel_rfl) (by simp) ?_
              refine AllReadyH.cons (by simp only [List.getElem?_toArray, List.getElem?_cons_zero, List.getElem?_cons_succ]; rfl) (fun K hK => ?_) AllReadyH.nil
              go_simp
              refine hK.out _ _ (by (try dsimp only); exact keepS3 (by assumption) hbp hbp hbp) (fun hHeld => ?_)
              clear hK K
              refine wpAnyH_done (by kernel_rfl) ?_ _
            all_goals
              go_wp2_with fail
              go_meet
              first
                | exact ⟨_, by with_reducible exact HF6.out⟩
                | exact ⟨_, by with_reducible exact HF6.out.old (Upd.refl _ _).drew⟩
          case rest =>
            obtain ⟨v6, hM6⟩ := hcut
            obtain ⟨w3, rfl⟩ : ∃ y, y = wc := ⟨_, rfl⟩
            have HM3 := Lib.hid hM6
            obtain ⟨x1, x2, x3, x4⟩ := Sim.pushed HS.out HW1.out.sim hi2 HLE.out (a, b, c) s1.now c
            rw [show r1.P.length = pm from HPM.out] at x1 x2 x3 x4
            obtain ⟨g1, g2, g3, g4⟩ := Tree.came_good HS.out HG.out hi2 HLE.out (e := ((0 : Int), a, b, c)) ⟨rfl, ha, hb, hc1⟩ (by rw [HMM.out]; exact hmr)
            have hnw := HG.out.bal.now.2
            have hrn : r1.now = s1.now := HW1.out.sim.now
            have hlens := HG.out.lens HS.out (by rw [HMM.out]; exact hmr)
            have hfit6 : RFit { r1 with P := r1.P ++ [(a, b, c)] } := ⟨HW1.out.fit.vi, HW1.out.fit.tg, HW1.out.fit.fr, fun p hp => by
              rcases List.mem_append.1 hp with hp | hp
              · exact HW1.out.fit.pk p hp
              · obtain rfl := List.mem_singleton.1 hp
                exact ⟨ha, hb, hc⟩⟩
            have hle2 := HS.out.le
            have hpot := HW1.out.pot
            have hCO := fun (x : World) (hx : Upd Nowhere w3 x) => Lib.hid (HCM.out x (blkC PB (pcell a b c) TPk :: Q) { u1 with vP := v6 } { r1 with P := r1.P ++ [(a, b, c)] } s1.now i (pm : Int) c (by omega) hi (hM6.old hx) hfit6
              (by
                unfold Rx
                rw [if_pos HLE.out]
                exact ⟨pm, (a, b, c), rfl, by show (r1.P ++ [(a, b, c)])[pm]? = _; rw [← HPM.out, List.getElem?_append_right (Nat.le_refl _), Nat.sub_self]; rfl⟩)
              (fun j hj => by
                show (r1.L j).length ≤ 4095
                rw [← (HW1.out.sim.L j (by omega)).len]
                have := hlens.1 j (by omega)
                omega)
              (by
                show r1.H.length ≤ 4095
                rw [← HW1.out.sim.H.len]
                have := hlens.2
                omega)
              (by show r1.R.length ≤ 900000000; omega)
              (by
                show (r1.P ++ [(a, b, c)]).length ≤ 1000000
                have h1 := HAFT.out.P
                have h2 := HPL.out
                rw [List.length_append]
                simp only [List.length_cons, List.length_nil]
                omega) hnw hc)
            obtain ⟨s3, hs3⟩ : ∃ s3, come sh 32 { s1 with m := s1.m + 1 } s1.now i ((0 : Int), a, b, c) c = s3 := ⟨_, rfl⟩
            obtain ⟨r3, hr3⟩ : ∃ r3, rcome sh 32 { r1 with P := r1.P ++ [(a, b, c)] } s1.now i (pm : Int) c = r3 := ⟨_, rfl⟩
            have hR3 := HRR.out
            change (0, pass sh (come sh 32 { s1 with m := s1.m + 1 } s1.now i ((0 : Int), a, b, c) c) s1.now) = R at hR3
            change Tree.Good sh room (come sh 32 { s1 with m := s1.m + 1 } s1.now i ((0 : Int), a, b, c) c) at g3
            change Tree.Came _ (come sh 32 { s1 with m := s1.m + 1 } s1.now i ((0 : Int), a, b, c) c) i at g4
            have hfit3 := rcome_fit (sh := sh) 32 hfit6 s1.now i (pm : Int) c
            rw [hs3] at x1 x4 g3 g4 hR3
            rw [hr3] at x1 x2 x3 x4 hCO hfit3
            have hn3 : s3.now = s1.now := g4.now
            have hps3 : pass sh s3 s1.now = pass sh s3 now := pass_same (by rw [hn3]; have := HNW.out; omega)
            rw [hps3] at hR3
            have hD := rd (blkC PB (pcell a b c) TPk :: Q) hM6
            have d5 : w3.cell? ⟨Y.b, 5, none⟩ = some v6 := hD.c5
            have d8 : w3.cell? ⟨Y.b, 8, none⟩ = some (.int .u64 (r1.now : Nat)) := hD.c8
            rw [hrn] at d8
            obtain ⟨own, hsep, hown⟩ := id hM6
            obtain ⟨av, cv, hv6⟩ := own_form (r_ps (blkC PB (pcell a b c) TPk :: Q) hsep)
            have hv6' : v6 = .slice av (r1.P ++ [(a, b, c)]).length cv := hv6
            rw [List.length_append, HPM.out] at hv6'
            change v6 = .slice av (pm + 1) cv at hv6'
            rw [HPM1.out] at hv6'
            subst hv6'
            obtain ⟨b0, b1, b2⟩ := pk_cells hM6
            have HX1 := Lib.hid x1
            have HX2 := Lib.hid x2
            have HX4 := Lib.hid x4
            have HG3 := Lib.hid g3
            have HR3 := Lib.hid hR3
            have HF3 := Lib.hid hfit3
            clear x1 x2 x3 x4 g1 g2 g3 g4 hlens hfit6 hs3 hr3 hR3 hn3 hps3 hD hsep hown hv6 hM6 hfit3 hnw hrn HM2 HPS2 HVP HNE HNP hbp z5 hi0 hz0 hz1 hz2 f0 f1 f2
            go_upto_region 11 with fail
            refine wp_region_tail 14 (by kernel_rfl) (by kernel_rfl) ?_
            simp only [List.take_succ_cons, List.take_zero, List.drop_succ_cons, List.drop_zero]
            repeat (go_big_quiet_step (fail))
            refine wpQuiet_nil ?_
            rintro _ ⟨nq2, rfl⟩
            have HC9 := Lib.hid (hCO _ ((Upd.refl Nowhere w3).drewN nq2)).out
            generalize w3.drewN nq2 = w4 at *
            clear hCO d5 d8 b0 b1 b2 HM3
            go_wp2_with fail
            refine HC9.out.mono ?_
            rintro e w5 ⟨rfl, u5, hM5⟩
            have HP5 := Lib.hid (HPS w5 (blkC PB (pcell a b c) TPk :: Q) u5 r3 s3 (B + 34) hM5 HX1.out HG3.out HF3.out (by
              rw [HX2.out, List.length_append]
              have h1 := HAFT.out.P
              have h2 := HPL.out
              simp only [List.length_cons, List.length_nil]
              omega) (by have h1 := HX4.out; have h2 := HW1.out.pot; omega) (by omega)).out
            have HM5 := Lib.hid hM5
            clear hM5 HC9 HPS HCM
            go_wp2_with fail
            refine Stage.out ?_
            go_wp2_with fail
            refine (HP5.out).mono ?_
            rintro e w6 ⟨rfl, u6, r6, hM6, hW6⟩
            have HM6 := Lib.hid hM6.drop
            have HA6 : Hid (Aft sh (pass sh s3 now) r6 (B + 34) (r.P.length + 1)) := Lib.hid ⟨hW6.sim, hW6.fit, by rw [hW6.P, HX2.out, List.length_append, HW1.out.P]; simp only [List.length_cons, List.length_nil]; omega, hW6.pot⟩
            clear hM6 hW6
            go_wp2_with fail
            go_ret
            have hR := HR3.out
            subst hR
            exact ⟨rfl, u6, r6, HM6.out, HA6.out⟩
end Go.Proofs.YtllfloapiliheaaDoor.R30
namespace Go.Proofs.YtllfloapiliheaaDoor.R30
open Go.RowKit Go.Proofs BigFrame
open Tree (Sh TS up up_at up_off mad chi rk Nd NodesAt shOf Bal Still rises rise1 meas pcell pop pass down VP stepped)
open HeapE (El)
open Cal (ins)
set_option maxHeartbeats 8000000
set_option maxRecDepth 1000000
set_option linter.unusedSimpArgs false
abbrev zpk : Array Value := #[.int .u32 0, .int .u32 0, .int .u64 0]
theorem cell_ne {w : World} {a : Addr} {g i : Nat} {u v : Value} (hx : a.block ≠ g) (h : w.cell? a = some v) : (w.setCell ⟨g, i, none⟩ u).cell? a = some v := by
  rw [World.cell?_of_block (w := w) (Below.heap_setCell _ _ _ _ hx)]; exact h
/-- A packet's block is written. -/
theorem pk_put {w0 w : World} {l l1 : List Comp} {PB : Nat} {v0 v1 v2 : Value} {cs : Array Value} (hc : cs.size = 3) (h : Made w0 w (l1 ++ blkC PB cs TPk :: l)) :
    Made w0 (((w.setCell ⟨PB, 0, none⟩ v0).setCell ⟨PB, 1, none⟩ v1).setCell ⟨PB, 2, none⟩ v2) (l1 ++ blkC PB #[v0, v1, v2] TPk :: l) := by
  obtain ⟨o, h1, _, h3⟩ := Made.foc (blkC PB cs TPk) l l1 h
  have ho : o PB := (h1.2 _).2 rfl
  have e : ((cs.setIfInBounds 0 v0).setIfInBounds 1 v1).setIfInBounds 2 v2 = #[v0, v1, v2] := by
    obtain ⟨l, rfl⟩ : ∃ l, cs = List.toArray l := ⟨cs.toList, by simp⟩
    match l, hc with
    | [a, b, c], _ => rfl
  exact h3 _ o (blkC PB #[v0, v1, v2] TPk) ⟨by rw [← e]; exact ((h1.1.set 0 v0).set 1 v1).set 2 v2, h1.2⟩ ⟨fun k hk => .inl hk, ((Upd.setCell (Upd.refl _ _) (fun _ => ho) v0).setCell (fun _ => ho) v1).setCell (fun _ => ho) v2⟩
theorem keepT5 {w : World} {g : Nat} {u0 u1 u2 v0 v1 v2 v3 v4 : Value} {a0 a1 a2 a3 a4 : Addr} (h : w.cell? a0 = some v0 ∧ w.cell? a1 = some v1 ∧ w.cell? a2 = some v2 ∧ w.cell? a3 = some v3 ∧ w.cell? a4 = some v4) (n0 : a0.block ≠ g) (n1 : a1.block ≠ g) (n2 : a2.block ≠ g) (n3 : a3.block ≠ g) (n4 : a4.block ≠ g) :
    (((w.setCell ⟨g, 0, none⟩ u0).setCell ⟨g, 1, none⟩ u1).setCell ⟨g, 2, none⟩ u2).cell? a0 = some v0 ∧ (((w.setCell ⟨g, 0, none⟩ u0).setCell ⟨g, 1, none⟩ u1).setCell ⟨g, 2, none⟩ u2).cell? a1 = some v1 ∧ (((w.setCell ⟨g, 0, none⟩ u0).setCell ⟨g, 1, none⟩ u1).setCell ⟨g, 2, none⟩ u2).cell? a2 = some v2 ∧ (((w.setCell ⟨g, 0, none⟩ u0).setCell ⟨g, 1, none⟩ u1).setCell ⟨g, 2, none⟩ u2).cell? a3 = some v3 ∧ (((w.setCell ⟨g, 0, none⟩ u0).setCell ⟨g, 1, none⟩ u1).setCell ⟨g, 2, none⟩ u2).cell? a4 = some v4 :=
  have k : ∀ {x : Addr} {y : Value}, x.block ≠ g → w.cell? x = some y → (((w.setCell ⟨g, 0, none⟩ u0).setCell ⟨g, 1, none⟩ u1).setCell ⟨g, 2, none⟩ u2).cell? x = some y := fun hx hc => cell_ne hx (cell_ne hx (cell_ne hx hc))
  ⟨k n0 h.1, k n1 h.2.1, k n2 h.2.2.1, k n3 h.2.2.2.1, k n4 h.2.2.2.2⟩
theorem good_lens {sh : Sh} {s : TS} {room : Nat} (h : Tree.Good sh room s) (hs : sh.Ok) (hr : room ≤ 4096) : ∀ i, i < sh.n → (s.q i).length ≤ 4096 := fun i hi => by
  have h1 := h.bal.le hs i hi
  have h2 := Tree.cntL_le i s.H
  have h3 := h.tot
  have h4 := h.le
  unfold Tree.Tot at h3
  rw [if_neg (by omega)] at h1
  omega
theorem x_get {w0 w : World} {l : List Comp} {XB : Nat} {v0 v1 : Value} {t : TypeId} (h : Made w0 w (blkC XB #[v0, v1] t :: l)) : w.cell? ⟨XB, 0, none⟩ = some v0 ∧ w.cell? ⟨XB, 1, none⟩ = some v1 := by
  obtain ⟨o, h1, _, _⟩ := Made.foc (blkC XB #[v0, v1] t) l [] h
  exact ⟨h1.1.cellAt rfl, h1.1.cellAt rfl⟩
theorem p_get {w0 w : World} {l l1 : List Comp} {PB : Nat} {v0 v1 v2 : Value} (h : Made w0 w (l1 ++ blkC PB #[v0, v1, v2] TPk :: l)) : w.cell? ⟨PB, 0, none⟩ = some v0 ∧ w.cell? ⟨PB, 1, none⟩ = some v1 ∧ w.cell? ⟨PB, 2, none⟩ = some v2 ∧ w.frozen? ⟨PB, 0, none⟩ = false ∧ w.frozen? ⟨PB, 1, none⟩ = false ∧ w.frozen? ⟨PB, 2, none⟩ = false := by
  obtain ⟨o, h1, _, _⟩ := Made.foc (blkC PB #[v0, v1, v2] TPk) l l1 h
  exact ⟨h1.1.cellAt rfl, h1.1.cellAt rfl, h1.1.cellAt rfl, h1.1.free 0, h1.1.free 1, h1.1.free 2⟩
theorem Two.nil_iff {α β : Type} {R : α → β → Prop} {l : List (Nat × α)} {m : List (Nat × β)} (h : Two R l m) : l = [] ↔ m = [] := by
  cases l <;> cases m <;> simp [Two] at h ⊢
theorem pop_any {w0 : World} {ga oa : Nat} {nl : List Nd} (cp : Nat) (hn : NodesAt w0 (some ⟨ga, oa, none⟩) nl) (hok : Tree.okL 0 nl = true) (h0 : 0 < nl.length) (h32 : nl.length ≤ 32) (hs : (shOf nl).Ok) (Y : RLay) {w : World} (Q : List Comp) {u : RV} {r : RS} {s : TS} {room : Nat}
    (hm : Made w0 w (Q ++ rcomps (.slice (some ⟨ga, oa, none⟩) nl.length cp) Y u nl.length (room : Int) r)) (hS : Sim (shOf nl) s r) (hg : Tree.Good (shOf nl) room s) (hrm : room ≤ 4096) (hfit : RFit r) (hP : r.P.length ≤ 900000) (hB : r.R.length + meas s.H ≤ 800000000) (now : Nat) (ht : now ≤ 18446744073709551615) :
    Calls Tryd.prog 23 #[.pointer (some ⟨Y.b, 0, none⟩), .int .u64 (now : Nat)] w fun e w' => e = .returned (.tuple #[VP (pop (shOf nl) s now).1, .int .i64 ((pop (shOf nl) s now).2.1 : Nat)]) ∧
      ∃ u' r', Made w0 w' (Q ++ rcomps (.slice (some ⟨ga, oa, none⟩) nl.length cp) Y u' nl.length (room : Int) r') ∧ Aft (shOf nl) (pop (shOf nl) s now).2.2 r' (r.R.length + meas s.H + 34) (r.P.length + 1) := by
  have HPS := fun (w1 : World) (Q : List Comp) (u : RV) (r : RS) (s : TS) (B : Nat) (hm : Made w0 w1 (Q ++ rcomps (.slice (some ⟨ga, oa, none⟩) nl.length cp) Y u nl.length (room : Int) r)) (hS : Sim (shOf nl) s r) (hg : Tree.Good (shOf nl) room s) (hfit : RFit r) (hP : r.P.length ≤ 1000000) (hB : r.R.length + meas s.H ≤ B) (hB2 : B ≤ 900000000) => Lib.hid (pass_any cp hn hok h0 h32 hs Y (room : Int) Q hm hS hg hrm hfit hP hB hB2 now ht)
  have HLF := fun (u : World) (hu : Upd Nowhere w0 u) (v : Nat) => Lib.hid (leaf_any cp hn hu hok h0 h32 v)
  have HND := fun (u : World) (hu : Upd Nowhere w0 u) (i : Nat) (hi : i < nl.length) => Lib.hid (nodes_at hn hu hok hi)
  have hshn : (shOf nl).n = nl.length := rfl
  have hgp := Tree.pass_good hs hg ht
  obtain ⟨R, hR⟩ : ∃ R, pop (shOf nl) s now = R := ⟨_, rfl⟩
  rw [hR]
  unfold pop at hR
  simp only at hR
  obtain ⟨sh, hsh⟩ : ∃ sh, shOf nl = sh := ⟨_, rfl⟩
  rw [hsh] at hS hg hs hshn HPS HLF HND hgp hR ⊢
  obtain ⟨n, hnl⟩ : ∃ n, nl.length = n := ⟨_, rfl⟩
  rw [hnl] at hm HPS HLF HND hshn h0 h32 ⊢
  obtain ⟨s1, hs1⟩ : ∃ s1, pass sh s now = s1 := ⟨_, rfl⟩
  obtain ⟨B, hBB⟩ : ∃ B, r.R.length + meas s.H = B := ⟨_, rfl⟩
  have hm1 := m_blk' hm zpk TPk
  obtain ⟨PB, hPB⟩ : ∃ x, w.heap.size = x := ⟨_, rfl⟩
  rw [hPB] at hm1
  have hps := (HPS _ (blkC PB zpk TPk :: Q) u r s B hm1 hS hg hfit (by omega) (Nat.le_of_eq hBB) (by omega)).out
  rw [hs1] at hps hR hgp
  rw [hBB] at hB ⊢
  have HS := Lib.hid hs
  have HSN := Lib.hid hshn
  have HG := Lib.hid hgp
  have HRR := Lib.hid hR
  have HP1 := Lib.hid hps
  have HPB := Lib.hid hPB
  have HPL := Lib.hid hP
  clear hm hS hg hfit hs hshn hgp hR hs1 hBB hm1 hps hPB hP hn hok hsh hnl HPS
  go_enter Tryd.func23, Tryd.ntmps23
  go_upto_region 1 with fail
  have hPB := HPB.out
  try simp only [hPB]
  clear hPB HPB
  generalize w.alloc (.cells zpk TPk) = wA at *
  go_wp2_with fail
  refine (HP1.out).mono ?_
  rintro e w1 ⟨rfl, u1, r1, hM1, hW1⟩
  have HW1 := Lib.hid hW1
  have HAFT : Hid (Aft sh s1 r1 (B + 34) (r.P.length + 1)) := Lib.hid ⟨hW1.sim, hW1.fit, by rw [hW1.P]; exact Nat.le_succ _, Nat.le_trans hW1.pot (Nat.le_add_right _ _)⟩
  obtain ⟨m, hmm⟩ : ∃ m, s1.m = m := ⟨_, rfl⟩
  obtain ⟨own, hsep, hown⟩ := id hM1
  have hmeq := hW1.sim.m
  rw [hmm] at hmeq
  have hrl : r1.P.length ≤ 1000000 := by rw [hW1.P]; have := HPL.out; omega
  have HWT := Lib.hid (waits_any (blkC PB zpk TPk :: Q) hsep (by omega) (by omega) hmeq)
  have HME := Lib.hid hmeq
  have HM1 := Lib.hid hM1
  clear hM1 hW1 HP1 hsep hown hmeq
  go_wp2_with fail
  refine (HWT.out).mono ?_
  rintro e w2 ⟨rfl, k2, rfl⟩
  have HM2 := Lib.hid (HM1.out.old ((Upd.refl Nowhere w1).drewN k2))
  clear HM1 HWT
  generalize w1.drewN k2 = w2 at *
  obtain ⟨p0, p1, p2, y0, y1, y2⟩ := p_get (l1 := []) HM2.out
  by_cases hm0 : m = 0
  · have hR := HRR.out
    rw [if_pos (by rw [hmm]; exact hm0)] at hR
    subst hR
    have q0 : ((m : Int) == 0) = true := by simp; omega
    have HF2 := Lib.hid (pk_put (l1 := []) (v0 := .int .u32 0) (v1 := .int .u32 0) (v2 := .int .u64 0) rfl HM2.out)
    clear hmm hm0 HRR
    go_wp2_with fail
    exact bodyPost_ret (v := .tuple #[.agg zpk, .int .i64 18]) (by simp [results, Tryd.results23, go_sem, p0, p1, p2]) rfl ⟨rfl, u1, r1, HF2.out.drop, HAFT.out⟩
  · have hR := HRR.out
    rw [if_neg (by rw [hmm]; exact hm0)] at hR
    have q0 : ((m : Int) == 0) = false := by simp; omega
    have hD := rd (blkC PB zpk TPk :: Q) HM2.out
    have c1 := hD.c1
    have c9 := hD.c9
    have z9 := hD.fz 9
    obtain ⟨own, hsep, hown⟩ := id HM2.out
    obtain ⟨l0, l1⟩ := r_vl (blkC PB zpk TPk :: Q) hsep h0
    have hrow := r_row (blkC PB zpk TPk :: Q) hsep h0
    obtain ⟨a0, c0, hv0⟩ := hrow.form
    rw [hv0] at l0
    have hti := Two.nil_iff (HW1.out.sim.L 0 (by rw [HSN.out]; exact h0))
    have h0I : (0 : Int) < (n : Int) := by omega
    obtain ⟨L0, hL0⟩ : ∃ x, (r1.L 0).length = x := ⟨_, rfl⟩
    rw [hL0] at l0
    by_cases hq : s1.q 0 = []
    · rw [if_pos hq] at hR
      subst hR
      have e0 : L0 = 0 := by rw [← hL0, hti.1 hq]; rfl
      subst e0
      have HF2 := Lib.hid (pk_put (l1 := []) (v0 := .int .u32 0) (v1 := .int .u32 0) (v2 := .int .u64 0) rfl HM2.out)
      clear hmm hm0 HRR hD hsep hown hrow hv0 hti hL0 hq c9 z9
      go_wp2_with fail
      exact bodyPost_ret (v := .tuple #[.agg zpk, .int .i64 19]) (by simp [results, Tryd.results23, go_sem, p0, p1, p2]) rfl ⟨rfl, u1, r1, HF2.out.drop, HAFT.out⟩
    · rw [if_neg hq] at hR
      have hq2 : L0 ≠ 0 := fun e => hq (hti.2 (List.eq_nil_of_length_eq_zero (by rw [hL0]; exact e)))
      have q1 : ((L0 : Int) == 0) = false := by simp; omega
      obtain ⟨lf, hlf⟩ : ∃ x, r1.left = x := ⟨_, rfl⟩
      rw [hlf] at c9
      obtain ⟨lf1, hlf1⟩ : ∃ x, lf + 1 = x := ⟨_, rfl⟩
      have hlf2 : (lf : Int) + 1 = (lf1 : Int) := by omega
      have hlf3 : lf ≤ 1000000 := by have := HME.out; omega
      have HF3 := Lib.hid (mlift HM2.out (fun own hs => r_set_b (blkC PB zpk TPk :: Q) hs 9 (.int .i64 (lf1 : Nat)) (u' := u1) (r' := { r1 with left := lf1 }) rfl rfl rfl))
      have HLF1 := Lib.hid hlf1
      have HLFE := Lib.hid hlf
      have HMM := Lib.hid hmm
      have HQ := Lib.hid hq
      have HM0 := Lib.hid hm0
      have HRR2 := Lib.hid hR
      clear hmm hm0 HRR hD hsep hown hrow hv0 hti hL0 hq hlf hlf1 hR
      have hdn : Down sh (down sh 32 { s1 with m := s1.m - 1 } 0) { s1 with m := s1.m - 1 } { s1 with m := s1.m - 1 } { r1 with left := lf1 } { r1 with left := lf1 } 0 32 :=
        ⟨HS.out.pos, HS.out.le, Tree.m_bal HG.out.bal _, HQ.out, ⟨HW1.out.sim.L, HW1.out.sim.vi, HW1.out.sim.tg, HW1.out.sim.fr, HW1.out.sim.H, HW1.out.sim.now, by
          show r1.P.length = s1.m - 1 + lf1
          have h1 := HME.out
          rw [HLFE.out] at h1
          rw [HMM.out, h1, ← HLF1.out]
          have h2 := HMM.out
          have h3 := HM0.out
          omega⟩, rfl, rfl, rfl, rfl, rfl, HW1.out.fit.vi, HW1.out.fit.tg, HW1.out.fit.fr, (show ∀ i, i < sh.n → (s1.q i).length ≤ 4096 from good_lens HG.out HS.out hrm)⟩
      obtain ⟨T, hT⟩ : ∃ T, down sh 32 { s1 with m := s1.m - 1 } 0 = T := ⟨_, rfl⟩
      have hR2 := HRR2.out
      rw [hT] at hdn hR2
      have HDN := Lib.hid hdn
      have HR2 := Lib.hid hR2
      clear hdn hT hR2 HRR2
      go_upto_region 7 with fail
      generalize w2.setCell ⟨Y.b, 9, none⟩ (.int .i64 (lf1 : Nat)) = w3 at *
      clear p0 p1 p2 y0 y1 y2 c9 z9 HM2 l0 l1 c1
      go_wp2_with fail
      go_loopw [6] (fun vv wr => ∃ (v f : Nat) (s' : TS) (r' : RS) (u' : RV), vv = .int .i64 v ∧ Made w0 wr ((blkC PB zpk TPk :: Q) ++ rcomps (.slice (some ⟨ga, oa, none⟩) n cp) Y u' n (room : Int) r') ∧ Down sh T { s1 with m := s1.m - 1 } s' { r1 with left := lf1 } r' v f) (fun vv _ => n - (intOf vv).toNat)
      case atStart => exact ⟨0, 32, _, _, u1, rfl, HF3.out, HDN.out⟩
      case round =>
        obtain ⟨v, f, s', r', u', rfl, hM, hDn⟩ := hrel
        obtain ⟨w4, rfl⟩ : ∃ x, x = wr := ⟨_, rfl⟩
        obtain ⟨f', k, e, l, x, rl, rfl, hq, hrL, hk, henc, hleaf, hinner⟩ := hDn.go HS.out
        have hvn : v < n := by rw [← HSN.out]; exact hDn.lt
        have hvI : (v : Int) < (n : Int) := by omega
        obtain ⟨own, hsep, hown⟩ := id hM
        obtain ⟨l0, l1⟩ := r_vl (blkC PB zpk TPk :: Q) hsep hvn
        have hrow := r_row (blkC PB zpk TPk :: Q) hsep hvn
        obtain ⟨g, c, hvl, hg, q0, q1⟩ := hrow.cell (i := 0) (e := (k, x)) (by rw [hrL]; rfl)
        have q2 : w4.cell? ⟨g, 0, none⟩ = some (.int .u64 (k : Nat)) := q0
        have q3 : w4.cell? ⟨g, 1, none⟩ = some (.int .i64 x) := q1
        have c1 := (rd (blkC PB zpk TPk :: Q) hM).c1
        have hlen : (r'.L v).length ≤ 4096 := by
          rw [← (hDn.sim.L v hDn.lt).len]
          exact hDn.lens v hDn.lt
        have hlen0 : 0 < (r'.L v).length := by rw [hrL]; simp
        obtain ⟨L0, hL0⟩ : ∃ y, (r'.L v).length = y := ⟨_, rfl⟩
        rw [hL0] at hvl hlen hlen0
        rw [hvl] at l0
        have hL0I : (0 : Int) < (L0 : Int) := by omega
        have hM1 := m_blk' hM #[.int .u64 (k : Nat), .int .i64 x] TI
        have HVL := Lib.hid hvl
        have HL0 := Lib.hid hL0
        have HRL := Lib.hid hrL
        have HD := Lib.hid hDn
        have HEN := Lib.hid henc
        have HLEAF := Lib.hid hleaf
        have HINN := Lib.hid hinner
        clear hM hq hrL henc hleaf hinner hDn hsep hown hrow hvl q0 q1 hL0 HF3 HDN
        go_upto_region 9 with fail
        obtain ⟨XB, hXB⟩ : ∃ y, w4.heap.size = y := ⟨_, rfl⟩
        rw [hXB] at hM1
        try simp only [hXB]
        clear hXB q2 q3 c1 l0 l1
        generalize w4.alloc (.cells #[.int .u64 (k : Nat), .int .i64 x] TI) = w5 at *
        have HM5 := Lib.hid hM1
        obtain ⟨x0, x1⟩ := x_get hM1
        have hD5 := rd (blkC XB #[.int .u64 (k : Nat), .int .i64 x] TI :: blkC PB zpk TPk :: Q) hM1
        have c0 := hD5.c0
        have c1 := hD5.c1
        obtain ⟨own, hsep, hown⟩ := id hM1
        obtain ⟨l0, l1⟩ := r_vl (blkC XB #[.int .u64 (k : Nat), .int .i64 x] TI :: blkC PB zpk TPk :: Q) hsep hvn
        have hrow := r_row (blkC XB #[.int .u64 (k : Nat), .int .i64 x] TI :: blkC PB zpk TPk :: Q) hsep hvn
        obtain ⟨hbL, _, _, _⟩ := r_ne (blkC XB #[.int .u64 (k : Nat), .int .i64 x] TI :: blkC PB zpk TPk :: Q) hsep
        have hxL : XB ≠ Y.gL := by
          intro e9
          exact blk_ne (l1 := []) hM1 (T := TLs) (W := 1) (v := .slice (some ⟨Y.gL, 0, none⟩) n Y.cL) (n := n) (xs := (List.range n).map u'.VL) (List.mem_append_right _ (List.mem_append_right _ (by simp [rcomps]))) (by rw [e9]; rfl)
        rw [HVL.out] at l0 hrow
        have hrow2 : PRow TI 0 w5 (.slice (some ⟨g, 0, none⟩) L0 c) (r'.L v) := hrow
        have HRS := fun (y : World) (hy : Upd Nowhere w5 y) => Lib.hid (Ref09.rest_any (base := 0) (show PRow TI 0 y (.slice (some ⟨g, 0, none⟩) L0 c) (r'.L v) from ownsRow_upd hrow2 hy (fun _ _ h => h)) (by rw [HL0.out]; omega))
        have htl : (r'.L v).tail = rl := by rw [HRL.out]; rfl
        rw [htl] at HRS
        clear hM1 hD5 hsep hown hrow hrow2 htl
        go_cut [] from 40 to 53 (fun wc => ∃ v5, Made w0 wc ((blkC XB #[.int .u64 (k : Nat), .int .i64 x] TI :: blkC PB zpk TPk :: Q) ++ rcomps (.slice (some ⟨ga, oa, none⟩) n cp) Y { u' with VL := up u'.VL v v5 } n (room : Int) { r' with L := up r'.L v rl }))
        case first =>
          refine wp_region_held_drew (S := fun w' => w'.cell? ⟨Y.b, 1, none⟩ = some (.slice (some ⟨Y.gL, 0, none⟩) n Y.cL) ∧ w'.cell? ⟨Y.b, 0, none⟩ = some (.slice (some ⟨ga, oa, none⟩) n cp) ∧ w'.cell? ⟨XB, 1, none⟩ = some (.int .i64 x)) (by kernel_rfl) ⟨c1, c0, x1⟩ (fun hHeld => ?_)
          refine wpAnyH_take (i := 0) (v := ?_) (by simp only [List.getElem?_toArray, List.getElem?_cons_zero, List.getElem?_cons_succ]; rfl) (by kernel_rfl) (by kernel_rfl) (by kernel_rfl) (by intro _ _ _ h; exact h) (Or.inl ⟨by rfl, ?_⟩) (by assumption) ?_
          rotate_left 1
          · intro w hSw; (try dsimp only at hSw); go_simp; try with_reducible rfl
          try simp only [Act.put, List.setIfInBounds_toArray, List.set_cons_zero, List.set_cons_succ]
          refine wpAnyH_take (i := 1) (v := ?_) (by simp only [List.getElem?_toArray, List.getElem?_cons_zero, List.getElem?_cons_succ]; rfl) (by kernel_rfl) (by kernel_rfl) (by kernel_rfl) (by intro _ _ _ h; exact h) (Or.inl ⟨by rfl, ?_⟩) (by assumption) ?_
          rotate_left 1
          · intro w hSw; (try dsimp only at hSw); go_simp; try with_reducible rfl
          try simp only [Act.put, List.setIfInBounds_toArray, List.set_cons_zero, List.set_cons_succ]
          refine wpAnyH_take (i := 2) (v := ?_) (by simp only [List.getElem?_toArray, List.getElem?_cons_zero, List.getElem?_cons_succ]; rfl) (by kernel_rfl) (by kernel_rfl) (by kernel_rfl) (by intro _ _ _ h; exact h) (Or.inl ⟨by rfl, ?_⟩) (by assumption) ?_
          rotate_left 1
          · intro w hSw; (try dsimp only at hSw); go_simp; try with_reducible rfl
          try simp only [Act.put, List.setIfInBounds_toArray, List.set_cons_zero, List.set_cons_succ]
          refine wpAnyH_take (i := 3) (v := ?_) (by simp only [List.getElem?_toArray, List.getElem?_cons_zero, List.getElem?_cons_succ]; rfl) (by kernel_rfl) (by kernel_rfl) (by kernel_rfl) (by intro _ _ _ h; exact h) (Or.inl ⟨by rfl, ?_⟩) (by assumption) ?_
          rotate_left 1
          · intro w hSw; (try dsimp only at hSw); go_simp; try with_reducible rfl
          try simp only [Act.put, List.setIfInBounds_toArray, List.set_cons_zero, List.set_cons_succ]
          refine wpAnyH_take (i := 4) (v := ?_) (by simp only [List.getElem?_toArray, List.getElem?_cons_zero, List.getElem?_cons_succ]; rfl) (by kernel_rfl) (by kernel_rfl) (by kernel_rfl) (by intro _ _ _ h; exact h) (Or.inl ⟨by rfl, ?_⟩) (by assumption) ?_
          rotate_left 1
          · intro w hSw; (try dsimp only at hSw); go_simp; try with_reducible rfl
          try simp only [Act.put, List.setIfInBounds_toArray, List.set_cons_zero, List.set_cons_succ]
          refine wpAnyH_take (i := 5) (v := ?_) (by simp only [List.getElem?_toArray, List.getElem?_cons_zero, List.getElem?_cons_succ]; rfl) (by kernel_rfl) (by kernel_rfl) (by kernel_rfl) (by intro _ _ _ h; exact h) (Or.inl ⟨by rfl, ?_⟩) (by assumption) ?_
          rotate_left 1
          · intro w hSw; (try dsimp only at hSw); go_simp; try with_reducible rfl
          try simp only [Act.put, List.setIfInBounds_toArray, List.set_cons_zero, List.set_cons_succ]
          refine wpAnyH_take (i := 6) (v := ?_) (by simp only [List.getElem?_toArray, List.getElem?_cons_zero, List.getElem?_cons_succ]; rfl) (by kernel_rfl) (by kernel_rfl) (by kernel_rfl) (by intro _ _ _ h; exact h) (Or.inl ⟨by rfl, ?_⟩) (by assumption) ?_
          rotate_left 1
          · intro w hSw; (try dsimp only at hSw); go_simp; try with_reducible rfl
          try simp only [Act.put, List.setIfInBounds_toArray, List.set_cons_zero, List.set_cons_succ]
          refine wpAnyH_take (i := 7) (v := ?_) (by simp only [List.getElem?_toArray, List.getElem?_cons_zero, List.getElem?_cons_succ]; rfl) (by kernel_rfl) (by kernel_rfl) (by kernel_rfl) (by intro _ _ _ h; exact h) (Or.inl ⟨by rfl, ?_⟩) (by assumption) ?_
          rotate_left 1
          · intro w hSw; (try dsimp only at hSw); go_simp; try with_reducible rfl
          try simp only [Act.put, List.setIfInBounds_toArray, List.set_cons_zero, List.set_cons_succ]
          refine wpAnyH_take (i := 8) (v := ?_) (by simp only [List.getElem?_toArray, List.getElem?_cons_zero, List.getElem?_cons_succ]; rfl) (by kernel_rfl) (by kernel_rfl) (by kernel_rfl) (by intro _ _ _ h; exact h) (Or.inl ⟨by rfl, ?_⟩) (by assumption) ?_
          rotate_left 1
          · intro w hSw; (try dsimp only at hSw); go_simp; try with_reducible rfl
          try simp only [Act.put, List.setIfInBounds_toArray, List.set_cons_zero, List.set_cons_succ]
          refine wpAnyH_take (i := 9) (v := ?_) (by simp only [List.getElem?_toArray, List.getElem?_cons_zero, List.getElem?_cons_succ]; rfl) (by kernel_rfl) (by kernel_rfl) (by kernel_rfl) (by intro _ _ _ h; exact h) (Or.inl ⟨by rfl, ?_⟩) (by assumption) ?_
          rotate_left 1
          · intro w hSw; (try dsimp only at hSw); go_simp; try with_reducible rfl
          try simp only [Act.put, List.setIfInBounds_toArray, List.set_cons_zero, List.set_cons_succ]
          refine wpAnyH_take (i := 10) (v := ?_) (by simp only [List.getElem?_toArray, List.getElem?_cons_zero, List.getElem?_cons_succ]; rfl) (by kernel_rfl) (by kernel_rfl) (by kernel_rfl) (by intro _ _ _ h; exact h) (Or.inl ⟨by rfl, ?_⟩) (by assumption) ?_
          rotate_left 1
          · intro w hSw; (try dsimp only at hSw); go_simp; try with_reducible rfl
          try simp only [Act.put, List.setIfInBounds_toArray, List.set_cons_zero, List.set_cons_succ]
          refine wpAnyH_ready (rs := [11]) (by kernel_rfl) (by simp) ?_
          refine AllReadyH.cons (by simp only [List.getElem?_toArray, List.getElem?_cons_zero, List.getElem?_cons_succ]; rfl) (fun K hK => ?_) AllReadyH.nil
          go_simp
          refine hK.out _ _ (by (try dsimp only); assumption) (fun hHeld => ?_)
          clear hK K
          refine wpAnyH_ready (rs := [12]) (by kernel_rfl) (by simp) ?_
          refine AllReadyH.cons (by simp only [List.getElem?_toArray, List.getElem?_cons_zero, List.getElem?_cons_succ]; rfl) (fun K hK => ?_) AllReadyH.nil
          go_simp
          go_wp2_with (go_at_call 40; refine (keepP3 (HRS _ (by first | with_reducible exact Upd.refl _ _ | with_reducible exact (Upd.refl _ _).drew)).out (by assumption)).mono ?_; rintro e w6 ⟨v5, rfl, hM6, hS6⟩; have hu6 := hM6.2; have hU6 : Upd Nowhere w5 w6 := (by first | with_reducible exact hu6 | with_reducible exact ((Upd.refl Nowhere w5).drew).trans hu6 (fun _ _ h => h)); obtain ⟨y0, y1⟩ : w6.cell? ⟨Y.gL, v, none⟩ = some (.slice (some ⟨g, 0, none⟩) L0 c) ∧ w6.frozen? ⟨Y.gL, v, none⟩ = false := cell_off (S := Nowhere) (Upd.refl _ _) hU6 id l0 l1; have HF6 := Lib.hid (mlift HM5.out (fun own hs => r_new_row (blkC XB #[.int .u64 (k : Nat), .int .i64 x] TI :: blkC PB zpk TPk :: Q) hs hvn (v := v5) (l := rl) hU6 hM6.1)); obtain ⟨a6, c6, rfl⟩ := hM6.1.form; clear hU6 hM6 hu6)
          refine hK.out _ _ (by (try dsimp only); assumption) (fun hHeld => ?_)
          clear hK K
          refine wpAnyH_take (i := 13) (v := ?_) (by simp only [List.getElem?_toArray, List.getElem?_cons_zero, List.getElem?_cons_succ]; rfl) (by kernel_rfl) (by kernel_rfl) (by kernel_rfl) (by intro _ _ _ h; exact h) (Or.inl ⟨by rfl, ?_⟩) (by assumption) ?_
          rotate_left 1
          · intro w hSw; (try dsimp only at hSw); go_simp; try with_reducible rfl
          try simp only [Act.put, List.setIfInBounds_toArray, List.set_cons_zero, List.set_cons_succ]
          refine wpAnyH_ready (rs := [14]) (by kernel_rfl) (by simp) ?_
          refine AllReadyH.cons (by simp only [List.getElem?_toArray, List.getElem?_cons_zero, List.getElem?_cons_succ]; rfl) (fun K hK => ?_) AllReadyH.nil
          go_simp
          refine hK.out _ _ (by (try dsimp only); exact keepS3 (by assumption) hbL hbL hxL) (fun hHeld => ?_)
          clear hK K
          refine wpAnyH_done (by kernel_rfl) ?_ _
          all_goals
            go_wp2_with fail
            go_meet
            first
              | exact ⟨_, by with_reducible exact HF6.out⟩
              | exact ⟨_, by with_reducible exact HF6.out.old (Upd.refl _ _).drew⟩
        case rest =>
          obtain ⟨v5, hM6⟩ := hcut
          obtain ⟨w6, rfl⟩ : ∃ y, y = wc := ⟨_, rfl⟩
          have HM6 := Lib.hid hM6
          clear hM6 HM5 x0 x1 c0 c1 l0 l1 hbL hxL HRS
          have d0 := (rd (blkC XB #[.int .u64 (k : Nat), .int .i64 x] TI :: blkC PB zpk TPk :: Q) HM6.out).c0
          have HLF6 := Lib.hid (HLF w6 HM6.out.upd v).out
          obtain ⟨lf, hlf⟩ : ∃ y, sh.leaf v = y := ⟨_, rfl⟩
          rw [hlf] at HLF6
          have HLE := Lib.hid hlf
          clear hlf
          go_wp2_with fail
          refine (HLF6.out).mono ?_
          rintro e w' ⟨rfl, rfl⟩
          obtain ⟨x0, x1⟩ := x_get HM6.out
          cases lf with
          | true =>
            obtain ⟨hTe, hSe⟩ := HLEAF.out HLE.out
            have henc := HEN.out
            unfold Enc at henc
            rw [if_pos HLE.out] at henc
            obtain ⟨kk, rfl, hkk⟩ := henc
            obtain ⟨own, hsep, hown⟩ := id HM6.out
            obtain ⟨gp, cP, hvp, k0, k1, k2⟩ := r_pk (blkC XB #[.int .u64 (k : Nat), .int .i64 (kk : Nat)] TI :: blkC PB zpk TPk :: Q) hsep (show ({ r' with L := up r'.L v rl } : RS).P[kk]? = some e.2 from hkk)
            have c5 : w6.cell? ⟨Y.b, 5, none⟩ = some u'.vP := (rd (blkC XB #[.int .u64 (k : Nat), .int .i64 (kk : Nat)] TI :: blkC PB zpk TPk :: Q) HM6.out).c5
            have hvp2 : u'.vP = .slice (some ⟨gp, 0, none⟩) r'.P.length cP := hvp
            rw [hvp2] at c5
            have hkl : kk < r'.P.length := by
              rcases Nat.lt_or_ge kk r'.P.length with h' | h'
              · exact h'
              · rw [List.getElem?_eq_none h'] at hkk; cases hkk
            obtain ⟨PL, hPL⟩ : ∃ y, r'.P.length = y := ⟨_, rfl⟩
            rw [hPL] at c5 hkl
            have hkI : (kk : Int) < (PL : Nat) := by omega
            have n1 : gp ≠ PB := by
              intro e9
              have h9 := blk_ne (l1 := [blkC XB #[.int .u64 (k : Nat), .int .i64 (kk : Nat)] TI]) HM6.out (T := TPk) (W := 3) (v := u'.vP) (n := r'.P.length) (xs := r'.P.flatMap pc) (List.mem_append_right _ (List.mem_append_right _ (by simp [rcomps])))
              rw [hvp2] at h9
              exact h9 (by rw [e9]; rfl)
            have n0 : Y.b ≠ PB := blk_bb (l1 := [blkC XB #[.int .u64 (k : Nat), .int .i64 (kk : Nat)] TI]) (b := Y.b) (ds := rtop (.slice (some ⟨ga, oa, none⟩) n cp) Y { u' with VL := up u'.VL v v5 } n (room : Int) { r' with L := up r'.L v rl }) (T := TT) HM6.out (List.mem_append_right _ (List.mem_append_right _ (by simp [rcomps])))
            have n2 : XB ≠ PB := blk_bb (l1 := [blkC XB #[.int .u64 (k : Nat), .int .i64 (kk : Nat)] TI]) (b := XB) (ds := #[.int .u64 (k : Nat), .int .i64 (kk : Nat)]) (T := TI) HM6.out (List.mem_append_left _ (by simp))
            obtain ⟨p0, p1, p2, y0, y1, y2⟩ := p_get (l1 := [blkC XB #[.int .u64 (k : Nat), .int .i64 (kk : Nat)] TI]) HM6.out
            have k0' : w6.cell? ⟨gp, kk * 3, none⟩ = some (.int .u32 (e.2.1 : Nat)) := k0
            have k1' : w6.cell? ⟨gp, kk * 3 + 1, none⟩ = some (.int .u32 (e.2.2.1 : Nat)) := k1
            have k2' : w6.cell? ⟨gp, kk * 3 + 2, none⟩ = some (.int .u64 (e.2.2.2 : Nat)) := k2
            obtain ⟨e0, ea, eb, el⟩ := e
            simp only at k0' k1' k2'
            have HF7 := Lib.hid (pk_put (l1 := [blkC XB #[.int .u64 (k : Nat), .int .i64 (kk : Nat)] TI]) (v0 := .int .u32 (ea : Nat)) (v1 := .int .u32 (eb : Nat)) (v2 := .int .u64 (el : Nat)) rfl HM6.out)
            have HTE := Lib.hid hTe
            have HSE := Lib.hid hSe
            clear hTe hSe hkk hsep hown hvp hvp2 k0 k1 k2 hPL
            go_upto_region 11 with fail
            refine wp_region_held_drew (S := fun w' => w'.cell? ⟨Y.b, 5, none⟩ = some (.slice (some ⟨gp, 0, none⟩) PL cP) ∧ w'.cell? ⟨XB, 1, none⟩ = some (.int .i64 (kk : Nat)) ∧ w'.cell? ⟨gp, kk * 3, none⟩ = some (.int .u32 (ea : Nat)) ∧ w'.cell? ⟨gp, kk * 3 + 1, none⟩ = some (.int .u32 (eb : Nat)) ∧ w'.cell? ⟨gp, kk * 3 + 2, none⟩ = some (.int .u64 (el : Nat))) (by kernel_rfl) ⟨c5, x1, k0', k1', k2'⟩ (fun hHeld => ?_)
            refine wpAnyH_take (i := 0) (v := ?_) (by simp only [List.getElem?_toArray, List.getElem?_cons_zero, List.getElem?_cons_succ]; rfl) (by kernel_rfl) (by kernel_rfl) (by kernel_rfl) (by intro _ _ _ h; exact h) (Or.inl ⟨by rfl, ?_⟩) (by assumption) ?_
            rotate_left 1
            · intro w hSw; (try dsimp only at hSw); go_simp; try with_reducible rfl
            try simp only [Act.put, List.setIfInBounds_toArray, List.set_cons_zero, List.set_cons_succ]
            refine wpAnyH_take (i := 1) (v := ?_) (by simp only [List.getElem?_toArray, List.getElem?_cons_zero, List.getElem?_cons_succ]; rfl) (by kernel_rfl) (by kernel_rfl) (by kernel_rfl) (by intro _ _ _ h; exact h) (Or.inl ⟨by rfl, ?_⟩) (by assumption) ?_
            rotate_left 1
            · intro w hSw; (try dsimp only at hSw); go_simp; try with_reducible rfl
            try simp only [Act.put, List.setIfInBounds_toArray, List.set_cons_zero, List.set_cons_succ]
            refine wpAnyH_take (i := 2) (v := ?_) (by simp only [List.getElem?_toArray, List.getElem?_cons_zero, List.getElem?_cons_succ]; rfl) (by kernel_rfl) (by kernel_rfl) (by kernel_rfl) (by intro _ _ _ h; exact h) (Or.inl ⟨by rfl, ?_⟩) (by assumption) ?_
            rotate_left 1
            · intro w hSw; (try dsimp only at hSw); go_simp; try with_reducible rfl
            try simp only [Act.put, List.setIfInBounds_toArray, List.set_cons_zero, List.set_cons_succ]
            refine wpAnyH_take (i := 3) (v := ?_) (by simp only [List.getElem?_toArray, List.getElem?_cons_zero, List.getElem?_cons_succ]; rfl) (by kernel_rfl) (by kernel_rfl) (by kernel_rfl) (by intro _ _ _ h; exact h) (Or.inl ⟨by rfl, ?_⟩) (by assumption) ?_
            rotate_left 1
            · intro w hSw; (try dsimp only at hSw); go_simp; try with_reducible rfl
            try simp only [Act.put, List.setIfInBounds_toArray, List.set_cons_zero, List.set_cons_succ]
            refine wpAnyH_take (i := 4) (v := ?_) (by simp only [List.getElem?_toArray, List.getElem?_cons_zero, List.getElem?_cons_succ]; rfl) (by kernel_rfl) (by kernel_rfl) (by kernel_rfl) (by intro _ _ _ h; exact h) (Or.inl ⟨by rfl, ?_⟩) (by assumption) ?_
            rotate_left 1
            · intro w hSw; (try dsimp only at hSw); go_simp; try with_reducible rfl
            try simp only [Act.put, List.setIfInBounds_toArray, List.set_cons_zero, List.set_cons_succ]
            refine wpAnyH_take (i := 5) (v := ?_) (by simp only [List.getElem?_toArray, List.getElem?_cons_zero, List.getElem?_cons_succ]; rfl) (by kernel_rfl) (by kernel_rfl) (by kernel_rfl) (by intro _ _ _ h; exact h) (Or.inl ⟨by rfl, ?_⟩) (by assumption) ?_
            rotate_left 1
            · intro w hSw; (try dsimp only at hSw); go_simp; try with_reducible rfl
            try simp only [Act.put, List.setIfInBounds_toArray, List.set_cons_zero, List.set_cons_succ]
            refine wpAnyH_take (i := 6) (v := ?_) (by simp only [List.getElem?_toArray, List.getElem?_cons_zero, List.getElem?_cons_succ]; rfl) (by kernel_rfl) (by kernel_rfl) (by kernel_rfl) (by intro _ _ _ h; exact h) (Or.inl ⟨by rfl, ?_⟩) (by assumption) ?_
            rotate_left 1
            · intro w hSw; (try dsimp only at hSw); go_simp; try with_reducible rfl
            try simp only [Act.put, List.setIfInBounds_toArray, List.set_cons_zero, List.set_cons_succ]
            refine wpAnyH_take (i := 7) (v := ?_) (by simp only [List.getElem?_toArray, List.getElem?_cons_zero, List.getElem?_cons_succ]; rfl) (by kernel_rfl) (by kernel_rfl) (by kernel_rfl) (by intro _ _ _ h; exact h) (Or.inl ⟨by rfl, ?_⟩) (by assumption) ?_
            rotate_left 1
            · intro w hSw; (try dsimp only at hSw); go_simp; try with_reducible rfl
            try simp only [Act.put, List.setIfInBounds_toArray, List.set_cons_zero, List.set_cons_succ]
            refine wpAnyH_ready (rs := [8]) (by kernel_rfl) (by simp) ?_
            refine AllReadyH.cons (by simp only [List.getElem?_toArray, List.getElem?_cons_zero, List.getElem?_cons_succ]; rfl) (fun K hK => ?_) AllReadyH.nil
            go_simp
            refine hK.out _ _ (by (try dsimp only); exact keepT5 (by assumption) n0 n2 n1 n1 n1) (fun hHeld => ?_)
            clear hK K
            refine wpAnyH_take (i := 9) (v := ?_) (by simp only [List.getElem?_toArray, List.getElem?_cons_zero, List.getElem?_cons_succ]; rfl) (by kernel_rfl) (by kernel_rfl) (by kernel_rfl) (by intro _ _ _ h; exact h) (Or.inl ⟨by rfl, ?_⟩) (by assumption) ?_
            rotate_left 1
            · intro w hSw; (try dsimp only at hSw); go_simp; try with_reducible rfl
            try simp only [Act.put, List.setIfInBounds_toArray, List.set_cons_zero, List.set_cons_succ]
            refine wpAnyH_done (by kernel_rfl) ?_ _
            have HM8 := Lib.hid (HF7.out.old (Upd.refl _ _).drew)
            clear HF7 c5 k0' k1' k2' x0 x1 p0 p1 p2 y0 y1 y2 n0 n1 n2 hHeld d0
            generalize (((w6.setCell ⟨PB, 0, none⟩ (.int .u32 (ea : Nat))).setCell ⟨PB, 1, none⟩ (.int .u32 (eb : Nat))).setCell ⟨PB, 2, none⟩ (.int .u64 (el : Nat))).drew = w8 at *
            obtain ⟨p0, p1, p2, -⟩ := p_get (l1 := [blkC XB #[.int .u64 (k : Nat), .int .i64 (kk : Nat)] TI]) HM8.out
            have hA : Aft sh { s' with q := up s'.q v l } { r' with L := up r'.L v rl } (B + 34) (r.P.length + 1) :=
              ⟨HSE.out, ⟨HD.out.vi, HD.out.tg, HD.out.fr, fun p hp => HW1.out.fit.pk p (by
                have h9 : r'.P = r1.P := HD.out.P
                rw [← h9]; exact hp)⟩, by
                have h9 : r'.P = r1.P := HD.out.P
                show r'.P.length ≤ _
                rw [h9]; exact HAFT.out.P, by
                have h8 : r'.R = r1.R := HD.out.R
                have h9 : s'.H = s1.H := HD.out.H
                show r'.R.length + meas s'.H ≤ _
                rw [h8, h9]; exact HAFT.out.pot⟩
            have HA := Lib.hid hA
            have hR := HR2.out
            rw [HTE.out] at hR
            have HR3 := Lib.hid hR
            clear hA hR
            go_wp2_with fail
            exact bodyPost_ret (v := .tuple #[VP (ea, eb, el), .int .i64 0]) (by simp [results, Tryd.results23, go_sem, p0, p1, p2]) rfl ⟨by rw [← HR3.out]; rfl, _, _, HM8.out.drop.drop, by rw [← HR3.out]; exact HA.out⟩
          | false =>
            obtain ⟨c, rfl, hvc, hcn, hDc⟩ := HINN.out HLE.out
            have hDC := Lib.hid hDc
            obtain ⟨⟨m0, m1, m2, m3⟩, ⟨m1', m2', m3'⟩⟩ := (HND w6 HM6.out.upd v hvn).out
            have c2 := (rd (blkC XB #[.int .u64 (k : Nat), .int .i64 (c : Nat)] TI :: blkC PB zpk TPk :: Q) HM6.out).c2
            obtain ⟨kd, hkd⟩ : ∃ y, sh.kind v = y := ⟨_, rfl⟩
            rw [hkd] at m1 m1'
            by_cases hk3 : kd = 3
            · have q : ((kd : Int) == 3) = true := by rw [hk3]; rfl
              have e9 : rstep sh r' v k rl = { r' with L := up r'.L v rl, Vi := up r'.Vi v k } := by unfold rstep; rw [if_pos (hkd.trans hk3)]
              rw [e9] at hDC
              obtain ⟨own, hsep, hown⟩ := id HM6.out
              obtain ⟨v0, v1⟩ := r_vi (blkC XB #[.int .u64 (k : Nat), .int .i64 (c : Nat)] TI :: blkC PB zpk TPk :: Q) hsep hvn
              have HF7 := fun (nq : Nat) => Lib.hid (mlift (HM6.out.old ((Upd.refl Nowhere w6).drewN nq)) (fun own hs => r_set_vi (blkC XB #[.int .u64 (k : Nat), .int .i64 (c : Nat)] TI :: blkC PB zpk TPk :: Q) hs v k))
              clear hsep hown e9 hkd hk3 hDc
              go_upto_region 13 with fail
              refine wp_region_tail 8 (by kernel_rfl) (by kernel_rfl) ?_
              simp only [List.take_succ_cons, List.take_zero, List.drop_succ_cons, List.drop_zero]
              repeat (go_big_quiet_step (fail))
              refine wpQuiet_nil ?_
              rintro _ ⟨nq, rfl⟩
              have HF8 := Lib.hid (HF7 nq).out
              clear HF7
              go_wp2
              refine Stage.out ?_
              clear x0 x1
              generalize (w6.drewN nq).setCell ⟨Y.gV, v, none⟩ (.int .u64 (k : Nat)) = w7 at *
              obtain ⟨x0, x1⟩ := x_get HF8.out
              go_wp2_with fail
              go_roundw
              case rel => exact ⟨c, f', _, _, _, by first | rfl | go_num, HF8.out.drop, hDC.out⟩
              case measure => simp [intOf]; omega
            · have q : ((kd : Int) == 3) = false := by simp; omega
              have e9 : rstep sh r' v k rl = { r' with L := up r'.L v rl } := by unfold rstep; rw [if_neg (by rw [hkd]; exact hk3)]
              rw [e9] at hDC
              clear e9 hkd hk3 hDc
              go_wp2_with fail
              go_roundw
              case rel => exact ⟨c, f', _, _, _, by first | rfl | go_num, HM6.out.drop, hDC.out⟩
              case measure => simp [intOf]; omega
end Go.Proofs.YtllfloapiliheaaDoor.R30
namespace Go.Proofs.YtllfloapiliheaaDoor.R30
open Go.RowKit Go.Proofs BigFrame
open Tree (Sh TS up up_at up_off Nd NodesAt shOf)
set_option maxHeartbeats 4000000
set_option maxRecDepth 1000000
def r0 : RS := ⟨fun _ => [], fun _ => 0, fun _ => 0, fun _ => 0, [], [], [], 0, 0⟩
def u0 : RV := ⟨.slice none 0 0, .slice none 0 0, .slice none 0 0, fun _ => .slice none 0 0⟩
theorem infoLs : (Tryd.prog.info? TLs).map (fun i => (i.zero, i.size, i.bytes)) = some (some (.slice none 0 0), 1, 24) := by kernel_rfl
theorem infoU : (Tryd.prog.info? TU).map (fun i => (i.zero, i.size, i.bytes)) = some (some (.int .u64 0), 1, 8) := by kernel_rfl
/-- While the rows grow. -/
def gtop (vn vL vV vT vF : Value) (room : Int) : Array Value := #[vn, vL, vV, vT, vF, .slice none 0 0, .slice none 0 0, .slice none 0 0, .int .u64 0, .int .i64 0, .int .i64 room]
def grow (b : Nat) (vn vL vV vT vF : Value) (room : Int) (kL kV kT kF : Nat) : List Comp :=
  [blkC b (gtop vn vL vV vT vF room) TT, rowW TLs 1 vL kL (List.replicate kL (.slice none 0 0)), rowW TU 1 vV kV (List.replicate kV (.int .u64 0)), rowW TU 1 vT kT (List.replicate kT (.int .u64 0)), rowW TU 1 vF kF (List.replicate kF (.int .u64 0))]
theorem rep_succ {α : Type} (n : Nat) (x : α) : List.replicate n x ++ [x] = List.replicate (n + 1) x := by rw [List.replicate_succ']
theorem Sep.more_nil {w : World} {l' : List Comp} (h' : ∀ C ∈ l', C.P w (fun _ => False)) : ∀ {l : List Comp} {own : Nat → Prop}, Sep w l own → Sep w (l ++ l') own
  | [], own, h => by
    show Sep w l' own
    have e : own = fun _ => False := funext fun k => propext ⟨fun hk => h k hk, False.elim⟩
    subst e
    clear h
    induction l' with
    | nil => exact fun _ hk => hk
    | cons C l' ih => exact ⟨fun _ => False, fun _ => False, h' C (List.mem_cons_self ..), ih (fun D hD => h' D (List.mem_cons_of_mem _ hD)), fun _ h => h.elim, fun _ => ⟨False.elim, fun h => h.elim id id⟩⟩
  | C :: l, own, ⟨o, o', h1, h2, h3, h4⟩ => ⟨o, o', h1, Sep.more_nil h' h2, h3, h4⟩
theorem Made.more_nil {w0 w : World} {l l' : List Comp} (h : Made w0 w l) (h' : ∀ C ∈ l', C.P w (fun _ => False)) : Made w0 w (l ++ l') := by
  obtain ⟨own, h1, h2, h3⟩ := h
  exact ⟨own, Sep.more_nil h' h1, h2, h3⟩
theorem row_nil (w : World) (T : TypeId) (W : Nat) : (rowW T W (.slice none 0 0) 0 []).P w (fun _ => False) := ⟨ownsRow_nil _ _ _ _, fun k => ⟨False.elim, fun h => by cases h⟩⟩
section
variable {w0 w w1 w' : World} {b n : Nat} {c : Array Value} {t T : TypeId} {v v' : Value} {xs ys : List Value} {W : Nat}
theorem m_grow (Q A B : List Comp) (h : Made w0 w (Q ++ blkC b c t :: (A ++ rowW T W v n xs :: B))) (hx : Upd Nowhere w w1) (ho : w'.ownsRow 0 T W v' (n + 1) (xs ++ ys)) (hu : Upd (fun k => v.ownBlock = some k) w1 w') (hn : OwnOrNew w1 v v') (k : Nat) :
    Made w0 (w'.setCell ⟨b, k, none⟩ v') (Q ++ blkC b (c.setIfInBounds k v') t :: (A ++ rowW T W v' (n + 1) (xs ++ ys) :: B)) := mlift h fun own hs => by
  obtain ⟨o, h1, h3⟩ := Sep.two _ _ _ hs
  obtain ⟨a1, a2⟩ := rowW_push h1 hx ho hu hn
  exact h3 w' _ _ a1 a2 k v'
theorem g_row (Q A B : List Comp) (h : Made w0 w (Q ++ blkC b c t :: (A ++ rowW T W v n xs :: B))) : w.ownsRow 0 T W v n xs ∧ v.ownBlock ≠ some b ∧ Blk w b c t := by
  obtain ⟨own, hs, _⟩ := h
  obtain ⟨o, h1, _⟩ := Sep.has (C := rowW T W v n xs) hs (List.mem_append_right _ (List.mem_cons_of_mem _ (List.mem_append_right _ (List.mem_cons_self ..))))
  obtain ⟨o2, h2, _⟩ := Sep.has (C := blkC b c t) hs (List.mem_append_right _ (List.mem_cons_self ..))
  exact ⟨h1.1, sep_ne' hs Q _ rfl (T := T) (W := W) (n := n) (xs := xs) (List.mem_append_right _ (List.mem_append_right _ (List.mem_cons_self ..))), h2.1⟩
end
theorem own_form1 {E : TypeId} {base n : Nat} {w : World} {v : Value} {xs : List Value} (h : w.ownsRow base E 1 v n xs) (h0 : 0 < n) : ∃ g c, v = .slice (some ⟨g, 0, none⟩) n c := by
  rcases h.2 with ⟨rfl, h0⟩ | ⟨g, c, cur, rfl, _⟩
  · omega
  · exact ⟨g, c, rfl⟩
theorem map_rep {α : Type} (f : Nat → α) (x : α) (hf : ∀ i, f i = x) : ∀ n, (List.range n).map f = List.replicate n x
  | 0 => rfl
  | n + 1 => by rw [List.range_succ, List.map_append, map_rep f x hf n, List.map_cons, List.map_nil, hf, rep_succ]
/-- The rows are full. -/
theorem g_done {w0 w : World} (Q : List Comp) {b n : Nat} {vn vL vV vT vF : Value} {room : Int} (h0 : 0 < n) (h : Made w0 w (Q ++ grow b vn vL vV vT vF room n n n n)) :
    ∃ Y : RLay, Y.b = b ∧ Made w0 w (Q ++ rcomps vn Y u0 n room r0) := by
  obtain ⟨own, hs, h2, h3⟩ := id h
  have has : ∀ C ∈ grow b vn vL vV vT vF room n n n n, ∃ o, C.P w o := fun C hC => by
    obtain ⟨o, h1, _⟩ := Sep.has (C := C) hs (List.mem_append_right _ hC)
    exact ⟨o, h1⟩
  obtain ⟨_, hL⟩ := has _ (List.mem_cons_of_mem _ (List.mem_cons_self ..))
  obtain ⟨_, hV⟩ := has _ (List.mem_cons_of_mem _ (List.mem_cons_of_mem _ (List.mem_cons_self ..)))
  obtain ⟨_, hT⟩ := has _ (List.mem_cons_of_mem _ (List.mem_cons_of_mem _ (List.mem_cons_of_mem _ (List.mem_cons_self ..))))
  obtain ⟨_, hF⟩ := has _ (List.mem_cons_of_mem _ (List.mem_cons_of_mem _ (List.mem_cons_of_mem _ (List.mem_cons_of_mem _ (List.mem_cons_self ..)))))
  obtain ⟨gL, cL, rfl⟩ := own_form1 hL.1 h0
  obtain ⟨gV, cV, rfl⟩ := own_form1 hV.1 h0
  obtain ⟨gT, cT, rfl⟩ := own_form1 hT.1 h0
  obtain ⟨gF, cF, rfl⟩ := own_form1 hF.1 h0
  refine ⟨⟨b, gL, gV, gT, gF, cL, cV, cT, cF⟩, rfl, ?_⟩
  have h9 := Made.more_nil h (l' := [rowW TPk 3 (.slice none 0 0) 0 [], rowW TRi 2 (.slice none 0 0) 0 [], rowW TI 2 (.slice none 0 0) 0 []] ++ (List.range n).map (lrow u0 r0)) (fun C hC => by
    rcases List.mem_append.1 hC with hC | hC
    · simp only [List.mem_cons, List.not_mem_nil, or_false] at hC
      rcases hC with rfl | rfl | rfl <;> exact row_nil _ _ _
    · obtain ⟨i, _, rfl⟩ := List.mem_map.1 hC
      exact row_nil _ _ _)
  rw [List.append_assoc] at h9
  have e : grow b vn (.slice (some ⟨gL, 0, none⟩) n cL) (.slice (some ⟨gV, 0, none⟩) n cV) (.slice (some ⟨gT, 0, none⟩) n cT) (.slice (some ⟨gF, 0, none⟩) n cF) room n n n n ++ ([rowW TPk 3 (.slice none 0 0) 0 [], rowW TRi 2 (.slice none 0 0) 0 [], rowW TI 2 (.slice none 0 0) 0 []] ++ (List.range n).map (lrow u0 r0)) = rcomps vn ⟨b, gL, gV, gT, gF, cL, cV, cT, cF⟩ u0 n room r0 := by
    unfold rcomps grow nrow
    rw [map_rep u0.VL (.slice none 0 0) (fun _ => rfl), map_rep (fun i => Value.int .u64 (r0.Vi i : Nat)) (.int .u64 0) (fun _ => rfl), map_rep (fun i => Value.int .u64 (r0.Tg i : Nat)) (.int .u64 0) (fun _ => rfl), map_rep (fun i => Value.int .u64 (r0.Fr i : Nat)) (.int .u64 0) (fun _ => rfl)]
    rfl
  rw [e] at h9
  exact h9
theorem g_forms {w0 w : World} (Q : List Comp) {b kL kV kT kF : Nat} {vn vL vV vT vF : Value} {room : Int} (h : Made w0 w (Q ++ grow b vn vL vV vT vF room kL kV kT kF)) :
    Blk w b (gtop vn vL vV vT vF room) TT ∧ (w.ownsRow 0 TLs 1 vL kL (List.replicate kL (.slice none 0 0)) ∧ vL.ownBlock ≠ some b) ∧ (w.ownsRow 0 TU 1 vV kV (List.replicate kV (.int .u64 0)) ∧ vV.ownBlock ≠ some b) ∧ (w.ownsRow 0 TU 1 vT kT (List.replicate kT (.int .u64 0)) ∧ vT.ownBlock ≠ some b) ∧ (w.ownsRow 0 TU 1 vF kF (List.replicate kF (.int .u64 0)) ∧ vF.ownBlock ≠ some b) := by
  obtain ⟨a1, a2, a3⟩ := g_row Q [] _ h
  obtain ⟨b1, b2, _⟩ := g_row Q [_] _ h
  obtain ⟨c1, c2, _⟩ := g_row Q [_, _] _ h
  obtain ⟨d1, d2, _⟩ := g_row Q [_, _, _] [] h
  exact ⟨a3, ⟨a1, a2⟩, ⟨b1, b2⟩, ⟨c1, c2⟩, ⟨d1, d2⟩⟩
theorem g_pushL (Q : List Comp) {w0 w w1 w' : World} {b kL kV kT kF : Nat} {vn vL vV vT vF v' : Value} {room : Int} (h : Made w0 w (Q ++ grow b vn vL vV vT vF room kL kV kT kF)) (hx : Upd Nowhere w w1) (ho : w'.ownsRow 0 TLs 1 v' (kL + 1) (List.replicate kL (.slice none 0 0) ++ [(.slice none 0 0)])) (hu : Upd (fun k => vL.ownBlock = some k) w1 w') (hn : OwnOrNew w1 vL v') :
    Made w0 (w'.setCell ⟨b, 1, none⟩ v') (Q ++ grow b vn v' vV vT vF room (kL + 1) kV kT kF) := by
  have h9 := m_grow Q [] _ h hx ho hu hn 1
  rw [rep_succ] at h9
  exact h9
theorem g_pushV (Q : List Comp) {w0 w w1 w' : World} {b kL kV kT kF : Nat} {vn vL vV vT vF v' : Value} {room : Int} (h : Made w0 w (Q ++ grow b vn vL vV vT vF room kL kV kT kF)) (hx : Upd Nowhere w w1) (ho : w'.ownsRow 0 TU 1 v' (kV + 1) (List.replicate kV (.int .u64 0) ++ [(.int .u64 0)])) (hu : Upd (fun k => vV.ownBlock = some k) w1 w') (hn : OwnOrNew w1 vV v') :
    Made w0 (w'.setCell ⟨b, 2, none⟩ v') (Q ++ grow b vn vL v' vT vF room kL (kV + 1) kT kF) := by
  have h9 := m_grow Q [_] _ h hx ho hu hn 2
  rw [rep_succ] at h9
  exact h9
theorem g_pushT (Q : List Comp) {w0 w w1 w' : World} {b kL kV kT kF : Nat} {vn vL vV vT vF v' : Value} {room : Int} (h : Made w0 w (Q ++ grow b vn vL vV vT vF room kL kV kT kF)) (hx : Upd Nowhere w w1) (ho : w'.ownsRow 0 TU 1 v' (kT + 1) (List.replicate kT (.int .u64 0) ++ [(.int .u64 0)])) (hu : Upd (fun k => vT.ownBlock = some k) w1 w') (hn : OwnOrNew w1 vT v') :
    Made w0 (w'.setCell ⟨b, 3, none⟩ v') (Q ++ grow b vn vL vV v' vF room kL kV (kT + 1) kF) := by
  have h9 := m_grow Q [_, _] _ h hx ho hu hn 3
  rw [rep_succ] at h9
  exact h9
theorem g_pushF (Q : List Comp) {w0 w w1 w' : World} {b kL kV kT kF : Nat} {vn vL vV vT vF v' : Value} {room : Int} (h : Made w0 w (Q ++ grow b vn vL vV vT vF room kL kV kT kF)) (hx : Upd Nowhere w w1) (ho : w'.ownsRow 0 TU 1 v' (kF + 1) (List.replicate kF (.int .u64 0) ++ [(.int .u64 0)])) (hu : Upd (fun k => vF.ownBlock = some k) w1 w') (hn : OwnOrNew w1 vF v') :
    Made w0 (w'.setCell ⟨b, 4, none⟩ v') (Q ++ grow b vn vL vV vT v' room kL kV kT (kF + 1)) := by
  have h9 := m_grow Q [_, _, _] _ h hx ho hu hn 4
  rw [rep_succ] at h9
  exact h9
theorem rnew_any {w0 : World} (ad : Option Addr) (cp n : Nat) (room : Int) (h0 : 0 < n) (h32 : n ≤ 32) {w : World} (Q : List Comp) (hm : Made w0 w Q) :
    Calls Tryd.prog 22 #[.slice ad n cp, .int .i64 room] w fun e w' => ∃ Y : RLay, e = .returned (.pointer (some ⟨Y.b, 0, none⟩)) ∧ Made w0 w' (Q ++ rcomps (.slice ad n cp) Y u0 n room r0) := by
  obtain ⟨iL, hiL, hzL0, hzL1, hzL2⟩ := info_parts infoLs
  obtain ⟨iU, hiU, hzU0, hzU1, hzU2⟩ := info_parts infoU
  have HM := Lib.hid hm
  clear hm
  go_enter Tryd.func22, Tryd.ntmps22
  go_upto_region 2 with fail
  obtain ⟨BB, hBB⟩ : ∃ x, w.heap.size = x := ⟨_, rfl⟩
  have hM1 := m_blk' HM.out (gtop (.slice ad n cp) (.slice none 0 0) (.slice none 0 0) (.slice none 0 0) (.slice none 0 0) room) TT
  rw [hBB] at hM1
  have hM2 := Made.more_nil (hM1.perm (l' := Q ++ [blkC BB (gtop (.slice ad n cp) (.slice none 0 0) (.slice none 0 0) (.slice none 0 0) (.slice none 0 0) room) TT]) (List.perm_append_comm (l₁ := [_]) (l₂ := Q))) (l' := [rowW TLs 1 (.slice none 0 0) 0 [], rowW TU 1 (.slice none 0 0) 0 [], rowW TU 1 (.slice none 0 0) 0 [], rowW TU 1 (.slice none 0 0) 0 []]) (fun C hC => by
    simp only [List.mem_cons, List.not_mem_nil, or_false] at hC
    rcases hC with rfl | rfl | rfl | rfl <;> exact row_nil _ _ _)
  rw [List.append_assoc] at hM2
  have HM2 : Hid (Made w0 _ (Q ++ grow BB (.slice ad n cp) (.slice none 0 0) (.slice none 0 0) (.slice none 0 0) (.slice none 0 0) room 0 0 0 0)) := Lib.hid hM2
  clear hM1 hM2 HM
  try simp only [hBB]
  clear hBB
  change Code.wp _ _ _ _ (w.alloc (.cells (gtop (.slice ad n cp) (.slice none 0 0) (.slice none 0 0) (.slice none 0 0) (.slice none 0 0) room) TT))
  generalize w.alloc (.cells (gtop (.slice ad n cp) (.slice none 0 0) (.slice none 0 0) (.slice none 0 0) (.slice none 0 0) room) TT) = w1 at *
  go_wp2_with fail
  go_loopw [6] (fun iv wr => ∃ (k : Nat) (vL vV vT vF : Value), iv = .int .i64 k ∧ k ≤ n ∧ Made w0 wr (Q ++ grow BB (.slice ad n cp) vL vV vT vF room k k k k)) (fun iv _ => n - (intOf iv).toNat)
  case atStart => exact ⟨0, _, _, _, _, rfl, Nat.zero_le _, HM2.out⟩
  case round =>
    obtain ⟨k, vL, vV, vT, vF, rfl, hk, hM⟩ := hrel
    obtain ⟨w2, rfl⟩ : ∃ x, x = wr := ⟨_, rfl⟩
    clear HM2
    by_cases hlt : k < n
    · have hI : (k : Int) < (n : Int) := by omega
      have HM3 := Lib.hid hM
      clear hM
      obtain ⟨hB, ⟨ho, hne⟩, -⟩ := g_forms Q HM3.out
      obtain ⟨aL, cL, rfl⟩ := own_form ho
      have dL : w2.cell? ⟨BB, 1, none⟩ = some (.slice aL k cL) := hB.cellAt rfl
      have zL := hB.free 1
      have HO := Lib.hid ho
      have HNE := Lib.hid hne
      clear hB ho hne
      go_upto_region 6 with (at_builtin; refine wpList_push rfl _ _ 62 rfl 0 TLs iL (.slice none 0 0) 1 24 Tryd.underlying62 hiL hzL0 hzL1 hzL2 rfl (by decide) (by decide) (.slice aL k cL) k (List.replicate k (.slice none 0 0)) rfl (ownsRow_upd HO.out ((Upd.refl Nowhere w2).alloc _) (fun _ _ h => h)) w2.heap.size 1 [.slice none 0 0] rfl rfl (new_cells w2 #[.slice none 0 0] _) (by simp [Value.oneCell']) (by omega) (Nat.zero_le _) ?_; intro v9 w3 ho9 hu9 hn9; have HF := Lib.hid (g_pushL Q HM3.out ((Upd.refl Nowhere w2).alloc _) ho9 hu9 hn9); obtain ⟨y9, f9⟩ := cell_off ((Upd.refl Nowhere w2).alloc _) hu9 HNE.out dL zL; obtain ⟨a9, c9, rfl⟩ := own_form ho9; clear ho9 hu9 hn9)
      clear dL zL y9 f9 HO HNE
      generalize w3.setCell ⟨BB, 1, none⟩ (.slice a9 (k + 1) c9) = w4 at *
      have HM4 := Lib.hid HF.out
      clear HF HM3
      obtain ⟨hB, -, ⟨ho, hne⟩, -⟩ := g_forms Q HM4.out
      obtain ⟨aV, cV, rfl⟩ := own_form ho
      have dV : w4.cell? ⟨BB, 2, none⟩ = some (.slice aV k cV) := hB.cellAt rfl
      have zV := hB.free 2
      have HO := Lib.hid ho
      have HNE := Lib.hid hne
      clear hB ho hne
      go_upto_region 7 with (at_builtin; refine wpList_push rfl _ _ 33 rfl 0 TU iU (.int .u64 0) 1 8 Tryd.underlying33 hiU hzU0 hzU1 hzU2 rfl (by decide) (by decide) (.slice aV k cV) k (List.replicate k (.int .u64 0)) rfl (ownsRow_upd HO.out ((Upd.refl Nowhere w4).alloc _) (fun _ _ h => h)) w4.heap.size 1 [.int .u64 0] rfl rfl (new_cells w4 #[.int .u64 0] _) (by simp [Value.oneCell']) (by omega) (Nat.zero_le _) ?_; intro v9 w5 ho9 hu9 hn9; have HF := Lib.hid (g_pushV Q HM4.out ((Upd.refl Nowhere w4).alloc _) ho9 hu9 hn9); obtain ⟨y9, f9⟩ := cell_off ((Upd.refl Nowhere w4).alloc _) hu9 HNE.out dV zV; obtain ⟨a9, c9, rfl⟩ := own_form ho9; clear ho9 hu9 hn9)
      clear dV zV y9 f9 HO HNE
      generalize w5.setCell ⟨BB, 2, none⟩ (.slice a9 (k + 1) c9) = w6 at *
      have HM5 := Lib.hid HF.out
      clear HF HM4
      obtain ⟨hB, -, -, ⟨ho, hne⟩, -⟩ := g_forms Q HM5.out
      obtain ⟨aT, cT, rfl⟩ := own_form ho
      have dT : w6.cell? ⟨BB, 3, none⟩ = some (.slice aT k cT) := hB.cellAt rfl
      have zT := hB.free 3
      have HO := Lib.hid ho
      have HNE := Lib.hid hne
      clear hB ho hne
      go_upto_region 8 with (at_builtin; refine wpList_push rfl _ _ 33 rfl 0 TU iU (.int .u64 0) 1 8 Tryd.underlying33 hiU hzU0 hzU1 hzU2 rfl (by decide) (by decide) (.slice aT k cT) k (List.replicate k (.int .u64 0)) rfl (ownsRow_upd HO.out ((Upd.refl Nowhere w6).alloc _) (fun _ _ h => h)) w6.heap.size 1 [.int .u64 0] rfl rfl (new_cells w6 #[.int .u64 0] _) (by simp [Value.oneCell']) (by omega) (Nat.zero_le _) ?_; intro v9 w7 ho9 hu9 hn9; have HF := Lib.hid (g_pushT Q HM5.out ((Upd.refl Nowhere w6).alloc _) ho9 hu9 hn9); obtain ⟨y9, f9⟩ := cell_off ((Upd.refl Nowhere w6).alloc _) hu9 HNE.out dT zT; obtain ⟨a9, c9, rfl⟩ := own_form ho9; clear ho9 hu9 hn9)
      clear dT zT y9 f9 HO HNE
      generalize w7.setCell ⟨BB, 3, none⟩ (.slice a9 (k + 1) c9) = w8 at *
      have HM6 := Lib.hid HF.out
      clear HF HM5
      obtain ⟨hB, -, -, -, ho, hne⟩ := g_forms Q HM6.out
      obtain ⟨aF, cF, rfl⟩ := own_form ho
      have dF : w8.cell? ⟨BB, 4, none⟩ = some (.slice aF k cF) := hB.cellAt rfl
      have zF := hB.free 4
      have HO := Lib.hid ho
      have HNE := Lib.hid hne
      clear hB ho hne
      go_upto_region 4 with (at_builtin; refine wpList_push rfl _ _ 33 rfl 0 TU iU (.int .u64 0) 1 8 Tryd.underlying33 hiU hzU0 hzU1 hzU2 rfl (by decide) (by decide) (.slice aF k cF) k (List.replicate k (.int .u64 0)) rfl (ownsRow_upd HO.out ((Upd.refl Nowhere w8).alloc _) (fun _ _ h => h)) w8.heap.size 1 [.int .u64 0] rfl rfl (new_cells w8 #[.int .u64 0] _) (by simp [Value.oneCell']) (by omega) (Nat.zero_le _) ?_; intro v9 w9 ho9 hu9 hn9; have HF := Lib.hid (g_pushF Q HM6.out ((Upd.refl Nowhere w8).alloc _) ho9 hu9 hn9); obtain ⟨y9, f9⟩ := cell_off ((Upd.refl Nowhere w8).alloc _) hu9 HNE.out dF zF; obtain ⟨a9, c9, rfl⟩ := own_form ho9; clear ho9 hu9 hn9)
      clear dF zF y9 f9 HO HNE
      generalize w9.setCell ⟨BB, 4, none⟩ (.slice a9 (k + 1) c9) = w10 at *
      have HM7 := Lib.hid HF.out
      clear HF HM6
      go_wp2_with fail
      go_roundw
      case rel => exact ⟨k + 1, _, _, _, _, by first | rfl | go_num, by omega, HM7.out⟩
      case measure => simp [intOf]; omega
    · obtain rfl : k = n := by omega
      have hI : ¬ (k : Int) < k := by omega
      obtain ⟨Y, hY, hM9⟩ := g_done Q h0 hM
      have HM9 := Lib.hid hM9
      have HY := Lib.hid hY
      clear hM hM9 hY
      go_wp2_with fail
      go_ret
      exact ⟨Y, by rw [HY.out]; rfl, HM9.out⟩
end Go.Proofs.YtllfloapiliheaaDoor.R30
namespace Go.Proofs.YtllfloapiliheaaDoor.R30
open Go.RowKit Go.Proofs BigFrame
open Tree (Nd NodesAt okN okL okL_drop)
set_option maxHeartbeats 4000000
set_option maxRecDepth 1000000
/-- What Check tells. -/
def chk (l : List Nd) (room : Int) : Nat := if l.length = 0 ∨ 32 < l.length then 29 else if okL 0 l = false then 6 else if room < 1 ∨ 4096 < room then 25 else 0
theorem chk_len (ad : Option Addr) (c n : Nat) (room : Int) (h : n = 0 ∨ 32 < n) (w : World) : Calls Tryd.prog 21 #[.slice ad n c, .int .i64 room] w fun e w' => e = .returned (.int .i64 29) ∧ Upd Nowhere w w' := by
  rcases h with rfl | h
  · go_enter Tryd.func21, Tryd.ntmps21
    go_wp2_with fail
    go_ret
    exact ⟨rfl, Upd.refl _ _⟩
  · have t1 : decide ((n : Int) < 1) = false := decide_eq_false (by omega)
    have t1' : decide (n < 1) = false := decide_eq_false (by omega)
    have t2 : decide ((n : Int) > 32) = true := decide_eq_true (by omega)
    have t3 : decide (32 < n) = true := decide_eq_true h
    go_enter Tryd.func21, Tryd.ntmps21
    go_wp2_with fail
    go_ret
    exact ⟨rfl, Upd.refl _ _⟩
theorem chk_in (ad : Option Addr) (c : Nat) (l : List Nd) (room : Int) (w : World) (h : NodesAt w ad l) (h0 : 0 < l.length) (h1 : l.length ≤ 32) : Calls Tryd.prog 21 #[.slice ad l.length c, .int .i64 room] w fun e w' => e = .returned (.int .i64 ((if okL 0 l = false then 6 else if room < 1 ∨ 4096 < room then 25 else 0 : Nat) : Int)) ∧ Upd Nowhere w w' := by
  obtain ⟨n, hn⟩ : ∃ n, l.length = n := ⟨_, rfl⟩
  obtain ⟨r, hr⟩ : ∃ r : Nat, (if okL 0 l = false then 6 else if room < 1 ∨ 4096 < room then 25 else 0) = r := ⟨_, rfl⟩
  rw [hr]
  rw [hn] at h0 h1 ⊢
  have t1 : decide ((n : Int) < 1) = false := decide_eq_false (by omega)
  have t1' : decide (n < 1) = false := decide_eq_false (by omega)
  have t2 : decide ((n : Int) > 32) = false := decide_eq_false (by omega)
  have t3 : decide (32 < n) = false := decide_eq_false (by omega)
  have H := Lib.hid h
  have HN := Lib.hid hn
  have HR : Hid ((if okL 0 (l.drop 0) = false then 6 else if room < 1 ∨ 4096 < room then 25 else 0) = r) := Lib.hid hr
  clear h hn hr
  go_enter Tryd.func21, Tryd.ntmps21
  go_wp2_with fail
  go_loopw [5] (fun i wr => ∃ k : Nat, i = .int .i64 k ∧ k ≤ n ∧ Hid ((if okL k (l.drop k) = false then 6 else if room < 1 ∨ 4096 < room then 25 else 0) = r) ∧ Upd Nowhere w wr) (fun i _ => n - (intOf i).toNat)
  case atStart => exact ⟨0, rfl, Nat.zero_le _, HR, Upd.refl _ _⟩
  case round =>
    clear HR
    obtain ⟨k, rfl, hk, hrk, hu⟩ := hrel
    obtain ⟨wB, rfl⟩ : ∃ x, x = wr := ⟨_, rfl⟩
    have HU := Lib.hid hu
    by_cases hlt : k < n
    · have hI : (k : Int) < n := by omega
      obtain ⟨a, ha⟩ : ∃ a, l[k]? = some a := ⟨l[k]'(by rw [HN.out]; exact hlt), by simp⟩
      obtain ⟨g, o, rfl, g0, g1, g2, g3⟩ : ∃ g o, ad = some ⟨g, o, none⟩ ∧ wB.cell? ⟨g, o + k * 4, none⟩ = some (.int .i64 a.par) ∧ wB.cell? ⟨g, o + k * 4 + 1, none⟩ = some (.int .i64 a.kind) ∧ wB.cell? ⟨g, o + k * 4 + 2, none⟩ = some (.int .u64 a.wt) ∧ wB.cell? ⟨g, o + k * 4 + 3, none⟩ = some (.int .u64 a.gap) := by
        cases ad with
        | none => have := H.out.none rfl; rw [HN.out] at this; omega
        | some b =>
          obtain ⟨hs, hc⟩ := H.out.at_ b rfl (by rw [HN.out]; omega)
          obtain ⟨g, o, sp⟩ := b
          simp only at hs
          subst hs
          obtain ⟨q0, q1, q2, q3⟩ := hc k a ha
          exact ⟨g, o, rfl, cell_old hu q0, cell_old hu q1, cell_old hu q2, cell_old hu q3⟩
      have g1' : wB.cell? ⟨g, o + (k * 4 + 1), none⟩ = some (.int .i64 a.kind) := by rw [← Nat.add_assoc]; exact g1
      have g2' : wB.cell? ⟨g, o + (k * 4 + 2), none⟩ = some (.int .u64 a.wt) := by rw [← Nat.add_assoc]; exact g2
      have g3' : wB.cell? ⟨g, o + (k * 4 + 3), none⟩ = some (.int .u64 a.gap) := by rw [← Nat.add_assoc]; exact g3
      have hrk2 := hrk.out
      rw [okL_drop ha] at hrk2
      obtain ⟨ap, ak, aw, ag⟩ := a
      have HRK := Lib.hid hrk2
      simp only at g0 g1 g2 g3 g1' g2' g3'
      clear hrk hrk2 ha hu
      by_cases hok : okN k ⟨ap, ak, aw, ag⟩ = true
      · have h9 := of_decide_eq_true hok
        simp only at h9
        have d1 : decide (ak < 1) = false := decide_eq_false (by omega)
        have d2 : decide (ak > 3) = false := decide_eq_false (by omega)
        have d2' : decide (3 < ak) = false := decide_eq_false (by omega)
        have d3 : decide (ap < 0) = false := decide_eq_false (by omega)
        have HOK := Lib.hid hok
        rcases Nat.eq_zero_or_pos k with hk0 | hk0
        · have q1 : ((k : Int) == 0) = true := by simp; omega
          have q2 : (ap != 0) = false := by simp; omega
          have q3 : decide ((k : Int) > 0) = false := decide_eq_false (by omega)
          have q4 : decide (0 < k) = false := decide_eq_false (by omega)
          clear hok h9 hk0
          go_wp2_with fail
          go_roundw
          case rel => exact ⟨k + 1, by first | rfl | go_num, by omega, Lib.hid (by have := HRK.out; rw [HOK.out, Bool.true_and] at this; exact this), HU.out.alloc _⟩
          case measure => simp [intOf]; omega
        · have q1 : ((k : Int) == 0) = false := by simp; omega
          have q3 : decide ((k : Int) > 0) = true := decide_eq_true (by omega)
          have q4 : decide (0 < k) = true := decide_eq_true (by omega)
          have q5 : decide (ap ≥ (k : Int)) = false := decide_eq_false (by omega)
          have q6 : decide ((k : Int) ≤ ap) = false := decide_eq_false (by omega)
          clear hok h9 hk0
          go_wp2_with fail
          go_roundw
          case rel => exact ⟨k + 1, by first | rfl | go_num, by omega, Lib.hid (by have := HRK.out; rw [HOK.out, Bool.true_and] at this; exact this), HU.out.alloc _⟩
          case measure => simp [intOf]; omega
      · have hr6 : r = 6 := by
          have := HRK.out
          rw [Bool.eq_false_iff.mpr hok, Bool.false_and] at this
          rw [← this]; rfl
        subst hr6
        have h9 : ak < 1 ∨ 1 ≤ ak ∧ 3 < ak ∨ 1 ≤ ak ∧ ak ≤ 3 ∧ ap < 0 ∨ 1 ≤ ak ∧ ak ≤ 3 ∧ 0 ≤ ap ∧ k = 0 ∧ ap ≠ 0 ∨ 1 ≤ ak ∧ ak ≤ 3 ∧ 0 ≤ ap ∧ 0 < k ∧ (k : Int) ≤ ap := by
          have h8 := of_decide_eq_false (Bool.eq_false_iff.mpr hok)
          simp only at h8
          omega
        clear hok HRK
        rcases h9 with h9 | ⟨p1, h9⟩ | ⟨p1, p2, h9⟩ | ⟨p1, p2, p3, p4, h9⟩ | ⟨p1, p2, p3, p4, h9⟩
        · have d1 : decide (ak < 1) = true := decide_eq_true h9
          go_wp2_with fail
          go_ret
          exact ⟨rfl, HU.out.alloc _⟩
        · have d1 : decide (ak < 1) = false := decide_eq_false (by omega)
          have d2 : decide (ak > 3) = true := decide_eq_true h9
          have d3 : decide (3 < ak) = true := decide_eq_true h9
          go_wp2_with fail
          go_ret
          exact ⟨rfl, HU.out.alloc _⟩
        · have d1 : decide (ak < 1) = false := decide_eq_false (by omega)
          have d2 : decide (ak > 3) = false := decide_eq_false (by omega)
          have d2' : decide (3 < ak) = false := decide_eq_false (by omega)
          have d3 : decide (ap < 0) = true := decide_eq_true h9
          go_wp2_with fail
          go_ret
          exact ⟨rfl, HU.out.alloc _⟩
        · have d1 : decide (ak < 1) = false := decide_eq_false (by omega)
          have d2 : decide (ak > 3) = false := decide_eq_false (by omega)
          have d2' : decide (3 < ak) = false := decide_eq_false (by omega)
          have d3 : decide (ap < 0) = false := decide_eq_false (by omega)
          have q1 : ((k : Int) == 0) = true := by simp; omega
          have q2 : (ap != 0) = true := by simp; omega
          clear p4 h9
          go_wp2_with fail
          go_ret
          exact ⟨rfl, HU.out.alloc _⟩
        · have d1 : decide (ak < 1) = false := decide_eq_false (by omega)
          have d2 : decide (ak > 3) = false := decide_eq_false (by omega)
          have d2' : decide (3 < ak) = false := decide_eq_false (by omega)
          have d3 : decide (ap < 0) = false := decide_eq_false (by omega)
          have q1 : ((k : Int) == 0) = false := by simp; omega
          have q3 : decide ((k : Int) > 0) = true := decide_eq_true (by omega)
          have q4 : decide (0 < k) = true := decide_eq_true (by omega)
          have q5 : decide (ap ≥ (k : Int)) = true := decide_eq_true (by omega)
          have q6 : decide ((k : Int) ≤ ap) = true := decide_eq_true (by omega)
          clear p4 h9
          go_wp2_with fail
          go_ret
          exact ⟨rfl, HU.out.alloc _⟩
    · obtain rfl : k = n := by omega
      have hI : ¬ (k : Int) < k := by omega
      have e9 := hrk.out
      rw [List.drop_eq_nil_of_le (by rw [HN.out]; exact Nat.le_refl _)] at e9
      change (if room < 1 ∨ 4096 < room then 25 else 0) = r at e9
      have HE := Lib.hid e9
      clear hu e9 hrk
      by_cases hrm : room < 1 ∨ 4096 < room
      · have e8 : r = 25 := by rw [← HE.out, if_pos hrm]
        subst e8
        rcases Classical.em (room < 1) with hr1 | hr1
        · have q1 : decide (room < 1) = true := decide_eq_true hr1
          clear hrm hr1 HE
          go_wp2_with fail
          go_ret
          exact ⟨rfl, HU.out⟩
        · have q1 : decide (room < 1) = false := decide_eq_false hr1
          have q2 : decide (room > 4096) = true := decide_eq_true (by omega)
          have q3 : decide (4096 < room) = true := decide_eq_true (by omega)
          clear hrm hr1 HE
          go_wp2_with fail
          go_ret
          exact ⟨rfl, HU.out⟩
      · have e8 : r = 0 := by rw [← HE.out, if_neg hrm]
        subst e8
        have q1 : decide (room < 1) = false := decide_eq_false (by omega)
        have q2 : decide (room > 4096) = false := decide_eq_false (by omega)
        have q3 : decide (4096 < room) = false := decide_eq_false (by omega)
        clear hrm HE
        go_wp2_with fail
        go_ret
        exact ⟨rfl, HU.out⟩
theorem chk_any (ad : Option Addr) (c : Nat) (l : List Nd) (room : Int) (w : World) (h : NodesAt w ad l) : Calls Tryd.prog 21 #[.slice ad l.length c, .int .i64 room] w fun e w' => e = .returned (.int .i64 (chk l room : Nat)) ∧ Upd Nowhere w w' := by
  unfold chk
  by_cases hl : l.length = 0 ∨ 32 < l.length
  · rw [if_pos hl]
    exact chk_len ad c l.length room hl w
  · rw [if_neg hl]
    exact chk_in ad c l room w h (by omega) (by omega)
end Go.Proofs.YtllfloapiliheaaDoor.R30
