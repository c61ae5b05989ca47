/- Ah1, one behind the other. -/
import Derived.Test.YtpgpjjkeginbbaaGreatDoorMtTl
import Derived.Test.YtpgpjjkeginbbaaGreatDoorMtEa4
namespace Go.Proofs.YtpgpjjkeginbbaaGreatDoor.Ah
open Ea (Eg OkE nxt bsy)
open Tree (TS FlatSh push pop)
set_option linter.unusedSimpArgs false
/-- What an egress's classes have. -/
def qs (E : Eg) : List Ek := E.q.map (fun x => x.2.2)
section
variable {n c : Nat} {sh : Tree.Sh} {s : TS} {W : List Nat} {E : Eg}
theorem qs_at {i k b : Nat} {e : Ek} (h : E.q[i]? = some (k, b, e)) : (qs E)[i]? = some e := by
 unfold qs
 rw [List.getElem?_map, h]; rfl
theorem st_push (hf : FlatSh sh 2 (List.range n) 0) (h : Ah n sh s (qs E) W) (hE : OkE E c) (hm : s.m ≤ c) (hc : c ≤ 300) {i k b : Nat} {e : Ek} (hx : E.q[i]? = some (k, b, e)) (id len : Nat) (h1 : 1 ≤ len) (h2 : len ≤ 65535) :
 ∃ s' W', push sh 4096 s 0 ((i + 1 : Nat) : Int) (i, id, len) = (0, s') ∧ Ah n sh s' (qs { E with q := E.q.set i (k, b, kin e E.now (i, id, len)) }) W' ∧ OkE { E with q := E.q.set i (k, b, kin e E.now (i, id, len)) } (c + 1) ∧ s'.m ≤ c + 1 ∧ e.l.length < 4096 := by
 have hq := qs_at hx
 obtain ⟨s', W', a1, a2, a3⟩ := ah_push hf h (by omega) hq E.now id len h1 h2
 obtain ⟨b1, b2, b3, b4⟩ := hE.q _ (List.mem_of_getElem? hx)
 refine ⟨s', W', a1, ?_, ?_, by omega, ?_⟩
 · unfold qs at a2 ⊢
   dsimp only
   rw [List.map_set]
   exact a2
 · refine OkE.set i k b hE (by unfold kin; dsimp only; dsimp only at b1; omega) (by unfold kin; dsimp only; dsimp only at b2; omega) (by unfold kin; dsimp only; omega) (fun a ha => ?_) E.now E.busy hE.now hE.busy
   unfold kin at ha
   rcases List.mem_append.1 ha with ha | ha
   · exact b4 a ha
   · rw [List.mem_singleton] at ha
     rw [ha]
     exact h2
 · have := le_sum (h.w hq)
   have := h.m
   omega
theorem st_bad (hf : FlatSh sh 2 (List.range n) 0) (h : Ah n sh s (qs E) W) {i : Nat} (hi : i < n) (id len : Nat) (hl : len = 0 ∨ 65535 < len) : push sh 4096 s 0 ((i + 1 : Nat) : Int) (i, id, len) = (12, s) := ah_bad hf h hi i id len hl
theorem bsy_le (E : Eg) (len : Nat) : bsy E len ≤ 18446744073709551615 := by unfold bsy; exact Nat.min_le_right _ _
/-- What Next hands back is what the tree's Pop hands back. -/
theorem st_pop (hs : sh.Ok) (hf : FlatSh sh 2 (List.range n) 0) (hg : Tree.Good sh 4096 s) (h : Ah n sh s (qs E) W) (hE : OkE E c) (hm : s.m ≤ c) {a : Nat} {r : Nat × (Nat × Nat × Nat) × Nat} {E' : Eg} (hn : nxt E a r E') :
 ∃ p0 p1 p2 v i s' W', r = (i, (p0, p1, p2), v) ∧ pop sh s 0 = ((p0, p1, p2), v, s') ∧ (v = 0 ∧ i = p0 ∧ i < n ∨ v = 18 ∧ i = 0 ∧ p0 = 0 ∧ p1 = 0 ∧ p2 = 0) ∧ Ah n sh s' (qs E') W' ∧ OkE E' (c + 1) ∧ s'.m ≤ c + 1 := by
 rcases hn with ⟨h1, _, rfl, rfl⟩ | ⟨i, k, b, e, x, t, hx, hl, hfst, _, rfl, rfl⟩
 · refine ⟨0, 0, 0, 18, 0, s, W, rfl, ?_, .inr ⟨rfl, rfl, rfl, rfl, rfl⟩, h, OkE.more hE E'.now hE.now, by omega⟩
   refine ah_none h (fun k hk => ?_)
   unfold qs at hk
   obtain ⟨y, hy, rfl⟩ := List.mem_map.1 hk
   exact h1 y hy
 · have hq := qs_at hx
   obtain ⟨x0, x1, x2, x3, x4⟩ := x
   obtain ⟨e1, s', W', a1, a2, a3⟩ := ah_pop hs hf hg h hq hl (fun j k' hj hk' => by
    unfold qs at hk'
    rw [List.getElem?_map, Option.map_eq_some_iff] at hk'
    obtain ⟨y, hy, rfl⟩ := hk'
    exact hfst j y hj hy)
   obtain ⟨b1, b2, b3, b4⟩ := hE.q _ (List.mem_of_getElem? hx)
   have hin : i < n := by
    have := Ea.lt_of_at hq
    rw [h.len] at this
    exact this
   refine ⟨x0, x1, x2, 0, i, s', W', rfl, a1, .inl ⟨rfl, e1.symm, hin⟩, ?_, ?_, by omega⟩
   · unfold qs at a2 ⊢
     dsimp only
     rw [List.map_set]
     exact a2
   · refine OkE.set i k b hE (by unfold kout; dsimp only; dsimp only at b1; omega) (by unfold kout; dsimp only; dsimp only at b2; omega) (by unfold kout; dsimp only; omega) (fun a ha => ?_) E.now _ hE.now (bsy_le _ _)
     refine b4 a ?_
     dsimp only
     rw [hl]
     exact List.mem_cons_of_mem _ ha
end
theorem e0_ok {vc : Value} {pace n : Nat} {Q : List (Nat × Nat × Ek)} (h1 : 1 ≤ n) (h2 : n ≤ 8) (hp1 : 1 ≤ pace) (hp2 : pace ≤ 65536) (hQ : Q.map (fun x => x.2.2) = List.replicate n k0) : OkE ⟨vc, pace, 0, 0, Q⟩ 0 := by
 have hl : Q.length = n := by
  have := congrArg List.length hQ
  simpa using this
 refine ⟨hp1, hp2, Nat.zero_le _, Nat.zero_le _, by show 1 ≤ Q.length; omega, by show Q.length ≤ 8; omega, fun x hx => ?_⟩
 have hm : x.2.2 ∈ Q.map (fun x => x.2.2) := List.mem_map_of_mem hx
 rw [hQ] at hm
 rw [(List.mem_replicate.1 hm).2]
 exact ⟨Nat.le_refl _, Nat.le_refl _, Nat.zero_le _, fun a ha => by cases ha⟩
end Go.Proofs.YtpgpjjkeginbbaaGreatDoor.Ah

