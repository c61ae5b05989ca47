/- wheel: lay. -/
import Derived.Test.YtjbaibnmbeabnaaDoorWheelTake
import Derived.Deep.RegionLaw
namespace Go.Proofs.YtjbaibnmbeabnaaDoor.Wheel
open Go.RowKit Go.Proofs BigFrame Heap
set_option maxHeartbeats 4000000
set_option maxRecDepth 1000000
abbrev Z : Value := .agg #[.int .u64 0, .int .u64 0, Value.int .i64 0]
theorem infoE : (Tryd.prog.info? TE).map (fun i => (i.zero, i.size, i.bytes)) = some (some Z, 3, 24) := by kernel_rfl
/-- An entry, as a value. -/
abbrev V (e : En) : Value := .agg #[.int .u64 (e.1 : Nat), .int .u64 (e.2.1 : Nat), .int .i64 e.2.2]
theorem form6 {w : World} {v : Value} {n : Nat} {xs : List Value} (h : w.ownsRow 0 TE 3 v (n + 1) xs) : ∃ g c, v = .slice (some ⟨g, 0, none⟩) (n + 1) c := by
  rcases h.2 with ⟨_, h0⟩ | ⟨g, c, cur, rfl, _⟩
  · omega
  · exact ⟨g, c, rfl⟩
theorem form0 {w : World} {v : Value} {n : Nat} {xs : List Value} (h : w.ownsRow 0 TE 3 v n xs) : ∃ ad c, v = .slice ad n c := by
  rcases h.2 with ⟨rfl, h0⟩ | ⟨g, c, cur, rfl, _⟩
  · exact ⟨none, 0, by rw [h0]⟩
  · exact ⟨_, c, rfl⟩
/-- What stands once an entry was laid behind the others, ahead of the store. -/
structure Laid (A : Nat → Prop) (w0 w1 w6 : World) (b o now came room n : Nat) (vs : Nat → Value) (v6 : Value) (qs : Nat → List En) (us : Nat → Nat) (e : En) : Prop where
  next : ∀ w7, Upd Nowhere w6 w7 → WIn TW TE A w0 (w7.setCell ⟨b, o, none⟩ v6) b now came room n (put vs o v6) (put qs o (qs o ++ [e])) us
  upd : Upd (fun k => w0.heap.size ≤ k ∧ ¬ A k) w1 w6
  cell : w6.cell? ⟨b, o, none⟩ = some (vs o)
  free : w6.frozen? ⟨b, o, none⟩ = false
theorem lay_facts {A : Nat → Prop} {w0 w1 wx w6 : World} {b o now came room n m : Nat} {vs : Nat → Value} {v v6 : Value} {qs : Nat → List En} {us : Nat → Nat} (H : WIn TW TE A w0 w1 b now came room n vs qs us) (ho : isRow o) (e : En)
    (hown : w6.ownsRow 0 TE 3 v6 (m + 1) (es (qs o) ++ ec e)) (hu : Upd (fun k => v.ownBlock = some k) wx w6) (hn : OwnOrNew wx v v6) (hx : Upd Nowhere w1 wx) (hl : (qs o).length = m) (hv : vs o = v) (hA : ∀ k, A k → k < w1.heap.size) :
    Laid A w0 w1 w6 b o now came room n vs v6 qs us e := by
  have hu1 : Upd (fun k => v.ownBlock = some k) w1 w6 := (hx.any _).trans hu (fun _ _ h => h)
  have hnb : ¬ v.ownBlock = some b := by rw [← hv]; exact H.nb o ho
  obtain ⟨c1, z1⟩ := H.at_row ho
  refine ⟨fun w7 h7 => ?_, hu1.mono (fun k _ hk => H.far k (.inr ⟨o, ho, by rw [hv]; exact hk⟩)), ?_, ?_⟩
  · refine H.setRow (S := fun k => v.ownBlock = some k) (hu1.trans h7 (fun _ _ h => h.elim)) ho (fun k _ hk => by rw [hv]; exact hk) ?_ (fun k hk => ?_) hA
    · have e1 : (qs o ++ [e]).length = m + 1 := by simp [hl]
      rw [e1, es_snoc]
      exact ownsRow_upd hown h7 (fun _ _ h => h)
    · rcases hn k hk with h1 | h1
      · exact .inl (by rw [hv]; exact h1)
      · exact .inr (Nat.le_trans hx.size h1)
  · rw [hu1.cell _ H.lt hnb]; exact c1
  · rw [hu1.frozen _ H.lt hnb]; exact z1
theorem lay_late {A : Nat → Prop} {w0 w : World} {b now came room n : Nat} {vs : Nat → Value} {qs : Nat → List En} {us : Nat → Nat} (h : WIn TW TE A w0 w b now came room n vs qs us) (hA : ∀ k, A k → k < w.heap.size) (e : En) (he : e.1 ≤ now) (hlen : (qs 715).length ≤ 999999) :
    Calls Tryd.prog 52 #[.pointer (some ⟨b, 0, none⟩), V e] w fun x w' => x = .returned (.tuple #[]) ∧
      (∃ v', WIn TW TE A w0 w' b now came room n (put vs 715 v') (put qs 715 (qs 715 ++ [e])) us) ∧ Upd (fun k => w0.heap.size ≤ k ∧ ¬ A k) w w' := by
  obtain ⟨i0, hi, hz0, hz1, hz2⟩ := info_parts infoE
  have hro := h.row 715 isRow_late
  obtain ⟨m, hm⟩ : ∃ m, (qs 715).length = m := ⟨_, rfl⟩
  obtain ⟨v, hv⟩ : ∃ v, vs 715 = v := ⟨_, rfl⟩
  rw [hm, hv] at hro
  rw [hm] at hlen
  have hm9 : m ≤ 999999999 := by omega
  obtain ⟨ad, cp, rfl⟩ := form0 hro
  obtain ⟨e0, e1, e2⟩ := e
  simp only at he
  have d1 : decide (e0 ≤ now) = true := decide_eq_true he
  have hblk : Blk (w.alloc (.cells #[.int .u64 (e0 : Nat), .int .u64 (e1 : Nat), .int .i64 e2] TE)) w.heap.size #[.int .u64 (e0 : Nat), .int .u64 (e1 : Nat), .int .i64 e2] TE := Blk.new _ _ _
  have H := Lib.hid (h.old ((Upd.refl Nowhere w).alloc (.cells #[.int .u64 (e0 : Nat), .int .u64 (e1 : Nat), .int .i64 e2] TE)))
  have hU : Upd Nowhere w (w.alloc (.cells #[.int .u64 (e0 : Nat), .int .u64 (e1 : Nat), .int .i64 e2] TE)) := (Upd.refl _ _).alloc _
  have hA2 : ∀ k, A k → k < (w.alloc (.cells #[.int .u64 (e0 : Nat), .int .u64 (e1 : Nat), .int .i64 e2] TE)).heap.size := fun k hk => Nat.lt_of_lt_of_le (hA k hk) hU.size
  have HM := Lib.hid hm
  have HV := Lib.hid hv
  have HFB := Lib.hid (h.far b (.inl rfl))
  clear h hA hm hv he hro hlen
  go_enter Tryd.func52, Tryd.ntmps52
  go_wp2_with fail
  generalize w.alloc (.cells #[.int .u64 (e0 : Nat), .int .u64 (e1 : Nat), .int .i64 e2] TE) = wF at *
  obtain ⟨a0, a1, a2, _, _, _⟩ := cells3 hblk
  obtain ⟨c0, _, _, _, z0⟩ := H.out.at_nums
  clear hblk
  go_quiet (fail)
  have hU1 : Upd Nowhere wF (wF.drewN nq) := (Upd.refl _ _).drewN nq
  have H1 := Lib.hid (H.out.old hU1)
  have HU1 := Lib.hid (hU.drewN nq)
  have HA1 : Hid (∀ k, A k → k < (wF.drewN nq).heap.size) := Lib.hid hA2
  have b0 : (wF.drewN nq).cell? ⟨w.heap.size, 0, none⟩ = some (.int .u64 (e0 : Nat)) := a0
  have b1 : (wF.drewN nq).cell? ⟨w.heap.size, 1, none⟩ = some (.int .u64 (e1 : Nat)) := a1
  have b2 : (wF.drewN nq).cell? ⟨w.heap.size, 2, none⟩ = some (.int .i64 e2) := a2
  clear hU1 H hU hA2 a0 a1 a2 c0 z0
  generalize wF.drewN nq = w1 at *
  obtain ⟨c1, z1⟩ := H1.out.at_row isRow_late
  rw [HV.out] at c1
  have hro1 := H1.out.row 715 isRow_late
  rw [HM.out, HV.out] at hro1
  have HROW1 := Lib.hid hro1
  clear hro1
  have k0 : (w1.alloc (.cells #[.int .u64 (e0 : Nat), .int .u64 (e1 : Nat), .int .i64 e2] TE)).cell? ⟨b, 715, none⟩ = some (.slice ad m cp) := cell_old ((Upd.refl _ _).alloc _) c1
  go_wp2_with fail
  go_region_law (refine step_push rfl _ _ 92 rfl 0 TE i0 Z 3 24 Tryd.underlying92 hi hz0 hz1 hz2 rfl (by decide) (by decide) (.slice ad m cp) m _ rfl (ownsRow_upd HROW1.out (by repeat (first | with_reducible exact Upd.refl _ _ | with_reducible refine Upd.drew ?_ | with_reducible refine Upd.alloc ?_ _)) (fun _ _ h => h)) w1.heap.size 1 [.int .u64 (e0 : Nat), .int .u64 (e1 : Nat), .int .i64 e2] rfl rfl (new_cells w1 #[.int .u64 (e0 : Nat), .int .u64 (e1 : Nat), .int .i64 e2] _) (by simp [Value.oneCell']) hm9 (Nat.zero_le _) ?_; intro v6 w6 hown6 hu6 hn6; have H6 := Lib.hid (lay_facts H1.out isRow_late (e0, e1, e2) hown6 hu6 hn6 (by repeat (first | with_reducible exact Upd.refl _ _ | with_reducible refine Upd.drew ?_ | with_reducible refine Upd.alloc ?_ _)) HM.out HV.out HA1.out); obtain ⟨g6, c6, rfl⟩ := form6 hown6; have b6 := H6.out.cell; have y6 := H6.out.free; clear hown6 hu6 hn6 c1 z1 k0 b0 b1 b2)
  all_goals
    go_wp2_with fail
    exact bodyPost_ret (results_none rfl _ _ _) rfl ⟨rfl, ⟨_, H6.out.next _ (by repeat (first | with_reducible exact Upd.refl _ _ | with_reducible refine Upd.drew ?_ | with_reducible refine Upd.drewN ?_ _))⟩, (HU1.out.any _).trans ((H6.out.upd.trans (show Upd Nowhere w6 _ from (by repeat (first | with_reducible exact Upd.refl _ _ | with_reducible refine Upd.drew ?_ | with_reducible refine Upd.drewN ?_ _))) (fun _ _ h => h.elim)).setCell (a := ⟨b, 715, none⟩) (fun _ => HFB.out) _) (fun _ _ h => h)⟩
theorem quiet_ex {P : Program} {f : FuncId} {args : Array Value} {w : World} {n : Nat} {v : Value}
    (h : Calls P f args (w.drewN n) fun e w' => e = .returned v ∧ ∃ m, w' = (w.drewN n).drewN m) : Calls P f args (w.drewN n) fun e w'' => e = .returned v ∧ ∃ m, w'' = w.drewN m :=
  h.mono fun _ _ ⟨he, m, hm⟩ => ⟨he, n + m, by rw [hm, World.drewN_drewN]⟩
theorem wp_world {P : Program} {c : Code} {Q : Exit → Act → World → Prop} {a : Act} {W : World} (h : ∀ w8, w8 = W → c.wp P Q a w8) : c.wp P Q a W := h _ rfl
theorem lay_slot {A : Nat → Prop} {w0 w : World} {b now came room n : Nat} {vs : Nat → Value} {qs : Nat → List En} {us : Nat → Nat} (h : WIn TW TE A w0 w b now came room n vs qs us) (hA : ∀ k, A k → k < w.heap.size) (e : En) (he : now < e.1) (hb : e.1 ≤ 18446744073709551615) {l i o : Nat} (hl : lvl now e.1 = l) (hi : plc l e.1 = i) (ho : l * 65 + 1 + i = o) (hus : us l < 2 ^ 64) (hlen : (qs o).length ≤ 999999) :
    Calls Tryd.prog 52 #[.pointer (some ⟨b, 0, none⟩), V e] w fun x w' => x = .returned (.tuple #[]) ∧
      (∃ v', WIn TW TE A w0 w' b now came room n (put vs o v') (put qs o (qs o ++ [e])) (put us l (us l ||| 2 ^ i))) ∧ Upd (fun k => w0.heap.size ≤ k ∧ ¬ A k) w w' := by
  obtain ⟨i0, hi, hz0, hz1, hz2⟩ := info_parts infoE
  have hl11 : l < 11 := by have := lvl_lt (now := now) (at' := e.1) (by omega) hb; omega
  have hi64 : i < 64 := by rw [← ‹plc l e.1 = i›]; exact plc_lt _ _
  have ho2 : isRow o := by rw [← ho]; exact isRow_slot hl11 hi64
  have hro := h.row o ho2
  obtain ⟨m, hm⟩ : ∃ m, (qs o).length = m := ⟨_, rfl⟩
  obtain ⟨v, hv⟩ : ∃ v, vs o = v := ⟨_, rfl⟩
  obtain ⟨u, hu⟩ : ∃ u, us l = u := ⟨_, rfl⟩
  obtain ⟨u2, hu2⟩ : ∃ u2, u ||| 2 ^ i = u2 := ⟨_, rfl⟩
  rw [hm, hv] at hro
  rw [hm] at hlen
  rw [hu] at hus ⊢
  rw [hu2]
  have hm9 : m ≤ 999999999 := by omega
  obtain ⟨ad, cp, rfl⟩ := form0 hro
  obtain ⟨e0, e1, e2⟩ := e
  simp only at he hb hl
  have HSP := fun w => Lib.hid (spot_any now e0 he hb w)
  rw [hl, ‹plc l (e0, e1, e2).1 = i›] at HSP
  have d1 : decide (e0 ≤ now) = false := decide_eq_false (by omega)
  have hp : 2 ^ i < 18446744073709551616 := Nat.lt_of_lt_of_eq (Nat.pow_lt_pow_right (a := 2) (by omega) hi64) (by decide)
  obtain ⟨B, hB⟩ : ∃ B, 2 ^ i = B := ⟨_, rfl⟩
  rw [hB] at hp hu2
  have es : IntKind.u64.wrap ((2 : Int) ^ i) = (B : Int) := by
    have e9 : (2 : Int) ^ i = (B : Int) := by rw [← hB]; push_cast; rfl
    rw [e9, IntKind.wrap_u64]; omega
  have ea : bits .or .u64 (u : Int) (B : Int) = (u2 : Int) := by rw [bits_or_u64_nat u B (by omega) hp, hu2]
  have p1 : (l : Int) < 11 := by omega
  have p2 : (i : Int) < 64 := by omega
  have hblk : Blk (w.alloc (.cells #[.int .u64 (e0 : Nat), .int .u64 (e1 : Nat), .int .i64 e2] TE)) w.heap.size #[.int .u64 (e0 : Nat), .int .u64 (e1 : Nat), .int .i64 e2] TE := Blk.new _ _ _
  have H := Lib.hid (h.old ((Upd.refl Nowhere w).alloc (.cells #[.int .u64 (e0 : Nat), .int .u64 (e1 : Nat), .int .i64 e2] TE)))
  have hU : Upd Nowhere w (w.alloc (.cells #[.int .u64 (e0 : Nat), .int .u64 (e1 : Nat), .int .i64 e2] TE)) := (Upd.refl _ _).alloc _
  have hA2 : ∀ k, A k → k < (w.alloc (.cells #[.int .u64 (e0 : Nat), .int .u64 (e1 : Nat), .int .i64 e2] TE)).heap.size := fun k hk => Nat.lt_of_lt_of_le (hA k hk) hU.size
  have HM := Lib.hid hm
  have HV := Lib.hid hv
  have HUS := Lib.hid hu
  have HO := Lib.hid ho
  have HFB := Lib.hid (h.far b (.inl rfl))
  clear h hA hm hv he hro hlen hb hl hu hu2 hB ho hus ‹plc l (e0, e1, e2).1 = i›
  go_enter Tryd.func52, Tryd.ntmps52
  go_wp2_with fail
  generalize w.alloc (.cells #[.int .u64 (e0 : Nat), .int .u64 (e1 : Nat), .int .i64 e2] TE) = wF at *
  obtain ⟨a0, a1, a2, _, _, _⟩ := cells3 hblk
  obtain ⟨c0, _, _, _, z0⟩ := H.out.at_nums
  go_quiet (fail)
  go_wp2_with fail
  have c0' : (wF.drewN nq).cell? ⟨b, 716, none⟩ = some (.int .u64 (now : Nat)) := c0
  have a0' : (wF.drewN nq).cell? ⟨w.heap.size, 0, none⟩ = some (.int .u64 (e0 : Nat)) := a0
  obtain ⟨wG, hwG⟩ : ∃ wG, wF.drewN nq = wG := ⟨_, rfl⟩
  have hUG : Upd Nowhere wF wG := by rw [← hwG]; exact (Upd.refl _ _).drewN nq
  rw [hwG] at c0' a0' ⊢
  clear hwG
  go_quiet ((go_at_call 85; exact quiet_ex (HSP _).out))
  have H1 := Lib.hid ((H.out.old hUG).old ((Upd.refl _ _).drewN nq))
  have HU1 := Lib.hid ((hU.trans hUG (fun _ _ h => h)).drewN nq)
  have HA1 : Hid (∀ k, A k → k < (wG.drewN nq).heap.size) := Lib.hid (fun k hk => Nat.lt_of_lt_of_le (hA2 k hk) hUG.size)
  have b0 : (wG.drewN nq).cell? ⟨w.heap.size, 0, none⟩ = some (.int .u64 (e0 : Nat)) := a0'
  have b1 : (wG.drewN nq).cell? ⟨w.heap.size, 1, none⟩ = some (.int .u64 (e1 : Nat)) := cell_old hUG a1
  have b2 : (wG.drewN nq).cell? ⟨w.heap.size, 2, none⟩ = some (.int .i64 e2) := cell_old hUG a2
  clear H hU hA2 hUG a0 a1 a2 c0 z0 a0' c0' hblk HSP
  generalize wG.drewN nq = w1 at *
  obtain ⟨c1, z1⟩ := H1.out.at_row ho2
  rw [HV.out] at c1
  have hro1 := H1.out.row o ho2
  rw [HM.out, HV.out] at hro1
  have HROW1 := Lib.hid hro1
  have k0 : (w1.alloc (.cells #[.int .u64 (e0 : Nat), .int .u64 (e1 : Nat), .int .i64 e2] TE)).cell? ⟨b, o, none⟩ = some (.slice ad m cp) := cell_old ((Upd.refl _ _).alloc _) c1
  rw [← HO.out] at c1 z1 k0
  clear hro1
  go_wp2_with fail
  go_region_law (refine step_push rfl _ _ 92 rfl 0 TE i0 Z 3 24 Tryd.underlying92 hi hz0 hz1 hz2 rfl (by decide) (by decide) (.slice ad m cp) m _ rfl (ownsRow_upd HROW1.out (by repeat (first | with_reducible exact Upd.refl _ _ | with_reducible refine Upd.drew ?_ | with_reducible refine Upd.alloc ?_ _)) (fun _ _ h => h)) w1.heap.size 1 [.int .u64 (e0 : Nat), .int .u64 (e1 : Nat), .int .i64 e2] rfl rfl (new_cells w1 #[.int .u64 (e0 : Nat), .int .u64 (e1 : Nat), .int .i64 e2] _) (by simp [Value.oneCell']) hm9 (Nat.zero_le _) ?_; intro v6 w6 hown6 hu6 hn6; have H6 := Lib.hid (lay_facts H1.out ho2 (e0, e1, e2) hown6 hu6 hn6 (by repeat (first | with_reducible exact Upd.refl _ _ | with_reducible refine Upd.drew ?_ | with_reducible refine Upd.alloc ?_ _)) HM.out HV.out HA1.out); obtain ⟨g6, c6, rfl⟩ := form6 hown6; have b6 := H6.out.cell; have y6 := H6.out.free; rw [← HO.out] at b6 y6; clear hown6 hu6 hn6 c1 z1 k0 b0 b1 b2)
  all_goals
    go_wp2_with fail
    refine wp_world (fun w8 hw8 => ?_)
    rw [HO.out] at hw8
    have h8 : WIn TW TE A w0 w8 b now came room n (put vs o (.slice (some ⟨g6, 0, none⟩) (m + 1) c6)) (put qs o (qs o ++ [(e0, e1, e2)])) us := by rw [hw8]; exact H6.out.next _ (by repeat (first | with_reducible exact Upd.refl _ _ | with_reducible refine Upd.drew ?_ | with_reducible refine Upd.drewN ?_ _))
    have hu8 : Upd (fun k => w0.heap.size ≤ k ∧ ¬ A k) w w8 := by
      rw [hw8]
      exact (HU1.out.any _).trans ((H6.out.upd.trans (show Upd Nowhere w6 _ from (by repeat (first | with_reducible exact Upd.refl _ _ | with_reducible refine Upd.drew ?_ | with_reducible refine Upd.drewN ?_ _))) (fun _ _ h => h.elim)).setCell (a := ⟨b, o, none⟩) (fun _ => HFB.out) _) (fun _ _ h => h)
    obtain ⟨c2, z2⟩ := h8.at_used hl11
    rw [HUS.out] at c2
    have H8 := Lib.hid h8
    have HU8 := Lib.hid hu8
    clear h8 hu8 hw8 b6 y6 H6
    refine wp_region_tail 14 (by kernel_rfl) (by kernel_rfl) ?_
    simp only [List.take_succ_cons, List.take_zero, List.drop_succ_cons, List.drop_zero]
    repeat (go_big_quiet_step (fail))
    refine wpQuiet_nil ?_
    rintro _ ⟨nq9, rfl⟩
    go_wp2
    refine Stage.out ?_
    go_wp2_with fail
    exact bodyPost_end (results_none rfl _ _ _) rfl ⟨rfl, ⟨_, (H8.out.old ((Upd.refl Nowhere w8).drewN nq9)).setUsed hl11 u2⟩, (HU8.out.drewN nq9).setCell (a := ⟨b, l * 65, none⟩) (fun _ => HFB.out) _⟩
end Go.Proofs.YtjbaibnmbeabnaaDoor.Wheel
