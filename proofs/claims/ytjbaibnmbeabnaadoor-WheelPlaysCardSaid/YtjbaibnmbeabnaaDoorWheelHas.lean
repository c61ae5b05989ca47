/- wheel, as a law meets it: Add. -/
import Derived.Test.YtjbaibnmbeabnaaDoorWheelAsk
namespace Go.Proofs.YtjbaibnmbeabnaaDoor.Wheel
open Go.RowKit Go.Proofs BigFrame Heap
set_option maxHeartbeats 4000000
set_option maxRecDepth 1000000
/-- A wheel that was made since w0, off the blocks of A: s waits, in order. -/
def HasW (A : Nat → Prop) (w0 w : World) (b now came room : Nat) (s : List En) : Prop :=
  ∃ vs qs us, WIn TW TE A w0 w b now came room s.length vs qs us ∧ St now qs us ∧ Mt came (all qs) s ∧ s.length ≤ room ∧ room ≤ 4096 ∧ now ≤ 18446744073709551615
/-- The blocks that a wheel may write. -/
abbrev Free (A : Nat → Prop) (w0 : World) : Nat → Prop := fun k => w0.heap.size ≤ k ∧ ¬ A k
section
variable {A A' : Nat → Prop} {w0 w w' : World} {b now came room : Nat} {s : List En}
theorem HasW.kept (h : HasW A w0 w b now came room s) {S : Nat → Prop} (hu : Upd S w w') (hS : ∀ k, S k → k < w.heap.size → A k ∨ k < w0.heap.size) : HasW A w0 w' b now came room s := by
  obtain ⟨vs, qs, us, h1, h2⟩ := h
  exact ⟨vs, qs, us, h1.kept hu hS, h2⟩
theorem HasW.old (h : HasW A w0 w b now came room s) (hu : Upd Nowhere w w') : HasW A w0 w' b now came room s := h.kept hu (fun _ h _ => h.elim)
theorem HasW.re (h : HasW A w0 w b now came room s) (hA : ∀ k, A' k → A k ∨ w.heap.size ≤ k) : HasW A' w0 w b now came room s := by
  obtain ⟨vs, qs, us, h1, h2⟩ := h
  exact ⟨vs, qs, us, h1.re hA, h2⟩
theorem HasW.low (h : HasW A w0 w b now came room s) : w0.heap.size ≤ w.heap.size := by obtain ⟨vs, qs, us, h1, h2⟩ := h; exact h1.low
theorem HasW.blk (h : HasW A w0 w b now came room s) : w0.heap.size ≤ b ∧ ¬ A b := by obtain ⟨vs, qs, us, h1, h2⟩ := h; exact h1.far b (.inl rfl)
theorem HasW.fits (h : HasW A w0 w b now came room s) : s.length ≤ room ∧ room ≤ 4096 ∧ now ≤ 18446744073709551615 := by obtain ⟨vs, qs, us, h1, h2, h3, h4⟩ := h; exact h4
theorem HasW.old_all (h : HasW A w0 w b now came room s) : (∀ e ∈ s, e.2.1 < came) ∧ s.Pairwise (fun a b => ahd a b = true) ∧ ∀ e ∈ s, e.1 ≤ 18446744073709551615 := by
  obtain ⟨vs, qs, us, h1, h2, h3, h4⟩ := h
  exact ⟨h3.old, h3.ord, fun e he => by obtain ⟨o, ho, heo⟩ := mem_all.1 (h3.perm.mem_iff.1 he); exact h2.big o ho e heo⟩
theorem hasW_new (room : Nat) (h1 : 1 ≤ room) (h2 : room ≤ 4096) (w : World) :
    Calls Tryd.prog 20 #[.int .i64 room] w fun e w' => e = .returned (.tuple #[.pointer (some ⟨w.heap.size, 0, none⟩), .int .i64 0]) ∧ HasW (fun _ => False) w w' w.heap.size 0 0 room [] ∧ Upd Nowhere w w' :=
  (new_good room h1 h2 w).mono fun _ _ ⟨x, y, z⟩ => ⟨x, ⟨_, _, _, y, St.nil 0, by rw [all_nil]; exact Mt.nil, Nat.zero_le _, h2, Nat.zero_le _⟩, z⟩
theorem hasW_len (h : HasW A w0 w b now came room s) : Calls Tryd.prog 24 #[.pointer (some ⟨b, 0, none⟩)] w fun e w' => e = .returned (.int .i64 (s.length : Nat)) ∧ w = w' := by
  obtain ⟨vs, qs, us, h1, _⟩ := h; exact len_any h1
theorem hasW_now (h : HasW A w0 w b now came room s) : Calls Tryd.prog 30 #[.pointer (some ⟨b, 0, none⟩)] w fun e w' => e = .returned (.int .u64 now) ∧ w = w' := by
  obtain ⟨vs, qs, us, h1, _⟩ := h; exact now_any h1
end
theorem lay_any {A : Nat → Prop} {w0 w : World} {b now came room n : Nat} {vs : Nat → Value} {qs : Nat → List En} {us : Nat → Nat} (h : WIn TW TE A w0 w b now came room n vs qs us) (hs : St now qs us) (hA : ∀ k, A k → k < w.heap.size) (e : En) (hn : now ≤ 18446744073709551615) (he : e.1 ≤ 18446744073709551615) (hlen : (all qs).length ≤ 999999) :
    Calls Tryd.prog 52 #[.pointer (some ⟨b, 0, none⟩), V e] w fun x w' => x = .returned (.tuple #[]) ∧
      (∃ vs' qs' us', WIn TW TE A w0 w' b now came room n vs' qs' us' ∧ St now qs' us' ∧ (all qs').Perm (e :: all qs)) ∧ Upd (Free A w0) w w' := by
  have hst := hs.lay hn e he
  have hro := off_row hn he
  have hl := len_all (qs := qs) hro
  have hpm := all_push qs hro e
  by_cases hle : e.1 ≤ now
  · have eo : off now e.1 = 715 := if_pos hle
    have eu : us_lay now us e = us := if_pos hle
    rw [eo] at hst hpm hl
    rw [eu] at hst
    refine (lay_late h hA e hle (by omega)).mono ?_
    rintro x w' ⟨rfl, ⟨v', h1⟩, h2⟩
    exact ⟨rfl, ⟨_, _, _, h1, hst, hpm⟩, h2⟩
  · have eo : off now e.1 = lvl now e.1 * 65 + 1 + plc (lvl now e.1) e.1 := if_neg hle
    have eu : us_lay now us e = put us (lvl now e.1) (us (lvl now e.1) ||| 2 ^ plc (lvl now e.1) e.1) := if_neg hle
    rw [eu] at hst
    refine (lay_slot h hA e (by omega) he rfl rfl eo.symm (hs.ub _ (by have := lvl_lt hn he; omega)) (by omega)).mono ?_
    rintro x w' ⟨rfl, ⟨v', h1⟩, h2⟩
    exact ⟨rfl, ⟨_, _, _, h1, hst, hpm⟩, h2⟩
theorem add_full {A : Nat → Prop} {w0 w : World} {b now came room : Nat} {s : List En} (h : HasW A w0 w b now came room s) (hl : room ≤ s.length) (at' : Nat) (x : Int) :
    Calls Tryd.prog 21 #[.pointer (some ⟨b, 0, none⟩), .int .u64 at', .int .i64 x] w fun e w' => e = .returned (.bool false) ∧ Upd Nowhere w w' := by
  obtain ⟨vs, qs, us, h1, _⟩ := h
  obtain ⟨n, hn⟩ : ∃ n, s.length = n := ⟨_, rfl⟩
  rw [hn] at h1 hl
  obtain ⟨_, _, c2, c3, z⟩ := h1.at_nums
  have d1 : decide ((n : Int) ≥ room) = true := decide_eq_true (by omega)
  have d2 : decide (room ≤ n) = true := decide_eq_true hl
  clear h1 hn hl
  go_enter Tryd.func21, Tryd.ntmps21
  go_wp2_with fail
  go_quiet (fail)
  go_wp2_with fail
  go_ret
  exact ⟨rfl, (Upd.refl _ _).drewN nq⟩
theorem add_room {A : Nat → Prop} {w0 w : World} {b now came room : Nat} {s : List En} (h : HasW A w0 w b now came room s) (hl : s.length < room) (hA : ∀ k, A k → k < w.heap.size) (at' : Nat) (hat : at' ≤ 18446744073709551615) (x : Int) (hc : came < 18446744073709551615) :
    Calls Tryd.prog 21 #[.pointer (some ⟨b, 0, none⟩), .int .u64 at', .int .i64 x] w fun e w' => e = .returned (.bool true) ∧ HasW A w0 w' b now (came + 1) room (insE (at', came, x) s) ∧ Upd (Free A w0) w w' := by
  obtain ⟨vs, qs, us, h1, hs, hm, h4, h5, h6⟩ := h
  have hall : (all qs).length ≤ 999999 := by have := hm.len; omega
  have hins : (insE (at', came, x) s).length = s.length + 1 := by rw [(insE_perm _ _).length_eq]; rfl
  obtain ⟨n, hn⟩ : ∃ n, s.length = n := ⟨_, rfl⟩
  obtain ⟨n1, hn1⟩ : ∃ n1, n + 1 = n1 := ⟨_, rfl⟩
  obtain ⟨d, hd⟩ : ∃ d, came + 1 = d := ⟨_, rfl⟩
  rw [hn] at h1 hl h4 hins
  obtain ⟨_, c1, c2, c3, z⟩ := h1.at_nums
  have d1 : decide ((n : Int) ≥ room) = false := decide_eq_false (by omega)
  have d2 : decide (room ≤ n) = false := decide_eq_false (by omega)
  have ed : IntKind.u64.wrap ((came : Int) + 1) = (d : Int) := by rw [IntKind.wrap_u64]; omega
  have en : IntKind.i64.wrap ((n : Int) + 1) = (n1 : Int) := by rw [IntKind.wrap_i64]; omega
  have hn1r : n1 ≤ room := by omega
  have HMt := Lib.hid hm
  have H1 := Lib.hid h1
  have HS := Lib.hid hs
  have HA := Lib.hid hA
  have HINS := Lib.hid (hins.trans hn1)
  have HD := Lib.hid hd
  have HN := Lib.hid hn
  have HFB := Lib.hid (h1.far b (.inl rfl))
  clear hm h1 hs hA hins hn1 hd hn
  go_enter Tryd.func21, Tryd.ntmps21
  go_wp2_with fail
  go_quiet (fail)
  have H2 := Lib.hid (H1.out.old ((Upd.refl Nowhere w).drewN nq))
  have HU2 := Lib.hid ((Upd.refl Nowhere w).drewN nq)
  have HA2 : Hid (∀ k, A k → k < (w.drewN nq).heap.size) := Lib.hid (by exact HA.out)
  clear c1 c2 c3 z H1
  generalize w.drewN nq = w1 at *
  obtain ⟨_, c1, _, _, z⟩ := H2.out.at_nums
  have HLY := Lib.hid (lay_any H2.out HS.out HA2.out (at', came, x) h6 hat hall)
  go_wp2_with fail
  refine HLY.out.mono ?_
  rintro e w2 ⟨rfl, ⟨vs2, qs2, us2, h2, hs2, hp2⟩, hu2⟩
  obtain ⟨_, k1, k2, _, z2⟩ := h2.at_nums
  have y1 := z2 717
  have y2 := z2 718
  have HP := Lib.hid hp2
  have H3 := Lib.hid ((h2.setCame d).setN n1)
  have HS2 := Lib.hid hs2
  have HU3 := Lib.hid (((HU2.out.any _).trans hu2 (fun _ _ h => h)).setCell (a := ⟨b, 717, none⟩) (fun _ => HFB.out) (.int .u64 (d : Nat)) |>.setCell (a := ⟨b, 718, none⟩) (fun _ => HFB.out) (.int .i64 (n1 : Nat)))
  clear h2 hp2 hs2 hu2 c1 z z2 HLY
  go_wp2_with fail
  go_ret
  refine ⟨rfl, ⟨vs2, qs2, us2, by rw [HINS.out, HD.out]; exact H3.out, HS2.out, ?_, by rw [HINS.out]; omega, h5, h6⟩, HU3.out⟩
  refine ⟨((insE_perm _ _).trans (HMt.out.perm.cons _)).trans HP.out.symm, insE_ord _ _ HMt.out.ord HMt.out.old, fun e he => ?_⟩
  rcases List.mem_cons.1 ((insE_perm _ _).mem_iff.1 he) with rfl | he
  · exact Nat.lt_succ_self _
  · exact Nat.lt_succ_of_lt (HMt.out.old e he)
end Go.Proofs.YtjbaibnmbeabnaaDoor.Wheel
