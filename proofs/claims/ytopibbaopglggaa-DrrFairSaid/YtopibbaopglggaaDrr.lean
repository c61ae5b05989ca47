/- drr: has, Len, Credit, Row; of nil too. -/
import Derived.Test.YtopibbaopglggaaDrrCore
import Derived.Test.YtopibbaopglggaaDrrPlain
import Derived.Test.YtopibbaopglggaaDrrNew
import Derived.Test.YtopibbaopglggaaPairD4
import Derived.Test.YtopibbaopglggaaMix2
import Derived.Deep.DeepCutAuto
import Derived.Deep.CutBlock
import Derived.Lib.SliceRun
import Derived.WalkMore
namespace Go.Proofs.Ytopibbaopglggaa.Drr
open Go.RowKit Go.Proofs BigFrame
open PairD (TR TE el)
abbrev TT : TypeId := 119
abbrev TC : TypeId := 126
abbrev TI : TypeId := 3
set_option maxHeartbeats 4000000
set_option maxRecDepth 1000000
theorem infoI : (Try.prog.info? TI).map (fun i => (i.zero, i.size, i.bytes)) = some (some (.int .i64 0), 1, 8) := by kernel_rfl
theorem infoC : (Try.prog.info? TC).map (fun i => (i.zero, i.size, i.bytes)) = some (some (.agg #[.int .u64 0, .int .u64 0, .pointer none]), 3, 24) := by kernel_rfl
/-- An item's cells. -/
def elN (x : Nat × Int) : Value × Value := (.int .u64 (x.1 : Nat), .int .i64 x.2)
theorem elN_map (l : List (Nat × Int)) : l.map elN = (l.map fun x => ((x.1 : Int), x.2)).map el := by rw [List.map_map]; rfl
abbrev D (w : World) (t gc cc n cnt : Nat) (rv : Value) (st : Turn) (q rb : Nat → Nat) (rg : Nat → Option Nat) (its : Items) : Prop := DrrIn TT TC TR TE TI w t gc cc n cnt rv st.row st.begun q st.cr rb rg (fun i => (its i).map elN)
theorem has_nil (c : Int) (w : World) : Calls Try.prog 53 #[.pointer none, .int .i64 c] w fun e w' => e = .returned (.bool false) ∧ w = w' := by
  go_enter Try.func53, Try.ntmps53
  go_wp2_with fail
  go_ret
  exact ⟨rfl, rfl⟩
theorem len_nil (w : World) : Calls Try.prog 33 #[.pointer none] w fun e w' => e = .returned (.int .i64 0) ∧ w = w' := by
  go_enter Try.func33, Try.ntmps33
  go_wp2_with fail
  go_ret
  exact ⟨rfl, rfl⟩
theorem credit_nil (c : Int) (w : World) : Calls Try.prog 39 #[.pointer none, .int .i64 c] w fun e w' => e = .returned (.int .u64 0) ∧ w = w' := by
  go_enter Try.func39, Try.ntmps39
  go_wp2_with fail
  refine (has_nil _ _).mono ?_
  rintro e w' ⟨rfl, rfl⟩
  go_wp2_with fail
  go_ret
  exact ⟨rfl, rfl⟩
theorem row_nil (w : World) : Calls Try.prog 34 #[.pointer none] w fun e w' => e = .returned (.slice none 0 0) ∧ w = w' := by
  go_enter Try.func34, Try.ntmps34
  go_wp2_with fail
  go_ret
  exact ⟨rfl, rfl⟩
theorem push_nil (c size id : Int) (w : World) : Calls Try.prog 21 #[.pointer none, .int .i64 c, .int .u64 size, .int .i64 id] w fun e w' => e = .returned (.int .i64 10) ∧ w = w' := by
  go_enter Try.func21, Try.ntmps21
  go_wp2_with fail
  go_ret
  exact ⟨rfl, rfl⟩
theorem next_nil (w : World) : Calls Try.prog 22 #[.pointer none] w fun e w' => e = .returned (.tuple #[.int .i64 0, .int .u64 0, .int .i64 0, .bool false]) ∧ w = w' := by
  go_enter Try.func22, Try.ntmps22
  go_wp2_with fail
  go_step3
  go_wp2_with fail
  refine (len_nil _).mono ?_
  rintro e w' ⟨rfl, rfl⟩
  go_wp2_with fail
  rw [Exit.noGoto_ret]
  exact bodyPost_ret (v := .tuple #[.int .i64 0, .int .u64 0, .int .i64 0, .bool false]) (by simp [results, Try.results22, go_sem]) rfl ⟨rfl, rfl⟩
section
variable {w : World} {t gc cc n cnt : Nat} {rv : Value} {st : Turn} {q rb : Nat → Nat} {rg : Nat → Option Nat} {its : Items}
theorem has_in (h : D w t gc cc n cnt rv st q rb rg its) {c : Nat} (hc : c < n) : Calls Try.prog 53 #[.pointer (some ⟨t, 0, none⟩), .int .i64 c] w fun e w' => e = .returned (.bool true) ∧ w = w' := by
  obtain ⟨c0, c1, c2, c3, z0, z1, z2, z3⟩ := cells4 h.blk
  have d1 : decide ((c : Int) ≥ 0) = true := decide_eq_true (by omega)
  have d2 : decide ((c : Int) < n) = true := decide_eq_true (by omega)
  have d3 : decide (c < n) = true := decide_eq_true hc
  clear h
  go_enter Try.func53, Try.ntmps53
  go_wp2_with fail
  go_ret
  exact ⟨rfl, rfl⟩
theorem has_out (h : D w t gc cc n cnt rv st q rb rg its) {c : Int} (hc : c < 0 ∨ (n : Int) ≤ c) : Calls Try.prog 53 #[.pointer (some ⟨t, 0, none⟩), .int .i64 c] w fun e w' => e = .returned (.bool false) ∧ w = w' := by
  obtain ⟨c0, c1, c2, c3, z0, z1, z2, z3⟩ := cells4 h.blk
  clear h
  by_cases h0 : c < 0
  · have d1 : decide (c ≥ 0) = false := decide_eq_false (by omega)
    have d1' : decide (0 ≤ c) = false := decide_eq_false (by omega)
    go_enter Try.func53, Try.ntmps53
    go_wp2_with fail
    go_ret
    exact ⟨rfl, rfl⟩
  · have d1 : decide (c ≥ 0) = true := decide_eq_true (by omega)
    have d1' : decide (0 ≤ c) = true := decide_eq_true (by omega)
    have d2 : decide (c < (n : Int)) = false := decide_eq_false (by omega)
    go_enter Try.func53, Try.ntmps53
    go_wp2_with fail
    go_ret
    exact ⟨rfl, rfl⟩
theorem len_any (h : D w t gc cc n cnt rv st q rb rg its) : Calls Try.prog 33 #[.pointer (some ⟨t, 0, none⟩)] w fun e w' => e = .returned (.int .i64 cnt) ∧ w = w' := by
  obtain ⟨c0, c1, c2, c3, z0, z1, z2, z3⟩ := cells4 h.blk
  clear h
  go_enter Try.func33, Try.ntmps33
  go_wp2_with fail
  go_ret
  exact ⟨rfl, rfl⟩
theorem credit_in (h : D w t gc cc n cnt rv st q rb rg its) {c : Nat} (hc : c < n) : Calls Try.prog 39 #[.pointer (some ⟨t, 0, none⟩), .int .i64 c] w fun e w' => e = .returned (.int .u64 (st.cr c : Nat)) ∧ w = w' := by
  obtain ⟨c0, c1, c2, c3, z0, z1, z2, z3⟩ := cells4 h.blk
  have hH := Lib.hid (has_in h hc)
  have hcr := h.cr_ hc
  have i1 : (c : Int) < n := by omega
  clear h
  go_enter Try.func39, Try.ntmps39
  go_wp2_with fail
  refine (hH.out).mono ?_
  rintro e w' ⟨rfl, rfl⟩
  go_wp2_with fail
  go_ret
  exact ⟨rfl, rfl⟩
theorem credit_out (h : D w t gc cc n cnt rv st q rb rg its) {c : Int} (hc : c < 0 ∨ (n : Int) ≤ c) : Calls Try.prog 39 #[.pointer (some ⟨t, 0, none⟩), .int .i64 c] w fun e w' => e = .returned (.int .u64 0) ∧ w = w' := by
  have hH := Lib.hid (has_out h hc)
  clear h hc
  go_enter Try.func39, Try.ntmps39
  go_wp2_with fail
  refine (hH.out).mono ?_
  rintro e w' ⟨rfl, rfl⟩
  go_wp2_with fail
  go_ret
  exact ⟨rfl, rfl⟩
theorem clone_any {w : World} {v : Value} {xs : List Nat} (h : Lane TI w v xs) (hl : xs.length ≤ 4096) : Calls Try.prog 67 #[v] w fun e w' => ∃ v', e = .returned v' ∧ RowAt w' v' (xs.map fun x => .int .i64 (x : Nat)) ∧ Upd Nowhere w w' := by
  obtain ⟨i0, hi, hz0, hz1, hz2⟩ := info_parts infoI
  have qT : ∀ (w : World) (a : Option Addr) (n c : Nat), (binOp .eql 39 (.slice a n c) (.slice none 0 0)).run Try.prog w = .ok (.bool a.isNone) w := fun w a n c => Lib.run_eql_slice_nil w _ _ a n c 0 0 Try.underlying39
  rcases h with ⟨rfl, rfl⟩ | ⟨g, o, c, rfl, h1, cur, h2, h3, h4⟩
  · go_enter Try.func67, Try.ntmps67
    go_wp2_with fail
    go_ret
    exact ⟨_, rfl, RowAt.nil _, Upd.refl _ _⟩
  · have HC : ∀ b, (some (⟨g, o, none⟩ : Addr)) = some b → ∀ j u, (xs.map fun x => Value.int .i64 (x : Nat))[j]? = some u → (w.alloc (.cells #[] TI)).cell? (b.add j) = some u := fun b hb j u hu => by
      obtain rfl := Option.some.inj hb
      rw [List.getElem?_map] at hu
      cases hx : xs[j]? with
      | none => rw [hx] at hu; cases hu
      | some x =>
        rw [hx] at hu
        obtain rfl := Option.some.inj hu
        rw [add_at]
        exact (h2.alloc _).cellAt (h4 j x hx)
    have HC' := Lib.hid HC
    have hlen : (xs.map fun x => Value.int .i64 (x : Nat)).length = xs.length * 1 := by simp
    have HL := Lib.hid hlen
    have H1 : ∀ u ∈ (xs.map fun x => Value.int .i64 (x : Nat)), u.oneCell' = true := fun u hu => by obtain ⟨x, _, rfl⟩ := List.mem_map.1 hu; rfl
    have hown : (w.alloc (.cells #[] TI)).ownsRow w.heap.size TI 1 (.slice (some ⟨w.heap.size, 0, none⟩) 0 0) 0 [] := ⟨rfl, .inr ⟨w.heap.size, 0, #[], rfl, Nat.le_refl _, Blk.new _ _ _, Nat.le_refl _, by unfold maxLen; omega, rfl, rfl⟩⟩
    generalize hn : xs.length = m at *
    have HN := Lib.hid hn
    clear HC h1 h2 h3 h4 hlen hn
    go_enter Try.func67, Try.ntmps67
    go_wp2_with (at_builtin; refine wpList_app rfl _ _ 39 rfl w.heap.size TI i0 (.int .i64 0) 1 8 Try.underlying39 hi hz0 hz1 hz2 rfl (by decide) (by decide) (.slice (some ⟨w.heap.size, 0, none⟩) 0 0) 0 [] rfl hown (some ⟨g, o, none⟩) m c (xs.map fun x => .int .i64 (x : Nat)) rfl (fun h => by cases h) HL.out HC'.out H1 (by omega) (by simp) ?_; intro v2 w2 hown2 hu2 hn2)
    go_ret
    rw [Nat.zero_add, List.nil_append] at hown2
    exact ⟨_, rfl, ownsRow_rowAt hown2, ((Upd.refl _ _).alloc _).trans hu2 (fun k hk e => by have e' : w.heap.size = k := by simpa [Value.ownBlock] using e
                                                                                             omega)⟩
theorem row_any (h : D w t gc cc n cnt rv st q rb rg its) (hl : st.row.length ≤ 4096) : Calls Try.prog 34 #[.pointer (some ⟨t, 0, none⟩)] w fun e w' => ∃ v', e = .returned v' ∧ RowAt w' v' (st.row.map fun x => .int .i64 (x : Nat)) ∧ Upd Nowhere w w' := by
  obtain ⟨c0, c1, c2, c3, z0, z1, z2, z3⟩ := cells4 h.blk
  have HC := Lib.hid (clone_any h.lane hl)
  clear h
  go_enter Try.func34, Try.ntmps34
  go_wp2_with fail
  refine (HC.out).mono ?_
  rintro e w' ⟨v', rfl, hr, hu⟩
  have HR := Lib.hid hr
  have HU := Lib.hid hu
  clear hr hu
  go_wp2_with fail
  go_ret
  exact ⟨_, rfl, HR.out, HU.out⟩
end
end Go.Proofs.Ytopibbaopglggaa.Drr
