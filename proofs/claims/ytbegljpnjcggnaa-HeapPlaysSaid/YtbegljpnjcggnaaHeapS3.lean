/- heappifo's heap of string: Push. -/
import Derived.Test.YtbegljpnjcggnaaHeapS2
import Derived.Deep.RegionLaw
namespace Go.Proofs.Ytbegljpnjcggnaa.HeapS
open Go.RowKit Go.Proofs BigFrame Heap
set_option maxHeartbeats 4000000
set_option maxRecDepth 1000000
abbrev Z : Value := .agg #[.int .u64 0, .int .u64 0, Value.string ⟨#[]⟩]
theorem infoE : (Try.prog.info? TE).map (fun i => (i.zero, i.size, i.bytes)) = some (some Z, 3, 32) := by kernel_rfl
/-- One more, in a row that took it. -/
theorem row_push {w : World} {v : Value} {l : List En} {n : Nat} (e : En) (hn : l.length + 1 = n) (h : w.ownsRow 0 TE 3 v n (ents (Value.string) l ++ [.int .u64 e.1, .int .u64 e.2.1, Value.string e.2.2])) : Row (Value.string) TE w v (l ++ [e]) := by
  have e1 : (l ++ [e]).length = n := by simpa using hn
  have e2 : ents (Value.string) (l ++ [e]) = ents (Value.string) l ++ [.int .u64 e.1, .int .u64 e.2.1, Value.string e.2.2] := by rw [ents_append]; rfl
  unfold Row
  rw [e1, e2]
  exact h
theorem form6 {w : World} {v : Value} {n : Nat} {xs : List Value} (h : w.ownsRow 0 TE 3 v (n + 1) xs) : ∃ g c, v = .slice (some ⟨g, 0, none⟩) (n + 1) c := by
  rcases h.2 with ⟨_, h0⟩ | ⟨g, c, cur, rfl, _⟩
  · omega
  · exact ⟨g, c, rfl⟩
/-- What stands once an entry was laid behind the others. -/
structure Pushed (w0 w : World) (b : Nat) (v v' : Value) (came room : Nat) (l : List En) (e : En) : Prop where
  blk : Blk w b #[v, .int .u64 came, .int .i64 room] TH
  row : Row (Value.string) TE w v' (l ++ [e])
  off : v'.ownBlock ≠ some b
  own : OwnOrNew w0 v v'
  upd : Upd (HeapOf b v) w0 w
theorem push_facts {w1 wx w6 : World} {b came room n : Nat} {v v6 : Value} {l : List En} (H : HeapIn (Value.string) TH TE w1 b v came room l) (e : En)
    (hown : w6.ownsRow 0 TE 3 v6 (n + 1) (ents (Value.string) l ++ [.int .u64 e.1, .int .u64 e.2.1, Value.string e.2.2])) (hu : Upd (fun k => v.ownBlock = some k) wx w6) (hn : OwnOrNew wx v v6) (hx : Upd Nowhere w1 wx) (hl : l.length = n) :
    Pushed w1 w6 b v v6 came room l e := by
  have hs := hx.size
  refine ⟨(H.blk.kept hx id).kept hu H.off, row_push e (by omega) hown, fun h => ?_, fun k hk => ?_, (hx.any _).trans hu (fun k _ hk => .inr hk)⟩
  · rcases hn b h with h1 | h1
    · exact H.off h1
    · have := H.blk.lt; omega
  · rcases hn k hk with h1 | h1
    · exact .inl h1
    · exact .inr (by omega)
theorem Pushed.heap {w0 w : World} {b came room : Nat} {v v' : Value} {l : List En} {e : En} (P : Pushed w0 w b v v' came room l e) (hl : l.length < room) (hr : room ≤ 4096) (d : Nat) :
    HeapIn (Value.string) TH TE ((w.setCell ⟨b, 0, none⟩ v').setCell ⟨b, 1, none⟩ (.int .u64 d)) b v' d room (l ++ [e]) := by
  have hu : Upd (fun k => k = b) w ((w.setCell ⟨b, 0, none⟩ v').setCell ⟨b, 1, none⟩ (.int .u64 d)) := ((Upd.refl _ _).setCell (a := ⟨b, 0, none⟩) (S := fun k => k = b) (fun _ => rfl) _).setCell (a := ⟨b, 1, none⟩) (fun _ => rfl) _
  exact ⟨by simpa using (P.blk.set 0 v').set 1 (.int .u64 d), ownsRow_upd P.row hu (fun k hk e => P.off (by rw [hk, e])), by simp; omega, by omega, hr, P.off⟩
theorem push_room {w : World} {b came room : Nat} {v : Value} {l : List En} (h : HeapIn (Value.string) TH TE w b v came room l) (hl : l.length < room) (hc : came < 18446744073709551615) (rank : Nat) (x : ByteArray) :
    Calls Try.prog 19 #[.pointer (some ⟨b, 0, none⟩), .int .u64 rank, Value.string x] w fun e w' => e = .returned (.bool true) ∧
      ∃ v', HeapIn (Value.string) TH TE w' b v' (came + 1) room (pushL l (rank, came, x)) ∧ OwnOrNew w v v' ∧ Upd (HeapOf b v) w w' := by
  obtain ⟨i0, hi, hz0, hz1, hz2⟩ := info_parts infoE
  obtain ⟨ad, cp, rfl⟩ := h.row.form
  obtain ⟨n, hn⟩ : ∃ n, l.length = n := ⟨_, rfl⟩
  obtain ⟨d, hd⟩ : ∃ d, came + 1 = d := ⟨_, rfl⟩
  obtain ⟨s, hs⟩ : ∃ s, n + 1 = s := ⟨_, rfl⟩
  have hrow : w.ownsRow 0 TE 3 (.slice ad l.length cp) l.length (ents (Value.string) l) := h.row
  have hr2 := h.r2
  rw [hd]
  rw [hn] at h hl hrow ⊢
  have e1 : IntKind.u64.wrap ((came : Int) + 1) = (d : Int) := by rw [IntKind.wrap_u64]; omega
  have e2 : (s : Int) - 1 = (n : Int) := by omega
  have d1 : decide (room ≤ n) = false := by simp; omega
  have hn9 : n ≤ 999999999 := by omega
  obtain ⟨c0, c1, c2, z0, z1, z2⟩ := cells3 h.blk
  have H0 := Lib.hid h
  have HROW := Lib.hid hrow
  have HN := Lib.hid hn
  have HD := Lib.hid hd
  have HS := Lib.hid hs
  have HL := Lib.hid hl
  clear h hn hd hs hc hrow hl
  go_enter Try.func19, Try.ntmps19
  go_wp2_with fail
  go_quiet (fail)
  go_wp2_with fail
  have hU1 : Upd Nowhere w (w.drewN nq) := (Upd.refl _ _).drewN nq
  have H1 := Lib.hid (H0.out.old hU1)
  have HU1 := Lib.hid hU1
  have HROW1 := Lib.hid (ownsRow_upd HROW.out hU1 (fun _ _ h => h))
  have hsz : (w.drewN nq).heap.size = w.heap.size := rfl
  have HSZ := Lib.hid hsz
  clear hU1 hsz c0 c1 c2 z0 z1 z2 H0 HROW
  generalize w.drewN nq = w1 at *
  obtain ⟨c0, c1, c2, z0, z1, z2⟩ := cells3 H1.out.blk
  have a0 : (w1.alloc (.cells #[.int .u64 rank, .int .u64 came, Value.string x] TE)).cell? ⟨b, 0, none⟩ = some (.slice ad n cp) := cell_old ((Upd.refl _ _).alloc _) c0
  go_region_law (refine step_push rfl _ _ 66 rfl 0 TE i0 Z 3 32 Try.underlying66 hi hz0 hz1 hz2 rfl (by decide) (by decide) (.slice ad n cp) n _ rfl (ownsRow_upd HROW1.out (by repeat (first | with_reducible exact Upd.refl _ _ | with_reducible refine Upd.drew ?_ | with_reducible refine Upd.alloc ?_ _)) (fun _ _ h => h)) w1.heap.size 1 [.int .u64 rank, .int .u64 came, Value.string x] rfl rfl (new_cells w1 #[.int .u64 rank, .int .u64 came, Value.string x] _) (by simp [Value.oneCell']) hn9 (Nat.zero_le _) ?_; intro v6 w6 hown6 hu6 hn6; have H6 := Lib.hid (push_facts H1.out (rank, came, x) hown6 hu6 hn6 (by repeat (first | with_reducible exact Upd.refl _ _ | with_reducible refine Upd.drew ?_ | with_reducible refine Upd.alloc ?_ _)) HN.out); obtain ⟨g6, c6, rfl⟩ := form6 hown6; obtain ⟨b0, b1, b2, y0, y1, y2⟩ := cells3 H6.out.blk; clear hown6 hu6 hn6 c0 c1 c2 z0 z1 z2 a0)
  all_goals
    go_wp2_with fail
    have H7 := H6.out.heap (by rw [HN.out]; exact HL.out) hr2 d
    refine (up_any (k := n) H7 (Nat.lt_succ_self n)).mono ?_
    rintro e w8 ⟨rfl, h8, u8⟩
    have HQ : Hid (HeapIn (Value.string) TH TE w8 b (.slice (some ⟨g6, 0, none⟩) (n + 1) c6) d room (pushL l (rank, came, x))) := Lib.hid (by unfold pushL; rw [HN.out]; exact h8)
    have HV : Hid (OwnOrNew w (.slice ad n cp) (.slice (some ⟨g6, 0, none⟩) (n + 1) c6)) := Lib.hid (fun k hk => (H6.out.own k hk).imp id (fun h => by rw [← HSZ.out]; exact h))
    have HW : Hid (Upd (HeapOf b (.slice ad n cp)) w w8) := Lib.hid (((((HU1.out.any _).trans H6.out.upd (fun _ _ h => h)).setCell (a := ⟨b, 0, none⟩) (fun _ => .inl rfl) _).setCell (a := ⟨b, 1, none⟩) (fun _ => .inl rfl) _).trans u8 (fun k hk e => by
      subst e
      rcases HV.out k rfl with h | h
      · exact .inr h
      · omega))
    clear h8 u8 H7 H6 b0 b1 b2 y0 y1 y2
    go_wp2_with fail
    go_ret
    exact ⟨rfl, _, HQ.out, HV.out, HW.out⟩
theorem push_full {w : World} {b came room : Nat} {v : Value} {l : List En} (h : HeapIn (Value.string) TH TE w b v came room l) (hl : l.length = room) (rank : Nat) (x : ByteArray) :
    Calls Try.prog 19 #[.pointer (some ⟨b, 0, none⟩), .int .u64 rank, Value.string x] w fun e w' => e = .returned (.bool false) ∧ Upd Nowhere w w' := by
  obtain ⟨ad, cp, rfl⟩ := h.row.form
  have hr2 := h.r2
  rw [hl] at h
  have d1 : decide (room ≤ room) = true := by simp
  obtain ⟨c0, c1, c2, z0, z1, z2⟩ := cells3 h.blk
  clear h hl
  go_enter Try.func19, Try.ntmps19
  go_wp2_with fail
  go_quiet (fail)
  go_wp2_with fail
  go_ret
  exact ⟨rfl, (Upd.refl _ _).drewN _⟩
theorem push_nil (w : World) (rank : Nat) (x : ByteArray) :
    Calls Try.prog 19 #[.pointer none, .int .u64 rank, Value.string x] w fun e w' => e = .returned (.bool false) ∧ Upd Nowhere w w' := by
  go_enter Try.func19, Try.ntmps19
  go_wp2_with fail
  go_quiet (fail)
  go_wp2_with fail
  go_ret
  exact ⟨rfl, (Upd.refl _ _).drewN _⟩
theorem len_some {w : World} {b came room : Nat} {v : Value} {l : List En} (h : HeapIn (Value.string) TH TE w b v came room l) :
    Calls Try.prog 21 #[.pointer (some ⟨b, 0, none⟩)] w fun e w' => e = .returned (.int .i64 l.length) ∧ w = w' := by
  obtain ⟨ad, cp, rfl⟩ := h.row.form
  obtain ⟨c0, c1, c2, z0, z1, z2⟩ := cells3 h.blk
  clear h
  go_enter Try.func21, Try.ntmps21
  go_wp2_with fail
  go_ret
  exact ⟨rfl, rfl⟩
theorem len_nil (w : World) :
    Calls Try.prog 21 #[.pointer none] w fun e w' => e = .returned (.int .i64 0) ∧ w = w' := by
  go_enter Try.func21, Try.ntmps21
  go_wp2_with fail
  go_ret
  exact ⟨rfl, rfl⟩
theorem new_bad (room : Int) (w : World) (h : room < 1 ∨ 4096 < room) :
    Calls Try.prog 18 #[.int .i64 room] w fun e w' => e = .returned (.tuple #[.pointer none, .int .i64 25]) ∧ w = w' := by
  by_cases h1 : room < 1
  · have d1 : decide (room < 1) = true := decide_eq_true h1
    go_enter Try.func18, Try.ntmps18
    go_wp2_with fail
    go_ret2
    exact ⟨rfl, rfl⟩
  · have d1 : decide (room < 1) = false := decide_eq_false h1
    have d2 : decide (4096 < room) = true := by simp; omega
    go_enter Try.func18, Try.ntmps18
    go_wp2_with fail
    go_ret2
    exact ⟨rfl, rfl⟩
theorem new_ok (room : Nat) (w : World) (h1 : 1 ≤ room) (h2 : room ≤ 4096) :
    Calls Try.prog 18 #[.int .i64 room] w fun e w' => e = .returned (.tuple #[.pointer (some ⟨w.heap.size, 0, none⟩), .int .i64 0]) ∧ HeapIn (Value.string) TH TE w' w.heap.size (.slice none 0 0) 0 room [] ∧ Upd Nowhere w w' := by
  have d1 : decide ((room : Int) < 1) = false := by simp; omega
  have d2 : decide (4096 < (room : Int)) = false := by simp; omega
  go_enter Try.func18, Try.ntmps18
  go_wp2_with fail
  go_ret2
  exact ⟨rfl, ⟨Blk.new _ _ _, ownsRow_nil _ _ _ _, by simp, h1, h2, by simp [Value.ownBlock]⟩, (Upd.refl _ _).alloc _⟩
end Go.Proofs.Ytbegljpnjcggnaa.HeapS
