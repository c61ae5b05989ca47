/- red's Play. -/
import Derived.Test.YtgmiggnlhcldlaaRed3
namespace Go.Proofs.Ytgmiggnlhcldlaa.Red
open Go.RowKit Go.Proofs BigFrame
open Wide (Gives)
open Root (slo fol)
set_option maxHeartbeats 2000000
set_option maxRecDepth 100000
theorem new_cells2 (w : World) (o : Obj) (c : Array Value) (t : TypeId) : ∀ (j : Nat) (u : Value), c.toList[j]? = some u → ((w.alloc o).alloc (.cells c t)).cell? ⟨w.heap.size + 1, j, none⟩ = some u := fun j u hu => by
  have h := new_cells (w.alloc o) c t j u hu
  simpa using h
theorem rs_le {A B P m c x : Nat} {s : Int} (hm : m ≤ 18446744073709551615) (hc : c ≤ 18446744073709551615) : (rs A B P s m c x).1.1 ≤ 18446744073709551615 ∧ (rs A B P s m c x).1.2 ≤ 18446744073709551615 := by
  have h := fol_le m x (slo s)
  unfold rs
  split
  · split
    · exact ⟨h, by simp⟩
    · split
      · exact ⟨h, by simp⟩
      · split
        · exact ⟨h, Nat.min_le_right _ _⟩
        · exact ⟨h, by simp⟩
  · exact ⟨hm, hc⟩
/-- The state behind k numbers. -/
def stt (A B P : Nat) (s : Int) (l : List Nat) (m c : Nat) : Nat → Nat × Nat
  | 0 => (m, c)
  | k + 1 => (rs A B P s (stt A B P s l m c k).1 (stt A B P s l m c k).2 (l.getD k 0)).1
/-- Whether number k is let go. -/
def gn (A B P : Nat) (s : Int) (l : List Nat) (m c k : Nat) : Bool := (rs A B P s (stt A B P s l m c k).1 (stt A B P s l m c k).2 (l.getD k 0)).2
theorem stt_le (A B P : Nat) (s : Int) (l : List Nat) {m c : Nat} (hm : m ≤ 18446744073709551615) (hc : c ≤ 18446744073709551615) : ∀ k, (stt A B P s l m c k).1 ≤ 18446744073709551615 ∧ (stt A B P s l m c k).2 ≤ 18446744073709551615
  | 0 => ⟨hm, hc⟩
  | k + 1 => by have h := stt_le A B P s l hm hc k; exact rs_le h.1 h.2
/-- Which are let go, as values. -/
def gns (A B P : Nat) (s : Int) (l : List Nat) (m c n : Nat) : List Value := (List.range n).map fun k => .bool (gn A B P s l m c k)
theorem gns_succ (A B P : Nat) (s : Int) (l : List Nat) (m c n : Nat) : gns A B P s l m c (n + 1) = gns A B P s l m c n ++ [.bool (gn A B P s l m c n)] := by
  unfold gns; rw [List.range_succ, List.map_append]; rfl
theorem infoB : (Try.prog.info? 4).map (fun i => (i.zero, i.size, i.bytes)) = some (some (.bool false), 1, 1) := by kernel_rfl
def nums (l : List Nat) : List Value := l.map fun (x : Nat) => .int .u64 (x : Int)
theorem nums_at {l : List Nat} {i x : Nat} (h : l[i]? = some x) : (nums l)[i]? = some (Value.int .u64 (x : Int)) := by simp [nums, h]
theorem nums_len (l : List Nat) : (nums l).length = l.length := by simp [nums]
theorem play_no (A B P : Nat) (s : Int) (v : Value) (h : ¬ok A B P s) (w : World) : Calls Try.prog 38 #[.agg #[.int .u64 A, .int .u64 B, .int .u64 P, .int .i64 s], v] w fun e w' => Gives w (.slice none 0 0) e w' := by
  have H1 := fun u => Lib.hid (check_no A B P s h u)
  clear h
  go_enter Try.func38, Try.ntmps38
  go_wp2_with fail
  refine ((H1 _).out).mono ?_
  rintro e w1 ⟨rfl, u1⟩
  have hB_c1 : Blk w1 (w.heap.size) #[.int .u64 A, .int .u64 B, .int .u64 P, .int .i64 s] 83 := (Blk.new _ _ _).kept u1 id
  have hU1 : Upd Nowhere w w1 := ((Upd.refl _ _).alloc _).trans u1 (fun _ _ h => h)
  obtain ⟨c_c0, c_c1, c_c2, c_c3, z_c0, z_c1, z_c2, z_c3⟩ := cells4 (hB_c1)
  have l_c1 := hB_c1.lt
  go_wp2_with fail
  go_ret
  exact ⟨rfl, hU1⟩
/-- What an append leaves of the other blocks. -/
theorem play_step {w w1 wk w2 : World} {ov : Value} {k : Nat} {xs : List Value} {gc gs : Nat} {cc cs cn cg : Array Value} {tc ts tn tg : TypeId} {TB : TypeId} (hown : wk.ownsRow (w1.heap.size + 1) TB 1 ov k xs)
    (hc : Blk wk gc cc tc) (hs : Blk wk gs cs ts) (_hl : gc < wk.heap.size) (hgs : gs ≤ w1.heap.size) (hgc : gc ≤ w1.heap.size) (hU : Upd Nowhere w wk) (hw : w.heap.size ≤ w1.heap.size + 1) (hu : Upd (fun b => ov.ownBlock = some b) ((wk.alloc (.cells cn tn)).alloc (.cells cg tg)) w2) :
    Blk w2 gc cc tc ∧ Blk w2 gs cs ts ∧ Blk w2 wk.heap.size cn tn ∧ Upd Nowhere w w2 ∧ wk.heap.size + 2 ≤ w2.heap.size := by
  have hb := fun b h => hown.lt b h
  have hsz := hu.size
  simp at hsz
  refine ⟨((hc.alloc _).alloc _).kept hu (fun h => ?_), ((hs.alloc _).alloc _).kept hu (fun h => ?_), ((Blk.new wk cn tn).alloc _).kept hu (fun h => ?_), ((hU.alloc _).alloc _).trans hu (fun b hb1 h => ?_), by omega⟩
  · have := (hb _ h).1; omega
  · have := (hb _ h).1; omega
  · have := (hb _ h).2; omega
  · have := (hb _ h).1; omega
theorem play_ok (A B P : Nat) (s : Int) (l : List Nat) (v : Value) (h : ok A B P s) (hl : l.length ≤ 100000) (hb : ∀ (i x : Nat), l[i]? = some x → x ≤ 18446744073709551615) (w : World) (hv : RowAt w v (nums l)) : Calls Try.prog 38 #[.agg #[.int .u64 A, .int .u64 B, .int .u64 P, .int .i64 s], v] w fun e w' => (∃ r, e = .returned r ∧ w'.ownsRow w.heap.size 4 1 r l.length (gns A B P s l 0 0 l.length)) ∧ Upd Nowhere w w' := by
  obtain ⟨i0, hi, hz0, hz1, hz2⟩ := info_parts infoB
  have H1 := fun u => Lib.hid (check_ok A B P s h u)
  have H2 := fun m c x u hm hx hc => Lib.hid (step_any A B P m c x s hm hx hc u)
  obtain ⟨ad, ca, rfl, ha0, ha1⟩ := hv
  rw [nums_len]
  obtain ⟨n, hn⟩ : ∃ n, l.length = n := ⟨_, rfl⟩
  rw [hn] at hl ⊢
  have Hn := Lib.hid hn
  have Hb := Lib.hid hb
  have Ha0 := Lib.hid ha0
  have Ha := Lib.hid ha1
  have HST := Lib.hid (stt_le A B P s l (m := 0) (c := 0) (by omega) (by omega))
  clear hn hb ha0 ha1 h
  go_enter Try.func38, Try.ntmps38
  go_wp2_with fail
  refine ((H1 _).out).mono ?_
  rintro e w1 ⟨rfl, u1⟩
  have hB_c1 : Blk w1 (w.heap.size) #[.int .u64 A, .int .u64 B, .int .u64 P, .int .i64 s] 83 := (Blk.new _ _ _).kept u1 id
  have hU1 : Upd Nowhere w w1 := ((Upd.refl _ _).alloc _).trans u1 (fun _ _ h => h)
  obtain ⟨c_c0, c_c1, c_c2, c_c3, z_c0, z_c1, z_c2, z_c3⟩ := cells4 (hB_c1)
  have l_c1 := hB_c1.lt
  go_wp2_with fail
  go_loopw [5, 17] (fun ov i wr => ∃ (k m c : Nat), k ≤ n ∧ i = .int .i64 k ∧ stt A B P s l 0 0 k = (m, c) ∧ wr.ownsRow (w1.heap.size + 1) 4 1 ov k (gns A B P s l 0 0 k) ∧ Blk wr (w.heap.size) #[.int .u64 A, .int .u64 B, .int .u64 P, .int .i64 s] 83 ∧ Blk wr (w1.heap.size) #[.int .u64 m, .int .u64 c] 82 ∧ w1.heap.size + 1 ≤ wr.heap.size ∧ Upd Nowhere w wr) (fun _ i _ => n - (intOf i).toNat)
  case atStart => exact ⟨0, 0, 0, by omega, rfl, rfl, ownsRow_nil _ _ _ _, hB_c1.alloc _, Blk.new _ _ _, by simp, hU1.alloc _⟩
  case round =>
    obtain ⟨k, m, c, hk, rfl, hst, hown, hB_c, hB_s, hsz, hU⟩ := hrel
    have HS := Lib.hid hst
    clear hst hB_c1 hU1 c_c0 c_c1 c_c2 c_c3 z_c0 z_c1 z_c2 z_c3
    by_cases hlt : k < n
    · obtain ⟨x, hx⟩ : ∃ x, l[k]? = some x := ⟨l[k]'(by rw [Hn.out]; exact hlt), by simp⟩
      have hxb := Hb.out k x hx
      have hxd : l.getD k 0 = x := by simp [List.getD, hx]
      cases ad with
      | none => have h0 := (Ha0.out rfl).1; have h3 := nums_at hx; rw [h0] at h3; simp at h3
      | some aa =>
      obtain ⟨hsa, ea⟩ := Ha.out aa rfl k _ (nums_at hx)
      obtain ⟨ga, oa, sa⟩ := aa
      simp only at hsa ea
      subst hsa
      have hga := cell_lt ea
      have ea' : wr.cell? ⟨ga, oa + k, none⟩ = some (.int .u64 x) := (hU.cell _ hga id).trans ea
      have hI : (k : Int) < n := by omega
      obtain ⟨bm, bc⟩ := HST.out k
      rw [HS.out] at bm bc
      obtain ⟨⟨⟨m', c'⟩, g⟩, hr⟩ : ∃ r, rs A B P s m c x = r := ⟨_, rfl⟩
      have h2 := fun u => (H2 m c x u bm hxb bc).out
      rw [hr] at h2
      have H2' := fun u => Lib.hid (h2 u)
      have HS' : Hid (stt A B P s l 0 0 (k + 1) = (m', c')) := Lib.hid (by rw [stt, HS.out, hxd, hr])
      have HG : Hid (gn A B P s l 0 0 k = g) := Lib.hid (by unfold gn; rw [HS.out, hxd, hr])
      clear h2 hr hx hxd ea bm bc H2
      obtain ⟨c_c0, c_c1, c_c2, c_c3, z_c0, z_c1, z_c2, z_c3⟩ := cells4 (hB_c)
      obtain ⟨c_s0, c_s1, z_s0, z_s1⟩ := cells2 (hB_s)
      go_wp2_with fail
      refine ((H2' _).out).mono ?_
      rintro e w11 ⟨rfl, u11⟩
      clear c_c0 c_c1 c_c2 c_c3 z_c0 z_c1 z_c2 z_c3
      clear c_s0 c_s1 z_s0 z_s1
      have hB_c11 : Blk w11 (w.heap.size) #[.int .u64 A, .int .u64 B, .int .u64 P, .int .i64 s] 83 := (hB_c).kept u11 id
      have hB_s11 : Blk w11 (w1.heap.size) #[.int .u64 m, .int .u64 c] 82 := (hB_s).kept u11 id
      have hU11 : Upd Nowhere w w11 := (hU).trans u11 (fun _ _ h => h)
      obtain ⟨c_c0, c_c1, c_c2, c_c3, z_c0, z_c1, z_c2, z_c3⟩ := cells4 (hB_c11)
      obtain ⟨c_s0, c_s1, z_s0, z_s1⟩ := cells2 (hB_s11)
      have l_c11 := hB_c11.lt
      have l_s11 := hB_s11.lt
      have hown11 := ownsRow_upd hown u11 (fun _ _ h => h)
      go_wp2_with (at_builtin; refine wpList_push rfl _ _ 90 rfl (w1.heap.size + 1) 4 i0 (.bool false) 1 1 Try.underlying90 hi hz0 hz1 hz2 rfl (by decide) (by decide) _ _ _ rfl ((hown11.alloc _).alloc _) (w11.heap.size + 1) 1 [.bool g] rfl rfl (new_cells2 _ _ #[_] _) (by simp [Value.oneCell']) (by omega) (by have := u11.size; simp; omega) ?_; intro v2 w2 hown2 hu2 hn2; obtain ⟨hBc2, hBs2, hBn2, hU2, hsz2⟩ := play_step hown11 hB_c11 hB_s11 l_c11 (Nat.le_refl _) (by omega) hU11 (by omega) hu2; obtain ⟨c_c0, c_c1, c_c2, c_c3, z_c0, z_c1, z_c2, z_c3⟩ := cells4 hBc2; obtain ⟨c_s0, c_s1, z_s0, z_s1⟩ := cells2 hBs2; obtain ⟨c_n0, c_n1, z_n0, z_n1⟩ := cells2 hBn2)
      go_roundw
      case rel =>
        refine ⟨k + 1, m', c', by omega, by go_num, HS'.out, ?_, ?_, ?_, ?_, ?_⟩
        · rw [gns_succ, HG.out]; exact ownsRow_upd hown2 (S := fun b => b = w1.heap.size) (by refine Upd.setCell (Upd.setCell (Upd.refl _ _) ?_ _) ?_ _ <;> exact fun _ => rfl) (fun b hb he => by have := (hown2.lt b hb).1; omega)
        · exact hBc2.far2 (g := w1.heap.size) (by omega) _ _
        · exact hBs2.put2 _ _
        · simp; omega
        · exact hU2.put2 (g := w1.heap.size) (by omega) _ _
      case measure => simp [intOf]; omega
    · obtain rfl : k = n := by omega
      clear HS
      go_wp2_with fail
      go_ret
      exact ⟨⟨_, rfl, ownsRow_base hown (by have := hU.size; omega)⟩, hU⟩
end Go.Proofs.Ytgmiggnlhcldlaa.Red
