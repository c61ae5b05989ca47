/- EgC3, one behind the other. -/
import Derived.Test.YtdddfmdcjjbegaaGreatMeC2
namespace Go.Proofs.YtdddfmdcjjbegaaGreat.Egs
open Go.RowKit Go.Proofs BigFrame
open RingW (It KI zI ZI VI TE)
open First (Cf VC TCl)
set_option maxHeartbeats 40000000
set_option maxRecDepth 1000000
set_option linter.unusedSimpArgs false
theorem plan_check {w : World} {ap : Option Addr} {cp : Nat} {pl : List (Nat × Nat)} (h : PlnAt w ap pl) (hl : 0 < pl.length) : ∀ u, Upd Nowhere w u → Calls Tryz.prog 50 #[.slice ap pl.length cp] u fun e w' => e = .returned (.int .i64 (Plan.chk pl)) ∧ Upd Nowhere u w' := fun u hu => by
 by_cases h6 : 64 < pl.length
 · exact Plan.check_size u (.inr h6)
 · obtain ⟨g, o, rfl, _, hA⟩ := h hl
   exact Plan.check_any (hA.old hu) hl (by omega)
theorem checkE_run {w : World} {cs : List Cf} {ad ap : Option Addr} {cc cp pace : Nat} {pl : List (Nat × Nat)} (hC : ClsAt w ad cs) (hP : PlnAt w ap pl) (h1 : 1 ≤ cs.length) (h2 : cs.length ≤ 8) (hp1 : 1 ≤ pace) (hp2 : pace ≤ 65536) :
 Calls Tryz.prog 27 #[.agg #[.slice ad cs.length cc, .slice ap pl.length cp, .int .u64 pace]] w fun x w' => x = .returned (.int .i64 (chkE cs pl pace : Nat)) ∧ Upd Nowhere w w' := by
 have hU : Upd Nowhere w (w.alloc (.cells #[.slice ad cs.length cc, .slice ap pl.length cp, .int .u64 pace] TCo)) := (Upd.refl _ _).alloc _
 have hB : Blk (w.alloc (.cells #[.slice ad cs.length cc, .slice ap pl.length cp, .int .u64 pace] TCo)) w.heap.size #[.slice ad cs.length cc, .slice ap pl.length cp, .int .u64 pace] TCo := Blk.new _ _ _
 have hch : chkE cs pl pace = if 0 < pl.length ∧ Plan.ok pl = false then 6 else fstE cs := by unfold chkE; rw [if_neg (by omega), if_neg (by omega)]
 rw [hch]
 obtain ⟨n, hn⟩ : ∃ n, cs.length = n := ⟨_, rfl⟩
 have HPC := fun hl u hu => Lib.hid (plan_check (cp := cp) hP hl u hu)
 obtain ⟨m, hm⟩ : ∃ m, pl.length = m := ⟨_, rfl⟩
 rw [hm] at HPC hU hB ⊢
 rw [hn] at hU hB h1 h2 ⊢
 have d0 : ((n : Int) == 0) = false := by simp; omega
 have d1 : decide ((8 : Int) < (n : Int)) = false := decide_eq_false (by omega)
 have d2 : decide (8 < n) = false := decide_eq_false (by omega)
 have d3 : decide (pace < 1) = false := decide_eq_false (by omega)
 have d4 : decide ((pace : Int) < 1) = false := decide_eq_false (by omega)
 have d5 : decide (pace = 0) = false := decide_eq_false (by omega)
 have d6 : decide (65536 < pace) = false := decide_eq_false (by omega)
 have d7 : decide ((65536 : Int) < (pace : Int)) = false := decide_eq_false (by omega)
 have HN := Lib.hid hn
 have HC := Lib.hid hC
 have HB := fun u (hu : Upd Nowhere (w.alloc (.cells #[.slice ad n cc, .slice ap m cp, .int .u64 pace] TCo)) u) => Lib.hid (show u.cell? ⟨w.heap.size, 0, none⟩ = some (.slice ad n cc) from cell_old hu (hB.cellAt rfl))
 have hn8 : n ≤ 8 := h2
 obtain ⟨R, hR⟩ : ∃ R, fstE cs = R := ⟨_, rfl⟩
 rw [hR]
 have HR := Lib.hid hR
 have HU := Lib.hid hU
 clear hB hch hn hC hP h1 h2 hp1 hp2 hR hU
 by_cases hm0 : m = 0
 · as_aux_lemma =>
   subst hm0
   rw [if_neg (by omega)]
   go_enter Tryz.func27, Tryz.ntmps27
   go_upto_region 9 with fail
   have UB := Upd.refl Nowhere (w.alloc (.cells #[.slice ad n cc, .slice ap 0 cp, .int .u64 pace] TCo))
   have k0 := (HB _ UB).out
   have HUB := Lib.hid (HU.out.trans UB (fun _ _ h => h))
   go_wp2_with fail
   go_loopg [5, 6, 40] (n + 1) (fun gk _ _ v40 wr => ∃ (i : Nat), n - i < gk ∧ i ≤ n ∧ v40 = .int .i64 i ∧ Upd Nowhere w wr ∧ Hid (fstE (cs.drop i) = R))
   case atStart => exact ⟨0, by omega, Nat.zero_le _, rfl, HUB.out, HR⟩
   case round =>
    as_aux_lemma =>
    obtain ⟨i, hgk, hin, rfl, hu, HRi⟩ := hrel
    obtain ⟨wB, rfl⟩ : ∃ x, x = wr := ⟨_, rfl⟩
    have HGK := Lib.hid hgk
    have HU2 := Lib.hid hu
    clear hgk hu HR HUB k0
    rcases Nat.lt_or_ge i n with hlt | hge
    · obtain ⟨x, hx⟩ : ∃ x, cs[i]? = some x := ⟨cs[i]'(by have := HN.out; omega), by simp⟩
      have hst := fstE_step hx
      obtain ⟨g, o, rfl, m0, m1, m2, m3, m4, m5, m6, m7, m8, m9, m10, m11, m12, m13, m14, m15⟩ := (HC.out.old HU2.out).cells hx
      have HK := fun u => Lib.hid (check_any (w := u) (c := x))
      obtain ⟨r, hr⟩ : ∃ r, chkS x = r := ⟨_, rfl⟩
      rw [hr] at HK hst
      rw [HRi.out] at hst
      have HST := Lib.hid hst
      have hI : (i : Int) < n := by omega
      clear hx hst hr
      go_wp2_with fail
      refine (HK _).out.mono ?_
      rintro y w3 ⟨rfl, u3⟩
      have HU3 : Hid (Upd Nowhere wB w3) := Lib.hid (((Upd.refl _ _).alloc _).trans u3 (fun _ _ h => h))
      clear m0 m1 m2 m3 m4 m5 m6 m7 m8 m9 m10 m11 m12 m13 m14 m15 u3 HK
      by_cases hr0 : r = 0
      · subst hr0
        go_wp2_with fail
        go_roundg (n - i)
        case rel => exact ⟨i + 1, by omega, by omega, rfl, HU2.out.trans HU3.out (fun _ _ h => h), Lib.hid (by have := HST.out; simp at this; exact this.symm)⟩
        case measure => have := HGK.out; omega
      · have dr : ((r : Int) != 0) = true := by simp; omega
        have hRr : R = r := by have := HST.out; rw [if_neg hr0] at this; exact this
        subst hRr
        go_wp2_with fail
        go_ret
        exact ⟨rfl, HU2.out.trans HU3.out (fun _ _ h => h)⟩
    · obtain rfl : i = n := by omega
      have dI : decide ((i : Int) < i) = false := by simp
      have hR0 : R = 0 := by
       have := HRi.out
       rw [List.drop_eq_nil_of_le (by have := HN.out; omega)] at this
       exact this.symm
      subst hR0
      go_wp2_with fail
      go_ret
      exact ⟨rfl, HU2.out⟩
 · have e0 : decide ((0 : Int) < (m : Int)) = true := decide_eq_true (by omega)
   have e1 : decide (0 < m) = true := decide_eq_true (by omega)
   have HPC2 := HPC (by omega)
   cases hok : Plan.ok pl with
   | false =>
     as_aux_lemma =>
     have hck : Plan.chk pl = 6 := by unfold Plan.chk; rw [hok]; rfl
     rw [hck] at HPC2
     rw [if_pos ⟨by omega, rfl⟩]
     clear HPC hm0 hck
     go_enter Tryz.func27, Tryz.ntmps27
     go_wp2_with fail
     refine ((HPC2 _ HU.out).out).mono ?_
     rintro x w2 ⟨rfl, u2⟩
     go_wp2_with fail
     go_ret
     exact ⟨rfl, HU.out.trans u2 (fun _ _ h => h)⟩
   | true =>
     as_aux_lemma =>
     have hck : Plan.chk pl = 0 := by unfold Plan.chk; rw [hok]; rfl
     rw [hck] at HPC2
     rw [if_neg (by simp)]
     clear HPC hm0 hck
     go_enter Tryz.func27, Tryz.ntmps27
     go_wp2_with fail
     refine ((HPC2 _ HU.out).out).mono ?_
     rintro x w2 ⟨rfl, u2⟩
     go_upto_region 9 with fail
     have UB := u2
     have k0 := (HB _ UB).out
     have HUB := Lib.hid (HU.out.trans UB (fun _ _ h => h))
     go_wp2_with fail
     go_loopg [5, 6, 40] (n + 1) (fun gk _ _ v40 wr => ∃ (i : Nat), n - i < gk ∧ i ≤ n ∧ v40 = .int .i64 i ∧ Upd Nowhere w wr ∧ Hid (fstE (cs.drop i) = R))
     case atStart => exact ⟨0, by omega, Nat.zero_le _, rfl, HUB.out, HR⟩
     case round =>
      as_aux_lemma =>
      obtain ⟨i, hgk, hin, rfl, hu, HRi⟩ := hrel
      obtain ⟨wB, rfl⟩ : ∃ x, x = wr := ⟨_, rfl⟩
      have HGK := Lib.hid hgk
      have HU2 := Lib.hid hu
      clear hgk hu HR HUB k0
      rcases Nat.lt_or_ge i n with hlt | hge
      · obtain ⟨x, hx⟩ : ∃ x, cs[i]? = some x := ⟨cs[i]'(by have := HN.out; omega), by simp⟩
        have hst := fstE_step hx
        obtain ⟨g, o, rfl, m0, m1, m2, m3, m4, m5, m6, m7, m8, m9, m10, m11, m12, m13, m14, m15⟩ := (HC.out.old HU2.out).cells hx
        have HK := fun u => Lib.hid (check_any (w := u) (c := x))
        obtain ⟨r, hr⟩ : ∃ r, chkS x = r := ⟨_, rfl⟩
        rw [hr] at HK hst
        rw [HRi.out] at hst
        have HST := Lib.hid hst
        have hI : (i : Int) < n := by omega
        clear hx hst hr
        go_wp2_with fail
        refine (HK _).out.mono ?_
        rintro y w3 ⟨rfl, u3⟩
        have HU3 : Hid (Upd Nowhere wB w3) := Lib.hid (((Upd.refl _ _).alloc _).trans u3 (fun _ _ h => h))
        clear m0 m1 m2 m3 m4 m5 m6 m7 m8 m9 m10 m11 m12 m13 m14 m15 u3 HK
        by_cases hr0 : r = 0
        · subst hr0
          go_wp2_with fail
          go_roundg (n - i)
          case rel => exact ⟨i + 1, by omega, by omega, rfl, HU2.out.trans HU3.out (fun _ _ h => h), Lib.hid (by have := HST.out; simp at this; exact this.symm)⟩
          case measure => have := HGK.out; omega
        · have dr : ((r : Int) != 0) = true := by simp; omega
          have hRr : R = r := by have := HST.out; rw [if_neg hr0] at this; exact this
          subst hRr
          go_wp2_with fail
          go_ret
          exact ⟨rfl, HU2.out.trans HU3.out (fun _ _ h => h)⟩
      · obtain rfl : i = n := by omega
        have dI : decide ((i : Int) < i) = false := by simp
        have hR0 : R = 0 := by
         have := HRi.out
         rw [List.drop_eq_nil_of_le (by have := HN.out; omega)] at this
         exact this.symm
        subst hR0
        go_wp2_with fail
        go_ret
        exact ⟨rfl, HU2.out⟩
end Go.Proofs.YtdddfmdcjjbegaaGreat.Egs

