/- aifo's gate: its window and its rising numbers, turned together. No program in sight. -/
import Derived.Test.YtgppbclgabdkoaaGateCore
namespace Go.Proofs.Ytgppbclgabdkoaa.Aifo
open Go.RowKit
section
variable {T TR TE : TypeId} {w w1 w2 : World} {b rb : Nat} {rg rg1 : Option Nat} {rv rv1 rv' : Value} {room most wait wait' num den : Nat} {win win' rs rs' : List Int}
theorem turned_trans (hb : ∀ k, GateOf b rb rg1 rv1 k → GateOf b rb rg rv k ∨ w.heap.size ≤ k) (hu : Upd (GateOf b rb rg rv) w w1) (t : GateTurned T TR TE w1 w2 b rb rg1 rv1 room most wait num den win) : GateTurned T TR TE w w2 b rb rg rv room most wait num den win := by
  obtain ⟨rg', rv', rs', h, hb2, hu2⟩ := t
  exact ⟨rg', rv', rs', h, fun k hk => (hb2 k hk).elim (hb k) (fun h => .inr (Nat.le_trans hu.size h)), hu.trans hu2 (fun k hkw hk => (hb k hk).elim id (fun h => absurd hkw (Nat.not_lt.2 h)))⟩
theorem turned_self (h : GateIn T TR TE w1 b rb rg rv room most wait num den win rs) (hu : Upd (GateOf b rb rg rv) w w1) : GateTurned T TR TE w w1 b rb rg rv room most wait num den win := ⟨rg, rv, rs, h, fun _ hk => .inl hk, hu⟩
theorem turned_old (t : GateTurned T TR TE w w1 b rb rg rv room most wait num den win) (hu : Upd Nowhere w1 w2) : GateTurned T TR TE w w2 b rb rg rv room most wait num den win := by
  obtain ⟨rg', rv', rs', h, hb2, hu2⟩ := t
  exact ⟨rg', rv', rs', h.old hu, hb2, hu2.trans hu (fun _ _ h => h.elim)⟩
/-- The ring has turned; then new rising numbers were made, and are stored. -/
theorem GateIn.swap (h : GateIn T TR TE w b rb rg rv room most wait num den win rs) (t : RingTurned TR TE w w1 rb rg most (win'.map (.int .u64 ·))) (hu : Upd Nowhere w1 w2) (hr : Rising w2 rv' rs') (hn : NewRow w1 rv') (hp : rs'.Perm win') (hs : rs'.Pairwise (· ≤ ·)) (hl : win'.length ≤ most) :
    GateTurned T TR TE w (w2.setCell ⟨b, 1, none⟩ rv') b rb rg rv room most wait num den win' := by
  obtain ⟨rg', hR, hsn, hu1⟩ := t
  have hbw := h.blk.lt
  have hb1 : Blk w1 b #[.pointer (some ⟨rb, 0, none⟩), rv, .int .i64 room, .int .i64 wait, .int .u64 num, .int .u64 den] T := h.blk.kept hu1 (fun hk => h.off b hk rfl)
  have hb2 := hb1.kept hu id
  have hub : Upd (fun k => k = b) w2 (w2.setCell ⟨b, 1, none⟩ rv') := Upd.setCell (S := fun k => k = b) (Upd.refl _ _) (fun _ => rfl) _
  have hrr : ∀ k, RingOf rb rg' k → RingOf rb rg k ∨ w.heap.size ≤ k := fun k hk => by
    rcases hk with rfl | hk
    · exact .inl (.inl rfl)
    · exact (hsn k hk).imp (fun h => .inr h) id
  have hoff : ∀ k, RingOf rb rg' k → k ≠ b := fun k hk => (hrr k hk).elim (h.off k) (fun h => by omega)
  have hsz := hu1.size
  refine ⟨rg', rv', rs', ⟨by simpa using hb2.set 1 rv', (hR.kept hu (fun _ _ h => h)).kept hub (fun k hk e => hoff k hk e), hr.upd hub (fun k hk e => ?_), hp, hs, h.r1, h.r2, h.r3, h.m1, h.m2, hl, h.d1, h.d2, hoff, fun k hk => ⟨fun e => ?_, fun e => ?_⟩⟩, fun k hk => ?_, ?_⟩
  · have := hn k hk; omega
  · have := hn k hk; omega
  · have := hn k hk
    have := hR.lts e
    omega
  · rcases hk with rfl | hk | hk
    · exact .inl (.inl rfl)
    · exact (hrr k hk).imp (fun h => .inr (.inl h)) id
    · exact .inr (Nat.le_trans hsz (hn k hk))
  · exact ((hu1.mono (fun k _ hk => .inr (.inl hk))).trans hu (fun _ _ h => h.elim)).setCell (fun _ => .inl rfl) _
end
end Go.Proofs.Ytgppbclgabdkoaa.Aifo
