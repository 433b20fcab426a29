/- Plain: the legal cards of a table of a deal by masks of suits (for finesselaw14.LeadPenalty). -/
import Derived.Test.YtgnlmodaekfhfaaDoorMLdx
import Derived.Test.YtgnlmodaekfhfaaDoorLdDm
namespace Go.Proofs.YtgnlmodaekfhfaaDoor
open Go.RowKit Go.Shelf Go.Sort

variable {d : Nat → Nat} {n : Nat} {s : St}
theorem land_sm_ne {m k : Nat} (hm : m < 4503599627370496) (hk : k < 4) : land m (sm k) ≠ 0 ↔ hasS k m = true := by
  rw [hasS_iff (w64_52 hm)]
  constructor
  · intro h
    have hw : W64 (land m (sm k)) := (w64_52 hm).land
    have h1 := (ctz_bit _ h hw).1
    rw [testBit_land, Bool.and_eq_true, sm_bit, Bool.and_eq_true, decide_eq_true_eq, decide_eq_true_eq] at h1
    refine ⟨_, h1.1, ?_⟩
    unfold suit
    rw [if_pos (by omega)]; omega
  · rintro ⟨x, hx, hs⟩ h
    have h52 := y_bit_lt (n := 52) hm hx
    unfold suit at hs
    rw [if_pos h52] at hs
    have : (land m (sm k)).testBit x = true := by
      rw [testBit_land, hx, sm_bit, Bool.true_and, Bool.and_eq_true, decide_eq_true_eq, decide_eq_true_eq]; omega
    rw [h, Nat.zero_testBit] at this; cases this
/-- the cards that can follow -/
theorem SCore.can_follow (h : SCore d n s) (h0 : 0 < s.ct) : s.can = if land (s.h s.turn) (sm (s.cs 0 / 13)) ≠ 0 then land (s.h s.turn) (sm (s.cs 0 / 13)) else s.h s.turn := by
  have hh := h.ok.h _ s.turn_lt
  have h52 := h.ok.cs 0 (by omega)
  have hk : s.cs 0 / 13 < 4 := by omega
  have hz : s.trick.getD 0 0 = s.cs 0 := trick_get s h0
  have hsu : suit (s.cs 0) = s.cs 0 / 13 := by unfold suit; rw [if_pos h52]
  unfold St.can
  rw [if_neg (by omega)]
  apply Nat.eq_of_testBit_eq
  intro c
  rw [playable_bit hh h.trick3 h.trick52 h.nd (h.trickNo s.turn_lt), hz, hsu, trick_len, decide_eq_false (show ¬ s.ct = 0 by omega), Bool.false_or]
  by_cases hs : land (s.h s.turn) (sm (s.cs 0 / 13)) ≠ 0
  · rw [if_pos hs, (land_sm_ne hh hk).1 hs, testBit_land, sm_bit]
    cases hb : (s.h s.turn).testBit c
    · rfl
    · have hc := y_bit_lt (n := 52) hh hb
      unfold suit
      rw [if_pos hc, Bool.eq_iff_iff]
      simp only [Bool.true_and, Bool.not_true, Bool.or_false, decide_eq_true_eq, Bool.and_eq_true]
      omega
  · rw [if_neg hs]
    have : hasS (s.cs 0 / 13) (s.h s.turn) = false := by
      cases hq : hasS (s.cs 0 / 13) (s.h s.turn)
      · rfl
      · exact absurd ((land_sm_ne hh hk).2 hq) hs
    rw [this]; simp
theorem pick_pick (l p : Nat) : pick (pick l p) p = pick l p := by
  have hi : land (land l p) p = land l p := by
    apply Nat.eq_of_testBit_eq; intro c; rw [testBit_land, testBit_land]; cases l.testBit c <;> cases p.testBit c <;> rfl
  unfold pick
  by_cases h : land l p ≠ 0
  · rw [if_pos h, hi, if_pos h]
  · rw [if_neg h, if_neg h]
/-- what LeadPenalty computes -/
def canP (s : St) : Nat :=
  if 0 < s.ct then (if 0 < land (s.h s.turn) (sm (s.cs 0 / 13)) then land (s.h s.turn) (sm (s.cs 0 / 13)) else s.h s.turn)
  else if 0 < s.must ||| s.nt then s.legal else s.h s.turn
theorem or_zero {a b : Nat} (h : a ||| b = 0) : a = 0 ∧ b = 0 := by
  constructor <;> apply Nat.eq_of_testBit_eq <;> intro i <;> have := congrArg (fun x => x.testBit i) h <;> simp only [Nat.testBit_or, Nat.zero_testBit, Bool.or_eq_false_iff] at this ⊢
  · exact this.1
  · exact this.2
theorem pen_plain (hi : SInv d n s) (ht : s.turnV.2 = 0) : s.turnV = (s.turn, 0) ∧ pick (canP s) (s.pn s.turn) = s.legal ∧ s.legal ≠ 0 ∧ landn (s.h s.turn) s.legal = landn (s.h s.turn) s.legal ∧ landn s.legal (s.h s.turn) = 0 := by
  unfold St.turnV at ht
  have hp : s.pend = false := by
    cases h : s.pend
    · rfl
    · rw [if_pos h] at ht; cases ht
  rw [if_neg (by rw [hp]; decide)] at ht
  have ho : s.over = false := by
    cases h : s.over
    · rfl
    · rw [if_pos h] at ht; cases ht
  refine ⟨by unfold St.turnV; rw [hp, ho]; rfl, ?_, hi.legal_ne ho hp, rfl, ?_⟩
  · have hl : s.legal = pick s.can (s.pn s.turn) := by unfold St.legal; rw [hp, if_neg (by decide)]
    unfold canP
    by_cases h0 : 0 < s.ct
    · rw [if_pos h0, hl, hi.toSCore.can_follow h0]
      congr 1
      by_cases h1 : land (s.h s.turn) (sm (s.cs 0 / 13)) = 0
      · rw [h1]; simp
      · rw [if_pos (Nat.pos_of_ne_zero h1), if_pos h1]
    · rw [if_neg h0]
      by_cases h1 : 0 < s.must ||| s.nt
      · rw [if_pos h1]
        rw [hl, pick_pick]
      · rw [if_neg h1, hl]
        obtain ⟨e1, e2⟩ := or_zero (Nat.eq_zero_of_not_pos h1)
        unfold St.can
        rw [if_pos (by omega), e1, e2, leadsV_none]
  · apply Nat.eq_of_testBit_eq
    intro c
    rw [testBit_landn, Nat.zero_testBit]
    cases hb : s.legal.testBit c
    · rfl
    · rw [hi.toSCore.legal_sub hb]; rfl
end Go.Proofs.YtgnlmodaekfhfaaDoor
