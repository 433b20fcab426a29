/- Plain: what the reference of chapter 14 computes is what the table has: legal cards, the winner of a trick, choices. -/
import Derived.Test.YtgnlmodaekfhfaaDoorMLdx
namespace Go.Proofs.YtgnlmodaekfhfaaDoor
open Go.RowKit Go.Shelf Go.Sort

/-- the reference's order of the cards of a trick -/
def worthI (tm led c : Nat) : Int := if c / 13 = tm then 200 + (c : Int) else if c / 13 = led then 100 + (c : Int) else (c : Int) - 100
theorem worth_best (tm : Nat) (zs : List Nat) (h52 : ∀ i, zs.getD i 0 < 52) : ∀ k,
    bestTo (worthI tm (zs.getD 0 0 / 13)) zs k = bestTo (fun c => (strength tm (suit (zs.getD 0 0)) c : Int)) zs k ∧ 0 < strength tm (suit (zs.getD 0 0)) (zs.getD (bestTo (fun c => (strength tm (suit (zs.getD 0 0)) c : Int)) zs k) 0)
  | 0 => by
    refine ⟨rfl, ?_⟩
    show 0 < strength tm (suit (zs.getD 0 0)) (zs.getD 0 0)
    unfold strength
    split
    · omega
    · rw [if_pos rfl]; omega
  | k + 1 => by
    obtain ⟨ih, hp⟩ := worth_best tm zs h52 k
    rw [bestTo, bestTo, ih]
    generalize bestTo (fun c => (strength tm (suit (zs.getD 0 0)) c : Int)) zs k = b at *
    have hb := h52 b
    have hk := h52 k
    have hz := h52 0
    have e : (worthI tm (zs.getD 0 0 / 13) (zs.getD b 0) < worthI tm (zs.getD 0 0 / 13) (zs.getD k 0)) ↔ ((strength tm (suit (zs.getD 0 0)) (zs.getD b 0) : Int) < (strength tm (suit (zs.getD 0 0)) (zs.getD k 0) : Int)) := by
      generalize zs.getD b 0 = x at *
      generalize zs.getD k 0 = y at *
      generalize zs.getD 0 0 = z at *
      have sx : strength tm (suit z) x = if x / 13 = tm then 14 + x % 13 else if x / 13 = z / 13 then 1 + x % 13 else 0 := by unfold strength rank; rw [y_suit_div hb, y_suit_div hz, if_pos hb]
      have sy : strength tm (suit z) y = if y / 13 = tm then 14 + y % 13 else if y / 13 = z / 13 then 1 + y % 13 else 0 := by unfold strength rank; rw [y_suit_div hk, y_suit_div hz, if_pos hk]
      rw [sx] at hp ⊢
      rw [sy]
      unfold worthI
      by_cases x1 : x / 13 = tm
      · simp only [if_pos x1] at hp ⊢
        by_cases y1 : y / 13 = tm
        · simp only [if_pos y1]; omega
        · simp only [if_neg y1]
          split <;> omega
      · simp only [if_neg x1] at hp ⊢
        by_cases x2 : x / 13 = z / 13
        · simp only [if_pos x2] at hp ⊢
          by_cases y1 : y / 13 = tm
          · simp only [if_pos y1]; omega
          · simp only [if_neg y1]
            split <;> omega
        · simp only [if_neg x2] at hp
          omega
    by_cases hc : (strength tm (suit (zs.getD 0 0)) (zs.getD b 0) : Int) < (strength tm (suit (zs.getD 0 0)) (zs.getD k 0) : Int)
    · rw [if_pos hc, if_pos (e.2 hc)]
      exact ⟨rfl, by omega⟩
    · rw [if_neg hc, if_neg (fun h => hc (e.1 h))]
      exact ⟨rfl, hp⟩
variable {d : Nat → Nat} {n : Nat} {s : St}
theorem range_map3 (f : Nat → Nat) : (List.range 3).map f = [f 0, f 1, f 2] := rfl
/-- the winner, as the reference finds it -/
theorem win_worth (h : SCore d n s) (h3 : s.ct = 3) {c : Nat} (hc : (s.h s.turn).testBit c = true) :
    s.win c = (s.ld + bestTo (worthI s.tm (s.cs 0 / 13)) [s.cs 0, s.cs 1, s.cs 2, c] 4) % 4 := by
  have hc52 := h.bit52 s.turn_lt hc
  have ht : s.trick = [s.cs 0, s.cs 1, s.cs 2] := by unfold St.trick; rw [h3]; rfl
  have hnd := h.nd
  have hno := h.trickNo s.turn_lt
  have h52 := h.trick52
  rw [ht] at hnd hno h52
  have a0 := h52 (s.cs 0) (by simp)
  have a1 := h52 (s.cs 1) (by simp)
  have a2 := h52 (s.cs 2) (by simp)
  have ne : ∀ x ∈ [s.cs 0, s.cs 1, s.cs 2], x ≠ c := fun x hx e => by
    have := hno x hx
    rw [e, hc] at this; cases this
  have n0 := ne (s.cs 0) (by simp)
  have n1 := ne (s.cs 1) (by simp)
  have n2 := ne (s.cs 2) (by simp)
  have hr : rightB [s.cs 0, s.cs 1, s.cs 2, c] = true := by
    rw [y_rightB_iff]
    refine ⟨by simp, by simp, fun x hx => ?_, ?_⟩
    · simp only [List.mem_cons, List.not_mem_nil, or_false] at hx
      rcases hx with rfl | rfl | rfl | rfl <;> assumption
    · simp only [List.nodup_cons, List.mem_cons, List.not_mem_nil, or_false, not_or, List.nodup_nil, not_false_eq_true, and_true] at hnd ⊢
      exact ⟨⟨hnd.1.1, hnd.1.2, n0⟩, ⟨hnd.2, n1⟩, n2⟩
  have hb := (worth_best s.tm [s.cs 0, s.cs 1, s.cs 2, c] (fun i => by
    rcases (show i = 0 ∨ i = 1 ∨ i = 2 ∨ i = 3 ∨ 4 ≤ i by omega) with rfl | rfl | rfl | rfl | hi
    · exact a0
    · exact a1
    · exact a2
    · exact hc52
    · rw [List.getD_eq_getElem?_getD, List.getElem?_eq_none (by simpa using hi)]; show 0 < 52; omega) 4).1
  unfold St.win seatV winnerV
  have hl := h.ok.ld
  have htm := h.ok.tm
  simp only [if_neg (show ¬ 3 < s.ld by omega), if_neg (show ¬ 4 < s.tm by omega), hr, if_true]
  rw [show (s.cs 0 / 13) = ([s.cs 0, s.cs 1, s.cs 2, c].getD 0 0 / 13) from rfl, hb]
  rfl
/-- the legal cards, as the reference finds them -/
def someV (s : St) (all : Nat) : Nat :=
  if 0 < s.ct then land all (suitsM (2 ^ (s.cs 0 / 13))) else if land all (suitsM s.must) = 0 then land all (suitsM (15 - s.nt % 16)) else land all (suitsM s.must)
def orAll (x all : Nat) : Nat := if x = 0 then all else x
theorem not_suits {hand nt : Nat} (hh : hand < 4503599627370496) (hn : nt < 16) : land hand (suitsM (15 - nt % 16)) = landn hand (suitsM nt) := by
  apply Nat.eq_of_testBit_eq
  intro i
  rw [testBit_land, testBit_landn, suitsM_bit, suitsM_bit]
  cases hb : hand.testBit i
  · rfl
  · have hi := y_bit_lt (n := 52) hh hb
    have hi4 : i / 13 < 4 := by omega
    simp only [hi, decide_true, Bool.true_and]
    generalize i / 13 = q at hi4
    have : ∀ nt < 16, ∀ q < 4, (15 - nt % 16).testBit q = !nt.testBit q := by decide
    exact this nt hn q hi4
theorem two_bit (q k : Nat) : (2 ^ q).testBit k = decide (q = k) := Nat.testBit_two_pow
theorem can_ref (h : SCore d n s) : s.can = orAll (someV s (s.h s.turn)) (s.h s.turn) := by
  have hh := h.ok.h _ s.turn_lt
  by_cases h0 : s.ct = 0
  · have e1 : s.can = leadsV (s.h s.turn) s.must s.nt := by unfold St.can; rw [if_pos h0]
    have e2 : someV s (s.h s.turn) = if land (s.h s.turn) (suitsM s.must) = 0 then landn (s.h s.turn) (suitsM s.nt) else land (s.h s.turn) (suitsM s.must) := by
      unfold someV; rw [if_neg (show ¬ 0 < s.ct by omega), not_suits hh h.ok.nt]
    rw [e1, e2]
    unfold leadsV orAll
    by_cases h1 : land (s.h s.turn) (suitsM s.must) = 0
    · simp only [h1, ne_eq, not_true_eq_false, if_false, if_true]
      by_cases h2 : landn (s.h s.turn) (suitsM s.nt) = 0
      · rw [if_neg (fun k => k h2), if_pos h2]
      · rw [if_pos h2, if_neg h2]
    · simp only [if_neg h1]
      rw [if_pos h1]
  · have e1 : s.can = (playableV (s.h s.turn) s.trick).1 := by unfold St.can; rw [if_neg h0]
    have e2 : someV s (s.h s.turn) = land (s.h s.turn) (suitsM (2 ^ (s.cs 0 / 13))) := by
      unfold someV; rw [if_pos (show 0 < s.ct by omega)]
    rw [e1, e2]
    unfold orAll
    have hct := h.ok.ct
    have hw : W64 (s.h s.turn) := w64_52 hh
    have e3 : s.trick.getD 0 0 = s.cs 0 := trick_get s (by omega)
    have e4 : suit (s.cs 0) = s.cs 0 / 13 := y_suit_div (h.ok.cs 0 (by omega))
    have hb := playable_bit hh h.trick3 h.trick52 h.nd (h.trickNo s.turn_lt)
    rw [trick_len, e3, e4, decide_eq_false h0] at hb
    have hs := hasS_iff (s := s.cs 0 / 13) hw
    have hlb : ∀ i, (land (s.h s.turn) (suitsM (2 ^ (s.cs 0 / 13)))).testBit i = ((s.h s.turn).testBit i && decide (suit i = s.cs 0 / 13)) := by
      intro i
      rw [testBit_land, suitsM_bit, two_bit]
      cases hbi : (s.h s.turn).testBit i
      · rfl
      · have hi := y_bit_lt (n := 52) hh hbi
        rw [y_suit_div hi]
        simp only [hi, decide_true, Bool.true_and]
        rw [decide_eq_decide]; exact eq_comm
    apply Nat.eq_of_testBit_eq
    intro i
    rw [hb i]
    by_cases hz : land (s.h s.turn) (suitsM (2 ^ (s.cs 0 / 13))) = 0
    · rw [if_pos hz]
      have hno : hasS (s.cs 0 / 13) (s.h s.turn) = false := by
        rw [Bool.eq_false_iff]
        intro hc
        obtain ⟨x, hx, he⟩ := hs.1 hc
        have := hlb x
        rw [hz, hx, he] at this; simp at this
      rw [hno]; simp
    · rw [if_neg hz, hlb]
      have hyes : hasS (s.cs 0 / 13) (s.h s.turn) = true := by
        rw [hs]
        by_cases hx : ∃ x, (s.h s.turn).testBit x = true ∧ suit x = s.cs 0 / 13
        · exact hx
        · exfalso
          apply hz
          apply Nat.eq_of_testBit_eq
          intro i
          rw [hlb, Nat.zero_testBit]
          cases hbi : (s.h s.turn).testBit i
          · rfl
          · rw [Bool.true_and, decide_eq_false_iff_not]; exact fun e => hx ⟨i, hbi, e⟩
      rw [hyes]; simp
/-- what can be chosen, as the reference finds it -/
def chooseR (s : St) : Nat := if (s.seat + s.dc) % 2 = 0 then 3 else 5 + (if (s.seat + s.ld) % 2 = 0 then 24 else 0) + (if s.opn then 32 else 0)
theorem choices_ref (h : SInv d n s) (hp : s.pend = true) : s.choicesV = chooseR s := by
  obtain ⟨h0, -, hne⟩ := h.pnd hp
  have hl := h.ok.ld
  have hse := h.ok.seat
  have htu : s.turn = s.ld := by unfold St.turn; rw [h0]; omega
  unfold chooseR St.choicesV
  simp only [St.sumTo, St.may, St.byDeclarer, St.byDefender, St.beforePartner, St.atOpening, hp, htu, Bool.true_and, if_true]
  have e1 : ((s.ld == (s.seat + 2) % 4) : Bool) = decide ((s.seat + s.ld) % 2 = 0) := by
    rw [Bool.eq_iff_iff, beq_iff_eq, decide_eq_true_eq]; omega
  have e2 : ((s.seat % 2 == s.dc % 2) : Bool) = decide ((s.seat + s.dc) % 2 = 0) := by
    rw [Bool.eq_iff_iff, beq_iff_eq, decide_eq_true_eq]; omega
  have e3 : ((s.seat % 2 != s.dc % 2) : Bool) = !decide ((s.seat + s.dc) % 2 = 0) := by unfold bne; rw [e2]
  rw [e1, e2, e3]
  by_cases c1 : (s.seat + s.dc) % 2 = 0 <;> by_cases c2 : (s.seat + s.ld) % 2 = 0 <;> cases s.opn <;> simp [c1, c2]
end Go.Proofs.YtgnlmodaekfhfaaDoor
