/- LdP, LdB, LdI in one text. -/
import Derived.Test.YtgnlmodaekfhfaaDoorMem
import Derived.Test.YtgnlmodaekfhfaaDoorMTrick
import Derived.Test.YtgnlmodaekfhfaaDoorPlayable
import Derived.Test.YtgnlmodaekfhfaaDoorMOnes

/- Plain functions of package lead: the state of a table, and what its methods return. -/
namespace Go.Proofs.YtgnlmodaekfhfaaDoor
open Go.RowKit

/-- the state of a table -/
structure St where
  h : Nat → Nat
  pn : Nat → Nat
  tm : Nat
  dc : Nat
  ld : Nat
  ct : Nat
  cs : Nat → Nat
  seat : Nat
  card : Nat
  pend : Bool
  opn : Bool
  must : Nat
  nt : Nat
  w : Nat → Nat
/-- its cells -/
abbrev St.cells (s : St) : Array Value := #[.int .u64 (s.h 0 : Int), .int .u64 (s.h 1 : Int), .int .u64 (s.h 2 : Int), .int .u64 (s.h 3 : Int), .int .u64 (s.pn 0 : Int), .int .u64 (s.pn 1 : Int), .int .u64 (s.pn 2 : Int), .int .u64 (s.pn 3 : Int),
  .int .u8 (s.tm : Int), .int .u8 (s.dc : Int), .int .u8 (s.ld : Int), .int .u8 (s.ct : Int), .int .u8 (s.cs 0 : Int), .int .u8 (s.cs 1 : Int), .int .u8 (s.cs 2 : Int), .int .u8 (s.cs 3 : Int), .int .u8 (s.seat : Int), .int .u8 (s.card : Int), .bool s.pend, .bool s.opn,
  .int .u8 (s.must : Int), .int .u8 (s.nt : Int), .int .u8 (s.w 0 : Int), .int .u8 (s.w 1 : Int)]
/-- a state in range -/
structure St.ok (s : St) : Prop where
  h : ∀ j, j < 4 → s.h j < 4503599627370496
  pn : ∀ j, j < 4 → s.pn j < 4503599627370496
  tm : s.tm ≤ 4
  dc : s.dc < 4
  ld : s.ld < 4
  ct : s.ct < 4
  cs : ∀ j, j < 4 → s.cs j < 52
  seat : s.seat < 4
  card : s.card < 52
  must : s.must < 16
  nt : s.nt < 16
  w : ∀ j, j < 2 → s.w j < 256
/-- the zero state -/
def St.zero : St := ⟨fun _ => 0, fun _ => 0, 0, 0, 0, 0, fun _ => 0, 0, 0, false, false, 0, 0, fun _ => 0⟩
/-- whether two states are the same -/
def St.same (s t : St) : Bool :=
  (s.h 0 == t.h 0 && s.h 1 == t.h 1 && s.h 2 == t.h 2 && s.h 3 == t.h 3) && ((s.pn 0 == t.pn 0 && s.pn 1 == t.pn 1 && s.pn 2 == t.pn 2 && s.pn 3 == t.pn 3) && (s.tm == t.tm && (s.dc == t.dc && (s.ld == t.ld && (s.ct == t.ct &&
    ((s.cs 0 == t.cs 0 && s.cs 1 == t.cs 1 && s.cs 2 == t.cs 2 && s.cs 3 == t.cs 3) && (s.seat == t.seat && (s.card == t.card && (s.pend == t.pend && (s.opn == t.opn && (s.must == t.must && (s.nt == t.nt && (s.w 0 == t.w 0 && s.w 1 == t.w 1)))))))))))))
/-- the seat whose turn it is -/
def St.turn (s : St) : Nat := (s.ld + s.ct) % 4
/-- the cards of the trick under way -/
def St.trick (s : St) : List Nat := (List.range s.ct).map s.cs
def St.over (s : St) : Bool := s.h 0 == 0 && s.h 1 == 0 && s.h 2 == 0 && s.h 3 == 0
/-- all cards of a suit, and those of a set of suits -/
def sm (k : Nat) : Nat := 8191 <<< (13 * k)
def suitsTo (set : Nat) : Nat → Nat
  | 0 => 0
  | k + 1 => if set.testBit k then lor (suitsTo set k) (sm k) else suitsTo set k
def suitsM (set : Nat) : Nat := suitsTo set 4
/-- lead.leads -/
def leadsV (hand must nt : Nat) : Nat :=
  if land hand (suitsM must) ≠ 0 then land hand (suitsM must) else if landn hand (suitsM nt) ≠ 0 then landn hand (suitsM nt) else hand
/-- the cards that could be played but for penalty cards -/
def St.can (s : St) : Nat := if s.ct = 0 then leadsV (s.h s.turn) s.must s.nt else (playableV (s.h s.turn) s.trick).1
/-- those of them that penalty cards leave -/
def pick (l p : Nat) : Nat := if land l p ≠ 0 then land l p else l
/-- the legal cards -/
def St.legal (s : St) : Nat := if s.pend then 0 else pick s.can (s.pn s.turn)
/-- the winner of a trick -/
def St.win (s : St) (c : Nat) : Nat := (seatV s.tm s.ld [s.cs 0, s.cs 1, s.cs 2, c]).1
/-- a card played -/
def St.put (s : St) (c : Nat) : St :=
  if s.ct = 3 then
    { s with h := setH s.h s.turn (landn (s.h s.turn) (shl1 c)), pn := setH s.pn s.turn (landn (s.pn s.turn) (shl1 c)), opn := false, must := 0,
             nt := if s.win c = s.ld then s.nt else 0, w := setH s.w (s.win c % 2) ((s.w (s.win c % 2) + 1) % 256), ld := s.win c, ct := 0, cs := fun _ => 0 }
  else { s with h := setH s.h s.turn (landn (s.h s.turn) (shl1 c)), pn := setH s.pn s.turn (landn (s.pn s.turn) (shl1 c)), cs := setH s.cs s.ct c, ct := s.ct + 1, opn := false, must := 0 }
/-- Turn -/
def St.turnV (s : St) : Nat × Nat := if s.pend then (0, 142) else if s.over then (0, 6) else (s.turn, 0)
/-- Play: the state after it, and the error -/
def St.playV (s : St) (c : Nat) : St × Nat := if s.pend then (s, 142) else if s.legal.testBit c then (s.put c, 0) else (s, 141)
/-- Lead -/
def St.leadV (s : St) (seat c : Nat) : St × Nat :=
  if s.pend || s.ct != 0 then (s, 142) else if 3 < seat ∨ (s.h seat).testBit c = false then (s, 141) else if seat = s.turn then s.playV c
  else ({ s with seat := seat, card := c, pend := true }, 0)
/-- when something can be chosen -/
def St.byDefender (s : St) : Bool := s.pend && (s.seat % 2 != s.dc % 2)
def St.byDeclarer (s : St) : Bool := s.pend && (s.seat % 2 == s.dc % 2)
def St.beforePartner (s : St) : Bool := s.byDefender && (s.turn == (s.seat + 2) % 4)
def St.atOpening (s : St) : Bool := s.byDefender && s.opn
/-- whether the k-th option can be chosen, and what becomes of it -/
def St.may (s : St) : Nat → Bool
  | 0 => s.pend
  | 1 => s.byDeclarer
  | 2 => s.byDefender
  | 3 => s.beforePartner
  | 4 => s.beforePartner
  | 5 => s.atOpening
  | _ => false
def St.accept (s : St) : St := ({ s with ld := s.seat, nt := 0 } : St).put s.card
def St.act (s : St) : Nat → St
  | 0 => s.accept
  | 2 => { s with pn := setH s.pn s.seat (lor (s.pn s.seat) (shl1 s.card)) }
  | 3 => { s with must := 2 ^ (s.card / 13), nt := 0 }
  | 4 => { s with nt := s.nt ||| 2 ^ (s.card / 13) }
  | 5 => ({ s with dc := (s.dc + 2) % 4 } : St).accept
  | _ => s
/-- Choices -/
def St.sumTo (s : St) : Nat → Nat
  | 0 => 0
  | k + 1 => s.sumTo k + if s.may k then 2 ^ k else 0
def St.choicesV (s : St) : Nat := s.sumTo 6
/-- Choose -/
def St.done (s : St) : St := { s with pend := false, seat := 0, card := 0 }
def St.chooseTo (s : St) (choice : Nat) : Nat → St × Nat
  | 0 => (s, 143)
  | k + 1 => if 2 ^ (5 - k) = choice ∧ s.may (5 - k) = true then ((s.act (5 - k)).done, 0) else s.chooseTo choice k
def St.chooseV (s : St) (choice : Nat) : St × Nat := if s.pend then s.chooseTo choice 6 else (s, 142)
/-- Demand -/
def St.demandV (s : St) (suit : Nat) (req : Bool) : St × Nat :=
  if s.pend then (s, 142) else if 3 < suit ∨ s.ct ≠ 0 ∨ s.must ≠ 0 ∨ (s.ld + 2) % 4 % 2 = s.dc % 2 then (s, 143)
  else if land (s.pn ((s.ld + 2) % 4)) (suitsM (2 ^ suit)) = 0 then (s, 143)
  else ({ s with pn := setH s.pn ((s.ld + 2) % 4) (landn (s.pn ((s.ld + 2) % 4)) (suitsM (2 ^ suit))), must := if req then 2 ^ suit else s.must, nt := if req then 0 else s.nt ||| 2 ^ suit }, 0)
/-- New -/
def St.new (d : Nat → Nat) (tm dc : Nat) : St := ⟨d, fun _ => 0, tm, dc, (dc + 1) % 4, 0, fun _ => 0, 0, 0, false, true, 0, 0, fun _ => 0⟩

theorem St.turn_lt (s : St) : s.turn < 4 := Nat.mod_lt _ (by decide)
theorem St.win_lt (s : St) (c : Nat) : s.win c < 4 := by
  unfold St.win seatV
  split
  · decide
  · split
    · exact Nat.mod_lt _ (by decide)
    · exact Nat.zero_lt_succ 3
theorem sm_bit (k c : Nat) : (sm k).testBit c = (decide (13 * k ≤ c) && decide (c < 13 * k + 13)) := by
  unfold sm
  rw [Nat.testBit_shiftLeft]
  by_cases h : 13 * k ≤ c
  · have e : (8191 : Nat) = 2 ^ 13 - 1 := rfl
    rw [e, Nat.testBit_two_pow_sub_one]
    simp only [ge_iff_le, h, decide_true, Bool.true_and]
    rw [Bool.eq_iff_iff]; simp only [decide_eq_true_eq]; omega
  · simp [h]
theorem suitsTo_bit (set c : Nat) : ∀ k, (suitsTo set k).testBit c = (decide (c < 13 * k) && set.testBit (c / 13))
  | 0 => by simp [suitsTo]
  | k + 1 => by
    have ih := suitsTo_bit set c k
    unfold suitsTo
    by_cases hc : 13 * k ≤ c ∧ c < 13 * k + 13
    · have e : c / 13 = k := by omega
      rw [e]
      cases hb : set.testBit k
      · rw [if_neg (by simp), ih, e, hb]; simp
      · rw [if_pos rfl, testBit_lor, sm_bit]
        simp [hc.1, hc.2, show c < 13 * (k + 1) by omega]
    · have e : decide (c < 13 * (k + 1)) = decide (c < 13 * k) := by rw [decide_eq_decide]; omega
      rw [e, ← ih]
      split
      · rw [testBit_lor, sm_bit]
        have : (decide (13 * k ≤ c) && decide (c < 13 * k + 13)) = false := by
          rw [Bool.eq_false_iff]; simp only [ne_eq, Bool.and_eq_true, decide_eq_true_eq]; exact hc
        rw [this, Bool.or_false]
      · rfl
theorem suitsM_bit (set c : Nat) : (suitsM set).testBit c = (decide (c < 52) && set.testBit (c / 13)) := suitsTo_bit set c 4
theorem sm_lt {k : Nat} (h : k < 4) : sm k < 4503599627370496 := by
  rcases (show k = 0 ∨ k = 1 ∨ k = 2 ∨ k = 3 by omega) with rfl | rfl | rfl | rfl <;> decide
theorem suitsTo_lt (set : Nat) : ∀ k, k ≤ 4 → suitsTo set k < 4503599627370496
  | 0, _ => Nat.zero_lt_succ _
  | k + 1, h => by
    have ih := suitsTo_lt set k (by omega)
    unfold suitsTo
    split
    · exact Nat.or_lt_two_pow (n := 52) ih (sm_lt (by omega))
    · exact ih
theorem suitsM_lt (set : Nat) : suitsM set < 4503599627370496 := suitsTo_lt set 4 (Nat.le_refl _)
theorem w64_52 {m : Nat} (h : m < 4503599627370496) : W64 m := Nat.lt_trans h (by decide)
theorem land_lt {m n b : Nat} (h : m < b) : land m n < b := Nat.lt_of_le_of_lt Nat.and_le_left h
theorem landn_lt {m n : Nat} (h : m < 4503599627370496) : landn m n < 4503599627370496 := Nat.xor_lt_two_pow (n := 52) h (land_lt h)
theorem leadsV_lt {hand must nt : Nat} (h : hand < 4503599627370496) : leadsV hand must nt < 4503599627370496 := by
  unfold leadsV
  split
  · exact land_lt h
  · split
    · exact landn_lt h
    · exact h
theorem setH_lt {h : Nat → Nat} {s v b n : Nat} (hh : ∀ j, j < n → h j < b) (hv : v < b) : ∀ j, j < n → setH h s v j < b := by
  intro j hj
  unfold setH
  split
  · exact hv
  · exact hh j hj
theorem St.put_ok {s : St} (h : s.ok) {c : Nat} (hc : c < 52) : (s.put c).ok := by
  have ht := s.turn_lt
  have hh := setH_lt (s := s.turn) h.h (landn_lt (n := shl1 c) (h.h _ ht))
  have hp := setH_lt (s := s.turn) h.pn (landn_lt (n := shl1 c) (h.pn _ ht))
  unfold St.put
  split
  · exact ⟨hh, hp, h.tm, h.dc, s.win_lt c, Nat.zero_lt_succ 3, fun _ _ => Nat.zero_lt_succ 51, h.seat, h.card, Nat.zero_lt_succ 15, by show (if _ then _ else _) < 16; split; exact h.nt; decide,
      setH_lt h.w (Nat.mod_lt _ (by decide))⟩
  · exact ⟨hh, hp, h.tm, h.dc, h.ld, by have := h.ct; show s.ct + 1 < 4; omega, setH_lt h.cs hc, h.seat, h.card, Nat.zero_lt_succ 15, h.nt, h.w⟩
theorem St.accept_ok {s : St} (h : s.ok) : s.accept.ok := St.put_ok (s := { s with ld := s.seat, nt := 0 }) ⟨h.h, h.pn, h.tm, h.dc, h.seat, h.ct, h.cs, h.seat, h.card, h.must, Nat.zero_lt_succ 15, h.w⟩ h.card
theorem St.act_ok {s : St} (h : s.ok) (k : Nat) : (s.act k).ok := by
  have hp : 2 ^ (s.card / 13) < 16 := by
    have := h.card
    rcases (show s.card / 13 = 0 ∨ s.card / 13 = 1 ∨ s.card / 13 = 2 ∨ s.card / 13 = 3 by omega) with e | e | e | e <;> rw [e] <;> decide
  unfold St.act
  split
  · exact St.accept_ok h
  · have hs : shl1 s.card < 2 ^ 52 := by
      unfold shl1
      rw [if_pos (by have := h.card; omega)]
      exact Nat.pow_lt_pow_right (by decide) h.card
    exact ⟨h.h, setH_lt h.pn (Nat.or_lt_two_pow (n := 52) (h.pn _ h.seat) hs), h.tm, h.dc, h.ld, h.ct, h.cs, h.seat, h.card, h.must, h.nt, h.w⟩
  · exact ⟨h.h, h.pn, h.tm, h.dc, h.ld, h.ct, h.cs, h.seat, h.card, hp, Nat.zero_lt_succ 15, h.w⟩
  · exact ⟨h.h, h.pn, h.tm, h.dc, h.ld, h.ct, h.cs, h.seat, h.card, h.must, Nat.or_lt_two_pow (n := 4) h.nt hp, h.w⟩
  · exact St.accept_ok (s := { s with dc := (s.dc + 2) % 4 }) ⟨h.h, h.pn, h.tm, Nat.mod_lt _ (by decide), h.ld, h.ct, h.cs, h.seat, h.card, h.must, h.nt, h.w⟩
  · exact h
theorem St.done_ok {s : St} (h : s.ok) : s.done.ok := ⟨h.h, h.pn, h.tm, h.dc, h.ld, h.ct, h.cs, by show 0 < 4; decide, by show 0 < 52; decide, h.must, h.nt, h.w⟩
theorem St.chooseTo_ok {s : St} (h : s.ok) (choice : Nat) : ∀ k, (s.chooseTo choice k).1.ok
  | 0 => h
  | k + 1 => by
    unfold St.chooseTo
    split
    · exact St.done_ok (St.act_ok h _)
    · exact St.chooseTo_ok h choice k
theorem St.chooseV_ok {s : St} (h : s.ok) (choice : Nat) : (s.chooseV choice).1.ok := by
  unfold St.chooseV
  split
  · exact St.chooseTo_ok h choice 6
  · exact h
end Go.Proofs.YtgnlmodaekfhfaaDoor

/- Plain: the legal cards of a hand. -/
namespace Go.Proofs.YtgnlmodaekfhfaaDoor
open Go.RowKit Go.Shelf Go.Sort

theorem y_testBit_lor_shl1 (m c i : Nat) (hc : c < 64) : (lor m (shl1 c)).testBit i = (m.testBit i || decide (c = i)) := by
  rw [testBit_lor, testBit_shl1]; simp [hc]
theorem y_maskR_ok : ∀ (zs : List Nat) (m : Nat), (maskR m zs).2 = 0 ↔ (∀ c ∈ zs, c < 52) ∧ (∀ c ∈ zs, m.testBit c = false) ∧ zs.Nodup
  | [], m => by simp [maskR]
  | c :: cs, m => by
    unfold maskR
    by_cases h1 : c < 52
    · rw [if_pos h1]
      cases h2 : m.testBit c
      · simp only [Bool.false_eq_true, if_false]
        rw [y_maskR_ok cs]
        have e : ∀ x, (lor m (shl1 c)).testBit x = false ↔ (m.testBit x = false ∧ c ≠ x) := by
          intro x; rw [y_testBit_lor_shl1 _ _ _ (by omega)]; simp
        simp only [e, List.mem_cons, List.nodup_cons, forall_eq_or_imp, h1, h2, true_and]
        constructor
        · rintro ⟨h3, h4, h5⟩
          exact ⟨h3, fun x hx => (h4 x hx).1, fun hx => (h4 c hx).2 rfl, h5⟩
        · rintro ⟨h3, h4, h5, h6⟩
          exact ⟨h3, fun x hx => ⟨h4 x hx, fun hc => h5 (hc ▸ hx)⟩, h6⟩
      · simp [h2]
    · rw [if_neg h1]; simp [h1]
theorem y_maskR_bit : ∀ (zs : List Nat) (m : Nat), (maskR m zs).2 = 0 → ∀ i, (maskR m zs).1.testBit i = (m.testBit i || decide (i ∈ zs))
  | [], m, _, i => by simp [maskR]
  | c :: cs, m, h, i => by
    unfold maskR at h ⊢
    by_cases h1 : c < 52
    · rw [if_pos h1] at h ⊢
      cases h2 : m.testBit c
      · simp only [h2, Bool.false_eq_true, if_false] at h ⊢
        rw [y_maskR_bit cs _ h i, y_testBit_lor_shl1 _ _ _ (by omega)]
        by_cases hc : c = i
        · simp [hc]
        · have : ¬ i = c := fun e => hc e.symm
          simp [hc, this]
      · simp [h2] at h
    · rw [if_neg h1] at h; simp at h
theorem y_rightB_iff (zs : List Nat) : rightB zs = true ↔ 1 ≤ zs.length ∧ zs.length ≤ 4 ∧ (∀ c ∈ zs, c < 52) ∧ zs.Nodup := by
  have := y_maskR_ok zs 0
  simp only [Nat.zero_testBit] at this
  simp only [rightB, Bool.and_eq_true, decide_eq_true_eq, beq_iff_eq]
  rw [this]
  simp
  constructor
  · rintro ⟨⟨a, b⟩, c, d⟩; exact ⟨a, b, c, d⟩
  · rintro ⟨a, b, c, d⟩; exact ⟨⟨a, b⟩, c, d⟩
theorem y_bit_lt {m i : Nat} {n : Nat} (hm : m < 2 ^ n) (h : m.testBit i = true) : i < n := by
  rcases Nat.lt_or_ge i n with h1 | h1
  · exact h1
  · rw [Nat.testBit_lt_two_pow (Nat.lt_of_lt_of_le hm (Nat.pow_le_pow_right (by decide) h1))] at h; cases h
theorem y_fold_bits (p : Nat → Bool) (step : Nat → Fin 64 → Nat) (hstep : ∀ f c, step f c = if p c.val then lor f (shl1 c.val) else f) (i : Nat) : ∀ (l : List (Fin 64)) (f : Nat),
    (l.foldl step f).testBit i = (f.testBit i || l.any fun c => p c.val && decide (c.val = i))
  | [], f => by simp
  | c :: l, f => by
    rw [List.foldl_cons, y_fold_bits p step hstep i l, hstep, List.any_cons]
    cases hp : p c.val
    · simp
    · simp only [if_true, Bool.true_and]
      rw [y_testBit_lor_shl1 _ _ _ c.isLt, Bool.or_assoc]
theorem y_any_bits (p : Nat → Bool) (m i : Nat) (hm : W64 m) : ((bitsList m).any fun c => p c.val && decide (c.val = i)) = (m.testBit i && p i) := by
  rw [Bool.eq_iff_iff]
  simp only [List.any_eq_true, Bool.and_eq_true, decide_eq_true_eq, bitsList, List.mem_filter, List.mem_finRange, true_and]
  constructor
  · rintro ⟨c, h1, h2, rfl⟩; exact ⟨h1, h2⟩
  · rintro ⟨h1, h2⟩
    exact ⟨⟨i, y_bit_lt hm h1⟩, h1, h2, rfl⟩
theorem y_follow_bit (s m i : Nat) (hm : W64 m) : (follow s (bitsList m)).testBit i = (m.testBit i && decide (suit i = s)) := by
  unfold follow
  rw [y_fold_bits (fun c => decide (suit c = s)) (folStep s) (fun f c => by simp [folStep]) i, y_any_bits (fun c => decide (suit c = s)) _ _ hm]
  simp
theorem y_rest_bit (hand : Nat) (zs : List Nat) (h : (maskR 0 zs).2 = 0) (i : Nat) : (restV hand zs).testBit i = (hand.testBit i && !zs.contains i) := by
  unfold restV
  rw [testBit_landn, y_maskR_bit zs 0 h]
  simp
theorem y_right_mask {zs : List Nat} (h : rightB zs = true) : (maskR 0 zs).2 = 0 := by
  simp only [rightB, Bool.and_eq_true, beq_iff_eq] at h; exact h.2
theorem y_suit_div {c : Nat} (h : c < 52) : suit c = c / 13 := by unfold suit; rw [if_pos h]
/-- a hand has a card of suit s -/
def hasS (s hand : Nat) : Bool := follow s (bitsList hand) != 0
theorem hasS_iff {s hand : Nat} (hw : W64 hand) : hasS s hand = true ↔ ∃ x, hand.testBit x = true ∧ suit x = s := by
  unfold hasS
  rw [bne_iff_ne]
  have hfb := fun i => y_follow_bit s hand i hw
  constructor
  · intro h
    apply Classical.byContradiction
    intro hn
    apply h
    apply Nat.eq_of_testBit_eq
    intro i
    rw [hfb, Nat.zero_testBit]
    cases hb : hand.testBit i
    · rfl
    · rw [Bool.true_and, decide_eq_false_iff_not]; exact fun e => hn ⟨i, hb, e⟩
  · rintro ⟨x, hx, he⟩ h0
    have := hfb x
    rw [h0, hx, he] at this; simp at this
/-- the cards that can be played: of a hand of which no card lies in the trick -/
theorem playable_bit {hand : Nat} {zs : List Nat} (hh : hand < 4503599627370496) (h3 : zs.length ≤ 3) (h52 : ∀ c ∈ zs, c < 52) (hnd : zs.Nodup) (hz : ∀ c ∈ zs, hand.testBit c = false) (c : Nat) :
    (playableV hand zs).1.testBit c = (hand.testBit c && (decide (zs.length = 0) || decide (suit c = suit (zs.getD 0 0)) || !hasS (suit (zs.getD 0 0)) hand)) := by
  have hw : W64 hand := Nat.lt_of_lt_of_le hh (by decide)
  unfold playableV
  rw [if_neg (by omega)]
  by_cases h0 : zs.length = 0
  · rw [if_pos h0, decide_eq_true h0, Bool.true_or, Bool.true_or, Bool.and_true]
  rw [if_neg h0]
  have hr : rightB zs = true := (y_rightB_iff zs).2 ⟨by omega, by omega, h52, hnd⟩
  rw [if_pos hr, if_neg (by omega)]
  have hrest : restV hand zs = hand := by
    apply Nat.eq_of_testBit_eq
    intro i
    rw [y_rest_bit hand zs (y_right_mask hr)]
    cases hb : hand.testBit i
    · rfl
    · have : i ∉ zs := fun hi => by rw [hz i hi] at hb; cases hb
      simp [this]
  show (playLate (suit (zs.getD 0 0)) (restV hand zs)).testBit c = _
  rw [hrest, decide_eq_false h0, Bool.false_or]
  unfold playLate hasS
  by_cases hf : follow (suit (zs.getD 0 0)) (bitsList hand) = 0
  · rw [if_neg (fun h => h hf), hf]
    simp
  · rw [if_pos hf, y_follow_bit _ _ _ hw, (bne_iff_ne (a := follow (suit (zs.getD 0 0)) (bitsList hand)) (b := 0)).2 hf]
    simp
theorem playable_ne {hand : Nat} {zs : List Nat} (hh : hand < 4503599627370496) (h3 : zs.length ≤ 3) (h52 : ∀ c ∈ zs, c < 52) (hnd : zs.Nodup) (hz : ∀ c ∈ zs, hand.testBit c = false) (h0 : hand ≠ 0) : (playableV hand zs).1 ≠ 0 := by
  intro e
  have hw : W64 hand := Nat.lt_of_lt_of_le hh (by decide)
  have hb := playable_bit hh h3 h52 hnd hz
  rw [e] at hb
  simp only [Nat.zero_testBit] at hb
  cases hs : hasS (suit (zs.getD 0 0)) hand
  · have := hb (Lib.ctz 64 hand)
    rw [(ctz_bit hand h0 hw).1, hs] at this
    simp at this
  · obtain ⟨x, hx, he⟩ := (hasS_iff hw).1 hs
    have := hb x
    rw [hx, he] at this; simp at this
end Go.Proofs.YtgnlmodaekfhfaaDoor

/- Plain: what holds of a table that New made of a right deal. -/
namespace Go.Proofs.YtgnlmodaekfhfaaDoor
open Go.RowKit Go.Shelf Go.Sort

theorem cnt_lor (m c : Nat) (hc : c < 64) (hb : m.testBit c = false) : ∀ k, cnt (lor m (shl1 c)) k = cnt m k + if c < k then 1 else 0
  | 0 => by simp [cnt]
  | k + 1 => by
    simp only [cnt, cnt_lor m c hc hb k, testBit_lor, testBit_shl1]
    by_cases h : c = k
    · subst h; simp [hb, hc]
    · simp [h]; split <;> split <;> omega
theorem pop_lor (m c : Nat) (hc : c < 64) (hb : m.testBit c = false) : pop (lor m (shl1 c)) = pop m + 1 := by
  unfold pop; rw [cnt_lor m c hc hb, if_pos hc]
theorem cnt_landn (m c : Nat) (hc : c < 64) (hb : m.testBit c = true) : ∀ k, cnt (landn m (shl1 c)) k + (if c < k then 1 else 0) = cnt m k
  | 0 => by simp [cnt]
  | k + 1 => by
    have ih := cnt_landn m c hc hb k
    simp only [cnt, testBit_landn, testBit_shl1]
    by_cases h : c = k
    · subst h; simp [hb, hc] at ih ⊢; omega
    · simp [h] at ih ⊢
      split <;> split at ih <;> omega
theorem pop_landn (m c : Nat) (hc : c < 64) (hb : m.testBit c = true) : pop (landn m (shl1 c)) + 1 = pop m := by
  have := cnt_landn m c hc hb 64
  rw [if_pos hc] at this; exact this
theorem cnt_pos (m : Nat) : ∀ k, 0 < cnt m k → ∃ c, c < k ∧ m.testBit c = true
  | 0, h => by simp [cnt] at h
  | k + 1, h => by
    unfold cnt at h
    cases hb : m.testBit k
    · rw [hb] at h
      obtain ⟨c, h1, h2⟩ := cnt_pos m k (by simpa using h)
      exact ⟨c, by omega, h2⟩
    · exact ⟨k, by omega, hb⟩
theorem pop_nil : pop 0 = 0 := by decide +kernel
theorem cnt_full (m : Nat) : ∀ k, (∀ c, c < k → m.testBit c = true) → cnt m k = k
  | 0, _ => rfl
  | k + 1, h => by simp only [cnt, cnt_full m k (fun c hc => h c (by omega)), h k (by omega)]; rfl
theorem cnt_mono (m : Nat) {a b : Nat} (h : a ≤ b) : cnt m a ≤ cnt m b := by
  obtain ⟨k, rfl⟩ : ∃ k, b = a + k := ⟨b - a, by omega⟩
  rw [cnt_add]; omega
theorem lt_of_bits {m : Nat} (h : ∀ c, m.testBit c = true → c < 52) : m < 4503599627370496 := by
  refine Nat.lt_pow_two_of_testBit (n := 52) m fun i hi => ?_
  cases hb : m.testBit i
  · rfl
  · exact absurd (h i hb) (by omega)
theorem pop_zero {m : Nat} (hm : W64 m) (h : pop m = 0) : m = 0 := by
  apply Classical.byContradiction
  intro h0
  have h1 := ctz_bit m h0 hm
  obtain ⟨_, _, h3⟩ := ctz_spec m h0 hm
  have h2 := pop_landn m (Lib.ctz 64 m) h3 h1.1
  omega
/-- a deal of n cards each -/
structure Deal4 (d : Nat → Nat) (n : Nat) : Prop where
  lt : ∀ j, j < 4 → d j < 4503599627370496
  apart : ∀ j j' c, j < 4 → j' < 4 → j ≠ j' → (d j).testBit c = true → (d j').testBit c = false
  pop : ∀ j, j < 4 → pop (d j) = n
  pos : 1 ≤ n
  le : n ≤ 13
/-- a table of a deal, but for what is pending -/
structure SCore (d : Nat → Nat) (n : Nat) (s : St) : Prop where
  ok : s.ok
  bit : ∀ j c, j < 4 → (s.h j).testBit c = true → (d j).testBit c = true
  nums : ∀ j, j < 4 → pop (s.h j) + (if (j + 4 - s.ld) % 4 < s.ct then 1 else 0) + (s.w 0 + s.w 1) = n
  gone : ∀ i, i < s.ct → ∀ j, j < 4 → (s.h j).testBit (s.cs i) = false
  nd : s.trick.Nodup
  pen : ∀ j c, j < 4 → (s.pn j).testBit c = true → (s.h j).testBit c = true
  opn : s.opn = true → ∀ j, j < 4 → s.h j = d j
/-- a table of a deal -/
structure SInv (d : Nat → Nat) (n : Nat) (s : St) : Prop extends SCore d n s where
  pnd : s.pend = true → s.ct = 0 ∧ (s.h s.seat).testBit s.card = true ∧ s.seat ≠ s.ld
  free : s.pend = false → s.seat = 0 ∧ s.card = 0
theorem trick_mem {s : St} {c : Nat} : c ∈ s.trick ↔ ∃ i, i < s.ct ∧ s.cs i = c := by
  simp [St.trick]
theorem trick_len (s : St) : s.trick.length = s.ct := by simp [St.trick]
theorem trick_get (s : St) {i : Nat} (h : i < s.ct) : s.trick.getD i 0 = s.cs i := by
  rw [List.getD_eq_getElem?_getD, St.trick, List.getElem?_map, List.getElem?_range h]; rfl
variable {d : Nat → Nat} {n : Nat} {s : St}
theorem SCore.trick52 (h : SCore d n s) : ∀ c ∈ s.trick, c < 52 := fun c hc => by
  obtain ⟨i, hi, rfl⟩ := trick_mem.1 hc
  exact h.ok.cs i (by have := h.ok.ct; omega)
theorem SCore.trickNo (h : SCore d n s) {j : Nat} (hj : j < 4) : ∀ c ∈ s.trick, (s.h j).testBit c = false := fun c hc => by
  obtain ⟨i, hi, rfl⟩ := trick_mem.1 hc
  exact h.gone i hi j hj
theorem SCore.trick3 (h : SCore d n s) : s.trick.length ≤ 3 := by rw [trick_len]; have := h.ok.ct; omega
theorem SCore.turn_pop (h : SCore d n s) : pop (s.h s.turn) + (s.w 0 + s.w 1) = n := by
  have := h.nums s.turn s.turn_lt
  have h1 := h.ok.ld
  have h2 := h.ok.ct
  have h3 : (s.turn + 4 - s.ld) % 4 = s.ct := by unfold St.turn; omega
  rw [h3, if_neg (by omega)] at this
  omega
theorem over_iff {s : St} : s.over = true ↔ ∀ j, j < 4 → s.h j = 0 := by
  unfold St.over
  simp only [Bool.and_eq_true, beq_iff_eq]
  constructor
  · rintro ⟨⟨⟨h0, h1⟩, h2⟩, h3⟩ j hj
    rcases (show j = 0 ∨ j = 1 ∨ j = 2 ∨ j = 3 by omega) with rfl | rfl | rfl | rfl <;> assumption
  · intro h; exact ⟨⟨⟨h 0 (by omega), h 1 (by omega)⟩, h 2 (by omega)⟩, h 3 (by omega)⟩
theorem SCore.over_iff (h : SCore d n s) : s.over = true ↔ s.w 0 + s.w 1 = n := by
  rw [Go.Proofs.YtgnlmodaekfhfaaDoor.over_iff]
  have hn := h.turn_pop
  constructor
  · intro ho; rw [ho _ s.turn_lt, pop_nil] at hn; omega
  · intro ht j hj
    have := h.nums j hj
    exact pop_zero (w64_52 (h.ok.h j hj)) (by omega)
/-- behind the last card no trick is under way -/
theorem SCore.ct_over (h : SCore d n s) (ht : s.w 0 + s.w 1 = n) : s.ct = 0 := by
  have h1 := h.nums s.ld h.ok.ld
  have h3 : (s.ld + 4 - s.ld) % 4 = 0 := by omega
  rw [h3] at h1
  apply Classical.byContradiction
  intro h0
  rw [if_pos (by omega)] at h1; omega
theorem SCore.turn_ne (h : SCore d n s) (ho : s.over = false) : s.h s.turn ≠ 0 := by
  intro e
  have hn := h.turn_pop
  rw [e, pop_nil] at hn
  have := h.over_iff.2 (by omega)
  rw [ho] at this; cases this
theorem leadsV_bit (hand must nt c : Nat) : (leadsV hand must nt).testBit c = true → hand.testBit c = true := by
  unfold leadsV
  split
  · rw [testBit_land, Bool.and_eq_true]; exact fun h => h.1
  · split
    · rw [testBit_landn, Bool.and_eq_true]; exact fun h => h.1
    · exact id
theorem leadsV_ne {hand must nt : Nat} (h : hand ≠ 0) : leadsV hand must nt ≠ 0 := by
  unfold leadsV
  split
  · assumption
  · split
    · assumption
    · exact h
theorem pick_bit (l p c : Nat) : (pick l p).testBit c = true → l.testBit c = true := by
  unfold pick
  split
  · rw [testBit_land, Bool.and_eq_true]; exact fun h => h.1
  · exact id
theorem pick_ne {l p : Nat} (h : l ≠ 0) : pick l p ≠ 0 := by
  unfold pick
  split
  · assumption
  · exact h
theorem SCore.can_sub (h : SCore d n s) {c : Nat} (hc : s.can.testBit c = true) : (s.h s.turn).testBit c = true := by
  unfold St.can at hc
  split at hc
  · exact leadsV_bit _ _ _ _ hc
  · rw [playable_bit (h.ok.h _ s.turn_lt) h.trick3 h.trick52 h.nd (h.trickNo s.turn_lt), Bool.and_eq_true] at hc
    exact hc.1
theorem SCore.legal_sub (h : SCore d n s) {c : Nat} (hc : s.legal.testBit c = true) : (s.h s.turn).testBit c = true := by
  unfold St.legal at hc
  split at hc
  · simp at hc
  · exact h.can_sub (pick_bit _ _ _ hc)
theorem SCore.bit52 (h : SCore d n s) {j c : Nat} (hj : j < 4) (hc : (s.h j).testBit c = true) : c < 52 := y_bit_lt (n := 52) (h.ok.h j hj) hc
theorem SCore.can_ne (h : SCore d n s) (ho : s.over = false) : s.can ≠ 0 := by
  unfold St.can
  split
  · exact leadsV_ne (h.turn_ne ho)
  · exact playable_ne (h.ok.h _ s.turn_lt) h.trick3 h.trick52 h.nd (h.trickNo s.turn_lt) (h.turn_ne ho)
theorem SCore.legal_ne (h : SCore d n s) (ho : s.over = false) (hp : s.pend = false) : s.legal ≠ 0 := by
  unfold St.legal
  rw [hp, if_neg (by decide)]
  exact pick_ne (h.can_ne ho)
theorem put_h (s : St) (c j : Nat) : (s.put c).h j = if j = s.turn then landn (s.h s.turn) (shl1 c) else s.h j := by unfold St.put; split <;> rfl
theorem put_pn (s : St) (c j : Nat) : (s.put c).pn j = if j = s.turn then landn (s.pn s.turn) (shl1 c) else s.pn j := by unfold St.put; split <;> rfl
theorem put_sub (s : St) (c j i : Nat) : ((s.put c).h j).testBit i = true → (s.h j).testBit i = true := by
  rw [put_h]
  split
  next e => subst e; rw [testBit_landn, Bool.and_eq_true]; exact fun hq => hq.1
  next e => exact id
theorem put_gone (hd : Deal4 d n) (h : SCore d n s) {c : Nat} (hc : (s.h s.turn).testBit c = true) {j : Nat} (hj : j < 4) : ((s.put c).h j).testBit c = false := by
  rw [put_h]
  split
  next e => rw [testBit_landn, testBit_shl1]; have := h.bit52 s.turn_lt hc; simp; intro _; omega
  next e =>
    cases hb : (s.h j).testBit c
    · rfl
    · have := hd.apart _ _ c s.turn_lt hj (fun e' => e e'.symm) (h.bit _ _ s.turn_lt hc); rw [h.bit _ _ hj hb] at this; cases this
theorem SCore.put (hd : Deal4 d n) (h : SCore d n s) {c : Nat} (hc : (s.h s.turn).testBit c = true) : SCore d n (s.put c) := by
  have h52 := h.bit52 s.turn_lt hc
  have hld := h.ok.ld
  have hct := h.ok.ct
  have hn := h.turn_pop
  have htl := s.turn_lt
  have hpp := pop_landn _ c (by omega) hc
  refine ⟨St.put_ok h.ok h52, ?_, ?_, ?_, ?_, ?_, ?_⟩
  · intro j i hj hi
    exact h.bit j i hj (put_sub _ _ _ _ hi)
  · intro j hj
    have hj0 := h.nums j hj
    have hpj : pop ((s.put c).h j) + (if j = s.turn then 1 else 0) = pop (s.h j) := by
      rw [put_h]; split
      next e => subst e; exact hpp
      next e => rfl
    have hnx : j = s.turn ↔ (j + 4 - s.ld) % 4 = s.ct := by unfold St.turn; omega
    by_cases h3 : s.ct = 3
    · have hq : (s.put c).ct = 0 := by unfold St.put; rw [if_pos h3]
      have hw : (s.put c).w 0 + (s.put c).w 1 = s.w 0 + s.w 1 + 1 := by
        unfold St.put; rw [if_pos h3]
        show setH s.w (s.win c % 2) _ 0 + setH s.w (s.win c % 2) _ 1 = _
        have hle := hd.le
        unfold setH
        rcases (show s.win c % 2 = 0 ∨ s.win c % 2 = 1 by omega) with e | e
        · rw [e, if_pos rfl, if_neg (by decide)]; omega
        · rw [e, if_neg (by decide), if_pos rfl]; omega
      rw [hq, hw, if_neg (Nat.not_lt_zero _)]
      by_cases hjn : j = s.turn
      · rw [if_pos hjn] at hpj
        have := hnx.1 hjn
        rw [if_neg (by omega)] at hj0
        omega
      · rw [if_neg hjn] at hpj
        have : (j + 4 - s.ld) % 4 ≠ s.ct := fun e => hjn (hnx.2 e)
        rw [if_pos (by omega)] at hj0
        omega
    · have hq : (s.put c).ct = s.ct + 1 := by unfold St.put; rw [if_neg h3]
      have hl : (s.put c).ld = s.ld := by unfold St.put; rw [if_neg h3]
      have hw : (s.put c).w = s.w := by unfold St.put; rw [if_neg h3]
      rw [hq, hl, hw]
      by_cases hjn : j = s.turn
      · rw [if_pos hjn] at hpj
        have := hnx.1 hjn
        rw [if_neg (by omega)] at hj0
        rw [if_pos (by omega)]
        omega
      · rw [if_neg hjn] at hpj
        have : (j + 4 - s.ld) % 4 ≠ s.ct := fun e => hjn (hnx.2 e)
        by_cases hlt : (j + 4 - s.ld) % 4 < s.ct
        · rw [if_pos hlt] at hj0; rw [if_pos (by omega)]; omega
        · rw [if_neg hlt] at hj0; rw [if_neg (by omega)]; omega
  · intro i hi j hj
    by_cases h3 : s.ct = 3
    · unfold St.put at hi; rw [if_pos h3] at hi; exact absurd hi (Nat.not_lt_zero _)
    · have hi' : i < s.ct + 1 := by unfold St.put at hi; rw [if_neg h3] at hi; exact hi
      have hcs : (s.put c).cs i = setH s.cs s.ct c i := by unfold St.put; rw [if_neg h3]
      rw [hcs]
      unfold setH
      by_cases he : i = s.ct
      · rw [if_pos he]; exact put_gone hd h hc hj
      · rw [if_neg he]
        cases hb : ((s.put c).h j).testBit (s.cs i)
        · rfl
        · have := put_sub _ _ _ _ hb
          rw [h.gone i (by omega) j hj] at this; cases this
  · by_cases h3 : s.ct = 3
    · unfold St.put; rw [if_pos h3]; exact List.nodup_nil
    · have : (s.put c).trick = s.trick ++ [c] := by
        unfold St.put; rw [if_neg h3]
        show (List.range (s.ct + 1)).map (setH s.cs s.ct c) = _
        rw [List.range_succ, List.map_append]
        congr 1
        · refine List.map_congr_left fun i hi => ?_
          have := List.mem_range.1 hi
          unfold setH; rw [if_neg (by omega)]
        · simp [setH]
      rw [this]
      refine List.nodup_append.2 ⟨h.nd, by simp, fun a ha b hb => ?_⟩
      rw [List.mem_singleton.1 hb]
      rintro rfl
      rw [h.trickNo s.turn_lt _ ha] at hc; cases hc
  · intro j i hj hi
    rw [put_pn] at hi
    rw [put_h]
    split at hi
    next e =>
      subst e
      rw [if_pos rfl]
      rw [testBit_landn, Bool.and_eq_true] at hi ⊢
      exact ⟨h.pen _ _ hj hi.1, hi.2⟩
    next e =>
      rw [if_neg e]
      exact h.pen _ _ hj hi
  · intro ho
    have : (s.put c).opn = false := by unfold St.put; split <;> rfl
    rw [this] at ho; cases ho
/-- the leader is another one -/
theorem SCore.led (h : SCore d n s) (h0 : s.ct = 0) {ld nt : Nat} (hl : ld < 4) (hn : nt < 16) : SCore d n { s with ld := ld, nt := nt } :=
  ⟨⟨h.ok.h, h.ok.pn, h.ok.tm, h.ok.dc, hl, h.ok.ct, h.ok.cs, h.ok.seat, h.ok.card, h.ok.must, hn, h.ok.w⟩, h.bit, fun j hj => by
    have := h.nums j hj
    rw [h0] at this
    show pop (s.h j) + (if (j + 4 - ld) % 4 < s.ct then 1 else 0) + (s.w 0 + s.w 1) = n
    rw [h0]; exact this, h.gone, h.nd, h.pen, h.opn⟩
/-- the state but for hands, cards played and tricks -/
theorem SCore.with (h : SCore d n s) {s' : St} (hk : s'.ok) (e1 : s'.h = s.h) (e2 : s'.ld = s.ld) (e3 : s'.ct = s.ct) (e4 : s'.cs = s.cs) (e5 : s'.w = s.w) (e6 : s'.opn = s.opn) (hp : ∀ j c, j < 4 → (s'.pn j).testBit c = true → (s.h j).testBit c = true) : SCore d n s' := by
  refine ⟨hk, ?_, ?_, ?_, ?_, ?_, ?_⟩
  · rw [e1]; exact h.bit
  · rw [e1, e2, e3, e5]; exact h.nums
  · rw [e1, e3, e4]; exact h.gone
  · unfold St.trick; rw [e3, e4]; exact h.nd
  · rw [e1]; exact hp
  · rw [e1, e6]; exact h.opn
end Go.Proofs.YtgnlmodaekfhfaaDoor
