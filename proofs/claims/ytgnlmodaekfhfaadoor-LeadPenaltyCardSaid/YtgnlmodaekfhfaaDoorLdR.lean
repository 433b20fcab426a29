/- Plain: what an act does to the hands of a table of a deal; played to the end. -/
import Derived.Test.YtgnlmodaekfhfaaDoorLdQ
namespace Go.Proofs.YtgnlmodaekfhfaaDoor
open Go.RowKit Go.Shelf Go.Sort

variable {d : Nat → Nat} {n : Nat} {s : St}
/-- a card out of a hand -/
def outH (h : Nat → Nat) (p c : Nat) : Nat → Nat := fun j => if j = p then landn (h p) (shl1 c) else h j
theorem put_out (s : St) (c : Nat) : (s.put c).h = outH s.h s.turn c := by
  funext j
  rw [put_h]; rfl
/-- whether an act that was no error played a card -/
def playedB (a : AcT) (t : St) : Bool := decide (a.kind % 8 < 4) || (decide (a.kind % 8 < 6) && !t.pend) || (a.kind % 8 == 6 && (a.card % 6 == 0 || a.card % 6 == 5))
/-- a card was played -/
structure Played (s t : St) (c : Nat) : Prop where
  out : ∃ p, p < 4 ∧ (s.h p).testBit c = true ∧ t.h = outH s.h p c
  pend : t.pend = false
theorem play_err (s : St) (c : Nat) (h : (s.playV c).2 ≠ 0) : (s.playV c).1 = s := by
  unfold St.playV at h ⊢
  split
  · rfl
  · split
    next h1 h2 => rw [if_neg h1, if_pos h2] at h; exact absurd rfl h
    · rfl
theorem play_ok (hi : SInv d n s) {c : Nat} (h : (s.playV c).2 = 0) : Played s (s.playV c).1 c := by
  unfold St.playV at h ⊢
  split
  next h1 => rw [if_pos h1] at h; cases h
  next h1 =>
    rw [if_neg h1] at h
    split
    next h2 => exact ⟨⟨s.turn, s.turn_lt, hi.legal_sub h2, put_out s c⟩, by rw [put_pend]; simpa using h1⟩
    next h2 => rw [if_neg h2] at h; cases h
theorem lead_err (s : St) (seat c : Nat) (h : (s.leadV seat c).2 ≠ 0) : (s.leadV seat c).1 = s := by
  unfold St.leadV at h ⊢
  split
  · rfl
  next h1 =>
    rw [if_neg h1] at h
    split
    · rfl
    next h2 =>
      rw [if_neg h2] at h
      split
      next h3 => rw [if_pos h3] at h; exact play_err s c h
      next h3 => rw [if_neg h3] at h; exact absurd rfl h
theorem lead_ok (hi : SInv d n s) {seat c : Nat} (h : (s.leadV seat c).2 = 0) : Played s (s.leadV seat c).1 c ∨ ((s.leadV seat c).1.h = s.h ∧ (s.leadV seat c).1.pend = true) := by
  unfold St.leadV at h ⊢
  split
  next h1 => rw [if_pos h1] at h; cases h
  next h1 =>
    rw [if_neg h1] at h
    split
    next h2 => rw [if_pos h2] at h; cases h
    next h2 =>
      rw [if_neg h2] at h
      split
      next h3 => rw [if_pos h3] at h; exact .inl (play_ok hi h)
      next h3 => exact .inr ⟨rfl, rfl⟩
theorem chooseTo_cases (s : St) (choice : Nat) : ∀ k, k ≤ 6 → s.chooseTo choice k = (s, 143) ∨ ∃ q, q < 6 ∧ choice = 2 ^ q ∧ s.may q = true ∧ s.chooseTo choice k = ((s.act q).done, 0)
  | 0, _ => .inl rfl
  | k + 1, hk => by
    unfold St.chooseTo
    split
    next h => exact .inr ⟨5 - k, by omega, h.1.symm, h.2, rfl⟩
    · exact chooseTo_cases s choice k (by omega)
theorem choose_err (s : St) (choice : Nat) (h : (s.chooseV choice).2 ≠ 0) : (s.chooseV choice).1 = s := by
  unfold St.chooseV at h ⊢
  split
  next hp =>
    rw [if_pos hp] at h
    rcases chooseTo_cases s choice 6 (Nat.le_refl _) with e | ⟨q, _, _, _, e⟩
    · rw [e]
    · rw [e] at h; exact absurd rfl h
  · rfl
theorem act_h (hi : SInv d n s) (hp : s.pend = true) (q : Nat) : (s.act q).h = if q = 0 ∨ q = 5 then outH s.h s.seat s.card else s.h := by
  obtain ⟨h0, hb, _⟩ := hi.pnd hp
  have hse := hi.ok.seat
  unfold St.act
  split
  · rw [if_pos (.inl rfl)]
    unfold St.accept
    rw [put_out]
    have : ({ s with ld := s.seat, nt := 0 } : St).turn = s.seat := by unfold St.turn; dsimp only; rw [h0]; omega
    rw [this]
  · rw [if_neg (by omega)]
  · rw [if_neg (by omega)]
  · rw [if_neg (by omega)]
  · rw [if_pos (.inr rfl)]
    unfold St.accept
    rw [put_out]
    have : ({ ({ s with dc := (s.dc + 2) % 4 } : St) with ld := s.seat, nt := 0 } : St).turn = s.seat := by unfold St.turn; dsimp only; rw [h0]; omega
    dsimp only at this ⊢
    rw [this]
  next h1 _ _ _ h5 => rw [if_neg (by rintro (rfl | rfl); exact h1 rfl; exact h5 rfl)]
theorem choose_ok (hi : SInv d n s) {choice : Nat} (h : (s.chooseV choice).2 = 0) : ∃ q, q < 6 ∧ choice = 2 ^ q ∧ s.may q = true ∧ s.pend = true ∧ (s.chooseV choice).1 = (s.act q).done ∧
    (s.chooseV choice).1.h = (if q = 0 ∨ q = 5 then outH s.h s.seat s.card else s.h) ∧ (s.chooseV choice).1.pend = false := by
  unfold St.chooseV at h ⊢
  split
  next hp =>
    rw [if_pos hp] at h
    rcases chooseTo_cases s choice 6 (Nat.le_refl _) with e | ⟨q, hq, hc, hm, e⟩
    · rw [e] at h; cases h
    · refine ⟨q, hq, hc, hm, hp, by rw [e], ?_, by rw [e]; rfl⟩
      rw [e]; exact act_h hi hp q
  next hp => rw [if_neg hp] at h; cases h
theorem demand_err (s : St) (suit : Nat) (req : Bool) (h : (s.demandV suit req).2 ≠ 0) : (s.demandV suit req).1 = s := by
  unfold St.demandV at h ⊢
  split
  · rfl
  next h1 =>
    rw [if_neg h1] at h
    split
    · rfl
    next h2 =>
      rw [if_neg h2] at h
      split
      · rfl
      next h3 => rw [if_neg h3] at h; exact absurd rfl h
theorem demand_h (s : St) (suit : Nat) (req : Bool) : (s.demandV suit req).1.h = s.h := by
  unfold St.demandV
  split
  · rfl
  · split
    · rfl
    · split <;> rfl
theorem does_err (s : St) (a : AcT) (h : (doesV s a).1.2 ≠ 0) : (doesV s a).1.1 = s := by
  unfold doesV at h ⊢
  split
  next h1 => rw [if_pos h1] at h; exact lead_err _ _ _ h
  next h1 =>
    rw [if_neg h1] at h
    split
    next h2 => rw [if_pos h2] at h; exact choose_err _ _ h
    next h2 =>
      rw [if_neg h2] at h
      split
      next h3 => rw [if_pos h3] at h; exact demand_err _ _ _ h
      next h3 => rw [if_neg h3] at h; exact play_err _ _ h
theorem does_ok (hi : SInv d n s) (a : AcT) (h : (doesV s a).1.2 = 0) :
    (Played s (doesV s a).1.1 (doesV s a).2 ∧ playedB a (doesV s a).1.1 = true) ∨ ((doesV s a).1.1.h = s.h ∧ playedB a (doesV s a).1.1 = false) := by
  unfold doesV at h ⊢
  split
  next h1 =>
    rw [if_pos h1] at h
    rcases lead_ok hi h with hp | ⟨h2, h3⟩
    · refine .inl ⟨hp, ?_⟩
      unfold playedB
      dsimp only
      rw [hp.pend, show decide (a.kind % 8 < 6) = true by rw [decide_eq_true_eq]; omega]
      simp
    · refine .inr ⟨h2, ?_⟩
      unfold playedB
      dsimp only
      rw [h3]
      rcases h1 with h1 | h1 <;> rw [h1] <;> rfl
  next h1 =>
    rw [if_neg h1] at h
    split
    next h2 =>
      rw [if_pos h2] at h
      obtain ⟨q, hq, hc, hm, hp, he, hh, hpn⟩ := choose_ok hi h
      have hqe : q = a.card % 6 := by
        have := Nat.pow_right_inj (a := 2) (by decide) |>.1 hc
        exact this.symm
      dsimp only
      by_cases h05 : q = 0 ∨ q = 5
      · rw [if_pos h05] at hh
        refine .inl ⟨⟨⟨s.seat, hi.ok.seat, (hi.pnd hp).2.1, hh⟩, hpn⟩, ?_⟩
        unfold playedB
        rw [h2, ← hqe]
        rcases h05 with rfl | rfl <;> rfl
      · rw [if_neg h05] at hh
        refine .inr ⟨hh, ?_⟩
        unfold playedB
        rw [h2, ← hqe]
        have a1 : (q == 0) = false := by rw [beq_eq_false_iff_ne]; omega
        have a2 : (q == 5) = false := by rw [beq_eq_false_iff_ne]; omega
        rw [a1, a2]; rfl
    next h2 =>
      rw [if_neg h2] at h
      split
      next h3 =>
        refine .inr ⟨demand_h _ _ _, ?_⟩
        unfold playedB
        rw [h3]; rfl
      next h3 =>
        rw [if_neg h3] at h
        refine .inl ⟨play_ok hi h, ?_⟩
        unfold playedB
        rw [show decide (a.kind % 8 < 4) = true by rw [decide_eq_true_eq]; omega]; rfl

/-- the state after acts -/
def runV : St → List AcT → St
  | s, [] => s
  | s, a :: l => runV (doesV s a).1.1 l
theorem runV_append (s : St) : ∀ l m, runV s (l ++ m) = runV (runV s l) m := by
  intro l
  induction l generalizing s with
  | nil => intro m; rfl
  | cons a l ih => intro m; exact ih _ m
theorem SInv.run (hd : Deal4 d n) : ∀ (l : List AcT) (s : St), SInv d n s → SInv d n (runV s l)
  | [], _, h => h
  | a :: l, _, h => SInv.run hd l _ (h.does hd a)
theorem runV_take (s : St) (l : List AcT) (k : Nat) (hk : k < l.length) : runV s (l.take (k + 1)) = (doesV (runV s (l.take k)) l[k]).1.1 := by
  rw [List.take_succ_eq_append_getElem hk, runV_append]; rfl
/-- the cards left -/
def leftV (s : St) : Nat := pop (s.h 0) + pop (s.h 1) + pop (s.h 2) + pop (s.h 3)
theorem left_out {h : Nat → Nat} {p c : Nat} (hp : p < 4) (hc : c < 64) (hb : (h p).testBit c = true) : pop (outH h p c 0) + pop (outH h p c 1) + pop (outH h p c 2) + pop (outH h p c 3) + 1 = pop (h 0) + pop (h 1) + pop (h 2) + pop (h 3) := by
  have hx := pop_landn _ c hc hb
  unfold outH
  rcases (show p = 0 ∨ p = 1 ∨ p = 2 ∨ p = 3 by omega) with rfl | rfl | rfl | rfl <;> simp <;> omega
theorem Played.left (hi : SInv d n s) {t : St} {c : Nat} (h : Played s t c) : leftV t + 1 = leftV s := by
  obtain ⟨p, hp, hb, he⟩ := h.out
  unfold leftV
  rw [he]
  exact left_out hp (by have := hi.bit52 hp hb; omega) hb
theorem leftV_over (hi : SInv d n s) : s.over = true ↔ leftV s = 0 := by
  rw [Go.Proofs.YtgnlmodaekfhfaaDoor.over_iff]
  constructor
  · intro h; unfold leftV; rw [h 0 (by omega), h 1 (by omega), h 2 (by omega), h 3 (by omega), pop_nil]
  · intro h j hj
    unfold leftV at h
    refine pop_zero (w64_52 (hi.ok.h j hj)) ?_
    rcases (show j = 0 ∨ j = 1 ∨ j = 2 ∨ j = 3 by omega) with rfl | rfl | rfl | rfl <;> omega
def accA : AcT := ⟨6, 0, 0⟩
def zeroA : AcT := ⟨0, 0, 0⟩
theorem accA_step (hi : SInv d n s) : (doesV s accA).1.1.pend = false ∧ leftV (doesV s accA).1.1 ≤ leftV s := by
  have e : doesV s accA = (s.chooseV 1, s.card) := rfl
  rw [e]
  by_cases h : (s.chooseV 1).2 = 0
  · obtain ⟨q, hq, hc, hm, hp, he, hh, hpn⟩ := choose_ok hi h
    have hq0 : q = 0 := ((Nat.pow_right_inj (a := 2) (by decide)).1 (show 2 ^ 0 = 2 ^ q from hc)).symm
    subst hq0
    rw [if_pos (.inl rfl)] at hh
    have := Played.left hi (t := (s.chooseV 1).1) (c := s.card) ⟨⟨s.seat, hi.ok.seat, (hi.pnd hp).2.1, hh⟩, hpn⟩
    exact ⟨hpn, by dsimp only; omega⟩
  · have he := choose_err s 1 h
    dsimp only
    rw [he]
    refine ⟨?_, Nat.le_refl _⟩
    cases hp : s.pend
    · rfl
    · exfalso
      apply h
      unfold St.chooseV
      rw [if_pos hp]
      have hm : s.may 0 = true := hp
      have : ∀ k, k < 6 → s.chooseTo 1 (k + 1) = if 2 ^ (5 - k) = 1 ∧ s.may (5 - k) = true then ((s.act (5 - k)).done, 0) else s.chooseTo 1 k := fun k _ => rfl
      rw [this 5 (by omega), if_pos ⟨rfl, hm⟩]
theorem zeroA_step (hi : SInv d n s) (hp : s.pend = false) : (doesV s zeroA).1.1.pend = false ∧ leftV (doesV s zeroA).1.1 ≤ leftV s - 1 := by
  have e : doesV s zeroA = (s.playV (nthV s.legal 0), nthV s.legal 0) := rfl
  rw [e]
  cases ho : s.over
  · have hl := nthV_bit (m := s.legal) (n := 0) (by
      exact w64_52 (lt_of_bits fun c hc => hi.legal52 hc)) (hi.legal_ne ho hp)
    have h2 : (s.playV (nthV s.legal 0)).2 = 0 := by unfold St.playV; rw [hp, if_neg (by decide), if_pos hl]
    have h3 := play_ok hi h2
    have := h3.left hi
    exact ⟨h3.pend, by dsimp only; omega⟩
  · have h0 := (leftV_over hi).1 ho
    have hle : ∀ c, (s.playV c).1.pend = false ∧ leftV (s.playV c).1 ≤ leftV s - 1 := by
      intro c
      by_cases h2 : (s.playV c).2 = 0
      · have h3 := play_ok hi h2
        have := h3.left hi
        exact ⟨h3.pend, by omega⟩
      · rw [play_err s c h2]; exact ⟨hp, by omega⟩
    exact hle _
/-- the acts that end a play -/
def endA : Nat → List AcT
  | 0 => []
  | k + 1 => endA k ++ [accA, zeroA]
theorem endA_len : ∀ k, (endA k).length = 2 * k
  | 0 => rfl
  | k + 1 => by simp [endA, endA_len k]; omega
theorem run_end (hd : Deal4 d n) (hi : SInv d n s) : ∀ k, leftV (runV s (endA k)) ≤ leftV s - k ∧ (0 < k → (runV s (endA k)).pend = false)
  | 0 => ⟨Nat.le_refl _, fun h => absurd h (Nat.lt_irrefl 0)⟩
  | k + 1 => by
    obtain ⟨h1, _⟩ := run_end hd hi k
    have hk := SInv.run hd (endA k) _ hi
    unfold endA
    rw [runV_append]
    obtain ⟨h2, h3⟩ := accA_step hk
    have hk2 := hk.does hd accA
    obtain ⟨h4, h5⟩ := zeroA_step hk2 h2
    exact ⟨by show leftV (doesV (doesV _ accA).1.1 zeroA).1.1 ≤ _; omega, fun _ => h4⟩
theorem left_le (hi : SInv d n s) : leftV s ≤ 4 * n := by
  unfold leftV
  have h0 := hi.nums 0 (by omega)
  have h1 := hi.nums 1 (by omega)
  have h2 := hi.nums 2 (by omega)
  have h3 := hi.nums 3 (by omega)
  omega
/-- played to the end -/
structure Ended (n : Nat) (s : St) : Prop where
  h : ∀ j, j < 4 → s.h j = 0
  w : s.w 0 + s.w 1 = n
  ct : s.ct = 0
  pend : s.pend = false
  pn : ∀ j, j < 4 → s.pn j = 0
theorem ended (hd : Deal4 d n) (hn : n ≤ 5) (hi : SInv d n s) : Ended n (runV s (endA 20)) := by
  obtain ⟨h1, h2⟩ := run_end hd hi 20
  have h3 := left_le hi
  have hk := SInv.run hd (endA 20) _ hi
  have ho := (leftV_over hk).2 (by omega)
  have hw := hk.over_iff.1 ho
  have h0 := Go.Proofs.YtgnlmodaekfhfaaDoor.over_iff.1 ho
  refine ⟨h0, hw, hk.ct_over hw, h2 (by omega), fun j hj => ?_⟩
  apply Nat.eq_of_testBit_eq
  intro c
  rw [Nat.zero_testBit]
  cases hb : ((runV s (endA 20)).pn j).testBit c
  · rfl
  · have := hk.pen j c hj hb
    rw [h0 j hj, Nat.zero_testBit] at this; cases this
end Go.Proofs.YtgnlmodaekfhfaaDoor
