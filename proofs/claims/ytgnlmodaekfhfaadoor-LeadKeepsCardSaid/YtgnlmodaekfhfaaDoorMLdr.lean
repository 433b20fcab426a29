/- LdDm, LdR, LdKp in one text. -/
import Derived.Test.YtgnlmodaekfhfaaDoorMLdx
import Derived.Test.YtgnlmodaekfhfaaDoorLdQ

/- Plain: what finesselaw14.LeadDemands does with a table. -/
namespace Go.Proofs.YtgnlmodaekfhfaaDoor
open Go.RowKit Go.Shelf Go.Sort

theorem shl1_lt {c : Nat} (hc : c < 64) : shl1 c = 2 ^ c := by unfold shl1; rw [if_pos hc]
theorem shl1_ne {c : Nat} (hc : c < 64) : shl1 c ≠ 0 := by rw [shl1_lt hc]; exact Nat.ne_of_gt (Nat.two_pow_pos c)
theorem suitsM_one (u : Nat) (hu : u < 4) : suitsM (2 ^ u) = sm u := by
  apply Nat.eq_of_testBit_eq
  intro c
  rw [suitsM_bit, sm_bit, Nat.testBit_two_pow]
  rw [Bool.eq_iff_iff]
  simp only [Bool.and_eq_true, decide_eq_true_eq]
  omega
theorem suitsM_zero : suitsM 0 = 0 := by decide +kernel
theorem land_zero (m : Nat) : land m 0 = 0 := by unfold land; simp
theorem landn_zero (m : Nat) : landn m 0 = m := by
  apply Nat.eq_of_testBit_eq; intro c; rw [testBit_landn]; simp
theorem landn_self (m : Nat) : landn m m = 0 := by
  apply Nat.eq_of_testBit_eq; intro c; rw [testBit_landn]; simp
theorem lor_zero (m : Nat) : lor 0 m = m := by
  apply Nat.eq_of_testBit_eq; intro c; rw [testBit_lor]; simp
theorem leadsV_none (m : Nat) : leadsV m 0 0 = m := by
  unfold leadsV
  rw [suitsM_zero, land_zero, landn_zero]
  simp
theorem land_one {c u : Nat} (hc : c < 52) : land (shl1 c) (sm u) = if c / 13 = u then shl1 c else 0 := by
  apply Nat.eq_of_testBit_eq
  intro i
  rw [testBit_land, testBit_shl1, sm_bit]
  have hc64 : c < 64 := by omega
  by_cases h : c / 13 = u
  · rw [if_pos h, testBit_shl1]
    rw [Bool.eq_iff_iff]
    simp only [Bool.and_eq_true, decide_eq_true_eq]
    omega
  · rw [if_neg h, Nat.zero_testBit, Bool.eq_false_iff]
    simp only [ne_eq, Bool.and_eq_true, decide_eq_true_eq]
    omega
theorem landn_one {c u : Nat} (h : c / 13 = u) : landn (shl1 c) (sm u) = 0 := by
  apply Nat.eq_of_testBit_eq
  intro i
  rw [testBit_landn, testBit_shl1, sm_bit, Nat.zero_testBit, Bool.eq_false_iff]
  simp only [ne_eq, Bool.and_eq_true, decide_eq_true_eq, Bool.not_eq_true', Bool.and_eq_false_iff, decide_eq_false_iff_not]
  omega
variable {d : Nat → Nat} {n : Nat} {s : St}
/-- the cards that can be led behind a demand -/
def canD (hand u : Nat) (req : Bool) : Nat :=
  if (if req then land hand (sm u) else landn hand (sm u)) = 0 then hand else if req then land hand (sm u) else landn hand (sm u)
theorem canD_leads {hand u : Nat} (hu : u < 4) (req : Bool) : leadsV hand (if req then 2 ^ u else 0) (if req then 0 else 2 ^ u) = canD hand u req := by
  unfold leadsV canD
  cases req
  · simp only [Bool.false_eq_true, if_false, suitsM_zero, land_zero, suitsM_one u hu]
    by_cases h : landn hand (sm u) = 0 <;> simp [h]
  · simp only [if_true, suitsM_zero, landn_zero, suitsM_one u hu]
    by_cases h : land hand (sm u) = 0
    · simp [h]
    · simp [h]
theorem lead_out (hi : SInv d n s) (hp : s.pend = false) (h0 : s.ct = 0) {seat c : Nat} (hse : seat < 4) (hb : (s.h seat).testBit c = true) (hne : seat ≠ s.ld) :
    s.leadV seat c = ({ s with seat := seat, card := c, pend := true }, 0) := by
  have ht : s.turn = s.ld := by have := hi.ok.ld; unfold St.turn; rw [h0]; omega
  unfold St.leadV
  rw [hp, h0, if_neg (by simp), if_neg (by simp [hb]; omega), if_neg (by rw [ht]; exact hne)]
theorem dem_plain (hd : Deal4 d n) {tm dc : Nat} (htm : tm ≤ 4) (hdc : dc < 4) (card u : Nat) (req : Bool) (hu : u < 4) :
    ∃ c S1 S2, c = nthV (d ((dc + 3) % 4)) card ∧ c < 52 ∧ SInv d n (St.new d tm dc) ∧ SInv d n S1 ∧ SInv d n S2 ∧ (St.new d tm dc).demandV u req = (St.new d tm dc, 143) ∧ (St.new d tm dc).leadV ((dc + 3) % 4) c = (S1, 0) ∧ S1.chooseV 4 = (S2, 0) ∧
      S2.pn ((dc + 3) % 4) = shl1 c ∧ (c / 13 ≠ u → S2.demandV u req = (S2, 143)) ∧
      (c / 13 = u → ∃ S3, SInv d n S3 ∧ S2.demandV u req = (S3, 0) ∧ (∀ j, j < 4 → S3.pn j = 0) ∧ S3.demandV u req = (S3, 143) ∧ S3.legal = canD (d ((dc + 1) % 4)) u req) := by
  obtain ⟨P, hP⟩ : ∃ P, P = (dc + 3) % 4 := ⟨_, rfl⟩
  have hP4 : P < 4 := by omega
  have h0 := SInv.new hd (tm := tm) (dc := dc) htm hdc
  have hdP : d P ≠ 0 := by intro e; have := hd.pop P hP4; rw [e, pop_nil] at this; have := hd.pos; omega
  obtain ⟨c, hc⟩ : ∃ c, c = nthV (d P) card := ⟨_, rfl⟩
  have hb : (d P).testBit c = true := by rw [hc]; exact nthV_bit (w64_52 (hd.lt P hP4)) hdP card
  have hc52 : c < 52 := y_bit_lt (n := 52) (hd.lt P hP4) hb
  have hl := lead_out h0 (s := St.new d tm dc) rfl rfl hP4 hb (show P ≠ (dc + 1) % 4 by omega)
  have i1 := h0.lead hd P c
  rw [hl] at i1
  obtain ⟨S1, hS1⟩ : ∃ S1 : St, S1 = { St.new d tm dc with seat := P, card := c, pend := true } := ⟨_, rfl⟩
  rw [← hS1] at hl i1
  have hd2 : S1.byDefender = true := by
    rw [hS1]
    show (true && (P % 2 != dc % 2)) = true
    rw [Bool.true_and, bne_iff_ne]; omega
  obtain ⟨S2, hS2⟩ : ∃ S2 : St, S2 = (S1.act 2).done := ⟨_, rfl⟩
  have hch : S1.chooseV 4 = (S2, 0) := by
    unfold St.chooseV
    rw [show S1.pend = true by rw [hS1]]
    rw [if_pos rfl, chooseTo_hit S1 4 2 (by omega) (fun q hq => by
      rcases (show q = 0 ∨ q = 1 by omega) with rfl | rfl <;> (rintro ⟨h, -⟩; exact absurd h (by decide))) rfl hd2, ← hS2]
  have i2 := i1.choose hd 4
  rw [hch] at i2
  have hS2e : S2 = { St.new d tm dc with pn := setH (fun _ => 0) P (shl1 c) } := by
    rw [hS2, hS1]
    show ({ St.new d tm dc with pn := setH (fun _ => 0) P (lor 0 (shl1 c)) } : St) = _
    rw [lor_zero]
  have hpn : S2.pn P = shl1 c := by rw [hS2e]; show setH (fun _ => 0) P (shl1 c) P = shl1 c; unfold setH; rw [if_pos rfl]
  have hpt : (S2.ld + 2) % 4 = P := by rw [hS2e]; show ((dc + 1) % 4 + 2) % 4 = P; omega
  refine ⟨c, S1, S2, by rw [hc, hP], hc52, h0, i1, i2, ?_, by rw [← hP]; exact hl, hch, by rw [← hP]; exact hpn, ?_, ?_⟩
  · unfold St.demandV
    rw [show (St.new d tm dc).pend = false from rfl, if_neg (by decide)]
    rw [if_neg (by
      show ¬ (3 < u ∨ (0 : Nat) ≠ 0 ∨ (0 : Nat) ≠ 0 ∨ ((dc + 1) % 4 + 2) % 4 % 2 = dc % 2)
      omega)]
    rw [if_pos (by show land 0 _ = 0; unfold land; simp)]
  · intro hne
    unfold St.demandV
    rw [show S2.pend = false by rw [hS2e]; rfl, if_neg (by decide)]
    rw [if_neg (by
      rw [hS2e]
      show ¬ (3 < u ∨ (0 : Nat) ≠ 0 ∨ (0 : Nat) ≠ 0 ∨ ((dc + 1) % 4 + 2) % 4 % 2 = dc % 2)
      omega)]
    rw [hpt, hpn, suitsM_one u hu, land_one hc52, if_neg hne, if_pos rfl]
  · intro hcu
    have hdm : S2.demandV u req = ({ S2 with pn := fun _ => 0, must := if req then 2 ^ u else 0, nt := if req then 0 else 2 ^ u }, 0) := by
      unfold St.demandV
      rw [show S2.pend = false by rw [hS2e]; rfl, if_neg (by decide)]
      rw [if_neg (by
        rw [hS2e]
        show ¬ (3 < u ∨ (0 : Nat) ≠ 0 ∨ (0 : Nat) ≠ 0 ∨ ((dc + 1) % 4 + 2) % 4 % 2 = dc % 2)
        omega)]
      rw [hpt, hpn, suitsM_one u hu, land_one hc52, if_pos hcu, if_neg (shl1_ne (by omega)), landn_one hcu]
      have e1 : setH S2.pn P 0 = fun _ => 0 := by
        funext j
        rw [hS2e]
        show setH (setH (fun _ => 0) P (shl1 c)) P 0 j = 0
        unfold setH
        by_cases h : j = P <;> simp [h]
      have e2 : S2.must = 0 := by rw [hS2e]; rfl
      have e3 : S2.nt = 0 := by rw [hS2e]; rfl
      rw [e1, e2, e3]
      have e4 : (0 : Nat) ||| 2 ^ u = 2 ^ u := by simp
      rw [e4]
    have i3 := i2.demand u req
    rw [hdm] at i3
    obtain ⟨S3, hS3⟩ : ∃ S3 : St, S3 = { S2 with pn := fun _ => 0, must := if req then 2 ^ u else 0, nt := if req then 0 else 2 ^ u } := ⟨_, rfl⟩
    rw [← hS3] at hdm i3
    refine ⟨S3, i3, hdm, fun j _ => by rw [hS3], ?_, ?_⟩
    · unfold St.demandV
      rw [show S3.pend = false by rw [hS3, hS2e]; rfl, if_neg (by decide)]
      cases req
      · rw [if_neg (by
          rw [hS3, hS2e]
          show ¬ (3 < u ∨ (0 : Nat) ≠ 0 ∨ (0 : Nat) ≠ 0 ∨ ((dc + 1) % 4 + 2) % 4 % 2 = dc % 2)
          omega)]
        rw [if_pos (by rw [show S3.pn = fun _ => 0 by rw [hS3]]; show land 0 _ = 0; unfold land; simp)]
      · rw [if_pos (.inr (.inr (.inl (by rw [hS3]; exact Nat.ne_of_gt (Nat.two_pow_pos u)))))]
    · have ht : S3.turn = (dc + 1) % 4 := by rw [hS3, hS2e]; show ((dc + 1) % 4 + 0) % 4 = _; omega
      unfold St.legal
      rw [show S3.pend = false by rw [hS3, hS2e]; rfl, if_neg (by decide)]
      unfold St.can
      rw [if_pos (show S3.ct = 0 by rw [hS3, hS2e]; rfl), ht]
      have e1 : S3.h = d := by rw [hS3, hS2e]; rfl
      have e2 : S3.must = if req then 2 ^ u else 0 := by rw [hS3]
      have e3 : S3.nt = if req then 0 else 2 ^ u := by rw [hS3]
      have e4 : S3.pn ((dc + 1) % 4) = 0 := by rw [hS3]
      rw [e1, e2, e3, e4, canD_leads hu]
      unfold pick
      rw [land_zero, if_neg (by simp)]
end Go.Proofs.YtgnlmodaekfhfaaDoor

/- Plain: what an act does to the hands of a table of a deal; played to the end. -/
namespace Go.Proofs.YtgnlmodaekfhfaaDoor
open Go.RowKit Go.Shelf Go.Sort

variable {d : Nat → Nat} {n : Nat} {s : St}
/-- a card out of a hand -/
def outH (h : Nat → Nat) (p c : Nat) : Nat → Nat := fun j => if j = p then landn (h p) (shl1 c) else h j
theorem put_out (s : St) (c : Nat) : (s.put c).h = outH s.h s.turn c := by
  funext j
  rw [put_h]; rfl
/-- whether an act that was no error played a card -/
def playedB (a : AcT) (t : St) : Bool := decide (a.kind % 8 < 4) || (decide (a.kind % 8 < 6) && !t.pend) || (a.kind % 8 == 6 && (a.card % 6 == 0 || a.card % 6 == 5))
/-- a card was played -/
structure Played (s t : St) (c : Nat) : Prop where
  out : ∃ p, p < 4 ∧ (s.h p).testBit c = true ∧ t.h = outH s.h p c
  pend : t.pend = false
theorem play_err (s : St) (c : Nat) (h : (s.playV c).2 ≠ 0) : (s.playV c).1 = s := by
  unfold St.playV at h ⊢
  split
  · rfl
  · split
    next h1 h2 => rw [if_neg h1, if_pos h2] at h; exact absurd rfl h
    · rfl
theorem play_ok (hi : SInv d n s) {c : Nat} (h : (s.playV c).2 = 0) : Played s (s.playV c).1 c := by
  unfold St.playV at h ⊢
  split
  next h1 => rw [if_pos h1] at h; cases h
  next h1 =>
    rw [if_neg h1] at h
    split
    next h2 => exact ⟨⟨s.turn, s.turn_lt, hi.legal_sub h2, put_out s c⟩, by rw [put_pend]; simpa using h1⟩
    next h2 => rw [if_neg h2] at h; cases h
theorem lead_err (s : St) (seat c : Nat) (h : (s.leadV seat c).2 ≠ 0) : (s.leadV seat c).1 = s := by
  unfold St.leadV at h ⊢
  split
  · rfl
  next h1 =>
    rw [if_neg h1] at h
    split
    · rfl
    next h2 =>
      rw [if_neg h2] at h
      split
      next h3 => rw [if_pos h3] at h; exact play_err s c h
      next h3 => rw [if_neg h3] at h; exact absurd rfl h
theorem lead_ok (hi : SInv d n s) {seat c : Nat} (h : (s.leadV seat c).2 = 0) : Played s (s.leadV seat c).1 c ∨ ((s.leadV seat c).1.h = s.h ∧ (s.leadV seat c).1.pend = true) := by
  unfold St.leadV at h ⊢
  split
  next h1 => rw [if_pos h1] at h; cases h
  next h1 =>
    rw [if_neg h1] at h
    split
    next h2 => rw [if_pos h2] at h; cases h
    next h2 =>
      rw [if_neg h2] at h
      split
      next h3 => rw [if_pos h3] at h; exact .inl (play_ok hi h)
      next h3 => exact .inr ⟨rfl, rfl⟩
theorem chooseTo_cases (s : St) (choice : Nat) : ∀ k, k ≤ 6 → s.chooseTo choice k = (s, 143) ∨ ∃ q, q < 6 ∧ choice = 2 ^ q ∧ s.may q = true ∧ s.chooseTo choice k = ((s.act q).done, 0)
  | 0, _ => .inl rfl
  | k + 1, hk => by
    unfold St.chooseTo
    split
    next h => exact .inr ⟨5 - k, by omega, h.1.symm, h.2, rfl⟩
    · exact chooseTo_cases s choice k (by omega)
theorem choose_err (s : St) (choice : Nat) (h : (s.chooseV choice).2 ≠ 0) : (s.chooseV choice).1 = s := by
  unfold St.chooseV at h ⊢
  split
  next hp =>
    rw [if_pos hp] at h
    rcases chooseTo_cases s choice 6 (Nat.le_refl _) with e | ⟨q, _, _, _, e⟩
    · rw [e]
    · rw [e] at h; exact absurd rfl h
  · rfl
theorem act_h (hi : SInv d n s) (hp : s.pend = true) (q : Nat) : (s.act q).h = if q = 0 ∨ q = 5 then outH s.h s.seat s.card else s.h := by
  obtain ⟨h0, hb, _⟩ := hi.pnd hp
  have hse := hi.ok.seat
  unfold St.act
  split
  · rw [if_pos (.inl rfl)]
    unfold St.accept
    rw [put_out]
    have : ({ s with ld := s.seat, nt := 0 } : St).turn = s.seat := by unfold St.turn; dsimp only; rw [h0]; omega
    rw [this]
  · rw [if_neg (by omega)]
  · rw [if_neg (by omega)]
  · rw [if_neg (by omega)]
  · rw [if_pos (.inr rfl)]
    unfold St.accept
    rw [put_out]
    have : ({ ({ s with dc := (s.dc + 2) % 4 } : St) with ld := s.seat, nt := 0 } : St).turn = s.seat := by unfold St.turn; dsimp only; rw [h0]; omega
    dsimp only at this ⊢
    rw [this]
  next h1 _ _ _ h5 => rw [if_neg (by rintro (rfl | rfl); exact h1 rfl; exact h5 rfl)]
theorem choose_ok (hi : SInv d n s) {choice : Nat} (h : (s.chooseV choice).2 = 0) : ∃ q, q < 6 ∧ choice = 2 ^ q ∧ s.may q = true ∧ s.pend = true ∧ (s.chooseV choice).1 = (s.act q).done ∧
    (s.chooseV choice).1.h = (if q = 0 ∨ q = 5 then outH s.h s.seat s.card else s.h) ∧ (s.chooseV choice).1.pend = false := by
  unfold St.chooseV at h ⊢
  split
  next hp =>
    rw [if_pos hp] at h
    rcases chooseTo_cases s choice 6 (Nat.le_refl _) with e | ⟨q, hq, hc, hm, e⟩
    · rw [e] at h; cases h
    · refine ⟨q, hq, hc, hm, hp, by rw [e], ?_, by rw [e]; rfl⟩
      rw [e]; exact act_h hi hp q
  next hp => rw [if_neg hp] at h; cases h
theorem demand_err (s : St) (suit : Nat) (req : Bool) (h : (s.demandV suit req).2 ≠ 0) : (s.demandV suit req).1 = s := by
  unfold St.demandV at h ⊢
  split
  · rfl
  next h1 =>
    rw [if_neg h1] at h
    split
    · rfl
    next h2 =>
      rw [if_neg h2] at h
      split
      · rfl
      next h3 => rw [if_neg h3] at h; exact absurd rfl h
theorem demand_h (s : St) (suit : Nat) (req : Bool) : (s.demandV suit req).1.h = s.h := by
  unfold St.demandV
  split
  · rfl
  · split
    · rfl
    · split <;> rfl
theorem does_err (s : St) (a : AcT) (h : (doesV s a).1.2 ≠ 0) : (doesV s a).1.1 = s := by
  unfold doesV at h ⊢
  split
  next h1 => rw [if_pos h1] at h; exact lead_err _ _ _ h
  next h1 =>
    rw [if_neg h1] at h
    split
    next h2 => rw [if_pos h2] at h; exact choose_err _ _ h
    next h2 =>
      rw [if_neg h2] at h
      split
      next h3 => rw [if_pos h3] at h; exact demand_err _ _ _ h
      next h3 => rw [if_neg h3] at h; exact play_err _ _ h
theorem does_ok (hi : SInv d n s) (a : AcT) (h : (doesV s a).1.2 = 0) :
    (Played s (doesV s a).1.1 (doesV s a).2 ∧ playedB a (doesV s a).1.1 = true) ∨ ((doesV s a).1.1.h = s.h ∧ playedB a (doesV s a).1.1 = false) := by
  unfold doesV at h ⊢
  split
  next h1 =>
    rw [if_pos h1] at h
    rcases lead_ok hi h with hp | ⟨h2, h3⟩
    · refine .inl ⟨hp, ?_⟩
      unfold playedB
      dsimp only
      rw [hp.pend, show decide (a.kind % 8 < 6) = true by rw [decide_eq_true_eq]; omega]
      simp
    · refine .inr ⟨h2, ?_⟩
      unfold playedB
      dsimp only
      rw [h3]
      rcases h1 with h1 | h1 <;> rw [h1] <;> rfl
  next h1 =>
    rw [if_neg h1] at h
    split
    next h2 =>
      rw [if_pos h2] at h
      obtain ⟨q, hq, hc, hm, hp, he, hh, hpn⟩ := choose_ok hi h
      have hqe : q = a.card % 6 := by
        have := Nat.pow_right_inj (a := 2) (by decide) |>.1 hc
        exact this.symm
      dsimp only
      by_cases h05 : q = 0 ∨ q = 5
      · rw [if_pos h05] at hh
        refine .inl ⟨⟨⟨s.seat, hi.ok.seat, (hi.pnd hp).2.1, hh⟩, hpn⟩, ?_⟩
        unfold playedB
        rw [h2, ← hqe]
        rcases h05 with rfl | rfl <;> rfl
      · rw [if_neg h05] at hh
        refine .inr ⟨hh, ?_⟩
        unfold playedB
        rw [h2, ← hqe]
        have a1 : (q == 0) = false := by rw [beq_eq_false_iff_ne]; omega
        have a2 : (q == 5) = false := by rw [beq_eq_false_iff_ne]; omega
        rw [a1, a2]; rfl
    next h2 =>
      rw [if_neg h2] at h
      split
      next h3 =>
        refine .inr ⟨demand_h _ _ _, ?_⟩
        unfold playedB
        rw [h3]; rfl
      next h3 =>
        rw [if_neg h3] at h
        refine .inl ⟨play_ok hi h, ?_⟩
        unfold playedB
        rw [show decide (a.kind % 8 < 4) = true by rw [decide_eq_true_eq]; omega]; rfl

/-- the state after acts -/
def runV : St → List AcT → St
  | s, [] => s
  | s, a :: l => runV (doesV s a).1.1 l
theorem runV_append (s : St) : ∀ l m, runV s (l ++ m) = runV (runV s l) m := by
  intro l
  induction l generalizing s with
  | nil => intro m; rfl
  | cons a l ih => intro m; exact ih _ m
theorem SInv.run (hd : Deal4 d n) : ∀ (l : List AcT) (s : St), SInv d n s → SInv d n (runV s l)
  | [], _, h => h
  | a :: l, _, h => SInv.run hd l _ (h.does hd a)
theorem runV_take (s : St) (l : List AcT) (k : Nat) (hk : k < l.length) : runV s (l.take (k + 1)) = (doesV (runV s (l.take k)) l[k]).1.1 := by
  rw [List.take_succ_eq_append_getElem hk, runV_append]; rfl
/-- the cards left -/
def leftV (s : St) : Nat := pop (s.h 0) + pop (s.h 1) + pop (s.h 2) + pop (s.h 3)
theorem left_out {h : Nat → Nat} {p c : Nat} (hp : p < 4) (hc : c < 64) (hb : (h p).testBit c = true) : pop (outH h p c 0) + pop (outH h p c 1) + pop (outH h p c 2) + pop (outH h p c 3) + 1 = pop (h 0) + pop (h 1) + pop (h 2) + pop (h 3) := by
  have hx := pop_landn _ c hc hb
  unfold outH
  rcases (show p = 0 ∨ p = 1 ∨ p = 2 ∨ p = 3 by omega) with rfl | rfl | rfl | rfl <;> simp <;> omega
theorem Played.left (hi : SInv d n s) {t : St} {c : Nat} (h : Played s t c) : leftV t + 1 = leftV s := by
  obtain ⟨p, hp, hb, he⟩ := h.out
  unfold leftV
  rw [he]
  exact left_out hp (by have := hi.bit52 hp hb; omega) hb
theorem leftV_over (hi : SInv d n s) : s.over = true ↔ leftV s = 0 := by
  rw [Go.Proofs.YtgnlmodaekfhfaaDoor.over_iff]
  constructor
  · intro h; unfold leftV; rw [h 0 (by omega), h 1 (by omega), h 2 (by omega), h 3 (by omega), pop_nil]
  · intro h j hj
    unfold leftV at h
    refine pop_zero (w64_52 (hi.ok.h j hj)) ?_
    rcases (show j = 0 ∨ j = 1 ∨ j = 2 ∨ j = 3 by omega) with rfl | rfl | rfl | rfl <;> omega
def accA : AcT := ⟨6, 0, 0⟩
def zeroA : AcT := ⟨0, 0, 0⟩
theorem accA_step (hi : SInv d n s) : (doesV s accA).1.1.pend = false ∧ leftV (doesV s accA).1.1 ≤ leftV s := by
  have e : doesV s accA = (s.chooseV 1, s.card) := rfl
  rw [e]
  by_cases h : (s.chooseV 1).2 = 0
  · obtain ⟨q, hq, hc, hm, hp, he, hh, hpn⟩ := choose_ok hi h
    have hq0 : q = 0 := ((Nat.pow_right_inj (a := 2) (by decide)).1 (show 2 ^ 0 = 2 ^ q from hc)).symm
    subst hq0
    rw [if_pos (.inl rfl)] at hh
    have := Played.left hi (t := (s.chooseV 1).1) (c := s.card) ⟨⟨s.seat, hi.ok.seat, (hi.pnd hp).2.1, hh⟩, hpn⟩
    exact ⟨hpn, by dsimp only; omega⟩
  · have he := choose_err s 1 h
    dsimp only
    rw [he]
    refine ⟨?_, Nat.le_refl _⟩
    cases hp : s.pend
    · rfl
    · exfalso
      apply h
      unfold St.chooseV
      rw [if_pos hp]
      have hm : s.may 0 = true := hp
      have : ∀ k, k < 6 → s.chooseTo 1 (k + 1) = if 2 ^ (5 - k) = 1 ∧ s.may (5 - k) = true then ((s.act (5 - k)).done, 0) else s.chooseTo 1 k := fun k _ => rfl
      rw [this 5 (by omega), if_pos ⟨rfl, hm⟩]
theorem zeroA_step (hi : SInv d n s) (hp : s.pend = false) : (doesV s zeroA).1.1.pend = false ∧ leftV (doesV s zeroA).1.1 ≤ leftV s - 1 := by
  have e : doesV s zeroA = (s.playV (nthV s.legal 0), nthV s.legal 0) := rfl
  rw [e]
  cases ho : s.over
  · have hl := nthV_bit (m := s.legal) (n := 0) (by
      exact w64_52 (lt_of_bits fun c hc => hi.legal52 hc)) (hi.legal_ne ho hp)
    have h2 : (s.playV (nthV s.legal 0)).2 = 0 := by unfold St.playV; rw [hp, if_neg (by decide), if_pos hl]
    have h3 := play_ok hi h2
    have := h3.left hi
    exact ⟨h3.pend, by dsimp only; omega⟩
  · have h0 := (leftV_over hi).1 ho
    have hle : ∀ c, (s.playV c).1.pend = false ∧ leftV (s.playV c).1 ≤ leftV s - 1 := by
      intro c
      by_cases h2 : (s.playV c).2 = 0
      · have h3 := play_ok hi h2
        have := h3.left hi
        exact ⟨h3.pend, by omega⟩
      · rw [play_err s c h2]; exact ⟨hp, by omega⟩
    exact hle _
/-- the acts that end a play -/
def endA : Nat → List AcT
  | 0 => []
  | k + 1 => endA k ++ [accA, zeroA]
theorem endA_len : ∀ k, (endA k).length = 2 * k
  | 0 => rfl
  | k + 1 => by simp [endA, endA_len k]; omega
theorem run_end (hd : Deal4 d n) (hi : SInv d n s) : ∀ k, leftV (runV s (endA k)) ≤ leftV s - k ∧ (0 < k → (runV s (endA k)).pend = false)
  | 0 => ⟨Nat.le_refl _, fun h => absurd h (Nat.lt_irrefl 0)⟩
  | k + 1 => by
    obtain ⟨h1, _⟩ := run_end hd hi k
    have hk := SInv.run hd (endA k) _ hi
    unfold endA
    rw [runV_append]
    obtain ⟨h2, h3⟩ := accA_step hk
    have hk2 := hk.does hd accA
    obtain ⟨h4, h5⟩ := zeroA_step hk2 h2
    exact ⟨by show leftV (doesV (doesV _ accA).1.1 zeroA).1.1 ≤ _; omega, fun _ => h4⟩
theorem left_le (hi : SInv d n s) : leftV s ≤ 4 * n := by
  unfold leftV
  have h0 := hi.nums 0 (by omega)
  have h1 := hi.nums 1 (by omega)
  have h2 := hi.nums 2 (by omega)
  have h3 := hi.nums 3 (by omega)
  omega
/-- played to the end -/
structure Ended (n : Nat) (s : St) : Prop where
  h : ∀ j, j < 4 → s.h j = 0
  w : s.w 0 + s.w 1 = n
  ct : s.ct = 0
  pend : s.pend = false
  pn : ∀ j, j < 4 → s.pn j = 0
theorem ended (hd : Deal4 d n) (hn : n ≤ 5) (hi : SInv d n s) : Ended n (runV s (endA 20)) := by
  obtain ⟨h1, h2⟩ := run_end hd hi 20
  have h3 := left_le hi
  have hk := SInv.run hd (endA 20) _ hi
  have ho := (leftV_over hk).2 (by omega)
  have hw := hk.over_iff.1 ho
  have h0 := Go.Proofs.YtgnlmodaekfhfaaDoor.over_iff.1 ho
  refine ⟨h0, hw, hk.ct_over hw, h2 (by omega), fun j hj => ?_⟩
  apply Nat.eq_of_testBit_eq
  intro c
  rw [Nat.zero_testBit]
  cases hb : ((runV s (endA 20)).pn j).testBit c
  · rfl
  · have := hk.pen j c hj hb
    rw [h0 j hj, Nat.zero_testBit] at this; cases this
end Go.Proofs.YtgnlmodaekfhfaaDoor

/- Plain: what finesselaw14.LeadKeeps finds at every act. -/
namespace Go.Proofs.YtgnlmodaekfhfaaDoor
open Go.RowKit Go.Shelf Go.Sort

variable {d : Nat → Nat} {n : Nat} {s : St}
/-- what is out of the hands -/
def GoneOk (d : Nat → Nat) (s : St) (g : Nat → Nat) : Prop := ∀ j, j < 4 → lor (s.h j) (g j) = d j ∧ land (s.h j) (g j) = 0
/-- the cards that went out of a hand -/
def awV (s t : St) (j : Nat) : Nat := landn (s.h j) (t.h j)
/-- what is out behind an act, of the first k seats -/
def gonV (s t : St) (g : Nat → Nat) (k : Nat) : Nat → Nat := fun j => if j < k then lor (g j) (awV s t j) else g j
/-- how many cards went out of the first k hands -/
def chgV (s t : St) : Nat → Nat
  | 0 => 0
  | k + 1 => chgV s t k + pop (awV s t k)
theorem gonV_succ (s t : St) (g : Nat → Nat) (k : Nat) : setH (gonV s t g k) k (lor (g k) (awV s t k)) = gonV s t g (k + 1) := by
  funext j
  unfold setH gonV
  by_cases h : j = k
  · subst h; rw [if_pos rfl, if_pos (by omega)]
  · rw [if_neg h]
    by_cases h2 : j < k
    · rw [if_pos h2, if_pos (by omega)]
    · rw [if_neg h2, if_neg (by omega)]
theorem gonV_at (s t : St) (g : Nat → Nat) (k : Nat) : gonV s t g k k = g k := by unfold gonV; rw [if_neg (Nat.lt_irrefl k)]
theorem gonV_zero (s t : St) (g : Nat → Nat) : gonV s t g 0 = g := by funext j; unfold gonV; rw [if_neg (Nat.not_lt_zero _)]
theorem pop_one {c : Nat} (hc : c < 64) : pop (shl1 c) = 1 := by
  have := pop_lor 0 c hc (Nat.zero_testBit c)
  rwa [lor_zero, pop_nil] at this
/-- one seat -/
structure SeatOk (d : Nat → Nat) (s t : St) (g : Nat → Nat) (c j : Nat) : Prop where
  all : lor (t.h j) (lor (g j) (awV s t j)) = d j
  none : land (t.h j) (lor (g j) (awV s t j)) = 0
  pen : landn (t.pn j) (t.h j) = 0
  away : awV s t j = 0 ∨ awV s t j = shl1 c
theorem away_zero {s t : St} {j : Nat} (h : t.h j = s.h j) : awV s t j = 0 := by unfold awV; rw [h]; exact landn_self _
theorem away_one {s t : St} {p c : Nat} (h : t.h = outH s.h p c) (hb : (s.h p).testBit c = true) (hc : c < 64) : awV s t p = shl1 c := by
  unfold awV
  rw [h]
  unfold outH
  rw [if_pos rfl]
  apply Nat.eq_of_testBit_eq
  intro i
  rw [testBit_landn, testBit_landn, testBit_shl1]
  by_cases e : c = i
  · subst e; rw [hb]; simp [hc]
  · simp [e]
theorem keep_step (hd : Deal4 d n) (hi : SInv d n s) (a : AcT) (h0 : (doesV s a).1.2 = 0) {g : Nat → Nat} (hg : GoneOk d s g) :
    (∀ j, j < 4 → SeatOk d s (doesV s a).1.1 g (doesV s a).2 j) ∧ chgV s (doesV s a).1.1 4 = (if playedB a (doesV s a).1.1 then 1 else 0) ∧ GoneOk d (doesV s a).1.1 (gonV s (doesV s a).1.1 g 4) := by
  have hit := hi.does hd a
  have hcase := does_ok hi a h0
  generalize (doesV s a).1.1 = t at *
  generalize (doesV s a).2 = c at *
  have hsub : ∀ j i, j < 4 → (t.h j).testBit i = true → (s.h j).testBit i = true := by
    intro j i hj hb
    rcases hcase with ⟨hp, _⟩ | ⟨he, _⟩
    · obtain ⟨p, hp4, hpb, hpo⟩ := hp.out
      rw [hpo] at hb
      unfold outH at hb
      split at hb
      next e => subst e; rw [testBit_landn, Bool.and_eq_true] at hb; exact hb.1
      next e => exact hb
    · rw [he] at hb; exact hb
  have haw : ∀ j, j < 4 → awV s t j = 0 ∨ awV s t j = shl1 c := by
    intro j hj
    rcases hcase with ⟨hp, _⟩ | ⟨he, _⟩
    · obtain ⟨p, hp4, hpb, hpo⟩ := hp.out
      by_cases e : j = p
      · subst e; exact .inr (away_one hpo hpb (by have := hi.bit52 hp4 hpb; omega))
      · exact .inl (away_zero (by rw [hpo]; unfold outH; rw [if_neg e]))
    · exact .inl (away_zero (by rw [he]))
  have hall : ∀ j, j < 4 → lor (t.h j) (lor (g j) (awV s t j)) = d j ∧ land (t.h j) (lor (g j) (awV s t j)) = 0 := by
    intro j hj
    obtain ⟨g1, g2⟩ := hg j hj
    constructor
    · rw [← g1]
      apply Nat.eq_of_testBit_eq
      intro i
      unfold awV
      rw [testBit_lor, testBit_lor, testBit_landn, testBit_lor]
      have := hsub j i hj
      cases h1 : (t.h j).testBit i
      · cases (g j).testBit i <;> cases (s.h j).testBit i <;> rfl
      · rw [this h1]; simp
    · apply Nat.eq_of_testBit_eq
      intro i
      have h2 := congrArg (fun m => m.testBit i) g2
      simp only [Nat.zero_testBit, testBit_land] at h2
      unfold awV
      rw [testBit_land, testBit_lor, testBit_landn, Nat.zero_testBit]
      have := hsub j i hj
      cases h1 : (t.h j).testBit i
      · rfl
      · rw [this h1] at h2 ⊢
        simpa using h2
  refine ⟨fun j hj => ⟨(hall j hj).1, (hall j hj).2, ?_, haw j hj⟩, ?_, fun j hj => ?_⟩
  · apply Nat.eq_of_testBit_eq
    intro i
    rw [testBit_landn, Nat.zero_testBit]
    cases h1 : (t.pn j).testBit i
    · rfl
    · rw [hit.pen j i hj h1]; rfl
  · show 0 + pop (awV s t 0) + pop (awV s t 1) + pop (awV s t 2) + pop (awV s t 3) = _
    rcases hcase with ⟨hp, hb⟩ | ⟨he, hb⟩
    · rw [hb, if_pos rfl]
      obtain ⟨p, hp4, hpb, hpo⟩ := hp.out
      have hc64 : c < 64 := by have := hi.bit52 hp4 hpb; omega
      have h1 := away_one hpo hpb hc64
      have h2 : ∀ j, j ≠ p → pop (awV s t j) = 0 := fun j e => by rw [away_zero (by rw [hpo]; unfold outH; rw [if_neg e]), pop_nil]
      have h3 := pop_one hc64
      rcases (show p = 0 ∨ p = 1 ∨ p = 2 ∨ p = 3 by omega) with rfl | rfl | rfl | rfl
      · rw [h1, h3, h2 1 (by omega), h2 2 (by omega), h2 3 (by omega)]
      · rw [h1, h3, h2 0 (by omega), h2 2 (by omega), h2 3 (by omega)]
      · rw [h1, h3, h2 0 (by omega), h2 1 (by omega), h2 3 (by omega)]
      · rw [h1, h3, h2 0 (by omega), h2 1 (by omega), h2 2 (by omega)]
    · rw [hb, if_neg (by decide)]
      have h2 : ∀ j, pop (awV s t j) = 0 := fun j => by rw [away_zero (by rw [he]), pop_nil]
      rw [h2, h2, h2, h2]
  · unfold gonV
    rw [if_pos hj]
    exact hall j hj
theorem gone_start (d : Nat → Nat) (tm dc : Nat) : GoneOk d (St.new d tm dc) (fun _ => 0) := by
  intro j _
  constructor
  · show lor (d j) 0 = d j
    apply Nat.eq_of_testBit_eq; intro i; rw [testBit_lor]; simp
  · exact land_zero _
theorem gone_end {g : Nat → Nat} (hg : GoneOk d s g) (h : ∀ j, j < 4 → s.h j = 0) : ∀ j, j < 4 → g j = d j := by
  intro j hj
  have := (hg j hj).1
  rwa [h j hj, lor_zero] at this
theorem gone_w64 {g : Nat → Nat} (hd : Deal4 d n) (hg : GoneOk d s g) : ∀ j, j < 4 → W64 (g j) := by
  intro j hj
  refine w64_52 (Nat.lt_pow_two_of_testBit (n := 52) _ fun i hi => ?_)
  cases hb : (g j).testBit i
  · rfl
  · have h1 : (d j).testBit i = true := by rw [← (hg j hj).1, testBit_lor, hb]; simp
    have := y_bit_lt (n := 52) (hd.lt j hj) h1
    omega
end Go.Proofs.YtgnlmodaekfhfaaDoor
