/- Plain: what finesselaw14.LeadDemands does with a table. -/
import Derived.Test.YtgnlmodaekfhfaaDoorMLdx
namespace Go.Proofs.YtgnlmodaekfhfaaDoor
open Go.RowKit Go.Shelf Go.Sort

theorem shl1_lt {c : Nat} (hc : c < 64) : shl1 c = 2 ^ c := by unfold shl1; rw [if_pos hc]
theorem shl1_ne {c : Nat} (hc : c < 64) : shl1 c ≠ 0 := by rw [shl1_lt hc]; exact Nat.ne_of_gt (Nat.two_pow_pos c)
theorem suitsM_one (u : Nat) (hu : u < 4) : suitsM (2 ^ u) = sm u := by
  apply Nat.eq_of_testBit_eq
  intro c
  rw [suitsM_bit, sm_bit, Nat.testBit_two_pow]
  rw [Bool.eq_iff_iff]
  simp only [Bool.and_eq_true, decide_eq_true_eq]
  omega
theorem suitsM_zero : suitsM 0 = 0 := by decide +kernel
theorem land_zero (m : Nat) : land m 0 = 0 := by unfold land; simp
theorem landn_zero (m : Nat) : landn m 0 = m := by
  apply Nat.eq_of_testBit_eq; intro c; rw [testBit_landn]; simp
theorem landn_self (m : Nat) : landn m m = 0 := by
  apply Nat.eq_of_testBit_eq; intro c; rw [testBit_landn]; simp
theorem lor_zero (m : Nat) : lor 0 m = m := by
  apply Nat.eq_of_testBit_eq; intro c; rw [testBit_lor]; simp
theorem leadsV_none (m : Nat) : leadsV m 0 0 = m := by
  unfold leadsV
  rw [suitsM_zero, land_zero, landn_zero]
  simp
theorem land_one {c u : Nat} (hc : c < 52) : land (shl1 c) (sm u) = if c / 13 = u then shl1 c else 0 := by
  apply Nat.eq_of_testBit_eq
  intro i
  rw [testBit_land, testBit_shl1, sm_bit]
  have hc64 : c < 64 := by omega
  by_cases h : c / 13 = u
  · rw [if_pos h, testBit_shl1]
    rw [Bool.eq_iff_iff]
    simp only [Bool.and_eq_true, decide_eq_true_eq]
    omega
  · rw [if_neg h, Nat.zero_testBit, Bool.eq_false_iff]
    simp only [ne_eq, Bool.and_eq_true, decide_eq_true_eq]
    omega
theorem landn_one {c u : Nat} (h : c / 13 = u) : landn (shl1 c) (sm u) = 0 := by
  apply Nat.eq_of_testBit_eq
  intro i
  rw [testBit_landn, testBit_shl1, sm_bit, Nat.zero_testBit, Bool.eq_false_iff]
  simp only [ne_eq, Bool.and_eq_true, decide_eq_true_eq, Bool.not_eq_true', Bool.and_eq_false_iff, decide_eq_false_iff_not]
  omega
variable {d : Nat → Nat} {n : Nat} {s : St}
/-- the cards that can be led behind a demand -/
def canD (hand u : Nat) (req : Bool) : Nat :=
  if (if req then land hand (sm u) else landn hand (sm u)) = 0 then hand else if req then land hand (sm u) else landn hand (sm u)
theorem canD_leads {hand u : Nat} (hu : u < 4) (req : Bool) : leadsV hand (if req then 2 ^ u else 0) (if req then 0 else 2 ^ u) = canD hand u req := by
  unfold leadsV canD
  cases req
  · simp only [Bool.false_eq_true, if_false, suitsM_zero, land_zero, suitsM_one u hu]
    by_cases h : landn hand (sm u) = 0 <;> simp [h]
  · simp only [if_true, suitsM_zero, landn_zero, suitsM_one u hu]
    by_cases h : land hand (sm u) = 0
    · simp [h]
    · simp [h]
theorem lead_out (hi : SInv d n s) (hp : s.pend = false) (h0 : s.ct = 0) {seat c : Nat} (hse : seat < 4) (hb : (s.h seat).testBit c = true) (hne : seat ≠ s.ld) :
    s.leadV seat c = ({ s with seat := seat, card := c, pend := true }, 0) := by
  have ht : s.turn = s.ld := by have := hi.ok.ld; unfold St.turn; rw [h0]; omega
  unfold St.leadV
  rw [hp, h0, if_neg (by simp), if_neg (by simp [hb]; omega), if_neg (by rw [ht]; exact hne)]
theorem dem_plain (hd : Deal4 d n) {tm dc : Nat} (htm : tm ≤ 4) (hdc : dc < 4) (card u : Nat) (req : Bool) (hu : u < 4) :
    ∃ c S1 S2, c = nthV (d ((dc + 3) % 4)) card ∧ c < 52 ∧ SInv d n (St.new d tm dc) ∧ SInv d n S1 ∧ SInv d n S2 ∧ (St.new d tm dc).demandV u req = (St.new d tm dc, 143) ∧ (St.new d tm dc).leadV ((dc + 3) % 4) c = (S1, 0) ∧ S1.chooseV 4 = (S2, 0) ∧
      S2.pn ((dc + 3) % 4) = shl1 c ∧ (c / 13 ≠ u → S2.demandV u req = (S2, 143)) ∧
      (c / 13 = u → ∃ S3, SInv d n S3 ∧ S2.demandV u req = (S3, 0) ∧ (∀ j, j < 4 → S3.pn j = 0) ∧ S3.demandV u req = (S3, 143) ∧ S3.legal = canD (d ((dc + 1) % 4)) u req) := by
  obtain ⟨P, hP⟩ : ∃ P, P = (dc + 3) % 4 := ⟨_, rfl⟩
  have hP4 : P < 4 := by omega
  have h0 := SInv.new hd (tm := tm) (dc := dc) htm hdc
  have hdP : d P ≠ 0 := by intro e; have := hd.pop P hP4; rw [e, pop_nil] at this; have := hd.pos; omega
  obtain ⟨c, hc⟩ : ∃ c, c = nthV (d P) card := ⟨_, rfl⟩
  have hb : (d P).testBit c = true := by rw [hc]; exact nthV_bit (w64_52 (hd.lt P hP4)) hdP card
  have hc52 : c < 52 := y_bit_lt (n := 52) (hd.lt P hP4) hb
  have hl := lead_out h0 (s := St.new d tm dc) rfl rfl hP4 hb (show P ≠ (dc + 1) % 4 by omega)
  have i1 := h0.lead hd P c
  rw [hl] at i1
  obtain ⟨S1, hS1⟩ : ∃ S1 : St, S1 = { St.new d tm dc with seat := P, card := c, pend := true } := ⟨_, rfl⟩
  rw [← hS1] at hl i1
  have hd2 : S1.byDefender = true := by
    rw [hS1]
    show (true && (P % 2 != dc % 2)) = true
    rw [Bool.true_and, bne_iff_ne]; omega
  obtain ⟨S2, hS2⟩ : ∃ S2 : St, S2 = (S1.act 2).done := ⟨_, rfl⟩
  have hch : S1.chooseV 4 = (S2, 0) := by
    unfold St.chooseV
    rw [show S1.pend = true by rw [hS1]]
    rw [if_pos rfl, chooseTo_hit S1 4 2 (by omega) (fun q hq => by
      rcases (show q = 0 ∨ q = 1 by omega) with rfl | rfl <;> (rintro ⟨h, -⟩; exact absurd h (by decide))) rfl hd2, ← hS2]
  have i2 := i1.choose hd 4
  rw [hch] at i2
  have hS2e : S2 = { St.new d tm dc with pn := setH (fun _ => 0) P (shl1 c) } := by
    rw [hS2, hS1]
    show ({ St.new d tm dc with pn := setH (fun _ => 0) P (lor 0 (shl1 c)) } : St) = _
    rw [lor_zero]
  have hpn : S2.pn P = shl1 c := by rw [hS2e]; show setH (fun _ => 0) P (shl1 c) P = shl1 c; unfold setH; rw [if_pos rfl]
  have hpt : (S2.ld + 2) % 4 = P := by rw [hS2e]; show ((dc + 1) % 4 + 2) % 4 = P; omega
  refine ⟨c, S1, S2, by rw [hc, hP], hc52, h0, i1, i2, ?_, by rw [← hP]; exact hl, hch, by rw [← hP]; exact hpn, ?_, ?_⟩
  · unfold St.demandV
    rw [show (St.new d tm dc).pend = false from rfl, if_neg (by decide)]
    rw [if_neg (by
      show ¬ (3 < u ∨ (0 : Nat) ≠ 0 ∨ (0 : Nat) ≠ 0 ∨ ((dc + 1) % 4 + 2) % 4 % 2 = dc % 2)
      omega)]
    rw [if_pos (by show land 0 _ = 0; unfold land; simp)]
  · intro hne
    unfold St.demandV
    rw [show S2.pend = false by rw [hS2e]; rfl, if_neg (by decide)]
    rw [if_neg (by
      rw [hS2e]
      show ¬ (3 < u ∨ (0 : Nat) ≠ 0 ∨ (0 : Nat) ≠ 0 ∨ ((dc + 1) % 4 + 2) % 4 % 2 = dc % 2)
      omega)]
    rw [hpt, hpn, suitsM_one u hu, land_one hc52, if_neg hne, if_pos rfl]
  · intro hcu
    have hdm : S2.demandV u req = ({ S2 with pn := fun _ => 0, must := if req then 2 ^ u else 0, nt := if req then 0 else 2 ^ u }, 0) := by
      unfold St.demandV
      rw [show S2.pend = false by rw [hS2e]; rfl, if_neg (by decide)]
      rw [if_neg (by
        rw [hS2e]
        show ¬ (3 < u ∨ (0 : Nat) ≠ 0 ∨ (0 : Nat) ≠ 0 ∨ ((dc + 1) % 4 + 2) % 4 % 2 = dc % 2)
        omega)]
      rw [hpt, hpn, suitsM_one u hu, land_one hc52, if_pos hcu, if_neg (shl1_ne (by omega)), landn_one hcu]
      have e1 : setH S2.pn P 0 = fun _ => 0 := by
        funext j
        rw [hS2e]
        show setH (setH (fun _ => 0) P (shl1 c)) P 0 j = 0
        unfold setH
        by_cases h : j = P <;> simp [h]
      have e2 : S2.must = 0 := by rw [hS2e]; rfl
      have e3 : S2.nt = 0 := by rw [hS2e]; rfl
      rw [e1, e2, e3]
      have e4 : (0 : Nat) ||| 2 ^ u = 2 ^ u := by simp
      rw [e4]
    have i3 := i2.demand u req
    rw [hdm] at i3
    obtain ⟨S3, hS3⟩ : ∃ S3 : St, S3 = { S2 with pn := fun _ => 0, must := if req then 2 ^ u else 0, nt := if req then 0 else 2 ^ u } := ⟨_, rfl⟩
    rw [← hS3] at hdm i3
    refine ⟨S3, i3, hdm, fun j _ => by rw [hS3], ?_, ?_⟩
    · unfold St.demandV
      rw [show S3.pend = false by rw [hS3, hS2e]; rfl, if_neg (by decide)]
      cases req
      · rw [if_neg (by
          rw [hS3, hS2e]
          show ¬ (3 < u ∨ (0 : Nat) ≠ 0 ∨ (0 : Nat) ≠ 0 ∨ ((dc + 1) % 4 + 2) % 4 % 2 = dc % 2)
          omega)]
        rw [if_pos (by rw [show S3.pn = fun _ => 0 by rw [hS3]]; show land 0 _ = 0; unfold land; simp)]
      · rw [if_pos (.inr (.inr (.inl (by rw [hS3]; exact Nat.ne_of_gt (Nat.two_pow_pos u)))))]
    · have ht : S3.turn = (dc + 1) % 4 := by rw [hS3, hS2e]; show ((dc + 1) % 4 + 0) % 4 = _; omega
      unfold St.legal
      rw [show S3.pend = false by rw [hS3, hS2e]; rfl, if_neg (by decide)]
      unfold St.can
      rw [if_pos (show S3.ct = 0 by rw [hS3, hS2e]; rfl), ht]
      have e1 : S3.h = d := by rw [hS3, hS2e]; rfl
      have e2 : S3.must = if req then 2 ^ u else 0 := by rw [hS3]
      have e3 : S3.nt = if req then 0 else 2 ^ u := by rw [hS3]
      have e4 : S3.pn ((dc + 1) % 4) = 0 := by rw [hS3]
      rw [e1, e2, e3, e4, canD_leads hu]
      unfold pick
      rw [land_zero, if_neg (by simp)]
end Go.Proofs.YtgnlmodaekfhfaaDoor
