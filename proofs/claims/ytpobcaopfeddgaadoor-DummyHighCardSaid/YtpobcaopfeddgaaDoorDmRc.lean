/- Plain: hands whose cards are called otherwise. -/
import Derived.Test.YtpobcaopfeddgaaDoorMDqa
namespace Go.Proofs.YtpobcaopfeddgaaDoor
open Go.RowKit Go.Sort Go.Shelf

/-- the cards of m below c, as σ calls them -/
def im (σ : Nat → Nat) (m : Nat) : Nat → Nat
  | 0 => 0
  | c + 1 => if m.testBit c then lor (im σ m c) (shl1 (σ c)) else im σ m c
theorem im_succ (σ : Nat → Nat) (m c : Nat) : im σ m (c + 1) = if m.testBit c then lor (im σ m c) (shl1 (σ c)) else im σ m c := rfl
theorem im_w64 (σ : Nat → Nat) (m : Nat) : ∀ c, W64 (im σ m c)
  | 0 => W64.zero
  | c + 1 => by
    unfold im
    split
    · exact (im_w64 σ m c).lor (W64.shl1 _)
    · exact im_w64 σ m c
theorem im_bit {σ : Nat → Nat} (hs : ∀ c, c < 52 → σ c < 52) (m x : Nat) : ∀ k, k ≤ 52 → ((im σ m k).testBit x = true ↔ ∃ c, c < k ∧ m.testBit c = true ∧ σ c = x)
  | 0, _ => by
    unfold im
    rw [Nat.zero_testBit]
    simp
  | k + 1, hk => by
    have ih := im_bit hs m x k (by omega)
    have hs' := hs k (by omega)
    have hex : (∃ c, c < k + 1 ∧ m.testBit c = true ∧ σ c = x) ↔ (∃ c, c < k ∧ m.testBit c = true ∧ σ c = x) ∨ (m.testBit k = true ∧ σ k = x) := by
      constructor
      · rintro ⟨c, h1, h2, h3⟩
        rcases Nat.lt_or_ge c k with h | h
        · exact .inl ⟨c, h, h2, h3⟩
        · obtain rfl : c = k := by omega
          exact .inr ⟨h2, h3⟩
      · rintro (⟨c, h1, h2, h3⟩ | ⟨h2, h3⟩)
        · exact ⟨c, by omega, h2, h3⟩
        · exact ⟨k, by omega, h2, h3⟩
    rw [hex, ← ih, im_succ]
    cases hb : m.testBit k
    · simp
    · rw [if_pos rfl, testBit_lor, testBit_shl1, Bool.or_eq_true, Bool.and_eq_true, decide_eq_true_eq, decide_eq_true_eq]
      refine or_congr_right ⟨fun h => ⟨rfl, by omega⟩, fun h => ⟨by omega, by omega⟩⟩
theorem im_pop {σ : Nat → Nat} {m : Nat} (hs : ∀ c, c < 52 → σ c < 52) (hinj : ∀ c c', m.testBit c = true → m.testBit c' = true → σ c = σ c' → c = c') : ∀ k, k ≤ 52 → pop (im σ m k) = cnt m k
  | 0, _ => by
    show pop 0 = cnt m 0
    rw [show pop 0 = 0 by decide]; rfl
  | k + 1, hk => by
    have ih := im_pop hs hinj k (by omega)
    have hs' := hs k (by omega)
    have e : cnt m (k + 1) = cnt m k + (if m.testBit k = true then 1 else 0) := by
      simp only [cnt]
      cases m.testBit k <;> rfl
    rw [e, im_succ]
    cases hb : m.testBit k
    · simpa using ih
    · have hf : (im σ m k).testBit (σ k) = false := by
        cases h : (im σ m k).testBit (σ k)
        · rfl
        · obtain ⟨c, h1, h2, h3⟩ := (im_bit hs m _ k (by omega)).1 h
          have := hinj c k h2 hb h3
          omega
      have := cnt_lor (im σ m k) (σ k) (by omega) hf 64
      rw [if_pos (by omega)] at this
      rw [if_pos rfl, if_pos rfl, ← ih]
      exact this
theorem pop_52 {m : Nat} (h : ∀ c, m.testBit c = true → c < 52) : pop m = cnt m 52 := by
  have hz : ∀ c, 52 ≤ c → m.testBit c = false := fun c hc => by
    cases hb : m.testBit c
    · rfl
    · have := h c hb; omega
  unfold pop
  simp [cnt, hz]
/-- all four hands as σ calls their cards; the first i of them, and c cards of the next -/
def imS (σ : Nat → Nat) (h : Nat → Nat) (i c : Nat) : Nat → Nat := fun j => if j < i then im σ (h j) 52 else if j = i then im σ (h j) c else 0
theorem imS_w64 (σ : Nat → Nat) (h : Nat → Nat) (i c : Nat) (s : Nat) : W64 (imS σ h i c s) := by
  unfold imS
  split
  · exact im_w64 _ _ _
  · split
    · exact im_w64 _ _ _
    · exact W64.zero
theorem imS_next (σ : Nat → Nat) (h : Nat → Nat) (i : Nat) : imS σ h i 52 = imS σ h (i + 1) 0 := by
  funext j
  unfold imS
  by_cases h1 : j < i
  · rw [if_pos h1, if_pos (by omega)]
  · rw [if_neg h1]
    by_cases h2 : j = i
    · rw [if_pos h2, if_pos (by omega)]
    · rw [if_neg h2, if_neg (by omega)]
      split
      · rfl
      · rfl
theorem imS_skip {σ : Nat → Nat} {h : Nat → Nat} {i c : Nat} (hb : (h i).testBit c = false) : imS σ h i (c + 1) = imS σ h i c := by
  funext j
  unfold imS
  by_cases h1 : j < i
  · rw [if_pos h1, if_pos h1]
  · rw [if_neg h1, if_neg h1]
    by_cases h2 : j = i
    · subst h2
      rw [if_pos rfl, if_pos rfl]
      rw [im_succ, hb]; rfl
    · rw [if_neg h2, if_neg h2]
theorem imS_take {σ : Nat → Nat} {h : Nat → Nat} {i c : Nat} (hb : (h i).testBit c = true) (j : Nat) : imS σ h i (c + 1) j = if j = i then lor (imS σ h i c i) (shl1 (σ c)) else imS σ h i c j := by
  unfold imS
  by_cases h1 : j < i
  · rw [if_pos h1, if_neg (by omega), if_pos h1]
  · rw [if_neg h1]
    by_cases h2 : j = i
    · subst h2
      rw [if_pos rfl, if_pos rfl, if_neg (by omega), if_pos rfl]
      rw [im_succ, hb]; rfl
    · rw [if_neg h2, if_neg h2, if_neg h1, if_neg h2]
theorem imS_dealt {σ : Nat → Nat} {h : Nat → Nat} {q : Nat} (H : DealtP h q) (hs : ∀ c, c < 52 → σ c < 52) (hinj : ∀ s s' c c', s < 4 → s' < 4 → (h s).testBit c = true → (h s').testBit c' = true → σ c = σ c' → c = c') : DealtP (imS σ h 4 0) q ∧ ∀ s, s < 4 → ∀ c', (imS σ h 4 0 s).testBit c' = true ↔ ∃ c, (h s).testBit c = true ∧ σ c = c' := by
  have e : ∀ s, s < 4 → imS σ h 4 0 s = im σ (h s) 52 := fun s hs => if_pos hs
  have hb : ∀ s, s < 4 → ∀ c', (imS σ h 4 0 s).testBit c' = true ↔ ∃ c, (h s).testBit c = true ∧ σ c = c' := fun s h4 c' => by
    rw [e s h4, im_bit hs _ _ _ (Nat.le_refl _)]
    exact ⟨fun ⟨c, _, h2, h3⟩ => ⟨c, h2, h3⟩, fun ⟨c, h2, h3⟩ => ⟨c, H.in52 s h4 c h2, h2, h3⟩⟩
  refine ⟨⟨imS_w64 σ h 4 0, fun s h4 c hc => ?_, fun s s' c h4 h4' h1 h2 => ?_, fun i hi => ?_⟩, hb⟩
  · obtain ⟨c0, h1, rfl⟩ := (hb s h4 c).1 hc
    exact hs _ (H.in52 s h4 _ h1)
  · obtain ⟨c0, h1, e1⟩ := (hb s h4 c).1 h1
    obtain ⟨c1, h2, e2⟩ := (hb s' h4' c).1 h2
    have := hinj s s' c0 c1 h4 h4' h1 h2 (by rw [e1, e2])
    subst this
    exact H.apart s s' c0 h4 h4' h1 h2
  · rw [e i hi, im_pop hs (fun c c' h1 h2 h3 => hinj i i c c' hi hi h1 h2 h3) _ (Nat.le_refl _), ← pop_52 (H.in52 i hi)]
    exact H.pops i hi
/-- a card, the suits turned round by b -/
def trn (b c : Nat) : Nat := 13 * ((c / 13 + b) % 4) + c % 13
theorem trn_lt (b c : Nat) : trn b c < 52 := by unfold trn; omega
theorem trn_inj {b c c' : Nat} (hc : c < 52) (hc' : c' < 52) (e : trn b c = trn b c') : c = c' := by unfold trn at e; omega
/-- the trump suit, turned along -/
def trnT (b tr : Nat) : Nat := if tr < 4 then (tr + b) % 4 else tr
theorem iso_trn {h h' : Nat → Nat} {ld b tr : Nat} (ht : tr ≤ 4) (h52 : In52 h) (hh : ∀ s, s < 4 → ∀ c', (h' s).testBit c' = true ↔ ∃ c, (h s).testBit c = true ∧ trn b c = c') :
    Iso (trn b) tr (trnT b tr) ⟨h, ld, []⟩ ⟨h', ld, []⟩ := by
  have ow : ∀ {s c}, Own ⟨h, ld, []⟩ s c → c < 52 := by
    rintro s c ⟨hs, hb | ⟨i, hi, _⟩⟩
    · exact h52 s hs c hb
    · cases hi
  have hd : ∀ c, trn b c / 13 = (c / 13 + b) % 4 := fun c => by unfold trn; omega
  refine ⟨rfl, rfl, hh, fun s s' c c' h1 h2 e => trn_inj (ow h1) (ow h2) e, fun s s' c c' h1 h2 => ?_, fun s c h1 => ?_, fun s s' c c' _ h1 h2 hq => ?_⟩
  · have := ow h1
    have := ow h2
    rw [hd, hd]; omega
  · have := ow h1
    rw [hd]; unfold trnT
    split <;> omega
  · have e := hd c
    have e' := hd c'
    unfold trn at e e' ⊢
    rw [hq] at e ⊢
    omega
/-- how many of the first j cards of c's suit there are -/
def rkTo (all c j : Nat) : Nat := ((List.range j).filter fun i => all.testBit (13 * (c / 13) + i)).length
theorem rkTo_succ (all c j : Nat) : rkTo all c (j + 1) = rkTo all c j + (all.testBit (13 * (c / 13) + j)).toNat := by
  unfold rkTo
  rw [List.range_succ, List.filter_append, List.length_append]
  congr 1
  cases h : all.testBit (13 * (c / 13) + j) <;> simp [h]
theorem rkTo_le (all c j : Nat) : rkTo all c j ≤ j := Nat.le_trans (List.length_filter_le ..) (by rw [List.length_range]; exact Nat.le_refl _)
theorem low_eq (all c : Nat) : low all c = 13 * (c / 13) + rkTo all c (c % 13) := rfl
theorem low_52 (all : Nat) {c : Nat} (hc : c < 52) : low all c < 52 := by
  have := low_suit all c
  omega
theorem low_inj {all c c' : Nat} (hc : all.testBit c = true) (hc' : all.testBit c' = true) (e : low all c = low all c') : c = c' := by
  have hq : c / 13 = c' / 13 := by rw [← low_suit all c, ← low_suit all c', e]
  rcases Nat.lt_trichotomy c c' with h3 | h3 | h3
  · have := low_lt hq h3 hc; omega
  · exact h3
  · have := low_lt hq.symm h3 hc'; omega
end Go.Proofs.YtpobcaopfeddgaaDoor
