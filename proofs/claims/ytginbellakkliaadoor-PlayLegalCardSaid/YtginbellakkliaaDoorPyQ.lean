/- Plain: counting bits, and the deal of finesselaw12.Made. -/
import Derived.Test.YtginbellakkliaaDoorPyM
namespace Go.Proofs.YtginbellakkliaaDoor
open Go.RowKit Go.Shelf Go.Sort

theorem cnt_lor (m c : Nat) (hc : c < 64) (hb : m.testBit c = false) : ∀ k, cnt (lor m (shl1 c)) k = cnt m k + if c < k then 1 else 0
  | 0 => by simp [cnt]
  | k + 1 => by
    simp only [cnt, cnt_lor m c hc hb k, testBit_lor, testBit_shl1]
    by_cases h : c = k
    · subst h; simp [hb, hc]
    · simp [h]; split <;> split <;> omega
theorem pop_lor (m c : Nat) (hc : c < 64) (hb : m.testBit c = false) : pop (lor m (shl1 c)) = pop m + 1 := by
  unfold pop; rw [cnt_lor m c hc hb, if_pos hc]
theorem cnt_landn (m c : Nat) (hc : c < 64) (hb : m.testBit c = true) : ∀ k, cnt (landn m (shl1 c)) k + (if c < k then 1 else 0) = cnt m k
  | 0 => by simp [cnt]
  | k + 1 => by
    have ih := cnt_landn m c hc hb k
    simp only [cnt, testBit_landn, testBit_shl1]
    by_cases h : c = k
    · subst h; simp [hb, hc] at ih ⊢; omega
    · simp [h] at ih ⊢
      split <;> split at ih <;> omega
theorem pop_landn (m c : Nat) (hc : c < 64) (hb : m.testBit c = true) : pop (landn m (shl1 c)) + 1 = pop m := by
  have := cnt_landn m c hc hb 64
  rw [if_pos hc] at this; exact this
theorem cnt_pos (m : Nat) : ∀ k, 0 < cnt m k → ∃ c, c < k ∧ m.testBit c = true
  | 0, h => by simp [cnt] at h
  | k + 1, h => by
    unfold cnt at h
    cases hb : m.testBit k
    · rw [hb] at h
      obtain ⟨c, h1, h2⟩ := cnt_pos m k (by simpa using h)
      exact ⟨c, by omega, h2⟩
    · exact ⟨k, by omega, hb⟩
theorem pop_nil : pop 0 = 0 := by decide +kernel
theorem cnt_full (m : Nat) : ∀ k, (∀ c, c < k → m.testBit c = true) → cnt m k = k
  | 0, _ => rfl
  | k + 1, h => by simp only [cnt, cnt_full m k (fun c hc => h c (by omega)), h k (by omega)]; rfl
theorem cnt_mono (m : Nat) {a b : Nat} (h : a ≤ b) : cnt m a ≤ cnt m b := by
  obtain ⟨k, rfl⟩ : ∃ k, b = a + k := ⟨b - a, by omega⟩
  rw [cnt_add]; omega
/-- there is a card that is not in a set of fewer than 52 -/
theorem free_card {m : Nat} (h : pop m < 52) : ∃ c, c < 52 ∧ m.testBit c = false := by
  apply Classical.byContradiction
  intro hn
  have h1 : ∀ c, c < 52 → m.testBit c = true := fun c hc => by
    cases hb : m.testBit c
    · exact absurd ⟨c, hc, hb⟩ hn
    · rfl
  have h2 := cnt_full m 52 h1
  have h3 := cnt_mono m (show 52 ≤ 64 by decide)
  unfold pop at h
  omega
theorem downL_pop : ∀ (n m : Nat), W64 m → pop m = n → (downL m).length = n
  | 0, m, hw, h => by
    by_cases h0 : m = 0
    · subst h0; rw [downL_zero]; rfl
    · have h1 : m.testBit (bitLen m - 1) = true := top_bit h0
      have := pop_landn m (bitLen m - 1) (by have := bitLen_w64 hw; have := bitLen_pos h0; omega) h1
      omega
  | n + 1, m, hw, h => by
    have h0 : m ≠ 0 := by intro e; rw [e, pop_nil] at h; omega
    have h1 : m.testBit (bitLen m - 1) = true := top_bit h0
    have h2 := pop_landn m (bitLen m - 1) (by have := bitLen_w64 hw; have := bitLen_pos h0; omega) h1
    rw [downL_cons h0 hw, List.length_cons, downL_pop n _ hw.landn (by omega)]
/-- how many cards after c are dealt already -/
def seekK (all c : Nat) : Nat → Nat
  | 0 => 0
  | f + 1 => if all.testBit (c % 52) = true then seekK all (c + 1) f + 1 else 0
theorem seek_spec (all : Nat) : ∀ (f c : Nat), (∃ j, j ≤ f ∧ all.testBit ((c + j) % 52) = false) → seekK all c f ≤ f ∧ all.testBit ((c + seekK all c f) % 52) = false ∧ ∀ j, j < seekK all c f → all.testBit ((c + j) % 52) = true
  | 0, c, ⟨j, hj, h⟩ => by
    obtain rfl : j = 0 := by omega
    exact ⟨Nat.le_refl _, h, fun j hj => by simp [seekK] at hj⟩
  | f + 1, c, ⟨j, hj, h⟩ => by
    unfold seekK
    split
    · rename_i h1
      have hj0 : j ≠ 0 := by rintro rfl; rw [Nat.add_zero] at h; rw [h] at h1; cases h1
      obtain ⟨q1, q2, q3⟩ := seek_spec all f (c + 1) ⟨j - 1, by omega, by rw [show c + 1 + (j - 1) = c + j by omega]; exact h⟩
      refine ⟨by omega, by rw [show c + (seekK all (c + 1) f + 1) = c + 1 + seekK all (c + 1) f by omega]; exact q2, fun i hi => ?_⟩
      by_cases hi0 : i = 0
      · subst hi0; exact h1
      · have := q3 (i - 1) (by omega)
        rwa [show c + 1 + (i - 1) = c + i by omega] at this
    · rename_i h1
      exact ⟨by omega, by simpa using h1, fun i hi => by omega⟩
theorem seek_free {all c : Nat} (h : pop all < 52) : seekK all c 51 ≤ 51 ∧ all.testBit ((c + seekK all c 51) % 52) = false ∧ ∀ j, j < seekK all c 51 → all.testBit ((c + j) % 52) = true := by
  obtain ⟨x, hx, hf⟩ := free_card h
  refine seek_spec all 51 c ⟨(x + 52 - c % 52) % 52, by omega, ?_⟩
  rw [show (c + (x + 52 - c % 52) % 52) % 52 = x by omega]
  exact hf
/-- what finesselaw12.Made is given -/
structure Mn where
  zs : List Nat
  n : Nat
  c : Nat
structure DlP where
  all : Nat
  h : Nat → Nat
def Mn.each (x : Mn) : Nat := 1 + x.n % 13
def Mn.at (x : Mn) (i : Nat) : Nat := if i < x.zs.length then x.zs.getD i 0 % 52 else 7 * i % 52
def Mn.card (x : Mn) (s : DlP) (i : Nat) : Nat := (x.at i + seekK s.all (x.at i) 51) % 52
def DlP.next (x : Mn) (s : DlP) (i : Nat) : DlP := ⟨lor s.all (shl1 (x.card s i)), setH s.h (i % 4) (lor (s.h (i % 4)) (shl1 (x.card s i)))⟩
def Mn.dealN (x : Mn) : Nat → DlP
  | 0 => ⟨0, fun _ => 0⟩
  | i + 1 => (x.dealN i).next x i
/-- the deal and the contract -/
def Mn.d (x : Mn) : Nat → Nat := (x.dealN (4 * x.each)).h
def Mn.lv (x : Mn) : Nat := 1 + x.c % 7
def Mn.dn (x : Mn) : Nat := x.c / 7 % 5
def Mn.rk (x : Mn) : Nat := x.c % 3
def Mn.dc (x : Mn) : Nat := x.c / 35 % 4
/-- the hands of a deal under way -/
structure DealOk (s : DlP) (i : Nat) : Prop where
  bit : ∀ j c, (s.h j).testBit c = true → c < 52 ∧ s.all.testBit c = true
  alls : ∀ c, s.all.testBit c = true → ∃ j, j < 4 ∧ (s.h j).testBit c = true
  apart : ∀ j j' c, j ≠ j' → (s.h j).testBit c = true → (s.h j').testBit c = false
  pop : ∀ j, j < 4 → pop (s.h j) = (i + 3 - j) / 4
  popa : Go.Proofs.YtginbellakkliaaDoor.pop s.all = i
  far : ∀ j, 4 ≤ j → s.h j = 0
theorem deal_next (x : Mn) {s : DlP} {i : Nat} (h : DealOk s i) (hi : i < 52) : DealOk (s.next x i) (i + 1) := by
  obtain ⟨q1, q2, -⟩ := seek_free (all := s.all) (c := x.at i) (by rw [h.popa]; exact hi)
  unfold DlP.next
  have hc52 : x.card s i < 52 := Nat.mod_lt _ (by decide)
  have hq : s.all.testBit (x.card s i) = false := q2
  generalize x.card s i = c at *
  have hfree : ∀ j, (s.h j).testBit c = false := fun j => by
    cases hb : (s.h j).testBit c
    · rfl
    · rw [(h.bit j c hb).2] at hq; cases hq
  refine ⟨?_, ?_, ?_, ?_, ?_, ?_⟩
  · intro j z hz
    dsimp only at hz ⊢
    rw [testBit_lor, testBit_shl1]
    unfold setH at hz
    split at hz
    next hj =>
      rw [testBit_lor, testBit_shl1, Bool.or_eq_true] at hz
      rcases hz with hz | hz
      · exact ⟨(h.bit _ z hz).1, by rw [(h.bit _ z hz).2]; rfl⟩
      · exact ⟨by simp at hz; omega, by rw [hz, Bool.or_true]⟩
    next hj => exact ⟨(h.bit _ z hz).1, by rw [(h.bit _ z hz).2]; rfl⟩
  · intro z hz
    dsimp only at hz ⊢
    rw [testBit_lor, Bool.or_eq_true] at hz
    rcases hz with hz | hz
    · obtain ⟨j, hj, hb⟩ := h.alls z hz
      refine ⟨j, hj, ?_⟩
      unfold setH; split
      next he => subst he; rw [testBit_lor, hb]; rfl
      next he => exact hb
    · refine ⟨i % 4, Nat.mod_lt _ (by decide), ?_⟩
      unfold setH; rw [if_pos rfl, testBit_lor, hz, Bool.or_true]
  · intro j j' z hjj hz
    dsimp only at hz ⊢
    unfold setH at hz ⊢
    by_cases h1 : j = i % 4
    · have h2 : j' ≠ i % 4 := by omega
      rw [if_pos h1, testBit_lor, testBit_shl1, Bool.or_eq_true] at hz
      rw [if_neg h2]
      rcases hz with hz | hz
      · exact h.apart _ _ z (by omega) hz
      · simp at hz; obtain ⟨rfl, _⟩ := hz; exact hfree j'
    · rw [if_neg h1] at hz
      by_cases h2 : j' = i % 4
      · rw [if_pos h2, testBit_lor, testBit_shl1, Bool.or_eq_false_iff]
        refine ⟨h.apart j _ z (by omega) hz, ?_⟩
        simp only [Bool.and_eq_false_iff, decide_eq_false_iff_not]
        left; rintro rfl; rw [hfree j] at hz; cases hz
      · rw [if_neg h2]; exact h.apart j j' z hjj hz
  · intro j hj
    dsimp only
    unfold setH
    split
    next he => subst he; rw [pop_lor _ _ (by omega) (hfree _), h.pop _ hj]; omega
    next he => rw [h.pop _ hj]; omega
  · dsimp only
    rw [pop_lor _ _ (by omega) hq, h.popa]
  · intro j hj
    dsimp only
    unfold setH
    rw [if_neg (by omega)]; exact h.far j hj
theorem deal_ok (x : Mn) : ∀ i, i ≤ 52 → DealOk (x.dealN i) i
  | 0, _ => by
    refine ⟨fun j c h => ?_, fun c h => ?_, fun j j' c _ h => ?_, fun j hj => ?_, pop_nil, fun _ _ => rfl⟩
    · simp [Mn.dealN] at h
    · simp [Mn.dealN] at h
    · simp [Mn.dealN] at h
    · simp only [Mn.dealN, pop_nil]; omega
  | i + 1, h => deal_next x (deal_ok x i (by omega)) (by omega)
theorem lt_of_bits {m : Nat} (h : ∀ c, m.testBit c = true → c < 52) : m < 4503599627370496 := by
  refine Nat.lt_pow_two_of_testBit (n := 52) m fun i hi => ?_
  cases hb : m.testBit i
  · rfl
  · exact absurd (h i hb) (by omega)
theorem allTo_bit (h : Nat → Nat) : ∀ k c, (allTo h k).testBit c = true → ∃ j, j < k ∧ (h j).testBit c = true
  | 0, c, hc => by simp [allTo] at hc
  | k + 1, c, hc => by
    rw [allTo, testBit_lor, Bool.or_eq_true] at hc
    rcases hc with hc | hc
    · obtain ⟨j, h1, h2⟩ := allTo_bit h k c hc; exact ⟨j, by omega, h2⟩
    · exact ⟨k, by omega, hc⟩
theorem Mn.each_le (x : Mn) : 1 ≤ x.each ∧ x.each ≤ 13 := by unfold Mn.each; omega
theorem made_deal (x : Mn) : DealOk (x.dealN (4 * x.each)) (4 * x.each) := deal_ok x _ (by have := x.each_le; omega)
theorem made_pop (x : Mn) (j : Nat) (hj : j < 4) : pop (x.d j) = x.each := by unfold Mn.d; rw [(made_deal x).pop j hj]; omega
theorem made_lt (x : Mn) (j : Nat) : x.d j < 4503599627370496 := lt_of_bits fun c hc => ((made_deal x).bit j c hc).1
theorem made_w64 (x : Mn) (j : Nat) : W64 (x.d j) := Nat.lt_of_lt_of_le (made_lt x j) (by decide)
theorem land_zero {a b : Nat} (h : ∀ c, a.testBit c = true → b.testBit c = false) : land a b = 0 := by
  apply Nat.eq_of_testBit_eq
  intro c
  rw [testBit_land, Nat.zero_testBit]
  cases hq : a.testBit c
  · rfl
  · rw [h c hq]; rfl
theorem made_dealt (x : Mn) : dealOk x.d = true := by
  refine dealOk_yes fun i hi => ?_
  have hn := x.each_le
  have hd := made_deal x
  have hl : ∀ j, j < 4 → (downL (x.d j)).length = x.each := fun j hj => downL_pop _ _ (made_w64 x j) (made_pop x j hj)
  have h2 : land (allTo x.d i) (x.d i) = 0 := by
    refine land_zero fun c hq => ?_
    obtain ⟨j, hj, hc⟩ := allTo_bit _ i c hq
    exact hd.apart j i c (by omega) hc
  unfold handOk
  rw [hl i hi, h2, decide_eq_true (made_lt x i), decide_eq_true hn.1, decide_eq_true hn.2]
  by_cases h0 : i = 0
  · subst h0; rfl
  · have : numTo x.d i = x.each := by unfold numTo; rw [if_neg h0, hl (i - 1) (by omega)]
    rw [this]; simp
theorem made_new (x : Mn) : newE x.d x.lv x.dn x.rk x.dc = 0 := by
  have h : (leadV x.lv x.dn x.rk x.dc).2 = 0 := by
    unfold leadV
    rw [if_neg (by unfold Mn.lv; omega), if_pos ⟨by unfold Mn.lv; omega, by unfold Mn.dn; omega, by unfold Mn.rk; omega, by unfold Mn.dc; omega⟩]
  unfold newE
  rw [if_pos h, if_pos (made_dealt x)]
end Go.Proofs.YtginbellakkliaaDoor
