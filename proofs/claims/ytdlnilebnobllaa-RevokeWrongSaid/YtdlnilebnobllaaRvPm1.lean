/- Plain: counting bits, and the deal of finesselaw13.Made. -/
import Derived.Test.YtdlnilebnobllaaRvMk
namespace Go.Proofs.Ytdlnilebnobllaa
open Go.RowKit Go.Shelf Go.Sort

theorem cnt_lor (m c : Nat) (hc : c < 64) (hb : m.testBit c = false) : ∀ k, cnt (lor m (shl1 c)) k = cnt m k + if c < k then 1 else 0
  | 0 => by simp [cnt]
  | k + 1 => by
    simp only [cnt, cnt_lor m c hc hb k, testBit_lor, testBit_shl1]
    by_cases h : c = k
    · subst h; simp [hb, hc]
    · simp [h]; split <;> split <;> omega
theorem pop_lor (m c : Nat) (hc : c < 64) (hb : m.testBit c = false) : pop (lor m (shl1 c)) = pop m + 1 := by
  unfold pop; rw [cnt_lor m c hc hb, if_pos hc]
theorem cnt_landn (m c : Nat) (hc : c < 64) (hb : m.testBit c = true) : ∀ k, cnt (landn m (shl1 c)) k + (if c < k then 1 else 0) = cnt m k
  | 0 => by simp [cnt]
  | k + 1 => by
    have ih := cnt_landn m c hc hb k
    simp only [cnt, testBit_landn, testBit_shl1]
    by_cases h : c = k
    · subst h; simp [hb, hc] at ih ⊢; omega
    · simp [h] at ih ⊢
      split <;> split at ih <;> omega
theorem pop_landn (m c : Nat) (hc : c < 64) (hb : m.testBit c = true) : pop (landn m (shl1 c)) + 1 = pop m := by
  have := cnt_landn m c hc hb 64
  rw [if_pos hc] at this; exact this
theorem cnt_pos (m : Nat) : ∀ k, 0 < cnt m k → ∃ c, c < k ∧ m.testBit c = true
  | 0, h => by simp [cnt] at h
  | k + 1, h => by
    unfold cnt at h
    cases hb : m.testBit k
    · rw [hb] at h
      obtain ⟨c, h1, h2⟩ := cnt_pos m k (by simpa using h)
      exact ⟨c, by omega, h2⟩
    · exact ⟨k, by omega, hb⟩
theorem pop_nil : pop 0 = 0 := by decide +kernel

/-- the hands of a deal under way -/
structure DealOk (s : DlS) (i : Nat) : Prop where
  nodup : s.deck.Nodup
  lt : ∀ c ∈ s.deck, c < 52
  bit : ∀ j c, (s.h j).testBit c = true → c < 52 ∧ c ∉ s.deck
  apart : ∀ j j' c, j ≠ j' → (s.h j).testBit c = true → (s.h j').testBit c = false
  pop : ∀ j, j < 4 → pop (s.h j) = (i + 3 - j) / 4
theorem deal_next (x : Sk) {s : DlS} {i : Nat} (h : DealOk s i) (hl : 0 < s.deck.length) : DealOk (s.next x i) (i + 1) := by
  have hk : x.at i % s.deck.length < s.deck.length := Nat.mod_lt _ hl
  unfold DlS.next
  generalize x.at i % s.deck.length = k at *
  have hg : s.deck.getD k 0 = s.deck[k] := by rw [List.getD_eq_getElem?_getD, List.getElem?_eq_getElem hk]; rfl
  have hme : s.deck.getD k 0 ∈ s.deck := getD_mem_of_lt hk
  have hdec : s.deck = s.deck.take k ++ s.deck.getD k 0 :: s.deck.drop (k + 1) := by
    rw [hg]; exact (List.take_append_drop k s.deck).symm.trans (by rw [List.drop_eq_getElem_cons hk])
  have hc52 := h.lt _ hme
  have hfree : ∀ j, (s.h j).testBit (s.deck.getD k 0) = false := fun j => by
    cases hb : (s.h j).testBit (s.deck.getD k 0)
    · rfl
    · exact absurd hme (h.bit j _ hb).2
  generalize s.deck.getD k 0 = c at *
  have hnd := h.nodup
  rw [hdec] at hnd
  have hnd2 := List.nodup_append.1 hnd
  have hcn : c ∉ s.deck.take k ++ s.deck.drop (k + 1) := by
    intro hm
    rcases List.mem_append.1 hm with hm | hm
    · exact hnd2.2.2 c hm c (by simp) rfl
    · exact (List.nodup_cons.1 hnd2.2.1).1 hm
  have hsub : ∀ z, z ∈ s.deck.take k ++ s.deck.drop (k + 1) → z ∈ s.deck := fun z hz => by
    rcases List.mem_append.1 hz with hz | hz
    · exact List.mem_of_mem_take hz
    · exact List.mem_of_mem_drop hz
  refine ⟨?_, fun z hz => h.lt z (hsub z hz), ?_, ?_, ?_⟩
  · exact List.nodup_append.2 ⟨hnd2.1, (List.nodup_cons.1 hnd2.2.1).2, fun a ha b hb e => hnd2.2.2 a ha b (by simp [hb]) e⟩
  · intro j z hz
    dsimp only at hz ⊢
    unfold setH at hz
    split at hz
    next hj =>
      rw [testBit_lor, testBit_shl1, Bool.or_eq_true] at hz
      rcases hz with hz | hz
      · exact ⟨(h.bit _ z hz).1, fun hm => (h.bit _ z hz).2 (hsub z hm)⟩
      · simp at hz; obtain ⟨rfl, _⟩ := hz; exact ⟨hc52, hcn⟩
    next hj => exact ⟨(h.bit _ z hz).1, fun hm => (h.bit _ z hz).2 (hsub z hm)⟩
  · intro j j' z hjj hz
    dsimp only at hz ⊢
    unfold setH at hz ⊢
    by_cases h1 : j = i % 4
    · have h2 : j' ≠ i % 4 := by omega
      rw [if_pos h1, testBit_lor, testBit_shl1, Bool.or_eq_true] at hz
      rw [if_neg h2]
      rcases hz with hz | hz
      · exact h.apart _ _ z (by omega) hz
      · simp at hz; obtain ⟨rfl, _⟩ := hz; exact hfree j'
    · rw [if_neg h1] at hz
      by_cases h2 : j' = i % 4
      · rw [if_pos h2, testBit_lor, testBit_shl1, Bool.or_eq_false_iff]
        refine ⟨h.apart j _ z (by omega) hz, ?_⟩
        simp only [Bool.and_eq_false_iff, decide_eq_false_iff_not]
        left; rintro rfl; rw [hfree j] at hz; cases hz
      · rw [if_neg h2]; exact h.apart j j' z hjj hz
  · intro j hj
    dsimp only
    unfold setH
    split
    next he => subst he; rw [pop_lor _ _ (by omega) (hfree _), h.pop _ hj]; omega
    next he => rw [h.pop _ hj]; omega
theorem deal_ok (x : Sk) : ∀ i, i ≤ 52 → DealOk (x.dealN i) i
  | 0, _ => by
    refine ⟨List.nodup_range, fun c hc => List.mem_range.1 hc, fun j c h => ?_, fun j j' c _ h => ?_, fun j hj => ?_⟩
    · simp [Sk.dealN] at h
    · simp [Sk.dealN] at h
    · simp only [Sk.dealN, pop_nil]; omega
  | i + 1, h => deal_next x (deal_ok x i (by omega)) (by rw [dealN_len x i (by omega)]; omega)
theorem Sk.n_le (x : Sk) : 1 ≤ x.n ∧ x.n ≤ 6 := by unfold Sk.n; omega
theorem lt_of_bits {m : Nat} (h : ∀ c, m.testBit c = true → c < 52) : m < 4503599627370496 := by
  refine Nat.lt_pow_two_of_testBit (n := 52) m fun i hi => ?_
  cases hb : m.testBit i
  · rfl
  · exact absurd (h i hb) (by omega)
theorem allTo_bit (h : Nat → Nat) : ∀ k c, (allTo h k).testBit c = true → ∃ j, j < k ∧ (h j).testBit c = true
  | 0, c, hc => by simp [allTo] at hc
  | k + 1, c, hc => by
    rw [allTo, testBit_lor, Bool.or_eq_true] at hc
    rcases hc with hc | hc
    · obtain ⟨j, h1, h2⟩ := allTo_bit h k c hc; exact ⟨j, by omega, h2⟩
    · exact ⟨k, by omega, hc⟩
/-- the record of a sketch is dealt -/
theorem made_dealt (x : Sk) : x.rc.dealt = true := by
  have hn := x.n_le
  have hd := deal_ok x (4 * x.n) (by omega)
  have hp : ∀ j, j < 4 → pop ((x.dealN (4 * x.n)).h j) = x.n := fun j hj => by rw [hd.pop j hj]; omega
  have hb : ∀ k, k < 4 → handB (x.dealN (4 * x.n)).h k = true := by
    intro k hk
    unfold handB
    rw [hp k hk, hp 0 (by omega)]
    have h1 : (x.dealN (4 * x.n)).h k < 4503599627370496 := lt_of_bits fun c hc => (hd.bit k c hc).1
    have h2 : land (allTo (x.dealN (4 * x.n)).h k) ((x.dealN (4 * x.n)).h k) = 0 := by
      apply Nat.eq_of_testBit_eq
      intro c
      rw [testBit_land, Nat.zero_testBit]
      cases hq : (allTo (x.dealN (4 * x.n)).h k).testBit c
      · rfl
      · obtain ⟨j, hj, hc⟩ := allTo_bit _ k c hq
        rw [hd.apart j k c (by omega) hc]; rfl
    simp [h1, h2]
  have hh : handsTo (x.dealN (4 * x.n)).h 4 = true := by simp [handsTo, hb]
  unfold Rc.dealt Sk.rc
  dsimp only
  rw [hh, hp 0 (by omega)]
  simp; omega
end Go.Proofs.Ytdlnilebnobllaa
