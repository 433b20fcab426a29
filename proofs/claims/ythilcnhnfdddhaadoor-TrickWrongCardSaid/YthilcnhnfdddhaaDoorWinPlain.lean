/- Plain facts for finesselaw11.TrickWinners: what Winners and Cover come to. -/
import Derived.Test.YthilcnhnfdddhaaDoorFollow
namespace Go.Proofs.YthilcnhnfdddhaaDoor
open Go.RowKit Go.Shelf Go.Sort

theorem beats_iff (t : Nat) (l : List Nat) (c : Nat) (ht : t ≤ 4) (hr : rightB l = true) (h3 : l.length ≤ 3) (hc : c < 52) (hn : l.contains c = false) :
    (winnerV t (l ++ [c])).2 = 0 ∧ ((beatsV t l c).1 = true ↔ (winnerV t (l ++ [c])).1 = l.length) := by
  have hw : (winnerV t l).2 = 0 := by unfold winnerV; rw [if_neg (by omega), if_pos hr]
  have hb := beats_next t l c hw (by omega)
  have hr2 : rightB (l ++ [c]) = true := by
    have h := (rightB_iff l).1 hr
    rw [rightB_iff]
    refine ⟨by simp, by simp; omega, fun x hx => ?_, ?_⟩
    · rcases List.mem_append.1 hx with hx | hx
      · exact h.2.2.1 x hx
      · rw [List.mem_singleton.1 hx]; exact hc
    · rw [List.nodup_append]
      refine ⟨h.2.2.2, by simp, fun x hx y hy => ?_⟩
      rw [List.mem_singleton.1 hy]
      rintro rfl
      rw [List.contains_iff_mem.2 hx] at hn; cases hn
  have hw2 : (winnerV t (l ++ [c])).2 = 0 := by unfold winnerV; rw [if_neg (by omega), if_pos hr2]
  rw [hw2, if_pos rfl] at hb
  refine ⟨hw2, ?_⟩
  rw [hb]; simp

/-- what TrickWinners asks of the mask of winners, the cards that can be played and the cheapest -/
structure WinOk (t : Nat) (l : List Nat) (can wins least : Nat) (is : Bool) : Prop where
  sub : ∀ i, wins.testBit i = true → can.testBit i = true
  can52 : can < 2 ^ 52
  isw : is = decide (wins ≠ 0)
  none : is = false → least = 0
  bit : is = true → wins.testBit least = true
  exact_ : ∀ c, can.testBit c = true → (winnerV t (l ++ [c])).2 = 0 ∧ ((winnerV t (l ++ [c])).1 = l.length ↔ wins.testBit c = true)
  low : ∀ c, wins.testBit c = true → (c / 13 = least / 13 ∨ l.length = 0) → least ≤ c
  led : ∀ c, wins.testBit c = true → 0 < l.length → c / 13 ≠ t → least / 13 ≠ t

theorem upTo_mem_iff {m k c : Nat} : c ∈ upTo m k ↔ c < k ∧ m.testBit c = true := by
  unfold upTo; rw [List.mem_filter, List.mem_range]
theorem upTo_sorted (m k : Nat) : (upTo m k).Pairwise (· < ·) := by
  unfold upTo; exact List.Pairwise.filter _ List.pairwise_lt_range
/-- the best of a sorted list is the first of the best -/
theorem bestOf_max (val : Nat → Int) (l : List Nat) (c : Nat) (hc : c ∈ l) : val c ≤ val (bestOf val l) := by
  obtain ⟨i, hi, rfl⟩ := mem_getD hc
  exact best_ge val l l.length i hi
theorem bestOf_least (val : Nat → Int) (l : List Nat) (hs : l.Pairwise (· < ·)) (c : Nat) (hc : c ∈ l) (hv : val c = val (bestOf val l)) : bestOf val l ≤ c := by
  obtain ⟨i, hi, rfl⟩ := mem_getD hc
  rcases Nat.lt_or_ge i (bestTo val l l.length) with h | h
  · have := best_first val l l.length i h
    unfold bestOf at hv; omega
  · unfold bestOf
    have hb := bestTo_lt val l l.length (by omega)
    rcases Nat.lt_or_eq_of_le h with h1 | h1
    · rw [List.pairwise_iff_getElem] at hs
      have := hs (bestTo val l l.length) i hb hi h1
      rw [getD_get hb, getD_get hi]; omega
    · rw [h1]; exact Nat.le_refl _
theorem strength_pos_suit {t l c : Nat} (h : 0 < strength t l c) : suit c = t ∨ suit c = l := by
  unfold strength at h
  by_cases h1 : suit c = t
  · exact .inl h1
  · rw [if_neg h1] at h
    by_cases h2 : suit c = l
    · exact .inr h2
    · rw [if_neg h2] at h; omega
theorem strength_same {t l c d : Nat} (hc : c < 52) (hd : d < 52) (hs : suit c = suit d) (hp : suit d = t ∨ suit d = l) : strength t l c ≤ strength t l d ↔ c ≤ d := by
  rw [suit_div hc, suit_div hd] at hs
  have r1 : rank c = c % 13 := by unfold rank; rw [if_pos hc]
  have r2 : rank d = d % 13 := by unfold rank; rw [if_pos hd]
  unfold strength
  rw [suit_div hc, suit_div hd, r1, r2, hs]
  rw [suit_div hd] at hp
  by_cases h1 : d / 13 = t
  · rw [if_pos h1, if_pos h1]; omega
  · rw [if_neg h1, if_neg h1]
    rcases hp with h | h
    · exact absurd h h1
    · rw [if_pos h, if_pos h]; omega
theorem strength_trump {t l c d : Nat} (hc : suit c ≠ t) (hd : suit d = t) : strength t l c < strength t l d := by
  unfold strength
  have r1 : rank c < 13 := by unfold rank; split <;> omega
  rw [if_neg hc, if_pos hd]
  split <;> omega

theorem win_ok (t H : Nat) (l : List Nat) (ht : t ≤ 4) (hH : H < 2 ^ 52) (h3 : l.length ≤ 3) (hr : l.length ≠ 0 → rightB l = true) :
    (playableV H l).2 = 0 ∧ (winnersV t H l).2 = 0 ∧ WinOk t l (playableV H l).1 (winnersV t H l).1 (coverV t H l).1 (coverV t H l).2 := by
  have hlt := playable_lt H l
  have hwl := winners_lt t H l
  have hpe : (playableV H l).2 = 0 := by
    unfold playableV
    rw [if_neg (Nat.not_le_of_lt hH)]
    by_cases h0 : l.length = 0
    · rw [if_pos h0]
    · rw [if_neg h0, if_pos (hr h0), if_neg (by omega)]
  have hwe : (winnersV t H l).2 = 0 := by
    unfold winnersV
    rw [if_neg (by omega), if_pos hpe]
    split <;> rfl
  refine ⟨hpe, hwe, ?_⟩
  -- what wins
  have hbit : ∀ c, (winnersV t H l).1.testBit c = ((playableV H l).1.testBit c && (decide (l.length = 0) || (beatsV t l c).1)) := by
    intro c
    unfold winnersV
    rw [if_neg (by omega), if_pos hpe]
    by_cases h0 : l.length = 0
    · rw [if_pos h0]; simp [h0]
    · rw [if_neg h0]; simp only [h0, decide_false, Bool.false_or]
      exact winFold_bit t l _ c (w64_of_52 hlt)
  -- a card that can be played is none of the trick
  have hnot : l.length ≠ 0 → ∀ c, (playableV H l).1.testBit c = true → l.contains c = false := by
    intro h0 c hc
    have hr' := hr h0
    have e1 : playableV H l = (playLate (suit (l.getD 0 0)) (restV H l), 0) := by
      unfold playableV; rw [if_neg (Nat.not_le_of_lt hH), if_neg h0, if_pos hr', if_neg (by omega)]
    rw [e1] at hc
    have hrl := rest_lt H l hH
    have : (restV H l).testBit c = true := by
      unfold playLate at hc
      by_cases hf : follow (suit (l.getD 0 0)) (bitsList (restV H l)) ≠ 0
      · rw [if_pos hf] at hc
        rw [follow_bit _ _ _ (w64_of_52 hrl), Bool.and_eq_true] at hc; exact hc.1
      · rw [if_neg hf] at hc; exact hc
    rw [rest_bit H l (right_mask hr'), Bool.and_eq_true] at this
    simpa using this.2
  have hwins : ∀ c, (playableV H l).1.testBit c = true → (winnerV t (l ++ [c])).2 = 0 ∧ ((winnerV t (l ++ [c])).1 = l.length ↔ (winnersV t H l).1.testBit c = true) := by
    intro c hc
    have hc52 := bit_lt hlt hc
    rw [hbit c, hc, Bool.true_and]
    by_cases h0 : l.length = 0
    · obtain rfl : l = [] := List.eq_nil_of_length_eq_zero h0
      have hr1 : rightB [c] = true := by rw [rightB_iff]; simp; exact hc52
      have e : winnerV t ([] ++ [c]) = (0, 0) := by
        unfold winnerV; rw [List.nil_append, if_neg (by omega), if_pos hr1]; simp [bestTo]
      rw [e]; simp
    · obtain ⟨h1, h2⟩ := beats_iff t l c ht (hr h0) h3 hc52 (hnot h0 c hc)
      refine ⟨h1, ?_⟩
      simp only [h0, decide_false, Bool.false_or]
      exact h2.symm
  -- the cheapest
  have hcov := cover_eq t H l
  have hisw : (coverV t H l).2 = decide ((winnersV t H l).1 ≠ 0) := by
    rw [hcov, hwe]
    by_cases h0 : (winnersV t H l).1 = 0
    · rw [if_neg (by simp [h0])]; simp [h0]
    · rw [if_pos ⟨rfl, h0⟩]; simp [h0]
  have hsome : (winnersV t H l).1 ≠ 0 → (coverV t H l).1 = bestOf (weak t l) (upTo (winnersV t H l).1 52) ∧ upTo (winnersV t H l).1 52 ≠ [] := by
    intro h0
    refine ⟨by rw [hcov, hwe, if_pos ⟨rfl, h0⟩], ?_⟩
    rw [← vals_52 hwl]
    intro h1
    have := vals_pos _ (w64_of_52 hwl) h0
    rw [h1] at this; simp at this
  have hne : ∀ c, (winnersV t H l).1.testBit c = true → (winnersV t H l).1 ≠ 0 := by
    intro c hc h0; rw [h0] at hc; simp at hc
  -- what wins has strength
  have hstr : ∀ c, (winnersV t H l).1.testBit c = true → 0 < l.length → 0 < strength t (suit (l.getD 0 0)) c := by
    intro c hc hpos
    rw [hbit c, Bool.and_eq_true] at hc
    have h0 : ¬ l.length = 0 := by omega
    simp only [h0, decide_false, Bool.false_or] at hc
    have hw : (winnerV t l).2 = 0 := by unfold winnerV; rw [if_neg (by omega), if_pos (hr h0)]
    have hb := hc.2
    unfold beatsV at hb
    rw [if_pos hw, if_neg (by omega)] at hb
    by_cases h5 : c < 52 ∧ l.contains c = false
    · rw [if_pos h5] at hb
      have := of_decide_eq_true hb
      omega
    · rw [if_neg h5] at hb; cases hb
  refine ⟨fun i hi => ?_, hlt, hisw, fun h => ?_, fun h => ?_, hwins, fun c hc hs => ?_, fun c hc hpos hs hl => ?_⟩
  · rw [hbit i, Bool.and_eq_true] at hi; exact hi.1
  · rw [hisw] at h
    rw [hcov, if_neg (by rintro ⟨_, h1⟩; simp [h1] at h)]
  · rw [hisw] at h
    obtain ⟨h1, h2⟩ := hsome (of_decide_eq_true h)
    rw [h1]
    exact (upTo_mem_iff.1 (bestOf_mem _ _ h2)).2
  · obtain ⟨h1, h2⟩ := hsome (hne c hc)
    have hc52 := bit_lt hwl hc
    have hcm : c ∈ upTo (winnersV t H l).1 52 := upTo_mem_iff.2 ⟨hc52, hc⟩
    have hbm := upTo_mem_iff.1 (bestOf_mem (weak t l) _ h2)
    rw [h1] at hs ⊢
    have hmax := bestOf_max (weak t l) _ c hcm
    have hlst := bestOf_least (weak t l) _ (upTo_sorted _ 52) c hcm
    generalize bestOf (weak t l) (upTo (winnersV t H l).1 52) = d at *
    by_cases h0 : l.length = 0
    · unfold weak at hmax hlst
      rw [if_pos h0, if_pos h0] at hmax
      omega
    · have hsu : c / 13 = d / 13 := by rcases hs with h | h; exact h; exact absurd h h0
      unfold weak at hmax
      rw [if_neg h0, if_neg h0] at hmax
      have hd := hstr d hbm.2 (by omega)
      have := (strength_same (t := t) (l := suit (l.getD 0 0)) hbm.1 hc52 (by rw [suit_div hbm.1, suit_div hc52]; exact hsu.symm) (strength_pos_suit (hstr c hc (by omega)))).1 (by omega)
      exact this
  · obtain ⟨h1, h2⟩ := hsome (hne c hc)
    have hc52 := bit_lt hwl hc
    have hcm : c ∈ upTo (winnersV t H l).1 52 := upTo_mem_iff.2 ⟨hc52, hc⟩
    have hbm := upTo_mem_iff.1 (bestOf_mem (weak t l) _ h2)
    rw [h1] at hl
    have hmax := bestOf_max (weak t l) _ c hcm
    generalize bestOf (weak t l) (upTo (winnersV t H l).1 52) = d at *
    have h0 : ¬ l.length = 0 := by omega
    unfold weak at hmax
    rw [if_neg h0, if_neg h0] at hmax
    have := strength_trump (t := t) (l := suit (l.getD 0 0)) (c := c) (d := d) (by rw [suit_div hc52]; exact hs) (by rw [suit_div hbm.1]; exact hl)
    omega
end Go.Proofs.YthilcnhnfdddhaaDoor
