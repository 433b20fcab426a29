/- Plain facts on masks and tricks: what is right, which card is best. -/
import Derived.Test.YthilcnhnfdddhaaDoorCover
namespace Go.Proofs.YthilcnhnfdddhaaDoor
open Go.RowKit

theorem testBit_lor_shl1 (m c i : Nat) (hc : c < 64) : (lor m (shl1 c)).testBit i = (m.testBit i || decide (c = i)) := by
  rw [testBit_lor, testBit_shl1]; simp [hc]
theorem maskR_ok : ∀ (zs : List Nat) (m : Nat), (maskR m zs).2 = 0 ↔ (∀ c ∈ zs, c < 52) ∧ (∀ c ∈ zs, m.testBit c = false) ∧ zs.Nodup
  | [], m => by simp [maskR]
  | c :: cs, m => by
    unfold maskR
    by_cases h1 : c < 52
    · rw [if_pos h1]
      cases h2 : m.testBit c
      · simp only [Bool.false_eq_true, if_false]
        rw [maskR_ok cs]
        have e : ∀ x, (lor m (shl1 c)).testBit x = false ↔ (m.testBit x = false ∧ c ≠ x) := by
          intro x; rw [testBit_lor_shl1 _ _ _ (by omega)]; simp
        simp only [e, List.mem_cons, List.nodup_cons, forall_eq_or_imp, h1, h2, true_and]
        constructor
        · rintro ⟨h3, h4, h5⟩
          exact ⟨h3, fun x hx => (h4 x hx).1, fun hx => (h4 c hx).2 rfl, h5⟩
        · rintro ⟨h3, h4, h5, h6⟩
          exact ⟨h3, fun x hx => ⟨h4 x hx, fun hc => h5 (hc ▸ hx)⟩, h6⟩
      · simp [h2]
    · rw [if_neg h1]; simp [h1]
theorem maskR_bit : ∀ (zs : List Nat) (m : Nat), (maskR m zs).2 = 0 → ∀ i, (maskR m zs).1.testBit i = (m.testBit i || decide (i ∈ zs))
  | [], m, _, i => by simp [maskR]
  | c :: cs, m, h, i => by
    unfold maskR at h ⊢
    by_cases h1 : c < 52
    · rw [if_pos h1] at h ⊢
      cases h2 : m.testBit c
      · simp only [h2, Bool.false_eq_true, if_false] at h ⊢
        rw [maskR_bit cs _ h i, testBit_lor_shl1 _ _ _ (by omega)]
        by_cases hc : c = i
        · simp [hc]
        · have : ¬ i = c := fun e => hc e.symm
          simp [hc, this]
      · simp [h2] at h
    · rw [if_neg h1] at h; simp at h

theorem rightB_iff (zs : List Nat) : rightB zs = true ↔ 1 ≤ zs.length ∧ zs.length ≤ 4 ∧ (∀ c ∈ zs, c < 52) ∧ zs.Nodup := by
  have := maskR_ok zs 0
  simp only [Nat.zero_testBit] at this
  simp only [rightB, Bool.and_eq_true, decide_eq_true_eq, beq_iff_eq]
  rw [this]
  simp
  constructor
  · rintro ⟨⟨a, b⟩, c, d⟩; exact ⟨a, b, c, d⟩
  · rintro ⟨a, b, c, d⟩; exact ⟨⟨a, b⟩, c, d⟩

/-- the first k are cards, and all different -/
def OkTo (zs : List Nat) (k : Nat) : Prop := ∀ i, i < k → zs.getD i 0 < 52 ∧ ∀ j, j < i → zs.getD j 0 ≠ zs.getD i 0
/-- the first j are not the i-th -/
def NeTo (zs : List Nat) (i j : Nat) : Prop := ∀ x, x < j → zs.getD x 0 ≠ zs.getD i 0
theorem getD_mem {zs : List Nat} {i : Nat} (h : i < zs.length) : zs.getD i 0 ∈ zs := by
  rw [List.getD_eq_getElem?_getD, List.getElem?_eq_getElem h]; exact List.getElem_mem h
theorem mem_getD {zs : List Nat} {c : Nat} (h : c ∈ zs) : ∃ i, i < zs.length ∧ zs.getD i 0 = c := by
  obtain ⟨i, hi, rfl⟩ := List.getElem_of_mem h
  exact ⟨i, hi, by rw [List.getD_eq_getElem?_getD, List.getElem?_eq_getElem hi]; rfl⟩
theorem getD_get {zs : List Nat} {i : Nat} (h : i < zs.length) : zs.getD i 0 = zs[i] := by
  rw [List.getD_eq_getElem?_getD, List.getElem?_eq_getElem h]; rfl
theorem okTo_all {zs : List Nat} : OkTo zs zs.length ↔ (∀ c ∈ zs, c < 52) ∧ zs.Nodup := by
  constructor
  · intro h
    refine ⟨fun c hc => ?_, ?_⟩
    · obtain ⟨i, hi, rfl⟩ := mem_getD hc; exact (h i hi).1
    · rw [List.nodup_iff_pairwise_ne, List.pairwise_iff_getElem]
      intro i j hi hj hij
      have := (h j hj).2 i hij
      rwa [getD_get hi, getD_get hj] at this
  · rintro ⟨h1, h2⟩ i hi
    refine ⟨h1 _ (getD_mem hi), fun j hj => ?_⟩
    rw [List.nodup_iff_pairwise_ne, List.pairwise_iff_getElem] at h2
    rw [getD_get hi, getD_get (by omega)]
    exact h2 j i (by omega) hi hj
theorem rightB_okTo {zs : List Nat} (h1 : 1 ≤ zs.length) (h4 : zs.length ≤ 4) : rightB zs = true ↔ OkTo zs zs.length := by
  rw [rightB_iff, okTo_all]
  exact ⟨fun h => h.2.2, fun h => ⟨h1, h4, h⟩⟩
theorem right_true {zs : List Nat} (h1 : 1 ≤ zs.length) (h4 : zs.length ≤ 4) (h : OkTo zs zs.length) : rightB zs = true := (rightB_okTo h1 h4).2 h
theorem right_false_big {zs : List Nat} {k : Nat} (hk : k < zs.length) (h : ¬ zs.getD k 0 < 52) : rightB zs = false := by
  rw [← Bool.not_eq_true]; intro hr
  exact h (((rightB_iff zs).1 hr).2.2.1 _ (getD_mem hk))
theorem right_false_twice {zs : List Nat} {j k : Nat} (hk : k < zs.length) (hj : j < k) (h : zs.getD j 0 = zs.getD k 0) : rightB zs = false := by
  rw [← Bool.not_eq_true]; intro hr
  have h2 := okTo_all.2 ((rightB_iff zs).1 hr).2.2
  exact (h2 k hk).2 j hj h
theorem right_false_len {zs : List Nat} (h : zs.length = 0 ∨ 4 < zs.length) : rightB zs = false := by
  rw [← Bool.not_eq_true]; intro hr
  have := rightB_length hr; omega

theorem best_ge (val : Nat → Int) (zs : List Nat) : ∀ k j, j < k → val (zs.getD j 0) ≤ val (zs.getD (bestTo val zs k) 0)
  | 0, j, h => by omega
  | k + 1, j, h => by
    rw [bestTo]
    rcases Nat.lt_succ_iff_lt_or_eq.1 h with h1 | h1
    · have := best_ge val zs k j h1
      split <;> omega
    · subst h1; split <;> omega
theorem best_first (val : Nat → Int) (zs : List Nat) : ∀ k j, j < bestTo val zs k → val (zs.getD j 0) < val (zs.getD (bestTo val zs k) 0)
  | 0, j, h => by simp [bestTo] at h
  | k + 1, j, h => by
    rw [bestTo] at h ⊢
    split
    · rename_i h1
      rw [if_pos h1] at h
      have := best_ge val zs k j h
      omega
    · rename_i h1
      rw [if_neg h1] at h
      exact best_first val zs k j h
/-- whether one of the first x is greater than the i-th -/
def beatenTo (val : Nat → Int) (zs : List Nat) (i : Nat) : Nat → Bool
  | 0 => false
  | x + 1 => if val (zs.getD i 0) < val (zs.getD x 0) then true else beatenTo val zs i x
theorem beatenTo_iff (val : Nat → Int) (zs : List Nat) (i : Nat) : ∀ k, beatenTo val zs i k = true ↔ ∃ j, j < k ∧ val (zs.getD i 0) < val (zs.getD j 0)
  | 0 => by simp [beatenTo]
  | k + 1 => by
    rw [beatenTo]
    split
    · rename_i h; exact ⟨fun _ => ⟨k, by omega, h⟩, fun _ => rfl⟩
    · rename_i h
      rw [beatenTo_iff val zs i k]
      constructor
      · rintro ⟨j, hj, h2⟩; exact ⟨j, by omega, h2⟩
      · rintro ⟨j, hj, h2⟩
        rcases Nat.lt_succ_iff_lt_or_eq.1 hj with h3 | h3
        · exact ⟨j, h3, h2⟩
        · subst h3; exact absurd h2 h
/-- all before i are beaten -/
def AllBeaten (val : Nat → Int) (zs : List Nat) (n i : Nat) : Prop := ∀ j, j < i → beatenTo val zs j n = true
theorem best_not_beaten (val : Nat → Int) (zs : List Nat) (n : Nat) : beatenTo val zs (bestTo val zs n) n = false := by
  rw [← Bool.not_eq_true, beatenTo_iff]
  rintro ⟨j, hj, h⟩
  have := best_ge val zs n j hj
  omega
theorem best_of_not_beaten {val : Nat → Int} {zs : List Nat} {n i : Nat} (hi : i < n) (ha : AllBeaten val zs n i) (hb : beatenTo val zs i n = false) : bestTo val zs n = i := by
  have h1 : bestTo val zs n < n := bestTo_lt val zs n (by omega)
  rcases Nat.lt_trichotomy (bestTo val zs n) i with h | h | h
  · have := ha _ h; rw [best_not_beaten] at this; cases this
  · exact h
  · have := best_first val zs n i h
    have h2 : beatenTo val zs i n = true := (beatenTo_iff val zs i n).2 ⟨_, h1, this⟩
    rw [hb] at h2; cases h2
theorem not_all_beaten {val : Nat → Int} {zs : List Nat} {n : Nat} (hn : 0 < n) (ha : AllBeaten val zs n n) : False := by
  have := ha _ (bestTo_lt val zs n hn)
  rw [best_not_beaten] at this; cases this
end Go.Proofs.YthilcnhnfdddhaaDoor
