/- Renaming suits: plain facts for finesselaw11.TrickSuits. -/
import Derived.Test.YthilcnhnfdddhaaDoorFollow
namespace Go.Proofs.YthilcnhnfdddhaaDoor
open Go.RowKit Go.Shelf Go.Sort

/-- whether a rotation also exchanges -/
def ex4 (b : Nat) : Bool := (b &&& 4) == 4
/-- the name of a suit -/
def nm (b s : Nat) : Nat := if 3 < s then s else ((if ex4 b && decide (s < 2) then 1 - s else s) + b) % 4
theorem nm_le (b s : Nat) (h : s ≤ 3) : nm b s ≤ 3 := by unfold nm; rw [if_neg (by omega)]; omega
theorem nm_four (b : Nat) : nm b 4 = 4 := rfl
theorem nm_inj (b s t : Nat) (hs : s ≤ 4) (ht : t ≤ 4) : nm b s = nm b t ↔ s = t := by
  unfold nm
  cases ex4 b
  all_goals
    match s, hs with
    | 0, _ | 1, _ | 2, _ | 3, _ | 4, _ =>
      match t, ht with
      | 0, _ | 1, _ | 2, _ | 3, _ | 4, _ => simp <;> omega
/-- a renamed card -/
def rn (b c : Nat) : Nat := 13 * nm b (c / 13) + c % 13
theorem rn_lt (b c : Nat) (h : c < 52) : rn b c < 52 := by
  have := nm_le b (c / 13) (by omega); unfold rn; omega
theorem rn_suit (b c : Nat) (h : c < 52) : suit (rn b c) = nm b (suit c) := by
  rw [suit_div (rn_lt b c h), suit_div h]; unfold rn; omega
theorem rn_rank (b c : Nat) (h : c < 52) : rank (rn b c) = rank c := by
  unfold rank; rw [if_pos (rn_lt b c h), if_pos h]; unfold rn; omega
theorem rn_inj (b c d : Nat) (hc : c < 52) (hd : d < 52) (h : rn b c = rn b d) : c = d := by
  have h1 : nm b (c / 13) = nm b (d / 13) ∧ c % 13 = d % 13 := by unfold rn at h; omega
  have h2 := (nm_inj b (c / 13) (d / 13) (by omega) (by omega)).1 h1.1
  omega
theorem suit_le (c : Nat) : suit c ≤ 3 := by unfold suit; split <;> omega
theorem strength_rn (b t l c : Nat) (ht : t ≤ 4) (hl : l ≤ 3) (hc : c < 52) : strength (nm b t) (nm b l) (rn b c) = strength t l c := by
  unfold strength
  rw [rn_suit b c hc, rn_rank b c hc]
  have h1 := nm_inj b (suit c) t (by have := suit_le c; omega) ht
  have h2 := nm_inj b (suit c) l (by have := suit_le c; omega) (by omega)
  simp only [h1, h2]
theorem getD_map (f : Nat → Nat) (l : List Nat) (i : Nat) (h : i < l.length) : (l.map f).getD i 0 = f (l.getD i 0) := by
  rw [List.getD_eq_getElem?_getD, List.getD_eq_getElem?_getD, List.getElem?_map, List.getElem?_eq_getElem h]; rfl
theorem bestTo_map (v v' : Nat → Int) (f : Nat → Nat) (l : List Nat) (h : ∀ c ∈ l, v' (f c) = v c) : ∀ k, k ≤ l.length → bestTo v' (l.map f) k = bestTo v l k
  | 0, _ => rfl
  | k + 1, hk => by
    have ih := bestTo_map v v' f l h k (by omega)
    have hb : bestTo v l k < l.length := by
      rcases Nat.eq_zero_or_pos k with h0 | h0
      · subst h0; show 0 < _; omega
      · have := bestTo_lt v l k h0; omega
    rw [bestTo, bestTo, ih, getD_map f l k (by omega), getD_map f l _ hb, h (l.getD k 0) (getD_mem (by omega)), h (l.getD (bestTo v l k) 0) (getD_mem hb)]
theorem right_map (b : Nat) (l : List Nat) (h : rightB l = true) : rightB (l.map (rn b)) = true := by
  rw [rightB_iff] at h ⊢
  obtain ⟨h1, h2, h3, h4⟩ := h
  refine ⟨by simpa using h1, by simpa using h2, ?_, ?_⟩
  · intro c hc
    obtain ⟨d, hd, rfl⟩ := List.mem_map.1 hc
    exact rn_lt b d (h3 d hd)
  · rw [List.nodup_iff_pairwise_ne, List.pairwise_map]
    rw [List.nodup_iff_pairwise_ne] at h4
    exact List.Pairwise.imp_of_mem (fun {x y} hx hy hne he => hne (rn_inj b x y (h3 x hx) (h3 y hy) he)) h4
theorem winner_map (b t : Nat) (l : List Nat) (ht : t ≤ 4) (h : rightB l = true) : winnerV (nm b t) (l.map (rn b)) = winnerV t l := by
  have h1 := rightB_length h
  have hc0 := right_lt h (i := 0) (by omega)
  have hn : nm b t ≤ 4 := by
    rcases Nat.lt_or_ge 3 t with h3 | h3
    · obtain rfl : t = 4 := by omega
      exact Nat.le_refl _
    · have := nm_le b t h3; omega
  unfold winnerV
  rw [if_neg (show ¬ 4 < nm b t by omega), if_neg (show ¬ 4 < t by omega), if_pos h, if_pos (right_map b l h), List.length_map, getD_map _ _ _ (by omega)]
  congr 1
  refine bestTo_map _ _ _ _ (fun c hc => ?_) _ (Nat.le_refl _)
  rw [rn_suit b _ hc0, strength_rn b t _ c ht (suit_le _) (((rightB_iff l).1 h).2.2.1 c hc)]

/-- a renamed mask, of the first k cards -/
def rnTo (b m : Nat) : Nat → Nat
  | 0 => 0
  | k + 1 => if m.testBit k then lor (rnTo b m k) (shl1 (rn b k)) else rnTo b m k
theorem rnTo_w64 (b m : Nat) : ∀ k, W64 (rnTo b m k)
  | 0 => W64.zero
  | k + 1 => by rw [rnTo]; split; exact (rnTo_w64 b m k).lor (W64.shl1 _); exact rnTo_w64 b m k
theorem rnTo_bit (b m j : Nat) : ∀ k, k ≤ 52 → ((rnTo b m k).testBit j = true ↔ ∃ c, c < k ∧ m.testBit c = true ∧ rn b c = j)
  | 0, _ => by simp [rnTo]
  | k + 1, hk => by
    have ih := rnTo_bit b m j k (by omega)
    have hr := rn_lt b k (by omega)
    rw [rnTo]
    cases hb : m.testBit k
    · simp only [Bool.false_eq_true, if_false]
      rw [ih]
      constructor
      · rintro ⟨c, h1, h2, h3⟩; exact ⟨c, by omega, h2, h3⟩
      · rintro ⟨c, h1, h2, h3⟩
        rcases Nat.lt_succ_iff_lt_or_eq.1 h1 with h | h
        · exact ⟨c, h, h2, h3⟩
        · subst h; rw [hb] at h2; cases h2
    · simp only [if_true]
      rw [testBit_lor_shl1 _ _ _ (by omega), Bool.or_eq_true, decide_eq_true_eq, ih]
      constructor
      · rintro (⟨c, h1, h2, h3⟩ | h)
        · exact ⟨c, by omega, h2, h3⟩
        · exact ⟨k, by omega, hb, h⟩
      · rintro ⟨c, h1, h2, h3⟩
        rcases Nat.lt_succ_iff_lt_or_eq.1 h1 with h | h
        · exact .inl ⟨c, h, h2, h3⟩
        · subst h; exact .inr h3
def rnM (b m : Nat) : Nat := rnTo b m 52
theorem rnM_lt (b m : Nat) : rnM b m < 2 ^ 52 := lt_of_bits 52 fun j hj => by
  obtain ⟨c, h1, _, rfl⟩ := (rnTo_bit b m j 52 (Nat.le_refl _)).1 hj
  exact rn_lt b c h1
theorem rnM_bit (b m j : Nat) : (rnM b m).testBit j = true ↔ ∃ c, c < 52 ∧ m.testBit c = true ∧ rn b c = j := rnTo_bit b m j 52 (Nat.le_refl _)
theorem rnM_at (b m c : Nat) (h : c < 52) : (rnM b m).testBit (rn b c) = m.testBit c := by
  rw [Bool.eq_iff_iff, rnM_bit]
  constructor
  · rintro ⟨d, h1, h2, h3⟩
    rw [← rn_inj b d c h1 h h3]; exact h2
  · intro h1; exact ⟨c, h, h1, rfl⟩
/-- every card is a renamed one -/
theorem rn_onto (b j : Nat) (h : j < 52) : ∃ c, c < 52 ∧ rn b c = j := by
  have : ∃ s, s ≤ 3 ∧ nm b s = j / 13 := by
    have hj : j / 13 ≤ 3 := by omega
    generalize j / 13 = t at *
    have hb : b % 4 < 4 := Nat.mod_lt _ (by decide)
    cases he : ex4 b
    · refine ⟨(t + 4 - b % 4) % 4, by omega, ?_⟩
      unfold nm
      rw [he, if_neg (by omega)]
      simp only [Bool.false_and, Bool.false_eq_true, if_false]
      omega
    · by_cases h2 : (t + 4 - b % 4) % 4 < 2
      · refine ⟨1 - (t + 4 - b % 4) % 4, by omega, ?_⟩
        unfold nm
        have h3 : 1 - (t + 4 - b % 4) % 4 < 2 := by omega
        rw [he, if_neg (by omega)]
        simp only [Bool.true_and, h3, decide_true, if_true]
        omega
      · refine ⟨(t + 4 - b % 4) % 4, by omega, ?_⟩
        unfold nm
        rw [he, if_neg (by omega)]
        simp only [Bool.true_and, h2, decide_false, Bool.false_eq_true, if_false]
        omega
  obtain ⟨s, hs, hn⟩ := this
  refine ⟨13 * s + j % 13, by omega, ?_⟩
  unfold rn
  rw [show (13 * s + j % 13) / 13 = s by omega, show (13 * s + j % 13) % 13 = j % 13 by omega, hn]
  omega
theorem mask_ext (b x y : Nat) (hx : x < 2 ^ 52) (hy : y < 2 ^ 52) (h : ∀ c, c < 52 → x.testBit (rn b c) = y.testBit (rn b c)) : x = y := by
  apply Nat.eq_of_testBit_eq
  intro j
  by_cases hj : j < 52
  · obtain ⟨c, hc, rfl⟩ := rn_onto b j hj
    exact h c hc
  · rw [Nat.testBit_lt_two_pow (Nat.lt_of_lt_of_le hx (Nat.pow_le_pow_right (by decide) (by omega))), Nat.testBit_lt_two_pow (Nat.lt_of_lt_of_le hy (Nat.pow_le_pow_right (by decide) (by omega)))]
theorem mem_map_rn (b c : Nat) (l : List Nat) (hl : ∀ d ∈ l, d < 52) (hc : c < 52) : (l.map (rn b)).contains (rn b c) = l.contains c := by
  rw [Bool.eq_iff_iff, List.contains_iff_mem, List.contains_iff_mem, List.mem_map]
  constructor
  · rintro ⟨d, hd, he⟩; rw [← rn_inj b d c (hl d hd) hc he]; exact hd
  · intro h; exact ⟨c, h, rfl⟩
theorem playable_map (b H : Nat) (l : List Nat) (hH : H < 2 ^ 52) (h3 : l.length ≤ 3) (h : l.length ≠ 0 → rightB l = true) :
    (playableV H l).2 = 0 ∧ (playableV (rnM b H) (l.map (rn b))).2 = 0 ∧ rnM b (playableV H l).1 = (playableV (rnM b H) (l.map (rn b))).1 := by
  have hR := rnM_lt b H
  by_cases h0 : l.length = 0
  · obtain rfl : l = [] := List.eq_nil_of_length_eq_zero h0
    have e : ∀ X, X < 2 ^ 52 → playableV X [] = (X, 0) := by
      intro X hX; unfold playableV; rw [if_neg (Nat.not_le_of_lt hX), if_pos List.length_nil]
    rw [List.map_nil, e H hH, e _ hR]
    exact ⟨rfl, rfl, rfl⟩
  have hr := h h0
  have hrm := right_map b l hr
  have hl := ((rightB_iff l).1 hr).2.2.1
  have hc0 := right_lt hr (i := 0) (by omega)
  have e1 : playableV H l = (playLate (suit (l.getD 0 0)) (restV H l), 0) := by
    unfold playableV; rw [if_neg (Nat.not_le_of_lt hH), if_neg h0, if_pos hr, if_neg (by omega)]
  have e2 : playableV (rnM b H) (l.map (rn b)) = (playLate (nm b (suit (l.getD 0 0))) (restV (rnM b H) (l.map (rn b))), 0) := by
    unfold playableV
    rw [if_neg (Nat.not_le_of_lt hR), List.length_map, if_neg h0, if_pos hrm, if_neg (by omega), getD_map _ _ _ (by omega), rn_suit b _ hc0]
  rw [e1, e2]
  refine ⟨rfl, rfl, ?_⟩
  have hs := suit_le (l.getD 0 0)
  have o1 := rest_lt H l hH
  have o2 := rest_lt (rnM b H) (l.map (rn b)) hR
  have ob : ∀ c, c < 52 → (restV (rnM b H) (l.map (rn b))).testBit (rn b c) = (restV H l).testBit c := by
    intro c hc
    rw [rest_bit _ _ (right_mask hrm), rest_bit _ _ (right_mask hr), rnM_at b H c hc, mem_map_rn b c l hl hc]
  have f1 := fun i => follow_bit (suit (l.getD 0 0)) (restV H l) i (w64_of_52 o1)
  have f2 := fun i => follow_bit (nm b (suit (l.getD 0 0))) (restV (rnM b H) (l.map (rn b))) i (w64_of_52 o2)
  have l1 := follow_lt (suit (l.getD 0 0)) _ o1
  have l2 := follow_lt (nm b (suit (l.getD 0 0))) _ o2
  have fb : ∀ c, c < 52 → (follow (nm b (suit (l.getD 0 0))) (bitsList (restV (rnM b H) (l.map (rn b))))).testBit (rn b c) = (follow (suit (l.getD 0 0)) (bitsList (restV H l))).testBit c := by
    intro c hc
    rw [f1, f2, ob c hc, rn_suit b c hc]
    have := nm_inj b (suit c) (suit (l.getD 0 0)) (by have := suit_le c; omega) (by omega)
    simp only [this]
  unfold playLate
  generalize follow (nm b (suit (l.getD 0 0))) (bitsList (restV (rnM b H) (l.map (rn b)))) = F2 at *
  generalize follow (suit (l.getD 0 0)) (bitsList (restV H l)) = F1 at *
  generalize restV (rnM b H) (l.map (rn b)) = O2 at *
  generalize restV H l = O1 at *
  have eF : rnM b F1 = F2 := mask_ext b _ _ (rnM_lt b F1) l2 fun c hc => by rw [rnM_at b F1 c hc, fb c hc]
  have eO : rnM b O1 = O2 := mask_ext b _ _ (rnM_lt b O1) o2 fun c hc => by rw [rnM_at b O1 c hc, ob c hc]
  have ez : F1 = 0 ↔ F2 = 0 := by
    rw [← eF]
    constructor
    · rintro rfl
      apply Nat.eq_of_testBit_eq; intro j
      rw [Nat.zero_testBit, ← Bool.not_eq_true, rnM_bit]
      rintro ⟨c, _, h, _⟩; simp at h
    · intro h
      apply Nat.eq_of_testBit_eq; intro j
      by_cases hj : j < 52
      · rw [← rnM_at b F1 j hj, h]; simp
      · rw [Nat.testBit_lt_two_pow (Nat.lt_of_lt_of_le l1 (Nat.pow_le_pow_right (by decide) (by omega)))]; simp
  by_cases hz : F1 = 0
  · rw [if_neg (by simp [hz]), if_neg (by simp [ez.1 hz])]; exact eO
  · rw [if_pos hz, if_pos (fun h => hz (ez.2 h))]; exact eF
end Go.Proofs.YthilcnhnfdddhaaDoor
