/- Plain: one card taken out of the deck; the hands' greatest lengths and points. -/
import Derived.Test.YtmkplfndbjcflaaAgX
namespace Go.Proofs.Ytmkplfndbjcflaa
open Cnt

theorem scards_bit (h s j : Nat) (hj : j < 13) : (scards h s).testBit j = h.testBit (13 * s + j) := by
  unfold scards shr
  rw [testBit_land, Nat.testBit_shiftRight, show (8191 : Nat) = 2 ^ 13 - 1 by decide, Nat.testBit_two_pow_sub_one, decide_eq_true hj, Bool.and_true]
theorem rks_congr {x y : Nat} (h : ∀ j, j < 13 → x.testBit j = y.testBit j) : rksOf x = rksOf y :=
  List.filter_congr fun j hj => h j (by simpa using hj)
theorem rks_nodup (x : Nat) : (rksOf x).Nodup := List.Pairwise.filter _ List.nodup_range
theorem rks_take {x y i : Nat} (hi : i < 13) (hx : x.testBit i = true) (h : ∀ j, j < 13 → y.testBit j = (x.testBit j && j != i)) : (rksOf x).Perm (i :: rksOf y) := by
  have hm : i ∈ rksOf x := List.mem_filter.2 ⟨List.mem_range.2 hi, hx⟩
  have e : rksOf y = (rksOf x).erase i := by
    rw [List.Nodup.erase_eq_filter (rks_nodup x)]
    unfold rksOf
    rw [List.filter_filter]
    refine List.filter_congr fun j hj => ?_
    rw [h j (by simpa using hj), Bool.and_comm]
  rw [e]
  exact List.perm_cons_erase hm
/-- the feature of a card -/
def ftOf (c : Nat) : Ft := ftC (c / 13) (c % 13)
theorem deck_take {L M c : Nat} (hc : c < 52) (hL : L.testBit c = true) (hM : ∀ j, M.testBit j = (L.testBit j && j != c)) : (deck L).Perm (ftOf c :: deck M) := by
  have same : ∀ s, s < 4 → s ≠ c / 13 → rksOf (scards L s) = rksOf (scards M s) := fun s hs hne => rks_congr fun j hj => by
    rw [scards_bit _ _ _ hj, scards_bit _ _ _ hj, hM]
    have : (13 * s + j != c) = true := by simp; omega
    rw [this, Bool.and_true]
  have one : (rksOf (scards L (c / 13))).Perm (c % 13 :: rksOf (scards M (c / 13))) := rks_take (by omega) (by rw [scards_bit _ _ _ (by omega), show 13 * (c / 13) + c % 13 = c by omega]; exact hL) (fun j hj => by
    rw [scards_bit _ _ _ hj, scards_bit _ _ _ hj, hM]
    congr 1
    by_cases e : j = c % 13
    · rw [show 13 * (c / 13) + j = c by omega]; simp [e]
    · have h1 : (13 * (c / 13) + j != c) = true := by simp; omega
      have h2 : (j != c % 13) = true := by simp [e]
      rw [h1, h2])
  have one' := one.map (ftC (c / 13))
  rw [List.map_cons] at one'
  unfold ftOf deck
  have hk : c / 13 = 0 ∨ c / 13 = 1 ∨ c / 13 = 2 ∨ c / 13 = 3 := by omega
  rcases hk with hk | hk | hk | hk
  all_goals rw [hk] at one' same ⊢
  · rw [same 1 (by decide) (by decide), same 2 (by decide) (by decide), same 3 (by decide) (by decide)]
    exact one'.append_right _
  · rw [same 0 (by decide) (by decide), same 2 (by decide) (by decide), same 3 (by decide) (by decide)]
    exact ((one'.append_right _).append_left _).trans List.perm_middle
  · rw [same 0 (by decide) (by decide), same 1 (by decide) (by decide), same 3 (by decide) (by decide)]
    exact ((((one'.append_right _).append_left _).append_left _).trans (List.Perm.append_left _ List.perm_middle)).trans List.perm_middle
  · rw [same 0 (by decide) (by decide), same 1 (by decide) (by decide), same 2 (by decide) (by decide)]
    exact (((one'.append_left _).append_left _).append_left _).trans (((List.Perm.append_left _ (List.Perm.append_left _ (List.perm_middle (l₁ := List.map (ftC 2) (rksOf (scards M 2))) (l₂ := List.map (ftC 3) (rksOf (scards M 3)))))).trans (List.Perm.append_left _ List.perm_middle)).trans List.perm_middle)
/-- all of a list of cards together -/
def tot : List Ft → Ft
  | [] => Ft.zero
  | x :: l => x.add (tot l)
def Le (x y : Ft) : Prop := x.a ≤ y.a ∧ x.b ≤ y.b ∧ x.c ≤ y.c ∧ x.d ≤ y.d ∧ x.p ≤ y.p
theorem sumF_sub {l : List Ft} : ∀ {g h : Ft → Nat}, (∀ y, Le y (tot l) → g y = h y) → sumF l g = sumF l h := by
  induction l with
  | nil => intro g h e; exact e Ft.zero ⟨Nat.le_refl _, Nat.le_refl _, Nat.le_refl _, Nat.le_refl _, Nat.le_refl _⟩
  | cons x l ih =>
    intro g h e
    show sumF l g + sumF l _ = sumF l h + sumF l _
    have e1 : sumF l g = sumF l h := ih fun y hy => e y (by
      obtain ⟨h1, h2, h3, h4, h5⟩ := hy
      refine ⟨?_, ?_, ?_, ?_, ?_⟩ <;> simp only [tot, Ft.add] <;> omega)
    have e2 : sumF l (fun y => g (x.add y)) = sumF l (fun y => h (x.add y)) := ih fun y hy => e _ (by
      obtain ⟨h1, h2, h3, h4, h5⟩ := hy
      refine ⟨?_, ?_, ?_, ?_, ?_⟩ <;> simp only [tot, Ft.add] <;> omega)
    rw [e1, e2]
theorem tot_append (l m : List Ft) : tot (l ++ m) = (tot l).add (tot m) := by
  induction l with
  | nil => simp [tot, Ft.zero_add]
  | cons x l ih => simp only [List.cons_append, tot, ih, Ft.add_assoc]
def sumL (l : List Nat) : Nat := (l.map ptC).sum
theorem tot_suit (s : Nat) (l : List Nat) : tot (l.map (ftC s)) = ftn s l.length (sumL l) := by
  induction l with
  | nil => simp [tot, ftn, sumL, Ft.zero]
  | cons i l ih =>
    simp only [List.map_cons, tot, ih]
    rw [ftC, ftn_add]
    simp [sumL, Nat.add_comm]
theorem sum_filter (p : Nat → Bool) (l : List Nat) : sumL (l.filter p) ≤ sumL l := by
  induction l with
  | nil => exact Nat.le_refl _
  | cons i l ih =>
    rw [List.filter_cons]
    split
    · simp only [sumL, List.map_cons, List.sum_cons] at *; omega
    · simp only [sumL, List.map_cons, List.sum_cons] at *; omega
theorem sum_rks (x : Nat) : sumL (rksOf x) ≤ 10 := Nat.le_trans (sum_filter _ _) (by decide)
theorem tot_deck (L : Nat) : Le (tot (deck L)) ⟨13, 13, 13, 13, 40⟩ := by
  have h0 := rks_len (scards L 0)
  have h1 := rks_len (scards L 1)
  have h2 := rks_len (scards L 2)
  have h3 := rks_len (scards L 3)
  have p0 := sum_rks (scards L 0)
  have p1 := sum_rks (scards L 1)
  have p2 := sum_rks (scards L 2)
  have p3 := sum_rks (scards L 3)
  unfold deck
  rw [tot_append, tot_append, tot_append, tot_suit, tot_suit, tot_suit, tot_suit]
  refine ⟨?_, ?_, ?_, ?_, ?_⟩ <;> simp only [Ft.add, ftn] <;> (try simp) <;> omega
theorem Le.trans {x y z : Ft} (h : Le x y) (k : Le y z) : Le x z := by
  obtain ⟨a1, a2, a3, a4, a5⟩ := h
  obtain ⟨b1, b2, b3, b4, b5⟩ := k
  exact ⟨by omega, by omega, by omega, by omega, by omega⟩
/-- the sum over the deck's hands: with a card, and without it -/
theorem deck_split {L M c : Nat} (hc : c < 52) (hL : L.testBit c = true) (hM : ∀ j, M.testBit j = (L.testBit j && j != c)) (g : Ft → Nat) : sumF (deck L) g = sumF (deck M) g + sumF (deck M) (fun y => g ((ftOf c).add y)) := by
  rw [sumF_perm (deck_take hc hL hM) g]
  rfl
/-- all hands, but for the length of one suit -/
def rgS (k : Nat) (lo hi : Int) : Rg := ⟨0, 40, if k = 0 then lo else 0, if k = 0 then hi else 13, if k = 1 then lo else 0, if k = 1 then hi else 13, if k = 2 then lo else 0, if k = 2 then hi else 13, if k = 3 then lo else 0, if k = 3 then hi else 13⟩
theorem rgS_ok (k : Nat) (lo hi : Int) (h0 : 0 ≤ lo) (h1 : lo ≤ hi) (h2 : hi ≤ 13) : rightV [rgS k lo hi] = true := by
  have e : ∀ q : Prop, [Decidable q] → ordB (if q then lo else 0) (if q then hi else 13) 13 = true := by
    intro q _
    unfold ordB
    split <;> simp <;> omega
  simp only [rightV, List.all_cons, List.all_nil, Rg.ok, Rg.okTo, Rg.lo, Rg.hi, rgS]
  have e0 := e (k = 0)
  have e1 := e (k = 1)
  have e2 := e (k = 2)
  have e3 := e (k = 3)
  simp only [show ¬ (1 : Nat) = 0 by decide, show ¬ (2 : Nat) = 0 by decide, show ¬ (3 : Nat) = 0 by decide, show ¬ (2 : Nat) = 1 by decide, show ¬ (3 : Nat) = 1 by decide, show ¬ (3 : Nat) = 2 by decide, if_true, if_false, e0, e1, e2, e3]
  simp [ordB]
theorem fitS (k : Nat) (hk : k < 4) (lo hi : Int) (y : Ft) (hy : Le y ⟨13, 13, 13, 13, 40⟩) : fitP [rgS k lo hi] (lenF y) y.p = (decide (lo ≤ (lenF y k : Int)) && decide ((lenF y k : Int) ≤ hi)) := by
  obtain ⟨h0, h1, h2, h3, h4⟩ := hy
  simp only at h0 h1 h2 h3 h4
  rw [Bool.eq_iff_iff]
  have : k = 0 ∨ k = 1 ∨ k = 2 ∨ k = 3 := by omega
  rcases this with rfl | rfl | rfl | rfl
  all_goals
    simp only [fitP, List.any_cons, List.any_nil, Bool.or_false, Rg.long, Rg.longTo, Rg.lo, Rg.hi, rgS, wthn, lenF, Bool.and_eq_true, decide_eq_true_eq, Bool.true_and]
    simp
    omega
theorem without_law {L M c : Nat} (hc : c < 52) (hL : L.testBit c = true) (hM : ∀ j, M.testBit j = (L.testBit j && j != c)) (lo hi : Int) (h0 : 0 ≤ lo) (nn : Nat) :
    cntF (deck L) (nn + 1) (fitP [rgS (c / 13) lo hi]) = (if hi = 0 then 0 else cntF (deck M) nn (fitP [rgS (c / 13) (mx (lo - 1) 0) (hi - 1)])) + cntF (deck M) (nn + 1) (fitP [rgS (c / 13) lo hi]) := by
  have hle := tot_deck L
  have hp := deck_take hc hL hM
  unfold cntF
  rw [deck_split hc hL hM, Nat.add_comm]
  congr 1
  have ht : tot (deck L) = (ftOf c).add (tot (deck M)) := by
    have : ∀ {l m : List Ft}, l.Perm m → tot l = tot m := by
      intro l m h
      induction h with
      | nil => rfl
      | cons x _ ih => simp only [tot, ih]
      | swap x y l => simp only [tot]; rw [Ft.add_left]
      | trans _ _ ih1 ih2 => exact ih1.trans ih2
    exact this hp
  have hs : ∀ y, ((ftOf c).add y).size = y.size + 1 := fun y => by
    rw [Ft.size_add, Nat.add_comm]
    congr 1
    unfold ftOf ftC ftn Ft.size
    have : c / 13 = 0 ∨ c / 13 = 1 ∨ c / 13 = 2 ∨ c / 13 = 3 := by omega
    rcases this with h | h | h | h <;> simp [h]
  have hl : ∀ y, lenF ((ftOf c).add y) (c / 13) = lenF y (c / 13) + 1 := fun y => by
    unfold ftOf ftC ftn Ft.add lenF
    have : c / 13 = 0 ∨ c / 13 = 1 ∨ c / 13 = 2 ∨ c / 13 = 3 := by omega
    rcases this with h | h | h | h <;> simp [h, Nat.add_comm]
  have hb : ∀ y, Le y (tot (deck M)) → Le ((ftOf c).add y) ⟨13, 13, 13, 13, 40⟩ := fun y hy => Le.trans (by
    rw [ht]
    obtain ⟨a1, a2, a3, a4, a5⟩ := hy
    refine ⟨?_, ?_, ?_, ?_, ?_⟩ <;> simp only [Ft.add] <;> omega) hle
  by_cases hz : hi = 0
  · rw [if_pos hz, sumF_sub (h := fun _ => 0), sumF_zero]
    intro y hy
    rw [fitS _ (by omega) _ _ _ (hb y hy), hl]
    split
    · rw [if_neg]
      simp
      omega
    · rfl
  · rw [if_neg hz]
    refine sumF_sub fun y hy => ?_
    rw [hs, fitS _ (by omega) _ _ _ (hb y hy), fitS _ (by omega) _ _ _ (Le.trans hy (tot_deck M)), hl]
    by_cases hn : y.size = nn
    · rw [if_pos (by omega), if_pos hn]
      congr 1
      rw [eq_iff_iff, Bool.and_eq_true, Bool.and_eq_true, decide_eq_true_eq, decide_eq_true_eq, decide_eq_true_eq, decide_eq_true_eq]
      unfold mx
      split <;> omega
    · rw [if_neg (by omega), if_neg hn]
end Go.Proofs.Ytmkplfndbjcflaa
