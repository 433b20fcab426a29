/- PlD, PlE in one text. -/
import Derived.Test.YtikdkhiehfccpaaAgX0

/- Plain: one card taken out of the deck; the hands' greatest lengths and points. -/
namespace Go.Proofs.Ytikdkhiehfccpaa
open Cnt

theorem scards_bit (h s j : Nat) (hj : j < 13) : (scards h s).testBit j = h.testBit (13 * s + j) := by
  unfold scards shr
  rw [testBit_land, Nat.testBit_shiftRight, show (8191 : Nat) = 2 ^ 13 - 1 by decide, Nat.testBit_two_pow_sub_one, decide_eq_true hj, Bool.and_true]
theorem rks_congr {x y : Nat} (h : ∀ j, j < 13 → x.testBit j = y.testBit j) : rksOf x = rksOf y :=
  List.filter_congr fun j hj => h j (by simpa using hj)
theorem rks_nodup (x : Nat) : (rksOf x).Nodup := List.Pairwise.filter _ List.nodup_range
theorem rks_take {x y i : Nat} (hi : i < 13) (hx : x.testBit i = true) (h : ∀ j, j < 13 → y.testBit j = (x.testBit j && j != i)) : (rksOf x).Perm (i :: rksOf y) := by
  have hm : i ∈ rksOf x := List.mem_filter.2 ⟨List.mem_range.2 hi, hx⟩
  have e : rksOf y = (rksOf x).erase i := by
    rw [List.Nodup.erase_eq_filter (rks_nodup x)]
    unfold rksOf
    rw [List.filter_filter]
    refine List.filter_congr fun j hj => ?_
    rw [h j (by simpa using hj), Bool.and_comm]
  rw [e]
  exact List.perm_cons_erase hm
/-- the feature of a card -/
def ftOf (c : Nat) : Ft := ftC (c / 13) (c % 13)
theorem deck_take {L M c : Nat} (hc : c < 52) (hL : L.testBit c = true) (hM : ∀ j, M.testBit j = (L.testBit j && j != c)) : (deck L).Perm (ftOf c :: deck M) := by
  have same : ∀ s, s < 4 → s ≠ c / 13 → rksOf (scards L s) = rksOf (scards M s) := fun s hs hne => rks_congr fun j hj => by
    rw [scards_bit _ _ _ hj, scards_bit _ _ _ hj, hM]
    have : (13 * s + j != c) = true := by simp; omega
    rw [this, Bool.and_true]
  have one : (rksOf (scards L (c / 13))).Perm (c % 13 :: rksOf (scards M (c / 13))) := rks_take (by omega) (by rw [scards_bit _ _ _ (by omega), show 13 * (c / 13) + c % 13 = c by omega]; exact hL) (fun j hj => by
    rw [scards_bit _ _ _ hj, scards_bit _ _ _ hj, hM]
    congr 1
    by_cases e : j = c % 13
    · rw [show 13 * (c / 13) + j = c by omega]; simp [e]
    · have h1 : (13 * (c / 13) + j != c) = true := by simp; omega
      have h2 : (j != c % 13) = true := by simp [e]
      rw [h1, h2])
  have one' := one.map (ftC (c / 13))
  rw [List.map_cons] at one'
  unfold ftOf deck
  have hk : c / 13 = 0 ∨ c / 13 = 1 ∨ c / 13 = 2 ∨ c / 13 = 3 := by omega
  rcases hk with hk | hk | hk | hk
  all_goals rw [hk] at one' same ⊢
  · rw [same 1 (by decide) (by decide), same 2 (by decide) (by decide), same 3 (by decide) (by decide)]
    exact one'.append_right _
  · rw [same 0 (by decide) (by decide), same 2 (by decide) (by decide), same 3 (by decide) (by decide)]
    exact ((one'.append_right _).append_left _).trans List.perm_middle
  · rw [same 0 (by decide) (by decide), same 1 (by decide) (by decide), same 3 (by decide) (by decide)]
    exact ((((one'.append_right _).append_left _).append_left _).trans (List.Perm.append_left _ List.perm_middle)).trans List.perm_middle
  · rw [same 0 (by decide) (by decide), same 1 (by decide) (by decide), same 2 (by decide) (by decide)]
    exact (((one'.append_left _).append_left _).append_left _).trans (((List.Perm.append_left _ (List.Perm.append_left _ (List.perm_middle (l₁ := List.map (ftC 2) (rksOf (scards M 2))) (l₂ := List.map (ftC 3) (rksOf (scards M 3)))))).trans (List.Perm.append_left _ List.perm_middle)).trans List.perm_middle)
/-- all of a list of cards together -/
def tot : List Ft → Ft
  | [] => Ft.zero
  | x :: l => x.add (tot l)
def Le (x y : Ft) : Prop := x.a ≤ y.a ∧ x.b ≤ y.b ∧ x.c ≤ y.c ∧ x.d ≤ y.d ∧ x.p ≤ y.p
theorem sumF_sub {l : List Ft} : ∀ {g h : Ft → Nat}, (∀ y, Le y (tot l) → g y = h y) → sumF l g = sumF l h := by
  induction l with
  | nil => intro g h e; exact e Ft.zero ⟨Nat.le_refl _, Nat.le_refl _, Nat.le_refl _, Nat.le_refl _, Nat.le_refl _⟩
  | cons x l ih =>
    intro g h e
    show sumF l g + sumF l _ = sumF l h + sumF l _
    have e1 : sumF l g = sumF l h := ih fun y hy => e y (by
      obtain ⟨h1, h2, h3, h4, h5⟩ := hy
      refine ⟨?_, ?_, ?_, ?_, ?_⟩ <;> simp only [tot, Ft.add] <;> omega)
    have e2 : sumF l (fun y => g (x.add y)) = sumF l (fun y => h (x.add y)) := ih fun y hy => e _ (by
      obtain ⟨h1, h2, h3, h4, h5⟩ := hy
      refine ⟨?_, ?_, ?_, ?_, ?_⟩ <;> simp only [tot, Ft.add] <;> omega)
    rw [e1, e2]
theorem tot_append (l m : List Ft) : tot (l ++ m) = (tot l).add (tot m) := by
  induction l with
  | nil => simp [tot, Ft.zero_add]
  | cons x l ih => simp only [List.cons_append, tot, ih, Ft.add_assoc]
def sumL (l : List Nat) : Nat := (l.map ptC).sum
theorem tot_suit (s : Nat) (l : List Nat) : tot (l.map (ftC s)) = ftn s l.length (sumL l) := by
  induction l with
  | nil => simp [tot, ftn, sumL, Ft.zero]
  | cons i l ih =>
    simp only [List.map_cons, tot, ih]
    rw [ftC, ftn_add]
    simp [sumL, Nat.add_comm]
theorem sum_filter (p : Nat → Bool) (l : List Nat) : sumL (l.filter p) ≤ sumL l := by
  induction l with
  | nil => exact Nat.le_refl _
  | cons i l ih =>
    rw [List.filter_cons]
    split
    · simp only [sumL, List.map_cons, List.sum_cons] at *; omega
    · simp only [sumL, List.map_cons, List.sum_cons] at *; omega
theorem sum_rks (x : Nat) : sumL (rksOf x) ≤ 10 := Nat.le_trans (sum_filter _ _) (by decide)
theorem tot_deck (L : Nat) : Le (tot (deck L)) ⟨13, 13, 13, 13, 40⟩ := by
  have h0 := rks_len (scards L 0)
  have h1 := rks_len (scards L 1)
  have h2 := rks_len (scards L 2)
  have h3 := rks_len (scards L 3)
  have p0 := sum_rks (scards L 0)
  have p1 := sum_rks (scards L 1)
  have p2 := sum_rks (scards L 2)
  have p3 := sum_rks (scards L 3)
  unfold deck
  rw [tot_append, tot_append, tot_append, tot_suit, tot_suit, tot_suit, tot_suit]
  refine ⟨?_, ?_, ?_, ?_, ?_⟩ <;> simp only [Ft.add, ftn] <;> (try simp) <;> omega
theorem Le.trans {x y z : Ft} (h : Le x y) (k : Le y z) : Le x z := by
  obtain ⟨a1, a2, a3, a4, a5⟩ := h
  obtain ⟨b1, b2, b3, b4, b5⟩ := k
  exact ⟨by omega, by omega, by omega, by omega, by omega⟩
/-- the sum over the deck's hands: with a card, and without it -/
theorem deck_split {L M c : Nat} (hc : c < 52) (hL : L.testBit c = true) (hM : ∀ j, M.testBit j = (L.testBit j && j != c)) (g : Ft → Nat) : sumF (deck L) g = sumF (deck M) g + sumF (deck M) (fun y => g ((ftOf c).add y)) := by
  rw [sumF_perm (deck_take hc hL hM) g]
  rfl
/-- all hands, but for the length of one suit -/
def rgS (k : Nat) (lo hi : Int) : Rg := ⟨0, 40, if k = 0 then lo else 0, if k = 0 then hi else 13, if k = 1 then lo else 0, if k = 1 then hi else 13, if k = 2 then lo else 0, if k = 2 then hi else 13, if k = 3 then lo else 0, if k = 3 then hi else 13⟩
theorem rgS_ok (k : Nat) (lo hi : Int) (h0 : 0 ≤ lo) (h1 : lo ≤ hi) (h2 : hi ≤ 13) : rightV [rgS k lo hi] = true := by
  have e : ∀ q : Prop, [Decidable q] → ordB (if q then lo else 0) (if q then hi else 13) 13 = true := by
    intro q _
    unfold ordB
    split <;> simp <;> omega
  simp only [rightV, List.all_cons, List.all_nil, Rg.ok, Rg.okTo, Rg.lo, Rg.hi, rgS]
  have e0 := e (k = 0)
  have e1 := e (k = 1)
  have e2 := e (k = 2)
  have e3 := e (k = 3)
  simp only [show ¬ (1 : Nat) = 0 by decide, show ¬ (2 : Nat) = 0 by decide, show ¬ (3 : Nat) = 0 by decide, show ¬ (2 : Nat) = 1 by decide, show ¬ (3 : Nat) = 1 by decide, show ¬ (3 : Nat) = 2 by decide, if_true, if_false, e0, e1, e2, e3]
  simp [ordB]
theorem fitS (k : Nat) (hk : k < 4) (lo hi : Int) (y : Ft) (hy : Le y ⟨13, 13, 13, 13, 40⟩) : fitP [rgS k lo hi] (lenF y) y.p = (decide (lo ≤ (lenF y k : Int)) && decide ((lenF y k : Int) ≤ hi)) := by
  obtain ⟨h0, h1, h2, h3, h4⟩ := hy
  simp only at h0 h1 h2 h3 h4
  rw [Bool.eq_iff_iff]
  have : k = 0 ∨ k = 1 ∨ k = 2 ∨ k = 3 := by omega
  rcases this with rfl | rfl | rfl | rfl
  all_goals
    simp only [fitP, List.any_cons, List.any_nil, Bool.or_false, Rg.long, Rg.longTo, Rg.lo, Rg.hi, rgS, wthn, lenF, Bool.and_eq_true, decide_eq_true_eq, Bool.true_and]
    simp
    omega
theorem without_law {L M c : Nat} (hc : c < 52) (hL : L.testBit c = true) (hM : ∀ j, M.testBit j = (L.testBit j && j != c)) (lo hi : Int) (h0 : 0 ≤ lo) (nn : Nat) :
    cntF (deck L) (nn + 1) (fitP [rgS (c / 13) lo hi]) = (if hi = 0 then 0 else cntF (deck M) nn (fitP [rgS (c / 13) (mx (lo - 1) 0) (hi - 1)])) + cntF (deck M) (nn + 1) (fitP [rgS (c / 13) lo hi]) := by
  have hle := tot_deck L
  have hp := deck_take hc hL hM
  unfold cntF
  rw [deck_split hc hL hM, Nat.add_comm]
  congr 1
  have ht : tot (deck L) = (ftOf c).add (tot (deck M)) := by
    have : ∀ {l m : List Ft}, l.Perm m → tot l = tot m := by
      intro l m h
      induction h with
      | nil => rfl
      | cons x _ ih => simp only [tot, ih]
      | swap x y l => simp only [tot]; rw [Ft.add_left]
      | trans _ _ ih1 ih2 => exact ih1.trans ih2
    exact this hp
  have hs : ∀ y, ((ftOf c).add y).size = y.size + 1 := fun y => by
    rw [Ft.size_add, Nat.add_comm]
    congr 1
    unfold ftOf ftC ftn Ft.size
    have : c / 13 = 0 ∨ c / 13 = 1 ∨ c / 13 = 2 ∨ c / 13 = 3 := by omega
    rcases this with h | h | h | h <;> simp [h]
  have hl : ∀ y, lenF ((ftOf c).add y) (c / 13) = lenF y (c / 13) + 1 := fun y => by
    unfold ftOf ftC ftn Ft.add lenF
    have : c / 13 = 0 ∨ c / 13 = 1 ∨ c / 13 = 2 ∨ c / 13 = 3 := by omega
    rcases this with h | h | h | h <;> simp [h, Nat.add_comm]
  have hb : ∀ y, Le y (tot (deck M)) → Le ((ftOf c).add y) ⟨13, 13, 13, 13, 40⟩ := fun y hy => Le.trans (by
    rw [ht]
    obtain ⟨a1, a2, a3, a4, a5⟩ := hy
    refine ⟨?_, ?_, ?_, ?_, ?_⟩ <;> simp only [Ft.add] <;> omega) hle
  by_cases hz : hi = 0
  · rw [if_pos hz, sumF_sub (h := fun _ => 0), sumF_zero]
    intro y hy
    rw [fitS _ (by omega) _ _ _ (hb y hy), hl]
    split
    · rw [if_neg]
      simp
      omega
    · rfl
  · rw [if_neg hz]
    refine sumF_sub fun y hy => ?_
    rw [hs, fitS _ (by omega) _ _ _ (hb y hy), fitS _ (by omega) _ _ _ (Le.trans hy (tot_deck M)), hl]
    by_cases hn : y.size = nn
    · rw [if_pos (by omega), if_pos hn]
      congr 1
      rw [eq_iff_iff, Bool.and_eq_true, Bool.and_eq_true, decide_eq_true_eq, decide_eq_true_eq, decide_eq_true_eq, decide_eq_true_eq]
      unfold mx
      split <;> omega
    · rw [if_neg (by omega), if_neg hn]
end Go.Proofs.Ytikdkhiehfccpaa

/- Plain: sums over the hands of a deck: their number, their points, by points and by lengths. -/
namespace Go.Proofs.Ytikdkhiehfccpaa
open Cnt

theorem sumN_app (a b : Nat) (g : Nat → Nat) : sumN (a + b) g = sumN a g + sumN b (fun i => g (a + i)) := by
  induction b with
  | zero => rfl
  | succ b ih => show sumN (a + b) g + g (a + b) = _; rw [ih]; simp only [sumN]; omega
theorem sum_range (n : Nat) (p : Nat → Bool) (F : Nat → Nat) : (((List.range n).filter p).map F).sum = sumN n (fun i => if p i then F i else 0) := by
  induction n with
  | zero => rfl
  | succ n ih =>
    rw [List.range_succ, List.filter_append, List.map_append, List.sum_append, ih]
    show _ = sumN n _ + _
    congr 1
    cases h : p n <;> simp [h]
theorem sum_ones (l : List Nat) : (l.map fun _ => 1).sum = l.length := by
  induction l with
  | nil => rfl
  | cons x l ih => simp only [List.map_cons, List.sum_cons, List.length_cons, ih]; omega
theorem cnt_sum (m : Nat) : ∀ k, cnt m k = sumN k (fun i => if m.testBit i then 1 else 0)
  | 0 => rfl
  | k + 1 => by
    show cnt m k + _ = sumN k _ + _
    rw [cnt_sum m k]
    cases h : m.testBit k <;> simp [h]
/-- a sum over the cards of a mask, suit by suit -/
theorem card_sum (L : Nat) (F : Nat → Nat) : sumN 52 (fun j => if L.testBit j then F j else 0) =
    ((rksOf (scards L 0)).map F).sum + (((rksOf (scards L 1)).map fun i => F (13 + i)).sum + (((rksOf (scards L 2)).map fun i => F (26 + i)).sum + ((rksOf (scards L 3)).map fun i => F (39 + i)).sum)) := by
  have e : ∀ (s : Nat) (G : Nat → Nat), ((rksOf (scards L s)).map G).sum = sumN 13 (fun i => if L.testBit (13 * s + i) then G i else 0) := fun s G => by
    unfold rksOf
    rw [sum_range]
    exact sumN_congr fun i hi => by rw [scards_bit _ _ _ hi]
  rw [e 0, e 1, e 2, e 3, show (52 : Nat) = 13 + (13 + (13 + 13)) from rfl, sumN_app, sumN_app, sumN_app]
  simp only [Nat.mul_zero, Nat.zero_add, Nat.mul_one]
  have e1 : ∀ i, 13 + (13 + i) = 26 + i := fun i => by omega
  have e2 : ∀ i, 13 + (26 + i) = 39 + i := fun i => by omega
  simp only [e1]
  simp only [e2]
theorem deck_pop {L : Nat} (h : L < 4503599627370496) : (deck L).length = pop L := by
  have h1 : pop L = sumN 52 (fun j => if L.testBit j then 1 else 0) := by
    unfold pop
    rw [show (64 : Nat) = 52 + 12 from rfl, cnt_add, show L >>> 52 = 0 by rw [Nat.shiftRight_eq_div_pow]; omega, cnt_nil, Nat.add_zero, cnt_sum]
  rw [h1, card_sum L (fun _ => 1)]
  unfold deck
  simp only [List.length_append, List.length_map, sum_ones]
/-- the points of all cards together -/
def PS (ds : List Ft) : Nat := (ds.map Ft.p).sum
theorem PS_deck (L : Nat) : PS (deck L) = sumN 52 (fun j => if L.testBit j then ptC (j % 13) else 0) := by
  rw [card_sum L (fun j => ptC (j % 13))]
  unfold PS deck
  simp only [List.map_append, List.sum_append, List.map_map]
  have e : ∀ (s x : Nat) (G : Nat → Nat), (∀ i, i < 13 → G i = ptC i) → ((rksOf x).map (Ft.p ∘ ftC s)).sum = ((rksOf x).map G).sum := fun s x G h => by
    congr 1
    refine List.map_congr_left fun i hi => ?_
    have : i < 13 := by unfold rksOf at hi; simp at hi; exact hi.1
    rw [h i this]
    rfl
  rw [e 0 _ (fun j => ptC (j % 13)) (fun i hi => by rw [Nat.mod_eq_of_lt hi]), e 1 _ (fun i => ptC ((13 + i) % 13)) (fun i hi => by rw [show (13 + i) % 13 = i by omega]), e 2 _ (fun i => ptC ((26 + i) % 13)) (fun i hi => by rw [show (26 + i) % 13 = i by omega]), e 3 _ (fun i => ptC ((39 + i) % 13)) (fun i hi => by rw [show (39 + i) % 13 = i by omega])]
/-- single cards alone -/
def Singles (ds : List Ft) : Prop := ∀ x ∈ ds, x.size = 1
theorem deck_singles (L : Nat) : Singles (deck L) := by
  intro x hx
  unfold deck at hx
  simp only [List.mem_append, List.mem_map] at hx
  rcases hx with ⟨i, _, rfl⟩ | ⟨i, _, rfl⟩ | ⟨i, _, rfl⟩ | ⟨i, _, rfl⟩ <;> rfl
theorem Singles.tail {x : Ft} {l : List Ft} (h : Singles (x :: l)) : Singles l := fun y hy => h y (List.mem_cons_of_mem _ hy)
theorem sum_all : ∀ (ds : List Ft), Singles ds → ∀ n, sumF ds (fun x => if x.size = n then 1 else 0) = chs ds.length n
  | [], _, 0 => rfl
  | [], _, n + 1 => rfl
  | x :: l, h, 0 => by
    show sumF l _ + sumF l _ = _
    rw [sum_all l h.tail 0, sumF_congr (g := fun y => if (x.add y).size = 0 then 1 else 0) (h := fun _ => 0), sumF_zero, chs_zero, chs_zero]
    intro y
    rw [if_neg]
    rw [Ft.size_add, h x (List.mem_cons_self ..)]
    omega
  | x :: l, h, n + 1 => by
    show sumF l _ + sumF l _ = _
    rw [sum_all l h.tail (n + 1), sumF_congr (g := fun y => if (x.add y).size = n + 1 then 1 else 0) (h := fun y => if y.size = n then 1 else 0), sum_all l h.tail n, List.length_cons, chs_succ, Nat.add_comm]
    intro y
    rw [Ft.size_add, h x (List.mem_cons_self ..)]
    by_cases e : y.size = n
    · rw [if_pos e, if_pos (by omega)]
    · rw [if_neg e, if_neg (by omega)]
theorem sum_pts0 : ∀ (ds : List Ft), Singles ds → sumF ds (fun x => if x.size = 0 then x.p else 0) = 0
  | [], _ => rfl
  | x :: l, h => by
    show sumF l _ + sumF l _ = _
    rw [sum_pts0 l h.tail, sumF_congr (g := fun y => if (x.add y).size = 0 then (x.add y).p else 0) (h := fun _ => 0), sumF_zero]
    intro y
    rw [if_neg]
    rw [Ft.size_add, h x (List.mem_cons_self ..)]
    omega
theorem sum_pts : ∀ (ds : List Ft), Singles ds → ∀ n, sumF ds (fun x => if x.size = n + 1 then x.p else 0) = PS ds * chs (ds.length - 1) n
  | [], _, n => by simp [sumF, PS, Ft.zero, Ft.size]
  | x :: l, h, n => by
    show sumF l _ + sumF l _ = _
    have hx := h x (List.mem_cons_self ..)
    rw [sum_pts l h.tail n, sumF_congr (g := fun y => if (x.add y).size = n + 1 then (x.add y).p else 0) (h := fun y => x.p * (if y.size = n then 1 else 0) + (if y.size = n then y.p else 0)) (fun y => by
      rw [Ft.size_add, hx]
      by_cases e : y.size = n
      · rw [if_pos e, if_pos (by omega), if_pos e, Nat.mul_one]; rfl
      · rw [if_neg e, if_neg (by omega), if_neg e, Nat.mul_zero]), sumF_add, sumF_mul, sum_all l h.tail n]
    have hP : PS (x :: l) = x.p + PS l := rfl
    rw [hP, List.length_cons, Nat.add_sub_cancel, Nat.add_mul]
    cases n with
    | zero =>
      rw [sum_pts0 l h.tail, chs_zero, chs_zero]
      omega
    | succ k =>
      rw [sum_pts l h.tail k]
      cases l with
      | nil => simp [PS]
      | cons y l =>
        rw [List.length_cons, Nat.add_sub_cancel, chs_succ l.length k]
        simp only [Nat.mul_add]
        omega
/-- all hands fit the range of all -/
theorem fit_all (y : Ft) (hy : Le y ⟨13, 13, 13, 13, 40⟩) : fitP [rgAll] (lenF y) y.p = true := by
  have := fitS 0 (by decide) 0 13 y hy
  have e : rgS 0 0 13 = rgAll := rfl
  rw [e] at this
  rw [this]
  have h0 : y.a ≤ 13 := hy.1
  simp only [lenF]
  simp
  omega
theorem cnt_all (L n : Nat) : cntF (deck L) n (fitP [rgAll]) = chs (deck L).length n := by
  rw [← sum_all (deck L) (deck_singles L) n]
  unfold cntF
  refine sumF_sub fun y hy => ?_
  rw [fit_all y (Le.trans hy (tot_deck L)), if_pos rfl]
/-- the hands that fit, by points -/
def spV (L n : Nat) (ra : List Rg) (k : Nat) : Nat := cntF (deck L) n (fun l p => fitP ra l p && decide (p = k))
/-- the hands that fit, by the length of a suit -/
def lnV (L n : Nat) (ra : List Rg) (s k : Nat) : Nat := cntF (deck L) n (fun l p => fitP ra l p && decide (l s = k))
theorem pick_one (N k : Nat) (hk : k < N) (q : Bool) : sumN N (fun i => if (q && decide (k = i)) = true then 1 else 0) = if q = true then 1 else 0 := by
  cases q
  · simp only [Bool.false_and]
    exact sumN_zero N
  · simp only [Bool.true_and, decide_eq_true_eq]
    rw [sumN_congr (h := fun i => if i = k then 1 else 0) (fun i _ => by simp only [eq_comm]), sumN_pick, if_pos hk]
    simp
theorem sp_sum (L n : Nat) (ra : List Rg) : sumN 41 (spV L n ra) = cntF (deck L) n (fitP ra) := by
  unfold spV cntF
  rw [sumN_sumF]
  refine sumF_sub fun y hy => ?_
  have hp : y.p < 41 := by have := (Le.trans hy (tot_deck L)).2.2.2.2; simp at this; omega
  by_cases e : y.size = n
  · simp only [if_pos e]
    exact pick_one 41 y.p hp _
  · simp only [if_neg e]
    exact sumN_zero 41
theorem ln_sum (L n : Nat) (ra : List Rg) (s : Nat) : sumN 14 (lnV L n ra s) = cntF (deck L) n (fitP ra) := by
  unfold lnV cntF
  rw [sumN_sumF]
  refine sumF_sub fun y hy => ?_
  have hp : lenF y s < 14 := by
    obtain ⟨h1, h2, h3, h4, h5⟩ := Le.trans hy (tot_deck L)
    simp at h1 h2 h3 h4
    unfold lenF
    split
    · omega
    · split
      · omega
      · split
        · omega
        · split <;> omega
  by_cases e : y.size = n
  · simp only [if_pos e]
    exact pick_one 14 _ hp _
  · simp only [if_neg e]
    exact sumN_zero 14
/-- the points of all hands -/
theorem sp_points (L n : Nat) : sumN 41 (fun k => k * spV L (n + 1) [rgAll] k) = PS (deck L) * chs ((deck L).length - 1) n := by
  rw [← sum_pts (deck L) (deck_singles L) n]
  unfold spV cntF
  rw [sumN_congr (h := fun k => sumF (deck L) (fun x => k * (if x.size = n + 1 then (if (fitP [rgAll] (lenF x) x.p && decide (x.p = k)) = true then 1 else 0) else 0))) (fun k _ => (sumF_mul _ _ _).symm), sumN_sumF]
  refine sumF_sub fun y hy => ?_
  have hp : y.p < 41 := by have := (Le.trans hy (tot_deck L)).2.2.2.2; simp at this; omega
  rw [fit_all y (Le.trans hy (tot_deck L))]
  by_cases e : y.size = n + 1
  · simp only [if_pos e, Bool.true_and, decide_eq_true_eq]
    rw [sumN_congr (h := fun i => if i = y.p then i else 0) (fun i _ => by
      by_cases e2 : i = y.p
      · rw [if_pos e2, if_pos e2.symm, Nat.mul_one]
      · rw [if_neg e2, if_neg (fun h => e2 h.symm), Nat.mul_zero]), sumN_pick, if_pos hp]
  · simp only [if_neg e, Nat.mul_zero]
    exact sumN_zero 41
end Go.Proofs.Ytikdkhiehfccpaa
