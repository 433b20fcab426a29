/- Plain: sums over the hands of a deck: their number, their points, by points and by lengths. -/
import Derived.Test.YtmkplfndbjcflaaPlD
namespace Go.Proofs.Ytmkplfndbjcflaa
open Cnt

theorem sumN_app (a b : Nat) (g : Nat → Nat) : sumN (a + b) g = sumN a g + sumN b (fun i => g (a + i)) := by
  induction b with
  | zero => rfl
  | succ b ih => show sumN (a + b) g + g (a + b) = _; rw [ih]; simp only [sumN]; omega
theorem sum_range (n : Nat) (p : Nat → Bool) (F : Nat → Nat) : (((List.range n).filter p).map F).sum = sumN n (fun i => if p i then F i else 0) := by
  induction n with
  | zero => rfl
  | succ n ih =>
    rw [List.range_succ, List.filter_append, List.map_append, List.sum_append, ih]
    show _ = sumN n _ + _
    congr 1
    cases h : p n <;> simp [h]
theorem sum_ones (l : List Nat) : (l.map fun _ => 1).sum = l.length := by
  induction l with
  | nil => rfl
  | cons x l ih => simp only [List.map_cons, List.sum_cons, List.length_cons, ih]; omega
theorem cnt_sum (m : Nat) : ∀ k, cnt m k = sumN k (fun i => if m.testBit i then 1 else 0)
  | 0 => rfl
  | k + 1 => by
    show cnt m k + _ = sumN k _ + _
    rw [cnt_sum m k]
    cases h : m.testBit k <;> simp [h]
/-- a sum over the cards of a mask, suit by suit -/
theorem card_sum (L : Nat) (F : Nat → Nat) : sumN 52 (fun j => if L.testBit j then F j else 0) =
    ((rksOf (scards L 0)).map F).sum + (((rksOf (scards L 1)).map fun i => F (13 + i)).sum + (((rksOf (scards L 2)).map fun i => F (26 + i)).sum + ((rksOf (scards L 3)).map fun i => F (39 + i)).sum)) := by
  have e : ∀ (s : Nat) (G : Nat → Nat), ((rksOf (scards L s)).map G).sum = sumN 13 (fun i => if L.testBit (13 * s + i) then G i else 0) := fun s G => by
    unfold rksOf
    rw [sum_range]
    exact sumN_congr fun i hi => by rw [scards_bit _ _ _ hi]
  rw [e 0, e 1, e 2, e 3, show (52 : Nat) = 13 + (13 + (13 + 13)) from rfl, sumN_app, sumN_app, sumN_app]
  simp only [Nat.mul_zero, Nat.zero_add, Nat.mul_one]
  have e1 : ∀ i, 13 + (13 + i) = 26 + i := fun i => by omega
  have e2 : ∀ i, 13 + (26 + i) = 39 + i := fun i => by omega
  simp only [e1]
  simp only [e2]
theorem deck_pop {L : Nat} (h : L < 4503599627370496) : (deck L).length = pop L := by
  have h1 : pop L = sumN 52 (fun j => if L.testBit j then 1 else 0) := by
    unfold pop
    rw [show (64 : Nat) = 52 + 12 from rfl, cnt_add, show L >>> 52 = 0 by rw [Nat.shiftRight_eq_div_pow]; omega, cnt_nil, Nat.add_zero, cnt_sum]
  rw [h1, card_sum L (fun _ => 1)]
  unfold deck
  simp only [List.length_append, List.length_map, sum_ones]
/-- the points of all cards together -/
def PS (ds : List Ft) : Nat := (ds.map Ft.p).sum
theorem PS_deck (L : Nat) : PS (deck L) = sumN 52 (fun j => if L.testBit j then ptC (j % 13) else 0) := by
  rw [card_sum L (fun j => ptC (j % 13))]
  unfold PS deck
  simp only [List.map_append, List.sum_append, List.map_map]
  have e : ∀ (s x : Nat) (G : Nat → Nat), (∀ i, i < 13 → G i = ptC i) → ((rksOf x).map (Ft.p ∘ ftC s)).sum = ((rksOf x).map G).sum := fun s x G h => by
    congr 1
    refine List.map_congr_left fun i hi => ?_
    have : i < 13 := by unfold rksOf at hi; simp at hi; exact hi.1
    rw [h i this]
    rfl
  rw [e 0 _ (fun j => ptC (j % 13)) (fun i hi => by rw [Nat.mod_eq_of_lt hi]), e 1 _ (fun i => ptC ((13 + i) % 13)) (fun i hi => by rw [show (13 + i) % 13 = i by omega]), e 2 _ (fun i => ptC ((26 + i) % 13)) (fun i hi => by rw [show (26 + i) % 13 = i by omega]), e 3 _ (fun i => ptC ((39 + i) % 13)) (fun i hi => by rw [show (39 + i) % 13 = i by omega])]
/-- single cards alone -/
def Singles (ds : List Ft) : Prop := ∀ x ∈ ds, x.size = 1
theorem deck_singles (L : Nat) : Singles (deck L) := by
  intro x hx
  unfold deck at hx
  simp only [List.mem_append, List.mem_map] at hx
  rcases hx with ⟨i, _, rfl⟩ | ⟨i, _, rfl⟩ | ⟨i, _, rfl⟩ | ⟨i, _, rfl⟩ <;> rfl
theorem Singles.tail {x : Ft} {l : List Ft} (h : Singles (x :: l)) : Singles l := fun y hy => h y (List.mem_cons_of_mem _ hy)
theorem sum_all : ∀ (ds : List Ft), Singles ds → ∀ n, sumF ds (fun x => if x.size = n then 1 else 0) = chs ds.length n
  | [], _, 0 => rfl
  | [], _, n + 1 => rfl
  | x :: l, h, 0 => by
    show sumF l _ + sumF l _ = _
    rw [sum_all l h.tail 0, sumF_congr (g := fun y => if (x.add y).size = 0 then 1 else 0) (h := fun _ => 0), sumF_zero, chs_zero, chs_zero]
    intro y
    rw [if_neg]
    rw [Ft.size_add, h x (List.mem_cons_self ..)]
    omega
  | x :: l, h, n + 1 => by
    show sumF l _ + sumF l _ = _
    rw [sum_all l h.tail (n + 1), sumF_congr (g := fun y => if (x.add y).size = n + 1 then 1 else 0) (h := fun y => if y.size = n then 1 else 0), sum_all l h.tail n, List.length_cons, chs_succ, Nat.add_comm]
    intro y
    rw [Ft.size_add, h x (List.mem_cons_self ..)]
    by_cases e : y.size = n
    · rw [if_pos e, if_pos (by omega)]
    · rw [if_neg e, if_neg (by omega)]
theorem sum_pts0 : ∀ (ds : List Ft), Singles ds → sumF ds (fun x => if x.size = 0 then x.p else 0) = 0
  | [], _ => rfl
  | x :: l, h => by
    show sumF l _ + sumF l _ = _
    rw [sum_pts0 l h.tail, sumF_congr (g := fun y => if (x.add y).size = 0 then (x.add y).p else 0) (h := fun _ => 0), sumF_zero]
    intro y
    rw [if_neg]
    rw [Ft.size_add, h x (List.mem_cons_self ..)]
    omega
theorem sum_pts : ∀ (ds : List Ft), Singles ds → ∀ n, sumF ds (fun x => if x.size = n + 1 then x.p else 0) = PS ds * chs (ds.length - 1) n
  | [], _, n => by simp [sumF, PS, Ft.zero, Ft.size]
  | x :: l, h, n => by
    show sumF l _ + sumF l _ = _
    have hx := h x (List.mem_cons_self ..)
    rw [sum_pts l h.tail n, sumF_congr (g := fun y => if (x.add y).size = n + 1 then (x.add y).p else 0) (h := fun y => x.p * (if y.size = n then 1 else 0) + (if y.size = n then y.p else 0)) (fun y => by
      rw [Ft.size_add, hx]
      by_cases e : y.size = n
      · rw [if_pos e, if_pos (by omega), if_pos e, Nat.mul_one]; rfl
      · rw [if_neg e, if_neg (by omega), if_neg e, Nat.mul_zero]), sumF_add, sumF_mul, sum_all l h.tail n]
    have hP : PS (x :: l) = x.p + PS l := rfl
    rw [hP, List.length_cons, Nat.add_sub_cancel, Nat.add_mul]
    cases n with
    | zero =>
      rw [sum_pts0 l h.tail, chs_zero, chs_zero]
      omega
    | succ k =>
      rw [sum_pts l h.tail k]
      cases l with
      | nil => simp [PS]
      | cons y l =>
        rw [List.length_cons, Nat.add_sub_cancel, chs_succ l.length k]
        simp only [Nat.mul_add]
        omega
/-- all hands fit the range of all -/
theorem fit_all (y : Ft) (hy : Le y ⟨13, 13, 13, 13, 40⟩) : fitP [rgAll] (lenF y) y.p = true := by
  have := fitS 0 (by decide) 0 13 y hy
  have e : rgS 0 0 13 = rgAll := rfl
  rw [e] at this
  rw [this]
  have h0 : y.a ≤ 13 := hy.1
  simp only [lenF]
  simp
  omega
theorem cnt_all (L n : Nat) : cntF (deck L) n (fitP [rgAll]) = chs (deck L).length n := by
  rw [← sum_all (deck L) (deck_singles L) n]
  unfold cntF
  refine sumF_sub fun y hy => ?_
  rw [fit_all y (Le.trans hy (tot_deck L)), if_pos rfl]
/-- the hands that fit, by points -/
def spV (L n : Nat) (ra : List Rg) (k : Nat) : Nat := cntF (deck L) n (fun l p => fitP ra l p && decide (p = k))
/-- the hands that fit, by the length of a suit -/
def lnV (L n : Nat) (ra : List Rg) (s k : Nat) : Nat := cntF (deck L) n (fun l p => fitP ra l p && decide (l s = k))
theorem pick_one (N k : Nat) (hk : k < N) (q : Bool) : sumN N (fun i => if (q && decide (k = i)) = true then 1 else 0) = if q = true then 1 else 0 := by
  cases q
  · simp only [Bool.false_and]
    exact sumN_zero N
  · simp only [Bool.true_and, decide_eq_true_eq]
    rw [sumN_congr (h := fun i => if i = k then 1 else 0) (fun i _ => by simp only [eq_comm]), sumN_pick, if_pos hk]
    simp
theorem sp_sum (L n : Nat) (ra : List Rg) : sumN 41 (spV L n ra) = cntF (deck L) n (fitP ra) := by
  unfold spV cntF
  rw [sumN_sumF]
  refine sumF_sub fun y hy => ?_
  have hp : y.p < 41 := by have := (Le.trans hy (tot_deck L)).2.2.2.2; simp at this; omega
  by_cases e : y.size = n
  · simp only [if_pos e]
    exact pick_one 41 y.p hp _
  · simp only [if_neg e]
    exact sumN_zero 41
theorem ln_sum (L n : Nat) (ra : List Rg) (s : Nat) : sumN 14 (lnV L n ra s) = cntF (deck L) n (fitP ra) := by
  unfold lnV cntF
  rw [sumN_sumF]
  refine sumF_sub fun y hy => ?_
  have hp : lenF y s < 14 := by
    obtain ⟨h1, h2, h3, h4, h5⟩ := Le.trans hy (tot_deck L)
    simp at h1 h2 h3 h4
    unfold lenF
    split
    · omega
    · split
      · omega
      · split
        · omega
        · split <;> omega
  by_cases e : y.size = n
  · simp only [if_pos e]
    exact pick_one 14 _ hp _
  · simp only [if_neg e]
    exact sumN_zero 14
/-- the points of all hands -/
theorem sp_points (L n : Nat) : sumN 41 (fun k => k * spV L (n + 1) [rgAll] k) = PS (deck L) * chs ((deck L).length - 1) n := by
  rw [← sum_pts (deck L) (deck_singles L) n]
  unfold spV cntF
  rw [sumN_congr (h := fun k => sumF (deck L) (fun x => k * (if x.size = n + 1 then (if (fitP [rgAll] (lenF x) x.p && decide (x.p = k)) = true then 1 else 0) else 0))) (fun k _ => (sumF_mul _ _ _).symm), sumN_sumF]
  refine sumF_sub fun y hy => ?_
  have hp : y.p < 41 := by have := (Le.trans hy (tot_deck L)).2.2.2.2; simp at this; omega
  rw [fit_all y (Le.trans hy (tot_deck L))]
  by_cases e : y.size = n + 1
  · simp only [if_pos e, Bool.true_and, decide_eq_true_eq]
    rw [sumN_congr (h := fun i => if i = y.p then i else 0) (fun i _ => by
      by_cases e2 : i = y.p
      · rw [if_pos e2, if_pos e2.symm, Nat.mul_one]
      · rw [if_neg e2, if_neg (fun h => e2 h.symm), Nat.mul_zero]), sumN_pick, if_pos hp]
  · simp only [if_neg e, Nat.mul_zero]
    exact sumN_zero 41
end Go.Proofs.Ytmkplfndbjcflaa
