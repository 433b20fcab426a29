/- AgN, AgO in one text. -/
import Derived.Test.YtikdkhiehfccpaaMAgl

/- Plain: what the cells of the iterator add up to is the sum over all hands. -/
namespace Go.Proofs.Ytikdkhiehfccpaa
open Cnt

/-- binomials -/
def chs : Nat → Nat → Nat
  | _, 0 => 1
  | 0, _ + 1 => 0
  | n + 1, k + 1 => chs n k + chs n (k + 1)
theorem chs_zero (n : Nat) : chs n 0 = 1 := by cases n <;> rfl
theorem chs_succ (n k : Nat) : chs (n + 1) (k + 1) = chs n k + chs n (k + 1) := rfl
theorem chs_big : ∀ n k, n < k → chs n k = 0
  | 0, k + 1, _ => rfl
  | n + 1, k + 1, h => by rw [chs_succ, chs_big n k (by omega), chs_big n (k + 1) (by omega)]
theorem chs_mul : ∀ n k, chs n (k + 1) * (k + 1) = chs n k * (n - k)
  | 0, k => by show 0 * _ = _; rw [Nat.zero_sub, Nat.mul_zero, Nat.zero_mul]
  | n + 1, 0 => by
    have := chs_mul n 0
    rw [chs_succ, chs_zero, chs_zero]
    rw [chs_zero] at this
    omega
  | n + 1, k + 1 => by
    have h1 := chs_mul n k
    have h2 := chs_mul n (k + 1)
    rw [chs_succ n (k + 1), chs_succ n k]
    by_cases h : k ≤ n
    · by_cases h3 : k + 1 ≤ n
      · obtain ⟨d, rfl⟩ : ∃ d, n = k + 1 + d := ⟨n - (k + 1), by omega⟩
        rw [show k + 1 + d - k = d + 1 by omega] at h1
        rw [show k + 1 + d - (k + 1) = d by omega] at h2
        rw [show k + 1 + d + 1 - (k + 1) = d + 1 by omega]
        generalize chs (k + 1 + d) (k + 1) = x at *
        generalize chs (k + 1 + d) (k + 1 + 1) = y at *
        generalize chs (k + 1 + d) k = z at *
        simp only [Nat.mul_add, Nat.add_mul, Nat.mul_one] at *
        omega
      · obtain rfl : n = k := by omega
        rw [chs_big n (n + 1) (by omega), chs_big n (n + 1 + 1) (by omega)]
        simp
    · rw [chs_big n (k + 1) (by omega), chs_big n (k + 1 + 1) (by omega), chs_big n k (by omega)]
      simp
theorem way_chs (n : Nat) : ∀ j, way n j = chs n j
  | 0 => (chs_zero n).symm
  | j + 1 => by
    show way n j * (n - j) / (j + 1) = _
    rw [way_chs n j, ← chs_mul, Nat.mul_div_cancel _ (by omega)]

/-- the sum over the holdings out of the points of some cards -/
def sumS : List Nat → (Nat → Nat → Nat) → Nat
  | [], g => g 0 0
  | x :: l, g => sumS l g + sumS l (fun n p => g (n + 1) (x + p))
theorem sumS_congr {l : List Nat} {g h : Nat → Nat → Nat} (e : ∀ n p, g n p = h n p) : sumS l g = sumS l h := by
  have : g = h := by funext n p; exact e n p
  rw [this]
theorem sumS_add (l : List Nat) (g h : Nat → Nat → Nat) : sumS l (fun n p => g n p + h n p) = sumS l g + sumS l h := by
  induction l generalizing g h with
  | nil => rfl
  | cons x l ih => simp only [sumS, ih]; omega
theorem sumS_mul (l : List Nat) (k : Nat) (g : Nat → Nat → Nat) : sumS l (fun n p => k * g n p) = k * sumS l g := by
  induction l generalizing g with
  | nil => rfl
  | cons x l ih => simp only [sumS, ih, Nat.mul_add]
theorem sumS_zero (l : List Nat) : sumS l (fun _ _ => 0) = 0 := by
  induction l with
  | nil => rfl
  | cons x l ih => simp only [sumS, ih]
theorem sumS_append (l m : List Nat) (g : Nat → Nat → Nat) : sumS (l ++ m) g = sumS l (fun n p => sumS m (fun n' p' => g (n + n') (p + p'))) := by
  induction l generalizing g with
  | nil => simp only [List.nil_append, sumS, Nat.zero_add]
  | cons x l ih =>
    simp only [List.cons_append, sumS, ih]
    congr 1
    refine sumS_congr fun n p => sumS_congr fun n' p' => ?_
    rw [Nat.add_right_comm, Nat.add_assoc x]
theorem sumS_sumN (l : List Nat) (N : Nat) (g : Nat → Nat → Nat → Nat) : sumS l (fun n p => sumN N (fun i => g i n p)) = sumN N (fun i => sumS l (g i)) := by
  induction N with
  | zero => simp only [sumN, sumS_zero]
  | succ N ih => simp only [sumN, sumS_add, ih]
/-- cards without points -/
theorem sumS_low : ∀ (k : Nat) (g : Nat → Nat → Nat), sumS (List.replicate k 0) g = sumN (k + 1) (fun j => chs k j * g j 0)
  | 0, g => by simp [sumS, sumN, chs]
  | k + 1, g => by
    rw [List.replicate_succ]
    show sumS _ g + sumS _ (fun n p => g (n + 1) (0 + p)) = _
    rw [sumS_low k, sumS_low k]
    have shift : ∀ (N : Nat) (h : Nat → Nat), sumN (N + 1) h = h 0 + sumN N (fun i => h (i + 1)) := by
      intro N h
      induction N with
      | zero => simp [sumN]
      | succ N ih => rw [show sumN (N + 1 + 1) h = sumN (N + 1) h + h (N + 1) from rfl, ih]; show _ = h 0 + (sumN N (fun i => h (i + 1)) + h (N + 1)); omega
    rw [shift (k + 1), shift k]
    have e : sumN (k + 1) (fun i => chs (k + 1) (i + 1) * g (i + 1) 0) = sumN (k + 1) (fun i => chs k i * g (i + 1) 0) + sumN (k + 1) (fun i => chs k (i + 1) * g (i + 1) 0) := by
      rw [← sumN_add]
      exact sumN_congr fun i _ => by rw [chs_succ, Nat.add_mul]
    have e2 : sumN (k + 1) (fun i => chs k (i + 1) * g (i + 1) 0) = sumN k (fun i => chs k (i + 1) * g (i + 1) 0) := by
      show sumN k _ + chs k (k + 1) * _ = _
      rw [chs_big k (k + 1) (by omega), Nat.zero_mul, Nat.add_zero]
    rw [e, e2, chs_zero, chs_zero]
    simp only [Nat.zero_add]
    omega
/-- the points of the honours of a suit -/
def honL (h : Nat) : List Nat := (if h.testBit 0 then [1] else []) ++ (if h.testBit 1 then [2] else []) ++ (if h.testBit 2 then [3] else []) ++ (if h.testBit 3 then [4] else [])
theorem spot_dec : ∀ s : Fin 16, ptS (s.val * 512) < 11 := by decide +kernel
/-- numbers of what a set of honours holds -/
def popS : Nat → Nat := fun s => [0, 1, 1, 2, 1, 2, 2, 3, 1, 2, 2, 3, 2, 3, 3, 4].getD s 0
def ptsS : Nat → Nat := fun s => [0, 1, 2, 3, 3, 4, 5, 6, 4, 5, 6, 7, 7, 8, 9, 10].getD s 0
theorem popS_eq : ∀ s : Fin 16, pop s.val = popS s.val ∧ ptS (s.val * 512) = ptsS s.val := by decide +kernel
theorem hon_sum (h : Nat) (hh : h < 16) (g : Nat → Nat → Nat) : sumS (honL h) g = sumN 16 (fun s => if landn s h = 0 then g (pop s) (ptS (s * 512)) else 0) := by
  have e : sumN 16 (fun s => if landn s h = 0 then g (pop s) (ptS (s * 512)) else 0) = sumN 16 (fun s => if landn s h = 0 then g (popS s) (ptsS s) else 0) := sumN_congr fun s hs => by
    obtain ⟨h1, h2⟩ := popS_eq ⟨s, hs⟩
    simp only at h1 h2
    rw [h1, h2]
  rw [e]
  have hc : h = 0 ∨ h = 1 ∨ h = 2 ∨ h = 3 ∨ h = 4 ∨ h = 5 ∨ h = 6 ∨ h = 7 ∨ h = 8 ∨ h = 9 ∨ h = 10 ∨ h = 11 ∨ h = 12 ∨ h = 13 ∨ h = 14 ∨ h = 15 := by omega
  rcases hc with rfl | rfl | rfl | rfl | rfl | rfl | rfl | rfl | rfl | rfl | rfl | rfl | rfl | rfl | rfl | rfl
  all_goals
    simp only [sumN, honL, landn]
    simp [sumS, popS, ptsS, Nat.testBit]
    try omega
end Go.Proofs.Ytikdkhiehfccpaa

/- Plain: the table of a suit counts its holdings; the cells of the iterator add up to the sum over all hands. -/
namespace Go.Proofs.Ytikdkhiehfccpaa
open Cnt

theorem sumN_succ (n : Nat) (g : Nat → Nat) : sumN (n + 1) g = sumN n g + g n := rfl
/-- a table of a suit, weighed -/
def T2 (f : Nat → Nat) (g : Nat → Nat → Nat) : Nat := sumN 14 fun len => sumN 11 fun q => f (len * 11 + q) * g len q
theorem sumN_one {n k : Nat} (hk : k < n) (g : Nat → Nat) (h : ∀ i, i < n → i ≠ k → g i = 0) : sumN n g = g k := by
  have : sumN n g = sumN n (fun i => if i = k then g i else 0) := sumN_congr fun i hi => by
    by_cases e : i = k
    · rw [if_pos e]
    · rw [if_neg e, h i hi e]
  rw [this, sumN_pick, if_pos hk]
theorem T2_bump (f : Nat → Nat) (g : Nat → Nat → Nat) (len q v : Nat) (hl : len < 14) (hq : q < 11) : T2 (bump f (len * 11 + q) v) g = T2 f g + v * g len q := by
  have e : ∀ a b, a < 14 → b < 11 → bump f (len * 11 + q) v (a * 11 + b) * g a b = f (a * 11 + b) * g a b + if a = len then (if b = q then v * g len q else 0) else 0 := by
    intro a b ha hb
    unfold bump
    by_cases h1 : a = len
    · subst h1
      rw [if_pos rfl]
      by_cases h2 : b = q
      · subst h2
        rw [if_pos rfl, if_pos rfl, Nat.add_mul]
      · rw [if_neg (by omega), if_neg h2, Nat.add_zero]
    · rw [if_neg (by omega), if_neg h1, Nat.add_zero]
  unfold T2
  rw [sumN_congr (g := fun a => sumN 11 fun b => bump f (len * 11 + q) v (a * 11 + b) * g a b) (h := fun a => (sumN 11 fun b => f (a * 11 + b) * g a b) + if a = len then v * g len q else 0)]
  · rw [sumN_add, sumN_pick, if_pos hl]
  · intro a ha
    rw [sumN_congr (fun b hb => e a b ha hb), sumN_add]
    congr 1
    by_cases h1 : a = len
    · rw [if_pos h1]
      simp only [if_pos h1]
      rw [sumN_pick, if_pos hq]
    · rw [if_neg h1]
      simp only [if_neg h1]
      exact sumN_zero 11
theorem T2_zero (g : Nat → Nat → Nat) : T2 (fun _ => 0) g = 0 := by
  unfold T2
  have : ∀ a, (sumN 11 fun b => 0 * g a b) = 0 := fun a => by rw [sumN_congr (h := fun _ => 0) (fun b _ => Nat.zero_mul _), sumN_zero]
  rw [sumN_congr (fun a _ => this a), sumN_zero]
theorem T2_row (oth s : Nat) (f : Nat → Nat) (g : Nat → Nat → Nat) (hs : s < 16) (ho : oth ≤ 9) : ∀ j, j ≤ oth + 1 → T2 (holdRow oth s j f) g = T2 f g + sumN j (fun i => way oth i * g (pop s + i) (ptS (s * 512)))
  | 0, _ => by show T2 f g = _; rw [show sumN 0 _ = 0 from rfl, Nat.add_zero]
  | j + 1, hj => by
    obtain ⟨h1, h2, -⟩ := spot_lt (s := s) (j := j) hs (by omega)
    show T2 (bump (holdRow oth s j f) ((pop s + j) * 11 + ptS (s * 512)) (way oth j)) g = _
    rw [T2_bump _ _ _ _ _ h1 h2, T2_row oth s f g hs ho j (by omega)]
    simp only [sumN_succ]
    omega
theorem T2_to (hon oth : Nat) (g : Nat → Nat → Nat) (ho : oth ≤ 9) : ∀ s, s ≤ 16 → T2 (holdTo hon oth s) g = sumN s (fun s => if landn s hon = 0 then sumN (oth + 1) (fun i => way oth i * g (pop s + i) (ptS (s * 512))) else 0)
  | 0, _ => T2_zero g
  | s + 1, hs => by
    have ih := T2_to hon oth g ho s (by omega)
    show T2 (if landn s hon = 0 then holdRow oth s (oth + 1) (holdTo hon oth s) else holdTo hon oth s) g = _
    by_cases e : landn s hon = 0
    · rw [if_pos e, T2_row oth s _ g (by omega) ho (oth + 1) (Nat.le_refl _), ih]; simp only [sumN_succ, if_pos e]
    · rw [if_neg e, ih]; simp only [sumN_succ, if_neg e, Nat.add_zero]
/-- the points of the cards of a suit -/
def sufL (x : Nat) : List Nat := List.replicate (pop (land x 511)) 0 ++ honL (shr x 9)
theorem T2_hold (x : Nat) (hx : x < 8192) (g : Nat → Nat → Nat) : T2 (holdV x) g = sumS (sufL x) g := by
  have hh : shr x 9 < 16 := by unfold shr; rw [Nat.shiftRight_eq_div_pow]; omega
  unfold holdV sufL
  rw [T2_to _ _ _ (pop_low ⟨_, land_low x⟩) 16 (Nat.le_refl _), sumS_append, sumS_low]
  rw [show (fun j => chs (pop (land x 511)) j * sumS (honL (shr x 9)) (fun n' p' => g (j + n') (0 + p'))) = fun j => sumN 16 (fun s => chs (pop (land x 511)) j * if landn s (shr x 9) = 0 then g (j + pop s) (0 + ptS (s * 512)) else 0) from funext fun j => by rw [hon_sum _ hh, sumN_mul]]
  rw [sumN_swap]
  refine sumN_congr fun s _ => ?_
  split
  · refine sumN_congr fun j _ => ?_
    rw [way_chs, Nat.zero_add, Nat.add_comm j]
  · rw [sumN_congr (h := fun _ => 0) (fun j _ => Nat.mul_zero _), sumN_zero]

/-- a spread, weighed -/
def T1 (f h : Nat → Nat) : Nat := sumN 41 fun p => f p * h p
theorem T1_bump (f h : Nat → Nat) (i v : Nat) (hi : i < 41) : T1 (bump f i v) h = T1 f h + v * h i := by
  unfold T1
  rw [sumN_congr (g := fun p => bump f i v p * h p) (h := fun p => f p * h p + if p = i then v * h i else 0)]
  · rw [sumN_add, sumN_pick, if_pos hi]
  · intro p _
    unfold bump
    by_cases e : p = i
    · subst e; rw [if_pos rfl, if_pos rfl, Nat.add_mul]
    · rw [if_neg e, if_neg e, Nat.add_zero]
theorem T1_add (f g h : Nat → Nat) (k m : Nat) (a : Nat → Nat) (hr : ∀ q, q < m → f k * g q ≠ 0 → k + q < 41) : T1 (jAdd f g k m a) h = T1 a h + sumN m (fun q => f k * g q * h (k + q)) := by
  induction m with
  | zero => show T1 a h = _; rw [show sumN 0 _ = 0 from rfl, Nat.add_zero]
  | succ m ih =>
    have ih := ih fun q hq => hr q (by omega)
    show T1 (bump (jAdd f g k m a) (k + m) (f k * g m)) h = _
    simp only [sumN_succ]
    by_cases e : f k * g m = 0
    · rw [e, bump_zero, ih, Nat.zero_mul, Nat.add_zero]
    · rw [T1_bump _ _ _ _ (hr m (by omega) e), ih]; omega
theorem T1_jo (f g h : Nat → Nat) (hr : ∀ p q, q < 11 → f p ≠ 0 → p + q < 41) : ∀ k, T1 (jTo f g k) h = sumN k (fun p => sumN 11 (fun q => f p * g q * h (p + q)))
  | 0 => by show sumN 41 (fun p => 0 * h p) = 0; rw [sumN_congr (h := fun _ => 0) (fun b _ => Nat.zero_mul _), sumN_zero]
  | k + 1 => by
    show T1 (jAdd f g k 11 (jTo f g k)) h = sumN k _ + _
    rw [T1_add _ _ _ _ _ _ (fun q hq hn => hr k q hq (fun e => hn (by rw [e, Nat.zero_mul]))), T1_jo f g h hr k]
theorem sTo_no {f g : Nat → Nat} : ∀ {k}, sTo f g k = false → ∀ p q, p < k → q < 11 → f p * g q = 0
  | k + 1, h, p, q, hp, hq => by
    simp only [sTo, Bool.or_eq_false_iff, Bool.and_eq_false_iff] at h
    by_cases e : p = k
    · subst e
      rcases h.2 with h2 | h2
      · simp at h2; rw [h2, Nat.zero_mul]
      · have any : ∀ m, anyTo g m = false → ∀ q, q < m → g q = 0 := by
          intro m
          induction m with
          | zero => intro _ q hq; omega
          | succ m ih =>
            intro hm q hq
            simp only [anyTo, Bool.or_eq_false_iff] at hm
            by_cases e : q = m
            · subst e; simpa using hm.2
            · exact ih hm.1 q (by omega)
        rw [any 11 h2 q hq, Nat.mul_zero]
    · exact sTo_no h.1 p q (by omega) hq
/-- cells, weighed -/
def sumC (G : (Nat → Nat) → Nat → Nat) : List Cl → Nat
  | [] => 0
  | c :: cs => T1 c.2 (G c.1) + sumC G cs
theorem sumC_append (G : (Nat → Nat) → Nat → Nat) (xs ys : List Cl) : sumC G (xs ++ ys) = sumC G xs + sumC G ys := by
  induction xs with
  | nil => simp [sumC]
  | cons c cs ih => simp only [List.cons_append, sumC, ih]; omega
theorem sumC_listTo (G : (Nat → Nat) → Nat → Nat) (h : Nat → List Cl) : ∀ n, sumC G (listTo h n) = sumN n (fun i => sumC G (h i))
  | 0 => rfl
  | n + 1 => by show sumC G (listTo h n ++ h n) = _; rw [sumC_append, sumC_listTo G h n]; rfl
theorem allC_sumC (q : (Nat → Nat) → Nat → Bool) (cs : List Cl) : allC q cs = sumC (fun l p => if q l p then 1 else 0) cs := by
  induction cs with
  | nil => rfl
  | cons c cs ih =>
    show oneC q c + allC q cs = T1 c.2 _ + _
    rw [ih]
    congr 1
    unfold oneC T1
    exact sumN_congr fun p _ => by by_cases e : q c.1 p = true <;> simp [e]
/-- what is to come, by lengths -/
def Rr (hv : Nat → Nat) (G : (Nat → Nat) → Nat → Nat) : Nat → Nat → (Nat → Nat) → Nat → Nat
  | 0, _, l, p => G l p
  | d + 1, rest, l, p => sumN (min rest 13 + 1 - least d rest) (fun c => sumN 11 (fun q => suitRow hv (3 - d) (least d rest + c) q * Rr hv G d (rest - (least d rest + c)) (upd l (3 - d) (least d rest + c)) (p + q)))
theorem sumC_cells (hv : Nat → Nat) (G : (Nat → Nat) → Nat → Nat) (hg : ∀ i len, i < 4 → len ≤ 13 → sumN 11 (suitRow hv i len) ≤ 20160) : ∀ d i, i + d = 4 → ∀ rest, rest ≤ 13 → ∀ l f, Okf f i → sumC G (cells hv d rest l f) = T1 f (Rr hv G d rest l) := by
  intro d
  induction d with
  | zero => intro i _ rest _ l f _; show T1 f (G l) + 0 = _; rfl
  | succ d ih =>
    intro i hi rest hr l f hf
    have hid : 3 - d = i := by omega
    rw [cells_succ]
    unfold cellsTo
    rw [sumC_listTo]
    show _ = T1 f (fun p => sumN (min rest 13 + 1 - least d rest) _)
    unfold T1
    rw [show (fun p => f p * sumN (min rest 13 + 1 - least d rest) (fun c => sumN 11 (fun q => suitRow hv (3 - d) (least d rest + c) q * Rr hv G d (rest - (least d rest + c)) (upd l (3 - d) (least d rest + c)) (p + q)))) = fun p => sumN (min rest 13 + 1 - least d rest) (fun c => sumN 11 (fun q => f p * suitRow hv (3 - d) (least d rest + c) q * Rr hv G d (rest - (least d rest + c)) (upd l (3 - d) (least d rest + c)) (p + q))) from funext fun p => by
      rw [← sumN_mul]
      refine sumN_congr fun c _ => ?_
      rw [← sumN_mul]
      exact sumN_congr fun q _ => by rw [Nat.mul_assoc]]
    rw [sumN_swap]
    refine sumN_congr fun c hc => ?_
    have hlen : least d rest + c ≤ 13 := by omega
    generalize least d rest + c = len at *
    have hj := T1_jo f (suitRow hv (3 - d) len) (Rr hv G d (rest - len) (upd l (3 - d) len)) (fun p q hq hp => by rw [hid] at *; exact hf.room (by omega) p q hq hp) 41
    unfold cellsAt
    cases hs : sTo f (suitRow hv (3 - d) len) 41
    · rw [if_neg (by simp)]
      refine (Eq.symm ?_)
      rw [sumN_congr (h := fun _ => 0), sumN_zero]
      · rfl
      · intro p hp
        rw [sumN_congr (h := fun _ => 0), sumN_zero]
        intro q hq
        rw [sTo_no hs p q hp hq, Nat.zero_mul]
    · rw [if_pos rfl, ih (i + 1) (by omega) (rest - len) (by omega) _ _ (hf.step (by rw [hid]; exact hg i len (by omega) hlen)), hj]
end Go.Proofs.Ytikdkhiehfccpaa
