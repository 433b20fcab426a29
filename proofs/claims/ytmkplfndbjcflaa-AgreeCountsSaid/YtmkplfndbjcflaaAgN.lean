/- Plain: what the cells of the iterator add up to is the sum over all hands. -/
import Derived.Test.YtmkplfndbjcflaaAgM
namespace Go.Proofs.Ytmkplfndbjcflaa
open Cnt

/-- binomials -/
def chs : Nat → Nat → Nat
  | _, 0 => 1
  | 0, _ + 1 => 0
  | n + 1, k + 1 => chs n k + chs n (k + 1)
theorem chs_zero (n : Nat) : chs n 0 = 1 := by cases n <;> rfl
theorem chs_succ (n k : Nat) : chs (n + 1) (k + 1) = chs n k + chs n (k + 1) := rfl
theorem chs_big : ∀ n k, n < k → chs n k = 0
  | 0, k + 1, _ => rfl
  | n + 1, k + 1, h => by rw [chs_succ, chs_big n k (by omega), chs_big n (k + 1) (by omega)]
theorem chs_mul : ∀ n k, chs n (k + 1) * (k + 1) = chs n k * (n - k)
  | 0, k => by show 0 * _ = _; rw [Nat.zero_sub, Nat.mul_zero, Nat.zero_mul]
  | n + 1, 0 => by
    have := chs_mul n 0
    rw [chs_succ, chs_zero, chs_zero]
    rw [chs_zero] at this
    omega
  | n + 1, k + 1 => by
    have h1 := chs_mul n k
    have h2 := chs_mul n (k + 1)
    rw [chs_succ n (k + 1), chs_succ n k]
    by_cases h : k ≤ n
    · by_cases h3 : k + 1 ≤ n
      · obtain ⟨d, rfl⟩ : ∃ d, n = k + 1 + d := ⟨n - (k + 1), by omega⟩
        rw [show k + 1 + d - k = d + 1 by omega] at h1
        rw [show k + 1 + d - (k + 1) = d by omega] at h2
        rw [show k + 1 + d + 1 - (k + 1) = d + 1 by omega]
        generalize chs (k + 1 + d) (k + 1) = x at *
        generalize chs (k + 1 + d) (k + 1 + 1) = y at *
        generalize chs (k + 1 + d) k = z at *
        simp only [Nat.mul_add, Nat.add_mul, Nat.mul_one] at *
        omega
      · obtain rfl : n = k := by omega
        rw [chs_big n (n + 1) (by omega), chs_big n (n + 1 + 1) (by omega)]
        simp
    · rw [chs_big n (k + 1) (by omega), chs_big n (k + 1 + 1) (by omega), chs_big n k (by omega)]
      simp
theorem way_chs (n : Nat) : ∀ j, way n j = chs n j
  | 0 => (chs_zero n).symm
  | j + 1 => by
    show way n j * (n - j) / (j + 1) = _
    rw [way_chs n j, ← chs_mul, Nat.mul_div_cancel _ (by omega)]

/-- the sum over the holdings out of the points of some cards -/
def sumS : List Nat → (Nat → Nat → Nat) → Nat
  | [], g => g 0 0
  | x :: l, g => sumS l g + sumS l (fun n p => g (n + 1) (x + p))
theorem sumS_congr {l : List Nat} {g h : Nat → Nat → Nat} (e : ∀ n p, g n p = h n p) : sumS l g = sumS l h := by
  have : g = h := by funext n p; exact e n p
  rw [this]
theorem sumS_add (l : List Nat) (g h : Nat → Nat → Nat) : sumS l (fun n p => g n p + h n p) = sumS l g + sumS l h := by
  induction l generalizing g h with
  | nil => rfl
  | cons x l ih => simp only [sumS, ih]; omega
theorem sumS_mul (l : List Nat) (k : Nat) (g : Nat → Nat → Nat) : sumS l (fun n p => k * g n p) = k * sumS l g := by
  induction l generalizing g with
  | nil => rfl
  | cons x l ih => simp only [sumS, ih, Nat.mul_add]
theorem sumS_zero (l : List Nat) : sumS l (fun _ _ => 0) = 0 := by
  induction l with
  | nil => rfl
  | cons x l ih => simp only [sumS, ih]
theorem sumS_append (l m : List Nat) (g : Nat → Nat → Nat) : sumS (l ++ m) g = sumS l (fun n p => sumS m (fun n' p' => g (n + n') (p + p'))) := by
  induction l generalizing g with
  | nil => simp only [List.nil_append, sumS, Nat.zero_add]
  | cons x l ih =>
    simp only [List.cons_append, sumS, ih]
    congr 1
    refine sumS_congr fun n p => sumS_congr fun n' p' => ?_
    rw [Nat.add_right_comm, Nat.add_assoc x]
theorem sumS_sumN (l : List Nat) (N : Nat) (g : Nat → Nat → Nat → Nat) : sumS l (fun n p => sumN N (fun i => g i n p)) = sumN N (fun i => sumS l (g i)) := by
  induction N with
  | zero => simp only [sumN, sumS_zero]
  | succ N ih => simp only [sumN, sumS_add, ih]
/-- cards without points -/
theorem sumS_low : ∀ (k : Nat) (g : Nat → Nat → Nat), sumS (List.replicate k 0) g = sumN (k + 1) (fun j => chs k j * g j 0)
  | 0, g => by simp [sumS, sumN, chs]
  | k + 1, g => by
    rw [List.replicate_succ]
    show sumS _ g + sumS _ (fun n p => g (n + 1) (0 + p)) = _
    rw [sumS_low k, sumS_low k]
    have shift : ∀ (N : Nat) (h : Nat → Nat), sumN (N + 1) h = h 0 + sumN N (fun i => h (i + 1)) := by
      intro N h
      induction N with
      | zero => simp [sumN]
      | succ N ih => rw [show sumN (N + 1 + 1) h = sumN (N + 1) h + h (N + 1) from rfl, ih]; show _ = h 0 + (sumN N (fun i => h (i + 1)) + h (N + 1)); omega
    rw [shift (k + 1), shift k]
    have e : sumN (k + 1) (fun i => chs (k + 1) (i + 1) * g (i + 1) 0) = sumN (k + 1) (fun i => chs k i * g (i + 1) 0) + sumN (k + 1) (fun i => chs k (i + 1) * g (i + 1) 0) := by
      rw [← sumN_add]
      exact sumN_congr fun i _ => by rw [chs_succ, Nat.add_mul]
    have e2 : sumN (k + 1) (fun i => chs k (i + 1) * g (i + 1) 0) = sumN k (fun i => chs k (i + 1) * g (i + 1) 0) := by
      show sumN k _ + chs k (k + 1) * _ = _
      rw [chs_big k (k + 1) (by omega), Nat.zero_mul, Nat.add_zero]
    rw [e, e2, chs_zero, chs_zero]
    simp only [Nat.zero_add]
    omega
/-- the points of the honours of a suit -/
def honL (h : Nat) : List Nat := (if h.testBit 0 then [1] else []) ++ (if h.testBit 1 then [2] else []) ++ (if h.testBit 2 then [3] else []) ++ (if h.testBit 3 then [4] else [])
theorem spot_dec : ∀ s : Fin 16, ptS (s.val * 512) < 11 := by decide +kernel
/-- numbers of what a set of honours holds -/
def popS : Nat → Nat := fun s => [0, 1, 1, 2, 1, 2, 2, 3, 1, 2, 2, 3, 2, 3, 3, 4].getD s 0
def ptsS : Nat → Nat := fun s => [0, 1, 2, 3, 3, 4, 5, 6, 4, 5, 6, 7, 7, 8, 9, 10].getD s 0
theorem popS_eq : ∀ s : Fin 16, pop s.val = popS s.val ∧ ptS (s.val * 512) = ptsS s.val := by decide +kernel
theorem hon_sum (h : Nat) (hh : h < 16) (g : Nat → Nat → Nat) : sumS (honL h) g = sumN 16 (fun s => if landn s h = 0 then g (pop s) (ptS (s * 512)) else 0) := by
  have e : sumN 16 (fun s => if landn s h = 0 then g (pop s) (ptS (s * 512)) else 0) = sumN 16 (fun s => if landn s h = 0 then g (popS s) (ptsS s) else 0) := sumN_congr fun s hs => by
    obtain ⟨h1, h2⟩ := popS_eq ⟨s, hs⟩
    simp only at h1 h2
    rw [h1, h2]
  rw [e]
  have hc : h = 0 ∨ h = 1 ∨ h = 2 ∨ h = 3 ∨ h = 4 ∨ h = 5 ∨ h = 6 ∨ h = 7 ∨ h = 8 ∨ h = 9 ∨ h = 10 ∨ h = 11 ∨ h = 12 ∨ h = 13 ∨ h = 14 ∨ h = 15 := by omega
  rcases hc with rfl | rfl | rfl | rfl | rfl | rfl | rfl | rfl | rfl | rfl | rfl | rfl | rfl | rfl | rfl | rfl
  all_goals
    simp only [sumN, honL, landn]
    simp [sumS, popS, ptsS, Nat.testBit]
    try omega
end Go.Proofs.Ytmkplfndbjcflaa
