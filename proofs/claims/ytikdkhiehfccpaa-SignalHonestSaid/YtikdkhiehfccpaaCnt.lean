/- Plain: sums over the hands out of a list of cards; sums over places. No program in sight. -/
import Derived.LoopN
namespace Go.Proofs.Ytikdkhiehfccpaa.Cnt
/-- what is counted of a hand: the lengths of the four suits, and its points -/
structure Ft where
  a : Nat
  b : Nat
  c : Nat
  d : Nat
  p : Nat
deriving DecidableEq
namespace Ft
def add (x y : Ft) : Ft := ⟨x.a + y.a, x.b + y.b, x.c + y.c, x.d + y.d, x.p + y.p⟩
def zero : Ft := ⟨0, 0, 0, 0, 0⟩
def size (x : Ft) : Nat := x.a + x.b + x.c + x.d
theorem add_zero (x : Ft) : x.add zero = x := rfl
theorem zero_add (x : Ft) : zero.add x = x := by simp [add, zero]
theorem add_comm (x y : Ft) : x.add y = y.add x := by simp [add, Nat.add_comm]
theorem add_assoc (x y z : Ft) : (x.add y).add z = x.add (y.add z) := by simp [add, Nat.add_assoc]
theorem add_left (x y z : Ft) : x.add (y.add z) = y.add (x.add z) := by
  rw [← add_assoc, add_comm x y, add_assoc]
theorem size_add (x y : Ft) : (x.add y).size = x.size + y.size := by simp [add, size]; omega
end Ft
open Ft
/-- the sum of g over all hands out of a list of cards -/
def sumF : List Ft → (Ft → Nat) → Nat
  | [], g => g Ft.zero
  | x :: l, g => sumF l g + sumF l (fun y => g (x.add y))
theorem sumF_congr {l : List Ft} {g h : Ft → Nat} (e : ∀ x, g x = h x) : sumF l g = sumF l h := by
  have : g = h := funext e
  rw [this]
theorem sumF_add (l : List Ft) (g h : Ft → Nat) : sumF l (fun x => g x + h x) = sumF l g + sumF l h := by
  induction l generalizing g h with
  | nil => rfl
  | cons x l ih => simp only [sumF, ih]; omega
theorem sumF_mul (l : List Ft) (k : Nat) (g : Ft → Nat) : sumF l (fun x => k * g x) = k * sumF l g := by
  induction l generalizing g with
  | nil => rfl
  | cons x l ih => simp only [sumF, ih, Nat.mul_add]
theorem sumF_zero (l : List Ft) : sumF l (fun _ => 0) = 0 := by
  induction l with
  | nil => rfl
  | cons x l ih => simp only [sumF, ih]
theorem sumF_append (l m : List Ft) (g : Ft → Nat) : sumF (l ++ m) g = sumF l (fun x => sumF m (fun y => g (x.add y))) := by
  induction l generalizing g with
  | nil => simp only [List.nil_append, sumF, zero_add]
  | cons x l ih => simp only [List.cons_append, sumF, ih, add_assoc]
theorem sumF_swap (l m : List Ft) (g : Ft → Ft → Nat) : sumF l (fun x => sumF m (fun y => g x y)) = sumF m (fun y => sumF l (fun x => g x y)) := by
  induction l generalizing g with
  | nil => rfl
  | cons x l ih =>
    simp only [sumF]
    rw [ih, ih (fun y z => g (x.add y) z), ← sumF_add]
theorem sumF_perm {l m : List Ft} (h : l.Perm m) : ∀ g, sumF l g = sumF m g := by
  induction h with
  | nil => intro g; rfl
  | cons x h ih => intro g; simp only [sumF, ih]
  | swap x y l =>
    intro g
    simp only [sumF]
    have e : ∀ z, g (x.add (y.add z)) = g (y.add (x.add z)) := fun z => by rw [add_left]
    simp only [e]; omega
  | trans h k ih ik => intro g; rw [ih, ik]
theorem sumF_le {l : List Ft} {g h : Ft → Nat} (e : ∀ x, g x ≤ h x) : sumF l g ≤ sumF l h := by
  induction l generalizing g h with
  | nil => exact e _
  | cons x l ih => exact Nat.add_le_add (ih e) (ih fun y => e _)
theorem sumF_one (l : List Ft) : sumF l (fun _ => 1) = 2 ^ l.length := by
  induction l with
  | nil => rfl
  | cons x l ih => simp only [sumF, ih, List.length_cons, Nat.pow_succ]; omega
/-- a sum over 0 .. n - 1 -/
def sumN : Nat → (Nat → Nat) → Nat
  | 0, _ => 0
  | n + 1, g => sumN n g + g n
theorem sumN_congr {n : Nat} {g h : Nat → Nat} (e : ∀ i, i < n → g i = h i) : sumN n g = sumN n h := by
  induction n with
  | zero => rfl
  | succ n ih => simp only [sumN, ih (fun i hi => e i (by omega)), e n (by omega)]
theorem sumN_add (n : Nat) (g h : Nat → Nat) : sumN n (fun i => g i + h i) = sumN n g + sumN n h := by
  induction n with
  | zero => rfl
  | succ n ih => simp only [sumN, ih]; omega
theorem sumN_mul (n k : Nat) (g : Nat → Nat) : sumN n (fun i => k * g i) = k * sumN n g := by
  induction n with
  | zero => rfl
  | succ n ih => simp only [sumN, ih, Nat.mul_add]
theorem sumN_zero (n : Nat) : sumN n (fun _ => 0) = 0 := by
  induction n with
  | zero => rfl
  | succ n ih => simp only [sumN, ih]
theorem sumN_le {n : Nat} {g h : Nat → Nat} (e : ∀ i, i < n → g i ≤ h i) : sumN n g ≤ sumN n h := by
  induction n with
  | zero => exact Nat.le_refl _
  | succ n ih => exact Nat.add_le_add (ih fun i hi => e i (by omega)) (e n (by omega))
theorem sumN_swap (n m : Nat) (g : Nat → Nat → Nat) : sumN n (fun i => sumN m (fun j => g i j)) = sumN m (fun j => sumN n (fun i => g i j)) := by
  induction n with
  | zero => simp only [sumN, sumN_zero]
  | succ n ih => simp only [sumN, ih, sumN_add]
theorem sumN_pick (n k : Nat) (g : Nat → Nat) : sumN n (fun i => if i = k then g i else 0) = if k < n then g k else 0 := by
  induction n with
  | zero => simp [sumN]
  | succ n ih =>
    simp only [sumN, ih]
    by_cases h : n = k
    · subst h; simp
    · by_cases h2 : k < n
      · have : k < n + 1 := by omega
        simp [h, h2, this]
      · have : ¬ k < n + 1 := by omega
        simp [h, h2, this]
theorem sumN_sumF (n : Nat) (l : List Ft) (g : Nat → Ft → Nat) : sumN n (fun i => sumF l (g i)) = sumF l (fun x => sumN n (fun i => g i x)) := by
  induction n with
  | zero => simp only [sumN, sumF_zero]
  | succ n ih => simp only [sumN, ih, sumF_add]
theorem le_sumN {n k : Nat} (g : Nat → Nat) (h : k < n) : g k ≤ sumN n g := by
  induction n with
  | zero => omega
  | succ n ih =>
    simp only [sumN]
    by_cases e : k = n
    · subst e; omega
    · have := ih (by omega); omega
end Go.Proofs.Ytikdkhiehfccpaa.Cnt
