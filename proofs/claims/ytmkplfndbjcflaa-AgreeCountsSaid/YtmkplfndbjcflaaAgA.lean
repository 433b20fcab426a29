/- Contracts of package agree over this seat's program: within, ordered, cards, legal, points. -/
import Derived.Test.YtmkplfndbjcflaaProg
import Derived.Test.YtmkplfndbjcflaaMOnes
namespace Go.Proofs.Ytmkplfndbjcflaa
open Go.RowKit

/-- a pair of integers as a value -/
abbrev pr (x y : Int) : Value := .agg #[.int .i64 x, .int .i64 y]
/-- agree.within -/
def wthn (n x y : Int) : Bool := decide (x ≤ n) && decide (n ≤ y)
/-- agree.ordered -/
def ordB (x y g : Int) : Bool := decide (0 ≤ x) && decide (x ≤ y) && decide (y ≤ g)

theorem ag_within (n x y : Int) (w : World) : Calls Try.prog 51 #[.int .i64 n, pr x y] w fun e w' => e = .returned (.bool (wthn n x y)) ∧ Below w.heap.size w w' := by
  by_cases h1 : x ≤ n <;> by_cases h2 : n ≤ y
  all_goals
    simp only [wthn, h1, h2]
    go_enter Try.func51, Try.ntmps51
    go_wp2
    go_ret
    exact ⟨rfl, ((Below.refl _ _).alloc (Nat.le_refl _) _)⟩

theorem ag_ordered (x y g : Int) (w : World) : Calls Try.prog 61 #[pr x y, .int .i64 g] w fun e w' => e = .returned (.bool (ordB x y g)) ∧ Below w.heap.size w w' := by
  by_cases h1 : 0 ≤ x <;> by_cases h2 : x ≤ y <;> by_cases h3 : y ≤ g
  all_goals
    simp only [ordB, h1, h2, h3]
    go_enter Try.func61, Try.ntmps61
    go_wp2
    go_ret
    exact ⟨rfl, ((Below.refl _ _).alloc (Nat.le_refl _) _)⟩

/-- the cards of a suit -/
def scards (h s : Nat) : Nat := land (shr h (13 * s)) 8191
theorem scards_lt (h s : Nat) : scards h s < 8192 := by
  unfold scards land
  exact Nat.lt_of_le_of_lt Nat.and_le_right (by decide)
theorem ag_cards (h s : Nat) (hh : W64 h) (hs : s < 4) (w : World) : Calls Try.prog 50 #[.int .u64 (h : Int), .int .i64 (s : Int)] w fun e w' => e = .returned (.int .u64 ((scards h s : Nat) : Int)) ∧ w = w' := by
  have e1 : wrap64 (13 * (s : Int)) = ((13 * s : Nat) : Int) := by rw [IntWalk.wrap64_in _ (by omega)]; omega
  have e3 : (h : Int) / 2 ^ (13 * s) = ((shr h (13 * s) : Nat) : Int) := by
    unfold shr
    rw [Nat.shiftRight_eq_div_pow]
    simp
  go_enter Try.func50, Try.ntmps50
  go_wp2
  go_ret
  refine ⟨?_, rfl⟩
  rw [e3, show (8191 : Int) = ((8191 : Nat) : Int) from rfl, bits_and_nat _ _ hh.shr (by unfold W64; decide)]
  rfl

/-- agree.legal -/
def legalB (h : Nat) (n : Int) : Bool := decide (0 ≤ n) && decide (n ≤ 13) && decide (h < 4503599627370496)
theorem ag_legal (h : Nat) (n : Int) (w : World) : Calls Try.prog 40 #[.int .u64 (h : Int), .int .i64 n] w fun e w' => e = .returned (.bool (legalB h n)) ∧ w = w' := by
  have e1 : ((h : Int) / 4503599627370496 == 0) = decide (h < 4503599627370496) := by
    rw [Bool.eq_iff_iff]
    simp
    omega
  unfold legalB
  by_cases h1 : 0 ≤ n <;> by_cases h2 : n ≤ 13
  all_goals
    simp only [h1, h2]
    go_enter Try.func40, Try.ntmps40
    go_wp2
    go_ret
    exact ⟨by simp, rfl⟩
end Go.Proofs.Ytmkplfndbjcflaa
