/- Contract of agree.joined over this seat's program. -/
import Derived.Test.YtmkplfndbjcflaaAgE
import Derived.Test.YtmkplfndbjcflaaCnt
namespace Go.Proofs.Ytmkplfndbjcflaa
open Go.RowKit Go.Sort Cnt

/-- a part of an array by value -/
theorem run_index_tab (t e : TypeId) (n k : Nat) (c : Array Value) (v : Value) (hu : Try.prog.underlying t = some (.array n e)) (hs : (Try.prog.info? e).map (·.size) = some 1) (ha : ∀ w : World, (isAgg e).run Try.prog w = .ok false w)
    (hk : k < n) (hv : c[k]? = some v) (w : World) : (Instr.index t (.agg c) (.int .i64 (k : Int))).run Try.prog w = .ok v w := by
  have hi : (0 : Int) ≤ (k : Int) ∧ (k : Int) < (n : Int) := by omega
  cases hq : Try.prog.info? e with
  | none => simp [hq] at hs
  | some i =>
    have hz : i.size = 1 := by simpa [hq] using hs
    have h1 : (k : Int).toNat = k := by simp
    simp only [Instr.index, asIntOf, Sem.run_bind, Sem.run_pure, Result.andThen_ok, run_underlying hu w]
    rw [if_pos hi]
    simp [sizeOf, typeInfo, hq, hz, part, ha, hv, h1]
theorem under83 : Try.prog.underlying 83 = some (.array 41 3) := by kernel_rfl
theorem under100 : Try.prog.underlying 100 = some (.array 11 3) := by kernel_rfl
theorem size83 : (Try.prog.info? 83).map (·.size) = some 41 := by kernel_rfl
theorem size100 : (Try.prog.info? 100).map (·.size) = some 11 := by kernel_rfl
theorem size3 : (Try.prog.info? 3).map (·.size) = some 1 := by kernel_rfl
theorem agg3 (w : World) : (isAgg 3).run Try.prog w = .ok false w := by
  have h : Try.prog.underlying 3 = some (.int .i64) := by kernel_rfl
  simp [isAgg, run_underlying h]
theorem zero83 : ∀ w : World, (zeroValue 83).run Try.prog w = .ok (.agg (tab 41 fun _ => 0)) w := by
  have h : (Try.prog.info? 83).map (fun i => (i.zero, i.size)) = some (some (.agg (tab 41 fun _ => 0)), 41) := by kernel_rfl
  cases hq : Try.prog.info? 83 with
  | none => simp [hq] at h
  | some i =>
    simp [hq] at h
    intro w
    simp [zeroValue, typeInfo, hq, h.1]

/-- the rounds over the points of one more suit -/
def jAdd (f g : Nat → Nat) (k : Nat) : Nat → (Nat → Nat) → Nat → Nat
  | 0, a => a
  | m + 1, a => bump (jAdd f g k m a) (k + m) (f k * g m)
/-- the rounds over the points so far -/
def jTo (f g : Nat → Nat) : Nat → Nat → Nat
  | 0 => fun _ => 0
  | k + 1 => jAdd f g k 11 (jTo f g k)
/-- whether one of the first is not zero -/
def anyTo (g : Nat → Nat) : Nat → Bool
  | 0 => false
  | m + 1 => anyTo g m || g m != 0
def sTo (f g : Nat → Nat) : Nat → Bool
  | 0 => false
  | k + 1 => sTo f g k || (f k != 0 && anyTo g 11)
theorem bump_zero (a : Nat → Nat) (i : Nat) : bump a i 0 = a := by
  funext j
  unfold bump
  split <;> simp_all
theorem sumN_bump (n : Nat) (a : Nat → Nat) (i v : Nat) : sumN n (bump a i v) ≤ sumN n a + v := by
  induction n with
  | zero => simp [sumN]
  | succ n ih =>
    simp only [sumN]
    by_cases h : n = i
    · subst h
      have : sumN n (bump a n v) = sumN n a := sumN_congr fun j hj => by unfold bump; rw [if_neg (by omega)]
      rw [this]
      simp [bump]
      omega
    · have e : bump a i v n = a n := by unfold bump; rw [if_neg h]
      rw [e]; omega
theorem sumN_mono {m n : Nat} (g : Nat → Nat) (h : m ≤ n) : sumN m g ≤ sumN n g := by
  induction n with
  | zero => obtain rfl : m = 0 := by omega
            exact Nat.le_refl _
  | succ n ih =>
    by_cases e : m = n + 1
    · subst e; exact Nat.le_refl _
    · have := ih (by omega)
      simp only [sumN]; omega
theorem jAdd_sum (N : Nat) (f g : Nat → Nat) (k : Nat) (a : Nat → Nat) : ∀ m, sumN N (jAdd f g k m a) ≤ sumN N a + f k * sumN m g
  | 0 => by show sumN N a ≤ _; omega
  | m + 1 => by
    have h1 := jAdd_sum N f g k a m
    have h2 := sumN_bump N (jAdd f g k m a) (k + m) (f k * g m)
    have h3 : f k * sumN (m + 1) g = f k * sumN m g + f k * g m := by rw [show sumN (m + 1) g = sumN m g + g m from rfl, Nat.mul_add]
    show sumN N (bump _ _ _) ≤ _
    omega
theorem jTo_sum (N : Nat) (f g : Nat → Nat) : ∀ k, sumN N (jTo f g k) ≤ sumN k f * sumN 11 g
  | 0 => by show sumN N (fun _ => 0) ≤ _; rw [sumN_zero]; exact Nat.zero_le _
  | k + 1 => by
    have h1 := jAdd_sum N f g k (jTo f g k) 11
    have h2 := jTo_sum N f g k
    have h3 : sumN (k + 1) f * sumN 11 g = sumN k f * sumN 11 g + f k * sumN 11 g := by rw [show sumN (k + 1) f = sumN k f + f k from rfl, Nat.add_mul]
    show sumN N (jAdd f g k 11 (jTo f g k)) ≤ _
    omega
theorem jAdd_at {N : Nat} {f g : Nat → Nat} {k m r : Nat} (hk : k < N) (hm : m < 11) (hr : r < N) : jAdd f g k m (jTo f g k) r + f k * g m ≤ sumN N f * sumN 11 g := by
  have h1 := jAdd_sum N f g k (jTo f g k) m
  have h2 := jTo_sum N f g k
  have h3 := le_sumN (jAdd f g k m (jTo f g k)) hr
  have h4 : sumN (m + 1) g ≤ sumN 11 g := sumN_mono g (by omega)
  have h5 : sumN (k + 1) f ≤ sumN N f := sumN_mono f (by omega)
  have h6 := Nat.mul_le_mul_left (f k) h4
  have h7 := Nat.mul_le_mul_right (sumN 11 g) h5
  rw [show sumN (m + 1) g = sumN m g + g m from rfl, Nat.mul_add] at h6
  rw [show sumN (k + 1) f = sumN k f + f k from rfl, Nat.add_mul] at h7
  omega
end Go.Proofs.Ytmkplfndbjcflaa
