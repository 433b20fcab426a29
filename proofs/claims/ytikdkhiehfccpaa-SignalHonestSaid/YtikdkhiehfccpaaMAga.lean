/- AgA, AgB, AgC, AgD in one text. -/
import Derived.Test.YtikdkhiehfccpaaProg
import Derived.Test.YtikdkhiehfccpaaMOnes
import Derived.LoopN

/- Contracts of package agree over this seat's program: within, ordered, cards, legal, points. -/
namespace Go.Proofs.Ytikdkhiehfccpaa
open Go.RowKit

/-- a pair of integers as a value -/
abbrev pr (x y : Int) : Value := .agg #[.int .i64 x, .int .i64 y]
/-- agree.within -/
def wthn (n x y : Int) : Bool := decide (x ≤ n) && decide (n ≤ y)
/-- agree.ordered -/
def ordB (x y g : Int) : Bool := decide (0 ≤ x) && decide (x ≤ y) && decide (y ≤ g)

theorem ag_within (n x y : Int) (w : World) : Calls Try.prog 50 #[.int .i64 n, pr x y] w fun e w' => e = .returned (.bool (wthn n x y)) ∧ Below w.heap.size w w' := by
  by_cases h1 : x ≤ n <;> by_cases h2 : n ≤ y
  all_goals
    simp only [wthn, h1, h2]
    go_enter Try.func50, Try.ntmps50
    go_wp2
    go_ret
    exact ⟨rfl, ((Below.refl _ _).alloc (Nat.le_refl _) _)⟩

theorem ag_ordered (x y g : Int) (w : World) : Calls Try.prog 69 #[pr x y, .int .i64 g] w fun e w' => e = .returned (.bool (ordB x y g)) ∧ Below w.heap.size w w' := by
  by_cases h1 : 0 ≤ x <;> by_cases h2 : x ≤ y <;> by_cases h3 : y ≤ g
  all_goals
    simp only [ordB, h1, h2, h3]
    go_enter Try.func69, Try.ntmps69
    go_wp2
    go_ret
    exact ⟨rfl, ((Below.refl _ _).alloc (Nat.le_refl _) _)⟩

/-- the cards of a suit -/
def scards (h s : Nat) : Nat := land (shr h (13 * s)) 8191
theorem scards_lt (h s : Nat) : scards h s < 8192 := by
  unfold scards land
  exact Nat.lt_of_le_of_lt Nat.and_le_right (by decide)
theorem ag_cards (h s : Nat) (hh : W64 h) (hs : s < 4) (w : World) : Calls Try.prog 48 #[.int .u64 (h : Int), .int .i64 (s : Int)] w fun e w' => e = .returned (.int .u64 ((scards h s : Nat) : Int)) ∧ w = w' := by
  have e1 : wrap64 (13 * (s : Int)) = ((13 * s : Nat) : Int) := by rw [IntWalk.wrap64_in _ (by omega)]; omega
  have e3 : (h : Int) / 2 ^ (13 * s) = ((shr h (13 * s) : Nat) : Int) := by
    unfold shr
    rw [Nat.shiftRight_eq_div_pow]
    simp
  go_enter Try.func48, Try.ntmps48
  go_wp2
  go_ret
  refine ⟨?_, rfl⟩
  rw [e3, show (8191 : Int) = ((8191 : Nat) : Int) from rfl, bits_and_nat _ _ hh.shr (by unfold W64; decide)]
  rfl

/-- agree.legal -/
def legalB (h : Nat) (n : Int) : Bool := decide (0 ≤ n) && decide (n ≤ 13) && decide (h < 4503599627370496)
theorem ag_legal (h : Nat) (n : Int) (w : World) : Calls Try.prog 52 #[.int .u64 (h : Int), .int .i64 n] w fun e w' => e = .returned (.bool (legalB h n)) ∧ w = w' := by
  have e1 : ((h : Int) / 4503599627370496 == 0) = decide (h < 4503599627370496) := by
    rw [Bool.eq_iff_iff]
    simp
    omega
  unfold legalB
  by_cases h1 : 0 ≤ n <;> by_cases h2 : n ≤ 13
  all_goals
    simp only [h1, h2]
    go_enter Try.func52, Try.ntmps52
    go_wp2
    go_ret
    exact ⟨by simp, rfl⟩
end Go.Proofs.Ytikdkhiehfccpaa

/- Contracts of package agree over this seat's program: points, Points, right, long. -/
namespace Go.Proofs.Ytikdkhiehfccpaa
open Go.RowKit

/-- a range: points, and the lengths of the four suits -/
structure Rg where
  p0 : Int
  p1 : Int
  a0 : Int
  a1 : Int
  b0 : Int
  b1 : Int
  c0 : Int
  c1 : Int
  d0 : Int
  d1 : Int
deriving DecidableEq
abbrev Rg.v (r : Rg) : Value := .agg #[.int .i64 r.p0, .int .i64 r.p1, .int .i64 r.a0, .int .i64 r.a1, .int .i64 r.b0, .int .i64 r.b1, .int .i64 r.c0, .int .i64 r.c1, .int .i64 r.d0, .int .i64 r.d1]
/-- the lengths of a suit -/
def Rg.lo (r : Rg) (s : Nat) : Int := if s = 0 then r.a0 else if s = 1 then r.b0 else if s = 2 then r.c0 else r.d0
def Rg.hi (r : Rg) (s : Nat) : Int := if s = 0 then r.a1 else if s = 1 then r.b1 else if s = 2 then r.c1 else r.d1
/-- the first k suits are right -/
def Rg.okTo (r : Rg) : Nat → Bool
  | 0 => true
  | k + 1 => Rg.okTo r k && ordB (r.lo k) (r.hi k) 13
/-- (agree.Range).right -/
def Rg.ok (r : Rg) : Bool := r.okTo 4 && ordB r.p0 r.p1 40
theorem Rg.ok_false {r : Rg} {k : Nat} (hk : k < 4) (h : ordB (r.lo k) (r.hi k) 13 = false) : r.ok = false := by
  have : k = 0 ∨ k = 1 ∨ k = 2 ∨ k = 3 := by omega
  rcases this with rfl | rfl | rfl | rfl <;> simp [Rg.ok, Rg.okTo, h]

theorem ix4 (x0 x1 x2 x3 x4 x5 x6 x7 : Int) (w : World) :
    (Instr.index 51 (.agg #[.int .i64 x0, .int .i64 x1, .int .i64 x2, .int .i64 x3, .int .i64 x4, .int .i64 x5, .int .i64 x6, .int .i64 x7]) (.int .i64 0)).run Try.prog w = .ok (pr x0 x1) w ∧
    (Instr.index 51 (.agg #[.int .i64 x0, .int .i64 x1, .int .i64 x2, .int .i64 x3, .int .i64 x4, .int .i64 x5, .int .i64 x6, .int .i64 x7]) (.int .i64 1)).run Try.prog w = .ok (pr x2 x3) w ∧
    (Instr.index 51 (.agg #[.int .i64 x0, .int .i64 x1, .int .i64 x2, .int .i64 x3, .int .i64 x4, .int .i64 x5, .int .i64 x6, .int .i64 x7]) (.int .i64 2)).run Try.prog w = .ok (pr x4 x5) w ∧
    (Instr.index 51 (.agg #[.int .i64 x0, .int .i64 x1, .int .i64 x2, .int .i64 x3, .int .i64 x4, .int .i64 x5, .int .i64 x6, .int .i64 x7]) (.int .i64 3)).run Try.prog w = .ok (pr x6 x7) w := by
  refine ⟨?_, ?_, ?_, ?_⟩ <;> kernel_rfl

theorem ix4k (r : Rg) (k : Nat) (hk : k < 4) (w : World) :
    (Instr.index 51 (.agg #[.int .i64 r.a0, .int .i64 r.a1, .int .i64 r.b0, .int .i64 r.b1, .int .i64 r.c0, .int .i64 r.c1, .int .i64 r.d0, .int .i64 r.d1]) (.int .i64 (k : Int))).run Try.prog w = .ok (pr (r.lo k) (r.hi k)) w := by
  obtain ⟨h0, h1, h2, h3⟩ := ix4 r.a0 r.a1 r.b0 r.b1 r.c0 r.c1 r.d0 r.d1 w
  have : k = 0 ∨ k = 1 ∨ k = 2 ∨ k = 3 := by omega
  rcases this with rfl | rfl | rfl | rfl
  · exact h0
  · exact h1
  · exact h2
  · exact h3

theorem bel_alloc {B : Nat} {w w1 w2 : World} {o : Obj} (h : Below B w w1) (hs : B ≤ w1.heap.size) (h2 : Below (w1.alloc o).heap.size (w1.alloc o) w2) : Below B w w2 :=
  (h.alloc hs o).trans (h2.mono (by rw [World.size_alloc]; omega))
theorem cell_alloc {w1 w2 : World} {o : Obj} {b i : Nat} {v : Value} (hb : b < w1.heap.size) (h : w1.cell? ⟨b, i, none⟩ = some v) (h2 : Below (w1.alloc o).heap.size (w1.alloc o) w2) : w2.cell? ⟨b, i, none⟩ = some v := by
  have := bel_alloc (Below.refl w1.heap.size w1) (Nat.le_refl _) h2
  exact (this.cell (p := ⟨b, i, none⟩) hb).trans h

set_option maxRecDepth 5000 in
theorem ag_right (r : Rg) (w : World) : Calls Try.prog 59 #[r.v] w fun e w' => e = .returned (.bool r.ok) ∧ Below w.heap.size w w' := by
  have i0 := ix4k r
  go_enter Try.func59, Try.ntmps59
  go_wp2
  go_loopw [4, 7] (fun _ i wr => ∃ (k : Nat), k ≤ 4 ∧ i = .int .i64 k ∧ r.okTo k = true ∧ Below w.heap.size w wr ∧ w.heap.size < wr.heap.size ∧ wr.cell? ⟨w.heap.size, 0, none⟩ = some (.int .i64 r.p0) ∧ wr.cell? ⟨w.heap.size, 1, none⟩ = some (.int .i64 r.p1)) (fun _ i _ => 4 - (intOf i).toNat)
  case atStart =>
    refine ⟨0, by omega, rfl, rfl, ((Below.refl _ _).alloc (Nat.le_refl _) _), ?_, ?_, ?_⟩
    · rw [World.size_alloc]; omega
    · exact World.cell?_alloc_at _ _ _ _ rfl
    · exact World.cell?_alloc_at _ _ _ _ rfl
  case round =>
    obtain ⟨k, hk, rfl, hok, hB, hsz, c0, c1⟩ := hrel
    by_cases hlt : k < 4
    · have i1 := i0 k hlt
      cases h0 : ordB (r.lo k) (r.hi k) 13
      · have HF := Lib.hid (Rg.ok_false hlt h0)
        go_wp2_with (go_at_call 69; refine (ag_ordered (r.lo k) (r.hi k) 13 _).mono ?_; rintro e w' ⟨rfl, hb1⟩)
        go_ret
        exact ⟨by rw [HF.out]; rfl, bel_alloc hB (by omega) hb1⟩
      · go_wp2_with (go_at_call 69; refine (ag_ordered (r.lo k) (r.hi k) 13 _).mono ?_; rintro e w' ⟨rfl, hb1⟩)
        go_roundw
        · exact ⟨k + 1, by omega, by simp, by simp [Rg.okTo, hok, h0], bel_alloc hB (by omega) hb1, Nat.lt_of_lt_of_le (by rw [World.size_alloc]; omega) hb1.size, cell_alloc hsz c0 hb1, cell_alloc hsz c1 hb1⟩
        · simp [intOf]; omega
    · obtain rfl : k = 4 := by omega
      have HE : Hid (r.ok = ordB r.p0 r.p1 40) := Lib.hid (by simp [Rg.ok, hok])
      go_wp2_with (go_at_call 69; refine (ag_ordered r.p0 r.p1 40 _).mono ?_; rintro e w' ⟨rfl, hb1⟩)
      go_ret
      exact ⟨by rw [HE.out]; rfl, hB.trans (hb1.mono hB.size)⟩

/-- four lengths as a value -/
abbrev len4 (l : Nat → Nat) : Value := .agg #[.int .i64 (l 0 : Int), .int .i64 (l 1 : Int), .int .i64 (l 2 : Int), .int .i64 (l 3 : Int)]
/-- the first k lengths are within -/
def Rg.longTo (r : Rg) (l : Nat → Nat) : Nat → Bool
  | 0 => true
  | k + 1 => Rg.longTo r l k && wthn (l k) (r.lo k) (r.hi k)
/-- (agree.Range).long -/
def Rg.long (r : Rg) (l : Nat → Nat) : Bool := r.longTo l 4
theorem Rg.long_false {r : Rg} {l : Nat → Nat} {k : Nat} (hk : k < 4) (h : wthn (l k) (r.lo k) (r.hi k) = false) : r.long l = false := by
  have : k = 0 ∨ k = 1 ∨ k = 2 ∨ k = 3 := by omega
  rcases this with rfl | rfl | rfl | rfl <;> simp [Rg.long, Rg.longTo, h]
theorem ixl4 (x0 x1 x2 x3 : Int) (w : World) :
    (Instr.index 112 (.agg #[.int .i64 x0, .int .i64 x1, .int .i64 x2, .int .i64 x3]) (.int .i64 0)).run Try.prog w = .ok (.int .i64 x0) w ∧
    (Instr.index 112 (.agg #[.int .i64 x0, .int .i64 x1, .int .i64 x2, .int .i64 x3]) (.int .i64 1)).run Try.prog w = .ok (.int .i64 x1) w ∧
    (Instr.index 112 (.agg #[.int .i64 x0, .int .i64 x1, .int .i64 x2, .int .i64 x3]) (.int .i64 2)).run Try.prog w = .ok (.int .i64 x2) w ∧
    (Instr.index 112 (.agg #[.int .i64 x0, .int .i64 x1, .int .i64 x2, .int .i64 x3]) (.int .i64 3)).run Try.prog w = .ok (.int .i64 x3) w := by
  refine ⟨?_, ?_, ?_, ?_⟩ <;> kernel_rfl
set_option maxRecDepth 5000 in
theorem ag_long (r : Rg) (l : Nat → Nat) (w : World) : Calls Try.prog 51 #[r.v, len4 l] w fun e w' => e = .returned (.bool (r.long l)) ∧ Below w.heap.size w w' := by
  obtain ⟨i0, i1, i2, i3⟩ := ixl4 (l 0 : Int) (l 1 : Int) (l 2 : Int) (l 3 : Int) w
  go_enter Try.func51, Try.ntmps51
  go_wp2
  go_loopw [5, 6, 8] (fun _ _ i wr => ∃ (k : Nat), k ≤ 4 ∧ i = .int .i64 k ∧ r.longTo l k = true ∧ Below w.heap.size w wr ∧ w.heap.size < wr.heap.size ∧ wr.cell? ⟨w.heap.size, 2, none⟩ = some (.int .i64 r.a0) ∧ wr.cell? ⟨w.heap.size, 3, none⟩ = some (.int .i64 r.a1) ∧ wr.cell? ⟨w.heap.size, 4, none⟩ = some (.int .i64 r.b0) ∧ wr.cell? ⟨w.heap.size, 5, none⟩ = some (.int .i64 r.b1) ∧ wr.cell? ⟨w.heap.size, 6, none⟩ = some (.int .i64 r.c0) ∧ wr.cell? ⟨w.heap.size, 7, none⟩ = some (.int .i64 r.c1) ∧ wr.cell? ⟨w.heap.size, 8, none⟩ = some (.int .i64 r.d0) ∧ wr.cell? ⟨w.heap.size, 9, none⟩ = some (.int .i64 r.d1)) (fun _ _ i _ => 4 - (intOf i).toNat)
  case atStart =>
    refine ⟨0, by omega, rfl, rfl, (((Below.refl _ _).alloc (Nat.le_refl _) _).alloc (by rw [World.size_alloc]; omega) _), ?_, ?_⟩
    · rw [World.size_alloc, World.size_alloc]; omega
    · refine ⟨?_, ?_, ?_, ?_, ?_, ?_, ?_, ?_⟩ <;> exact World.cell?_alloc2_first _ _ _ _
  case round =>
    obtain ⟨k, hk, rfl, hok, hB, hsz, c2, c3, c4, c5, c6, c7, c8, c9⟩ := hrel
    have hk5 : k = 0 ∨ k = 1 ∨ k = 2 ∨ k = 3 ∨ k = 4 := by omega
    rcases hk5 with rfl | rfl | rfl | rfl | rfl
    · obtain ⟨i0, -, -, -⟩ := ixl4 (l 0 : Int) (l 1 : Int) (l 2 : Int) (l 3 : Int) wr
      cases h0 : wthn (l 0 : Int) r.a0 r.a1
      · have HF := Lib.hid (Rg.long_false (r := r) (l := l) (k := 0) (by omega) h0)
        go_wp2_with (go_at_call 50; refine (ag_within (l 0) r.a0 r.a1 _).mono ?_; rintro e w' ⟨rfl, hb1⟩)
        go_ret
        exact ⟨by rw [HF.out]; rfl, hB.trans (hb1.mono hB.size)⟩
      · go_wp2_with (go_at_call 50; refine (ag_within (l 0) r.a0 r.a1 _).mono ?_; rintro e w' ⟨rfl, hb1⟩)
        go_roundw
        · refine ⟨1, by omega, by simp, ?_, hB.trans (hb1.mono hB.size), by have := hb1.size; omega, ?_⟩
          · simp only [Rg.longTo]; simp; exact h0
          · refine ⟨?_, ?_, ?_, ?_, ?_, ?_, ?_, ?_⟩ <;> refine (hb1.cell (p := ⟨w.heap.size, _, none⟩) hsz).trans ?_ <;> assumption
        · simp [intOf]
    · obtain ⟨-, i0, -, -⟩ := ixl4 (l 0 : Int) (l 1 : Int) (l 2 : Int) (l 3 : Int) wr
      cases h0 : wthn (l 1 : Int) r.b0 r.b1
      · have HF := Lib.hid (Rg.long_false (r := r) (l := l) (k := 1) (by omega) h0)
        go_wp2_with (go_at_call 50; refine (ag_within (l 1) r.b0 r.b1 _).mono ?_; rintro e w' ⟨rfl, hb1⟩)
        go_ret
        exact ⟨by rw [HF.out]; rfl, hB.trans (hb1.mono hB.size)⟩
      · go_wp2_with (go_at_call 50; refine (ag_within (l 1) r.b0 r.b1 _).mono ?_; rintro e w' ⟨rfl, hb1⟩)
        go_roundw
        · refine ⟨2, by omega, by simp, ?_, hB.trans (hb1.mono hB.size), by have := hb1.size; omega, ?_⟩
          · exact (by rw [show ∀ j, r.longTo l (j + 1) = (r.longTo l j && wthn (l j) (r.lo j) (r.hi j)) from fun _ => rfl, hok]; exact h0)
          · refine ⟨?_, ?_, ?_, ?_, ?_, ?_, ?_, ?_⟩ <;> refine (hb1.cell (p := ⟨w.heap.size, _, none⟩) hsz).trans ?_ <;> assumption
        · simp [intOf]
    · obtain ⟨-, -, i0, -⟩ := ixl4 (l 0 : Int) (l 1 : Int) (l 2 : Int) (l 3 : Int) wr
      cases h0 : wthn (l 2 : Int) r.c0 r.c1
      · have HF := Lib.hid (Rg.long_false (r := r) (l := l) (k := 2) (by omega) h0)
        go_wp2_with (go_at_call 50; refine (ag_within (l 2) r.c0 r.c1 _).mono ?_; rintro e w' ⟨rfl, hb1⟩)
        go_ret
        exact ⟨by rw [HF.out]; rfl, hB.trans (hb1.mono hB.size)⟩
      · go_wp2_with (go_at_call 50; refine (ag_within (l 2) r.c0 r.c1 _).mono ?_; rintro e w' ⟨rfl, hb1⟩)
        go_roundw
        · refine ⟨3, by omega, by simp, ?_, hB.trans (hb1.mono hB.size), by have := hb1.size; omega, ?_⟩
          · exact (by rw [show ∀ j, r.longTo l (j + 1) = (r.longTo l j && wthn (l j) (r.lo j) (r.hi j)) from fun _ => rfl, hok]; exact h0)
          · refine ⟨?_, ?_, ?_, ?_, ?_, ?_, ?_, ?_⟩ <;> refine (hb1.cell (p := ⟨w.heap.size, _, none⟩) hsz).trans ?_ <;> assumption
        · simp [intOf]
    · obtain ⟨-, -, -, i0⟩ := ixl4 (l 0 : Int) (l 1 : Int) (l 2 : Int) (l 3 : Int) wr
      cases h0 : wthn (l 3 : Int) r.d0 r.d1
      · have HF := Lib.hid (Rg.long_false (r := r) (l := l) (k := 3) (by omega) h0)
        go_wp2_with (go_at_call 50; refine (ag_within (l 3) r.d0 r.d1 _).mono ?_; rintro e w' ⟨rfl, hb1⟩)
        go_ret
        exact ⟨by rw [HF.out]; rfl, hB.trans (hb1.mono hB.size)⟩
      · go_wp2_with (go_at_call 50; refine (ag_within (l 3) r.d0 r.d1 _).mono ?_; rintro e w' ⟨rfl, hb1⟩)
        go_roundw
        · refine ⟨4, by omega, by simp, ?_, hB.trans (hb1.mono hB.size), by have := hb1.size; omega, ?_⟩
          · exact (by rw [show ∀ j, r.longTo l (j + 1) = (r.longTo l j && wthn (l j) (r.lo j) (r.hi j)) from fun _ => rfl, hok]; exact h0)
          · refine ⟨?_, ?_, ?_, ?_, ?_, ?_, ?_, ?_⟩ <;> refine (hb1.cell (p := ⟨w.heap.size, _, none⟩) hsz).trans ?_ <;> assumption
        · simp [intOf]
    · have HE : Hid (r.long l = true) := Lib.hid hok
      go_wp2
      go_ret
      exact ⟨by rw [HE.out]; rfl, hB⟩
/-- the points of the first k honours of a suit -/
def ptTo (x : Nat) : Nat → Nat
  | 0 => 0
  | k + 1 => ptTo x k + if x.testBit (9 + k) then k + 1 else 0
/-- agree.points -/
def ptS (x : Nat) : Nat := ptTo x 4
theorem ptTo_le (x : Nat) : ∀ k, k ≤ 4 → ptTo x k ≤ 10
  | 0, _ => by simp [ptTo]
  | 1, _ => by simp only [ptTo]; split <;> omega
  | 2, _ => by simp only [ptTo]; split <;> split <;> omega
  | 3, _ => by simp only [ptTo]; split <;> split <;> split <;> omega
  | 4, _ => by simp only [ptTo]; split <;> split <;> split <;> split <;> omega
  | _ + 5, h => by omega
theorem ptS_le (x : Nat) : ptS x ≤ 10 := ptTo_le x 4 (Nat.le_refl _)
theorem pt_bit (x c : Nat) (d : Int) (hx : W64 x) (hd : d = ((2 ^ c : Nat) : Int)) : (bits .and .u64 ((x : Int) / d) 1 == 1) = x.testBit c := by
  subst hd
  rw [show (x : Int) / ((2 ^ c : Nat) : Int) = ((shr x c : Nat) : Int) by unfold shr; rw [Nat.shiftRight_eq_div_pow]; simp, show (1 : Int) = ((1 : Nat) : Int) from rfl, bits_and_nat _ _ hx.shr (by unfold W64; decide), ← bitAt_one]
  unfold bitAt shr
  rw [Nat.and_one_is_mod]
  rfl
theorem ag_points (x : Nat) (hx : W64 x) (w : World) : Calls Try.prog 62 #[.int .u64 (x : Int)] w fun e w' => e = .returned (.int .i64 ((ptS x : Nat) : Int)) ∧ w = w' := by
  go_enter Try.func62, Try.ntmps62
  go_wp2
  go_loop [3, 4, 5] (fun n _ i => ∃ (k : Nat), k ≤ 4 ∧ i = .int .i64 k ∧ n = .int .i64 ((ptTo x k : Nat) : Int)) (fun _ _ i => 4 - (intOf i).toNat)
  case atStart => exact ⟨0, by omega, rfl, rfl⟩
  case round =>
    obtain ⟨k, hk, rfl, rfl⟩ := hrel
    have hk5 : k = 0 ∨ k = 1 ∨ k = 2 ∨ k = 3 ∨ k = 4 := by omega
    rcases hk5 with rfl | rfl | rfl | rfl | rfl
    · have hl := ptTo_le x 0 (by omega)
      have hb := pt_bit x 9 512 hx (by decide)
      have hs : Hid (∀ b, x.testBit 9 = b → ptTo x 1 = ptTo x 0 + if b then 1 else 0) := Lib.hid (by rintro b rfl; rfl)
      cases h0 : x.testBit 9
      all_goals
        rw [h0] at hb
        go_wp2
        go_round
        · exact ⟨1, by omega, by simp, by rw [hs.out _ h0]; simp⟩
        · simp [intOf]
    · have hl := ptTo_le x 1 (by omega)
      have hb := pt_bit x 10 1024 hx (by decide)
      have hs : Hid (∀ b, x.testBit 10 = b → ptTo x 2 = ptTo x 1 + if b then 2 else 0) := Lib.hid (by rintro b rfl; rfl)
      cases h0 : x.testBit 10
      all_goals
        rw [h0] at hb
        go_wp2
        go_round
        · exact ⟨2, by omega, by simp, by rw [hs.out _ h0]; simp⟩
        · simp [intOf]
    · have hl := ptTo_le x 2 (by omega)
      have hb := pt_bit x 11 2048 hx (by decide)
      have hs : Hid (∀ b, x.testBit 11 = b → ptTo x 3 = ptTo x 2 + if b then 3 else 0) := Lib.hid (by rintro b rfl; rfl)
      cases h0 : x.testBit 11
      all_goals
        rw [h0] at hb
        go_wp2
        go_round
        · exact ⟨3, by omega, by simp, by rw [hs.out _ h0]; simp⟩
        · simp [intOf]
    · have hl := ptTo_le x 3 (by omega)
      have hb := pt_bit x 12 4096 hx (by decide)
      have hs : Hid (∀ b, x.testBit 12 = b → ptTo x 4 = ptTo x 3 + if b then 4 else 0) := Lib.hid (by rintro b rfl; rfl)
      cases h0 : x.testBit 12
      all_goals
        rw [h0] at hb
        go_wp2
        go_round
        · exact ⟨4, by omega, by simp, by rw [hs.out _ h0]; simp⟩
        · simp [intOf]
    · go_wp2
      go_ret
      exact ⟨rfl, rfl⟩
/-- agree.Points -/
def ptA (h : Nat) : Nat → Nat
  | 0 => 0
  | k + 1 => ptA h k + ptS (scards h k)
def ptsM (h : Nat) : Nat := ptA h 4
theorem ptA_le (h k : Nat) : ptA h k ≤ 10 * k := by
  induction k with
  | zero => simp [ptA]
  | succ k ih => have := ptS_le (scards h k); simp only [ptA]; omega
theorem ag_Points (h : Nat) (hh : W64 h) (w : World) : Calls Try.prog 49 #[.int .u64 (h : Int)] w fun e w' => e = .returned (.int .i64 ((ptsM h : Nat) : Int)) ∧ w = w' := by
  go_enter Try.func49, Try.ntmps49
  go_wp2
  go_loop [3, 4, 5] (fun n _ i => ∃ (k : Nat), k ≤ 4 ∧ i = .int .i64 k ∧ n = .int .i64 ((ptA h k : Nat) : Int)) (fun _ _ i => 4 - (intOf i).toNat)
  case atStart => exact ⟨0, by omega, rfl, rfl⟩
  case round =>
    obtain ⟨k, hk, rfl, rfl⟩ := hrel
    have hl := ptA_le h k
    by_cases hlt : k < 4
    · have hsl := scards_lt h k
      have hpl := ptS_le (scards h k)
      have HS : Hid (ptA h (k + 1) = ptA h k + ptS (scards h k)) := Lib.hid rfl
      go_wp2_with (first
        | (go_at_call 48; refine (ag_cards h k hh hlt _).mono ?_; rintro e w' ⟨rfl, rfl⟩)
        | (go_at_call 62; refine (ag_points (scards h k) (by unfold W64; omega) _).mono ?_; rintro e w' ⟨rfl, rfl⟩))
      go_round
      · exact ⟨k + 1, by omega, by simp, by rw [HS.out]; simp⟩
      · simp [intOf]; omega
    · obtain rfl : k = 4 := by omega
      go_wp2
      go_ret
      exact ⟨rfl, rfl⟩
end Go.Proofs.Ytikdkhiehfccpaa

/- Contracts of package agree over this seat's program: Right and Fits over a slice of ranges. -/
namespace Go.Proofs.Ytikdkhiehfccpaa
open Go.RowKit

/-- the cells of a range, one by one -/
def Rg.cell (r : Rg) : Nat → Int
  | 0 => r.p0 | 1 => r.p1 | 2 => r.a0 | 3 => r.a1 | 4 => r.b0 | 5 => r.b1 | 6 => r.c0 | 7 => r.c1 | 8 => r.d0 | _ => r.d1
/-- A slice of ranges that reads as the list rs in the world w. -/
structure Rgs (w : World) (a : Option Addr) (len : Nat) (rs : List Rg) : Prop where
  length : rs.length = len
  small : len ≤ 14073748835123
  cells : len = 0 ∨ ∃ b off, a = some ⟨b, off, none⟩ ∧ b < w.heap.size ∧ ∀ i r, rs[i]? = some r → ∀ j, j < 10 → w.cell? ⟨b, off + i * 10 + j, none⟩ = some (.int .i64 (r.cell j))
theorem Rgs.below {w w' : World} {a : Option Addr} {len : Nat} {rs : List Rg} (h : Rgs w a len rs) {B : Nat} (hB : w.heap.size ≤ B) (hb : Below B w w') : Rgs w' a len rs := by
  refine ⟨h.length, h.small, ?_⟩
  rcases h.cells with h | ⟨b, off, ha, hlt, hc⟩
  · exact .inl h
  · exact .inr ⟨b, off, ha, Nat.lt_of_lt_of_le hlt hb.size, fun i r hr j hj => (hb.cell (p := ⟨b, _, none⟩) (Nat.lt_of_lt_of_le hlt hB)).trans (hc i r hr j hj)⟩
/-- the ten cells of a range at a place -/
def Ten (w : World) (b o : Nat) (r : Rg) : Prop :=
  w.cell? ⟨b, o, none⟩ = some (.int .i64 r.p0) ∧ w.cell? ⟨b, o + 1, none⟩ = some (.int .i64 r.p1) ∧ w.cell? ⟨b, o + 2, none⟩ = some (.int .i64 r.a0) ∧ w.cell? ⟨b, o + 3, none⟩ = some (.int .i64 r.a1) ∧ w.cell? ⟨b, o + 4, none⟩ = some (.int .i64 r.b0) ∧
  w.cell? ⟨b, o + 5, none⟩ = some (.int .i64 r.b1) ∧ w.cell? ⟨b, o + 6, none⟩ = some (.int .i64 r.c0) ∧ w.cell? ⟨b, o + 7, none⟩ = some (.int .i64 r.c1) ∧ w.cell? ⟨b, o + 8, none⟩ = some (.int .i64 r.d0) ∧ w.cell? ⟨b, o + 9, none⟩ = some (.int .i64 r.d1)
theorem Rgs.ten {w : World} {a : Option Addr} {len : Nat} {rs : List Rg} (h : Rgs w a len rs) {k : Nat} (hk : k < len) :
    ∃ b off r, a = some ⟨b, off, none⟩ ∧ b < w.heap.size ∧ rs[k]? = some r ∧ Ten w b (off + k * 10) r := by
  rcases h.cells with h0 | ⟨b, off, ha, hbl, hc⟩
  · omega
  · obtain ⟨r, hr⟩ : ∃ r, rs[k]? = some r := ⟨_, List.getElem?_eq_getElem (by rw [h.length]; exact hk)⟩
    have hcc := hc k r hr
    exact ⟨b, off, r, ha, hbl, hr, hcc 0 (by omega), hcc 1 (by omega), hcc 2 (by omega), hcc 3 (by omega), hcc 4 (by omega), hcc 5 (by omega), hcc 6 (by omega), hcc 7 (by omega), hcc 8 (by omega), hcc 9 (by omega)⟩
theorem all_take_succ {α : Type} {p : α → Bool} {l : List α} {k : Nat} {x : α} (hx : l[k]? = some x) (h : (l.take k).all p = true) (hp : p x = true) : (l.take (k + 1)).all p = true := by
  rw [List.take_add_one, hx, List.all_append, h]
  simp [hp]
/-- agree.Right -/
def rightV (rs : List Rg) : Bool := decide (rs.length ≤ 20) && rs.all Rg.ok
theorem right_long {rs : List Rg} (h : 20 < rs.length) : rightV rs = false := by
  have : ¬ rs.length ≤ 20 := by omega
  simp [rightV, this]
theorem right_bad {rs : List Rg} {k : Nat} {r : Rg} (hr : rs[k]? = some r) (h : r.ok = false) : rightV rs = false := by
  have : rs.all Rg.ok = false := by
    rw [List.all_eq_false]
    exact ⟨r, List.mem_of_getElem? hr, by simp [h]⟩
  simp [rightV, this]

theorem ag_Right (a : Option Addr) (len cap : Nat) (rs : List Rg) (w : World) (h : Rgs w a len rs) : Calls Try.prog 43 #[.slice a len cap] w fun e w' => e = .returned (.bool (rightV rs)) ∧ Below w.heap.size w w' := by
  have hlen := h.length
  have hsm := h.small
  by_cases h20 : 20 < len
  · have HF := Lib.hid (right_long (rs := rs) (by omega))
    clear hlen
    have d20 : decide (20 < (len : Int)) = true := by simp; omega
    go_enter Try.func43, Try.ntmps43
    go_wp2
    go_ret
    exact ⟨by rw [HF.out]; rfl, Below.refl _ _⟩
  · clear hlen
    have d20 : decide (20 < (len : Int)) = false := by simp; omega
    go_enter Try.func43, Try.ntmps43
    go_wp2
    go_loopw [10] (fun i wr => ∃ (k : Nat), k ≤ len ∧ i = .int .i64 k ∧ (rs.take k).all Rg.ok = true ∧ Below w.heap.size w wr) (fun i _ => len - (intOf i).toNat)
    case atStart => exact ⟨0, by omega, rfl, rfl, Below.refl _ _⟩
    case round =>
      obtain ⟨k, hk, rfl, hok, hB⟩ := hrel
      by_cases hlt : k < len
      · obtain ⟨b, off, r, rfl, hbl, hr, c0, c1, c2, c3, c4, c5, c6, c7, c8, c9⟩ := (h.below (Nat.le_refl _) hB).ten hlt
        cases h0 : r.ok
        · have HF := Lib.hid (right_bad hr h0)
          have HR := Lib.hid hr
          clear hr
          go_wp2_with (go_at_call 59; refine (ag_right r _).mono ?_; rintro e w' ⟨rfl, hb1⟩)
          go_ret
          exact ⟨by rw [HF.out]; rfl, bel_alloc hB hB.size hb1⟩
        · have HN := Lib.hid (all_take_succ hr hok h0)
          have HR := Lib.hid hr
          clear hr
          go_wp2_with (go_at_call 59; refine (ag_right r _).mono ?_; rintro e w' ⟨rfl, hb1⟩)
          go_roundw
          · exact ⟨k + 1, by omega, by simp, HN.out, bel_alloc hB hB.size hb1⟩
          · simp [intOf]; omega
      · obtain rfl : k = len := by omega
        have HE : Hid (rightV rs = true) := Lib.hid (by
          have hl := h.length
          rw [List.take_of_length_le (by omega)] at hok
          have : rs.length ≤ 20 := by omega
          simp only [rightV, hok, this, decide_true, Bool.and_self])
        go_wp2
        go_ret
        exact ⟨by rw [HE.out]; rfl, hB⟩
end Go.Proofs.Ytikdkhiehfccpaa

/- Contract of agree.Fits over this seat's program. -/
namespace Go.Proofs.Ytikdkhiehfccpaa
open Go.RowKit

/-- the lengths of the suits of a hand -/
def lensM (h k : Nat) : Nat := pop (scards h k)
/-- whether points and lengths are in a range of an agreement -/
def fitsL (rs : List Rg) (p : Nat) (l : Nat → Nat) : Bool := rs.any fun r => wthn p r.p0 r.p1 && r.long l
/-- agree.Fits -/
def fitsV (rs : List Rg) (h : Nat) : Bool := fitsL rs (ptsM h) (lensM h)
theorem fits_yes {rs : List Rg} {p : Nat} {l : Nat → Nat} {k : Nat} {r : Rg} (hr : rs[k]? = some r) (h1 : wthn p r.p0 r.p1 = true) (h2 : r.long l = true) : fitsL rs p l = true := by
  unfold fitsL
  rw [List.any_eq_true]
  exact ⟨r, List.mem_of_getElem? hr, by simp [h1, h2]⟩
theorem any_take_succ {α : Type} {p : α → Bool} {l : List α} {k : Nat} {x : α} (hx : l[k]? = some x) (h : (l.take k).any p = false) (hp : p x = false) : (l.take (k + 1)).any p = false := by
  rw [List.take_add_one, hx, List.any_append, h]
  simp [hp]
theorem all_fits_no {rs : List Rg} {p : Nat} {l : Nat → Nat} {k : Nat} {r : Rg} (hr : rs[k]? = some r) (h : (rs.take k).any (fun r => wthn p r.p0 r.p1 && r.long l) = false) (h1 : (wthn p r.p0 r.p1 && r.long l) = false) : (rs.take (k + 1)).any (fun r => wthn p r.p0 r.p1 && r.long l) = false :=
  any_take_succ hr h h1
theorem ten_new {r : Rg} {w1 w2 : World} {T : TypeId} (h : Below (w1.alloc (.cells #[.int .i64 r.p0, .int .i64 r.p1, .int .i64 r.a0, .int .i64 r.a1, .int .i64 r.b0, .int .i64 r.b1, .int .i64 r.c0, .int .i64 r.c1, .int .i64 r.d0, .int .i64 r.d1] T)).heap.size (w1.alloc (.cells #[.int .i64 r.p0, .int .i64 r.p1, .int .i64 r.a0, .int .i64 r.a1, .int .i64 r.b0, .int .i64 r.b1, .int .i64 r.c0, .int .i64 r.c1, .int .i64 r.d0, .int .i64 r.d1] T)) w2) :
    w2.cell? ⟨w1.heap.size, 0, none⟩ = some (.int .i64 r.p0) ∧ w2.cell? ⟨w1.heap.size, 1, none⟩ = some (.int .i64 r.p1) ∧ w2.cell? ⟨w1.heap.size, 2, none⟩ = some (.int .i64 r.a0) ∧ w2.cell? ⟨w1.heap.size, 3, none⟩ = some (.int .i64 r.a1) ∧ w2.cell? ⟨w1.heap.size, 4, none⟩ = some (.int .i64 r.b0) ∧
    w2.cell? ⟨w1.heap.size, 5, none⟩ = some (.int .i64 r.b1) ∧ w2.cell? ⟨w1.heap.size, 6, none⟩ = some (.int .i64 r.c0) ∧ w2.cell? ⟨w1.heap.size, 7, none⟩ = some (.int .i64 r.c1) ∧ w2.cell? ⟨w1.heap.size, 8, none⟩ = some (.int .i64 r.d0) ∧ w2.cell? ⟨w1.heap.size, 9, none⟩ = some (.int .i64 r.d1) := by
  have q := fun i => h.cell (p := ⟨w1.heap.size, i, none⟩) (by rw [World.size_alloc]; show w1.heap.size < _; omega)
  refine ⟨?_, ?_, ?_, ?_, ?_, ?_, ?_, ?_, ?_, ?_⟩ <;> exact (q _).trans (World.cell?_alloc_at _ _ _ _ rfl)
/-- the cells of the lengths when k suits are counted -/
def lst (h k : Nat) : Array Value := #[.int .i64 (if 0 < k then ((lensM h 0 : Nat) : Int) else 0), .int .i64 (if 1 < k then ((lensM h 1 : Nat) : Int) else 0), .int .i64 (if 2 < k then ((lensM h 2 : Nat) : Int) else 0), .int .i64 (if 3 < k then ((lensM h 3 : Nat) : Int) else 0)]

set_option maxRecDepth 5000 in
theorem ag_Fits (a : Option Addr) (len cap : Nat) (rs : List Rg) (h : Nat) (hh : W64 h) (w : World) (hr : Rgs w a len rs) : Calls Try.prog 24 #[.slice a len cap, .int .u64 (h : Int)] w fun e w' => e = .returned (.bool (fitsV rs h)) ∧ Below w.heap.size w w' := by
  have hsm := hr.small
  have HR := Lib.hid hr
  clear hr
  go_enter Try.func24, Try.ntmps24
  go_wp2
  go_loopw [6, 10] (fun _ i wr => ∃ (k : Nat), k ≤ 4 ∧ i = .int .i64 k ∧ wr = w.alloc (.cells (lst h k) 112)) (fun _ i _ => 4 - (intOf i).toNat)
  case atStart => exact ⟨0, by omega, rfl, rfl⟩
  case round =>
    obtain ⟨k, hk, rfl, rfl⟩ := hrel
    have hk5 : k = 0 ∨ k = 1 ∨ k = 2 ∨ k = 3 ∨ k = 4 := by omega
    rcases hk5 with rfl | rfl | rfl | rfl | rfl
    · have hsl := scards_lt h 0
      go_wp2_with (first
        | (go_at_call 48; refine (ag_cards h 0 hh (by omega) _).mono ?_; rintro e w' ⟨rfl, rfl⟩)
        | (go_at_call 47; refine (bits_ones (scards h 0) (by unfold W64; omega) _).mono ?_; rintro e w' ⟨rfl, rfl⟩))
      go_roundw
      · exact ⟨1, by omega, by simp, by simp [lst, lensM]⟩
      · simp [intOf]
    · have hsl := scards_lt h 1
      go_wp2_with (first
        | (go_at_call 48; refine (ag_cards h 1 hh (by omega) _).mono ?_; rintro e w' ⟨rfl, rfl⟩)
        | (go_at_call 47; refine (bits_ones (scards h 1) (by unfold W64; omega) _).mono ?_; rintro e w' ⟨rfl, rfl⟩))
      go_roundw
      · exact ⟨2, by omega, by simp, by simp [lst, lensM]⟩
      · simp [intOf]
    · have hsl := scards_lt h 2
      go_wp2_with (first
        | (go_at_call 48; refine (ag_cards h 2 hh (by omega) _).mono ?_; rintro e w' ⟨rfl, rfl⟩)
        | (go_at_call 47; refine (bits_ones (scards h 2) (by unfold W64; omega) _).mono ?_; rintro e w' ⟨rfl, rfl⟩))
      go_roundw
      · exact ⟨3, by omega, by simp, by simp [lst, lensM]⟩
      · simp [intOf]
    · have hsl := scards_lt h 3
      go_wp2_with (first
        | (go_at_call 48; refine (ag_cards h 3 hh (by omega) _).mono ?_; rintro e w' ⟨rfl, rfl⟩)
        | (go_at_call 47; refine (bits_ones (scards h 3) (by unfold W64; omega) _).mono ?_; rintro e w' ⟨rfl, rfl⟩))
      go_roundw
      · exact ⟨4, by omega, by simp, by simp [lst, lensM]⟩
      · simp [intOf]
    · have hpl := ptA_le h 4
      go_wp2_with (go_at_call 49; refine (ag_Points h hh _).mono ?_; rintro e w' ⟨rfl, rfl⟩)
      go_loopw [24] (fun i wr => ∃ (k : Nat), k ≤ len ∧ i = .int .i64 k ∧ (rs.take k).any (fun r => wthn (ptsM h) r.p0 r.p1 && r.long (lensM h)) = false ∧ Below w.heap.size w wr ∧ w.heap.size < wr.heap.size ∧ wr.cell? ⟨w.heap.size, 0, none⟩ = some (.int .i64 (lensM h 0 : Nat)) ∧ wr.cell? ⟨w.heap.size, 1, none⟩ = some (.int .i64 (lensM h 1 : Nat)) ∧ wr.cell? ⟨w.heap.size, 2, none⟩ = some (.int .i64 (lensM h 2 : Nat)) ∧ wr.cell? ⟨w.heap.size, 3, none⟩ = some (.int .i64 (lensM h 3 : Nat))) (fun i _ => len - (intOf i).toNat)
      case atStart =>
        refine ⟨0, by omega, rfl, rfl, (Below.refl _ _).alloc (Nat.le_refl _) _, by rw [World.size_alloc]; omega, ?_, ?_, ?_, ?_⟩ <;> exact World.cell?_alloc_at _ _ _ _ rfl
      case round =>
        obtain ⟨k, hk, rfl, hno, hB, hsz, d0, d1, d2, d3⟩ := hrel
        by_cases hlt : k < len
        · obtain ⟨b, off, r, rfl, hbl, hr, c0, c1, c2, c3, c4, c5, c6, c7, c8, c9⟩ := (HR.out.below (Nat.le_refl _) hB).ten hlt
          have HRk := Lib.hid hr
          clear hr
          cases h1 : wthn (ptsM h) r.p0 r.p1
          · have HN := Lib.hid (all_fits_no HRk.out hno (by simp [h1]))
            go_wp2_with (go_at_call 50; refine (ag_within (ptsM h : Nat) r.p0 r.p1 _).mono ?_; rintro e w' ⟨rfl, hb1⟩)
            go_roundw
            · exact ⟨k + 1, by omega, by simp, HN.out, bel_alloc hB hB.size hb1, Nat.lt_of_lt_of_le (by rw [World.size_alloc]; omega) hb1.size, cell_alloc hsz d0 hb1, cell_alloc hsz d1 hb1, cell_alloc hsz d2 hb1, cell_alloc hsz d3 hb1⟩
            · simp [intOf]; omega
          · cases h2 : r.long (lensM h)
            · have HN := Lib.hid (all_fits_no HRk.out hno (by simp [h1, h2]))
              go_wp2_with (first
                | (go_at_call 50; refine (ag_within (ptsM h : Nat) r.p0 r.p1 _).mono ?_; rintro e w' ⟨rfl, hb1⟩; obtain ⟨q0, q1, q2, q3, q4, q5, q6, q7, q8, q9⟩ := ten_new hb1; have e0 := cell_alloc hsz d0 hb1; have e1 := cell_alloc hsz d1 hb1; have e2 := cell_alloc hsz d2 hb1; have e3 := cell_alloc hsz d3 hb1)
                | (go_at_call 51; refine (ag_long r (lensM h) _).mono ?_; rintro e w' ⟨rfl, hb2⟩))
              go_roundw
              · have hb3 := hb1.trans (hb2.mono hb1.size)
                exact ⟨k + 1, by omega, by simp, HN.out, bel_alloc hB hB.size hb3, Nat.lt_of_lt_of_le (by rw [World.size_alloc]; omega) hb3.size, cell_alloc hsz d0 hb3, cell_alloc hsz d1 hb3, cell_alloc hsz d2 hb3, cell_alloc hsz d3 hb3⟩
              · simp [intOf]; omega
            · have HF := Lib.hid (fits_yes HRk.out h1 h2)
              go_wp2_with (first
                | (go_at_call 50; refine (ag_within (ptsM h : Nat) r.p0 r.p1 _).mono ?_; rintro e w' ⟨rfl, hb1⟩; obtain ⟨q0, q1, q2, q3, q4, q5, q6, q7, q8, q9⟩ := ten_new hb1; have e0 := cell_alloc hsz d0 hb1; have e1 := cell_alloc hsz d1 hb1; have e2 := cell_alloc hsz d2 hb1; have e3 := cell_alloc hsz d3 hb1)
                | (go_at_call 51; refine (ag_long r (lensM h) _).mono ?_; rintro e w' ⟨rfl, hb2⟩))
              go_ret
              exact ⟨by rw [show fitsV rs h = true from HF.out]; rfl, bel_alloc hB hB.size (hb1.trans (hb2.mono hb1.size))⟩
        · obtain rfl : k = len := by omega
          have HE : Hid (fitsV rs h = false) := Lib.hid (by
            have hl := HR.out.length
            rw [List.take_of_length_le (by omega)] at hno
            exact hno)
          go_wp2
          go_ret
          exact ⟨by rw [HE.out]; rfl, hB⟩
end Go.Proofs.Ytikdkhiehfccpaa
