/- Plain facts for finesselaw11.TrickFollow, and rules of the walk for masks of 52 bits. -/
import Derived.Test.YthilcnhnfdddhaaDoorMade
import Derived.Test.YthilcnhnfdddhaaDoorOnes
import Derived.Test.YthilcnhnfdddhaaDoorRefF
namespace Go.Proofs.YthilcnhnfdddhaaDoor
open Go.RowKit Go.Shelf Go.Sort

/-- the low 52 bits -/
def lo52 (m : Nat) : Nat := m % 4503599627370496
theorem lo52_lt (m : Nat) : lo52 m < 4503599627370496 := Nat.mod_lt _ (by decide)
theorem lo52_w64 (m : Nat) : W64 (lo52 m) := Nat.lt_trans (lo52_lt m) (by decide)
theorem land_mask (m k : Nat) : land m (2 ^ k - 1) = m % 2 ^ k := by unfold land; exact Nat.and_two_pow_sub_one_eq_mod _ _
theorem run_and52 (m : Nat) (h : W64 m) : Op.intBits .and .u64 (m : Int) 4503599627370495 = pure (.int .u64 ((lo52 m : Nat) : Int)) := by
  have := run_and64 m 4503599627370495 h (by unfold W64; decide)
  have e : land m 4503599627370495 = lo52 m := land_mask m 52
  rw [e] at this
  exact this
/-- the low 13 bits of a shifted word -/
def lo13 (m : Nat) : Nat := m % 8192
theorem run_and13 (m : Nat) (h : W64 m) : Op.intBits .and .u64 (m : Int) 8191 = pure (.int .u64 ((lo13 m : Nat) : Int)) := by
  have := run_and64 m 8191 h (by unfold W64; decide)
  have e : land m 8191 = lo13 m := land_mask m 13
  rw [e] at this
  exact this
/-- a word shifted up -/
def shlv (x c : Nat) : Nat := x * 2 ^ min c 64 % 18446744073709551616
theorem run_shlv (x c : Nat) (yk : IntKind) : Op.shift .shl .u64 ((lo13 x : Nat) : Int) yk (c : Int) = pure (.int .u64 ((shlv (lo13 x) c : Nat) : Int)) := by
  have e : Op.shift .shl .u64 ((lo13 x : Nat) : Int) yk (c : Int) = if (c : Int) < 0 then runtimePanic (.error "negative shift amount") else pure (.int .u64 (IntKind.u64.wrap (((lo13 x : Nat) : Int) * 2 ^ min (c : Int).toNat 64))) := rfl
  rw [e, if_neg (by omega), Int.toNat_natCast, IntKind.wrap_u64]
  unfold shlv
  have : (((lo13 x : Nat) : Int) * 2 ^ min c 64) = ((lo13 x * 2 ^ min c 64 : Nat) : Int) := by simp
  rw [this]
  congr 2
theorem W64.lo13 (m : Nat) : W64 (lo13 m) := Nat.lt_trans (Nat.mod_lt _ (by decide)) (by decide)
attribute [go_sem ↓] run_and52 run_and13 run_shlv
attribute [go_sem] lo52_w64 W64.lo13

theorem maskOf_fold_bit (i : Nat) : ∀ (l : List Nat) (f : Nat), (∀ c ∈ l, c < 64) → (l.foldl (fun m c => lor m (shl1 c)) f).testBit i = (f.testBit i || decide (i ∈ l))
  | [], f, _ => by simp
  | c :: l, f, h => by
    rw [List.foldl_cons, maskOf_fold_bit i l _ (fun x hx => h x (List.mem_cons_of_mem _ hx)), testBit_lor_shl1 _ _ _ (h c (List.mem_cons_self))]
    by_cases hc : c = i
    · simp [hc]
    · have : ¬ i = c := fun e => hc e.symm
      simp [hc, this]
theorem maskOf_bit (l : List Nat) (h : ∀ c ∈ l, c < 64) (i : Nat) : (maskOf l).testBit i = decide (i ∈ l) := by
  unfold maskOf; rw [maskOf_fold_bit i l 0 h]; simp
theorem own_eq (H : Nat) (l : List Nat) (h : rightB l = true) : landn H (maskOf l) = restV H l := by
  apply Nat.eq_of_testBit_eq
  intro i
  rw [rest_bit H l (right_mask h), testBit_landn, maskOf_bit l (fun c hc => by have := ((rightB_iff l).1 h).2.2.1 c hc; omega)]
  simp
theorem cnt_52 {m : Nat} (hm : m < 2 ^ 52) : cnt m 52 = pop m := by
  unfold pop
  rw [show 64 = 52 + 12 from rfl, cnt_add, Nat.shiftRight_eq_div_pow, Nat.div_eq_of_lt hm]
  rfl
theorem pop_pos {m : Nat} (h0 : m ≠ 0) (hm : W64 m) : 0 < pop m := by
  obtain ⟨h1, _⟩ := ctz_bit m h0 hm
  obtain ⟨_, _, hk⟩ := ctz_spec m h0 hm
  generalize Lib.ctz 64 m = i at *
  have : ∀ k, i < k → 0 < cnt m k := by
    intro k
    induction k with
    | zero => omega
    | succ k ih =>
      intro hi
      rw [cnt]
      rcases Nat.lt_succ_iff_lt_or_eq.1 hi with h | h
      · have := ih h; omega
      · subst h; rw [h1]; simp
  exact this 64 hk
theorem pop_zero : pop 0 = 0 := by
  unfold pop
  have : ∀ k, cnt 0 k = 0 := by
    intro k; induction k with
    | zero => rfl
    | succ k ih => rw [cnt, ih]; simp
  exact this 64
theorem landn_zero (m : Nat) : landn m 0 = m := by
  apply Nat.eq_of_testBit_eq; intro i; rw [testBit_landn]; simp
/-- a mask of one suit, shifted down and up, is itself -/
theorem suit_mask (F s : Nat) (hs : s ≤ 3) (hF : ∀ i, F.testBit i = true → i < 52 ∧ i / 13 = s) : shlv (lo13 (shr F (13 * s))) (13 * s) = F := by
  have h1 : F < 2 ^ (13 * s + 13) := lt_of_bits _ fun i hi => by have := hF i hi; omega
  have h2 : lo13 (shr F (13 * s)) = F / 2 ^ (13 * s) := by
    unfold lo13 shr
    rw [Nat.shiftRight_eq_div_pow]
    apply Nat.mod_eq_of_lt
    rw [Nat.div_lt_iff_lt_mul (Nat.two_pow_pos _)]
    rw [Nat.pow_add] at h1
    rwa [Nat.mul_comm] at h1
  have h3 : F % 2 ^ (13 * s) = 0 := by
    apply Nat.eq_of_testBit_eq
    intro i
    rw [Nat.testBit_mod_two_pow, Nat.zero_testBit]
    by_cases hi : i < 13 * s
    · cases hb : F.testBit i
      · simp
      · have := hF i hb; omega
    · simp [hi]
  unfold shlv
  rw [h2, Nat.min_eq_left (by omega)]
  have h4 := Nat.div_add_mod F (2 ^ (13 * s))
  rw [h3, Nat.add_zero, Nat.mul_comm] at h4
  rw [h4]
  apply Nat.mod_eq_of_lt
  exact Nat.lt_of_lt_of_le h1 (Nat.le_trans (Nat.pow_le_pow_right (n := 2) (by decide) (show 13 * s + 13 ≤ 52 by omega)) (by decide))
theorem landn_sub {F O : Nat} (h : ∀ i, F.testBit i = true → O.testBit i = true) : landn F O = 0 := by
  apply Nat.eq_of_testBit_eq; intro i; rw [testBit_landn, Nat.zero_testBit]
  cases hb : F.testBit i
  · rfl
  · rw [h i hb]; rfl
theorem made_right (zs : List Nat) (n : Nat) (h1 : 1 ≤ n) (h4 : n ≤ 4) : rightB (madeTo zs n) = true := by
  rw [rightB_iff, madeTo_length]
  exact ⟨h1, h4, madeTo_ok zs n h4⟩
end Go.Proofs.YthilcnhnfdddhaaDoor
