/- Words of 64 bits as natural numbers: what the operations on uint64 come to, as rules of the walk. -/
import Derived.WalkKit
import Derived.WalkSpells
import Derived.WalkLawsBesides
import Derived.Lib.Hide
namespace Go.Proofs.YtgnlmodaekfhfaaDoor
open Go.RowKit

/-- a number of 64 bits -/
def W64 (m : Nat) : Prop := m < 18446744073709551616
def shr (m c : Nat) : Nat := m >>> c
def shl1 (c : Nat) : Nat := if c < 64 then 2 ^ c else 0
def bitAt (m c : Nat) : Nat := (m >>> c) % 2
def lor (m n : Nat) : Nat := m ||| n
def land (m n : Nat) : Nat := m &&& n
def landn (m n : Nat) : Nat := m ^^^ (m &&& n)

theorem W64.lt {m : Nat} (h : W64 m) : m < 2 ^ 64 := h
theorem W64.of_lt {m : Nat} (h : m < 2 ^ 64) : W64 m := h
theorem W64.lor {m n : Nat} (h : W64 m) (k : W64 n) : W64 (lor m n) := Nat.or_lt_two_pow (n := 64) h k
theorem W64.land {m n : Nat} (h : W64 m) : W64 (land m n) := Nat.lt_of_le_of_lt Nat.and_le_left h
theorem W64.shr {m c : Nat} (h : W64 m) : W64 (shr m c) := Nat.lt_of_le_of_lt (Nat.shiftRight_le m c) h
theorem W64.landn {m n : Nat} (h : W64 m) : W64 (landn m n) := Nat.xor_lt_two_pow (n := 64) h (W64.land h)
theorem W64.shl1 (c : Nat) : W64 (shl1 c) := by
  unfold Proofs.YtgnlmodaekfhfaaDoor.shl1 W64
  split
  · rename_i h; exact Nat.pow_lt_pow_right (a := 2) (by decide) h
  · decide
theorem W64.zero : W64 0 := by unfold W64; decide

theorem bitAt_eq (m c : Nat) : bitAt m c = (m.testBit c).toNat := by
  unfold bitAt; rw [Nat.testBit_eq_decide_div_mod_eq, Nat.shiftRight_eq_div_pow]
  have := Nat.mod_two_eq_zero_or_one (m / 2 ^ c)
  rcases this with h | h <;> simp [h]
theorem testBit_lor (m n i : Nat) : (lor m n).testBit i = (m.testBit i || n.testBit i) := by simp [lor]
theorem testBit_land (m n i : Nat) : (land m n).testBit i = (m.testBit i && n.testBit i) := by simp [land]
theorem testBit_landn (m n i : Nat) : (landn m n).testBit i = (m.testBit i && !n.testBit i) := by
  simp only [landn, Nat.testBit_xor, Nat.testBit_and]
  cases m.testBit i <;> cases n.testBit i <;> rfl
theorem testBit_shl1 (c i : Nat) : (shl1 c).testBit i = (decide (c = i) && decide (c < 64)) := by
  unfold shl1
  split
  · rename_i h; simp [Nat.testBit_two_pow, h]
  · rename_i h; simp [h]

theorem wrap_u64 (n : Nat) (h : W64 n) : IntKind.u64.wrap (n : Int) = n := by
  unfold W64 at h
  rw [IntKind.wrap_u64]; omega
theorem bv64 (n : Nat) : (BitVec.ofInt 64 (n : Int)) = BitVec.ofNat 64 n := by
  simp [BitVec.ofInt_natCast]
theorem run_or64 (m n : Nat) (h : W64 m) (k : W64 n) : Op.intBits .or .u64 (m : Int) (n : Int) = pure (.int .u64 ((lor m n : Nat) : Int)) := by
  have e : Op.intBits .or .u64 (m : Int) (n : Int) = pure (.int .u64 (IntKind.u64.wrap (((BitVec.ofInt 64 (m : Int)) ||| (BitVec.ofInt 64 (n : Int))).toNat : Nat))) := rfl
  rw [e, bv64, bv64, BitVec.toNat_or, BitVec.toNat_ofNat, BitVec.toNat_ofNat, Nat.mod_eq_of_lt h.lt, Nat.mod_eq_of_lt k.lt]
  exact congrArg (fun x => pure (Value.int .u64 x)) (wrap_u64 (lor m n) (h.lor k))
theorem run_and64 (m n : Nat) (h : W64 m) (k : W64 n) : Op.intBits .and .u64 (m : Int) (n : Int) = pure (.int .u64 ((land m n : Nat) : Int)) := by
  have e : Op.intBits .and .u64 (m : Int) (n : Int) = pure (.int .u64 (IntKind.u64.wrap (((BitVec.ofInt 64 (m : Int)) &&& (BitVec.ofInt 64 (n : Int))).toNat : Nat))) := rfl
  rw [e, bv64, bv64, BitVec.toNat_and, BitVec.toNat_ofNat, BitVec.toNat_ofNat, Nat.mod_eq_of_lt h.lt, Nat.mod_eq_of_lt k.lt]
  exact congrArg (fun x => pure (Value.int .u64 x)) (wrap_u64 (land m n) h.land)
theorem run_andn64 (m n : Nat) (h : W64 m) (_k : W64 n) : Op.intBits .andNot .u64 (m : Int) (n : Int) = pure (.int .u64 ((landn m n : Nat) : Int)) := by
  have e : Op.intBits .andNot .u64 (m : Int) (n : Int) = pure (.int .u64 (IntKind.u64.wrap (((BitVec.ofInt 64 (m : Int)) &&& ~~~(BitVec.ofInt 64 (n : Int))).toNat : Nat))) := rfl
  have f : ((BitVec.ofNat 64 m) &&& ~~~(BitVec.ofNat 64 n)).toNat = landn m n := by
    apply Nat.eq_of_testBit_eq
    intro i
    rw [testBit_landn, ← BitVec.getLsbD, BitVec.getLsbD_and, BitVec.getLsbD_not, BitVec.getLsbD_ofNat, BitVec.getLsbD_ofNat]
    by_cases hi : i < 64
    · simp [hi]
    · have : m.testBit i = false := Nat.testBit_lt_two_pow (Nat.lt_of_lt_of_le h.lt (Nat.pow_le_pow_right (by decide) (by omega)))
      simp [hi, this]
  rw [e, bv64, bv64, f]
  exact congrArg (fun x => pure (Value.int .u64 x)) (wrap_u64 (landn m n) h.landn)
theorem run_bit64 (m c : Nat) (h : W64 m) : Op.intBits .and .u64 ((shr m c : Nat) : Int) 1 = pure (.int .u64 ((bitAt m c : Nat) : Int)) := by
  have := run_and64 (shr m c) 1 h.shr (by unfold W64; decide)
  have e : land (shr m c) 1 = bitAt m c := by unfold land shr bitAt; exact Nat.and_one_is_mod _
  rw [e] at this
  exact this
theorem run_shr64 (m c : Nat) (yk : IntKind) (h : W64 m) : Op.shift .shr .u64 (m : Int) yk (c : Int) = pure (.int .u64 ((shr m c : Nat) : Int)) := by
  have e : Op.shift .shr .u64 (m : Int) yk (c : Int) = if (c : Int) < 0 then runtimePanic (.error "negative shift amount") else pure (.int .u64 ((m : Int).fdiv (2 ^ min (c : Int).toNat 64))) := rfl
  rw [e, if_neg (by omega)]
  congr 2
  rw [Int.toNat_natCast, Int.fdiv_eq_ediv_of_nonneg _ (by exact_mod_cast Nat.zero_le (2 ^ min c 64))]
  have : ((m : Int) / 2 ^ min c 64) = ((m / 2 ^ min c 64 : Nat) : Int) := by simp
  rw [this]
  congr 1
  unfold shr
  rw [Nat.shiftRight_eq_div_pow]
  rcases Nat.le_total c 64 with hc | hc
  · rw [Nat.min_eq_left hc]
  · rw [Nat.min_eq_right hc, Nat.div_eq_of_lt h.lt, Nat.div_eq_of_lt (Nat.lt_of_lt_of_le h.lt (Nat.pow_le_pow_right (by decide) hc))]
theorem run_shl64 (c : Nat) (yk : IntKind) : Op.shift .shl .u64 1 yk (c : Int) = pure (.int .u64 ((shl1 c : Nat) : Int)) := by
  have e : Op.shift .shl .u64 1 yk (c : Int) = if (c : Int) < 0 then runtimePanic (.error "negative shift amount") else pure (.int .u64 (IntKind.u64.wrap (1 * 2 ^ min (c : Int).toNat 64))) := rfl
  rw [e, if_neg (by omega)]
  congr 2
  rw [Int.toNat_natCast, IntKind.wrap_u64]
  have : (1 * 2 ^ min c 64 : Int) = ((2 ^ min c 64 : Nat) : Int) := by simp
  rw [this]
  unfold shl1
  split
  · rename_i hc
    rw [Nat.min_eq_left (by omega)]
    have := Nat.pow_lt_pow_right (a := 2) (by decide) hc
    generalize 2 ^ c = x at *
    omega
  · rw [Nat.min_eq_right (by omega)]; decide
theorem bitAt_one (m c : Nat) : (((bitAt m c : Nat) : Int) == 1) = m.testBit c := by
  rw [bitAt_eq]; cases m.testBit c <;> rfl
theorem bitAt_zero (m c : Nat) : (((bitAt m c : Nat) : Int) == 0) = !m.testBit c := by
  rw [bitAt_eq]; cases m.testBit c <;> rfl
attribute [go_sem ↓] run_or64 run_and64 run_andn64 run_bit64 run_shr64 run_shl64 bitAt_one bitAt_zero
attribute [go_sem] W64.shl1 W64.lor W64.land W64.shr W64.landn W64.zero
end Go.Proofs.YtgnlmodaekfhfaaDoor
