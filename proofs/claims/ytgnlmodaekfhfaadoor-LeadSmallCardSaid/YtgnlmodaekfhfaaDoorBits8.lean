/- Bytes as numbers: or, and, shifts. -/
import Derived.Test.YtgnlmodaekfhfaaDoorBits
namespace Go.Proofs.YtgnlmodaekfhfaaDoor
open Go.RowKit

theorem bv8 (n : Nat) : (BitVec.ofInt 8 (n : Int)) = BitVec.ofNat 8 n := by simp [BitVec.ofInt_natCast]
theorem wrap_u8_nat (n : Nat) (h : n < 256) : IntKind.u8.wrap (n : Int) = n := by rw [IntKind.wrap_u8]; omega
theorem run_or8 (m n : Nat) (h : m < 256) (k : n < 256) : Op.intBits .or .u8 (m : Int) (n : Int) = pure (.int .u8 ((m ||| n : Nat) : Int)) := by
  have e : Op.intBits .or .u8 (m : Int) (n : Int) = pure (.int .u8 (IntKind.u8.wrap (((BitVec.ofInt 8 (m : Int)) ||| (BitVec.ofInt 8 (n : Int))).toNat : Nat))) := rfl
  rw [e, bv8, bv8, BitVec.toNat_or, BitVec.toNat_ofNat, BitVec.toNat_ofNat, Nat.mod_eq_of_lt h, Nat.mod_eq_of_lt k]
  exact congrArg (fun x => pure (Value.int .u8 x)) (wrap_u8_nat (m ||| n) (Nat.or_lt_two_pow (n := 8) h k))
theorem run_and8 (m n : Nat) (h : m < 256) (k : n < 256) : Op.intBits .and .u8 (m : Int) (n : Int) = pure (.int .u8 ((m &&& n : Nat) : Int)) := by
  have e : Op.intBits .and .u8 (m : Int) (n : Int) = pure (.int .u8 (IntKind.u8.wrap (((BitVec.ofInt 8 (m : Int)) &&& (BitVec.ofInt 8 (n : Int))).toNat : Nat))) := rfl
  rw [e, bv8, bv8, BitVec.toNat_and, BitVec.toNat_ofNat, BitVec.toNat_ofNat, Nat.mod_eq_of_lt h, Nat.mod_eq_of_lt k]
  exact congrArg (fun x => pure (Value.int .u8 x)) (wrap_u8_nat (m &&& n) (Nat.lt_of_le_of_lt Nat.and_le_left h))
theorem run_shr8 (m c : Nat) (yk : IntKind) (h : m < 256) : Op.shift .shr .u8 (m : Int) yk (c : Int) = pure (.int .u8 ((m >>> c : Nat) : Int)) := by
  have e : Op.shift .shr .u8 (m : Int) yk (c : Int) = if (c : Int) < 0 then runtimePanic (.error "negative shift amount") else pure (.int .u8 ((m : Int).fdiv (2 ^ min (c : Int).toNat 8))) := rfl
  rw [e, if_neg (by omega)]
  congr 2
  rw [Int.toNat_natCast, Int.fdiv_eq_ediv_of_nonneg _ (by exact_mod_cast Nat.zero_le (2 ^ min c 8))]
  have : ((m : Int) / 2 ^ min c 8) = ((m / 2 ^ min c 8 : Nat) : Int) := by simp
  rw [this]
  congr 1
  rw [Nat.shiftRight_eq_div_pow]
  rcases Nat.le_total c 8 with hc | hc
  · rw [Nat.min_eq_left hc]
  · rw [Nat.min_eq_right hc, Nat.div_eq_of_lt h, Nat.div_eq_of_lt (Nat.lt_of_lt_of_le h (Nat.pow_le_pow_right (n := 2) (by decide) hc))]
theorem run_shl8 (c : Nat) (yk : IntKind) (hc : c < 8) : Op.shift .shl .u8 1 yk (c : Int) = pure (.int .u8 ((2 ^ c : Nat) : Int)) := by
  have e : Op.shift .shl .u8 1 yk (c : Int) = if (c : Int) < 0 then runtimePanic (.error "negative shift amount") else pure (.int .u8 (IntKind.u8.wrap (1 * 2 ^ min (c : Int).toNat 8))) := rfl
  rw [e, if_neg (by omega)]
  congr 2
  rw [Int.toNat_natCast, Nat.min_eq_left (by omega)]
  have : (1 * 2 ^ c : Int) = ((2 ^ c : Nat) : Int) := by simp
  rw [this]
  exact wrap_u8_nat _ (Nat.pow_lt_pow_right (a := 2) (n := 8) (by decide) hc)
theorem bits_or8 (m n : Nat) (h : m < 256) (k : n < 256) : bits .or .u8 (m : Int) (n : Int) = ((m ||| n : Nat) : Int) := by
  have h := run_or8 m n h k
  rw [intBits_or] at h
  injection h with h
  injection h
theorem pow_u8 {p q : Nat} (h : p = 2 ^ q) (hq : q < 8) : ((2 : Int) ^ q) % 256 = (p : Int) := by
  have : ((2 : Int) ^ q) = ((2 ^ q : Nat) : Int) := by simp
  rw [this, ← h]
  have : p < 256 := by rw [h]; exact Nat.pow_lt_pow_right (a := 2) (n := 8) (by decide) hq
  omega
/-- 8191 moved by 13 k places -/
theorem run_shl13 (k : Nat) (hk : k < 4) (yk : IntKind) : Op.shift .shl .u64 8191 yk ((13 * k : Nat) : Int) = pure (.int .u64 ((8191 <<< (13 * k) : Nat) : Int)) := by
  have e : ∀ c : Int, Op.shift .shl .u64 8191 yk c = if c < 0 then runtimePanic (.error "negative shift amount") else pure (.int .u64 (IntKind.u64.wrap (8191 * 2 ^ min c.toNat 64))) := fun _ => rfl
  rw [e, if_neg (by omega)]
  rcases (show k = 0 ∨ k = 1 ∨ k = 2 ∨ k = 3 by omega) with rfl | rfl | rfl | rfl <;> rfl
end Go.Proofs.YtgnlmodaekfhfaaDoor
