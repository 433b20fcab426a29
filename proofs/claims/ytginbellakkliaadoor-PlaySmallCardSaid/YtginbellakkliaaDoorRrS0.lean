/- The deals and contracts of PlaySmall. No walk. -/
import Derived.Test.YtginbellakkliaaDoorMRrd
namespace Go.Proofs.YtginbellakkliaaDoor
open Go.RowKit

def smD : Nat → Nat → Nat
  | 0 => L4 8193 16386 32772 33558528
  | 1 => L4 16385 67117056 134217730 2252899325313024
  | 2 => L4 3 12 48 192
  | 3 => L4 549755813889 1099578736640 2199023263744 4398180728832
  | _ => L4 0 0 0 0
def bgD : Nat → Nat → Nat
  | 0 => L4 0 0 0 0
  | 1 => L4 1 0 0 0
  | 2 => L4 1 2 4 0
  | 3 => L4 1 2 4 4
  | 4 => L4 1 2 4 8
  | 5 => L4 1 2 4 4503599627370496
  | 6 => L4 9223372036854775808 4611686018427387904 2305843009213693952 1152921504606846976
  | 7 => L4 3 12 48 64
  | 8 => L4 3 12 48 129
  | 9 => L4 8191 67100672 549688705024 4503049871556608
  | 10 => L4 16383 0 0 0
  | 11 => L4 16383 268419072 4397778075648 72053195991416832
  | _ => L4 0 0 0 0
def smC : Nat → Nat → Nat
  | 0 => L4 1 4 0 2
  | 1 => L4 0 0 0 0
  | 2 => L4 8 0 0 0
  | 3 => L4 1 5 0 0
  | 4 => L4 1 0 3 0
  | 5 => L4 1 0 0 4
  | _ => L4 0 0 0 0
theorem l4_w64 {a b c e : Nat} (ha : W64 a) (hb : W64 b) (hc : W64 c) (he : W64 e) (j : Nat) : W64 (L4 a b c e j) := by
  match j with
  | 0 => exact ha
  | 1 => exact hb
  | 2 => exact hc
  | 3 => exact he
  | _ + 4 => show W64 0; unfold W64; decide
theorem smD_w64 (i : Nat) (hi : i < 4) (j : Nat) : W64 (smD i j) := by
  rcases (show i = 0 ∨ i = 1 ∨ i = 2 ∨ i = 3 by omega) with rfl | rfl | rfl | rfl <;> exact l4_w64 (by unfold W64; decide) (by unfold W64; decide) (by unfold W64; decide) (by unfold W64; decide) j
theorem bgD_w64 (i : Nat) (hi : i < 12) (j : Nat) : W64 (bgD i j) := by
  rcases (show i = 0 ∨ i = 1 ∨ i = 2 ∨ i = 3 ∨ i = 4 ∨ i = 5 ∨ i = 6 ∨ i = 7 ∨ i = 8 ∨ i = 9 ∨ i = 10 ∨ i = 11 by omega) with rfl | rfl | rfl | rfl | rfl | rfl | rfl | rfl | rfl | rfl | rfl | rfl <;> exact l4_w64 (by unfold W64; decide) (by unfold W64; decide) (by unfold W64; decide) (by unfold W64; decide) j
theorem smD_far (i : Nat) (hi : i < 4) (j : Nat) (hj : 4 ≤ j) : smD i j = 0 := by
  rcases (show i = 0 ∨ i = 1 ∨ i = 2 ∨ i = 3 by omega) with rfl | rfl | rfl | rfl <;> exact L4_far _ _ _ _ j hj
theorem bgD_far (i : Nat) (hi : i < 12) (j : Nat) (hj : 4 ≤ j) : bgD i j = 0 := by
  rcases (show i = 0 ∨ i = 1 ∨ i = 2 ∨ i = 3 ∨ i = 4 ∨ i = 5 ∨ i = 6 ∨ i = 7 ∨ i = 8 ∨ i = 9 ∨ i = 10 ∨ i = 11 by omega) with rfl | rfl | rfl | rfl | rfl | rfl | rfl | rfl | rfl | rfl | rfl | rfl <;> exact L4_far _ _ _ _ j hj
theorem smD_ok (i : Nat) (hi : i < 4) : Deal4 (smD i) 2 := by
  have h : dealOk (smD i) = true ∧ pop (smD i 0) = 2 := by
    rcases (show i = 0 ∨ i = 1 ∨ i = 2 ∨ i = 3 by omega) with rfl | rfl | rfl | rfl <;> decide +kernel
  have := deal4_of (smD_w64 i hi) (smD_far i hi) h.1
  rwa [h.2] at this
theorem smD_get (i j : Nat) (hi : i < 4) (hj : j < 4) : (#[.int .u64 8193, .int .u64 16386, .int .u64 32772, .int .u64 33558528, .int .u64 16385, .int .u64 67117056, .int .u64 134217730, .int .u64 2252899325313024, .int .u64 3, .int .u64 12, .int .u64 48, .int .u64 192, .int .u64 549755813889, .int .u64 1099578736640, .int .u64 2199023263744, .int .u64 4398180728832] : Array Value)[i * 4 + j]? = some (.int .u64 (smD i j : Int)) := by
  rcases (show i = 0 ∨ i = 1 ∨ i = 2 ∨ i = 3 by omega) with rfl | rfl | rfl | rfl <;> rcases (show j = 0 ∨ j = 1 ∨ j = 2 ∨ j = 3 by omega) with rfl | rfl | rfl | rfl <;> rfl
theorem bgD_get (i j : Nat) (hi : i < 12) (hj : j < 4) : (#[.int .u64 0, .int .u64 0, .int .u64 0, .int .u64 0, .int .u64 1, .int .u64 0, .int .u64 0, .int .u64 0, .int .u64 1, .int .u64 2, .int .u64 4, .int .u64 0, .int .u64 1, .int .u64 2, .int .u64 4, .int .u64 4, .int .u64 1, .int .u64 2, .int .u64 4, .int .u64 8, .int .u64 1, .int .u64 2, .int .u64 4, .int .u64 4503599627370496, .int .u64 9223372036854775808, .int .u64 4611686018427387904, .int .u64 2305843009213693952, .int .u64 1152921504606846976, .int .u64 3, .int .u64 12, .int .u64 48, .int .u64 64, .int .u64 3, .int .u64 12, .int .u64 48, .int .u64 129, .int .u64 8191, .int .u64 67100672, .int .u64 549688705024, .int .u64 4503049871556608, .int .u64 16383, .int .u64 0, .int .u64 0, .int .u64 0, .int .u64 16383, .int .u64 268419072, .int .u64 4397778075648, .int .u64 72053195991416832] : Array Value)[i * 4 + j]? = some (.int .u64 (bgD i j : Int)) := by
  rcases (show i = 0 ∨ i = 1 ∨ i = 2 ∨ i = 3 ∨ i = 4 ∨ i = 5 ∨ i = 6 ∨ i = 7 ∨ i = 8 ∨ i = 9 ∨ i = 10 ∨ i = 11 by omega) with rfl | rfl | rfl | rfl | rfl | rfl | rfl | rfl | rfl | rfl | rfl | rfl <;> rcases (show j = 0 ∨ j = 1 ∨ j = 2 ∨ j = 3 by omega) with rfl | rfl | rfl | rfl <;> rfl
theorem smC_get (i j : Nat) (hi : i < 6) (hj : j < 4) : (#[.int .u8 1, .int .u8 4, .int .u8 0, .int .u8 2, .int .u8 0, .int .u8 0, .int .u8 0, .int .u8 0, .int .u8 8, .int .u8 0, .int .u8 0, .int .u8 0, .int .u8 1, .int .u8 5, .int .u8 0, .int .u8 0, .int .u8 1, .int .u8 0, .int .u8 3, .int .u8 0, .int .u8 1, .int .u8 0, .int .u8 0, .int .u8 4] : Array Value)[i * 4 + j]? = some (.int .u8 (smC i j : Int)) := by
  rcases (show i = 0 ∨ i = 1 ∨ i = 2 ∨ i = 3 ∨ i = 4 ∨ i = 5 by omega) with rfl | rfl | rfl | rfl | rfl | rfl <;> rcases (show j = 0 ∨ j = 1 ∨ j = 2 ∨ j = 3 by omega) with rfl | rfl | rfl | rfl <;> rfl
end Go.Proofs.YtginbellakkliaaDoor
