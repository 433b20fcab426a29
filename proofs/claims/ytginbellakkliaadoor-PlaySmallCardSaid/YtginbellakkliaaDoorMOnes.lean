/- OnesQ, OnesR in one text. -/
import Derived.Test.YtginbellakkliaaDoorMLow
import Derived.Test.YtginbellakkliaaDoorProg

/- How many bits a word has: the plain part of math/bits.OnesCount64. -/
namespace Go.Proofs.YtginbellakkliaaDoor
open Go.RowKit

theorem bits_and_nat (a b : Nat) (ha : W64 a) (hb : W64 b) : bits .and .u64 (a : Int) (b : Int) = ((a &&& b : Nat) : Int) := by
  have h := run_and64 a b ha hb
  rw [intBits_and] at h
  injection h with h
  injection h

/-- how many of the first k bits are set -/
def cnt (m : Nat) : Nat → Nat
  | 0 => 0
  | k + 1 => cnt m k + (m.testBit k).toNat
/-- how many bits of a word are set -/
def pop (m : Nat) : Nat := cnt m 64
theorem cnt_le (m : Nat) : ∀ k, cnt m k ≤ k
  | 0 => Nat.le_refl _
  | k + 1 => by have := cnt_le m k; have : (m.testBit k).toNat ≤ 1 := Bool.toNat_le _; simp only [cnt]; omega
theorem cnt_add (m a : Nat) : ∀ b, cnt m (a + b) = cnt m a + cnt (m >>> a) b
  | 0 => rfl
  | b + 1 => by
    rw [← Nat.add_assoc, cnt, cnt, cnt_add m a b, Nat.testBit_shiftRight]; omega
theorem cnt_congr {m n : Nat} : ∀ k, (∀ i, i < k → m.testBit i = n.testBit i) → cnt m k = cnt n k
  | 0, _ => rfl
  | k + 1, h => by rw [cnt, cnt, cnt_congr k (fun i hi => h i (by omega)), h k (by omega)]
theorem cnt_byte (m : Nat) : cnt m 8 = cnt (m % 256) 8 := cnt_congr 8 fun i hi => by
  rw [show (256 : Nat) = 2 ^ 8 from rfl, Nat.testBit_mod_two_pow]; simp [hi]
theorem cnt_bytes (m n : Nat) : cnt m (8 * (n + 1)) = cnt (m % 256) 8 + cnt (m / 256) (8 * n) := by
  rw [show 8 * (n + 1) = 8 + 8 * n by omega, cnt_add, cnt_byte, Nat.shiftRight_eq_div_pow]

/-- n bytes p -/
def mk (p : Nat) : Nat → Nat
  | 0 => 0
  | n + 1 => p + 256 * mk p n
theorem and_byte (x p m : Nat) (hp : p < 256) : x &&& (p + 256 * m) = ((x % 256) &&& p) + 256 * ((x / 256) &&& m) := by
  have h1 : (x &&& (p + 256 * m)) % 256 = (x % 256) &&& p := by
    have := Nat.and_mod_two_pow (a := x) (b := p + 256 * m) (n := 8)
    rw [show (2 : Nat) ^ 8 = 256 from rfl] at this
    rw [this, show (p + 256 * m) % 256 = p by omega]
  have h2 : (x &&& (p + 256 * m)) / 256 = (x / 256) &&& m := by
    have := Nat.shiftRight_and_distrib (a := x) (b := p + 256 * m) (i := 8)
    simp only [Nat.shiftRight_eq_div_pow] at this
    rw [show (2 : Nat) ^ 8 = 256 from rfl] at this
    rw [this, show (p + 256 * m) / 256 = m by omega]
  have := Nat.div_add_mod (x &&& (p + 256 * m)) 256
  omega
theorem and_mk (x p n : Nat) (hp : p < 256) : x &&& mk p (n + 1) = ((x % 256) &&& p) + 256 * ((x / 256) &&& mk p n) := and_byte x p (mk p n) hp

def S1 (n x : Nat) : Nat := ((x / 2) &&& mk 85 n) + (x &&& mk 85 n)
def S2 (n x : Nat) : Nat := ((x / 4) &&& mk 51 n) + (x &&& mk 51 n)
def S3 (n x : Nat) : Nat := (x / 16 + x) &&& mk 15 n
theorem byte1 : ∀ a : Fin 128, ∀ b : Fin 2, (a.val + 128 * b.val) &&& 85 = a.val &&& 85 := by decide
theorem byte2 : ∀ a : Fin 64, ∀ b : Fin 4, (a.val + 64 * b.val) &&& 51 = a.val &&& 51 := by decide
theorem S1_succ (n x : Nat) : S1 (n + 1) x = (((x % 256) / 2 &&& 85) + ((x % 256) &&& 85)) + 256 * S1 n (x / 256) := by
  unfold S1
  rw [and_mk _ 85 n (by decide), and_mk _ 85 n (by decide)]
  have e1 : x / 2 % 256 = (x % 256) / 2 + 128 * (x / 256 % 2) := by omega
  have e2 : x / 2 / 256 = x / 256 / 2 := by omega
  have e3 := byte1 ⟨(x % 256) / 2, by omega⟩ ⟨x / 256 % 2, by omega⟩
  simp only at e3
  rw [e1, e2, e3]
  omega
theorem S2_succ (n x : Nat) : S2 (n + 1) x = (((x % 256) / 4 &&& 51) + ((x % 256) &&& 51)) + 256 * S2 n (x / 256) := by
  unfold S2
  rw [and_mk _ 51 n (by decide), and_mk _ 51 n (by decide)]
  have e1 : x / 4 % 256 = (x % 256) / 4 + 64 * (x / 256 % 4) := by omega
  have e2 : x / 4 / 256 = x / 256 / 4 := by omega
  have e3 := byte2 ⟨(x % 256) / 4, by omega⟩ ⟨x / 256 % 4, by omega⟩
  simp only at e3
  rw [e1, e2, e3]
  omega
def s1 (b : Nat) : Nat := (b / 2 &&& 85) + (b &&& 85)
def s2 (b : Nat) : Nat := (b / 4 &&& 51) + (b &&& 51)
set_option maxRecDepth 100000 in
theorem byte_all : ∀ b : Fin 256, s1 b.val < 256 ∧ s2 (s1 b.val) < 256 ∧ s2 (s1 b.val) / 16 ≤ 4 ∧ s2 (s1 b.val) % 16 ≤ 4 ∧ ((s2 (s1 b.val) / 16 + s2 (s1 b.val)) % 16) = cnt b.val 8 := by decide +kernel
theorem byte_mod : ∀ a : Fin 256, a.val &&& 15 = a.val % 16 := by decide +kernel
def T (n x : Nat) : Nat := S2 n (S1 n x)
theorem T_succ (n x : Nat) : T (n + 1) x = s2 (s1 (x % 256)) + 256 * T n (x / 256) := by
  obtain ⟨h1, _⟩ := byte_all ⟨x % 256, Nat.mod_lt _ (by decide)⟩
  simp only at h1
  unfold T
  rw [S2_succ, S1_succ]
  have e : (x % 256 / 2 &&& 85) + (x % 256 &&& 85) = s1 (x % 256) := rfl
  rw [e]
  have e1 : (s1 (x % 256) + 256 * S1 n (x / 256)) % 256 = s1 (x % 256) := by omega
  have e2 : (s1 (x % 256) + 256 * S1 n (x / 256)) / 256 = S1 n (x / 256) := by omega
  rw [e1, e2]; rfl
theorem T_low (n x : Nat) : T n x % 16 ≤ 4 := by
  cases n with
  | zero => simp [T, S2, S1, mk]
  | succ n =>
    obtain ⟨_, _, _, h, _⟩ := byte_all ⟨x % 256, Nat.mod_lt _ (by decide)⟩
    simp only at h
    rw [T_succ]; omega
/-- the bytes' own counts, side by side -/
def pb (x : Nat) : Nat → Nat
  | 0 => 0
  | n + 1 => cnt (x % 256) 8 + 256 * pb (x / 256) n
theorem S3_T : ∀ n x, S3 n (T n x) = pb x n
  | 0, x => by simp [S3, mk, pb]
  | n + 1, x => by
    obtain ⟨h1, h2, h3, h4, h5⟩ := byte_all ⟨x % 256, Nat.mod_lt _ (by decide)⟩
    simp only at h1 h2 h3 h4 h5
    have hl := T_low n (x / 256)
    have ih := S3_T n (x / 256)
    unfold S3 at ih ⊢
    rw [and_mk _ 15 n (by decide), T_succ]
    generalize s2 (s1 (x % 256)) = c at *
    generalize T n (x / 256) = h at *
    have e1 : ((c + 256 * h) / 16 + (c + 256 * h)) / 256 = h / 16 + h := by omega
    have e2 := byte_mod ⟨((c + 256 * h) / 16 + (c + 256 * h)) % 256, by omega⟩
    simp only at e2
    have e3 : (c + 256 * h) / 16 = c / 16 + 16 * h := by omega
    have e4 : (c / 16 + 16 * h + (c + 256 * h)) % 16 = (c / 16 + c) % 16 := by omega
    rw [e1, ih, e2, pb, ← h5, Nat.mod_mod_of_dvd _ (by decide : 16 ∣ 256), e3, e4]
/-- digits to the base 256, the lowest first -/
def dig : List Nat → Nat
  | [] => 0
  | d :: ds => d + 256 * dig ds
theorem dig_div {d : Nat} (h : d < 256) (ds : List Nat) : dig (d :: ds) / 256 = dig ds := by simp only [dig]; omega
theorem dig_cons_le {d : Nat} {ds : List Nat} {B : Nat} (hd : d ≤ 8) (h : dig ds ≤ B) : dig (d :: ds) ≤ 8 + 256 * B := by simp only [dig]; omega
theorem pb_8 (x : Nat) : ∃ a b c d e f g h : Nat, a ≤ 8 ∧ b ≤ 8 ∧ c ≤ 8 ∧ d ≤ 8 ∧ e ≤ 8 ∧ f ≤ 8 ∧ g ≤ 8 ∧ h ≤ 8 ∧ pop x = a + b + c + d + e + f + g + h ∧ pb x 8 = dig [a, b, c, d, e, f, g, h] := by
  refine ⟨cnt (x % 256) 8, cnt (x / 256 % 256) 8, cnt (x / 256 / 256 % 256) 8, cnt (x / 256 / 256 / 256 % 256) 8, cnt (x / 256 / 256 / 256 / 256 % 256) 8, cnt (x / 256 / 256 / 256 / 256 / 256 % 256) 8, cnt (x / 256 / 256 / 256 / 256 / 256 / 256 % 256) 8, cnt (x / 256 / 256 / 256 / 256 / 256 / 256 / 256 % 256) 8, cnt_le _ 8, cnt_le _ 8, cnt_le _ 8, cnt_le _ 8, cnt_le _ 8, cnt_le _ 8, cnt_le _ 8, cnt_le _ 8, ?_, ?_⟩
  · unfold pop
    have e7 := cnt_bytes x 7
    have e6 := cnt_bytes (x / 256) 6
    have e5 := cnt_bytes (x / 256 / 256) 5
    have e4 := cnt_bytes (x / 256 / 256 / 256) 4
    have e3 := cnt_bytes (x / 256 / 256 / 256 / 256) 3
    have e2 := cnt_bytes (x / 256 / 256 / 256 / 256 / 256) 2
    have e1 := cnt_bytes (x / 256 / 256 / 256 / 256 / 256 / 256) 1
    have e0 := cnt_bytes (x / 256 / 256 / 256 / 256 / 256 / 256 / 256) 0
    simp only [Nat.reduceAdd, Nat.reduceMul] at *
    rw [e7, e6, e5, e4, e3, e2, e1, e0, cnt]
    simp only [Nat.add_zero, Nat.add_assoc]
  · simp only [pb, dig]

theorem S1_lt (x : Nat) (_hx : x < 18446744073709551616) : S1 8 x < 18446744073709551616 := by
  unfold S1
  have h1 : (x / 2) &&& mk 85 8 ≤ mk 85 8 := Nat.and_le_right
  have h2 : x &&& mk 85 8 ≤ mk 85 8 := Nat.and_le_right
  have : mk 85 8 = 6148914691236517205 := by decide
  omega
theorem S2_lt (x : Nat) : S2 8 x < 18446744073709551616 := by
  unfold S2
  have h1 : (x / 4) &&& mk 51 8 ≤ mk 51 8 := Nat.and_le_right
  have h2 : x &&& mk 51 8 ≤ mk 51 8 := Nat.and_le_right
  have : mk 51 8 = 3689348814741910323 := by decide
  omega
theorem S2_le (x : Nat) : S2 8 x ≤ 7378697629483820646 := by
  unfold S2
  have h1 : (x / 4) &&& mk 51 8 ≤ mk 51 8 := Nat.and_le_right
  have h2 : x &&& mk 51 8 ≤ mk 51 8 := Nat.and_le_right
  have : mk 51 8 = 3689348814741910323 := by decide
  omega
theorem ones_1 (x : Nat) (hx : W64 x) : IntKind.u64.wrap (bits .and .u64 ((x : Int) / 2) 6148914691236517205 + bits .and .u64 (x : Int) 6148914691236517205) = ((S1 8 x : Nat) : Int) := by
  have e0 : ((x : Int) / 2) = ((x / 2 : Nat) : Int) := by omega
  have hK : W64 6148914691236517205 := by unfold W64; decide
  have hx2 : W64 (x / 2) := by unfold W64 at *; omega
  have e1 := bits_and_nat (x / 2) 6148914691236517205 hx2 hK
  have e2 := bits_and_nat x 6148914691236517205 hx hK
  have e3 : ((6148914691236517205 : Nat) : Int) = 6148914691236517205 := rfl
  rw [e3] at e1 e2
  rw [e0, e1, e2]
  have e4 : S1 8 x = (x / 2 &&& 6148914691236517205) + (x &&& 6148914691236517205) := by
    unfold S1; rw [show mk 85 8 = 6148914691236517205 by decide]
  rw [e4, show ((x / 2 &&& 6148914691236517205 : Nat) : Int) + ((x &&& 6148914691236517205 : Nat) : Int) = (((x / 2 &&& 6148914691236517205) + (x &&& 6148914691236517205) : Nat) : Int) by omega]
  exact wrap_u64 _ (by rw [← e4]; exact S1_lt x hx)
theorem ones_2 (x : Nat) (hx : W64 x) : IntKind.u64.wrap (bits .and .u64 ((x : Int) / 4) 3689348814741910323 + bits .and .u64 (x : Int) 3689348814741910323) = ((S2 8 x : Nat) : Int) := by
  have e0 : ((x : Int) / 4) = ((x / 4 : Nat) : Int) := by omega
  have hK : W64 3689348814741910323 := by unfold W64; decide
  have hx2 : W64 (x / 4) := by unfold W64 at *; omega
  have e1 := bits_and_nat (x / 4) 3689348814741910323 hx2 hK
  have e2 := bits_and_nat x 3689348814741910323 hx hK
  have e3 : ((3689348814741910323 : Nat) : Int) = 3689348814741910323 := rfl
  rw [e3] at e1 e2
  rw [e0, e1, e2]
  have e4 : S2 8 x = (x / 4 &&& 3689348814741910323) + (x &&& 3689348814741910323) := by
    unfold S2; rw [show mk 51 8 = 3689348814741910323 by decide]
  rw [e4, show ((x / 4 &&& 3689348814741910323 : Nat) : Int) + ((x &&& 3689348814741910323 : Nat) : Int) = (((x / 4 &&& 3689348814741910323) + (x &&& 3689348814741910323) : Nat) : Int) by omega]
  exact wrap_u64 _ (by rw [← e4]; exact S2_lt x)
theorem ones_3 (x : Nat) (hx : x ≤ 7378697629483820646) : bits .and .u64 (IntKind.u64.wrap ((x : Int) / 16 + (x : Int))) 1085102592571150095 = ((S3 8 x : Nat) : Int) := by
  have e0 : (x : Int) / 16 + (x : Int) = ((x / 16 + x : Nat) : Int) := by omega
  have hs : W64 (x / 16 + x) := by unfold W64; omega
  have e1 := bits_and_nat (x / 16 + x) 1085102592571150095 hs (by unfold W64; decide)
  have e3 : ((1085102592571150095 : Nat) : Int) = 1085102592571150095 := rfl
  rw [e3] at e1
  rw [e0, wrap_u64 _ hs, e1]
  have e4 : S3 8 x = (x / 16 + x) &&& 1085102592571150095 := by
    unfold S3; rw [show mk 15 8 = 1085102592571150095 by decide]
  rw [e4]
def Sum (y : Nat) : Nat := (y + y / 256) + (y + y / 256) / 65536 + ((y + y / 256) + (y + y / 256) / 65536) / 4294967296
theorem ones_4 (x : Nat) : pb x 8 ≤ 578721382704613384 ∧ Sum (pb x 8) % 128 = pop x := by
  obtain ⟨a, b, c, d, e, f, g, h, ha, hb, hc, hd, he, hf, hg, hh, hp, hv⟩ := pb_8 x
  rw [hv, hp]
  refine ⟨Nat.le_trans (dig_cons_le ha (dig_cons_le hb (dig_cons_le hc (dig_cons_le hd (dig_cons_le he (dig_cons_le hf (dig_cons_le hg (dig_cons_le hh (Nat.le_refl _))))))))) (by decide), ?_⟩
  have e1 : dig [a, b, c, d, e, f, g, h] + dig [a, b, c, d, e, f, g, h] / 256 = dig [a + b, b + c, c + d, d + e, e + f, f + g, g + h, h] := by
    rw [dig_div (by omega)]; simp only [dig]; omega
  have e2 : dig [a + b, b + c, c + d, d + e, e + f, f + g, g + h, h] + dig [a + b, b + c, c + d, d + e, e + f, f + g, g + h, h] / 65536 = dig [a + b + c + d, b + c + d + e, c + d + e + f, d + e + f + g, e + f + g + h, f + g + h, g + h, h] := by
    rw [show (65536 : Nat) = 256 * 256 from rfl, ← Nat.div_div_eq_div_mul, dig_div (by omega), dig_div (by omega)]; simp only [dig]; omega
  have e3 : dig [a + b + c + d, b + c + d + e, c + d + e + f, d + e + f + g, e + f + g + h, f + g + h, g + h, h] / 4294967296 = dig [e + f + g + h, f + g + h, g + h, h] := by
    rw [show (4294967296 : Nat) = 256 * 256 * 256 * 256 from rfl, ← Nat.div_div_eq_div_mul, ← Nat.div_div_eq_div_mul, ← Nat.div_div_eq_div_mul, dig_div (by omega), dig_div (by omega), dig_div (by omega), dig_div (by omega)]
  unfold Sum
  rw [e1, e2, e3]
  clear e1 e2 e3 hv hp
  show ((a + b + c + d) + 256 * dig [b + c + d + e, c + d + e + f, d + e + f + g, e + f + g + h, f + g + h, g + h, h] + ((e + f + g + h) + 256 * dig [f + g + h, g + h, h])) % 128 = _
  generalize dig [b + c + d + e, c + d + e + f, d + e + f + g, e + f + g + h, f + g + h, g + h, h] = y1
  generalize dig [f + g + h, g + h, h] = y2
  omega
theorem ones_5 (y : Nat) (hy : y ≤ 578721382704613384) : IntKind.u64.wrap (IntKind.u64.wrap (IntKind.u64.wrap ((y : Int) + (y : Int) / 256) + IntKind.u64.wrap ((y : Int) + (y : Int) / 256) / 65536) + IntKind.u64.wrap (IntKind.u64.wrap ((y : Int) + (y : Int) / 256) + IntKind.u64.wrap ((y : Int) + (y : Int) / 256) / 65536) / 4294967296) = ((Sum y : Nat) : Int) ∧ Sum y ≤ 9223372036854775807 := by
  unfold Sum
  have e1 : IntKind.u64.wrap ((y : Int) + (y : Int) / 256) = ((y + y / 256 : Nat) : Int) := by rw [IntKind.wrap_u64]; omega
  rw [e1]
  have h1 : y + y / 256 ≤ 1157442765409226768 := by omega
  generalize y + y / 256 = z at *
  have e2 : IntKind.u64.wrap ((z : Int) + (z : Int) / 65536) = ((z + z / 65536 : Nat) : Int) := by rw [IntKind.wrap_u64]; omega
  rw [e2]
  have h2 : z + z / 65536 ≤ 2314885530818453536 := by omega
  generalize z + z / 65536 = v at *
  refine ⟨by rw [IntKind.wrap_u64]; omega, by omega⟩
theorem bits_and_i64 (a : Nat) (ha : a ≤ 9223372036854775807) : bits .and .i64 (a : Int) 127 = ((a % 128 : Nat) : Int) := by
  have e : bits .and .i64 (a : Int) 127 = IntKind.i64.wrap ((((BitVec.ofInt 64 (a : Int)) &&& (BitVec.ofInt 64 ((127 : Nat) : Int))).toNat : Nat)) := rfl
  rw [e, bv64, bv64, BitVec.toNat_and, BitVec.toNat_ofNat, BitVec.toNat_ofNat, Nat.mod_eq_of_lt (show a < 2 ^ 64 by omega), Nat.mod_eq_of_lt (show 127 < 2 ^ 64 by decide), show (127 : Nat) = 2 ^ 7 - 1 from rfl, Nat.and_two_pow_sub_one_eq_mod]
  rw [IntKind.wrap_i64]; omega
end Go.Proofs.YtginbellakkliaaDoor

/- math/bits.OnesCount64 over this seat's program: how many bits a word has. -/
namespace Go.Proofs.YtginbellakkliaaDoor
open Go.RowKit
theorem bits_ones (x : Nat) (hx : W64 x) (w : World) : Calls Tryd.prog 27 #[.int .u64 (x : Int)] w fun e w' => e = .returned (.int .i64 ((pop x : Nat) : Int)) ∧ w = w' := by
  have h1 := ones_1 x hx
  have h2 := ones_2 (S1 8 x) (S1_lt x hx)
  have h3 := ones_3 (S2 8 (S1 8 x)) (S2_le _)
  have h4 : S3 8 (S2 8 (S1 8 x)) = pb x 8 := S3_T 8 x
  obtain ⟨h5, h6⟩ := ones_4 x
  obtain ⟨h7, h8⟩ := ones_5 (pb x 8) h5
  have h9 := bits_and_i64 _ h8
  rw [h4] at h3
  rw [h6] at h9
  have H1 := Lib.hid h1
  have H2 := Lib.hid h2
  have H3 := Lib.hid h3
  have H7 := Lib.hid h7
  have H9 := Lib.hid h9
  have H8 : Hid (wrap64 ((Sum (pb x 8) : Nat) : Int) = ((Sum (pb x 8) : Nat) : Int)) := Lib.hid (IntWalk.wrap64_in _ (by omega))
  clear h1 h2 h3 h4 h5 h6 h7 h8 h9
  go_enter Tryd.func27, Tryd.ntmps27
  go_wp2
  go_ret
  refine ⟨?_, rfl⟩
  rw [H1.out, H2.out, H3.out, H7.out, H8.out, H9.out]
  rfl
end Go.Proofs.YtginbellakkliaaDoor
