/- The contract of math/bits.Len64 over this seat's program (printed by wip/genlen.py). -/
import Derived.Test.YtginbellakkliaaDoorMem
import Derived.Laws.MathBits
namespace Go.Proofs.YtginbellakkliaaDoor
open Go.RowKit Go.Shelf Go.Sort

theorem shr_eq (x s : Nat) : shr x s = x / 2 ^ s := Nat.shiftRight_eq_div_pow x s
theorem len_shr (x s c : Nat) (hc : c = 2 ^ s) (h : c ≤ x) : bitLen x = s + bitLen (shr x s) := by
  rw [shr_eq]
  refine bitLen_shift x s ?_
  have : 0 < x / 2 ^ s := Nat.div_pos (hc ▸ h) (Nat.two_pow_pos s)
  omega
theorem shr_lt (x s : Nat) : shr x s * 2 ^ s ≤ x := by rw [shr_eq]; exact Nat.div_mul_le_self x _
theorem len_end (n z k : Nat) (hk : k = bitLen z) (hz : bitLen z ≤ 8) (hn : n ≤ 56) : Ending.returned (Value.int .i64 (wrap64 ((n : Int) + wrap64 (k : Int)))) = Ending.returned (Value.int .i64 ((n + bitLen z : Nat) : Int)) := by
  subst hk
  have e : wrap64 ((n : Int) + wrap64 ((bitLen z : Nat) : Int)) = ((n + bitLen z : Nat) : Int) := by unfold wrap64; omega
  rw [e]
theorem len_end0 (z k : Nat) (hk : k = bitLen z) (hz : bitLen z ≤ 8) : Ending.returned (Value.int .i64 (wrap64 (wrap64 (k : Int)))) = Ending.returned (Value.int .i64 ((0 + bitLen z : Nat) : Int)) := by
  subst hk
  have e : wrap64 (wrap64 ((bitLen z : Nat) : Int)) = ((0 + bitLen z : Nat) : Int) := by unfold wrap64; omega
  rw [e]
set_option maxHeartbeats 1000000 in
set_option maxRecDepth 1000000 in
theorem bits_len (x : Nat) (w0 : W64 x) (w : World) :
    Calls Tryd.prog 91 #[.int .u64 (x : Int)] w fun e w' => e = .returned (.int .i64 (bitLen x : Int)) ∧ w = w' := by
  have hx64 : x < 18446744073709551616 := w0
  by_cases h1 : 4294967296 ≤ x
  · have b1 : decide ((x : Int) ≥ 4294967296) = true := by rw [decide_eq_true_eq]; omega
    have e1 := len_shr x 32 4294967296 (by decide) h1
    have l1 := shr_lt x 32
    have w1 : W64 (shr x 32) := w0.shr
    obtain ⟨y1, hy1⟩ : ∃ y, y = shr x 32 := ⟨_, rfl⟩
    rw [← hy1] at e1 l1 w1
    have hs1 : ∀ yk, Op.shift .shr .u64 (x : Int) yk 32 = pure (.int .u64 (y1 : Int)) := fun yk => by have := run_shr64 x 32 yk w0; rw [← hy1] at this; exact this
    clear hy1
    by_cases h2 : 65536 ≤ y1
    · have b2 : decide ((y1 : Int) ≥ 65536) = true := by rw [decide_eq_true_eq]; omega
      have e2 := len_shr y1 16 65536 (by decide) h2
      have l2 := shr_lt y1 16
      have w2 : W64 (shr y1 16) := w1.shr
      obtain ⟨y2, hy2⟩ : ∃ y, y = shr y1 16 := ⟨_, rfl⟩
      rw [← hy2] at e2 l2 w2
      have hs2 : ∀ yk, Op.shift .shr .u64 (y1 : Int) yk 16 = pure (.int .u64 (y2 : Int)) := fun yk => by have := run_shr64 y1 16 yk w1; rw [← hy2] at this; exact this
      clear hy2
      by_cases h3 : 256 ≤ y2
      · have b3 : decide ((y2 : Int) ≥ 256) = true := by rw [decide_eq_true_eq]; omega
        have e3 := len_shr y2 8 256 (by decide) h3
        have l3 := shr_lt y2 8
        have w3 : W64 (shr y2 8) := w2.shr
        obtain ⟨y3, hy3⟩ : ∃ y, y = shr y2 8 := ⟨_, rfl⟩
        rw [← hy3] at e3 l3 w3
        have hs3 : ∀ yk, Op.shift .shr .u64 (y2 : Int) yk 8 = pure (.int .u64 (y3 : Int)) := fun yk => by have := run_shr64 y2 8 yk w2; rw [← hy3] at this; exact this
        clear hy3
        have hz : y3 < 256 := by omega
        have hcv : (y3 : Int) % 256 = (y3 : Int) := by omega
        have hl8 := bitLen_le8 y3 hz
        have HE : Hid (bitLen x = 56 + bitLen y3) := Lib.hid (by omega)
        clear e1 e2 e3
        go_enter Tryd.func91, Tryd.ntmps91
        go_wp2_with fail
        go_ret
        refine ⟨?_, rfl⟩
        rw [HE.out]
        exact len_end 56 y3 _ (len8tab_get y3 hz) hl8 (by decide)
      · have b3 : decide ((y2 : Int) ≥ 256) = false := by rw [decide_eq_false_iff_not]; omega
        have hz : y2 < 256 := by omega
        have hcv : (y2 : Int) % 256 = (y2 : Int) := by omega
        have hl8 := bitLen_le8 y2 hz
        have HE : Hid (bitLen x = 48 + bitLen y2) := Lib.hid (by omega)
        clear e1 e2
        go_enter Tryd.func91, Tryd.ntmps91
        go_wp2_with fail
        go_ret
        refine ⟨?_, rfl⟩
        rw [HE.out]
        exact len_end 48 y2 _ (len8tab_get y2 hz) hl8 (by decide)
    · have b2 : decide ((y1 : Int) ≥ 65536) = false := by rw [decide_eq_false_iff_not]; omega
      by_cases h3 : 256 ≤ y1
      · have b3 : decide ((y1 : Int) ≥ 256) = true := by rw [decide_eq_true_eq]; omega
        have e3 := len_shr y1 8 256 (by decide) h3
        have l3 := shr_lt y1 8
        have w3 : W64 (shr y1 8) := w1.shr
        obtain ⟨y3, hy3⟩ : ∃ y, y = shr y1 8 := ⟨_, rfl⟩
        rw [← hy3] at e3 l3 w3
        have hs3 : ∀ yk, Op.shift .shr .u64 (y1 : Int) yk 8 = pure (.int .u64 (y3 : Int)) := fun yk => by have := run_shr64 y1 8 yk w1; rw [← hy3] at this; exact this
        clear hy3
        have hz : y3 < 256 := by omega
        have hcv : (y3 : Int) % 256 = (y3 : Int) := by omega
        have hl8 := bitLen_le8 y3 hz
        have HE : Hid (bitLen x = 40 + bitLen y3) := Lib.hid (by omega)
        clear e1 e3
        go_enter Tryd.func91, Tryd.ntmps91
        go_wp2_with fail
        go_ret
        refine ⟨?_, rfl⟩
        rw [HE.out]
        exact len_end 40 y3 _ (len8tab_get y3 hz) hl8 (by decide)
      · have b3 : decide ((y1 : Int) ≥ 256) = false := by rw [decide_eq_false_iff_not]; omega
        have hz : y1 < 256 := by omega
        have hcv : (y1 : Int) % 256 = (y1 : Int) := by omega
        have hl8 := bitLen_le8 y1 hz
        have HE : Hid (bitLen x = 32 + bitLen y1) := Lib.hid (by omega)
        clear e1
        go_enter Tryd.func91, Tryd.ntmps91
        go_wp2_with fail
        go_ret
        refine ⟨?_, rfl⟩
        rw [HE.out]
        exact len_end 32 y1 _ (len8tab_get y1 hz) hl8 (by decide)
  · have b1 : decide ((x : Int) ≥ 4294967296) = false := by rw [decide_eq_false_iff_not]; omega
    by_cases h2 : 65536 ≤ x
    · have b2 : decide ((x : Int) ≥ 65536) = true := by rw [decide_eq_true_eq]; omega
      have e2 := len_shr x 16 65536 (by decide) h2
      have l2 := shr_lt x 16
      have w2 : W64 (shr x 16) := w0.shr
      obtain ⟨y2, hy2⟩ : ∃ y, y = shr x 16 := ⟨_, rfl⟩
      rw [← hy2] at e2 l2 w2
      have hs2 : ∀ yk, Op.shift .shr .u64 (x : Int) yk 16 = pure (.int .u64 (y2 : Int)) := fun yk => by have := run_shr64 x 16 yk w0; rw [← hy2] at this; exact this
      clear hy2
      by_cases h3 : 256 ≤ y2
      · have b3 : decide ((y2 : Int) ≥ 256) = true := by rw [decide_eq_true_eq]; omega
        have e3 := len_shr y2 8 256 (by decide) h3
        have l3 := shr_lt y2 8
        have w3 : W64 (shr y2 8) := w2.shr
        obtain ⟨y3, hy3⟩ : ∃ y, y = shr y2 8 := ⟨_, rfl⟩
        rw [← hy3] at e3 l3 w3
        have hs3 : ∀ yk, Op.shift .shr .u64 (y2 : Int) yk 8 = pure (.int .u64 (y3 : Int)) := fun yk => by have := run_shr64 y2 8 yk w2; rw [← hy3] at this; exact this
        clear hy3
        have hz : y3 < 256 := by omega
        have hcv : (y3 : Int) % 256 = (y3 : Int) := by omega
        have hl8 := bitLen_le8 y3 hz
        have HE : Hid (bitLen x = 24 + bitLen y3) := Lib.hid (by omega)
        clear e2 e3
        go_enter Tryd.func91, Tryd.ntmps91
        go_wp2_with fail
        go_ret
        refine ⟨?_, rfl⟩
        rw [HE.out]
        exact len_end 24 y3 _ (len8tab_get y3 hz) hl8 (by decide)
      · have b3 : decide ((y2 : Int) ≥ 256) = false := by rw [decide_eq_false_iff_not]; omega
        have hz : y2 < 256 := by omega
        have hcv : (y2 : Int) % 256 = (y2 : Int) := by omega
        have hl8 := bitLen_le8 y2 hz
        have HE : Hid (bitLen x = 16 + bitLen y2) := Lib.hid (by omega)
        clear e2
        go_enter Tryd.func91, Tryd.ntmps91
        go_wp2_with fail
        go_ret
        refine ⟨?_, rfl⟩
        rw [HE.out]
        exact len_end 16 y2 _ (len8tab_get y2 hz) hl8 (by decide)
    · have b2 : decide ((x : Int) ≥ 65536) = false := by rw [decide_eq_false_iff_not]; omega
      by_cases h3 : 256 ≤ x
      · have b3 : decide ((x : Int) ≥ 256) = true := by rw [decide_eq_true_eq]; omega
        have e3 := len_shr x 8 256 (by decide) h3
        have l3 := shr_lt x 8
        have w3 : W64 (shr x 8) := w0.shr
        obtain ⟨y3, hy3⟩ : ∃ y, y = shr x 8 := ⟨_, rfl⟩
        rw [← hy3] at e3 l3 w3
        have hs3 : ∀ yk, Op.shift .shr .u64 (x : Int) yk 8 = pure (.int .u64 (y3 : Int)) := fun yk => by have := run_shr64 x 8 yk w0; rw [← hy3] at this; exact this
        clear hy3
        have hz : y3 < 256 := by omega
        have hcv : (y3 : Int) % 256 = (y3 : Int) := by omega
        have hl8 := bitLen_le8 y3 hz
        have HE : Hid (bitLen x = 8 + bitLen y3) := Lib.hid (by omega)
        clear e3
        go_enter Tryd.func91, Tryd.ntmps91
        go_wp2_with fail
        go_ret
        refine ⟨?_, rfl⟩
        rw [HE.out]
        exact len_end 8 y3 _ (len8tab_get y3 hz) hl8 (by decide)
      · have b3 : decide ((x : Int) ≥ 256) = false := by rw [decide_eq_false_iff_not]; omega
        have hz : x < 256 := by omega
        have hcv : (x : Int) % 256 = (x : Int) := by omega
        have hl8 := bitLen_le8 x hz
        have HE : Hid (bitLen x = 0 + bitLen x) := Lib.hid (by omega)
        go_enter Tryd.func91, Tryd.ntmps91
        go_wp2_with fail
        go_ret
        refine ⟨?_, rfl⟩
        rw [HE.out]
        exact len_end0 x _ (len8tab_get x hz) hl8
end Go.Proofs.YtginbellakkliaaDoor
