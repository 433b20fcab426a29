/- Contract of finesseref11.Playable over this seat's program. -/
import Derived.Test.YthilcnhnfdddhaaDoorRefC
namespace Go.Proofs.YthilcnhnfdddhaaDoor
open Go.RowKit Go.Sort Go.Shelf

theorem mod_succ (x k : Nat) : x % 2 ^ (k + 1) = x % 2 ^ k + (if x.testBit k then 2 ^ k else 0) := by
  rw [Nat.mod_pow_succ, Nat.testBit_eq_decide_div_mod_eq]
  have := Nat.mod_two_eq_zero_or_one (x / 2 ^ k)
  rcases this with h | h <;> simp [h]
theorem pow_le_52 {k : Nat} (h : k ≤ 52) : 2 ^ k ≤ 4503599627370496 := Nat.pow_le_pow_right (n := 2) (by decide) h
theorem mod_lt_52 (x k : Nat) (h : k ≤ 52) : x % 2 ^ k < 4503599627370496 := Nat.lt_of_lt_of_le (Nat.mod_lt _ (Nat.two_pow_pos k)) (pow_le_52 h)
theorem shl1_pow {k : Nat} (h : k < 64) : shl1 k = 2 ^ k := by unfold shl1; rw [if_pos h]
theorem bit_lt {m i : Nat} {n : Nat} (hm : m < 2 ^ n) (h : m.testBit i = true) : i < n := by
  rcases Nat.lt_or_ge i n with h1 | h1
  · exact h1
  · rw [Nat.testBit_lt_two_pow (Nat.lt_of_lt_of_le hm (Nat.pow_le_pow_right (by decide) h1))] at h; cases h
theorem lt_of_bits {m : Nat} (n : Nat) (h : ∀ i, m.testBit i = true → i < n) : m < 2 ^ n := by
  apply Nat.lt_pow_two_of_testBit
  intro i hi
  cases hb : m.testBit i
  · rfl
  · have := h i hb; omega

theorem fold_bits (p : Nat → Bool) (step : Nat → Fin 64 → Nat) (hstep : ∀ f c, step f c = if p c.val then lor f (shl1 c.val) else f) (i : Nat) : ∀ (l : List (Fin 64)) (f : Nat),
    (l.foldl step f).testBit i = (f.testBit i || l.any fun c => p c.val && decide (c.val = i))
  | [], f => by simp
  | c :: l, f => by
    rw [List.foldl_cons, fold_bits p step hstep i l, hstep, List.any_cons]
    cases hp : p c.val
    · simp
    · simp only [if_true, Bool.true_and]
      rw [testBit_lor_shl1 _ _ _ c.isLt, Bool.or_assoc]
theorem any_bits (p : Nat → Bool) (m i : Nat) (hm : W64 m) : ((bitsList m).any fun c => p c.val && decide (c.val = i)) = (m.testBit i && p i) := by
  rw [Bool.eq_iff_iff]
  simp only [List.any_eq_true, Bool.and_eq_true, decide_eq_true_eq, bitsList, List.mem_filter, List.mem_finRange, true_and]
  constructor
  · rintro ⟨c, h1, h2, rfl⟩; exact ⟨h1, h2⟩
  · rintro ⟨h1, h2⟩
    exact ⟨⟨i, bit_lt hm h1⟩, h1, h2, rfl⟩
theorem follow_bit (s m i : Nat) (hm : W64 m) : (follow s (bitsList m)).testBit i = (m.testBit i && decide (suit i = s)) := by
  unfold follow
  rw [fold_bits (fun c => decide (suit c = s)) (folStep s) (fun f c => by simp [folStep]) i, any_bits (fun c => decide (suit c = s)) _ _ hm]
  simp
theorem winFold_bit (t : Nat) (zs : List Nat) (m i : Nat) (hm : W64 m) : (winFold t zs (bitsList m)).testBit i = (m.testBit i && (beatsV t zs i).1) := by
  unfold winFold
  rw [fold_bits (fun c => (beatsV t zs c).1) (winStep t zs) (fun f c => by simp [winStep]) i, any_bits (fun c => (beatsV t zs c).1) _ _ hm]
  simp
theorem rest_bit (hand : Nat) (zs : List Nat) (h : (maskR 0 zs).2 = 0) (i : Nat) : (restV hand zs).testBit i = (hand.testBit i && !zs.contains i) := by
  unfold restV
  rw [testBit_landn, maskR_bit zs 0 h]
  simp
theorem rest_lt (hand : Nat) (zs : List Nat) (h : hand < 4503599627370496) : restV hand zs < 2 ^ 52 := by
  apply lt_of_bits
  intro i hi
  unfold restV at hi
  rw [testBit_landn, Bool.and_eq_true] at hi
  exact bit_lt (n := 52) h hi.1
theorem sub_lt {m n : Nat} (hm : m < 2 ^ 52) (h : ∀ i, n.testBit i = true → m.testBit i = true) : n < 2 ^ 52 := lt_of_bits 52 fun i hi => bit_lt hm (h i hi)
theorem follow_lt (s m : Nat) (hm : m < 2 ^ 52) : follow s (bitsList m) < 2 ^ 52 := by
  refine sub_lt hm fun i hi => ?_
  rw [follow_bit s m i (Nat.lt_trans hm (by decide)), Bool.and_eq_true] at hi
  exact hi.1
theorem w64_of_52 {m : Nat} (h : m < 2 ^ 52) : W64 m := Nat.lt_trans h (by decide)
theorem right_mask {zs : List Nat} (h : rightB zs = true) : (maskR 0 zs).2 = 0 := by
  simp only [rightB, Bool.and_eq_true, beq_iff_eq] at h; exact h.2
theorem suit_div {c : Nat} (h : c < 52) : suit c = c / 13 := by unfold suit; rw [if_pos h]

set_option maxRecDepth 100000 in
theorem ref_Playable (hand : Nat) (a : Option Addr) (len cap : Nat) (zs : List Nat) (w : World) (hz : Byt w a len zs) (hh : W64 hand) :
    Calls Tryd.prog 31 #[.int .u64 (hand : Int), .slice a len cap] w fun e w' => e = .returned (.tuple #[.int .u64 ((playableV hand zs).1 : Int), .int .i64 ((playableV hand zs).2 : Int)]) ∧ Below w.heap.size w w' := by
  unfold playableV
  have hl := hz.length
  rw [hl]
  by_cases h1 : 4503599627370496 ≤ hand
  · rw [if_pos h1]
    have h1' : decide ((4503599627370496 : Int) ≤ (hand : Int)) = true := by simp; omega
    clear hl h1 hh
    go_enter Tryd.func31, Tryd.ntmps31
    go_wp2_with fail
    go_ret2
    exact ⟨rfl, Below.refl _ _⟩
  rw [if_neg h1]
  have h1' : decide ((4503599627370496 : Int) ≤ (hand : Int)) = false := by simp; omega
  have H1 := Lib.hid h1
  clear h1
  by_cases h2 : len = 0
  · subst h2
    rw [if_pos rfl]
    have hzs : zs = [] := List.eq_nil_of_length_eq_zero hl
    subst hzs
    clear hl
    have HE : Hid (hand % 2 ^ 52 = hand) := Lib.hid (Nat.mod_eq_of_lt (Nat.lt_of_not_le H1.out))
    go_enter Tryd.func31, Tryd.ntmps31
    go_wp2_with fail
    go_loop [6, 7, 8] (fun al fo c => ∃ k : Nat, k ≤ 52 ∧ c = .int .u8 (k : Int) ∧ al = .int .u64 ((hand % 2 ^ k : Nat) : Int) ∧ fo = .int .u64 0) (fun _ _ c => 52 - (intOf c).toNat)
    case atStart => exact ⟨0, by omega, rfl, by simp [Nat.mod_one], rfl⟩
    case round =>
      obtain ⟨k, hk, rfl, rfl, rfl⟩ := hrel
      by_cases hlt : k < 52
      · have hm := mod_lt_52 hand k hk
        have hm2 := pow_le_52 hk
        rw [← shl1_pow (show k < 64 by omega)] at hm2
        have HS := Lib.hid (mod_succ hand k)
        have HP := Lib.hid (shl1_pow (show k < 64 by omega))
        generalize hand % 2 ^ k = x at *
        cases hb : hand.testBit k
        · go_wp2_with (first | (go_at_call 52; refine (ref_Has _ _ _ hh).mono ?_; rw [hb]; rintro e w' ⟨rfl, rfl⟩) | (go_at_call 53; refine (ref_among _ _ _ _ [] _ hz).mono ?_; rintro e w' ⟨rfl, rfl⟩))
          go_round
          case rel => exact ⟨k + 1, by omega, by go_num, by rw [HS.out, hb]; simp, rfl⟩
          case measure => simp [intOf]; omega
        · go_wp2_with (first | (go_at_call 52; refine (ref_Has _ _ _ hh).mono ?_; rw [hb]; rintro e w' ⟨rfl, rfl⟩) | (go_at_call 53; refine (ref_among _ _ _ _ [] _ hz).mono ?_; rintro e w' ⟨rfl, rfl⟩))
          go_round
          case rel => exact ⟨k + 1, by omega, by go_num, by rw [HS.out, hb, HP.out]; simp, rfl⟩
          case measure => simp [intOf]; omega
      · have hk' : k = 52 := by omega
        subst hk'
        rw [HE.out]
        go_wp2
        go_ret2
        exact ⟨rfl, Below.refl _ _⟩
  rw [if_neg h2]
  have h2' : decide ((0 : Int) < (len : Int)) = true := by simp; omega
  have hpos : 0 < len := by omega
  have hposI : (0 : Int) < (len : Int) := by omega
  cases h3 : rightB zs
  · have hl' := Lib.hid hl
    clear hl
    go_enter Tryd.func31, Tryd.ntmps31
    go_wp2_with (go_at_call 44; refine (ref_right _ _ _ zs _ hz).mono ?_; rw [h3]; rintro e w' ⟨rfl, hb'⟩)
    go_ret2
    exact ⟨rfl, hb'⟩
  simp only [if_true]
  by_cases h4 : len = 4
  · subst h4
    rw [if_pos rfl]
    have hl' := Lib.hid hl
    clear hl
    go_enter Tryd.func31, Tryd.ntmps31
    go_wp2_with (go_at_call 44; refine (ref_right _ _ _ zs _ hz).mono ?_; rw [h3]; rintro e w' ⟨rfl, hb'⟩)
    go_ret2
    exact ⟨rfl, hb'⟩
  rw [if_neg h4]
  have h4' : ((len : Int) == 4) = false := by simp; omega
  have hrb := rest_bit hand zs (right_mask h3)
  have hrl := rest_lt hand zs (Nat.lt_of_not_le H1.out)
  have hc0 := right_lt h3 (i := 0) (by omega)
  have hfb := fun i => follow_bit (suit (zs.getD 0 0)) (restV hand zs) i (w64_of_52 hrl)
  have hfl := follow_lt (suit (zs.getD 0 0)) (restV hand zs) hrl
  have HPL : Hid (playLate (suit (zs.getD 0 0)) (restV hand zs) = if follow (suit (zs.getD 0 0)) (bitsList (restV hand zs)) ≠ 0 then follow (suit (zs.getD 0 0)) (bitsList (restV hand zs)) else restV hand zs) := Lib.hid rfl
  obtain ⟨b, off, rfl, hb, hcs⟩ := hz.at hpos
  have hcell := hcs 0 hpos
  clear hcs
  rw [Nat.add_zero] at hcell
  have hsd := suit_div hc0
  generalize hpv : playLate (suit (zs.getD 0 0)) (restV hand zs) = pv at *
  clear hpv
  generalize follow (suit (zs.getD 0 0)) (bitsList (restV hand zs)) = F at *
  generalize restV hand zs = R at *
  generalize suit (zs.getD 0 0) = s at *
  generalize zs.getD 0 0 = c0 at *
  have HRB := Lib.hid hrb
  have HFB := Lib.hid hfb
  have HER : Hid (R % 2 ^ 52 = R) := Lib.hid (Nat.mod_eq_of_lt hrl)
  have HEF : Hid (F % 2 ^ 52 = F) := Lib.hid (Nat.mod_eq_of_lt hfl)
  have HSD := Lib.hid hsd
  have HL := Lib.hid hl
  clear hrb hfb hrl hfl hsd hl
  go_enter Tryd.func31, Tryd.ntmps31
  go_wp2_with (go_at_call 44; refine (ref_right _ _ _ zs _ hz).mono ?_; rw [h3]; rintro e w1 ⟨rfl, hb1⟩)
  have hcell1 : w1.cell? ⟨b, off, none⟩ = some (.int .u8 (c0 : Int)) := (hb1.cell (p := ⟨b, off, none⟩) hb).trans hcell
  have hz1 := hz.below (Nat.le_refl _) hb1
  clear hcell
  go_loop [6, 7, 8] (fun al fo c => ∃ k : Nat, k ≤ 52 ∧ c = .int .u8 (k : Int) ∧ al = .int .u64 ((R % 2 ^ k : Nat) : Int) ∧ fo = .int .u64 ((F % 2 ^ k : Nat) : Int)) (fun _ _ c => 52 - (intOf c).toNat)
  case atStart => exact ⟨0, by omega, rfl, by simp [Nat.mod_one], by simp [Nat.mod_one]⟩
  case round =>
    obtain ⟨k, hk, rfl, rfl, rfl⟩ := hrel
    by_cases hlt : k < 52
    · have hm := mod_lt_52 R k hk
      have hm1 := mod_lt_52 F k hk
      have hm2 := pow_le_52 hk
      rw [← shl1_pow (show k < 64 by omega)] at hm2
      have HS := Lib.hid (mod_succ R k)
      have HS1 := Lib.hid (mod_succ F k)
      have HP := Lib.hid (shl1_pow (show k < 64 by omega))
      have HRk := Lib.hid (HRB.out k)
      have HFk := Lib.hid (HFB.out k)
      generalize R % 2 ^ k = x at *
      generalize F % 2 ^ k = y at *
      cases hbit : hand.testBit k
      · go_wp2_with (first | (go_at_call 52; refine (ref_Has _ _ _ hh).mono ?_; rw [hbit]; rintro e w' ⟨rfl, rfl⟩))
        go_round
        case rel =>
          have e1 : R.testBit k = false := by rw [HRk.out, hbit]; rfl
          exact ⟨k + 1, by omega, by go_num, by rw [HS.out, e1]; simp, by rw [HS1.out, HFk.out, e1]; simp⟩
        case measure => simp [intOf]; omega
      · cases hco : zs.contains k
        · have e1 : R.testBit k = true := by rw [HRk.out, hbit, hco]; rfl
          have HE1 := Lib.hid e1
          have HCO := Lib.hid hco
          clear e1 hco
          by_cases hsu : k / 13 = c0 / 13
          · have hsu' : ((k : Int) / 13 == (c0 : Int) / 13) = true := by simp; omega
            have e2 : suit k = s := by rw [suit_div hlt, HSD.out]; exact hsu
            have HE2 := Lib.hid e2
            clear e2 hsu
            go_wp2_with (first | (go_at_call 52; refine (ref_Has _ _ _ hh).mono ?_; rw [hbit]; rintro e w' ⟨rfl, rfl⟩) | (go_at_call 53; refine (ref_among _ _ _ _ zs _ hz1).mono ?_; rw [HCO.out]; rintro e w' ⟨rfl, rfl⟩))
            go_round
            case rel => exact ⟨k + 1, by omega, by go_num, by rw [HS.out, HE1.out, HP.out]; simp, by rw [HS1.out, HFk.out, HE1.out, HE2.out, HP.out]; simp⟩
            case measure => simp [intOf]; omega
          · have hsu' : ((k : Int) / 13 == (c0 : Int) / 13) = false := by simp; omega
            have e2 : ¬ suit k = s := by rw [suit_div hlt, HSD.out]; exact hsu
            have HE2 := Lib.hid e2
            clear e2 hsu
            go_wp2_with (first | (go_at_call 52; refine (ref_Has _ _ _ hh).mono ?_; rw [hbit]; rintro e w' ⟨rfl, rfl⟩) | (go_at_call 53; refine (ref_among _ _ _ _ zs _ hz1).mono ?_; rw [HCO.out]; rintro e w' ⟨rfl, rfl⟩))
            go_round
            case rel => exact ⟨k + 1, by omega, by go_num, by rw [HS.out, HE1.out, HP.out]; simp, by rw [HS1.out, HFk.out, HE1.out]; simp [HE2.out]⟩
            case measure => simp [intOf]; omega
        · have e1 : R.testBit k = false := by rw [HRk.out, hbit, hco]; rfl
          have HE1 := Lib.hid e1
          have HCO := Lib.hid hco
          clear e1 hco
          go_wp2_with (first | (go_at_call 52; refine (ref_Has _ _ _ hh).mono ?_; rw [hbit]; rintro e w' ⟨rfl, rfl⟩) | (go_at_call 53; refine (ref_among _ _ _ _ zs _ hz1).mono ?_; rw [HCO.out]; rintro e w' ⟨rfl, rfl⟩))
          go_round
          case rel => exact ⟨k + 1, by omega, by go_num, by rw [HS.out, HE1.out]; simp, by rw [HS1.out, HFk.out, HE1.out]; simp⟩
          case measure => simp [intOf]; omega
    · have hk' : k = 52 := by omega
      subst hk'
      rw [HER.out, HEF.out]
      by_cases hf : 0 < F
      · go_wp2
        go_ret2
        exact ⟨by rw [HPL.out, if_pos (by omega)]; rfl, hb1⟩
      · have HF : Hid (F = 0) := Lib.hid (by omega)
        go_wp2
        go_ret2
        exact ⟨by rw [HPL.out, if_neg (by simp [HF.out])]; rfl, hb1⟩
end Go.Proofs.YthilcnhnfdddhaaDoor
