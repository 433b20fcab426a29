/- Contract of finesseref11.Winners over this seat's program. -/
import Derived.Test.YthilcnhnfdddhaaDoorRefD
namespace Go.Proofs.YthilcnhnfdddhaaDoor
open Go.RowKit Go.Sort Go.Shelf

theorem playableV_err (hand : Nat) (zs : List Nat) (h : (playableV hand zs).2 ≠ 0) : (playableV hand zs).1 = 0 := by
  unfold playableV at *
  by_cases h1 : 4503599627370496 ≤ hand
  · rw [if_pos h1]
  rw [if_neg h1] at *
  by_cases h2 : zs.length = 0
  · rw [if_pos h2] at h; exact absurd rfl h
  rw [if_neg h2] at *
  cases h3 : rightB zs
  · rfl
  · rw [h3] at h
    simp only [if_true] at *
    by_cases h4 : zs.length = 4
    · rw [if_pos h4]
    · rw [if_neg h4] at h; exact absurd rfl h
theorem playable_lt (hand : Nat) (zs : List Nat) : (playableV hand zs).1 < 2 ^ 52 := by
  unfold playableV
  by_cases h1 : 4503599627370496 ≤ hand
  · rw [if_pos h1]; decide
  rw [if_neg h1]
  by_cases h2 : zs.length = 0
  · rw [if_pos h2]; exact Nat.lt_of_not_le h1
  rw [if_neg h2]
  cases h3 : rightB zs
  · simp only [Bool.false_eq_true, if_false]; decide
  · simp only [if_true]
    by_cases h4 : zs.length = 4
    · rw [if_pos h4]; decide
    · rw [if_neg h4]
      have hr := rest_lt hand zs (Nat.lt_of_not_le h1)
      simp only [playLate]
      split
      · exact follow_lt _ _ hr
      · exact hr
theorem winFold_lt (t : Nat) (zs : List Nat) (m : Nat) (hm : m < 2 ^ 52) : winFold t zs (bitsList m) < 2 ^ 52 := by
  refine sub_lt hm fun i hi => ?_
  rw [winFold_bit t zs m i (w64_of_52 hm), Bool.and_eq_true] at hi
  exact hi.1

set_option maxRecDepth 100000 in
theorem ref_Winners (t hand : Nat) (a : Option Addr) (len cap : Nat) (zs : List Nat) (w : World) (hz : Byt w a len zs) (hh : W64 hand) :
    Calls Tryd.prog 32 #[.int .u8 (t : Int), .int .u64 (hand : Int), .slice a len cap] w fun e w' => e = .returned (.tuple #[.int .u64 ((winnersV t hand zs).1 : Int), .int .i64 ((winnersV t hand zs).2 : Int)]) ∧ Below w.heap.size w w' := by
  unfold winnersV
  have hP := ref_Playable hand a len cap zs w hz hh
  have hpe := playableV_err hand zs
  have hpl := playable_lt hand zs
  have hl := hz.length
  rw [hl]
  clear hl
  generalize playableV hand zs = x at *
  obtain ⟨x, y⟩ := x
  dsimp only at *
  have HP := Lib.hid hP
  clear hP
  have hwf : ∀ i, (winFold t zs (bitsList x)).testBit i = (x.testBit i && (beatsV t zs i).1) := fun i => winFold_bit t zs x i (w64_of_52 hpl)
  have hwl := winFold_lt t zs x hpl
  generalize winFold t zs (bitsList x) = F at *
  have HWF := Lib.hid hwf
  have HEF : Hid (F % 2 ^ 52 = F) := Lib.hid (Nat.mod_eq_of_lt hwl)
  have hx64 := w64_of_52 hpl
  clear hwf hwl hpl
  by_cases h1 : 4 < t
  · rw [if_pos h1]
    clear hpe hx64
    go_enter Tryd.func32, Tryd.ntmps32
    go_wp2_with fail
    go_ret2
    exact ⟨rfl, Below.refl _ _⟩
  rw [if_neg h1]
  by_cases h2 : y = 0
  · subst h2
    clear hpe
    rw [if_pos rfl]
    by_cases h3 : len = 0
    · subst h3
      rw [if_pos rfl]
      go_enter Tryd.func32, Tryd.ntmps32
      go_wp2_with (go_at_call 31; refine HP.out.mono ?_; rintro e w1 ⟨rfl, hb1⟩)
      go_ret2
      exact ⟨rfl, hb1⟩
    rw [if_neg h3]
    have h3' : ((len : Int) == 0) = false := by simp; omega
    go_enter Tryd.func32, Tryd.ntmps32
    go_wp2_with (go_at_call 31; refine HP.out.mono ?_; rintro e w1 ⟨rfl, hb1⟩)
    go_loopw [10, 11] (fun out c wr => ∃ k : Nat, k ≤ 52 ∧ c = .int .u8 (k : Int) ∧ out = .int .u64 ((F % 2 ^ k : Nat) : Int) ∧ Below w.heap.size w wr) (fun _ c _ => 52 - (intOf c).toNat)
    case atStart => exact ⟨0, by omega, rfl, by simp [Nat.mod_one], hb1⟩
    case round =>
      obtain ⟨k, hk, rfl, rfl, hB⟩ := hrel
      by_cases hlt : k < 52
      · have hm1 := mod_lt_52 F k hk
        have hm2 := pow_le_52 hk
        rw [← shl1_pow (show k < 64 by omega)] at hm2
        have HS1 := Lib.hid (mod_succ F k)
        have HP2 := Lib.hid (shl1_pow (show k < 64 by omega))
        have HFk := Lib.hid (HWF.out k)
        generalize F % 2 ^ k = y at *
        have hzr := hz.below (Nat.le_refl _) hB
        have hbt := ref_Beats t k a len cap zs wr hzr (by omega)
        have HBT := Lib.hid hbt
        clear hbt hzr
        generalize beatsV t zs k = bv at *
        obtain ⟨bv, be⟩ := bv
        dsimp only at *
        cases hbit : x.testBit k
        · go_wp2_with (go_at_call 52; refine (ref_Has _ _ _ hx64).mono ?_; rw [hbit]; rintro e w' ⟨rfl, rfl⟩)
          go_roundw
          case rel => exact ⟨k + 1, by omega, by go_num, by rw [HS1.out, HFk.out, hbit]; simp, hB⟩
          case measure => simp [intOf]; omega
        · cases bv
          · go_wp2_with (first | (go_at_call 52; refine (ref_Has _ _ _ hx64).mono ?_; rw [hbit]; rintro e w' ⟨rfl, rfl⟩) | (go_at_call 43; refine HBT.out.mono ?_; rintro e w2 ⟨rfl, hb2⟩))
            go_roundw
            case rel => exact ⟨k + 1, by omega, by go_num, by rw [HS1.out, HFk.out, hbit]; simp, hB.trans (hb2.mono hB.size)⟩
            case measure => simp [intOf]; omega
          · go_wp2_with (first | (go_at_call 52; refine (ref_Has _ _ _ hx64).mono ?_; rw [hbit]; rintro e w' ⟨rfl, rfl⟩) | (go_at_call 43; refine HBT.out.mono ?_; rintro e w2 ⟨rfl, hb2⟩))
            go_roundw
            case rel => exact ⟨k + 1, by omega, by go_num, by rw [HS1.out, HFk.out, hbit, HP2.out]; simp, hB.trans (hb2.mono hB.size)⟩
            case measure => simp [intOf]; omega
      · have hk' : k = 52 := by omega
        subst hk'
        rw [HEF.out]
        go_wp2
        go_ret2
        exact ⟨rfl, hB⟩
  · rw [if_neg h2]
    have h2' : ((y : Int) != 0) = true := by rw [bne_iff_ne]; omega
    have hx0 := hpe h2
    subst hx0
    clear hpe
    go_enter Tryd.func32, Tryd.ntmps32
    go_wp2_with (go_at_call 31; refine HP.out.mono ?_; rintro e w1 ⟨rfl, hb1⟩)
    go_ret2
    exact ⟨rfl, hb1⟩
end Go.Proofs.YthilcnhnfdddhaaDoor
