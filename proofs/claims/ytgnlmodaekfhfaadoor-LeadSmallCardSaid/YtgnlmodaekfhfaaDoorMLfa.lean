/- LfA, LfB, LfC in one text. -/
import Derived.Test.YtgnlmodaekfhfaaDoorMLdx
import Derived.Deep.LoopGhost
import Derived.Test.YtgnlmodaekfhfaaDoorLfP

/- The reference of chapter 14 over this seat's program: has, with, without, in, one, others, within, both. -/
namespace Go.Proofs.YtgnlmodaekfhfaaDoor
open Go.RowKit Go.Shelf Go.Sort

theorem lf_bit (h c : Nat) (hw : W64 h) (hc : c < 64) : ((IntKind.u64.wrap ((h : Int) / ((shl1 c : Nat) : Int))).tmod 2 == 1) = h.testBit c := by
  have hs : shl1 c = 2 ^ c := by unfold shl1; rw [if_pos hc]
  have hle : h / 2 ^ c ≤ h := Nat.div_le_self _ _
  have hq : (h : Int) / ((shl1 c : Nat) : Int) = ((h / 2 ^ c : Nat) : Int) := by rw [hs]; exact (Int.natCast_ediv _ _).symm
  unfold W64 at hw
  rw [hq, wrap_u64 _ (by unfold W64; omega), Nat.testBit_eq_decide_div_mod_eq, Bool.eq_iff_iff, beq_iff_eq, decide_eq_true_eq, Int.tmod_eq_emod_of_nonneg (Int.natCast_nonneg _)]
  generalize h / 2 ^ c = q
  omega
theorem lf_big {h c : Nat} (hw : W64 h) (hc : 64 ≤ c) : h.testBit c = false :=
  Nat.testBit_lt_two_pow (Nat.lt_of_lt_of_le (show h < 2 ^ 64 from hw) (Nat.pow_le_pow_right (by decide) hc))
theorem lf_has (h c : Nat) (hw : W64 h) (w : World) :
    Calls Tryd.prog 56 #[.int .u64 (h : Int), .int .i64 (c : Int)] w fun e w' => e = .returned (.bool (h.testBit c)) ∧ w = w' := by
  by_cases hc : c < 64
  · have hp : (0 : Int) < ((shl1 c : Nat) : Int) := by unfold shl1; rw [if_pos hc]; have := Nat.two_pow_pos c; omega
    have HB := Lib.hid (lf_bit h c hw hc)
    have hci : (c : Int) < 64 := by omega
    go_enter Tryd.func56, Tryd.ntmps56
    go_wp2
    go_ret
    exact ⟨by rw [HB.out]; rfl, rfl⟩
  · have hci : ¬ (c : Int) < 64 := by omega
    have HF := Lib.hid (lf_big hw (show 64 ≤ c by omega))
    go_enter Tryd.func56, Tryd.ntmps56
    go_wp2
    go_ret
    exact ⟨by rw [HF.out]; rfl, rfl⟩
theorem lf_add {m c : Nat} (hc : c < 64) (hb : m.testBit c = false) : m + shl1 c = lor m (shl1 c) := by
  have hs : shl1 c = 2 ^ c := by unfold shl1; rw [if_pos hc]
  have hp := Nat.two_pow_pos c
  have h1 : m = 2 ^ c * (m / 2 ^ c) + m % 2 ^ c := (Nat.div_add_mod m (2 ^ c)).symm
  have h2 : m / 2 ^ c % 2 = 0 := by
    rw [Nat.testBit_eq_decide_div_mod_eq, decide_eq_false_iff_not] at hb; omega
  have h3 : m + 2 ^ c = 2 ^ c * (m / 2 ^ c + 1) + m % 2 ^ c := by rw [Nat.mul_succ]; omega
  have h4 : m + shl1 c = 2 ^ c * (m / 2 ^ c + 1) + m % 2 ^ c := by rw [hs]; exact h3
  rw [h4]
  apply Nat.eq_of_testBit_eq
  intro i
  rw [testBit_lor, testBit_shl1, Nat.testBit_two_pow_mul_add _ (Nat.mod_lt _ hp)]
  have hm := Nat.testBit_two_pow_mul_add (m / 2 ^ c) (Nat.mod_lt m hp) i
  rw [Nat.div_add_mod] at hm
  rw [hm]
  by_cases hi : i < c
  · rw [if_pos hi, if_pos hi]
    simp [show ¬ c = i by omega]
  · rw [if_neg hi, if_neg hi]
    obtain ⟨k, hk⟩ : ∃ k, m / 2 ^ c = 2 * k := by
      generalize m / 2 ^ c = d at *
      exact ⟨d / 2, by omega⟩
    rw [hk]
    by_cases hic : c = i
    · subst hic; simp [hc]
    · obtain ⟨d, hd⟩ : ∃ d, i - c = d + 1 := ⟨i - c - 1, by omega⟩
      rw [hd, Nat.testBit_succ, Nat.testBit_succ]
      simp [hic, show (2 * k + 1) / 2 = k by omega]
theorem lf_sub {m c : Nat} (hc : c < 64) (hb : m.testBit c = true) : landn m (shl1 c) + shl1 c = m := by
  have h0 : (landn m (shl1 c)).testBit c = false := by rw [testBit_landn, testBit_shl1]; simp [hc]
  rw [lf_add hc h0]
  apply Nat.eq_of_testBit_eq
  intro i
  rw [testBit_lor, testBit_landn, testBit_shl1]
  by_cases hic : c = i
  · subst hic; simp [hc, hb]
  · simp [hic]
theorem lf_with (h c : Nat) (hw : W64 h) (hc : c < 64) (w : World) :
    Calls Tryd.prog 74 #[.int .u64 (h : Int), .int .i64 (c : Int)] w fun e w' => e = .returned (.int .u64 (lor h (shl1 c) : Int)) ∧ w = w' := by
  have HH := Lib.hid (lf_has h c hw w)
  cases hb : h.testBit c
  · rw [hb] at HH
    have e := lf_add hc hb
    have hs : W64 (lor h (shl1 c)) := W64.lor hw (by unfold shl1 W64; rw [if_pos hc]; exact Nat.pow_lt_pow_right (a := 2) (by decide) hc)
    have E := Lib.hid (show IntKind.u64.wrap ((h : Int) + ((shl1 c : Nat) : Int)) = ((lor h (shl1 c) : Nat) : Int) by rw [← e] at hs ⊢; exact wrap_u64 _ hs)
    clear e hs hb hw
    go_enter Tryd.func74, Tryd.ntmps74
    go_wp2_with (go_at_call 56; refine HH.out.mono ?_; rintro e w' ⟨rfl, rfl⟩)
    go_ret
    exact ⟨by rw [E.out]; rfl, rfl⟩
  · rw [hb] at HH
    have E := Lib.hid (show lor h (shl1 c) = h by
      apply Nat.eq_of_testBit_eq
      intro i
      rw [testBit_lor, testBit_shl1]
      by_cases hic : c = i
      · subst hic; simp [hb]
      · simp [hic])
    clear hb hw
    go_enter Tryd.func74, Tryd.ntmps74
    go_wp2_with (go_at_call 56; refine HH.out.mono ?_; rintro e w' ⟨rfl, rfl⟩)
    go_ret
    exact ⟨by rw [E.out]; rfl, rfl⟩
theorem lf_without (h c : Nat) (hw : W64 h) (w : World) :
    Calls Tryd.prog 78 #[.int .u64 (h : Int), .int .i64 (c : Int)] w fun e w' => e = .returned (.int .u64 (landn h (shl1 c) : Int)) ∧ w = w' := by
  have HH := Lib.hid (lf_has h c hw w)
  cases hb : h.testBit c
  · rw [hb] at HH
    have E := Lib.hid (show landn h (shl1 c) = h by
      apply Nat.eq_of_testBit_eq
      intro i
      rw [testBit_landn, testBit_shl1]
      by_cases hic : c = i
      · subst hic; simp [hb]
      · simp [hic])
    clear hb hw
    go_enter Tryd.func78, Tryd.ntmps78
    go_wp2_with (go_at_call 56; refine HH.out.mono ?_; rintro e w' ⟨rfl, rfl⟩)
    go_ret
    exact ⟨by rw [E.out]; rfl, rfl⟩
  · rw [hb] at HH
    have hc : c < 64 := by
      rcases Nat.lt_or_ge c 64 with h1 | h1
      · exact h1
      · rw [lf_big hw h1] at hb; cases hb
    have e := lf_sub hc hb
    have hs : W64 (landn h (shl1 c)) := hw.landn
    have E := Lib.hid (show IntKind.u64.wrap ((h : Int) - ((shl1 c : Nat) : Int)) = ((landn h (shl1 c) : Nat) : Int) by
      rw [show (h : Int) - ((shl1 c : Nat) : Int) = ((landn h (shl1 c) : Nat) : Int) by omega]; exact wrap_u64 _ hs)
    clear e hs hb hw
    go_enter Tryd.func78, Tryd.ntmps78
    go_wp2_with (go_at_call 56; refine HH.out.mono ?_; rintro e w' ⟨rfl, rfl⟩)
    go_ret
    exact ⟨by rw [E.out]; rfl, rfl⟩
theorem lf_in (set c : Nat) (hw : set < 256) (w : World) :
    Calls Tryd.prog 77 #[.int .u8 (set : Int), .int .i64 (c : Int)] w fun e w' => e = .returned (.bool (set.testBit c)) ∧ w = w' := by
  have hs : W64 set := by unfold W64; omega
  have HH := Lib.hid (lf_has set c hs w)
  have E := wrap_u64 set hs
  clear hs
  go_enter Tryd.func77, Tryd.ntmps77
  go_wp2_with (go_at_call 56; refine HH.out.mono ?_; rintro e w' ⟨rfl, rfl⟩)
  go_ret
  exact ⟨rfl, rfl⟩
theorem lf_one (c : Nat) (hc : c < 8) (w : World) :
    Calls Tryd.prog 70 #[.int .i64 (c : Int)] w fun e w' => e = .returned (.int .u8 ((2 ^ c : Nat) : Int)) ∧ w = w' := by
  have hs : lor 0 (shl1 c) = 2 ^ c := by unfold lor shl1; rw [Nat.zero_or, if_pos (by omega)]
  have HH := Lib.hid (lf_with 0 c (by unfold W64; decide) (by omega) w)
  rw [hs] at HH
  have hp : 2 ^ c < 256 := Nat.pow_lt_pow_right (a := 2) (by decide) hc
  generalize (2 ^ c : Nat) = p at *
  have E : IntKind.u8.wrap (p : Int) = (p : Int) := by rw [IntKind.wrap_u8]; omega
  go_enter Tryd.func70, Tryd.ntmps70
  go_wp2_with (go_at_call 74; refine HH.out.mono ?_; rintro e w' ⟨rfl, rfl⟩)
  go_ret
  exact ⟨rfl, rfl⟩
theorem lf_others (set : Nat) (w : World) :
    Calls Tryd.prog 71 #[.int .u8 (set : Int)] w fun e w' => e = .returned (.int .u8 ((15 - set % 16 : Nat) : Int)) ∧ w = w' := by
  have E1 : ((set : Int)).tmod 16 = ((set % 16 : Nat) : Int) := by rw [Int.tmod_eq_emod_of_nonneg (by omega)]; omega
  have hl : set % 16 < 16 := Nat.mod_lt _ (by decide)
  have E := Lib.hid (show ((15 - set % 16 : Nat) : Int) = 15 - ((set % 16 : Nat) : Int) by omega)
  generalize set % 16 = q at *
  have E2 : IntKind.u8.wrap (q : Int) = (q : Int) := by rw [IntKind.wrap_u8]; omega
  have E3 : IntKind.u8.wrap (15 - (q : Int)) = 15 - (q : Int) := by rw [IntKind.wrap_u8]; omega
  go_enter Tryd.func71, Tryd.ntmps71
  go_wp2
  go_ret
  exact ⟨by rw [E.out]; rfl, rfl⟩
/-- the cards below k of which something is true -/
def filtTo (p : Nat → Bool) : Nat → Nat
  | 0 => 0
  | k + 1 => if p k then lor (filtTo p k) (shl1 k) else filtTo p k
theorem filtTo_bit (p : Nat → Bool) (c : Nat) : ∀ k, k ≤ 64 → (filtTo p k).testBit c = (decide (c < k) && p c)
  | 0, _ => by simp [filtTo]
  | k + 1, h => by
    have ih := filtTo_bit p c k (by omega)
    unfold filtTo
    by_cases hc : c = k
    · subst hc
      cases hb : p c
      · rw [if_neg (by simp), ih, hb]; simp
      · rw [if_pos rfl, testBit_lor, testBit_shl1]; simp [show c < 64 by omega]
    · have e : decide (c < k + 1) = decide (c < k) := by rw [decide_eq_decide]; omega
      rw [e, ← ih]
      split
      · rw [testBit_lor, testBit_shl1]; simp [show ¬ k = c by omega]
      · rfl
theorem filtTo_lt (p : Nat → Bool) : ∀ k, k ≤ 52 → filtTo p k < 4503599627370496
  | 0, _ => Nat.zero_lt_succ _
  | k + 1, h => by
    have ih := filtTo_lt p k (by omega)
    unfold filtTo
    split
    · exact Nat.or_lt_two_pow (n := 52) ih (by unfold shl1; rw [if_pos (by omega)]; exact Nat.pow_lt_pow_right (by decide) h)
    · exact ih
theorem filt_suits (h set : Nat) : filtTo (fun c => h.testBit c && set.testBit (c / 13)) 52 = land h (suitsM set) := by
  apply Nat.eq_of_testBit_eq
  intro i
  rw [filtTo_bit _ _ _ (by omega), testBit_land, suitsM_bit]
  cases h.testBit i <;> simp
theorem filt_both (g h : Nat) (hg : g < 4503599627370496) : filtTo (fun c => g.testBit c && h.testBit c) 52 = land g h := by
  apply Nat.eq_of_testBit_eq
  intro i
  rw [filtTo_bit _ _ _ (by omega), testBit_land]
  by_cases hi : i < 52
  · simp [hi]
  · rw [Nat.testBit_lt_two_pow (Nat.lt_of_lt_of_le (show g < 2 ^ 52 from hg) (Nat.pow_le_pow_right (by decide) (by omega)))]; simp
theorem lf_within (h set : Nat) (hw : W64 h) (hset : set < 256) (w : World) :
    Calls Tryd.prog 69 #[.int .u64 (h : Int), .int .u8 (set : Int)] w fun e w' => e = .returned (.int .u64 (land h (suitsM set) : Int)) ∧ w = w' := by
  have HH := Lib.hid (fun c W => lf_has h c hw W)
  have HI := Lib.hid (fun c W => lf_in set c hset W)
  have HE := Lib.hid (filt_suits h set)
  have HWI := Lib.hid (fun k (hk : k < 52) W => lf_with (filtTo (fun c => h.testBit c && set.testBit (c / 13)) k) k (w64_52 (filtTo_lt _ k (by omega))) (by omega) W)
  have HS := Lib.hid (fun k => show filtTo (fun c => h.testBit c && set.testBit (c / 13)) (k + 1) = if (h.testBit k && set.testBit (k / 13)) = true then lor (filtTo (fun c => h.testBit c && set.testBit (c / 13)) k) (shl1 k) else filtTo (fun c => h.testBit c && set.testBit (c / 13)) k from rfl)
  have H0 := Lib.hid (show filtTo (fun c => h.testBit c && set.testBit (c / 13)) 0 = 0 from rfl)
  generalize filtTo (fun c => h.testBit c && set.testBit (c / 13)) = F at *
  clear hw hset
  go_enter Tryd.func69, Tryd.ntmps69
  go_wp2
  go_loop [5, 6] (fun n c => ∃ k : Nat, k ≤ 52 ∧ c = .int .i64 (k : Int) ∧ n = .int .u64 (F k : Int)) (fun _ c => 52 - (intOf c).toNat)
  case atStart => exact ⟨0, by omega, rfl, by rw [H0.out]; rfl⟩
  case round =>
    obtain ⟨k, hk, rfl, rfl⟩ := hrel
    by_cases hlt : k < 52
    · have hd : ((k : Int)).tdiv 13 = ((k / 13 : Nat) : Int) := by rw [Int.tdiv_eq_ediv_of_nonneg (by omega)]; omega
      have hd2 : (k : Int) / 13 = ((k / 13 : Nat) : Int) := by omega
      have HX := HI.out (k / 13) w
      have hq : ((k / 13 : Nat) : Int) < 100 := by omega
      have HSK := HS.out k
      have HWK := Lib.hid (HWI.out k hlt w)
      have HHK := HH.out k w
      generalize k / 13 = q at *
      obtain ⟨f1, hf1⟩ : ∃ f1, F (k + 1) = f1 := ⟨_, rfl⟩
      rw [hf1] at HSK
      have HFK := Lib.hid hf1
      clear hf1
      generalize F k = f0 at *
      cases hb : h.testBit k
      · rw [hb] at HSK HHK
        have HSK := Lib.hid HSK
        have HHK := Lib.hid HHK
        clear hb
        go_wp2_with (go_at_call 56; refine HHK.out.mono ?_; rintro e w' ⟨rfl, rfl⟩)
        go_round
        case rel => exact ⟨k + 1, by omega, by go_num, by rw [HFK.out, HSK.out]; rfl⟩
        case measure => simp [intOf]; omega
      · rw [hb] at HSK HHK
        have HHK := Lib.hid HHK
        cases hs : set.testBit q
        all_goals
          rw [hs] at HSK HX
          have HSK := Lib.hid HSK
          have HXK := Lib.hid HX
          clear hb hs
          go_wp2_with (first | (go_at_call 56; refine HHK.out.mono ?_; rintro e w' ⟨rfl, rfl⟩) | (go_at_call 77; refine HXK.out.mono ?_; rintro e w' ⟨rfl, rfl⟩) | (go_at_call 74; refine HWK.out.mono ?_; rintro e w' ⟨rfl, rfl⟩))
          go_round
          case rel => exact ⟨k + 1, by omega, by go_num, by rw [HFK.out, HSK.out]; rfl⟩
          case measure => simp [intOf]; omega
    · have : k = 52 := by omega
      subst this
      go_wp2
      go_ret
      exact ⟨by rw [← HE.out]; rfl, rfl⟩
theorem lf_both (h g : Nat) (hh : h < 4503599627370496) (hg : W64 g) (w : World) :
    Calls Tryd.prog 72 #[.int .u64 (h : Int), .int .u64 (g : Int)] w fun e w' => e = .returned (.int .u64 (land h g : Int)) ∧ w = w' := by
  have HH := Lib.hid (fun c W => lf_has h c (w64_52 hh) W)
  have HI := Lib.hid (fun c W => lf_has g c hg W)
  have HE := Lib.hid (filt_both h g hh)
  have HWI := Lib.hid (fun k (hk : k < 52) W => lf_with (filtTo (fun c => h.testBit c && g.testBit c) k) k (w64_52 (filtTo_lt _ k (by omega))) (by omega) W)
  have HS := Lib.hid (fun k => show filtTo (fun c => h.testBit c && g.testBit c) (k + 1) = if (h.testBit k && g.testBit k) = true then lor (filtTo (fun c => h.testBit c && g.testBit c) k) (shl1 k) else filtTo (fun c => h.testBit c && g.testBit c) k from rfl)
  have H0 := Lib.hid (show filtTo (fun c => h.testBit c && g.testBit c) 0 = 0 from rfl)
  generalize filtTo (fun c => h.testBit c && g.testBit c) = F at *
  clear hh hg
  go_enter Tryd.func72, Tryd.ntmps72
  go_wp2
  go_loop [5, 6] (fun n c => ∃ k : Nat, k ≤ 52 ∧ c = .int .i64 (k : Int) ∧ n = .int .u64 (F k : Int)) (fun _ c => 52 - (intOf c).toNat)
  case atStart => exact ⟨0, by omega, rfl, by rw [H0.out]; rfl⟩
  case round =>
    obtain ⟨k, hk, rfl, rfl⟩ := hrel
    by_cases hlt : k < 52
    · have HSK := HS.out k
      have HWK := Lib.hid (HWI.out k hlt w)
      have HHK := HH.out k w
      have HGK := HI.out k w
      obtain ⟨f1, hf1⟩ : ∃ f1, F (k + 1) = f1 := ⟨_, rfl⟩
      rw [hf1] at HSK
      have HFK := Lib.hid hf1
      clear hf1
      generalize F k = f0 at *
      cases hb : h.testBit k
      · rw [hb] at HSK HHK
        have HSK := Lib.hid HSK
        have HHK := Lib.hid HHK
        clear hb
        go_wp2_with (go_at_call 56; refine HHK.out.mono ?_; rintro e w' ⟨rfl, rfl⟩)
        go_round
        case rel => exact ⟨k + 1, by omega, by go_num, by rw [HFK.out, HSK.out]; rfl⟩
        case measure => simp [intOf]; omega
      · rw [hb] at HSK HHK
        have HHK := Lib.hid HHK
        cases hs : g.testBit k
        all_goals
          rw [hs] at HSK HGK
          have HSK := Lib.hid HSK
          have HGK := Lib.hid HGK
          clear hb hs
          go_wp2_with (first | (go_at_call 56; first | (with_reducible refine HHK.out.mono ?_; rintro e w' ⟨rfl, rfl⟩) | (with_reducible refine HGK.out.mono ?_; rintro e w' ⟨rfl, rfl⟩)) | (go_at_call 74; refine HWK.out.mono ?_; rintro e w' ⟨rfl, rfl⟩))
          go_round
          case rel => exact ⟨k + 1, by omega, by go_num, by rw [HFK.out, HSK.out]; rfl⟩
          case measure => simp [intOf]; omega
    · have : k = 52 := by omega
      subst this
      go_wp2
      go_ret
      exact ⟨by rw [← HE.out]; rfl, rfl⟩
end Go.Proofs.YtgnlmodaekfhfaaDoor

/- The reference of chapter 14: who, Turn, worth, Choices, Legal. -/
namespace Go.Proofs.YtgnlmodaekfhfaaDoor
open Go.RowKit Go.Shelf Go.Sort

attribute [-go_sem] run_equalIn_agg run_neq_struct
theorem size_rst : (Tryd.prog.info? 80).map (·.size) = some 24 := by kernel_rfl
/-- a state of the reference lies in block B -/
abbrev RefAt (w : World) (B : Nat) (s : St) : Prop := Row w B 80 s.cells
theorem lf_who {s : St} (hs : s.ok) {SA : Array Value} (hSA : SA = s.cells) (w : World) :
    Calls Tryd.prog 68 #[.agg SA] w fun e w' => e = .returned (.int .u8 (s.turn : Int)) ∧ Below w.heap.size w w' := by
  have hld := hs.ld
  have hct := hs.ct
  have ew : IntKind.u8.wrap ((s.ld : Int) + (s.ct : Int)) = (s.ld : Int) + (s.ct : Int) := by rw [IntKind.wrap_u8]; omega
  have et : ((s.ld : Int) + (s.ct : Int)).tmod 4 = (s.turn : Int) := by rw [Int.tmod_eq_emod_of_nonneg (by omega)]; unfold St.turn; omega
  have ew2 : IntKind.u8.wrap (s.turn : Int) = (s.turn : Int) := by rw [IntKind.wrap_u8]; unfold St.turn; omega
  have c10 : SA[10]? = some (.int .u8 (s.ld : Int)) := by rw [hSA]; rfl
  have c11 : SA[11]? = some (.int .u8 (s.ct : Int)) := by rw [hSA]; rfl
  have HB := Lib.hid ((Below.refl w.heap.size w).alloc (Nat.le_refl _) (.cells SA 80))
  clear hSA
  go_enter Tryd.func68, Tryd.ntmps68
  go_wp2_with fail
  go_ret
  exact ⟨rfl, HB.out⟩
theorem lf_Turn {s : St} (hs : s.ok) {SA : Array Value} (hSA : SA = s.cells) (w : World) :
    Calls Tryd.prog 57 #[.agg SA] w fun e w' => e = .returned (.tuple #[.int .u8 (s.turnV.1 : Int), .int .i64 (s.turnV.2 : Int)]) ∧ Below w.heap.size w w' := by
  have HB := Lib.hid ((Below.refl w.heap.size w).alloc (Nat.le_refl _) (.cells SA 80))
  have HR := Lib.hid (Row.new w 80 SA)
  have HW := Lib.hid (fun (W : World) => lf_who hs hSA W)
  have HZ : Hid ((Tryd.prog.info? 80).map (·.size) = some SA.size) := Lib.hid (by rw [hSA]; exact size_rst)
  have HSA := Lib.hid hSA
  clear hSA
  obtain ⟨tv, htv⟩ : ∃ tv, s.turnV = tv := ⟨_, rfl⟩
  rw [htv]
  have HTV := Lib.hid htv
  clear htv
  go_enter Tryd.func57, Tryd.ntmps57
  go_upto_region 1 with fail
  generalize w.alloc (.cells SA 80) = w1 at *
  have c18 : w1.cell? ⟨w.heap.size, 18, none⟩ = some (.bool s.pend) := by rw [HR.out.cell, HSA.out]; rfl
  cases hp : s.pend
  · rw [hp] at c18
    have HP := Lib.hid hp
    clear hp
    go_wp2_with fail
    go_loop [4] (fun c => ∃ k : Nat, k ≤ 4 ∧ c = .int .i64 (k : Int) ∧ ∀ i, i < k → s.h i = 0) (fun c => 4 - (intOf c).toNat)
    case atStart => exact ⟨0, by omega, rfl, fun i hi => by omega⟩
    case round =>
      obtain ⟨k, hk, rfl, hz⟩ := hrel
      have HZK := Lib.hid hz
      clear hz
      by_cases hlt : k < 4
      · have ck : w1.cell? ⟨w.heap.size, k, none⟩ = some (.int .u64 (s.h k : Int)) := by rw [HR.out.cell, HSA.out, st_hget s k hlt]
        obtain ⟨m, hm⟩ : ∃ m, s.h k = m := ⟨_, rfl⟩
        rw [hm] at ck
        have HM := Lib.hid hm
        clear hm
        have hkI : (k : Int) < 4 := by omega
        by_cases hm0 : 0 < m
        · have ho : s.over = false := by
            unfold St.over
            rcases (show k = 0 ∨ k = 1 ∨ k = 2 ∨ k = 3 by omega) with h | h | h | h
            all_goals
              have h1 : s.h k ≠ 0 := by rw [HM.out]; omega
              rw [h] at h1
              simp [h1]
          have HO := Lib.hid ho
          clear ho
          go_wp2_with (first
            | refine wpList_load_row_g rfl 80 (.tmp 1) rfl w.heap.size rfl 80 SA (0, 0) _ HR.out Tryd.underlying80 rfl HZ.out ?_
            | (go_at_call 68; refine (HW.out _).mono ?_; rintro e w' ⟨rfl, hb2⟩))
          go_ret2
          exact ⟨by rw [← HTV.out]; unfold St.turnV; rw [HP.out, HO.out]; rfl, HB.out.trans (hb2.mono HB.out.size)⟩
        · obtain rfl : m = 0 := by omega
          go_wp2_with fail
          go_round
          case rel => exact ⟨k + 1, by omega, by go_num, fun i hi => by
            rcases Nat.lt_or_ge i k with h1 | h1
            · exact HZK.out i h1
            · obtain rfl : i = k := by omega
              exact HM.out⟩
          case measure => simp [intOf]; omega
      · obtain rfl : k = 4 := by omega
        have ho : s.over = true := by
          unfold St.over
          rw [HZK.out 0 (by omega), HZK.out 1 (by omega), HZK.out 2 (by omega), HZK.out 3 (by omega)]; rfl
        have HO := Lib.hid ho
        clear ho
        go_wp2_with fail
        go_ret2
        exact ⟨by rw [← HTV.out]; unfold St.turnV; rw [HP.out, HO.out]; rfl, HB.out⟩
  · rw [hp] at c18
    have HP := Lib.hid hp
    clear hp
    go_wp2_with fail
    go_ret2
    exact ⟨by rw [← HTV.out]; unfold St.turnV; rw [HP.out]; rfl, HB.out⟩
end Go.Proofs.YtgnlmodaekfhfaaDoor

/- The reference of chapter 14: worth, Choices, Legal. -/
namespace Go.Proofs.YtgnlmodaekfhfaaDoor
open Go.RowKit Go.Shelf Go.Sort

attribute [-go_sem] run_equalIn_agg run_neq_struct
theorem lf_worth {s : St} {SA : Array Value} (hSA : SA = s.cells) {tm c0 c : Nat} (ht : s.tm = tm) (h0 : s.cs 0 = c0) (hc0 : c0 < 52) (hc : c < 52) (w : World) :
    Calls Tryd.prog 79 #[.agg SA, .int .u8 (c : Int)] w fun e w' => e = .returned (.int .i64 (worthI tm (c0 / 13) c)) ∧ Below w.heap.size w w' := by
  have c8 : SA[8]? = some (.int .u8 (tm : Int)) := by rw [hSA, ← ht]; rfl
  have c12 : SA[12]? = some (.int .u8 (c0 : Int)) := by rw [hSA, ← h0]; rfl
  have HB := Lib.hid ((Below.refl w.heap.size w).alloc (Nat.le_refl _) (.cells SA 80))
  have t1 : ((c : Int)).tdiv 13 = ((c / 13 : Nat) : Int) := by rw [Int.tdiv_eq_ediv_of_nonneg (by omega)]; omega
  have t2 : ((c0 : Int)).tdiv 13 = ((c0 / 13 : Nat) : Int) := by rw [Int.tdiv_eq_ediv_of_nonneg (by omega)]; omega
  have t1' : (c : Int) / 13 = ((c / 13 : Nat) : Int) := by omega
  have t2' : (c0 : Int) / 13 = ((c0 / 13 : Nat) : Int) := by omega
  have e1 : IntKind.u8.wrap ((c / 13 : Nat) : Int) = ((c / 13 : Nat) : Int) := by rw [IntKind.wrap_u8]; omega
  have e2 : IntKind.u8.wrap ((c0 / 13 : Nat) : Int) = ((c0 / 13 : Nat) : Int) := by rw [IntKind.wrap_u8]; omega
  have e3 : IntKind.i64.wrap (c : Int) = (c : Int) := IntWalk.i64_in _ (by omega)
  have e4 : IntKind.i64.wrap (200 + (c : Int)) = 200 + (c : Int) := IntWalk.i64_in _ (by omega)
  have e5 : IntKind.i64.wrap (100 + (c : Int)) = 100 + (c : Int) := IntWalk.i64_in _ (by omega)
  have e6 : IntKind.i64.wrap ((c : Int) - 100) = (c : Int) - 100 := IntWalk.i64_in _ (by omega)
  have HI := Lib.hid (show worthI tm (c0 / 13) c = if c / 13 = tm then 200 + (c : Int) else if c / 13 = c0 / 13 then 100 + (c : Int) else (c : Int) - 100 from rfl)
  generalize worthI tm (c0 / 13) c = W at *
  generalize c / 13 = q at *
  generalize c0 / 13 = q0 at *
  clear hSA ht h0
  by_cases h1 : q = tm
  · have h1I : ((q : Int) == (tm : Int)) = true := by rw [beq_iff_eq]; omega
    have HR : Hid (W = 200 + (c : Int)) := Lib.hid (by rw [HI.out, if_pos h1])
    clear h1
    go_enter Tryd.func79, Tryd.ntmps79
    go_wp2_with fail
    go_ret
    exact ⟨by rw [HR.out]; rfl, HB.out⟩
  · have h1I : ((q : Int) == (tm : Int)) = false := by rw [beq_eq_false_iff_ne]; omega
    by_cases h2 : q = q0
    · have h2I : ((q : Int) == (q0 : Int)) = true := by rw [beq_iff_eq]; omega
      have HR : Hid (W = 100 + (c : Int)) := Lib.hid (by rw [HI.out, if_neg h1, if_pos h2])
      clear h1 h2
      go_enter Tryd.func79, Tryd.ntmps79
      go_wp2_with fail
      go_ret
      exact ⟨by rw [HR.out]; rfl, HB.out⟩
    · have h2I : ((q : Int) == (q0 : Int)) = false := by rw [beq_eq_false_iff_ne]; omega
      have HR : Hid (W = (c : Int) - 100) := Lib.hid (by rw [HI.out, if_neg h1, if_neg h2])
      clear h1 h2
      go_enter Tryd.func79, Tryd.ntmps79
      go_wp2_with fail
      go_ret
      exact ⟨by rw [HR.out]; rfl, HB.out⟩
theorem lf_Choices {d : Nat → Nat} {n : Nat} {s : St} (hi : SInv d n s) {SA : Array Value} (hSA : SA = s.cells) (w : World) :
    Calls Tryd.prog 59 #[.agg SA] w fun e w' => e = .returned (.int .u8 (s.choicesV : Int)) ∧ Below w.heap.size w w' := by
  have c18 : SA[18]? = some (.bool s.pend) := by rw [hSA]; rfl
  have HB := Lib.hid ((Below.refl w.heap.size w).alloc (Nat.le_refl _) (.cells SA 80))
  cases hp : s.pend
  · rw [hp] at c18
    have hv : s.choicesV = 0 := by
      unfold St.choicesV
      simp [St.sumTo, St.may, St.byDeclarer, St.byDefender, St.beforePartner, St.atOpening, hp]
    have HV := Lib.hid hv
    clear hv hp hSA hi
    go_enter Tryd.func59, Tryd.ntmps59
    go_wp2_with fail
    go_ret
    exact ⟨by rw [HV.out]; rfl, HB.out⟩
  · rw [hp] at c18
    have hv := choices_ref hi hp
    have hse := hi.ok.seat
    have hdc := hi.ok.dc
    have hld := hi.ok.ld
    have c9 : SA[9]? = some (.int .u8 (s.dc : Int)) := by rw [hSA]; rfl
    have c10 : SA[10]? = some (.int .u8 (s.ld : Int)) := by rw [hSA]; rfl
    have c16 : SA[16]? = some (.int .u8 (s.seat : Int)) := by rw [hSA]; rfl
    have c19 : SA[19]? = some (.bool s.opn) := by rw [hSA]; rfl
    unfold chooseR at hv
    generalize s.choicesV = V at *
    generalize s.seat = a at *
    generalize s.dc = b at *
    generalize s.ld = l at *
    generalize s.opn = o at *
    have HV := Lib.hid hv
    clear hv hp hSA hi
    have e1 : IntKind.u8.wrap ((a : Int) + (b : Int)) = (a : Int) + (b : Int) := by rw [IntKind.wrap_u8]; omega
    have e2 : IntKind.u8.wrap ((a : Int) + (l : Int)) = (a : Int) + (l : Int) := by rw [IntKind.wrap_u8]; omega
    obtain ⟨x, hx⟩ : ∃ x, x = (a + b) % 2 := ⟨_, rfl⟩
    obtain ⟨y, hy⟩ : ∃ y, y = (a + l) % 2 := ⟨_, rfl⟩
    have t1 : ((a : Int) + (b : Int)).tmod 2 = (x : Int) := by rw [Int.tmod_eq_emod_of_nonneg (by omega)]; omega
    have t2 : ((a : Int) + (l : Int)).tmod 2 = (y : Int) := by rw [Int.tmod_eq_emod_of_nonneg (by omega)]; omega
    have e3 : IntKind.u8.wrap (x : Int) = (x : Int) := by rw [IntKind.wrap_u8]; omega
    have e4 : IntKind.u8.wrap (y : Int) = (y : Int) := by rw [IntKind.wrap_u8]; omega
    have HX := Lib.hid hx
    have HY := Lib.hid hy
    by_cases h1 : x = 0
    · have h1I : ((x : Int) == 0) = true := by rw [beq_iff_eq]; omega
      have hr : V = 3 := by rw [HV.out, if_pos (show (a + b) % 2 = 0 by omega)]
      have HR := Lib.hid hr
      clear hr h1 hx hy
      go_enter Tryd.func59, Tryd.ntmps59
      go_wp2_with fail
      go_ret
      exact ⟨by rw [HR.out]; rfl, HB.out⟩
    · have h1I : ((x : Int) == 0) = false := by rw [beq_eq_false_iff_ne]; omega
      have hr := HV.out
      rw [if_neg (show ¬ (a + b) % 2 = 0 by omega)] at hr
      by_cases h2 : y = 0
      · have h2I : ((y : Int) == 0) = true := by rw [beq_iff_eq]; omega
        rw [if_pos (show (a + l) % 2 = 0 by omega)] at hr
        cases o
        all_goals
          have HR := Lib.hid hr
          clear hr h1 h2 hx hy
          go_enter Tryd.func59, Tryd.ntmps59
          go_wp2_with fail
          go_ret
          exact ⟨by rw [HR.out]; rfl, HB.out⟩
      · have h2I : ((y : Int) == 0) = false := by rw [beq_eq_false_iff_ne]; omega
        rw [if_neg (show ¬ (a + l) % 2 = 0 by omega)] at hr
        cases o
        all_goals
          have HR := Lib.hid hr
          clear hr h1 h2 hx hy
          go_enter Tryd.func59, Tryd.ntmps59
          go_wp2_with fail
          go_ret
          exact ⟨by rw [HR.out]; rfl, HB.out⟩
end Go.Proofs.YtgnlmodaekfhfaaDoor
