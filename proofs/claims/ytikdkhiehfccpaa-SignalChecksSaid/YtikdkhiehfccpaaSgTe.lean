/- SignalTells: the body. -/
import Derived.Test.YtikdkhiehfccpaaMRmg
import Derived.Test.YtikdkhiehfccpaaMSgj
namespace Go.Proofs.Ytikdkhiehfccpaa
open Go.RowKit Go.Sort Go.Shelf Cnt

theorem few_len {ls : List Rl} (h : fewV ls = true) : ls.length ≤ 25 ∧ ∀ x ∈ ls, x.rs.length ≤ 25 := by
  unfold fewV at h
  obtain ⟨h1, h2⟩ := Bool.and_eq_true_iff.1 h
  exact ⟨of_decide_eq_true h2, fun x hx => of_decide_eq_true (List.all_eq_true.1 h1 x hx)⟩
set_option maxHeartbeats 4000000 in
theorem law_SignalTells (left h : Nat) (n s : Int) (a : Option Addr) (la ca : Nat) (ls : List Rl) (b : Option Addr) (lb cb : Nat) (rb : List Rg) (w : World)
    (hleft : W64 left) (hh : W64 h) (_ : -9223372036854775808 ≤ n ∧ n ≤ 9223372036854775807) (_ : -9223372036854775808 ≤ s ∧ s ≤ 9223372036854775807) (ha : Rls w a la ls) (_ : la ≤ ca) (hb : Rgs w b lb rb) (_ : lb ≤ cb ∧ (b = none → cb = 0)) :
    Calls Try.prog 7 #[.int .u64 (left : Int), .int .u64 (h : Int), .int .i64 n, .int .i64 s, .slice a la ca, .slice b lb cb] w fun e w' => e = .returned (.bool true) ∧ Below w.heap.size w w' := by
  have HA := Lib.hid ha
  have HBr := Lib.hid hb
  have HL := Lib.hid hleft
  have HH := Lib.hid hh
  have HLn := Lib.hid ha.length
  have hsb := hb.small
  clear ha hb hleft hh
  go_enter Try.func7, Try.ntmps7
  go_wp2_with fail
  refine (law41_few a la ca ls _ HA.out).mono ?_
  rintro e w1 ⟨rfl, hb1⟩
  have HB1 := Lib.hid hb1
  have HA1 := Lib.hid (HA.out.below (Nat.le_refl _) hb1)
  have HC1 := Lib.hid (HBr.out.below (Nat.le_refl _) hb1)
  clear hb1 HA HBr
  cases hf : fewV ls
  · go_wp2_with fail
    refine (law41_awake _).mono ?_
    rintro e w2 ⟨rfl, hb2⟩
    have HB2 := Lib.hid (HB1.out.trans (hb2.mono HB1.out.size))
    clear hb2
    go_wp2_with fail
    go_ret
    exact ⟨rfl, HB2.out⟩
  · by_cases h25 : 25 < lb
    · have hd : decide ((25 : Int) < (lb : Int)) = true := by simp; omega
      go_wp2_with fail
      refine (law41_awake _).mono ?_
      rintro e w2 ⟨rfl, hb2⟩
      have HB2 := Lib.hid (HB1.out.trans (hb2.mono HB1.out.size))
      clear hb2
      go_wp2_with fail
      go_ret
      exact ⟨rfl, HB2.out⟩
    · have hd : decide ((25 : Int) < (lb : Int)) = false := by simp; omega
      have HF := Lib.hid (few_len hf)
      have hla : la ≤ 25 := by have := HF.out.1; have := HLn.out; omega
      clear hf
      go_wp2_with fail
      refine (law41_rules a la ca ls _ HA1.out (by omega) HF.out.2).mono ?_
      rintro e w2 ⟨⟨v, ps, rfl, hO, hps⟩, hb2⟩
      have hpl : ps.length = la := by
        have := congrArg List.length hps
        unfold Kd.of at this
        rw [List.length_map] at this
        exact this.trans HLn.out
      obtain ⟨a9, c9, rfl, hR, -, -⟩ := hO.rls hps (by omega)
      rw [HLn.out] at hR ⊢
      have HB2 := Lib.hid (HB1.out.trans (hb2.mono HB1.out.size))
      have HA2 := Lib.hid (HA1.out.below (Nat.le_refl _) hb2)
      have HC2 := Lib.hid (HC1.out.below (Nat.le_refl _) hb2)
      have HR2 := Lib.hid hR
      clear hO hps hpl hb2 hR HA1 HC1 HB1
      go_wp2_with fail
      refine (sg_CountsV left n a la ca ls HL.out _ HA2.out).mono ?_
      rintro e w3 ⟨⟨x1, cx1, rfl, hx1⟩, hb3⟩
      have HB3 := Lib.hid (HB2.out.trans (hb3.mono HB2.out.size))
      have HA3 := Lib.hid (HA2.out.below (Nat.le_refl _) hb3)
      have HC3 := Lib.hid (HC2.out.below (Nat.le_refl _) hb3)
      have HR3 := Lib.hid (HR2.out.below (Nat.le_refl _) hb3)
      have HX3 := Lib.hid hx1
      clear hb3 HA2 HC2 HB2 HR2 hx1
      go_wp2_with fail
      refine (rm_CountsV left n a9 la c9 ls _ HR3.out (by omega)).mono ?_
      rintro e w4 ⟨⟨x2, cx2, rfl, hx2⟩, hb4⟩
      have HB4 := Lib.hid (HB3.out.trans (hb4.mono HB3.out.size))
      have HA4 := Lib.hid (HA3.out.below (Nat.le_refl _) hb4)
      have HC4 := Lib.hid (HC3.out.below (Nat.le_refl _) hb4)
      have HR4 := Lib.hid (HR3.out.below (Nat.le_refl _) hb4)
      have HX4 := Lib.hid (HX3.out.later hb4)
      have HY4 := Lib.hid hx2
      clear hb4 HA3 HC3 HB3 HR3 HX3 hx2
      obtain ⟨m, HM⟩ : ∃ m, Hid (resN 10 (lgOk left n ls) = m) := ⟨_, Lib.hid rfl⟩
      obtain ⟨eo, HE⟩ : ∃ m, Hid (okE (lgOk left n ls) = m) := ⟨_, Lib.hid rfl⟩
      rw [HM.out] at HX4 HY4
      rw [HM.out, HE.out]
      clear HM HE
      have he : (eo == eo) = true := by simp
      obtain ⟨r1, HT1⟩ : ∃ m, Hid ((tdV left n ls s rb).1 = m) := ⟨_, Lib.hid rfl⟩
      obtain ⟨r2, HT2⟩ : ∃ m, Hid ((tdV left n ls s rb).2.1 = m) := ⟨_, Lib.hid rfl⟩
      obtain ⟨r3, HT3⟩ : ∃ m, Hid ((tdV left n ls s rb).2.2 = m) := ⟨_, Lib.hid rfl⟩
      have hr1 : ((r1 : Int) == (r1 : Int)) = true := by simp
      have hr2 : ((r2 : Int) == (r2 : Int)) = true := by simp
      have hr3 : (r3 == r3) = true := by simp
      go_wp2_with fail
      refine (sg_ToldV left n a la ca ls s b lb cb rb HL.out _ HA4.out HC4.out).mono ?_
      rintro e w5 ⟨rfl, hb5⟩
      rw [HT1.out, HT2.out, HT3.out]
      have HB5 := Lib.hid (HB4.out.trans (hb5.mono HB4.out.size))
      have HA5 := Lib.hid (HA4.out.below (Nat.le_refl _) hb5)
      have HC5 := Lib.hid (HC4.out.below (Nat.le_refl _) hb5)
      have HR5 := Lib.hid (HR4.out.below (Nat.le_refl _) hb5)
      have HX5 := Lib.hid (HX4.out.later hb5)
      have HY5 := Lib.hid (HY4.out.later hb5)
      clear hb5 HA4 HC4 HB4 HR4 HX4 HY4
      go_wp2_with fail
      refine (law41_ranges b lb cb rb _ HC5.out (by omega)).mono ?_
      rintro e w6 ⟨⟨v, rfl, hv⟩, hb6⟩
      have HRL := Lib.hid HC5.out.length
      obtain ⟨ai, ci, rfl, hI, -, -⟩ := hv.rgs (by have := HRL.out; omega)
      rw [HRL.out] at hI ⊢
      have HB6 := Lib.hid (HB5.out.trans (hb6.mono HB5.out.size))
      have HA6 := Lib.hid (HA5.out.below (Nat.le_refl _) hb6)
      have HR6 := Lib.hid (HR5.out.below (Nat.le_refl _) hb6)
      have HX6 := Lib.hid (HX5.out.later hb6)
      have HY6 := Lib.hid (HY5.out.later hb6)
      have HI6 := Lib.hid hI
      clear hb6 HA5 HC5 HB5 HR5 HX5 HY5 hv hI
      go_wp2_with fail
      refine (rm_ToldV left n a9 la c9 ls s ai lb ci rb _ HR6.out (by omega) HI6.out).mono ?_
      rintro e w7 ⟨rfl, hb7⟩
      rw [HT1.out, HT2.out, HT3.out]
      have HB7 := Lib.hid (HB6.out.trans (hb7.mono HB6.out.size))
      have HA7 := Lib.hid (HA6.out.below (Nat.le_refl _) hb7)
      have HR7 := Lib.hid (HR6.out.below (Nat.le_refl _) hb7)
      have HX7 := Lib.hid (HX6.out.later hb7)
      have HY7 := Lib.hid (HY6.out.later hb7)
      clear hb7 HA6 HB6 HR6 HX6 HY6 HI6 HT1 HT2 HT3
      go_wp2_with fail
      refine (sg_Right a la ca ls _ HA7.out).mono ?_
      rintro e w8 ⟨rfl, hb8⟩
      have HB8 := Lib.hid (HB7.out.trans (hb8.mono HB7.out.size))
      have HA8 := Lib.hid (HA7.out.below (Nat.le_refl _) hb8)
      have HR8 := Lib.hid (HR7.out.below (Nat.le_refl _) hb8)
      have HX8 := Lib.hid (HX7.out.later hb8)
      have HY8 := Lib.hid (HY7.out.later hb8)
      clear hb8 HA7 HB7 HR7 HX7 HY7
      obtain ⟨q, HQ⟩ : ∃ m, Hid (rightS ls = m) := ⟨_, Lib.hid rfl⟩
      have hq : (q == q) = true := by simp
      rw [HQ.out]
      go_wp2_with fail
      refine (rm_Right a9 la c9 ls _ HR8.out (by omega)).mono ?_
      rintro e w9 ⟨rfl, hb9⟩
      rw [HQ.out]
      have HB9 := Lib.hid (HB8.out.trans (hb9.mono HB8.out.size))
      have HA9 := Lib.hid (HA8.out.below (Nat.le_refl _) hb9)
      have HR9 := Lib.hid (HR8.out.below (Nat.le_refl _) hb9)
      have HX9 := Lib.hid (HX8.out.later hb9)
      have HY9 := Lib.hid (HY8.out.later hb9)
      clear hb9 HA8 HB8 HR8 HX8 HY8 HQ
      go_wp2_with fail
      refine (sg_Of a la ca ls h HH.out _ HA9.out).mono ?_
      rintro e wa ⟨rfl, hba⟩
      have HBa := Lib.hid (HB9.out.trans (hba.mono HB9.out.size))
      have HAa := Lib.hid (HA9.out.below (Nat.le_refl _) hba)
      have HRa := Lib.hid (HR9.out.below (Nat.le_refl _) hba)
      have HXa := Lib.hid (HX9.out.later hba)
      have HYa := Lib.hid (HY9.out.later hba)
      clear hba HA9 HB9 HR9 HX9 HY9
      obtain ⟨o, HO⟩ : ∃ m, Hid (ofV ls h = m) := ⟨_, Lib.hid rfl⟩
      have ho : (o == o) = true := by simp
      rw [HO.out]
      go_wp2_with fail
      refine (rm_Of a9 la c9 ls h HH.out _ HRa.out).mono ?_
      rintro e wb ⟨rfl, hbb⟩
      rw [HO.out]
      have HBb := Lib.hid (HBa.out.trans (hbb.mono HBa.out.size))
      have HAb := Lib.hid (HAa.out.below (Nat.le_refl _) hbb)
      have HRb := Lib.hid (HRa.out.below (Nat.le_refl _) hbb)
      have HXb := Lib.hid (HXa.out.later hbb)
      have HYb := Lib.hid (HYa.out.later hbb)
      clear hbb HAa HBa HRa HXa HYa HO
      go_wp2_with fail
      refine (kit_sameInts x1 x2 m cx1 cx2 _ _ HXb.out HYb.out).mono ?_
      rintro e wc ⟨rfl, hbc⟩
      have HBc := Lib.hid (HBb.out.trans (hbc.mono HBb.out.size))
      have HAc := Lib.hid (HAb.out.below (Nat.le_refl _) hbc)
      have HRc := Lib.hid (HRb.out.below (Nat.le_refl _) hbc)
      clear hbc HAb HBb HRb HXb HYb
      go_wp2_with fail
      refine (law41_kept a la ca ls a9 c9 _ HAc.out (by omega) HF.out.2 HRc.out).mono ?_
      rintro e wd ⟨rfl, hbd⟩
      have HBd := Lib.hid (HBc.out.trans (hbd.mono HBc.out.size))
      clear hbd HAc HRc HBc
      go_wp2_with fail
      refine (law41_awake _).mono ?_
      rintro e we ⟨rfl, hbe⟩
      have HBe := Lib.hid (HBd.out.trans (hbe.mono HBd.out.size))
      clear hbe
      go_wp2_with fail
      go_ret
      exact ⟨rfl, HBe.out⟩
end Go.Proofs.Ytikdkhiehfccpaa
