/- AgreeWithout over this seat's program: the body. -/
import Derived.Test.YtmkplfndbjcflaaAgY
import Derived.Test.YtmkplfndbjcflaaMPld
namespace Go.Proofs.Ytmkplfndbjcflaa
open Go.RowKit Go.Sort Go.Shelf Cnt

theorem land_bit {L c : Nat} (hc : c < 64) : ∀ j, (landn (lor L (shl1 c)) (shl1 c)).testBit j = ((lor L (shl1 c)).testBit j && j != c) := by
  intro j
  rw [testBit_landn, testBit_lor, testBit_shl1]
  by_cases h : c = j
  · subst h; simp [hc]
  · have : j ≠ c := fun e => h e.symm
    simp [h, this]
theorem lor_self {L c : Nat} (hc : c < 64) : (lor L (shl1 c)).testBit c = true := by
  rw [testBit_lor, testBit_shl1]; simp [hc]
theorem lt_52 {m : Nat} (h : ∀ j, 52 ≤ j → m.testBit j = false) : m < 4503599627370496 :=
  Nat.lt_pow_two_of_testBit (n := 52) m h
theorem bit_52 {m j : Nat} (h : m < 4503599627370496) (hj : 52 ≤ j) : m.testBit j = false :=
  Nat.testBit_lt_two_pow (Nat.lt_of_lt_of_le h (Nat.pow_le_pow_right (n := 2) (by decide) hj))
theorem lor_52 {L c : Nat} (hL : L < 4503599627370496) (hc : c < 52) : lor L (shl1 c) < 4503599627370496 := lt_52 fun j hj => by
  rw [testBit_lor, testBit_shl1, bit_52 hL hj]; simp; omega
theorem landn_52 {L m : Nat} (hL : L < 4503599627370496) : landn L m < 4503599627370496 := lt_52 fun j hj => by
  rw [testBit_landn, bit_52 hL hj]; rfl
theorem bits_or_nat (a b : Nat) (ha : W64 a) (hb : W64 b) : bits .or .u64 (a : Int) (b : Int) = ((lor a b : Nat) : Int) := by
  have h := run_or64 a b ha hb
  rw [intBits_or] at h
  injection h with h
  injection h
theorem bits_andn_nat (a b : Nat) (ha : W64 a) (hb : W64 b) : bits .andNot .u64 (a : Int) (b : Int) = ((landn a b : Nat) : Int) := by
  have h := run_andn64 a b ha hb
  rw [intBits_andNot] at h
  injection h with h
  injection h
/-- one pair of lengths put into the range of all -/
theorem put_rgS (s : Nat) (hs : s < 4) (l h : Int) (r : Rg) (hr : ∃ l0 h0, r = rgS s l0 h0) : putAt r.arr (2 + s * 2) [.int .i64 l, .int .i64 h] = (rgS s l h).arr := by
  obtain ⟨l0, h0, rfl⟩ := hr
  have : s = 0 ∨ s = 1 ∨ s = 2 ∨ s = 3 := by omega
  rcases this with rfl | rfl | rfl | rfl <;> rfl
theorem all_rgS (s : Nat) (hs : s < 4) : rgAll = rgS s 0 13 := by
  have : s = 0 ∨ s = 1 ∨ s = 2 ∨ s = 3 := by omega
  rcases this with rfl | rfl | rfl | rfl <;> rfl

set_option maxHeartbeats 4000000 in
theorem law_AgreeWithout (left n card from' to' : Nat) (w : World) (hleft : W64 left) (hn : n < 256) (hcard : card < 256) (hfrom : from' < 256) (hto : to' < 256) :
    Calls Try.prog 5 #[.int .u64 (left : Int), .int .u8 (n : Int), .int .u8 (card : Int), .int .u8 (from' : Int), .int .u8 (to' : Int)] w fun e w' => e = .returned (.bool true) ∧ Below w.heap.size w w' := by
  have hpk := bits_pk left hleft
  have HPL := Lib.hid (pk_lt left)
  generalize pk left = L at *
  have hc52 : (card : Int) % 52 = ((card % 52 : Nat) : Int) := by omega
  have hclt : card % 52 < 52 := by omega
  generalize card % 52 = c at *
  have hf14 : (from' : Int) % 14 = ((from' % 14 : Nat) : Int) := by omega
  have ht14 : (to' : Int) % 14 = ((to' % 14 : Nat) : Int) := by omega
  have hflt : from' % 14 < 14 := by omega
  have htlt : to' % 14 < 14 := by omega
  generalize from' % 14 = f at *
  generalize to' % 14 = t at *
  have hWL : W64 L := by have := HPL.out; unfold W64; omega
  have HL1 := Lib.hid (lor_52 HPL.out hclt)
  have HS1 := Lib.hid (lor_self (L := L) (c := c) (by omega))
  have HM := Lib.hid (land_bit (L := L) (c := c) (by omega))
  have HM1 := Lib.hid (landn_52 (m := shl1 c) HL1.out)
  have HW1 : W64 (lor L (shl1 c)) := by have := HL1.out; unfold W64; omega
  go_enter Try.func5, Try.ntmps5
  go_wp2_with fail
  all_goals simp only [hc52, hf14, ht14]
  all_goals generalize lor L (shl1 c) = L1 at *
  all_goals obtain ⟨M, HMM⟩ : ∃ M, Hid (landn L1 (shl1 c) = M) := ⟨_, Lib.hid rfl⟩
  all_goals rw [HMM.out] at HM HM1
  · obtain ⟨lo, hlo⟩ : ∃ x, x = t := ⟨t, rfl⟩
    obtain ⟨hi, hhi⟩ : ∃ x, x = f := ⟨f, rfl⟩
    subst hlo hhi
    have hlh : lo ≤ hi := by omega
    have hsub := without_law hclt HS1.out HM.out (lo : Int) (hi : Int) (by omega) (n % 13)
    have hok : rightV [rgS (c / 13) (lo : Int) (hi : Int)] = true := rgS_ok _ _ _ (by omega) (by omega) (by omega)
    have htn : (1 + (n : Int) % 13).toNat = n % 13 + 1 := by omega
    obtain ⟨E, HE⟩ : ∃ E, Hid (cntF (deck L1) (1 + (n : Int) % 13).toNat (fitP [rgS (c / 13) (lo : Int) (hi : Int)]) = E) := ⟨_, Lib.hid rfl⟩
    obtain ⟨U, HU⟩ : ∃ E, Hid (cntF (deck M) (1 + (n : Int) % 13).toNat (fitP [rgS (c / 13) (lo : Int) (hi : Int)]) = E) := ⟨_, Lib.hid rfl⟩
    obtain ⟨V, HV⟩ : ∃ E, Hid (cntF (deck M) (n % 13) (fitP [rgS (c / 13) (mx ((lo : Int) - 1) 0) ((hi : Int) - 1)]) = E) := ⟨_, Lib.hid rfl⟩
    have hbd : ∀ m k q, cntF (deck m) k q ≤ 4503599627370496 := fun m k q => Nat.le_trans (cntF_le _ _ _) (Nat.le_trans (Nat.pow_le_pow_right (by decide) (deck_len m)) (by decide))
    have HBU : Hid (U ≤ 4503599627370496) := Lib.hid (HU.out ▸ hbd _ _ _)
    have HBV : Hid (V ≤ 4503599627370496) := Lib.hid (HV.out ▸ hbd _ _ _)
    rw [← htn, HE.out, HU.out, HV.out] at hsub
    have HSUB := Lib.hid hsub
    have HOK := Lib.hid hok
    have HLH := Lib.hid hlh
    clear hsub hok hbd htn
    clear hWL
    refine (law_all _).mono ?_
    rintro e w1 ⟨rfl, hb1⟩
    have HB1 := Lib.hid hb1
    clear hb1
    rw [all_rgS (c / 13) (by omega)]
    go_wp2_with (first
      | (refine wpList_store_part rfl 36 (.tmp 52) (.tmp 50) rfl w1.heap.size (2 + c / 13 * 2) #[.int .i64 (lo : Int), .int .i64 (hi : Int)] rfl rfl 39 (rgS (c / 13) 0 13).arr (Row.new _ _ _) (by rw [size36]; rfl) (by show 2 + c / 13 * 2 + 2 ≤ 10; omega) (by simp; exact ⟨rfl, rfl⟩) ?_
         rw [show putAt (rgS (c / 13) 0 13).arr (2 + c / 13 * 2) (#[.int .i64 (lo : Int), .int .i64 (hi : Int)] : Array Value).toList = (rgS (c / 13) (lo : Int) (hi : Int)).arr from put_rgS _ (by omega) _ _ _ ⟨_, _, rfl⟩]
         have hr2 : Row ((w1.alloc (.cells (rgS (c / 13) 0 13).arr 39)).setRow w1.heap.size (rgS (c / 13) (lo : Int) (hi : Int)).arr) w1.heap.size 39 (rgS (c / 13) (lo : Int) (hi : Int)).arr := setRow_heap _ _ _ _ _ _ (Row.new _ _ _)
         have hb2 : Below w.heap.size w ((w1.alloc (.cells (rgS (c / 13) 0 13).arr 39)).setRow w1.heap.size (rgS (c / 13) (lo : Int) (hi : Int)).arr) := below_setRow (HB1.out.alloc HB1.out.size _) HB1.out.size _
         have HQ := Lib.hid HB1.out.size
         clear HB1
         generalize (w1.alloc (.cells (rgS (c / 13) 0 13).arr 39)).setRow w1.heap.size (rgS (c / 13) (lo : Int) (hi : Int)).arr = w2 at *
         generalize w1.heap.size = bq at *
         have HR2 := Lib.hid hr2
         have HB2 := Lib.hid hb2
         clear hr2 hb2)
      | refine wpList_load_row rfl 39 (.tmp 15) rfl bq rfl 39 (rgS (c / 13) (lo : Int) (hi : Int)).arr (0, 0) _ HR2.out Try.underlying39 rfl (by rw [size39]; rfl) ?_)
    refine (ag_CountOk L1 (1 + (n : Int) % 13) HL1.out (by omega) (by omega) _ 1 1 [rgS (c / 13) (lo : Int) (hi : Int)] HOK.out _ (rgs_new1 w2 _)).mono ?_
    rintro e w3 ⟨rfl, hb3⟩
    rw [HE.out]
    have hb3' := ((Below.refl w2.heap.size w2).alloc (Nat.le_refl _) (.cells (rgS (c / 13) (lo : Int) (hi : Int)).arr 39)).trans (hb3.mono (by simp))
    have HR3 := Lib.hid (HR2.out.later hb3')
    have HB3 := Lib.hid (HB2.out.trans (hb3'.mono HB2.out.size))
    clear hb3 hb3' HR2 HB2
    go_wp2_with (first
      | refine wpList_load_row rfl 39 (.tmp 15) rfl bq rfl 39 (rgS (c / 13) (lo : Int) (hi : Int)).arr (0, 0) _ HR3.out Try.underlying39 rfl (by rw [size39]; rfl) ?_)
    rw [HMM.out]
    refine (ag_CountOk M (1 + (n : Int) % 13) HM1.out (by omega) (by omega) _ 1 1 [rgS (c / 13) (lo : Int) (hi : Int)] HOK.out _ (rgs_new1 w3 _)).mono ?_
    rintro e w4 ⟨rfl, hb4⟩
    rw [HU.out]
    have hb4' := ((Below.refl w3.heap.size w3).alloc (Nat.le_refl _) (.cells (rgS (c / 13) (lo : Int) (hi : Int)).arr 39)).trans (hb4.mono (by simp))
    have HR4 := Lib.hid (HR3.out.later hb4')
    have HB4 := Lib.hid (HB3.out.trans (hb4'.mono HB3.out.size))
    clear hb4 hb4' HR3 HB3
    rcases Nat.eq_zero_or_pos hi with hz | hz
    · have hEU : E = U := by have := HSUB.out; rw [hz] at this; simpa using this
      subst hEU
      have hzi : ((hi : Int) == 0) = true := by simp; omega
      go_wp2_with fail
      refine (law40_awake _).mono ?_
      rintro e w5 ⟨rfl, hb5⟩
      have HB5 := Lib.hid (HB4.out.trans (hb5.mono HB4.out.size))
      clear hb5
      go_wp2_with fail
      go_ret
      exact ⟨rfl, HB5.out⟩
    · have hzi : ((hi : Int) == 0) = false := by simp; omega
      have hsum : (E : Int) = (V : Int) + (U : Int) := by have := HSUB.out; rw [if_neg (by omega)] at this; omega
      have HSUM := Lib.hid hsum
      have hok2 : rightV [rgS (c / 13) (mx ((lo : Int) - 1) 0) ((hi : Int) - 1)] = true := rgS_ok _ _ _ (by unfold mx; split <;> omega) (by unfold mx; split <;> omega) (by omega)
      have HOK2 := Lib.hid hok2
      clear hsum hok2
      go_wp2_with (first
        | refine wpList_max rfl (.tmp 89) (.const (.int .i64 0)) 3 3 rfl ((lo : Int) - 1) 0 rfl rfl ?_
        | (refine wpList_store_part rfl 36 (.tmp 95) (.tmp 93) rfl bq (2 + c / 13 * 2) #[.int .i64 (mx ((lo : Int) - 1) 0), .int .i64 ((hi : Int) - 1)] rfl rfl 39 (rgS (c / 13) (lo : Int) (hi : Int)).arr HR4.out (by rw [size36]; rfl) (by show 2 + c / 13 * 2 + 2 ≤ 10; omega) (by simp; exact ⟨rfl, rfl⟩) ?_
           rw [show putAt (rgS (c / 13) (lo : Int) (hi : Int)).arr (2 + c / 13 * 2) (#[.int .i64 (mx ((lo : Int) - 1) 0), .int .i64 ((hi : Int) - 1)] : Array Value).toList = (rgS (c / 13) (mx ((lo : Int) - 1) 0) ((hi : Int) - 1)).arr from put_rgS _ (by omega) _ _ _ ⟨_, _, rfl⟩]
           have hr5 : Row (w4.setRow bq (rgS (c / 13) (mx ((lo : Int) - 1) 0) ((hi : Int) - 1)).arr) bq 39 (rgS (c / 13) (mx ((lo : Int) - 1) 0) ((hi : Int) - 1)).arr := setRow_heap _ _ _ _ _ _ HR4.out
           have hb5 : Below w.heap.size w (w4.setRow bq (rgS (c / 13) (mx ((lo : Int) - 1) 0) ((hi : Int) - 1)).arr) := below_setRow HB4.out HQ.out _
           generalize w4.setRow bq (rgS (c / 13) (mx ((lo : Int) - 1) 0) ((hi : Int) - 1)).arr = w5 at *
           have HR5 := Lib.hid hr5
           have HB5 := Lib.hid hb5
           clear hr5 hb5 HR4 HB4)
        | refine wpList_load_row rfl 39 (.tmp 15) rfl bq rfl 39 (rgS (c / 13) (mx ((lo : Int) - 1) 0) ((hi : Int) - 1)).arr (0, 0) _ HR5.out Try.underlying39 rfl (by rw [size39]; rfl) ?_)
      rw [HMM.out]
      have htn2 : (1 + (n : Int) % 13 - 1).toNat = n % 13 := by omega
      refine (ag_CountOk M (1 + (n : Int) % 13 - 1) HM1.out (by omega) (by omega) _ 1 1 [rgS (c / 13) (mx ((lo : Int) - 1) 0) ((hi : Int) - 1)] HOK2.out _ (rgs_new1 w5 _)).mono ?_
      rintro e w6 ⟨rfl, hb6⟩
      rw [htn2, HV.out]
      have HB6 := Lib.hid (HB5.out.trans ((((Below.refl w5.heap.size w5).alloc (Nat.le_refl _) (.cells (rgS (c / 13) (mx ((lo : Int) - 1) 0) ((hi : Int) - 1)).arr 39)).trans (hb6.mono (by simp))).mono HB5.out.size))
      clear hb6 HB5 htn2
      have hsum := HSUM.out
      have hbu := HBU.out
      have hbv := HBV.out
      go_wp2_with fail
      refine (law40_awake _).mono ?_
      rintro e w7 ⟨rfl, hb7⟩
      have HB7 := Lib.hid (HB6.out.trans (hb7.mono HB6.out.size))
      clear hb7
      go_wp2_with fail
      go_ret
      exact ⟨rfl, HB7.out⟩
  · obtain ⟨lo, hlo⟩ : ∃ x, x = f := ⟨f, rfl⟩
    obtain ⟨hi, hhi⟩ : ∃ x, x = t := ⟨t, rfl⟩
    subst hlo hhi
    have hlh : lo ≤ hi := by omega
    have hsub := without_law hclt HS1.out HM.out (lo : Int) (hi : Int) (by omega) (n % 13)
    have hok : rightV [rgS (c / 13) (lo : Int) (hi : Int)] = true := rgS_ok _ _ _ (by omega) (by omega) (by omega)
    have htn : (1 + (n : Int) % 13).toNat = n % 13 + 1 := by omega
    obtain ⟨E, HE⟩ : ∃ E, Hid (cntF (deck L1) (1 + (n : Int) % 13).toNat (fitP [rgS (c / 13) (lo : Int) (hi : Int)]) = E) := ⟨_, Lib.hid rfl⟩
    obtain ⟨U, HU⟩ : ∃ E, Hid (cntF (deck M) (1 + (n : Int) % 13).toNat (fitP [rgS (c / 13) (lo : Int) (hi : Int)]) = E) := ⟨_, Lib.hid rfl⟩
    obtain ⟨V, HV⟩ : ∃ E, Hid (cntF (deck M) (n % 13) (fitP [rgS (c / 13) (mx ((lo : Int) - 1) 0) ((hi : Int) - 1)]) = E) := ⟨_, Lib.hid rfl⟩
    have hbd : ∀ m k q, cntF (deck m) k q ≤ 4503599627370496 := fun m k q => Nat.le_trans (cntF_le _ _ _) (Nat.le_trans (Nat.pow_le_pow_right (by decide) (deck_len m)) (by decide))
    have HBU : Hid (U ≤ 4503599627370496) := Lib.hid (HU.out ▸ hbd _ _ _)
    have HBV : Hid (V ≤ 4503599627370496) := Lib.hid (HV.out ▸ hbd _ _ _)
    rw [← htn, HE.out, HU.out, HV.out] at hsub
    have HSUB := Lib.hid hsub
    have HOK := Lib.hid hok
    have HLH := Lib.hid hlh
    clear hsub hok hbd htn
    clear hWL
    refine (law_all _).mono ?_
    rintro e w1 ⟨rfl, hb1⟩
    have HB1 := Lib.hid hb1
    clear hb1
    rw [all_rgS (c / 13) (by omega)]
    go_wp2_with (first
      | (refine wpList_store_part rfl 36 (.tmp 52) (.tmp 50) rfl w1.heap.size (2 + c / 13 * 2) #[.int .i64 (lo : Int), .int .i64 (hi : Int)] rfl rfl 39 (rgS (c / 13) 0 13).arr (Row.new _ _ _) (by rw [size36]; rfl) (by show 2 + c / 13 * 2 + 2 ≤ 10; omega) (by simp; exact ⟨rfl, rfl⟩) ?_
         rw [show putAt (rgS (c / 13) 0 13).arr (2 + c / 13 * 2) (#[.int .i64 (lo : Int), .int .i64 (hi : Int)] : Array Value).toList = (rgS (c / 13) (lo : Int) (hi : Int)).arr from put_rgS _ (by omega) _ _ _ ⟨_, _, rfl⟩]
         have hr2 : Row ((w1.alloc (.cells (rgS (c / 13) 0 13).arr 39)).setRow w1.heap.size (rgS (c / 13) (lo : Int) (hi : Int)).arr) w1.heap.size 39 (rgS (c / 13) (lo : Int) (hi : Int)).arr := setRow_heap _ _ _ _ _ _ (Row.new _ _ _)
         have hb2 : Below w.heap.size w ((w1.alloc (.cells (rgS (c / 13) 0 13).arr 39)).setRow w1.heap.size (rgS (c / 13) (lo : Int) (hi : Int)).arr) := below_setRow (HB1.out.alloc HB1.out.size _) HB1.out.size _
         have HQ := Lib.hid HB1.out.size
         clear HB1
         generalize (w1.alloc (.cells (rgS (c / 13) 0 13).arr 39)).setRow w1.heap.size (rgS (c / 13) (lo : Int) (hi : Int)).arr = w2 at *
         generalize w1.heap.size = bq at *
         have HR2 := Lib.hid hr2
         have HB2 := Lib.hid hb2
         clear hr2 hb2)
      | refine wpList_load_row rfl 39 (.tmp 15) rfl bq rfl 39 (rgS (c / 13) (lo : Int) (hi : Int)).arr (0, 0) _ HR2.out Try.underlying39 rfl (by rw [size39]; rfl) ?_)
    refine (ag_CountOk L1 (1 + (n : Int) % 13) HL1.out (by omega) (by omega) _ 1 1 [rgS (c / 13) (lo : Int) (hi : Int)] HOK.out _ (rgs_new1 w2 _)).mono ?_
    rintro e w3 ⟨rfl, hb3⟩
    rw [HE.out]
    have hb3' := ((Below.refl w2.heap.size w2).alloc (Nat.le_refl _) (.cells (rgS (c / 13) (lo : Int) (hi : Int)).arr 39)).trans (hb3.mono (by simp))
    have HR3 := Lib.hid (HR2.out.later hb3')
    have HB3 := Lib.hid (HB2.out.trans (hb3'.mono HB2.out.size))
    clear hb3 hb3' HR2 HB2
    go_wp2_with (first
      | refine wpList_load_row rfl 39 (.tmp 15) rfl bq rfl 39 (rgS (c / 13) (lo : Int) (hi : Int)).arr (0, 0) _ HR3.out Try.underlying39 rfl (by rw [size39]; rfl) ?_)
    rw [HMM.out]
    refine (ag_CountOk M (1 + (n : Int) % 13) HM1.out (by omega) (by omega) _ 1 1 [rgS (c / 13) (lo : Int) (hi : Int)] HOK.out _ (rgs_new1 w3 _)).mono ?_
    rintro e w4 ⟨rfl, hb4⟩
    rw [HU.out]
    have hb4' := ((Below.refl w3.heap.size w3).alloc (Nat.le_refl _) (.cells (rgS (c / 13) (lo : Int) (hi : Int)).arr 39)).trans (hb4.mono (by simp))
    have HR4 := Lib.hid (HR3.out.later hb4')
    have HB4 := Lib.hid (HB3.out.trans (hb4'.mono HB3.out.size))
    clear hb4 hb4' HR3 HB3
    rcases Nat.eq_zero_or_pos hi with hz | hz
    · have hEU : E = U := by have := HSUB.out; rw [hz] at this; simpa using this
      subst hEU
      have hzi : ((hi : Int) == 0) = true := by simp; omega
      go_wp2_with fail
      refine (law40_awake _).mono ?_
      rintro e w5 ⟨rfl, hb5⟩
      have HB5 := Lib.hid (HB4.out.trans (hb5.mono HB4.out.size))
      clear hb5
      go_wp2_with fail
      go_ret
      exact ⟨rfl, HB5.out⟩
    · have hzi : ((hi : Int) == 0) = false := by simp; omega
      have hsum : (E : Int) = (V : Int) + (U : Int) := by have := HSUB.out; rw [if_neg (by omega)] at this; omega
      have HSUM := Lib.hid hsum
      have hok2 : rightV [rgS (c / 13) (mx ((lo : Int) - 1) 0) ((hi : Int) - 1)] = true := rgS_ok _ _ _ (by unfold mx; split <;> omega) (by unfold mx; split <;> omega) (by omega)
      have HOK2 := Lib.hid hok2
      clear hsum hok2
      go_wp2_with (first
        | refine wpList_max rfl (.tmp 89) (.const (.int .i64 0)) 3 3 rfl ((lo : Int) - 1) 0 rfl rfl ?_
        | (refine wpList_store_part rfl 36 (.tmp 95) (.tmp 93) rfl bq (2 + c / 13 * 2) #[.int .i64 (mx ((lo : Int) - 1) 0), .int .i64 ((hi : Int) - 1)] rfl rfl 39 (rgS (c / 13) (lo : Int) (hi : Int)).arr HR4.out (by rw [size36]; rfl) (by show 2 + c / 13 * 2 + 2 ≤ 10; omega) (by simp; exact ⟨rfl, rfl⟩) ?_
           rw [show putAt (rgS (c / 13) (lo : Int) (hi : Int)).arr (2 + c / 13 * 2) (#[.int .i64 (mx ((lo : Int) - 1) 0), .int .i64 ((hi : Int) - 1)] : Array Value).toList = (rgS (c / 13) (mx ((lo : Int) - 1) 0) ((hi : Int) - 1)).arr from put_rgS _ (by omega) _ _ _ ⟨_, _, rfl⟩]
           have hr5 : Row (w4.setRow bq (rgS (c / 13) (mx ((lo : Int) - 1) 0) ((hi : Int) - 1)).arr) bq 39 (rgS (c / 13) (mx ((lo : Int) - 1) 0) ((hi : Int) - 1)).arr := setRow_heap _ _ _ _ _ _ HR4.out
           have hb5 : Below w.heap.size w (w4.setRow bq (rgS (c / 13) (mx ((lo : Int) - 1) 0) ((hi : Int) - 1)).arr) := below_setRow HB4.out HQ.out _
           generalize w4.setRow bq (rgS (c / 13) (mx ((lo : Int) - 1) 0) ((hi : Int) - 1)).arr = w5 at *
           have HR5 := Lib.hid hr5
           have HB5 := Lib.hid hb5
           clear hr5 hb5 HR4 HB4)
        | refine wpList_load_row rfl 39 (.tmp 15) rfl bq rfl 39 (rgS (c / 13) (mx ((lo : Int) - 1) 0) ((hi : Int) - 1)).arr (0, 0) _ HR5.out Try.underlying39 rfl (by rw [size39]; rfl) ?_)
      rw [HMM.out]
      have htn2 : (1 + (n : Int) % 13 - 1).toNat = n % 13 := by omega
      refine (ag_CountOk M (1 + (n : Int) % 13 - 1) HM1.out (by omega) (by omega) _ 1 1 [rgS (c / 13) (mx ((lo : Int) - 1) 0) ((hi : Int) - 1)] HOK2.out _ (rgs_new1 w5 _)).mono ?_
      rintro e w6 ⟨rfl, hb6⟩
      rw [htn2, HV.out]
      have HB6 := Lib.hid (HB5.out.trans ((((Below.refl w5.heap.size w5).alloc (Nat.le_refl _) (.cells (rgS (c / 13) (mx ((lo : Int) - 1) 0) ((hi : Int) - 1)).arr 39)).trans (hb6.mono (by simp))).mono HB5.out.size))
      clear hb6 HB5 htn2
      have hsum := HSUM.out
      have hbu := HBU.out
      have hbv := HBV.out
      go_wp2_with fail
      refine (law40_awake _).mono ?_
      rintro e w7 ⟨rfl, hb7⟩
      have HB7 := Lib.hid (HB6.out.trans (hb7.mono HB6.out.size))
      clear hb7
      go_wp2_with fail
      go_ret
      exact ⟨rfl, HB7.out⟩
end Go.Proofs.Ytmkplfndbjcflaa
