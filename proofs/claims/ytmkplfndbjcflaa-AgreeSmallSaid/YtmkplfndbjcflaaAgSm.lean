/- AgreeSums over this seat's program: the body. -/
import Derived.Test.YtmkplfndbjcflaaAgWo
import Derived.Test.YtmkplfndbjcflaaAgZm
namespace Go.Proofs.Ytmkplfndbjcflaa
open Go.RowKit Go.Sort Go.Shelf Cnt

theorem ag_TotalOk (left : Nat) (n : Int) (hl : left < 4503599627370496) (h0 : 0 ≤ n) (h13 : n ≤ 13) (w : World) :
    Calls Try.prog 33 #[.int .u64 (left : Int), .int .i64 n] w fun e w' => e = .returned (.tuple #[.int .i64 ((chs (pop left) n.toNat : Nat) : Int), .int .i64 0]) ∧ w = w' := by
  have h := ag_Total left n w (by unfold W64; omega)
  have e : totalV left n = (chs (pop left) n.toNat, 0) := by
    unfold totalV
    rw [if_pos]
    simp [legalB, h0, h13, hl]
  rw [e] at h
  exact h
theorem pts_one : ∀ c : Fin 52, ptsM (shl1 c.val) = ptC (c.val % 13) := by decide +kernel
theorem pop_landn {L c : Nat} (hc : c < 64) (h : L.testBit c = true) : pop (landn L (shl1 c)) + 1 = pop L := by
  have e : sumN 64 (fun i => if i = c then 1 else 0) = 1 := by rw [sumN_pick 64 c (fun _ => 1), if_pos hc]
  have key : sumN 64 (fun i => if L.testBit i then 1 else 0) = sumN 64 (fun i => if (landn L (shl1 c)).testBit i then 1 else 0) + sumN 64 (fun i => if i = c then 1 else 0) := by
    rw [← sumN_add]
    refine sumN_congr fun i _ => ?_
    rw [testBit_landn, testBit_shl1]
    by_cases hi : i = c
    · subst hi; simp [h, hc]
    · have : ¬ c = i := fun e => hi e.symm
      simp [hi, this]
  unfold pop
  rw [cnt_sum, cnt_sum, key, e]
theorem PS_tot (ds : List Ft) : PS ds = (tot ds).p := by
  induction ds with
  | nil => rfl
  | cons x l ih => show x.p + PS l = x.p + (tot l).p; rw [ih]
theorem PS_le (L : Nat) : PS (deck L) ≤ 40 := by
  rw [PS_tot]
  exact (tot_deck L).2.2.2.2
theorem cntF_mono (ds : List Ft) (nn : Nat) {p q : (Nat → Nat) → Nat → Bool} (h : ∀ l x, p l x = true → q l x = true) : cntF ds nn p ≤ cntF ds nn q := by
  unfold cntF
  refine sumF_le fun x => ?_
  split
  · by_cases e : p (lenF x) x.p = true
    · rw [if_pos e, if_pos (h _ _ e)]; exact Nat.le_refl _
    · rw [if_neg e]; exact Nat.zero_le _
  · exact Nat.le_refl _
theorem cntF_top (L nn : Nat) (p : (Nat → Nat) → Nat → Bool) : cntF (deck L) nn p ≤ chs (deck L).length nn := by
  rw [← sum_all (deck L) (deck_singles L) nn]
  unfold cntF
  refine sumF_le fun x => ?_
  split
  · split <;> omega
  · exact Nat.le_refl _

set_option maxHeartbeats 4000000 in
set_option maxRecDepth 10000 in
theorem law_AgreeSums (left n : Nat) (ax : Option Addr) (lx cx : Nat) (cs : List Cd) (w : World) (hleft : W64 left) (hn : n < 256) (hx : Cds w ax lx cs) (hlx : lx ≤ cx) :
    Calls Try.prog 10 #[.int .u64 (left : Int), .int .u8 (n : Int), .slice ax lx cx] w fun e w' => e = .returned (.bool true) ∧ Below w.heap.size w w' := by
  have hpk := bits_pk left hleft
  have HPL := Lib.hid (pk_lt left)
  generalize pk left = L at *
  have HX := Lib.hid hx
  have hnn : (n : Int) % 14 = ((n % 14 : Nat) : Int) := by omega
  have HN := Lib.hid (show n % 14 ≤ 13 by omega)
  generalize n % 14 = nn at *
  clear hx
  have KA := Lib.hid (made_ok cs)
  have LA := Lib.hid (made_len cs)
  generalize hma : made cs = A at *
  have KR : Hid (rightV [rgAll] = true) := Lib.hid (by decide)
  -- the numbers
  have HTE : Hid (cntF (deck L) nn (fitP [rgAll]) = chs (pop L) nn) := Lib.hid (by rw [cnt_all, deck_pop HPL.out])
  have hO := cntF_top L nn (fitP A)
  rw [deck_pop HPL.out] at hO
  have hsp := sp_sum L nn A
  have hT52 : chs (pop L) nn ≤ 4503599627370496 := Nat.le_trans (chs_le _ _) (Nat.le_trans (Nat.pow_le_pow_right (by decide) (pop_52 HPL.out)) (by decide))
  obtain ⟨O, HO⟩ : ∃ O, Hid (cntF (deck L) nn (fitP A) = O) := ⟨_, Lib.hid rfl⟩
  rw [HO.out] at hO hsp
  obtain ⟨f, Hf⟩ : ∃ f, Hid (spV L nn A = f) := ⟨_, Lib.hid rfl⟩
  rw [Hf.out] at hsp
  obtain ⟨T, HT⟩ : ∃ T, Hid (chs (pop L) nn = T) := ⟨_, Lib.hid rfl⟩
  rw [HT.out] at hO hT52 HTE
  have HSP := Lib.hid hsp
  have HB := Lib.hid (And.intro hO hT52)
  clear hsp hO hT52
  go_enter Try.func10, Try.ntmps10
  go_wp2_with fail
  refine (law_Made ax lx cx cs _ HX.out hlx).mono ?_
  rintro e w1 ⟨⟨v1, rfl, hv1⟩, hb1⟩
  rw [hma] at hv1
  obtain ⟨a1, c1, rfl, hR1, hle1, hn1⟩ := hv1.rgs (by have := LA.out; omega)
  have HR1 := Lib.hid hR1
  have HB1 := Lib.hid hb1
  clear hv1 hR1 hb1 hle1 hn1 hma
  go_wp2_with fail
  try simp only [hnn]
  refine (ag_TotalOk L (nn : Int) HPL.out (by omega) (by have := HN.out; omega) _).mono ?_
  rintro e w' ⟨rfl, rfl⟩
  rw [Int.toNat_natCast, HT.out]
  go_wp2_with fail
  refine (law_all _).mono ?_
  rintro e w2 ⟨rfl, hb2⟩
  have HR2 := Lib.hid (HR1.out.below (Nat.le_refl _) hb2)
  have HB2 := Lib.hid (HB1.out.trans (hb2.mono HB1.out.size))
  clear hb2 HR1 HB1
  go_wp2_with fail
  refine (ag_CountOk L (nn : Int) HPL.out (by omega) (by have := HN.out; omega) _ 1 1 [rgAll] KR.out _ (rgs_new1 w2 rgAll)).mono ?_
  rintro e w3 ⟨rfl, hb3⟩
  rw [Int.toNat_natCast, HTE.out]
  have hb3' := ((Below.refl w2.heap.size w2).alloc (Nat.le_refl _) (.cells rgAll.arr 39)).trans (hb3.mono (by simp))
  have HR3 := Lib.hid (HR2.out.below (Nat.le_refl _) hb3')
  have HB3 := Lib.hid (HB2.out.trans (hb3'.mono HB2.out.size))
  clear hb3 hb3' HR2 HB2
  go_wp2_with fail
  refine (ag_CountOk L (nn : Int) HPL.out (by omega) (by have := HN.out; omega) a1 A.length c1 A KA.out _ HR3.out).mono ?_
  rintro e w4 ⟨rfl, hb4⟩
  rw [Int.toNat_natCast, HO.out]
  have HR4 := Lib.hid (HR3.out.below (Nat.le_refl _) hb4)
  have HB4 := Lib.hid (HB3.out.trans (hb4.mono HB3.out.size))
  clear hb4 HR3 HB3
  go_wp2_with fail
  refine (ag_SpreadOk L (nn : Int) HPL.out (by omega) (by have := HN.out; omega) a1 A.length c1 A KA.out _ HR4.out).mono ?_
  rintro e w5 ⟨⟨bu, rfl, hbu, hu⟩, hb5⟩
  rw [Int.toNat_natCast, Hf.out] at hu
  have HB5 := Lib.hid (HB4.out.trans (hb5.mono HB4.out.size))
  clear hb5 HR4 HB4 hbu
  have HU := Lib.hid hu
  clear hu
  have hOT : O ≤ T := HB.out.1
  go_wp2_with fail
  have hd1 : decide (T < O) = false := by simp; omega
  have hd2 : decide ((O : Int) < 0) = false := by simp
  simp only [hd1, hd2, Bool.or_self]
  clear hd1 hd2 hOT
  -- the numbers of Spread
  go_loopw [13, 93] (fun o i wr => ∃ (k m : Nat), k ≤ 41 ∧ i = .int .i64 (k : Int) ∧ o = .int .i64 (m : Int) ∧ m + sumN k f = O ∧ w5 = wr) (fun _ i _ => 41 - (intOf i).toNat)
  case atStart => exact ⟨0, O, by omega, rfl, rfl, rfl, rfl⟩
  case round =>
    obtain ⟨k, m, hk, rfl, rfl, hm, rfl⟩ := hrel
    by_cases hlt : k < 41
    · have hd : decide ((k : Int) < 41) = true := by simp; omega
      have hc := (HU.out.cell k).trans (tab_get 41 f k hlt)
      have hle : sumN (k + 1) f ≤ sumN 41 f := sumN_mono f (by omega)
      rw [HSP.out] at hle
      have hs : sumN (k + 1) f = sumN k f + f k := rfl
      generalize f k = y at *
      have hwr : IntKind.i64.wrap ((m : Int) - (y : Int)) = (m : Int) - (y : Int) := IntWalk.i64_in _ (by have := HB.out; omega)
      have HM := Lib.hid (And.intro hm (And.intro hle hs))
      clear hm hle hs
      go_wp2_with fail
      go_roundw
      · exact ⟨k + 1, m - y, by omega, by simp, by congr 1; have := HM.out; omega, by have := HM.out; omega, trivial⟩
      · simp [intOf]; omega
    · obtain rfl : k = 41 := by omega
      obtain rfl : m = 0 := by have := HSP.out; omega
      clear hm
      simp only [show ((41 : Nat) : Int) = 41 from rfl, show ((0 : Nat) : Int) = 0 from rfl]
      go_wp2_with fail
      -- the numbers of Lengths
      have HLN := Lib.hid fun s => (ln_sum L nn [rgAll] s).trans HTE.out
      go_loopw [103] (fun i wr => ∃ (k : Nat), k ≤ 4 ∧ i = .int .i64 (k : Int) ∧ Below w.heap.size w wr) (fun i _ => 4 - (intOf i).toNat)
      case atStart => exact ⟨0, by omega, rfl, HB5.out⟩
      case round =>
        obtain ⟨s, hs, rfl, hbs⟩ := hrel
        have HBS := Lib.hid hbs
        clear hbs
        by_cases hlt : s < 4
        · have hd : decide ((s : Int) < 4) = true := by simp; omega
          go_wp2_with fail
          refine (law_all _).mono ?_
          rintro e w6 ⟨rfl, hb6⟩
          have HB6 := Lib.hid (HBS.out.trans (hb6.mono HBS.out.size))
          clear hb6
          go_wp2_with fail
          refine (ag_LengthsOk L (nn : Int) HPL.out (by omega) (by have := HN.out; omega) _ 1 1 [rgAll] KR.out s hlt _ (rgs_new1 w6 rgAll)).mono ?_
          rintro e w7 ⟨⟨bl, rfl, hbl, hl⟩, hb7⟩
          rw [Int.toNat_natCast] at hl
          have hln := HLN.out s
          generalize lnV L nn [rgAll] s = g at *
          have hb7' := ((Below.refl w6.heap.size w6).alloc (Nat.le_refl _) (.cells rgAll.arr 39)).trans (hb7.mono (by simp))
          have HB7 := Lib.hid (HB6.out.trans (hb7'.mono HB6.out.size))
          have HL := Lib.hid hl
          have HG := Lib.hid hln
          clear hb7 hb7' hl hln hbl HB6
          go_wp2_with fail
          go_loopw [22, 117] (fun o i wr => ∃ (k : Nat), k ≤ 14 ∧ i = .int .i64 (k : Int) ∧ o = .int .i64 ((sumN k g : Nat) : Int) ∧ w7 = wr) (fun _ i _ => 14 - (intOf i).toNat)
          case atStart => exact ⟨0, by omega, rfl, rfl, rfl⟩
          case round =>
            obtain ⟨k, hk, rfl, rfl, rfl⟩ := hrel
            by_cases hlt2 : k < 14
            · have hd2 : decide ((k : Int) < 14) = true := by simp; omega
              have hc := (HL.out.cell k).trans (tab_get 14 g k hlt2)
              have hle : sumN (k + 1) g ≤ sumN 14 g := sumN_mono g (by omega)
              rw [HG.out] at hle
              have hs1 : sumN (k + 1) g = sumN k g + g k := rfl
              have HM := Lib.hid hs1
              rw [hs1] at hle
              generalize g k = y at *
              generalize sumN k g = m at *
              have hwr : IntKind.i64.wrap ((m : Int) + (y : Int)) = (m : Int) + (y : Int) := IntWalk.i64_in _ (by have := HB.out; omega)
              clear hle hs1
              go_wp2_with fail
              go_roundw
              · exact ⟨k + 1, by omega, by simp, by congr 1; have := HM.out; omega, trivial⟩
              · simp [intOf]; omega
            · obtain rfl : k = 14 := by omega
              rw [HG.out]
              simp only [show ((14 : Nat) : Int) = 14 from rfl]
              go_wp2_with fail
              go_roundw
              · exact ⟨s + 1, by omega, by simp, HB7.out⟩
              · simp [intOf]; omega
        · obtain rfl : s = 4 := by omega
          simp only [show ((4 : Nat) : Int) = 4 from rfl]
          rcases Nat.eq_zero_or_pos nn with h0 | h0
          · have hz : ((nn : Int) == 0) = true := by simp; omega
            have hT1 : T = 1 := by rw [← HT.out, h0, chs_zero]
            have hT2 : ((T : Int) == 1) = true := by simp; omega
            clear h0 hT1
            go_wp2_with fail
            refine (law40_awake _).mono ?_
            rintro e w8 ⟨rfl, hb8⟩
            have HB8 := Lib.hid (HBS.out.trans (hb8.mono HBS.out.size))
            clear hb8
            go_wp2_with fail
            go_ret
            exact ⟨rfl, HB8.out⟩
          · -- the points of all hands, two ways
            obtain ⟨n1, rfl⟩ : ∃ n1, nn = n1 + 1 := ⟨nn - 1, by omega⟩
            have hz : (((n1 + 1 : Nat) : Int) == 0) = false := by simp; omega
            have hPS := PS_deck L
            have hspp := sp_points L n1
            rw [deck_pop HPL.out] at hspp
            have hPle := PS_le L
            have hKle : chs (pop L - 1) n1 ≤ 4503599627370496 := Nat.le_trans (chs_le _ _) (Nat.le_trans (Nat.pow_le_pow_right (n := 2) (by decide) (show pop L - 1 ≤ 52 by have := pop_52 HPL.out; omega)) (by decide))
            obtain ⟨P, HP⟩ : ∃ P, Hid (PS (deck L) = P) := ⟨_, Lib.hid rfl⟩
            obtain ⟨KK, HK⟩ : ∃ K, Hid (chs (pop L - 1) n1 = K) := ⟨_, Lib.hid rfl⟩
            rw [HP.out] at hPS hspp hPle
            rw [HK.out] at hspp hKle
            have hPK : P * KK ≤ 40 * 4503599627370496 := Nat.mul_le_mul hPle hKle
            have HPS := Lib.hid hPS
            obtain ⟨PK, HPK⟩ : ∃ x, Hid (P * KK = x) := ⟨_, Lib.hid rfl⟩
            rw [HPK.out] at hspp hPK
            have HSPP := Lib.hid hspp
            have HBND := Lib.hid (And.intro hPK (And.intro hPle hKle))
            clear hPS hspp hPle hKle hPK
            have hn1 : ((n1 + 1 : Nat) : Int) = (n1 : Int) + 1 := by omega
            go_wp2_with fail
            refine (law_all _).mono ?_
            rintro e w8 ⟨rfl, hb8⟩
            have HB8 := Lib.hid (HBS.out.trans (hb8.mono HBS.out.size))
            clear hb8
            go_wp2_with fail
            have htn : ((n1 : Int) + 1).toNat = n1 + 1 := by omega
            refine (ag_SpreadOk L ((n1 : Int) + 1) HPL.out (by omega) (by have := HN.out; omega) _ 1 1 [rgAll] KR.out _ (rgs_new1 w8 rgAll)).mono ?_
            rintro e w9 ⟨⟨bp, rfl, hbp, hp⟩, hb9⟩
            rw [htn] at hp
            have hb9' := ((Below.refl w8.heap.size w8).alloc (Nat.le_refl _) (.cells rgAll.arr 39)).trans (hb9.mono (by simp))
            have HB9 := Lib.hid (HB8.out.trans (hb9'.mono HB8.out.size))
            have HQ := Lib.hid hp
            clear hb9 hb9' hp hbp HB8 htn
            obtain ⟨h, Hh⟩ : ∃ h, Hid (spV L (n1 + 1) [rgAll] = h) := ⟨_, Lib.hid rfl⟩
            rw [Hh.out] at HQ HSPP
            go_wp2_with fail
            go_loopw [25, 150] (fun o i wr => ∃ (k : Nat), k ≤ 41 ∧ i = .int .i64 (k : Int) ∧ o = .int .i64 ((sumN k (fun k => k * h k) : Nat) : Int) ∧ w9 = wr) (fun _ i _ => 41 - (intOf i).toNat)
            case atStart => exact ⟨0, by omega, rfl, rfl, rfl⟩
            case round =>
              obtain ⟨k, hk, rfl, rfl, rfl⟩ := hrel
              by_cases hlt2 : k < 41
              · have hd2 : decide ((k : Int) < 41) = true := by simp; omega
                have hc := (HQ.out.cell k).trans (tab_get 41 h k hlt2)
                have hle : sumN (k + 1) (fun k => k * h k) ≤ sumN 41 (fun k => k * h k) := sumN_mono _ (by omega)
                rw [HSPP.out] at hle
                have hs1 : sumN (k + 1) (fun k => k * h k) = sumN k (fun k => k * h k) + k * h k := rfl
                have HM := Lib.hid hs1
                rw [hs1] at hle
                generalize sumN k (fun k => k * h k) = m at *
                generalize h k = y at *
                have hbn := HBND.out.1
                have hky : (k : Int) * (y : Int) = ((k * y : Nat) : Int) := by simp
                generalize hkyv : k * y = z at *
                have hwz : IntKind.i64.wrap (z : Int) = (z : Int) := IntWalk.i64_in _ (by omega)
                have hwr : IntKind.i64.wrap ((m : Int) + (z : Int)) = (m : Int) + (z : Int) := IntWalk.i64_in _ (by omega)
                clear hle hs1 hbn
                go_wp2_with fail
                go_roundw
                · exact ⟨k + 1, by omega, by simp, by congr 1; have := HM.out; omega, trivial⟩
                · simp [intOf]; omega
              · obtain rfl : k = 41 := by omega
                rw [HSPP.out]
                simp only [show ((41 : Nat) : Int) = 41 from rfl]
                go_wp2_with fail
                have HW := Lib.hid (show W64 L by have := HPL.out; unfold W64; omega)
                go_loopw [26, 161] (fun o i wr => ∃ (c : Nat), c ≤ 52 ∧ i = .int .i64 (c : Int) ∧ ∃ v : Nat, o = .int .i64 (v : Int) ∧ v = sumN c (fun j => if L.testBit j then ptC (j % 13) else 0) * KK ∧ w9 = wr) (fun _ i _ => 52 - (intOf i).toNat)
                case atStart => exact ⟨0, by omega, rfl, 0, rfl, by simp [sumN], rfl⟩
                case round =>
                  obtain ⟨c, hc, rfl, v, rfl, hv, rfl⟩ := hrel
                  have HV := Lib.hid hv
                  clear hv
                  by_cases hlt3 : c < 52
                  · have hd3 : decide ((c : Int) < 52) = true := by simp; omega
                    have hwl := HW.out
                    have hs1 : sumN (c + 1) (fun j => if L.testBit j then ptC (j % 13) else 0) = sumN c (fun j => if L.testBit j then ptC (j % 13) else 0) + if L.testBit c then ptC (c % 13) else 0 := rfl
                    have hle : sumN (c + 1) (fun j => if L.testBit j then ptC (j % 13) else 0) ≤ sumN 52 (fun j => if L.testBit j then ptC (j % 13) else 0) := sumN_mono _ (by omega)
                    rw [← HPS.out, hs1] at hle
                    have HS1 := Lib.hid hs1
                    clear hs1
                    obtain ⟨m, Hm⟩ : ∃ m, Hid (sumN c (fun j => if L.testBit j then ptC (j % 13) else 0) = m) := ⟨_, Lib.hid rfl⟩
                    rw [Hm.out] at HS1 hle HV
                    cases hbit : L.testBit c
                    · have HBIT := Lib.hid hbit
                      rw [hbit] at HS1
                      clear hle
                      go_wp2_with fail
                      go_roundw
                      · exact ⟨c + 1, by omega, by simp, v, rfl, by rw [HS1.out, HV.out]; simp, trivial⟩
                      · simp [intOf]; omega
                    · have HBIT := Lib.hid hbit
                      rw [hbit, if_pos rfl] at HS1
                      rw [hbit, if_pos rfl] at hle
                      have hmul := Nat.mul_le_mul_right KK hle
                      have HMUL := Lib.hid hmul
                      clear hle hmul
                      go_wp2_with fail
                      refine (ag_Points (shl1 c) (W64.shl1 c) _).mono ?_
                      rintro e w' ⟨rfl, rfl⟩
                      have hpt := pts_one ⟨c, hlt3⟩
                      simp only at hpt
                      rw [hpt]
                      have HPT := Lib.hid hpt
                      clear hpt
                      generalize ptC (c % 13) = q at *
                      rcases Nat.eq_zero_or_pos q with hq | hq
                      · subst hq
                        have hd4 : decide ((0 : Int) < ((0 : Nat) : Int)) = false := by decide
                        go_wp2_with fail
                        go_roundw
                        · exact ⟨c + 1, by omega, by simp, v, rfl, by rw [HS1.out, HV.out]; simp, trivial⟩
                        · simp [intOf]; omega
                      · have hd4 : decide ((0 : Int) < (q : Int)) = true := by simp; omega
                        have HQP := Lib.hid hq
                        clear hq
                        go_wp2_with fail
                        have HLN2 := Lib.hid (pop_landn (L := L) (c := c) (by omega) HBIT.out)
                        refine (ag_TotalOk (landn L (shl1 c)) (n1 : Int) (landn_52 HPL.out) (by omega) (by have := HN.out; omega) _).mono ?_
                        rintro e w' ⟨rfl, rfl⟩
                        rw [Int.toNat_natCast, show pop (landn L (shl1 c)) = pop L - 1 by have := HLN2.out; omega, HK.out]
                        have hqk : (q : Int) * (KK : Int) = ((q * KK : Nat) : Int) := by simp
                        have hbn : v + q * KK ≤ 40 * 4503599627370496 := by
                          have h1 := HMUL.out
                          have h2 := HBND.out.1
                          rw [Nat.add_mul, HPK.out, ← HV.out] at h1
                          omega
                        have HS2 : Hid (sumN (c + 1) (fun j => if L.testBit j then ptC (j % 13) else 0) * KK = v + q * KK) := Lib.hid (by rw [HS1.out, Nat.add_mul, HV.out])
                        have hw1 : IntKind.i64.wrap ((q * KK : Nat) : Int) = ((q * KK : Nat) : Int) := IntWalk.i64_in _ (by omega)
                        have hw2 : IntKind.i64.wrap ((v : Int) + ((q * KK : Nat) : Int)) = (v : Int) + ((q * KK : Nat) : Int) := IntWalk.i64_in _ (by omega)
                        clear hbn
                        generalize q * KK = x2 at *
                        go_wp2_with fail
                        refine (ag_Points (shl1 c) (W64.shl1 c) _).mono ?_
                        rintro e w' ⟨rfl, rfl⟩
                        rw [HPT.out]
                        go_wp2_with fail
                        go_roundw
                        · exact ⟨c + 1, by omega, by simp, v + x2, by simp, by rw [HS2.out], trivial⟩
                        · simp [intOf]; omega
                  · obtain rfl : c = 52 := by omega
                    obtain rfl : v = PK := by rw [HV.out, ← HPS.out, HPK.out]
                    simp only [show ((52 : Nat) : Int) = 52 from rfl]
                    go_wp2_with fail
                    refine (law40_awake _).mono ?_
                    rintro e w10 ⟨rfl, hb10⟩
                    have HB10 := Lib.hid (HB9.out.trans (hb10.mono HB9.out.size))
                    clear hb10
                    go_wp2_with fail
                    go_ret
                    exact ⟨rfl, HB10.out⟩
end Go.Proofs.Ytmkplfndbjcflaa
