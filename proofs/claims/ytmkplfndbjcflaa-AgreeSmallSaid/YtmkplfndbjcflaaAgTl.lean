/- The body of AgreeTells: tells over this seat's program. -/
import Derived.Test.YtmkplfndbjcflaaRgF
namespace Go.Proofs.Ytmkplfndbjcflaa
open Go.RowKit Go.Sort Go.Shelf Cnt

set_option maxHeartbeats 4000000 in
/-- the copies and the arguments, in a later world -/
structure T4 (w : World) (ax ay a b : Option Addr) (la lb : Nat) (ra rb : List Rg) (W : World) : Prop where
  bel : Below w.heap.size w W
  x : Rgs W ax la ra
  y : Rgs W ay lb rb
  a : Rgs W a la ra
  b : Rgs W b lb rb
theorem T4.step {w : World} {ax ay a b : Option Addr} {la lb : Nat} {ra rb : List Rg} {W W' : World} (h : T4 w ax ay a b la lb ra rb W) (hb : Below W.heap.size W W') : T4 w ax ay a b la lb ra rb W' :=
  ⟨h.bel.trans (hb.mono h.bel.size), h.x.below (Nat.le_refl _) hb, h.y.below (Nat.le_refl _) hb, h.a.below (Nat.le_refl _) hb, h.b.below (Nat.le_refl _) hb⟩
set_option maxHeartbeats 4000000 in
set_option maxRecDepth 20000 in
theorem law40_tells (left h : Nat) (n : Int) (a b : Option Addr) (la ca lb cb : Nat) (ra rb : List Rg) (w : World) (hleft : W64 left) (hh : W64 h) (ha : Rgs w a la ra) (hb : Rgs w b lb rb) (na : a = none → ca = 0) (nb : b = none → cb = 0) (la30 : la ≤ 30) (lb30 : lb ≤ 30) :
    Calls Try.prog 12 #[.int .u64 (left : Int), .int .u64 (h : Int), .int .i64 n, .slice a la ca, .slice b lb cb] w fun e w' => e = .returned (.bool true) ∧ Below w.heap.size w w' := by
  have HL := Lib.hid hleft
  have HH := Lib.hid hh
  have NA := Lib.hid na
  have NB := Lib.hid nb
  have LA := Lib.hid la30
  have LB := Lib.hid lb30
  have EA := Lib.hid ha.length
  have EB := Lib.hid hb.length
  have HA := Lib.hid ha
  have HB := Lib.hid hb
  have HO := Lib.hid (OwnR.made0 w w.heap.size (Nat.le_refl _))
  have hal : Below w.heap.size w (w.alloc (.cells #[] 39)) := (Below.refl _ _).alloc (Nat.le_refl _) _
  have HA1 := Lib.hid (HA.out.below (Nat.le_refl _) hal)
  have HW1 := Lib.hid hal
  clear hleft hh ha hb na nb la30 lb30 hal
  go_enter Try.func12, Try.ntmps12
  go_wp2_with (first
    | (refine appRn rfl (.tmp 27) (.tmp 28) rfl w.heap.size _ [] ra rfl HO.out a la ca rfl HA1.out NA.out (by have := LA.out; simp; omega) HW1.out.size ?_
       intro v5 w5 h1 h2 h3 h4
       rw [List.nil_append] at h1
       have HV5 := Lib.hid h1
       have HB5 := Lib.hid (HW1.out.trans h2)
       have HOO := Lib.hid (OwnR.made0 w5 w5.heap.size (Nat.le_refl _))
       have h8 := (Below.refl w5.heap.size w5).alloc (Nat.le_refl _) (.cells #[] 39)
       have HB6 := Lib.hid (HB5.out.trans (h8.mono HB5.out.size))
       have HBB := Lib.hid (HB.out.below (Nat.le_refl _) HB6.out)
       have HV6 := Lib.hid (HV5.out.later h8)
       have HS6 := Lib.hid h8.size
       clear h1 h2 h3 h4 h8)
    | (refine appRn rfl (.tmp 30) (.tmp 31) rfl w5.heap.size _ [] rb rfl HOO.out b lb cb rfl HBB.out NB.out (by have := LB.out; simp; omega) HS6.out ?_
       intro v6 w6 h1 h2 h3 h4
       rw [List.nil_append] at h1
       have HV7 := Lib.hid h1
       have HB7 := Lib.hid (HB6.out.trans (h2.mono (by have := HB5.out.size; omega)))
       clear h1 h4
       have hz : ∀ g, v5.ownBlock = some g → w6.heap[g]? = (w5.alloc (.cells #[] 39)).heap[g]? := fun g hg => h2.block g (HV5.out.lt g hg).2
       have HW6 := Lib.hid (HV6.out.kept hz)
       clear h2 h3 hz
       obtain ⟨ax, cx, rfl, hRx, -, -⟩ := HW6.out.rgs (by have := LA.out; have := EA.out; omega)
       obtain ⟨ay, cy, rfl, hRy, -, -⟩ := HV7.out.rgs (by have := LB.out; have := EB.out; omega)
       rw [EA.out] at hRx
       rw [EB.out] at hRy
       have HX := Lib.hid hRx
       have HY := Lib.hid hRy
       have HAw := Lib.hid (HA.out.below (Nat.le_refl _) HB7.out)
       have HBw := Lib.hid (HB.out.below (Nat.le_refl _) HB7.out)
       rw [EA.out, EB.out]
       clear hRx hRy))
  have T10 : Hid (T4 w ax ay a b la lb ra rb w6) := Lib.hid ⟨HB7.out, HX.out, HY.out, HAw.out, HBw.out⟩
  clear HX HY HAw HBw HB7 HW6 HV7 HV6 HS6 HBB HB6 HOO HB5 HV5 HO HW1 HA1 HA HB NA NB
  obtain ⟨br, HBR⟩ : ∃ x, Hid (rightV ra = x) := ⟨_, Lib.hid rfl⟩
  obtain ⟨bf, HBF⟩ : ∃ x, Hid (fitsV ra h = x) := ⟨_, Lib.hid rfl⟩
  obtain ⟨pt, HPT⟩ : ∃ x, Hid (ptsM h = x) := ⟨_, Lib.hid rfl⟩
  obtain ⟨t1, HT1⟩ : ∃ x, Hid ((totalV left n).1 = x) := ⟨_, Lib.hid rfl⟩
  obtain ⟨t2, HT2⟩ : ∃ x, Hid ((totalV left n).2 = x) := ⟨_, Lib.hid rfl⟩
  obtain ⟨c1, HC1⟩ : ∃ x, Hid ((givenV left n ra []).1 = x) := ⟨_, Lib.hid rfl⟩
  obtain ⟨c2, HC2⟩ : ∃ x, Hid ((givenV left n ra []).2.2 = x) := ⟨_, Lib.hid rfl⟩
  obtain ⟨g1, HG1⟩ : ∃ x, Hid ((givenV left n ra rb).1 = x) := ⟨_, Lib.hid rfl⟩
  obtain ⟨g2, HG2⟩ : ∃ x, Hid ((givenV left n ra rb).2.1 = x) := ⟨_, Lib.hid rfl⟩
  obtain ⟨g3, HG3⟩ : ∃ x, Hid ((givenV left n ra rb).2.2 = x) := ⟨_, Lib.hid rfl⟩
  go_wp2_with fail
  refine (ag_Right ax la cx ra _ T10.out.x).mono ?_
  rintro e w11 ⟨rfl, hb11⟩
  have T11 := Lib.hid (T10.out.step hb11)
  rw [HBR.out]
  clear T10 hb11
  go_wp2_with fail
  refine (law_theirs a la ca ra _ T11.out.a LA.out).mono ?_
  rintro e w12 ⟨⟨v12, rfl, hv12⟩, hb12⟩
  obtain ⟨at12, ct12, rfl, hR12, -, -⟩ := hv12.rgs (by have := LA.out; have := EA.out; omega)
  rw [EA.out] at hR12
  rw [EA.out]
  have R12 := Lib.hid hR12
  have T12 := Lib.hid (T11.out.step hb12)
  clear hv12 hR12 hb12 T11
  go_wp2_with fail
  refine (rf_Right at12 la ct12 ra _ R12.out).mono ?_
  rintro e w13 ⟨rfl, hb13⟩
  have T13 := Lib.hid (T12.out.step hb13)
  rw [HBR.out]
  clear T12 hb13
  have hbr : (br != br) = false := by simp
  go_wp2_with fail
  refine (ag_Points h HH.out _).mono ?_
  rintro e w14 ⟨rfl, rfl⟩
  rw [HPT.out]
  go_wp2_with fail
  refine (rf_Points h HH.out _).mono ?_
  rintro e w14 ⟨rfl, rfl⟩
  rw [HPT.out]
  go_wp2_with fail
  refine (ag_Fits ax la cx ra h HH.out _ T13.out.x).mono ?_
  rintro e w14 ⟨rfl, hb14⟩
  have T14 := Lib.hid (T13.out.step hb14)
  rw [HBF.out]
  clear T13 hb14
  go_wp2_with fail
  refine (law_theirs a la ca ra _ T14.out.a LA.out).mono ?_
  rintro e w15 ⟨⟨v15, rfl, hv15⟩, hb15⟩
  obtain ⟨at15, ct15, rfl, hR15, -, -⟩ := hv15.rgs (by have := LA.out; have := EA.out; omega)
  rw [EA.out] at hR15
  rw [EA.out]
  have R15 := Lib.hid hR15
  have T15 := Lib.hid (T14.out.step hb15)
  clear hv15 hR15 hb15 T14
  go_wp2_with fail
  refine (rf_Fits at15 la ct15 ra h HH.out _ R15.out).mono ?_
  rintro e w16 ⟨rfl, hb16⟩
  have T16 := Lib.hid (T15.out.step hb16)
  rw [HBF.out]
  clear T15 hb16
  have hbf : (bf != bf) = false := by simp
  go_wp2_with fail
  refine (ag_Total left n _ HL.out).mono ?_
  rintro e w17 ⟨rfl, rfl⟩
  rw [HT1.out, HT2.out]
  go_wp2_with fail
  refine (rf_Total left n _).mono ?_
  rintro e w17 ⟨rfl, hb17⟩
  have T17 := Lib.hid (T16.out.step hb17)
  rw [HT1.out, HT2.out]
  clear T16 hb17
  go_wp2_with fail
  refine (ag_Count left n ax la cx ra _ T17.out.x).mono ?_
  rintro e w18 ⟨rfl, hb18⟩
  have T18 := Lib.hid (T17.out.step hb18)
  rw [HC1.out, HC2.out]
  clear T17 hb18
  go_wp2_with fail
  refine (law_theirs a la ca ra _ T18.out.a LA.out).mono ?_
  rintro e w19 ⟨⟨v19, rfl, hv19⟩, hb19⟩
  obtain ⟨at19, ct19, rfl, hR19, -, -⟩ := hv19.rgs (by have := LA.out; have := EA.out; omega)
  rw [EA.out] at hR19
  rw [EA.out]
  have R19 := Lib.hid hR19
  have T19 := Lib.hid (T18.out.step hb19)
  clear hv19 hR19 hb19 T18
  go_wp2_with fail
  refine (rf_Count left n at19 la ct19 ra _ R19.out).mono ?_
  rintro e w20 ⟨rfl, hb20⟩
  have T20 := Lib.hid (T19.out.step hb20)
  rw [HC1.out, HC2.out]
  clear T19 hb20
  go_wp2_with fail
  refine (ag_GivenV left n ax ay la cx lb cy ra rb _ T20.out.x T20.out.y).mono ?_
  rintro e w21 ⟨rfl, hb21⟩
  have T21 := Lib.hid (T20.out.step hb21)
  rw [HG1.out, HG2.out, HG3.out]
  clear T20 hb21
  go_wp2_with fail
  refine (law_theirs a la ca ra _ T21.out.a LA.out).mono ?_
  rintro e w22 ⟨⟨v22, rfl, hv22⟩, hb22⟩
  obtain ⟨at22, ct22, rfl, hR22, -, -⟩ := hv22.rgs (by have := LA.out; have := EA.out; omega)
  rw [EA.out] at hR22
  rw [EA.out]
  have R22 := Lib.hid hR22
  have T22 := Lib.hid (T21.out.step hb22)
  clear hv22 hR22 hb22 T21
  go_wp2_with fail
  refine (law_theirs b lb cb rb _ T22.out.b LB.out).mono ?_
  rintro e w23 ⟨⟨v23, rfl, hv23⟩, hb23⟩
  obtain ⟨at23, ct23, rfl, hR23, -, -⟩ := hv23.rgs (by have := LB.out; have := EB.out; omega)
  rw [EB.out] at hR23
  rw [EB.out]
  have R23 := Lib.hid hR23
  have T23 := Lib.hid (T22.out.step hb23)
  have R24 := Lib.hid (R22.out.below (Nat.le_refl _) hb23)
  clear hv23 hR23 hb23 T22
  go_wp2_with fail
  refine (rf_Given left n at22 at23 la ct22 lb ct23 ra rb _ R24.out R23.out).mono ?_
  rintro e w24 ⟨rfl, hb24⟩
  have T24 := Lib.hid (T23.out.step hb24)
  rw [HG1.out, HG2.out, HG3.out]
  clear T23 hb24
  go_wp2_with fail
  refine (law_is ax a la cx ca ra _ T24.out.x T24.out.a).mono ?_
  rintro e w25 ⟨rfl, hb25⟩
  have T25 := Lib.hid (T24.out.step hb25)
  clear T24 hb25
  go_wp2_with fail
  refine (law_is ay b lb cy cb rb _ T25.out.y T25.out.b).mono ?_
  rintro e w26 ⟨rfl, hb26⟩
  have T26 := Lib.hid (T25.out.step hb26)
  clear T25 hb26
  go_wp2_with fail
  go_ret
  exact ⟨rfl, T26.out.bel⟩
end Go.Proofs.Ytmkplfndbjcflaa
