/- The body of AgreeSpreads over this seat's program. -/
import Derived.Test.YtmkplfndbjcflaaAgTl
import Derived.Test.YtmkplfndbjcflaaRgK
namespace Go.Proofs.Ytmkplfndbjcflaa
open Go.RowKit Go.Sort Go.Shelf Cnt

/-- two slices of ranges that read alike, compared one by one: what is known in between -/
structure T6 (w : World) (ax ay a b l m p q r s : Option Addr) (la lb ll lp lr : Nat) (ra rb rl : List Rg) (fp fr : Nat → Nat) (W : World) : Prop where
  t : T4 w ax ay a b la lb ra rb W
  l : Rgs W l ll rl
  m : Rgs W m ll rl
  p : Ins W p lp fp
  q : Ins W q lp fp
  r : Ins W r lr fr
  s : Ins W s lr fr
theorem T6.step {w : World} {ax ay a b l m p q r s : Option Addr} {la lb ll lp lr : Nat} {ra rb rl : List Rg} {fp fr : Nat → Nat} {W W' : World} (h : T6 w ax ay a b l m p q r s la lb ll lp lr ra rb rl fp fr W) (hb : Below W.heap.size W W') : T6 w ax ay a b l m p q r s la lb ll lp lr ra rb rl fp fr W' :=
  ⟨h.t.step hb, h.l.below (Nat.le_refl _) hb, h.m.below (Nat.le_refl _) hb, h.p.later hb, h.q.later hb, h.r.later hb, h.s.later hb⟩
set_option maxHeartbeats 4000000 in
set_option maxRecDepth 20000 in
theorem law40_spreads (left : Nat) (n s : Int) (a b : Option Addr) (la ca lb cb : Nat) (ra rb : List Rg) (w : World) (ha : Rgs w a la ra) (hb : Rgs w b lb rb) (na : a = none → ca = 0) (nb : b = none → cb = 0) (la30 : la ≤ 30) (lb30 : lb ≤ 30) :
    Calls Try.prog 8 #[.int .u64 (left : Int), .int .i64 n, .int .i64 s, .slice a la ca, .slice b lb cb] w fun e w' => e = .returned (.bool true) ∧ Below w.heap.size w w' := by
  have da : decide ((30 : Int) < (la : Int)) = false := by simp; omega
  have db : decide ((30 : Int) < (lb : Int)) = false := by simp; omega
  have NA := Lib.hid na
  have NB := Lib.hid nb
  have LA := Lib.hid la30
  have LB := Lib.hid lb30
  have EA := Lib.hid ha.length
  have EB := Lib.hid hb.length
  have HA := Lib.hid ha
  have HB := Lib.hid hb
  have HO := Lib.hid (OwnR.made0 w w.heap.size (Nat.le_refl _))
  have hal : Below w.heap.size w (w.alloc (.cells #[] 39)) := (Below.refl _ _).alloc (Nat.le_refl _) _
  have HA1 := Lib.hid (HA.out.below (Nat.le_refl _) hal)
  have HW1 := Lib.hid hal
  clear ha hb na nb la30 lb30 hal
  go_enter Try.func8, Try.ntmps8
  go_wp2_with (first
    | (refine appRn rfl (.tmp 35) (.tmp 36) rfl w.heap.size _ [] ra rfl HO.out a la ca rfl HA1.out NA.out (by have := LA.out; simp; omega) HW1.out.size ?_
       intro v5 w5 h1 h2 h3 h4
       rw [List.nil_append] at h1
       have HV5 := Lib.hid h1
       have HB5 := Lib.hid (HW1.out.trans h2)
       have HOO := Lib.hid (OwnR.made0 w5 w5.heap.size (Nat.le_refl _))
       have h8 := (Below.refl w5.heap.size w5).alloc (Nat.le_refl _) (.cells #[] 39)
       have HB6 := Lib.hid (HB5.out.trans (h8.mono HB5.out.size))
       have HBB := Lib.hid (HB.out.below (Nat.le_refl _) HB6.out)
       have HV6 := Lib.hid (HV5.out.later h8)
       have HS6 := Lib.hid h8.size
       clear h1 h2 h3 h4 h8)
    | (refine appRn rfl (.tmp 38) (.tmp 39) rfl w5.heap.size _ [] rb rfl HOO.out b lb cb rfl HBB.out NB.out (by have := LB.out; simp; omega) HS6.out ?_
       intro v6 w6 h1 h2 h3 h4
       rw [List.nil_append] at h1
       have HV7 := Lib.hid h1
       have HB7 := Lib.hid (HB6.out.trans (h2.mono (by have := HB5.out.size; omega)))
       clear h1 h4
       have hz : ∀ g, v5.ownBlock = some g → w6.heap[g]? = (w5.alloc (.cells #[] 39)).heap[g]? := fun g hg => h2.block g (HV5.out.lt g hg).2
       have HW6 := Lib.hid (HV6.out.kept hz)
       clear h2 h3 hz
       obtain ⟨ax, cx, rfl, hRx, -, -⟩ := HW6.out.rgs (by have := LA.out; have := EA.out; omega)
       obtain ⟨ay, cy, rfl, hRy, -, -⟩ := HV7.out.rgs (by have := LB.out; have := EB.out; omega)
       rw [EA.out] at hRx
       rw [EB.out] at hRy
       have HX := Lib.hid hRx
       have HY := Lib.hid hRy
       have HAw := Lib.hid (HA.out.below (Nat.le_refl _) HB7.out)
       have HBw := Lib.hid (HB.out.below (Nat.le_refl _) HB7.out)
       rw [EA.out, EB.out]
       clear hRx hRy))
  have T10 : Hid (T4 w ax ay a b la lb ra rb w6) := Lib.hid ⟨HB7.out, HX.out, HY.out, HAw.out, HBw.out⟩
  clear HX HY HAw HBw HB7 HW6 HV7 HV6 HS6 HBB HB6 HOO HB5 HV5 HO HW1 HA1 HA HB NA NB da db
  go_wp2_with fail
  refine (ag_BothV ax ay la cx lb cy ra rb _ T10.out.x T10.out.y).mono ?_
  rintro e w11 ⟨⟨al, cl, rfl, hl⟩, hb11⟩
  have LW := Lib.hid (bothW_len ra rb)
  obtain ⟨rl, HRL⟩ : ∃ x, Hid (bothW ra rb = x) := ⟨_, Lib.hid rfl⟩
  obtain ⟨eb, HEB⟩ : ∃ x, Hid (bothE ra rb = x) := ⟨_, Lib.hid rfl⟩
  rw [HRL.out] at hl LW
  rw [HRL.out, HEB.out]
  obtain ⟨ll, HLL⟩ : ∃ x, Hid (rl.length = x) := ⟨_, Lib.hid rfl⟩
  rw [HLL.out] at hl LW
  rw [HLL.out]
  have L11 := Lib.hid hl
  have T11 := Lib.hid (T10.out.step hb11)
  clear hl hb11 T10
  go_wp2_with fail
  refine (law_theirs a la ca ra _ T11.out.a LA.out).mono ?_
  rintro e w12 ⟨⟨v12, rfl, hv12⟩, hb12⟩
  obtain ⟨at12, ct12, rfl, hR12, -, -⟩ := hv12.rgs (by have := LA.out; have := EA.out; omega)
  rw [EA.out] at hR12
  rw [EA.out]
  have R12 := Lib.hid hR12
  have T12 := Lib.hid (T11.out.step hb12)
  have L12 := Lib.hid (L11.out.below (Nat.le_refl _) hb12)
  clear hv12 hR12 hb12 T11 L11
  go_wp2_with fail
  refine (law_theirs b lb cb rb _ T12.out.b LB.out).mono ?_
  rintro e w13 ⟨⟨v13, rfl, hv13⟩, hb13⟩
  obtain ⟨at13, ct13, rfl, hR13, -, -⟩ := hv13.rgs (by have := LB.out; have := EB.out; omega)
  rw [EB.out] at hR13
  rw [EB.out]
  have R13 := Lib.hid hR13
  have T13 := Lib.hid (T12.out.step hb13)
  have L13 := Lib.hid (L12.out.below (Nat.le_refl _) hb13)
  have R14 := Lib.hid (R12.out.below (Nat.le_refl _) hb13)
  clear hv13 hR13 hb13 T12 L12
  go_wp2_with fail
  refine (rf_BothV at12 at13 la ct12 lb ct13 ra rb _ R14.out R13.out).mono ?_
  rintro e w14 ⟨⟨am, cm, rfl, hm⟩, hb14⟩
  rw [HRL.out] at hm
  rw [HRL.out, HEB.out]
  rw [HLL.out] at hm
  rw [HLL.out]
  have M14 := Lib.hid hm
  have L14 := Lib.hid (L13.out.below (Nat.le_refl _) hb14)
  have T14 := Lib.hid (T13.out.step hb14)
  clear hm hb14 T13 L13 R14 R13 R12
  obtain ⟨op, HOP⟩ : ∃ x, Hid (spOk left n ra = x) := ⟨_, Lib.hid rfl⟩
  obtain ⟨fp, HFP⟩ : ∃ x, Hid (spV left n.toNat ra = x) := ⟨_, Lib.hid rfl⟩
  obtain ⟨or, HOR⟩ : ∃ x, Hid (lnOk left n ra s = x) := ⟨_, Lib.hid rfl⟩
  obtain ⟨fr, HFR⟩ : ∃ x, Hid (lnV left n.toNat ra s.toNat = x) := ⟨_, Lib.hid rfl⟩
  obtain ⟨lp, HLP⟩ : ∃ x, Hid (resN 41 op = x) := ⟨_, Lib.hid rfl⟩
  obtain ⟨ep, HEP⟩ : ∃ x, Hid (resE op = x) := ⟨_, Lib.hid rfl⟩
  obtain ⟨lr, HLR⟩ : ∃ x, Hid (resN 14 or = x) := ⟨_, Lib.hid rfl⟩
  obtain ⟨er, HER⟩ : ∃ x, Hid (resE or = x) := ⟨_, Lib.hid rfl⟩
  go_wp2_with fail
  refine (ag_SpreadV left n ax la cx ra _ T14.out.x).mono ?_
  rintro e w15 ⟨⟨ap, cp, rfl, hp⟩, hb15⟩
  rw [HOP.out, HFP.out, HLP.out] at hp
  rw [HOP.out, HLP.out, HEP.out]
  have P15 := Lib.hid hp
  have M15 := Lib.hid (M14.out.below (Nat.le_refl _) hb15)
  have L15 := Lib.hid (L14.out.below (Nat.le_refl _) hb15)
  have T15 := Lib.hid (T14.out.step hb15)
  clear hp hb15 T14 L14 M14
  go_wp2_with fail
  refine (law_theirs a la ca ra _ T15.out.a LA.out).mono ?_
  rintro e w16 ⟨⟨v16, rfl, hv16⟩, hb16⟩
  obtain ⟨at16, ct16, rfl, hR16, -, -⟩ := hv16.rgs (by have := LA.out; have := EA.out; omega)
  rw [EA.out] at hR16
  rw [EA.out]
  have R16 := Lib.hid hR16
  have T16 := Lib.hid (T15.out.step hb16)
  have P16 := Lib.hid (P15.out.later hb16)
  have M16 := Lib.hid (M15.out.below (Nat.le_refl _) hb16)
  have L16 := Lib.hid (L15.out.below (Nat.le_refl _) hb16)
  clear hv16 hR16 hb16 T15 L15 M15 P15
  go_wp2_with fail
  refine (rf_SpreadV left n at16 la ct16 ra _ R16.out).mono ?_
  rintro e w17 ⟨⟨aq, cq, rfl, hq⟩, hb17⟩
  rw [HOP.out, HFP.out, HLP.out] at hq
  rw [HOP.out, HLP.out, HEP.out]
  have Q17 := Lib.hid hq
  have P17 := Lib.hid (P16.out.later hb17)
  have M17 := Lib.hid (M16.out.below (Nat.le_refl _) hb17)
  have L17 := Lib.hid (L16.out.below (Nat.le_refl _) hb17)
  have T17 := Lib.hid (T16.out.step hb17)
  clear hq hb17 T16 L16 M16 P16 R16
  go_wp2_with fail
  refine (ag_LengthsV left n ax la cx ra s _ T17.out.x).mono ?_
  rintro e w18 ⟨⟨ar, cr, rfl, hr⟩, hb18⟩
  rw [HOR.out, HFR.out, HLR.out] at hr
  rw [HOR.out, HLR.out, HER.out]
  have R18 := Lib.hid hr
  have Q18 := Lib.hid (Q17.out.later hb18)
  have P18 := Lib.hid (P17.out.later hb18)
  have M18 := Lib.hid (M17.out.below (Nat.le_refl _) hb18)
  have L18 := Lib.hid (L17.out.below (Nat.le_refl _) hb18)
  have T18 := Lib.hid (T17.out.step hb18)
  clear hr hb18 T17 L17 M17 P17 Q17
  go_wp2_with fail
  refine (law_theirs a la ca ra _ T18.out.a LA.out).mono ?_
  rintro e w19 ⟨⟨v19, rfl, hv19⟩, hb19⟩
  obtain ⟨at19, ct19, rfl, hR19, -, -⟩ := hv19.rgs (by have := LA.out; have := EA.out; omega)
  rw [EA.out] at hR19
  rw [EA.out]
  have Z19 := Lib.hid hR19
  have T19 := Lib.hid (T18.out.step hb19)
  have R20 := Lib.hid (R18.out.later hb19)
  have Q19 := Lib.hid (Q18.out.later hb19)
  have P19 := Lib.hid (P18.out.later hb19)
  have M19 := Lib.hid (M18.out.below (Nat.le_refl _) hb19)
  have L19 := Lib.hid (L18.out.below (Nat.le_refl _) hb19)
  clear hv19 hR19 hb19 T18 L18 M18 P18 Q18 R18
  go_wp2_with fail
  refine (rf_LengthsV left n at19 la ct19 ra s _ Z19.out).mono ?_
  rintro e w21 ⟨⟨aS, cs, rfl, hs⟩, hb21⟩
  rw [HOR.out, HFR.out, HLR.out] at hs
  rw [HOR.out, HLR.out, HER.out]
  have X21 : Hid (T6 w ax ay a b al am ap aq ar aS la lb ll lp lr ra rb rl fp fr w21) := Lib.hid ⟨T19.out.step hb21, L19.out.below (Nat.le_refl _) hb21, M19.out.below (Nat.le_refl _) hb21, P19.out.later hb21, Q19.out.later hb21, R20.out.later hb21, hs⟩
  clear hs hb21 T19 L19 M19 P19 Q19 R20 Z19
  have k1 : (eb != eb) = false := by simp
  have k2 : (ep != ep) = false := by simp
  have k3 : (er != er) = false := by simp
  have k4 : ((ll : Int) != (ll : Int)) = false := by simp
  go_wp2_with fail
  refine (kit_sameInts ap aq lp cp cq fp _ X21.out.p X21.out.q).mono ?_
  rintro e w22 ⟨rfl, hb22⟩
  have X22 := Lib.hid (X21.out.step hb22)
  clear hb22 X21
  go_wp2_with fail
  refine (kit_sameInts ar aS lr cr cs fr _ X22.out.r X22.out.s).mono ?_
  rintro e w23 ⟨rfl, hb23⟩
  have X23 := Lib.hid (X22.out.step hb23)
  clear hb23 X22
  go_wp2_with fail
  go_loopw [25, 121] (fun _ i wr => ∃ (k : Nat), k ≤ ll ∧ i = .int .i64 (k : Int) ∧ T6 w ax ay a b al am ap aq ar aS la lb ll lp lr ra rb rl fp fr wr) (fun _ i _ => ll - (intOf i).toNat)
  case atStart => exact ⟨0, by omega, rfl, X23.out⟩
  case round =>
    clear X23
    obtain ⟨k, hk, rfl, hX⟩ := hrel
    have X := Lib.hid hX
    by_cases hlt : k < ll
    · obtain ⟨ba, offa, r, rfl, -, hr, c0, c1, c2, c3, c4, c5, c6, c7, c8, c9⟩ := hX.l.ten hlt
      obtain ⟨bb, offb, r', rfl, -, hr', e0, e1, e2, e3, e4, e5, e6, e7, e8, e9⟩ := hX.m.ten hlt
      obtain rfl : r = r' := by rw [hr] at hr'; exact Option.some.inj hr'
      have hd : decide ((k : Int) < (ll : Int)) = true := by simp; omega
      have hki : (k : Int) < (ll : Int) := by omega
      have hl20 : ll ≤ 20 := LW.out
      have f0 := fun dd os => cell_regrown c0 dd os
      have f1 := fun dd os => cell_regrown c1 dd os
      have f2 := fun dd os => cell_regrown c2 dd os
      have f3 := fun dd os => cell_regrown c3 dd os
      have f4 := fun dd os => cell_regrown c4 dd os
      have f5 := fun dd os => cell_regrown c5 dd os
      have f6 := fun dd os => cell_regrown c6 dd os
      have f7 := fun dd os => cell_regrown c7 dd os
      have f8 := fun dd os => cell_regrown c8 dd os
      have f9 := fun dd os => cell_regrown c9 dd os
      have g0 := fun dd os => cell_regrown e0 dd os
      have g1 := fun dd os => cell_regrown e1 dd os
      have g2 := fun dd os => cell_regrown e2 dd os
      have g3 := fun dd os => cell_regrown e3 dd os
      have g4 := fun dd os => cell_regrown e4 dd os
      have g5 := fun dd os => cell_regrown e5 dd os
      have g6 := fun dd os => cell_regrown e6 dd os
      have g7 := fun dd os => cell_regrown e7 dd os
      have g8 := fun dd os => cell_regrown e8 dd os
      have g9 := fun dd os => cell_regrown e9 dd os
      have HEQ := fun w' => rt_eq r w'
      clear hr hr' hX
      go_wp2_with fail
      refine wp_region_quiet_below (by kernel_rfl) (by kernel_rfl) ?_
      repeat (first | go_big_quiet_step (fail) | quiet_step (fail))
      refine wpQuiet_nil ?_
      rintro _ ⟨q, rfl⟩
      have X2 := Lib.hid (X.out.step (below_regrown wr q.d q.os))
      generalize grow (redrawn wr q.d) q.os = wa at *
      clear c0 c1 c2 c3 c4 c5 c6 c7 c8 c9 e0 e1 e2 e3 e4 e5 e6 e7 e8 e9 f0 f1 f2 f3 f4 f5 f6 f7 f8 f9 g0 g1 g2 g3 g4 g5 g6 g7 g8 g9
      go_wp2_with fail
      exact ⟨⟨k + 1, by omega, by simp, X2.out⟩, by simp [intOf]; omega⟩
    · obtain rfl : k = ll := by omega
      have hd : decide ((k : Int) < (k : Int)) = false := by simp
      clear hX
      go_wp2_with fail
      refine (law_is ax a la cx ca ra _ X.out.t.x X.out.t.a).mono ?_
      rintro e w24 ⟨rfl, hb24⟩
      have X24 := Lib.hid (X.out.step hb24)
      clear hb24 X
      go_wp2_with fail
      refine (law_is ay b lb cy cb rb _ X24.out.t.y X24.out.t.b).mono ?_
      rintro e w25 ⟨rfl, hb25⟩
      have X25 := Lib.hid (X24.out.step hb25)
      clear hb25 X24
      go_wp2_with fail
      refine (law40_awake _).mono ?_
      rintro e w26 ⟨rfl, hb26⟩
      have X26 := Lib.hid (X25.out.step hb26)
      clear hb26 X25
      go_wp2_with fail
      go_ret
      exact ⟨rfl, X26.out.t.bel⟩

set_option maxHeartbeats 1000000 in
theorem law_AgreeSpreads (left : Nat) (n s : Int) (a : Option Addr) (la ca : Nat) (ra : List Rg) (b : Option Addr) (lb cb : Nat) (rb : List Rg) (w : World) (_ : W64 left) (_ : -9223372036854775808 ≤ n ∧ n ≤ 9223372036854775807) (_ : -9223372036854775808 ≤ s ∧ s ≤ 9223372036854775807) (ha : Rgs w a la ra) (na : la ≤ ca ∧ (a = none → ca = 0)) (hb : Rgs w b lb rb) (nb : lb ≤ cb ∧ (b = none → cb = 0)) :
    Calls Try.prog 8 #[.int .u64 (left : Int), .int .i64 n, .int .i64 s, .slice a la ca, .slice b lb cb] w fun e w' => e = .returned (.bool true) ∧ Below w.heap.size w w' := by
  have sa := ha.small
  have sb := hb.small
  by_cases ga : 30 < la
  · have da : decide (30 < (la : Int)) = true := by simp; omega
    clear ha hb
    go_enter Try.func8, Try.ntmps8
    go_wp2_with fail
    refine (law40_awake _).mono ?_
    rintro e w1 ⟨rfl, hb1⟩
    have HB1 := Lib.hid hb1
    go_wp2_with fail
    go_ret
    exact ⟨rfl, HB1.out⟩
  · have da : decide (30 < (la : Int)) = false := by simp; omega
    by_cases gb : 30 < lb
    · have db : decide (30 < (lb : Int)) = true := by simp; omega
      clear ha hb
      go_enter Try.func8, Try.ntmps8
      go_wp2_with fail
      refine (law40_awake _).mono ?_
      rintro e w1 ⟨rfl, hb1⟩
      have HB1 := Lib.hid hb1
      go_wp2_with fail
      go_ret
      exact ⟨rfl, HB1.out⟩
    · exact law40_spreads left n s a b la ca lb cb ra rb w ha hb na.2 nb.2 (by omega) (by omega)
end Go.Proofs.Ytmkplfndbjcflaa
