/- AgreeEither over this seat's program: the body. -/
import Derived.Test.YtmkplfndbjcflaaAgX
namespace Go.Proofs.Ytmkplfndbjcflaa
open Go.RowKit Go.Sort Go.Shelf Cnt

/-- the pack's cards of a mask -/
def pk (m : Nat) : Nat := land m 4503599627370495
theorem pk_lt (m : Nat) : pk m < 4503599627370496 := by
  unfold pk land
  exact Nat.lt_of_le_of_lt Nat.and_le_right (by decide)
theorem run_pk (m : Nat) (h : W64 m) : Op.intBits .and .u64 (m : Int) 4503599627370495 = pure (.int .u64 ((pk m : Nat) : Int)) :=
  run_and64 m 4503599627370495 h (by unfold W64; decide)
theorem bits_pk (m : Nat) (h : W64 m) : bits .and .u64 (m : Int) 4503599627370495 = ((pk m : Nat) : Int) := by
  rw [show (4503599627370495 : Int) = ((4503599627370495 : Nat) : Int) from rfl, bits_and_nat _ _ h (by unfold W64; decide)]
  rfl
set_option maxHeartbeats 4000000 in
theorem law_AgreeEither (left n : Nat) (ax : Option Addr) (lx cx : Nat) (cs : List Cd) (ay : Option Addr) (ly cy : Nat) (ds : List Cd) (w : World) (hleft : W64 left) (hn : n < 256) (hx : Cds w ax lx cs) (hlx : lx ≤ cx) (hy : Cds w ay ly ds) (hly : ly ≤ cy) :
    Calls Try.prog 4 #[.int .u64 (left : Int), .int .u8 (n : Int), .slice ax lx cx, .slice ay ly cy] w fun e w' => e = .returned (.bool true) ∧ Below w.heap.size w w' := by
  have hpk := bits_pk left hleft
  have HPL := Lib.hid (pk_lt left)
  have HX := Lib.hid hx
  have HY := Lib.hid hy
  generalize pk left = L at *
  have HN := Lib.hid (show 0 ≤ (n : Int) % 14 ∧ (n : Int) % 14 ≤ 13 by omega)
  clear hx hy
  have KA := Lib.hid (made_ok cs)
  have KB := Lib.hid (made_ok ds)
  have LA := Lib.hid (made_len cs)
  have LB := Lib.hid (made_len ds)
  generalize hma : made cs = A at *
  generalize hmb : made ds = B at *
  have KAB : Hid (rightV (A ++ B) = true) := Lib.hid (right_of (by have := LA.out; have := LB.out; rw [List.length_append]; omega) (by rw [List.all_append, (right_and A KA.out).2, (right_and B KB.out).2]; rfl))
  have LL : Hid ((bothL A B).length ≤ 20) := Lib.hid (by
    have h1 := bothL_len A B
    have h2 : A.length * B.length ≤ 4 * 4 := Nat.mul_le_mul LA.out LB.out
    omega)
  have KL : Hid (rightV (bothL A B) = true) := Lib.hid (right_of LL.out (bothL_ok A B))
  obtain ⟨o, Ho⟩ : ∃ o, Hid (cntF (deck L) ((n : Int) % 14).toNat (fitP A) = o) := ⟨_, Lib.hid rfl⟩
  obtain ⟨t, Ht⟩ : ∃ o, Hid (cntF (deck L) ((n : Int) % 14).toNat (fitP B) = o) := ⟨_, Lib.hid rfl⟩
  obtain ⟨z, Hz⟩ : ∃ o, Hid (cntF (deck L) ((n : Int) % 14).toNat (fitP (A ++ B)) = o) := ⟨_, Lib.hid rfl⟩
  obtain ⟨b, Hb⟩ : ∃ o, Hid (cntF (deck L) ((n : Int) % 14).toNat (fun l p => fitP A l p && fitP B l p) = o) := ⟨_, Lib.hid rfl⟩
  have Hs : Hid (cntF (deck L) ((n : Int) % 14).toNat (fitP (bothL A B)) = b) := Lib.hid (by rw [fitP_both (right_and A KA.out).2 (right_and B KB.out).2]; exact Hb.out)
  have hsum : z + b = o + t := by rw [← Ho.out, ← Ht.out, ← Hz.out, ← Hb.out, fitP_append]; exact cntF_or _ _ _ _
  have hbd : ∀ q, cntF (deck L) ((n : Int) % 14).toNat q ≤ 4503599627370496 := fun q => Nat.le_trans (cntF_le _ _ _) (Nat.le_trans (Nat.pow_le_pow_right (by decide) (deck_len L)) (by decide))
  have bo : o ≤ 4503599627370496 := Ho.out ▸ hbd _
  have bt : t ≤ 4503599627370496 := Ht.out ▸ hbd _
  have bz : z ≤ 4503599627370496 := Hz.out ▸ hbd _
  have bb : b ≤ 4503599627370496 := Hb.out ▸ hbd _
  have HBD := Lib.hid (And.intro hsum (And.intro bo (And.intro bt (And.intro bz bb))))
  clear hsum hbd bo bt bz bb
  go_enter Try.func4, Try.ntmps4
  go_wp2_with fail
  refine (law_Made ax lx cx cs _ HX.out hlx).mono ?_
  rintro e w1 ⟨⟨v1, rfl, hv1⟩, hb1⟩
  rw [hma] at hv1
  obtain ⟨a1, c1, rfl, hR1, hle1, hn1⟩ := hv1.rgs (by have := LA.out; omega)
  have HY1 := Lib.hid (HY.out.below (Nat.le_refl _) hb1)
  have HR1 := Lib.hid hR1
  have HN1 := Lib.hid hn1
  have HB1 := Lib.hid hb1
  clear hv1 hR1 hb1 hle1 hn1 hma
  go_wp2_with fail
  refine (law_Made ay ly cy ds _ HY1.out hly).mono ?_
  rintro e w2 ⟨⟨v2, rfl, hv2⟩, hb2⟩
  rw [hmb] at hv2
  obtain ⟨a2, c2, rfl, hR2, hle2, hn2⟩ := hv2.rgs (by have := LB.out; omega)
  have HA2 := Lib.hid (HR1.out.below (Nat.le_refl _) hb2)
  have HC2 := Lib.hid hR2
  have HN2 := Lib.hid hn2
  have HB2 := Lib.hid (HB1.out.trans (hb2.mono HB1.out.size))
  clear hv2 hR2 hb2 hle2 hn2 hmb HR1 HB1 HY1 HX HY
  have la := LA.out
  have lb := LB.out
  have HLA := Lib.hid (rfl : A.length = A.length)
  clear la lb HLA
  go_wp2_with fail
  refine (ag_CountOk L ((n : Int) % 14) HPL.out HN.out.1 HN.out.2 a1 A.length c1 A KA.out _ HA2.out).mono ?_
  rintro e w3 ⟨rfl, hb3⟩
  rw [Ho.out]
  have HA3 := Lib.hid (HA2.out.below (Nat.le_refl _) hb3)
  have HC3 := Lib.hid (HC2.out.below (Nat.le_refl _) hb3)
  have HB3 := Lib.hid (HB2.out.trans (hb3.mono HB2.out.size))
  clear hb3 HA2 HC2 HB2
  go_wp2_with fail
  refine (ag_CountOk L ((n : Int) % 14) HPL.out HN.out.1 HN.out.2 a2 B.length c2 B KB.out _ HC3.out).mono ?_
  rintro e w4 ⟨rfl, hb4⟩
  rw [Ht.out]
  have HA4 := Lib.hid (HA3.out.below (Nat.le_refl _) hb4)
  have HC4 := Lib.hid (HC3.out.below (Nat.le_refl _) hb4)
  have HB4 := Lib.hid (HB3.out.trans (hb4.mono HB3.out.size))
  clear hb4 HA3 HC3 HB3
  have hal : Below w4.heap.size w4 (w4.alloc (.cells #[] 39)) := (Below.refl _ _).alloc (Nat.le_refl _) _
  have HA5 := Lib.hid (HA4.out.below (Nat.le_refl _) hal)
  have HC5 := Lib.hid (HC4.out.below (Nat.le_refl _) hal)
  have HO5 := Lib.hid (OwnR.made0 w4 w4.heap.size (Nat.le_refl _))
  have HS5 := Lib.hid hal.size
  have HB5 := Lib.hid (HB4.out.trans (hal.mono HB4.out.size))
  clear hal
  go_wp2_with (first
    | (refine appRn rfl (.tmp 51) (.tmp 52) rfl w4.heap.size _ [] A rfl HO5.out a1 A.length c1 rfl HA5.out HN1.out (by have := LA.out; simp; omega) HS5.out ?_
       intro v5 w5 h1 h2 h3 h4
       rw [List.nil_append] at h1
       have HV5 := Lib.hid h1
       have HBB := Lib.hid h2
       clear h1 h2 h3 h4)
    | (refine appRn rfl (.tmp 53) (.tmp 54) rfl w4.heap.size _ A B rfl HV5.out a2 B.length c2 rfl (HC4.out.below (Nat.le_refl _) (((Below.refl _ _).alloc (Nat.le_refl _) _).trans HBB.out)) HN2.out (by have := LA.out; have := LB.out; omega) (Nat.le_trans HS5.out HBB.out.size) ?_
       intro v6 w6 h1 h2 h3 h4
       have HV6 := Lib.hid h1
       have HBC := Lib.hid ((((Below.refl w4.heap.size w4).alloc (Nat.le_refl _) _).trans HBB.out).trans h2)
       clear h1 h2 h3 h4 HBB HV5
       obtain ⟨a6, m6, c6, h6, hR6, hle6, hn6⟩ := HV6.out.rgs' (by have := LA.out; have := LB.out; rw [List.length_append]; omega)
       subst h6
       have HR6 := Lib.hid hR6
       clear hR6 hle6 hn6))
  refine (ag_CountOk L ((n : Int) % 14) HPL.out HN.out.1 HN.out.2 a6 m6 c6 (A ++ B) KAB.out _ HR6.out).mono ?_
  rintro e w7 ⟨rfl, hb7⟩
  rw [Hz.out]
  have hb47 := HBC.out.trans (hb7.mono HBC.out.size)
  have HA7 := Lib.hid (HA4.out.below (Nat.le_refl _) hb47)
  have HC7 := Lib.hid (HC4.out.below (Nat.le_refl _) hb47)
  have HB7 := Lib.hid (HB4.out.trans (hb47.mono HB4.out.size))
  clear hb7 hb47 HBC HV6 HR6 HA4 HC4 HB4 HA5 HC5 HO5 HS5 HB5
  go_wp2_with fail
  refine (ag_GivenOk L ((n : Int) % 14) HPL.out HN.out.1 HN.out.2 a1 a2 A.length c1 B.length c2 A B KA.out KB.out _ HA7.out HC7.out).mono ?_
  rintro e w8 ⟨rfl, hb8⟩
  rw [Hb.out, Ho.out]
  have HA8 := Lib.hid (HA7.out.below (Nat.le_refl _) hb8)
  have HC8 := Lib.hid (HC7.out.below (Nat.le_refl _) hb8)
  have HB8 := Lib.hid (HB7.out.trans (hb8.mono HB7.out.size))
  clear hb8 HA7 HC7 HB7
  go_wp2_with fail
  refine (ag_Both_yes a1 a2 A.length c1 B.length c2 A B _ HA8.out HC8.out KA.out KB.out).mono ?_
  rintro e w9 ⟨h9, hb9⟩
  rw [if_pos LL.out] at h9
  obtain ⟨v9, rfl, hv9⟩ := h9
  obtain ⟨a9, m9, c9, rfl, hR9, hle9, hn9⟩ := hv9.rgs' (by have := LL.out; omega)
  have HR9 := Lib.hid hR9
  have HB9 := Lib.hid (HB8.out.trans (hb9.mono HB8.out.size))
  clear hb9 hv9 hR9 hle9 hn9 HA8 HC8 HB8
  go_wp2_with fail
  refine (ag_CountOk L ((n : Int) % 14) HPL.out HN.out.1 HN.out.2 a9 m9 c9 (bothL A B) KL.out _ HR9.out).mono ?_
  rintro e w10 ⟨rfl, hb10⟩
  rw [Hs.out]
  have HB10 := Lib.hid (HB9.out.trans (hb10.mono HB9.out.size))
  clear hb10 HR9 HB9
  obtain ⟨hsum, bo, bt, bz, bb⟩ := HBD.out
  have hz : (z : Int) = (o : Int) + (t : Int) - (b : Int) := by omega
  go_wp2_with fail
  refine (law40_awake _).mono ?_
  rintro e w11 ⟨rfl, hb11⟩
  have HB11 := Lib.hid (HB10.out.trans (hb11.mono HB10.out.size))
  clear hb11
  go_wp2_with fail
  go_ret
  exact ⟨rfl, HB11.out⟩
end Go.Proofs.Ytmkplfndbjcflaa
