/- finesselaw14.LeadDemands over this seat's program. -/
import Derived.Test.YtgnlmodaekfhfaaDoorMLdx
import Derived.Test.YtgnlmodaekfhfaaDoorLdDm
namespace Go.Proofs.YtgnlmodaekfhfaaDoor
open Go.RowKit Go.Shelf Go.Sort

set_option maxHeartbeats 4000000 in
set_option maxRecDepth 10000 in
theorem law_LeadDemands (x : Sk) (ao : Option Addr) (lo co : Nat) (card suit : Nat) (req : Bool) (w : World) (hx0 : x.size < 256) (hx1 : x.trumps < 256) (hx2 : x.decl < 256) (hz : Byt w ao lo x.order) (hb1 : card < 256) (hb2 : suit < 256) (hT : Tab w) :
    Calls Tryd.prog 7 #[.agg (x.cells ao lo co), .int .u8 (card : Int), .int .u8 (suit : Int), .bool req] w fun e w' => e = .returned (.bool true) ∧ Below w.heap.size w w' := by
  have HT0 := Lib.hid hT
  have hd := x.deal
  have HMK := Lib.hid (fun (W : World) (hb : Below w.heap.size w W) => law_Made x ao lo co W (hz.below (Nat.le_refl _) hb) hx0 hx1 hx2)
  obtain ⟨tm, htm⟩ : ∃ tm, x.trumps % 5 = tm := ⟨_, rfl⟩
  obtain ⟨dc, hdc⟩ : ∃ dc, x.decl % 4 = dc := ⟨_, rfl⟩
  have htm4 : tm ≤ 4 := by omega
  have hdc4 : dc < 4 := by omega
  rw [htm, hdc] at HMK
  have hnle := x.n_le.2
  have hw64 := x.w64
  generalize x.h = d at *
  generalize x.n = n at *
  have HD := Lib.hid hd
  have HW64 := Lib.hid (fun (i : Nat) (hi : i < 4) => w64_52 (hd.lt i hi))
  obtain ⟨DA, hDA⟩ : ∃ DA, DA = arr4 d := ⟨_, rfl⟩
  have HDA := Lib.hid hDA
  have HDZ : Hid ((Tryd.prog.info? 29).map (·.size) = some DA.size ∧ DA.size = 4 ∧ DA.all (·.oneCell') = true) := Lib.hid (by rw [hDA]; exact ⟨size_deal14, rfl, by simp [arr4, Value.oneCell']⟩)
  rw [← hDA] at HMK
  obtain ⟨XC, hXC⟩ : ∃ XC, XC = x.cells ao lo co := ⟨_, rfl⟩
  have HXZ : Hid ((Tryd.prog.info? 24).map (·.size) = some XC.size) := Lib.hid (by rw [hXC]; exact size_sk14)
  rw [← hXC] at HMK ⊢
  clear hXC hDA hT hz htm hdc hd
  have HNW := Lib.hid (fun W => ld_New_ok HD.out hw64 tm dc htm4 (by omega) W)
  have hda : #[.int .u64 (d 0 : Int), .int .u64 (d 1 : Int), .int .u64 (d 2 : Int), .int .u64 (d 3 : Int)] = DA := HDA.out.symm
  rw [hda] at HNW
  clear hda hw64
  obtain ⟨u, hu⟩ : ∃ u, suit % 4 = u := ⟨_, rfl⟩
  have hu4 : u < 4 := by omega
  have su1 : ((suit : Int)).tmod 4 = (u : Int) := by rw [Int.tmod_eq_emod_of_nonneg (by omega)]; omega
  have su2 : IntKind.u8.wrap (u : Int) = (u : Int) := by rw [IntKind.wrap_u8]; omega
  obtain ⟨c, S1, S2, hc, hc52, i0, i1, i2, e0, e1, e2, pn2, hne, heq⟩ := dem_plain HD.out htm4 hdc4 card u req hu4
  obtain ⟨S0, hS0⟩ : ∃ S0, St.new d tm dc = S0 := ⟨_, rfl⟩
  obtain ⟨P, hP⟩ : ∃ P, (dc + 3) % 4 = P := ⟨_, rfl⟩
  obtain ⟨L, hL⟩ : ∃ L, (dc + 1) % 4 = L := ⟨_, rfl⟩
  have hP4 : P < 4 := by omega
  have hL4 : L < 4 := by omega
  have p1 : IntKind.u8.wrap ((dc : Int) + 3) = (dc : Int) + 3 := by rw [IntKind.wrap_u8]; omega
  have p2 : ((dc : Int) + 3).tmod 4 = (P : Int) := by rw [Int.tmod_eq_emod_of_nonneg (by omega)]; omega
  have p3 : IntKind.u8.wrap (P : Int) = (P : Int) := by rw [IntKind.wrap_u8]; omega
  have l1 : IntKind.u8.wrap ((dc : Int) + 1) = (dc : Int) + 1 := by rw [IntKind.wrap_u8]; omega
  have l2 : ((dc : Int) + 1).tmod 4 = (L : Int) := by rw [Int.tmod_eq_emod_of_nonneg (by omega)]; omega
  have l3 : IntKind.u8.wrap (L : Int) = (L : Int) := by rw [IntKind.wrap_u8]; omega
  have hPI : (P : Int) < 4 := by omega
  have hLI : (L : Int) < 4 := by omega
  rw [hS0] at i0 e0 e1 HNW
  rw [hP] at hc e1 pn2
  have HI0 := Lib.hid i0
  have HI1 := Lib.hid i1
  have HI2 := Lib.hid i2
  have HE0 := Lib.hid e0
  have HE1 := Lib.hid e1
  have HE2 := Lib.hid e2
  have HPN := Lib.hid pn2
  have HNE := Lib.hid hne
  have HEQ := Lib.hid heq
  have HC := Lib.hid hc
  have HLE := Lib.hid hL
  have hwP := HW64.out P hP4
  have hwL := HW64.out L hL4
  have dP := da_get HDA.out P hP4
  have dL := da_get HDA.out L hL4
  have HNT := Lib.hid (fun W => law_nth (d P) card hwP hb1 W)
  rw [← hc] at HNT
  clear hu hS0 hP hL i0 i1 i2 e0 e1 e2 pn2 hne heq hc
  have hb0 := (Below.refl w.heap.size w).alloc (Nat.le_refl _) (.cells XC 24)
  have hx0' : Row (w.alloc (.cells XC 24)) w.heap.size 24 XC := Row.new _ _ _
  go_enter Tryd.func7, Tryd.ntmps7
  go_upto_region 1 with fail
  generalize w.alloc (.cells XC 24) = w0 at *
  obtain ⟨bx, hbx⟩ : ∃ bx, w.heap.size = bx := ⟨_, rfl⟩
  have HB0 := Lib.hid hb0
  have HX0 := Lib.hid hx0'
  rw [hbx] at HX0
  have HBX := Lib.hid hbx
  clear hb0 hx0'
  rw [hbx]
  clear hbx
  have HT1 := Lib.hid (HT0.out.below HT0.out.pos HB0.out)
  go_wp2_with fail
  refine (law_awake14 _ HT1.out).mono ?_
  rintro e w1 ⟨rfl, hb⟩
  have HB1 := Lib.hid (HB0.out.trans (hb.mono HB0.out.size))
  have HX1 := Lib.hid (HX0.out.below HX0.out.lt hb)
  clear hb
  go_wp2_with (refine wpList_load_row rfl 24 (.tmp 4) rfl bx rfl 24 XC (0, 0) _ HX1.out Tryd.underlying24 rfl HXZ.out ?_)
  refine (HMK.out w1 HB1.out).mono ?_
  rintro e w2 ⟨rfl, hb⟩
  have HB2 := Lib.hid (HB1.out.trans (hb.mono HB1.out.size))
  clear hb
  go_upto_region 4 with (refine wpList_store_row rfl 29 (.tmp 9) (.tmp 24) rfl w2.heap.size DA rfl rfl 29 _ (Row.new _ _ _) HDZ.out.1 (by rw [HDZ.out.2.1]; rfl) HDZ.out.2.2 ?_)
  have hb3 := below_setRow (HB2.out.alloc HB2.out.size (.cells #[.int .u64 0, .int .u64 0, .int .u64 0, .int .u64 0] 29)) HB2.out.size DA
  have hr3 : Row ((w2.alloc (.cells #[.int .u64 0, .int .u64 0, .int .u64 0, .int .u64 0] 29)).setRow w2.heap.size DA) w2.heap.size 29 DA := setRow_heap _ _ _ _ _ _ (Row.new _ _ _)
  generalize (w2.alloc (.cells #[.int .u64 0, .int .u64 0, .int .u64 0, .int .u64 0] 29)).setRow w2.heap.size DA = w3 at *
  obtain ⟨bd, hbd⟩ : ∃ bd, w2.heap.size = bd := ⟨_, rfl⟩
  have HBD : Hid (w.heap.size ≤ bd) := Lib.hid (by rw [← hbd]; exact HB2.out.size)
  rw [hbd] at hr3 ⊢
  have HB3 := Lib.hid hb3
  have HD3 := Lib.hid hr3
  have HT3 := Lib.hid (HT0.out.below HT0.out.pos HB3.out)
  clear hb3 hr3 hbd
  go_wp2_with (refine wpList_load_row rfl 29 (.tmp 9) rfl bd rfl 29 DA (0, 0) _ HD3.out Tryd.underlying29 rfl HDZ.out.1 ?_)
  refine (HNW.out w3).mono ?_
  rintro e w4 ⟨B, rfl, hBB, hr, hb⟩
  have HBR : Hid (w.heap.size ≤ B) := Lib.hid (Nat.le_trans HB3.out.size hBB)
  have HNDR : Hid (bd < B) := Lib.hid (Nat.lt_of_lt_of_le HD3.out.lt hBB)
  have HB4 := Lib.hid (HB3.out.trans (hb.mono HB3.out.size))
  have HR4 := Lib.hid hr
  have HD4 := Lib.hid (HD3.out.below HD3.out.lt hb)
  have HT4 := Lib.hid (HT0.out.below HT0.out.pos HB4.out)
  clear hb hr hBB
  have cP : w4.cell? ⟨bd, P, none⟩ = some (.int .u64 (d P : Int)) := (HD4.out.cell P).trans dP
  go_wp2_with fail
  refine (HNT.out w4).mono ?_
  rintro e w5 ⟨rfl, hb⟩
  have HB5 := Lib.hid (HB4.out.trans (hb.mono HB4.out.size))
  have HD5 := Lib.hid (HD4.out.below HD4.out.lt hb)
  have HR5 := Lib.hid (HR4.out.below HR4.out.lt hb)
  have HT5 := Lib.hid (HT0.out.below HT0.out.pos HB5.out)
  clear hb
  clear cP
  go_wp2_with fail
  refine (tq_Demand HD.out HI0.out HR5.out (by omega) HE0.out).mono ?_
  rintro e w6 ⟨rfl, hr, hk⟩
  have HB6 := Lib.hid (HB5.out.trans (hk.toBelow HBR.out HB5.out.size))
  have HD6 := Lib.hid (HD5.out.kept (show bd ≠ B by have := HNDR.out; omega) hk)
  have HR6 := Lib.hid hr
  have HT6 := Lib.hid (HT0.out.below HT0.out.pos HB6.out)
  clear hr hk
  go_wp2_with fail
  refine (tq_Lead HD.out HI0.out HR6.out HT6.out (by omega) HE1.out).mono ?_
  rintro e w7 ⟨rfl, hr, hk⟩
  have HB7 := Lib.hid (HB6.out.trans (hk.toBelow HBR.out HB6.out.size))
  have HD7 := Lib.hid (HD6.out.kept (show bd ≠ B by have := HNDR.out; omega) hk)
  have HR7 := Lib.hid hr
  have HT7 := Lib.hid (HT0.out.below HT0.out.pos HB7.out)
  clear hr hk
  go_wp2_with fail
  refine (tq_Choose (choice := 4) HD.out HI1.out HR7.out HE2.out).mono ?_
  rintro e w8 ⟨rfl, hr, hk⟩
  have HB8 := Lib.hid (HB7.out.trans (hk.toBelow HBR.out HB7.out.size))
  have HD8 := Lib.hid (HD7.out.kept (show bd ≠ B by have := HNDR.out; omega) hk)
  have HR8 := Lib.hid hr
  have HT8 := Lib.hid (HT0.out.below HT0.out.pos HB8.out)
  clear hr hk
  obtain ⟨q, hq⟩ : ∃ q, c / 13 = q := ⟨_, rfl⟩
  have q1 : ((c : Int)).tdiv 13 = (q : Int) := by rw [Int.tdiv_eq_ediv_of_nonneg (by omega)]; omega
  have q2 : IntKind.u8.wrap (q : Int) = (q : Int) := by rw [IntKind.wrap_u8]; omega
  rw [hq] at HNE HEQ
  have hq4 : q < 4 := by omega
  clear hq
  by_cases hqu : q = u
  rotate_left
  · have qb : ((q : Int) != (u : Int)) = true := by rw [bne_iff_ne]; omega
    have HEn := Lib.hid (HNE.out hqu)
    obtain ⟨SA, hSA⟩ : ∃ SA, SA = S2.cells := ⟨_, rfl⟩
    have HSA := Lib.hid hSA
    have fp := fld_pn S2 hSA
    have fi := index_arr4 S2.pn P hP4
    rw [HPN.out] at fi
    have hc64 : (c : Int) < 64 := by omega
    generalize arr4 S2.pn = PA at fp fi
    clear hSA hqu
    go_wp2_with fail
    refine (tq_Demand HD.out HI2.out HR8.out (by omega) HEn.out).mono ?_
    rintro e w9 ⟨rfl, hr, hk⟩
    have HB9 := Lib.hid (HB8.out.trans (hk.toBelow HBR.out HB8.out.size))
    have HD9 := Lib.hid (HD8.out.kept (show bd ≠ B by have := HNDR.out; omega) hk)
    have HR9 := Lib.hid hr
    have HT9 := Lib.hid (HT0.out.below HT0.out.pos HB9.out)
    clear hr hk
    go_wp2_with fail
    refine (tb_State HD.out HI2.out HR9.out HSA.out).mono ?_
    rintro e w10 ⟨rfl, hb⟩
    have HB10 := Lib.hid (HB9.out.trans (hb.mono HB9.out.size))
    have HD10 := Lib.hid (HD9.out.below HD9.out.lt hb)
    have HR10 := Lib.hid (HR9.out.below HR9.out.lt hb)
    have HT10 := Lib.hid (HT0.out.below HT0.out.pos HB10.out)
    clear hb
    go_wp2_with fail
    go_ret
    exact ⟨rfl, HB10.out⟩
  · have qb : ((q : Int) != (u : Int)) = false := by rw [bne_eq_false_iff_eq]; omega
    obtain ⟨S3, i3, e3, pn3, e4, lg⟩ := HEQ.out hqu
    rw [HLE.out] at lg
    have HI3 := Lib.hid i3
    have HE3 := Lib.hid e3
    have HE4 := Lib.hid e4
    obtain ⟨SA, hSA⟩ : ∃ SA, SA = S3.cells := ⟨_, rfl⟩
    have HSA := Lib.hid hSA
    have fp := fld_pn S3 hSA
    rw [show arr4 S3.pn = #[.int .u64 0, .int .u64 0, .int .u64 0, .int .u64 0] by unfold arr4; rw [pn3 0 (by omega), pn3 1 (by omega), pn3 2 (by omega), pn3 3 (by omega)]; rfl] at fp
    have HLG := Lib.hid (fun (W : World) (hA : TblAt W B S3) (hT : Tab W) => tb_Legal HD.out HI3.out hA hT)
    rw [lg] at HLG
    have qe : ∀ w, Sem.run Tryd.prog (Op.equalIn 10000 29 (.agg #[.int .u64 0, .int .u64 0, .int .u64 0, .int .u64 0]) (.agg #[.int .u64 0, .int .u64 0, .int .u64 0, .int .u64 0])) w = .ok true w := fun w => eq_deal0 (fun _ => 0) w
    have us : IntKind.u8.wrap (13 * (u : Int)) = ((13 * u : Nat) : Int) := by rw [IntKind.wrap_u8]; omega
    have sh := sm_shl u hu4
    have hws := w64_52 (sm_lt hu4)
    have HCD : Hid (canD (d L) u req = if (if req then land (d L) (sm u) else landn (d L) (sm u)) = 0 then d L else if req then land (d L) (sm u) else landn (d L) (sm u)) := Lib.hid rfl
    clear i3 e3 e4 lg hSA pn3 hqu
    go_wp2_with fail
    refine (tq_Demand HD.out HI2.out HR8.out (by omega) HE3.out).mono ?_
    rintro e w9 ⟨rfl, hr, hk⟩
    have HB9 := Lib.hid (HB8.out.trans (hk.toBelow HBR.out HB8.out.size))
    have HD9 := Lib.hid (HD8.out.kept (show bd ≠ B by have := HNDR.out; omega) hk)
    have HR9 := Lib.hid hr
    have HT9 := Lib.hid (HT0.out.below HT0.out.pos HB9.out)
    clear hr hk
    go_wp2_with fail
    refine (tb_State HD.out HI3.out HR9.out HSA.out).mono ?_
    rintro e w10 ⟨rfl, hb⟩
    have HB10 := Lib.hid (HB9.out.trans (hb.mono HB9.out.size))
    have HD10 := Lib.hid (HD9.out.below HD9.out.lt hb)
    have HR10 := Lib.hid (HR9.out.below HR9.out.lt hb)
    have HT10 := Lib.hid (HT0.out.below HT0.out.pos HB10.out)
    clear hb
    go_wp2_with fail
    refine (tq_Demand HD.out HI3.out HR10.out (by omega) HE4.out).mono ?_
    rintro e w11 ⟨rfl, hr, hk⟩
    have HB11 := Lib.hid (HB10.out.trans (hk.toBelow HBR.out HB10.out.size))
    have HD11 := Lib.hid (HD10.out.kept (show bd ≠ B by have := HNDR.out; omega) hk)
    have HR11 := Lib.hid hr
    have HT11 := Lib.hid (HT0.out.below HT0.out.pos HB11.out)
    clear hr hk
    have cL : w11.cell? ⟨bd, L, none⟩ = some (.int .u64 (d L : Int)) := (HD11.out.cell L).trans dL
    go_upto_region 15 with fail
    rw [sh]
    clear us sh su1 su2
    generalize sm u = M at *
    have hwa : W64 (land (d L) M) := hwL.land
    have hwb : W64 (landn (d L) M) := hwL.landn
    cases req
    · simp only [Bool.false_eq_true, if_false] at HCD
      by_cases hz : landn (d L) M = 0
      · rw [if_pos hz] at HCD
        have z : (((landn (d L) M : Nat) : Int) == 0) = true := by rw [beq_iff_eq]; omega
        clear hz
        rw [HCD.out] at HLG
        go_wp2_with fail
        refine (HLG.out w11 HR11.out HT11.out).mono ?_
        rintro e w12 ⟨rfl, hb⟩
        go_wp2_with fail
        go_ret
        exact ⟨rfl, HB11.out.trans (hb.mono HB11.out.size)⟩
      · rw [if_neg hz] at HCD
        have z : (((landn (d L) M : Nat) : Int) == 0) = false := by rw [beq_eq_false_iff_ne]; omega
        clear hz
        rw [HCD.out] at HLG
        go_wp2_with fail
        refine (HLG.out w11 HR11.out HT11.out).mono ?_
        rintro e w12 ⟨rfl, hb⟩
        go_wp2_with fail
        go_ret
        exact ⟨rfl, HB11.out.trans (hb.mono HB11.out.size)⟩
    · simp only [if_true] at HCD
      by_cases hz : land (d L) M = 0
      · rw [if_pos hz] at HCD
        have z : (((land (d L) M : Nat) : Int) == 0) = true := by rw [beq_iff_eq]; omega
        clear hz
        rw [HCD.out] at HLG
        go_wp2_with fail
        refine (HLG.out w11 HR11.out HT11.out).mono ?_
        rintro e w12 ⟨rfl, hb⟩
        go_wp2_with fail
        go_ret
        exact ⟨rfl, HB11.out.trans (hb.mono HB11.out.size)⟩
      · rw [if_neg hz] at HCD
        have z : (((land (d L) M : Nat) : Int) == 0) = false := by rw [beq_eq_false_iff_ne]; omega
        clear hz
        rw [HCD.out] at HLG
        go_wp2_with fail
        refine (HLG.out w11 HR11.out HT11.out).mono ?_
        rintro e w12 ⟨rfl, hb⟩
        go_wp2_with fail
        go_ret
        exact ⟨rfl, HB11.out.trans (hb.mono HB11.out.size)⟩
end Go.Proofs.YtgnlmodaekfhfaaDoor
