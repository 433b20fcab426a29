/- finesselaw14.LeadChoices over this seat's program. -/
import Derived.Test.YtgnlmodaekfhfaaDoorMLdr
import Derived.Deep.Cut
import Derived.Deep.CutRange
namespace Go.Proofs.YtgnlmodaekfhfaaDoor
open Go.RowKit Go.Shelf Go.Sort

set_option maxHeartbeats 4000000 in
set_option maxRecDepth 10000 in
theorem law_LeadChoices (x : Sk) (ao : Option Addr) (lo co : Nat) (al : Option Addr) (ll cl : Nat) (zs : List AcT) (seat card bit : Nat) (w : World) (hx0 : x.size < 256) (hx1 : x.trumps < 256) (hx2 : x.decl < 256) (hz : Byt w ao lo x.order) (hzl : Acts w al ll zs) (hll : ll ≤ cl) (hb1 : seat < 256) (hb2 : card < 256) (hb3 : bit < 256) (hT : Tab w) :
    Calls Tryd.prog 6 #[.agg (x.cells ao lo co), .slice al ll cl, .int .u8 (seat : Int), .int .u8 (card : Int), .int .u8 (bit : Int)] w fun e w' => e = .returned (.bool true) ∧ Below w.heap.size w w' := by
  have HT0 := Lib.hid hT
  have hd := x.deal
  have HMK := Lib.hid (fun (W : World) (hb : Below w.heap.size w W) => law_Made x ao lo co W (hz.below (Nat.le_refl _) hb) hx0 hx1 hx2)
  obtain ⟨tm, htm⟩ : ∃ tm, x.trumps % 5 = tm := ⟨_, rfl⟩
  obtain ⟨dc, hdc⟩ : ∃ dc, x.decl % 4 = dc := ⟨_, rfl⟩
  have htm4 : tm ≤ 4 := by omega
  have hdc4 : dc < 4 := by omega
  rw [htm, hdc] at HMK
  have hnle := x.n_le.2
  have hw64 := x.w64
  generalize x.h = d at *
  generalize x.n = n at *
  have HD := Lib.hid hd
  have HW64 := Lib.hid (fun (i : Nat) (hi : i < 4) => w64_52 (hd.lt i hi))
  obtain ⟨DA, hDA⟩ : ∃ DA, DA = arr4 d := ⟨_, rfl⟩
  have HDA := Lib.hid hDA
  have HDZ : Hid ((Tryd.prog.info? 29).map (·.size) = some DA.size ∧ DA.size = 4 ∧ DA.all (·.oneCell') = true) := Lib.hid (by rw [hDA]; exact ⟨size_deal14, rfl, by simp [arr4, Value.oneCell']⟩)
  rw [← hDA] at HMK
  obtain ⟨XC, hXC⟩ : ∃ XC, XC = x.cells ao lo co := ⟨_, rfl⟩
  have HXZ : Hid ((Tryd.prog.info? 24).map (·.size) = some XC.size) := Lib.hid (by rw [hXC]; exact size_sk14)
  rw [← hXC] at HMK ⊢
  clear hXC hDA hT hz htm hdc hd
  have HNW := Lib.hid (fun W => ld_New_ok HD.out hw64 tm dc htm4 (by omega) W)
  have hda : #[.int .u64 (d 0 : Int), .int .u64 (d 1 : Int), .int .u64 (d 2 : Int), .int .u64 (d 3 : Int)] = DA := HDA.out.symm
  rw [hda] at HNW
  clear hda hw64
  have i0 := SInv.new HD.out (tm := tm) (dc := dc) htm4 hdc4
  obtain ⟨S0, hS0⟩ : ∃ S0, St.new d tm dc = S0 := ⟨_, rfl⟩
  rw [hS0] at i0 HNW
  have HI0 := Lib.hid i0
  clear i0 hS0
  have HAC := Lib.hid hzl
  have hlen := hzl.length
  have hsmall := hzl.small
  clear hzl
  have hb0 := (Below.refl w.heap.size w).alloc (Nat.le_refl _) (.cells XC 24)
  have hx0' : Row (w.alloc (.cells XC 24)) w.heap.size 24 XC := Row.new _ _ _
  go_enter Tryd.func6, Tryd.ntmps6
  go_upto_region 1 with fail
  generalize w.alloc (.cells XC 24) = w0 at *
  obtain ⟨bx, hbx⟩ : ∃ bx, w.heap.size = bx := ⟨_, rfl⟩
  have HB0 := Lib.hid hb0
  have HX0 := Lib.hid hx0'
  rw [hbx] at HX0
  have HBX := Lib.hid hbx
  clear hb0 hx0'
  rw [hbx]
  clear hbx
  have HT1 := Lib.hid (HT0.out.below HT0.out.pos HB0.out)
  go_wp2_with fail
  refine (law_awake14 _ HT1.out).mono ?_
  rintro e w1 ⟨rfl, hb⟩
  have HB1 := Lib.hid (HB0.out.trans (hb.mono HB0.out.size))
  have HX1 := Lib.hid (HX0.out.below HX0.out.lt hb)
  clear hb
  go_wp2_with (refine wpList_load_row rfl 24 (.tmp 5) rfl bx rfl 24 XC (0, 0) _ HX1.out Tryd.underlying24 rfl HXZ.out ?_)
  refine (HMK.out w1 HB1.out).mono ?_
  rintro e w2 ⟨rfl, hb⟩
  have HB2 := Lib.hid (HB1.out.trans (hb.mono HB1.out.size))
  clear hb
  go_upto_region 4 with (refine wpList_store_row rfl 29 (.tmp 11) (.tmp 32) rfl w2.heap.size DA rfl rfl 29 _ (Row.new _ _ _) HDZ.out.1 (by rw [HDZ.out.2.1]; rfl) HDZ.out.2.2 ?_)
  have hb3 := below_setRow (HB2.out.alloc HB2.out.size (.cells #[.int .u64 0, .int .u64 0, .int .u64 0, .int .u64 0] 29)) HB2.out.size DA
  have hr3 : Row ((w2.alloc (.cells #[.int .u64 0, .int .u64 0, .int .u64 0, .int .u64 0] 29)).setRow w2.heap.size DA) w2.heap.size 29 DA := setRow_heap _ _ _ _ _ _ (Row.new _ _ _)
  generalize (w2.alloc (.cells #[.int .u64 0, .int .u64 0, .int .u64 0, .int .u64 0] 29)).setRow w2.heap.size DA = w3 at *
  obtain ⟨bd, hbd⟩ : ∃ bd, w2.heap.size = bd := ⟨_, rfl⟩
  have HBD : Hid (w.heap.size ≤ bd) := Lib.hid (by rw [← hbd]; exact HB2.out.size)
  rw [hbd] at hr3 ⊢
  have HB3 := Lib.hid hb3
  have HD3 := Lib.hid hr3
  have HT3 := Lib.hid (HT0.out.below HT0.out.pos HB3.out)
  clear hb3 hr3 hbd
  go_wp2_with (refine wpList_load_row rfl 29 (.tmp 11) rfl bd rfl 29 DA (0, 0) _ HD3.out Tryd.underlying29 rfl HDZ.out.1 ?_)
  refine (HNW.out w3).mono ?_
  rintro e w4 ⟨B, rfl, hBB, hr, hb⟩
  have HBR : Hid (w.heap.size ≤ B) := Lib.hid (Nat.le_trans HB3.out.size hBB)
  have HNDR : Hid (bd < B) := Lib.hid (Nat.lt_of_lt_of_le HD3.out.lt hBB)
  have HB4 := Lib.hid (HB3.out.trans (hb.mono HB3.out.size))
  have HR4 := Lib.hid hr
  have HD4 := Lib.hid (HD3.out.below HD3.out.lt hb)
  have HT4 := Lib.hid (HT0.out.below HT0.out.pos HB4.out)
  clear hb hr hBB
  obtain ⟨m, hm⟩ : ∃ m, m = min ll 30 := ⟨_, rfl⟩
  have hm1 : m ≤ ll := by omega
  have hm2 : m ≤ 30 := by omega
  have hmc : (m : Int) ≤ (cl : Int) := by omega
  have hm0 : (0 : Int) ≤ (m : Int) := by omega
  have hmI : (if (30 : Int) < (ll : Int) then (30 : Int) else (ll : Int)) = (m : Int) := by split <;> omega
  have HM := Lib.hid hm
  clear hm
  go_upto_region 8 with fail
  clear hmI
  go_loopw [54] (fun i wr => ∃ k : Nat, k ≤ m ∧ i = .int .i64 (k : Int) ∧ TblAt wr B (runV S0 (zs.take k)) ∧ Below w.heap.size w wr) (fun i _ => m - (intOf i).toNat)
  case atStart => exact ⟨0, by omega, rfl, HR4.out, HB4.out⟩
  case round =>
    obtain ⟨k, hk, rfl, hr, hB⟩ := hrel
    by_cases hlt : k < m
    · have hkl : k < zs.length := by omega
      have hse : runV S0 (zs.take (k + 1)) = (doesV (runV S0 (zs.take k)) zs[k]).1.1 := runV_take S0 zs k hkl
      have HSE := Lib.hid hse
      have hix := SInv.run HD.out (zs.take k) S0 HI0.out
      generalize runV S0 (zs.take k) = s at *
      have hak : zs[k]? = some zs[k] := List.getElem?_eq_getElem hkl
      have hok := HAC.out.ok k _ hak
      obtain ⟨ba, off, hal, hba, hcc⟩ : ∃ b off, al = some ⟨b, off, none⟩ ∧ b < w.heap.size ∧ ∀ (i : Nat) x, zs[i]? = some x → ∀ j, j < 3 → w.cell? ⟨b, off + i * 3 + j, none⟩ = x.cells[j]? := by
        rcases HAC.out.cells with h0 | h
        · omega
        · exact h
      subst hal
      have hc0 := hcc k _ hak
      obtain ⟨a, ha⟩ : ∃ a, a = zs[k] := ⟨_, rfl⟩
      rw [← ha] at hok hc0 HSE
      have HA := Lib.hid ha
      have HIX := Lib.hid hix
      have HOK := Lib.hid hok
      have hbc : ∀ j, j < 3 → wr.cell? ⟨ba, off + k * 3 + j, none⟩ = a.cells[j]? := fun j hj => (World.cell?_of_block (a := ⟨ba, off + k * 3 + j, none⟩) (hB.block ba hba)).trans (hc0 j hj)
      have c0 := hbc 0 (by omega)
      have c1 := hbc 1 (by omega)
      have c2 := hbc 2 (by omega)
      simp only [List.getElem?_toArray, List.getElem?_cons_zero, List.getElem?_cons_succ, Nat.add_zero] at c0 c1 c2
      have hkm : (k : Int) < (m : Int) := by omega
      clear hak hcc hc0 hbc ha hix hok hse
      have hW5 := hB.alloc hB.size (.cells a.cells 41)
      have hR5 := hr.alloc (.cells a.cells 41)
      go_upto_region 10 with fail
      have hRA : Row (wr.alloc (.cells a.cells 41)) wr.heap.size 41 a.cells := Row.new _ _ _
      generalize wr.alloc (.cells a.cells 41) = w5 at *
      clear c0 c1 c2
      have d0 := hRA.cell 0
      have d1 := hRA.cell 1
      have d2 := hRA.cell 2
      simp only [List.getElem?_toArray, List.getElem?_cons_zero, List.getElem?_cons_succ] at d0 d1 d2
      go_wp2_with fail
      refine (law_does HD.out HIX.out HOK.out hR5 (HT0.out.below HT0.out.pos hW5)).mono ?_
      rintro e w6 ⟨rfl, hr6, hk6⟩
      have hB6 := hW5.trans (hk6.toBelow HBR.out hW5.size)
      rw [← HSE.out] at hr6
      go_wp2_with fail
      go_roundw
      case rel => exact ⟨k + 1, by omega, by go_num, hr6, hB6⟩
      case measure => simp [intOf]; omega
    · have hkm : k = m := by omega
      subst hkm
      have hi1 := SInv.run HD.out (zs.take k) S0 HI0.out
      generalize runV S0 (zs.take k) = s0 at *
      have HI1 := Lib.hid hi1
      have HR5 := Lib.hid hr
      have HB5 := Lib.hid hB
      clear hi1 hr hB hlt hk hmc hm0 hll
      go_wp2_with fail
      go_loopw [62] (fun i wr => ∃ k : Nat, k ≤ 4 ∧ i = .int .i64 (k : Int) ∧ TblAt wr B (rndsV s0 card k) ∧ Below w.heap.size w wr) (fun i _ => 4 - (intOf i).toNat)
      case atStart => exact ⟨0, by omega, rfl, HR5.out, HB5.out⟩
      case round =>
        obtain ⟨k, hk, rfl, hr, hB⟩ := hrel
        by_cases hlt : k < 4
        · have hix := SInv.rnds HD.out HI1.out card k
          have hse : rndsV s0 card (k + 1) = rndV (rndsV s0 card k) card := rfl
          have HSE := Lib.hid hse
          clear hse
          generalize rndsV s0 card k = s at *
          have HIX := Lib.hid hix
          have HHR := Lib.hid hr
          have HHB := Lib.hid hB
          clear hix hr hB
          go_wp2_with fail
          refine (tb_Choose HD.out HIX.out HHR.out 1).mono ?_
          rintro e w6 ⟨rfl, hr, hkp⟩
          have HB6 := Lib.hid (HHB.out.trans (hkp.toBelow HBR.out HHB.out.size))
          have HR6 := Lib.hid hr
          have hi6 := HIX.out.choose HD.out 1
          have hsd : rndV s card = if 0 < (s.chooseV 1).1.ct then ((s.chooseV 1).1.playV (nthV (s.chooseV 1).1.legal card)).1 else (s.chooseV 1).1 := rfl
          have HSD := Lib.hid hsd
          clear hr hkp hsd
          generalize (s.chooseV 1).2 = e1 at *
          generalize (s.chooseV 1).1 = t at *
          have HI6 := Lib.hid hi6
          obtain ⟨SA, hSA⟩ : ∃ SA, SA = t.cells := ⟨_, rfl⟩
          have fc := fld_ct t hSA
          have HSA := Lib.hid hSA
          clear hSA hi6
          go_wp2_with fail
          refine (tb_State HD.out HI6.out HR6.out HSA.out).mono ?_
          rintro e w7 ⟨rfl, hb⟩
          have HB7 := Lib.hid (HB6.out.trans (hb.mono HB6.out.size))
          have HR7 := Lib.hid (HR6.out.below HR6.out.lt hb)
          have HT7 := Lib.hid (HT0.out.below HT0.out.pos HB7.out)
          clear hb
          by_cases hct : 0 < t.ct
          · rw [if_pos hct] at HSD
            have hwl := legal_w64 HI6.out.ok
            have HLG := Lib.hid (tb_Legal HD.out HI6.out HR7.out HT7.out)
            have HNN := Lib.hid (fun W => law_nth t.legal card hwl hb2 W)
            obtain ⟨cc, hcc⟩ : ∃ cc, nthV t.legal card = cc := ⟨_, rfl⟩
            rw [hcc] at HNN HSD
            clear hcc
            generalize t.legal = lg at *
            generalize t.ct = ct at *
            go_wp2_with fail
            refine HLG.out.mono ?_
            rintro e w8 ⟨rfl, hb⟩
            have HB8 := Lib.hid (HB7.out.trans (hb.mono HB7.out.size))
            have HR8 := Lib.hid (HR7.out.below HR7.out.lt hb)
            clear hb
            go_wp2_with fail
            refine (HNN.out w8).mono ?_
            rintro e w9 ⟨rfl, hb⟩
            have HB9 := Lib.hid (HB8.out.trans (hb.mono HB8.out.size))
            have HR9 := Lib.hid (HR8.out.below HR8.out.lt hb)
            have HT9 := Lib.hid (HT0.out.below HT0.out.pos HB9.out)
            clear hb
            go_wp2_with fail
            refine (tb_Play HD.out HI6.out HR9.out HT9.out cc).mono ?_
            rintro e w10 ⟨rfl, hr, hkp⟩
            have hB10 := HB9.out.trans (hkp.toBelow HBR.out HB9.out.size)
            go_wp2_with fail
            go_roundw
            case rel => exact ⟨k + 1, by omega, by go_num, by rw [HSE.out, HSD.out]; exact hr, hB10⟩
            case measure => simp [intOf]; omega
          · rw [if_neg hct] at HSD
            generalize t.ct = ct at *
            go_wp2_with fail
            go_roundw
            case rel => exact ⟨k + 1, by omega, by go_num, by rw [HSE.out, HSD.out]; exact HR7.out, HB7.out⟩
            case measure => simp [intOf]; omega
        · obtain rfl : k = 4 := by omega
          have hi6 := SInv.rnds HD.out HI1.out card 4
          have hp6 : (rndsV s0 card 4).pend = false := rnd_pend (SInv.rnds HD.out HI1.out card 3) card
          generalize rndsV s0 card 4 = s at *
          have HI6 := Lib.hid hi6
          have HP6 := Lib.hid hp6
          have HR6 := Lib.hid hr
          have HB6 := Lib.hid hB
          clear hi6 hp6 hr hB hlt hk
          obtain ⟨SA, hSA⟩ : ∃ SA, SA = s.cells := ⟨_, rfl⟩
          have HZ : Hid ((Tryd.prog.info? 45).map (·.size) = some SA.size ∧ SA.size = 24 ∧ SA.all (·.oneCell') = true) := Lib.hid (by rw [hSA]; exact ⟨size_st, rfl, by simp [Value.oneCell']⟩)
          have HSA := Lib.hid hSA
          clear hSA
          go_wp2_with fail
          refine (tb_State HD.out HI6.out HR6.out HSA.out).mono ?_
          rintro e w7 ⟨rfl, hb⟩
          have HB7 := Lib.hid (HB6.out.trans (hb.mono HB6.out.size))
          have HR7 := Lib.hid (HR6.out.below HR6.out.lt hb)
          clear hb
          go_upto_region 19 with (refine wpList_store_row rfl 45 (.tmp 18) (.tmp 78) rfl w7.heap.size SA rfl rfl 45 _ (Row.new _ _ _) HZ.out.1 (by rw [HZ.out.2.1]; rfl) HZ.out.2.2 ?_)
          have hb8 := below_setRow ((Below.refl w7.heap.size w7).alloc (Nat.le_refl _) (.cells zst 45)) (Nat.le_refl _) SA
          have hr8 : Row ((w7.alloc (.cells zst 45)).setRow w7.heap.size SA) w7.heap.size 45 SA := setRow_heap _ _ _ _ _ _ (Row.new _ _ _)
          change Code.wp _ _ _ _ ((w7.alloc (.cells zst 45)).setRow w7.heap.size SA)
          generalize (w7.alloc (.cells zst 45)).setRow w7.heap.size SA = w8 at *
          have HB8 := Lib.hid (HB7.out.trans (hb8.mono HB7.out.size))
          have HR8 := Lib.hid (HR7.out.below HR7.out.lt hb8)
          have HNSB : Hid (w7.heap.size ≠ B) := Lib.hid (by have := HR7.out.lt; omega)
          have HS8 := Lib.hid hr8
          obtain ⟨bs, hbs⟩ : ∃ bs, w7.heap.size = bs := ⟨_, rfl⟩
          rw [hbs] at HS8 HNSB ⊢
          clear hb8 hr8 hbs
          obtain ⟨q, hq⟩ : ∃ q, seat % 4 = q := ⟨_, rfl⟩
          have hq4 : q < 4 := by omega
          have s1 : ((seat : Int)).tmod 4 = (q : Int) := by rw [Int.tmod_eq_emod_of_nonneg (by omega)]; omega
          have s2 : IntKind.u8.wrap (q : Int) = (q : Int) := by rw [IntKind.wrap_u8]; omega
          have hqI : (q : Int) < 4 := by omega
          have hwq := w64_52 (HI6.out.ok.h q hq4)
          have HNN := Lib.hid (fun W => law_nth (s.h q) card hwq hb2 W)
          obtain ⟨c, hc⟩ : ∃ c, nthV (s.h q) card = c := ⟨_, rfl⟩
          rw [hc] at HNN
          have HC := Lib.hid hc
          have ch : w8.cell? ⟨bs, q, none⟩ = some (.int .u64 (s.h q : Int)) := by rw [HS8.out.cell, HSA.out, st_hget s q hq4]
          clear hq hc
          go_wp2_with fail
          refine (HNN.out w8).mono ?_
          rintro e w9 ⟨rfl, hb⟩
          have HB9 := Lib.hid (HB8.out.trans (hb.mono HB8.out.size))
          have HR9 := Lib.hid (HR8.out.below HR8.out.lt hb)
          have HS9 := Lib.hid (HS8.out.below HS8.out.lt hb)
          clear hb ch s1 s2
          have c10 : w9.cell? ⟨bs, 10, none⟩ = some (.int .u8 (s.ld : Int)) := by rw [HS9.out.cell, HSA.out]; rfl
          have c11 : w9.cell? ⟨bs, 11, none⟩ = some (.int .u8 (s.ct : Int)) := by rw [HS9.out.cell, HSA.out]; rfl
          have c18 : w9.cell? ⟨bs, 18, none⟩ = some (.bool false) := by rw [HS9.out.cell, HSA.out, ← HP6.out]; rfl
          have HCO := Lib.hid (fun (W : World) (hA : TblAt W B s) => tb_Choices HD.out HI6.out hA)
          rw [(ch_out HP6.out).1] at HCO
          have HXO := Lib.hid ((ch_out HP6.out).2 bit)
          by_cases hct : 0 < s.ct
          · have HCT := Lib.hid hct
            generalize s.ct = ct at *
            skip
            go_wp2_with fail
            refine (HCO.out w9 HR9.out).mono ?_
            rintro e w10 ⟨rfl, hb⟩
            have HB10 := Lib.hid (HB9.out.trans (hb.mono HB9.out.size))
            have HR10 := Lib.hid (HR9.out.below HR9.out.lt hb)
            clear hb
            go_wp2_with fail
            refine (tq_Choose (choice := bit) HD.out HI6.out HR10.out HXO.out).mono ?_
            rintro e w11 ⟨rfl, hr, hkp⟩
            have hB11 := HB10.out.trans (hkp.toBelow HBR.out HB10.out.size)
            go_wp2_with fail
            go_ret
            exact ⟨rfl, hB11⟩
          have hct0 : s.ct = 0 := by omega
          rw [hct0] at c11
          by_cases hql : q = s.ld
          · have hqb : ((q : Int) == (s.ld : Int)) = true := by rw [beq_iff_eq]; omega
            clear hql hct
            skip
            go_wp2_with fail
            refine (HCO.out w9 HR9.out).mono ?_
            rintro e w10 ⟨rfl, hb⟩
            have HB10 := Lib.hid (HB9.out.trans (hb.mono HB9.out.size))
            have HR10 := Lib.hid (HR9.out.below HR9.out.lt hb)
            clear hb
            go_wp2_with fail
            refine (tq_Choose (choice := bit) HD.out HI6.out HR10.out HXO.out).mono ?_
            rintro e w11 ⟨rfl, hr, hkp⟩
            have hB11 := HB10.out.trans (hkp.toBelow HBR.out HB10.out.size)
            go_wp2_with fail
            go_ret
            exact ⟨rfl, hB11⟩
          have hqb : ((q : Int) == (s.ld : Int)) = false := by rw [beq_eq_false_iff_ne]; omega
          by_cases hc255 : c = 255
          · have hcb : ((c : Int) == 255) = true := by rw [beq_iff_eq]; omega
            clear hc255 hct hql
            skip
            go_wp2_with fail
            refine (HCO.out w9 HR9.out).mono ?_
            rintro e w10 ⟨rfl, hb⟩
            have HB10 := Lib.hid (HB9.out.trans (hb.mono HB9.out.size))
            have HR10 := Lib.hid (HR9.out.below HR9.out.lt hb)
            clear hb
            go_wp2_with fail
            refine (tq_Choose (choice := bit) HD.out HI6.out HR10.out HXO.out).mono ?_
            rintro e w11 ⟨rfl, hr, hkp⟩
            have hB11 := HB10.out.trans (hkp.toBelow HBR.out HB10.out.size)
            go_wp2_with fail
            go_ret
            exact ⟨rfl, hB11⟩
          have hcb : ((c : Int) == 255) = false := by rw [beq_eq_false_iff_ne]; omega
          have hdq : s.h q ≠ 0 := by
            intro e
            have := HC.out
            rw [e, nthV_nil] at this
            exact hc255 this.symm
          have hbit : (s.h q).testBit c = true := by rw [← HC.out]; exact nthV_bit hwq hdq card
          have hc52 : c < 52 := HI6.out.toSCore.bit52 hq4 hbit
          have hl : s.leadV q c = (s.outT q c, 0) := lead_out HI6.out HP6.out hct0 hq4 hbit hql
          have i1 := HI6.out.lead HD.out q c
          rw [hl] at i1
          have hld := HI6.out.ok.ld
          have HCV := Lib.hid (out_choices (s := s) hct0 hld hq4 c)
          have HCC := Lib.hid (fun (k : Nat) (hk : k < 8) => out_choose (s := s) hct0 hld hq4 c k hk)
          have HBC := Lib.hid (fun (k : Nat) (hk : k < 6) => out_became (s := s) (c := c) hct0 hq4 hk)
          obtain ⟨np, nl, nd, nlg⟩ := out_no s q c
          obtain ⟨S1, hS1⟩ : ∃ S1, S1 = s.outT q c := ⟨_, rfl⟩
          rw [← hS1] at hl i1 HCV HCC HBC np nl nd nlg
          have HP1 : Hid (S1.pend = true) := Lib.hid (by rw [hS1])
          have HL := Lib.hid hl
          have HI1' := Lib.hid i1
          have HNP := Lib.hid np
          have HNL := Lib.hid nl
          have HND := Lib.hid nd
          have HBIT := Lib.hid hbit
          have HCT0 := Lib.hid hct0
          have HLG := Lib.hid (fun (W : World) (hA : TblAt W B S1) (hT : Tab W) => tb_Legal HD.out HI1'.out hA hT)
          rw [nlg] at HLG
          clear hS1 hl i1 np nl nd nlg hc255 hql hct hct0 hdq hbit hwq
          have HT9 := Lib.hid (HT0.out.below HT0.out.pos HB9.out)
          go_wp2_with fail
          refine (tq_Lead HD.out HI6.out HR9.out HT9.out (by omega) HL.out).mono ?_
          rintro e w10 ⟨rfl, hr, hk⟩
          have HB10 := Lib.hid (HB9.out.trans (hk.toBelow HBR.out HB9.out.size))
          have HR10 := Lib.hid hr
          have HS10 := Lib.hid (HS9.out.kept (show bs ≠ B from HNSB.out) hk)
          have HT10 := Lib.hid (HT0.out.below HT0.out.pos HB10.out)
          clear hr hk c10 c11 c18
          go_wp2_with fail
          refine (tq_Play HD.out HI1'.out HR10.out HT10.out (HNP.out c)).mono ?_
          rintro e w11 ⟨rfl, hr, hk⟩
          have HB11 := Lib.hid (HB10.out.trans (hk.toBelow HBR.out HB10.out.size))
          have HR11 := Lib.hid hr
          have HS11 := Lib.hid (HS10.out.kept (show bs ≠ B from HNSB.out) hk)
          have HT11 := Lib.hid (HT0.out.below HT0.out.pos HB11.out)
          clear hr hk
          go_wp2_with fail
          refine (tq_Lead HD.out HI1'.out HR11.out HT11.out (by omega) (HNL.out q c)).mono ?_
          rintro e w12 ⟨rfl, hr, hk⟩
          have HB12 := Lib.hid (HB11.out.trans (hk.toBelow HBR.out HB11.out.size))
          have HR12 := Lib.hid hr
          have HS12 := Lib.hid (HS11.out.kept (show bs ≠ B from HNSB.out) hk)
          clear hr hk
          go_wp2_with fail
          refine (tq_Demand (suit := 0) (req := true) HD.out HI1'.out HR12.out (by omega) (HND.out 0 true)).mono ?_
          rintro e w13 ⟨rfl, hr, hk⟩
          have HB13 := Lib.hid (HB12.out.trans (hk.toBelow HBR.out HB12.out.size))
          have HR13 := Lib.hid hr
          have HS13 := Lib.hid (HS12.out.kept (show bs ≠ B from HNSB.out) hk)
          have HT13 := Lib.hid (HT0.out.below HT0.out.pos HB13.out)
          clear hr hk
          go_wp2_with fail
          refine (HLG.out w13 HR13.out HT13.out).mono ?_
          rintro e w14 ⟨rfl, hb⟩
          have HB14 := Lib.hid (HB13.out.trans (hb.mono HB13.out.size))
          have HR14 := Lib.hid (HR13.out.below HR13.out.lt hb)
          have HS14 := Lib.hid (HS13.out.below HS13.out.lt hb)
          clear hb
          obtain ⟨df, hdf⟩ : ∃ df, (q % 2 != s.dc % 2) = df := ⟨_, rfl⟩
          obtain ⟨pt, hpt⟩ : ∃ pt, (q == (s.ld + 2) % 4) = pt := ⟨_, rfl⟩
          obtain ⟨op, hop⟩ : ∃ op, s.opn = op := ⟨_, rfl⟩
          rw [hdf, hpt, hop] at HCV HCC
          obtain ⟨q2, hq2⟩ : ∃ x, q % 2 = x := ⟨_, rfl⟩
          obtain ⟨d2, hd2⟩ : ∃ x, s.dc % 2 = x := ⟨_, rfl⟩
          obtain ⟨p2, hp2⟩ : ∃ x, (s.ld + 2) % 4 = x := ⟨_, rfl⟩
          rw [hq2, hd2] at hdf
          rw [hp2] at hpt
          have t1 : ((q : Int)).tmod 2 = (q2 : Int) := by rw [Int.tmod_eq_emod_of_nonneg (by omega)]; omega
          have t2 : IntKind.u8.wrap (q2 : Int) = (q2 : Int) := by rw [IntKind.wrap_u8]; omega
          have t3 : ((s.dc : Int)).tmod 2 = (d2 : Int) := by rw [Int.tmod_eq_emod_of_nonneg (by omega)]; omega
          have t4 : IntKind.u8.wrap (d2 : Int) = (d2 : Int) := by rw [IntKind.wrap_u8]; omega
          have t5 : IntKind.u8.wrap ((s.ld : Int) + 2) = (s.ld : Int) + 2 := by rw [IntKind.wrap_u8]; omega
          have t6 : ((s.ld : Int) + 2).tmod 4 = (p2 : Int) := by rw [Int.tmod_eq_emod_of_nonneg (by omega)]; omega
          have t7 : IntKind.u8.wrap (p2 : Int) = (p2 : Int) := by rw [IntKind.wrap_u8]; omega
          have t8 : ((q2 : Int) != (d2 : Int)) = df := by rw [← hdf]; exact bne_cast q2 d2
          have t9 : ((q : Int) == (p2 : Int)) = pt := by rw [← hpt]; exact beq_cast q p2
          have c9 : w14.cell? ⟨bs, 9, none⟩ = some (.int .u8 (s.dc : Int)) := by rw [HS14.out.cell, HSA.out]; rfl
          have c10 : w14.cell? ⟨bs, 10, none⟩ = some (.int .u8 (s.ld : Int)) := by rw [HS14.out.cell, HSA.out]; rfl
          have rc9 := fun dd os => cell_regrown c9 dd os
          have rc10 := fun dd os => cell_regrown c10 dd os
          have HOP := Lib.hid hop
          clear hdf hpt hop hq2 hd2 hp2
          go_wp2_with fail
          refine wp_region_quiet_below (by kernel_rfl) (by kernel_rfl) ?_
          repeat (quiet_step (fail))
          refine wpQuiet_nil ?_
          rintro _ ⟨y, rfl⟩
          have hb15 := below_regrown w14 y.d y.os
          generalize grow (redrawn w14 y.d) y.os = w15 at *
          have HB15 := Lib.hid (HB14.out.trans (hb15.mono HB14.out.size))
          have HR15 := Lib.hid (HR14.out.below HR14.out.lt hb15)
          have HS15 := Lib.hid (HS14.out.below HS14.out.lt hb15)
          clear hb15 rc9 rc10 c9 c10 t1 t2 t3 t4 t5 t6 t7 t8 t9
          go_upto_if 158 with fail
          obtain ⟨v1, hv1⟩ : ∃ v1, v1 = (if df then 5 else 3 : Nat) := ⟨_, rfl⟩
          obtain ⟨fp, hfp⟩ : ∃ fp, fp = (df && pt) := ⟨_, rfl⟩
          obtain ⟨fo, hfo⟩ : ∃ fo, fo = (df && op) := ⟨_, rfl⟩
          obtain ⟨v2, hv2⟩ : ∃ v2, v2 = v1 + (if fp then 24 else 0 : Nat) := ⟨_, rfl⟩
          have HFP := Lib.hid hfp
          have HFO := Lib.hid hfo
          obtain ⟨v3, hv3⟩ : ∃ v3, v3 = wantV df pt op := ⟨_, rfl⟩
          have HV1 := Lib.hid hv1
          have HV2 := Lib.hid hv2
          have HV3 := Lib.hid hv3
          clear hv1 hv2 hv3 hfp hfo
          go_cut [22] from 159 to 162 (fun v wx => v = .int .u8 (v1 : Int) ∧ wx = w15)
          case first =>
            cases df
            all_goals
              go_wp2_with fail
              go_meet
              exact ⟨by rw [HV1.out]; rfl, rfl⟩
          obtain ⟨rfl, rfl⟩ := hcut
          go_upto_region 30 with fail
          go_cut [166] from 163 to 165 (fun v wx => v = .bool fp ∧ wx = wc)
          case first =>
            cases df
            all_goals
              go_wp2_with fail
              go_meet
              exact ⟨by rw [HFP.out]; rfl, rfl⟩
          obtain ⟨rfl, rfl⟩ := hcut
          go_upto_if 166 with fail
          go_cut [22] from 167 to 168 (fun v wx => v = .int .u8 (v2 : Int) ∧ wx = wc)
          case first =>
            have h1 : v1 = 5 ∨ v1 = 3 := by rw [HV1.out]; cases df <;> simp
            have H1 := Lib.hid h1
            clear h1
            cases fp
            all_goals
              go_wp2_with fail
              go_meet
              refine ⟨?_, rfl⟩
              have h2 := HV2.out
              rcases H1.out with h1 | h1 <;> (rw [h2, h1]; rfl)
          obtain ⟨rfl, rfl⟩ := hcut
          have c19 : wc.cell? ⟨bs, 19, none⟩ = some (.bool op) := by rw [HS15.out.cell, HSA.out, ← HOP.out]; rfl
          go_upto_region 32 with fail
          go_cut [173] from 169 to 172 (fun v wx => v = .bool fo ∧ wx = wc)
          case first =>
            cases df
            all_goals
              go_wp2_with fail
              go_meet
              exact ⟨by rw [HFO.out]; rfl, rfl⟩
          obtain ⟨rfl, rfl⟩ := hcut
          clear c19
          go_upto_if 173 with fail
          go_cut [22] from 174 to 175 (fun v wx => v = .int .u8 (v3 : Int) ∧ wx = wc)
          case first =>
            have h1 : v1 = 5 ∨ v1 = 3 := by rw [HV1.out]; cases df <;> simp
            have H1 := Lib.hid h1
            clear h1
            have h3 : v3 = v2 + if fo then 32 else 0 := by rw [HV3.out, HV2.out, HV1.out, HFP.out, HFO.out]; rfl
            have H3 := Lib.hid h3
            have h2 : v2 = v1 + if fp then 24 else 0 := HV2.out
            have H2 := Lib.hid h2
            clear h3 h2
            cases fo
            all_goals
              go_wp2_with fail
              go_meet
              refine ⟨?_, rfl⟩
              have h3 := H3.out
              have h2 := H2.out
              cases fp <;> rcases H1.out with h1 | h1 <;> (rw [h3, h2, h1]; rfl)
          obtain ⟨rfl, rfl⟩ := hcut
          obtain ⟨kb, hkb⟩ : ∃ kb, bit % 8 = kb := ⟨_, rfl⟩
          have hkb8 : kb < 8 := by omega
          have hc256 : (c : Int) < 256 := by omega
          have HHS := Lib.hid (fun (j : Nat) (hj : j < 4) => st_hget s j hj)
          rcases (show kb = 0 ∨ kb = 1 ∨ kb = 2 ∨ kb = 3 ∨ kb = 4 ∨ kb = 5 ∨ kb = 6 ∨ kb = 7 by omega) with rfl | rfl | rfl | rfl | rfl | rfl | rfl | rfl
          · have t1 : ((bit : Int)).tmod 8 = 0 := by rw [Int.tmod_eq_emod_of_nonneg (by omega)]; omega
            obtain ⟨z, hz0⟩ : ∃ z, v3 &&& 1 = z := ⟨_, rfl⟩
            have hze : z = ((wantV df pt op).testBit 0).toNat * 2 ^ 0 := by rw [← hz0, HV3.out]; exact and_two_pow _ 0
            have hband : bits .and .u8 (v3 : Int) 1 = (z : Int) := by
              have h := run_and8 v3 1 (by rw [HV3.out]; have := want_lt df pt op; omega) (by decide)
              rw [intBits_and] at h
              injection h with h
              injection h with _ h
              rw [← hz0]; exact h
            clear hz0 hkb
            have hce := HCC.out 0 (by omega)
            cases hmb : mayB df pt op 0
            · rw [hmb] at hce
              have HCE := Lib.hid (show S1.chooseV 1 = (S1, 143) by rw [hce]; rfl)
              have hz : ¬ 0 < z := by rw [hze, want_bit df pt op 0 (by omega), hmb]; simp
              have HZ' := Lib.hid hz
              clear hce hze hmb
              obtain ⟨SB, hSB⟩ : ∃ SB, SB = S1.cells := ⟨_, rfl⟩
              have HZB : Hid ((Tryd.prog.info? 45).map (·.size) = some SB.size ∧ SB.size = 24 ∧ SB.all (·.oneCell') = true) := Lib.hid (by rw [hSB]; exact ⟨size_st, rfl, by simp [Value.oneCell']⟩)
              have HSB := Lib.hid hSB
              clear hSB
              go_wp2_with fail
              refine (tq_Choose (choice := 1) HD.out HI1'.out HR15.out HCE.out).mono ?_
              rintro e w16 ⟨rfl, hr, hkp⟩
              have HB16 := Lib.hid (HB15.out.trans (hkp.toBelow HBR.out HB15.out.size))
              have HR16 := Lib.hid hr
              clear hr hkp
              go_wp2_with fail
              refine (tb_State HD.out HI1'.out HR16.out HSB.out).mono ?_
              rintro e w17 ⟨rfl, hb⟩
              have HB17 := Lib.hid (HB16.out.trans (hb.mono HB16.out.size))
              have HR17 := Lib.hid (HR16.out.below HR16.out.lt hb)
              clear hb
              go_upto_region 37 with (refine wpList_store_row rfl 45 (.tmp 24) (.tmp 183) rfl w17.heap.size SB rfl rfl 45 _ (Row.new _ _ _) HZB.out.1 (by rw [HZB.out.2.1]; rfl) HZB.out.2.2 ?_)
              have hb18 := below_setRow ((Below.refl w17.heap.size w17).alloc (Nat.le_refl _) (.cells zst 45)) (Nat.le_refl _) SB
              have hr18 : Row ((w17.alloc (.cells zst 45)).setRow w17.heap.size SB) w17.heap.size 45 SB := setRow_heap _ _ _ _ _ _ (Row.new _ _ _)
              change Code.wp _ _ _ _ ((w17.alloc (.cells zst 45)).setRow w17.heap.size SB)
              generalize (w17.alloc (.cells zst 45)).setRow w17.heap.size SB = w18 at *
              have HB18 := Lib.hid (HB17.out.trans (hb18.mono HB17.out.size))
              have HR18 := Lib.hid (HR17.out.below HR17.out.lt hb18)
              obtain ⟨bi, hbi⟩ : ∃ bi, w17.heap.size = bi := ⟨_, rfl⟩
              rw [hbi] at hr18 ⊢
              have HSI := Lib.hid hr18
              clear hb18 hr18 hbi
              have HCH := Lib.hid (fun (W : World) (hA : TblAt W B S1) => tb_Choices HD.out HI1'.out hA)
              rw [HCV.out, ← HV3.out] at HCH
              go_wp2_with fail
              refine (HCH.out w18 HR18.out).mono ?_
              rintro e w19 ⟨rfl, hb⟩
              have HB19 := Lib.hid (HB18.out.trans (hb.mono HB18.out.size))
              have c18 : w19.cell? ⟨bi, 18, none⟩ = some (.bool true) := by rw [(HSI.out.below HSI.out.lt hb).cell, HSB.out, ← HP1.out]; rfl
              clear hb
              go_wp2_with fail
              go_ret
              exact ⟨rfl, HB19.out⟩
            · rw [hmb] at hce
              have hz : 0 < z := by rw [hze, want_bit df pt op 0 (by omega), hmb]; decide
              obtain ⟨t, ht⟩ : ∃ t, t = (S1.act 0).done := ⟨_, rfl⟩
              have hbec := HBC.out 0 (by omega)
              rw [← ht] at hbec
              have hce' : S1.chooseV 1 = (t, 0) := by rw [hce, ht]; rfl
              have HCE := Lib.hid hce'
              have hit := HI1'.out.choose HD.out 1
              rw [hce'] at hit
              have HIT := Lib.hid hit
              have HBE := Lib.hid hbec
              have hq9 := hbec.pend
              clear hce hze hmb hce' hit ht hbec
              obtain ⟨SB, hSB⟩ : ∃ SB, SB = t.cells := ⟨_, rfl⟩
              have HZB : Hid ((Tryd.prog.info? 45).map (·.size) = some SB.size ∧ SB.size = 24 ∧ SB.all (·.oneCell') = true) := Lib.hid (by rw [hSB]; exact ⟨size_st, rfl, by simp [Value.oneCell']⟩)
              have HSB := Lib.hid hSB
              clear hSB
              go_wp2_with fail
              refine (tq_Choose (choice := 1) HD.out HI1'.out HR15.out HCE.out).mono ?_
              rintro e w16 ⟨rfl, hr, hkp⟩
              have HB16 := Lib.hid (HB15.out.trans (hkp.toBelow HBR.out HB15.out.size))
              have HR16 := Lib.hid hr
              have HS16 := Lib.hid (HS15.out.kept (show bs ≠ B from HNSB.out) hkp)
              clear hr hkp
              go_wp2_with fail
              refine (tb_State HD.out HIT.out HR16.out HSB.out).mono ?_
              rintro e w17 ⟨rfl, hb⟩
              have HB17 := Lib.hid (HB16.out.trans (hb.mono HB16.out.size))
              have HS17 := Lib.hid (HS16.out.below HS16.out.lt hb)
              clear hb
              go_upto_region 37 with (refine wpList_store_row rfl 45 (.tmp 24) (.tmp 183) rfl w17.heap.size SB rfl rfl 45 _ (Row.new _ _ _) HZB.out.1 (by rw [HZB.out.2.1]; rfl) HZB.out.2.2 ?_)
              have hb18 := below_setRow ((Below.refl w17.heap.size w17).alloc (Nat.le_refl _) (.cells zst 45)) (Nat.le_refl _) SB
              have hr18 : Row ((w17.alloc (.cells zst 45)).setRow w17.heap.size SB) w17.heap.size 45 SB := setRow_heap _ _ _ _ _ _ (Row.new _ _ _)
              change Code.wp _ _ _ _ ((w17.alloc (.cells zst 45)).setRow w17.heap.size SB)
              generalize (w17.alloc (.cells zst 45)).setRow w17.heap.size SB = w18 at *
              have HB18 := Lib.hid (HB17.out.trans (hb18.mono HB17.out.size))
              have HS18 := Lib.hid (HS17.out.below HS17.out.lt hb18)
              obtain ⟨bi, hbi⟩ : ∃ bi, w17.heap.size = bi := ⟨_, rfl⟩
              rw [hbi] at hr18 ⊢
              have HSI := Lib.hid hr18
              clear hb18 hr18 hbi
              have i0 : w18.cell? ⟨bi, 0, none⟩ = some (.int .u64 (t.h 0 : Int)) := by rw [HSI.out.cell, HSB.out]; rfl
              have j0 : w18.cell? ⟨bs, 0, none⟩ = some (.int .u64 (s.h 0 : Int)) := by rw [HS18.out.cell, HSA.out]; rfl
              have p0 : w18.cell? ⟨bs, 4, none⟩ = some (.int .u64 (s.pn 0 : Int)) := by rw [HS18.out.cell, HSA.out]; rfl
              have i1 : w18.cell? ⟨bi, 1, none⟩ = some (.int .u64 (t.h 1 : Int)) := by rw [HSI.out.cell, HSB.out]; rfl
              have j1 : w18.cell? ⟨bs, 1, none⟩ = some (.int .u64 (s.h 1 : Int)) := by rw [HS18.out.cell, HSA.out]; rfl
              have p1 : w18.cell? ⟨bs, 5, none⟩ = some (.int .u64 (s.pn 1 : Int)) := by rw [HS18.out.cell, HSA.out]; rfl
              have i2 : w18.cell? ⟨bi, 2, none⟩ = some (.int .u64 (t.h 2 : Int)) := by rw [HSI.out.cell, HSB.out]; rfl
              have j2 : w18.cell? ⟨bs, 2, none⟩ = some (.int .u64 (s.h 2 : Int)) := by rw [HS18.out.cell, HSA.out]; rfl
              have p2 : w18.cell? ⟨bs, 6, none⟩ = some (.int .u64 (s.pn 2 : Int)) := by rw [HS18.out.cell, HSA.out]; rfl
              have i3 : w18.cell? ⟨bi, 3, none⟩ = some (.int .u64 (t.h 3 : Int)) := by rw [HSI.out.cell, HSB.out]; rfl
              have j3 : w18.cell? ⟨bs, 3, none⟩ = some (.int .u64 (s.h 3 : Int)) := by rw [HS18.out.cell, HSA.out]; rfl
              have p3 : w18.cell? ⟨bs, 7, none⟩ = some (.int .u64 (s.pn 3 : Int)) := by rw [HS18.out.cell, HSA.out]; rfl
              have i18 : w18.cell? ⟨bi, 18, none⟩ = some (.bool false) := by rw [HSI.out.cell, HSB.out, ← hq9]; rfl
              have qe := fun w => eq_deal14 9998 t.h s.h w
              have hth : t.h q ≠ s.h q := by have h := HBE.out.h; rw [if_pos (by decide)] at h; rw [h]; exact outH_ne (by omega) HBIT.out
              rw [ne_four hq4 hth] at qe
              clear hth hq9
              have hdcb : ((t.dc : Int) == (s.dc : Int)) = true := by rw [HBE.out.dc rfl]; simp
              go_upto_region 43 with fail
              have hbp := (Below.refl w18.heap.size w18).alloc (Nat.le_refl _) (.cells (arr4 s.pn) 29)
              have HSI' := Lib.hid (HSI.out.below HSI.out.lt hbp)
              have HS18' := Lib.hid (HS18.out.below HS18.out.lt hbp)
              have HB20 := Lib.hid (HB18.out.trans (hbp.mono HB18.out.size))
              clear i0 i1 i2 i3 j0 j1 j2 j3 p0 p1 p2 p3 i18 hbp qe
              generalize w18.alloc (.cells (arr4 s.pn) 29) = w20 at *
              have i9 : w20.cell? ⟨bi, 9, none⟩ = some (.int .u8 (t.dc : Int)) := by rw [HSI'.out.cell, HSB.out]; rfl
              have j9 : w20.cell? ⟨bs, 9, none⟩ = some (.int .u8 (s.dc : Int)) := by rw [HS18'.out.cell, HSA.out]; rfl
              have i18 : w20.cell? ⟨bi, 18, none⟩ = some (.bool false) := by rw [HSI'.out.cell, HSB.out, ← HBE.out.pend]; rfl
              go_wp2_with fail
              go_ret
              exact ⟨rfl, HB20.out⟩
          · have t1 : ((bit : Int)).tmod 8 = 1 := by rw [Int.tmod_eq_emod_of_nonneg (by omega)]; omega
            obtain ⟨z, hz0⟩ : ∃ z, v3 &&& 2 = z := ⟨_, rfl⟩
            have hze : z = ((wantV df pt op).testBit 1).toNat * 2 ^ 1 := by rw [← hz0, HV3.out]; exact and_two_pow _ 1
            have hband : bits .and .u8 (v3 : Int) 2 = (z : Int) := by
              have h := run_and8 v3 2 (by rw [HV3.out]; have := want_lt df pt op; omega) (by decide)
              rw [intBits_and] at h
              injection h with h
              injection h with _ h
              rw [← hz0]; exact h
            clear hz0 hkb
            have hce := HCC.out 1 (by omega)
            cases hmb : mayB df pt op 1
            · rw [hmb] at hce
              have HCE := Lib.hid (show S1.chooseV 2 = (S1, 143) by rw [hce]; rfl)
              have hz : ¬ 0 < z := by rw [hze, want_bit df pt op 1 (by omega), hmb]; simp
              have HZ' := Lib.hid hz
              clear hce hze hmb
              obtain ⟨SB, hSB⟩ : ∃ SB, SB = S1.cells := ⟨_, rfl⟩
              have HZB : Hid ((Tryd.prog.info? 45).map (·.size) = some SB.size ∧ SB.size = 24 ∧ SB.all (·.oneCell') = true) := Lib.hid (by rw [hSB]; exact ⟨size_st, rfl, by simp [Value.oneCell']⟩)
              have HSB := Lib.hid hSB
              clear hSB
              go_wp2_with fail
              refine (tq_Choose (choice := 2) HD.out HI1'.out HR15.out HCE.out).mono ?_
              rintro e w16 ⟨rfl, hr, hkp⟩
              have HB16 := Lib.hid (HB15.out.trans (hkp.toBelow HBR.out HB15.out.size))
              have HR16 := Lib.hid hr
              clear hr hkp
              go_wp2_with fail
              refine (tb_State HD.out HI1'.out HR16.out HSB.out).mono ?_
              rintro e w17 ⟨rfl, hb⟩
              have HB17 := Lib.hid (HB16.out.trans (hb.mono HB16.out.size))
              have HR17 := Lib.hid (HR16.out.below HR16.out.lt hb)
              clear hb
              go_upto_region 37 with (refine wpList_store_row rfl 45 (.tmp 24) (.tmp 183) rfl w17.heap.size SB rfl rfl 45 _ (Row.new _ _ _) HZB.out.1 (by rw [HZB.out.2.1]; rfl) HZB.out.2.2 ?_)
              have hb18 := below_setRow ((Below.refl w17.heap.size w17).alloc (Nat.le_refl _) (.cells zst 45)) (Nat.le_refl _) SB
              have hr18 : Row ((w17.alloc (.cells zst 45)).setRow w17.heap.size SB) w17.heap.size 45 SB := setRow_heap _ _ _ _ _ _ (Row.new _ _ _)
              change Code.wp _ _ _ _ ((w17.alloc (.cells zst 45)).setRow w17.heap.size SB)
              generalize (w17.alloc (.cells zst 45)).setRow w17.heap.size SB = w18 at *
              have HB18 := Lib.hid (HB17.out.trans (hb18.mono HB17.out.size))
              have HR18 := Lib.hid (HR17.out.below HR17.out.lt hb18)
              obtain ⟨bi, hbi⟩ : ∃ bi, w17.heap.size = bi := ⟨_, rfl⟩
              rw [hbi] at hr18 ⊢
              have HSI := Lib.hid hr18
              clear hb18 hr18 hbi
              have HCH := Lib.hid (fun (W : World) (hA : TblAt W B S1) => tb_Choices HD.out HI1'.out hA)
              rw [HCV.out, ← HV3.out] at HCH
              go_wp2_with fail
              refine (HCH.out w18 HR18.out).mono ?_
              rintro e w19 ⟨rfl, hb⟩
              have HB19 := Lib.hid (HB18.out.trans (hb.mono HB18.out.size))
              have c18 : w19.cell? ⟨bi, 18, none⟩ = some (.bool true) := by rw [(HSI.out.below HSI.out.lt hb).cell, HSB.out, ← HP1.out]; rfl
              clear hb
              go_wp2_with fail
              go_ret
              exact ⟨rfl, HB19.out⟩
            · rw [hmb] at hce
              have hz : 0 < z := by rw [hze, want_bit df pt op 1 (by omega), hmb]; decide
              obtain ⟨t, ht⟩ : ∃ t, t = (S1.act 1).done := ⟨_, rfl⟩
              have hbec := HBC.out 1 (by omega)
              rw [← ht] at hbec
              have hce' : S1.chooseV 2 = (t, 0) := by rw [hce, ht]; rfl
              have HCE := Lib.hid hce'
              have hit := HI1'.out.choose HD.out 2
              rw [hce'] at hit
              have HIT := Lib.hid hit
              have HBE := Lib.hid hbec
              have hq9 := hbec.pend
              clear hce hze hmb hce' hit ht hbec
              obtain ⟨SB, hSB⟩ : ∃ SB, SB = t.cells := ⟨_, rfl⟩
              have HZB : Hid ((Tryd.prog.info? 45).map (·.size) = some SB.size ∧ SB.size = 24 ∧ SB.all (·.oneCell') = true) := Lib.hid (by rw [hSB]; exact ⟨size_st, rfl, by simp [Value.oneCell']⟩)
              have HSB := Lib.hid hSB
              clear hSB
              go_wp2_with fail
              refine (tq_Choose (choice := 2) HD.out HI1'.out HR15.out HCE.out).mono ?_
              rintro e w16 ⟨rfl, hr, hkp⟩
              have HB16 := Lib.hid (HB15.out.trans (hkp.toBelow HBR.out HB15.out.size))
              have HR16 := Lib.hid hr
              have HS16 := Lib.hid (HS15.out.kept (show bs ≠ B from HNSB.out) hkp)
              clear hr hkp
              go_wp2_with fail
              refine (tb_State HD.out HIT.out HR16.out HSB.out).mono ?_
              rintro e w17 ⟨rfl, hb⟩
              have HB17 := Lib.hid (HB16.out.trans (hb.mono HB16.out.size))
              have HS17 := Lib.hid (HS16.out.below HS16.out.lt hb)
              clear hb
              go_upto_region 37 with (refine wpList_store_row rfl 45 (.tmp 24) (.tmp 183) rfl w17.heap.size SB rfl rfl 45 _ (Row.new _ _ _) HZB.out.1 (by rw [HZB.out.2.1]; rfl) HZB.out.2.2 ?_)
              have hb18 := below_setRow ((Below.refl w17.heap.size w17).alloc (Nat.le_refl _) (.cells zst 45)) (Nat.le_refl _) SB
              have hr18 : Row ((w17.alloc (.cells zst 45)).setRow w17.heap.size SB) w17.heap.size 45 SB := setRow_heap _ _ _ _ _ _ (Row.new _ _ _)
              change Code.wp _ _ _ _ ((w17.alloc (.cells zst 45)).setRow w17.heap.size SB)
              generalize (w17.alloc (.cells zst 45)).setRow w17.heap.size SB = w18 at *
              have HB18 := Lib.hid (HB17.out.trans (hb18.mono HB17.out.size))
              have HS18 := Lib.hid (HS17.out.below HS17.out.lt hb18)
              obtain ⟨bi, hbi⟩ : ∃ bi, w17.heap.size = bi := ⟨_, rfl⟩
              rw [hbi] at hr18 ⊢
              have HSI := Lib.hid hr18
              clear hb18 hr18 hbi
              have i0 : w18.cell? ⟨bi, 0, none⟩ = some (.int .u64 (t.h 0 : Int)) := by rw [HSI.out.cell, HSB.out]; rfl
              have j0 : w18.cell? ⟨bs, 0, none⟩ = some (.int .u64 (s.h 0 : Int)) := by rw [HS18.out.cell, HSA.out]; rfl
              have p0 : w18.cell? ⟨bs, 4, none⟩ = some (.int .u64 (s.pn 0 : Int)) := by rw [HS18.out.cell, HSA.out]; rfl
              have i1 : w18.cell? ⟨bi, 1, none⟩ = some (.int .u64 (t.h 1 : Int)) := by rw [HSI.out.cell, HSB.out]; rfl
              have j1 : w18.cell? ⟨bs, 1, none⟩ = some (.int .u64 (s.h 1 : Int)) := by rw [HS18.out.cell, HSA.out]; rfl
              have p1 : w18.cell? ⟨bs, 5, none⟩ = some (.int .u64 (s.pn 1 : Int)) := by rw [HS18.out.cell, HSA.out]; rfl
              have i2 : w18.cell? ⟨bi, 2, none⟩ = some (.int .u64 (t.h 2 : Int)) := by rw [HSI.out.cell, HSB.out]; rfl
              have j2 : w18.cell? ⟨bs, 2, none⟩ = some (.int .u64 (s.h 2 : Int)) := by rw [HS18.out.cell, HSA.out]; rfl
              have p2 : w18.cell? ⟨bs, 6, none⟩ = some (.int .u64 (s.pn 2 : Int)) := by rw [HS18.out.cell, HSA.out]; rfl
              have i3 : w18.cell? ⟨bi, 3, none⟩ = some (.int .u64 (t.h 3 : Int)) := by rw [HSI.out.cell, HSB.out]; rfl
              have j3 : w18.cell? ⟨bs, 3, none⟩ = some (.int .u64 (s.h 3 : Int)) := by rw [HS18.out.cell, HSA.out]; rfl
              have p3 : w18.cell? ⟨bs, 7, none⟩ = some (.int .u64 (s.pn 3 : Int)) := by rw [HS18.out.cell, HSA.out]; rfl
              have i18 : w18.cell? ⟨bi, 18, none⟩ = some (.bool false) := by rw [HSI.out.cell, HSB.out, ← hq9]; rfl
              have qe := fun w => eq_deal14 9998 t.h s.h w
              have hth : t.h = s.h := by have h := HBE.out.h; rwa [if_neg (by decide)] at h
              rw [eq_four hth] at qe
              clear hth hq9
              go_upto_region 43 with fail
              have hbp := (Below.refl w18.heap.size w18).alloc (Nat.le_refl _) (.cells (arr4 s.pn) 29)
              have hrp : Row (w18.alloc (.cells (arr4 s.pn) 29)) w18.heap.size 29 (arr4 s.pn) := Row.new _ _ _
              have HSIl := Lib.hid HSI.out.lt
              have HS18l := Lib.hid HS18.out.lt
              have HSI' := Lib.hid (HSI.out.below HSI.out.lt hbp)
              have HS18' := Lib.hid (HS18.out.below HS18.out.lt hbp)
              have HB20 := Lib.hid (HB18.out.trans (hbp.mono HB18.out.size))
              clear i0 j0 p0 i1 j1 p1 i2 j2 p2 i3 j3 p3 i18 hbp qe
              generalize w18.alloc (.cells (arr4 s.pn) 29) = w20 at *
              have HBI : Hid (bi ≠ w18.heap.size ∧ bs ≠ w18.heap.size ∧ w.heap.size ≤ w18.heap.size) := Lib.hid ⟨by have := HSIl.out; omega, by have := HS18l.out; omega, HB18.out.size⟩
              obtain ⟨bp, hbp⟩ : ∃ bp, w18.heap.size = bp := ⟨_, rfl⟩
              rw [hbp] at hrp HBI ⊢
              have HRP := Lib.hid hrp
              clear hrp hbp
              have hpn : t.pn = s.pn := by have h := HBE.out.pn (by decide) (by decide); rwa [if_neg (by decide)] at h
              have HRP2 : Hid (Row w20 bp 29 (arr4 t.pn)) := Lib.hid (by rw [hpn]; exact HRP.out)
              have HSI2 := HSI'
              have HS2 := HS18'
              have HB21 := HB20
              clear hpn
              obtain ⟨w21, hw21⟩ : ∃ w21, w20 = w21 := ⟨_, rfl⟩
              rw [hw21] at HRP2 HSI2 HS2 HB21 ⊢
              clear hw21
              have i0 : w21.cell? ⟨bi, 4, none⟩ = some (.int .u64 (t.pn 0 : Int)) := by rw [HSI2.out.cell, HSB.out]; rfl
              have p0 : w21.cell? ⟨bp, 0, none⟩ = some (.int .u64 (t.pn 0 : Int)) := by rw [HRP2.out.cell]; rfl
              have i1 : w21.cell? ⟨bi, 5, none⟩ = some (.int .u64 (t.pn 1 : Int)) := by rw [HSI2.out.cell, HSB.out]; rfl
              have p1 : w21.cell? ⟨bp, 1, none⟩ = some (.int .u64 (t.pn 1 : Int)) := by rw [HRP2.out.cell]; rfl
              have i2 : w21.cell? ⟨bi, 6, none⟩ = some (.int .u64 (t.pn 2 : Int)) := by rw [HSI2.out.cell, HSB.out]; rfl
              have p2 : w21.cell? ⟨bp, 2, none⟩ = some (.int .u64 (t.pn 2 : Int)) := by rw [HRP2.out.cell]; rfl
              have i3 : w21.cell? ⟨bi, 7, none⟩ = some (.int .u64 (t.pn 3 : Int)) := by rw [HSI2.out.cell, HSB.out]; rfl
              have p3 : w21.cell? ⟨bp, 3, none⟩ = some (.int .u64 (t.pn 3 : Int)) := by rw [HRP2.out.cell]; rfl
              have i18 : w21.cell? ⟨bi, 18, none⟩ = some (.bool false) := by rw [HSI2.out.cell, HSB.out, ← HBE.out.pend]; rfl
              have i10 : w21.cell? ⟨bi, 10, none⟩ = some (.int .u8 (s.ld : Int)) := by rw [HSI2.out.cell, HSB.out, ← HBE.out.ld (by decide) (by decide)]; rfl
              have j10 : w21.cell? ⟨bs, 10, none⟩ = some (.int .u8 (s.ld : Int)) := by rw [HS2.out.cell, HSA.out]; rfl
              have qe := fun w => eq_deal14 9998 t.pn t.pn w
              rw [eq_four rfl] at qe
              go_wp2_with fail
              go_ret
              exact ⟨rfl, HB21.out⟩
          · have t1 : ((bit : Int)).tmod 8 = 2 := by rw [Int.tmod_eq_emod_of_nonneg (by omega)]; omega
            obtain ⟨z, hz0⟩ : ∃ z, v3 &&& 4 = z := ⟨_, rfl⟩
            have hze : z = ((wantV df pt op).testBit 2).toNat * 2 ^ 2 := by rw [← hz0, HV3.out]; exact and_two_pow _ 2
            have hband : bits .and .u8 (v3 : Int) 4 = (z : Int) := by
              have h := run_and8 v3 4 (by rw [HV3.out]; have := want_lt df pt op; omega) (by decide)
              rw [intBits_and] at h
              injection h with h
              injection h with _ h
              rw [← hz0]; exact h
            clear hz0 hkb
            have hce := HCC.out 2 (by omega)
            cases hmb : mayB df pt op 2
            · rw [hmb] at hce
              have HCE := Lib.hid (show S1.chooseV 4 = (S1, 143) by rw [hce]; rfl)
              have hz : ¬ 0 < z := by rw [hze, want_bit df pt op 2 (by omega), hmb]; simp
              have HZ' := Lib.hid hz
              clear hce hze hmb
              obtain ⟨SB, hSB⟩ : ∃ SB, SB = S1.cells := ⟨_, rfl⟩
              have HZB : Hid ((Tryd.prog.info? 45).map (·.size) = some SB.size ∧ SB.size = 24 ∧ SB.all (·.oneCell') = true) := Lib.hid (by rw [hSB]; exact ⟨size_st, rfl, by simp [Value.oneCell']⟩)
              have HSB := Lib.hid hSB
              clear hSB
              go_wp2_with fail
              refine (tq_Choose (choice := 4) HD.out HI1'.out HR15.out HCE.out).mono ?_
              rintro e w16 ⟨rfl, hr, hkp⟩
              have HB16 := Lib.hid (HB15.out.trans (hkp.toBelow HBR.out HB15.out.size))
              have HR16 := Lib.hid hr
              clear hr hkp
              go_wp2_with fail
              refine (tb_State HD.out HI1'.out HR16.out HSB.out).mono ?_
              rintro e w17 ⟨rfl, hb⟩
              have HB17 := Lib.hid (HB16.out.trans (hb.mono HB16.out.size))
              have HR17 := Lib.hid (HR16.out.below HR16.out.lt hb)
              clear hb
              go_upto_region 37 with (refine wpList_store_row rfl 45 (.tmp 24) (.tmp 183) rfl w17.heap.size SB rfl rfl 45 _ (Row.new _ _ _) HZB.out.1 (by rw [HZB.out.2.1]; rfl) HZB.out.2.2 ?_)
              have hb18 := below_setRow ((Below.refl w17.heap.size w17).alloc (Nat.le_refl _) (.cells zst 45)) (Nat.le_refl _) SB
              have hr18 : Row ((w17.alloc (.cells zst 45)).setRow w17.heap.size SB) w17.heap.size 45 SB := setRow_heap _ _ _ _ _ _ (Row.new _ _ _)
              change Code.wp _ _ _ _ ((w17.alloc (.cells zst 45)).setRow w17.heap.size SB)
              generalize (w17.alloc (.cells zst 45)).setRow w17.heap.size SB = w18 at *
              have HB18 := Lib.hid (HB17.out.trans (hb18.mono HB17.out.size))
              have HR18 := Lib.hid (HR17.out.below HR17.out.lt hb18)
              obtain ⟨bi, hbi⟩ : ∃ bi, w17.heap.size = bi := ⟨_, rfl⟩
              rw [hbi] at hr18 ⊢
              have HSI := Lib.hid hr18
              clear hb18 hr18 hbi
              have HCH := Lib.hid (fun (W : World) (hA : TblAt W B S1) => tb_Choices HD.out HI1'.out hA)
              rw [HCV.out, ← HV3.out] at HCH
              go_wp2_with fail
              refine (HCH.out w18 HR18.out).mono ?_
              rintro e w19 ⟨rfl, hb⟩
              have HB19 := Lib.hid (HB18.out.trans (hb.mono HB18.out.size))
              have c18 : w19.cell? ⟨bi, 18, none⟩ = some (.bool true) := by rw [(HSI.out.below HSI.out.lt hb).cell, HSB.out, ← HP1.out]; rfl
              clear hb
              go_wp2_with fail
              go_ret
              exact ⟨rfl, HB19.out⟩
            · rw [hmb] at hce
              have hz : 0 < z := by rw [hze, want_bit df pt op 2 (by omega), hmb]; decide
              obtain ⟨t, ht⟩ : ∃ t, t = (S1.act 2).done := ⟨_, rfl⟩
              have hbec := HBC.out 2 (by omega)
              rw [← ht] at hbec
              have hce' : S1.chooseV 4 = (t, 0) := by rw [hce, ht]; rfl
              have HCE := Lib.hid hce'
              have hit := HI1'.out.choose HD.out 4
              rw [hce'] at hit
              have HIT := Lib.hid hit
              have HBE := Lib.hid hbec
              have hq9 := hbec.pend
              clear hce hze hmb hce' hit ht hbec
              obtain ⟨SB, hSB⟩ : ∃ SB, SB = t.cells := ⟨_, rfl⟩
              have HZB : Hid ((Tryd.prog.info? 45).map (·.size) = some SB.size ∧ SB.size = 24 ∧ SB.all (·.oneCell') = true) := Lib.hid (by rw [hSB]; exact ⟨size_st, rfl, by simp [Value.oneCell']⟩)
              have HSB := Lib.hid hSB
              clear hSB
              go_wp2_with fail
              refine (tq_Choose (choice := 4) HD.out HI1'.out HR15.out HCE.out).mono ?_
              rintro e w16 ⟨rfl, hr, hkp⟩
              have HB16 := Lib.hid (HB15.out.trans (hkp.toBelow HBR.out HB15.out.size))
              have HR16 := Lib.hid hr
              have HS16 := Lib.hid (HS15.out.kept (show bs ≠ B from HNSB.out) hkp)
              clear hr hkp
              go_wp2_with fail
              refine (tb_State HD.out HIT.out HR16.out HSB.out).mono ?_
              rintro e w17 ⟨rfl, hb⟩
              have HB17 := Lib.hid (HB16.out.trans (hb.mono HB16.out.size))
              have HS17 := Lib.hid (HS16.out.below HS16.out.lt hb)
              clear hb
              go_upto_region 37 with (refine wpList_store_row rfl 45 (.tmp 24) (.tmp 183) rfl w17.heap.size SB rfl rfl 45 _ (Row.new _ _ _) HZB.out.1 (by rw [HZB.out.2.1]; rfl) HZB.out.2.2 ?_)
              have hb18 := below_setRow ((Below.refl w17.heap.size w17).alloc (Nat.le_refl _) (.cells zst 45)) (Nat.le_refl _) SB
              have hr18 : Row ((w17.alloc (.cells zst 45)).setRow w17.heap.size SB) w17.heap.size 45 SB := setRow_heap _ _ _ _ _ _ (Row.new _ _ _)
              change Code.wp _ _ _ _ ((w17.alloc (.cells zst 45)).setRow w17.heap.size SB)
              generalize (w17.alloc (.cells zst 45)).setRow w17.heap.size SB = w18 at *
              have HB18 := Lib.hid (HB17.out.trans (hb18.mono HB17.out.size))
              have HS18 := Lib.hid (HS17.out.below HS17.out.lt hb18)
              obtain ⟨bi, hbi⟩ : ∃ bi, w17.heap.size = bi := ⟨_, rfl⟩
              rw [hbi] at hr18 ⊢
              have HSI := Lib.hid hr18
              clear hb18 hr18 hbi
              have i0 : w18.cell? ⟨bi, 0, none⟩ = some (.int .u64 (t.h 0 : Int)) := by rw [HSI.out.cell, HSB.out]; rfl
              have j0 : w18.cell? ⟨bs, 0, none⟩ = some (.int .u64 (s.h 0 : Int)) := by rw [HS18.out.cell, HSA.out]; rfl
              have p0 : w18.cell? ⟨bs, 4, none⟩ = some (.int .u64 (s.pn 0 : Int)) := by rw [HS18.out.cell, HSA.out]; rfl
              have i1 : w18.cell? ⟨bi, 1, none⟩ = some (.int .u64 (t.h 1 : Int)) := by rw [HSI.out.cell, HSB.out]; rfl
              have j1 : w18.cell? ⟨bs, 1, none⟩ = some (.int .u64 (s.h 1 : Int)) := by rw [HS18.out.cell, HSA.out]; rfl
              have p1 : w18.cell? ⟨bs, 5, none⟩ = some (.int .u64 (s.pn 1 : Int)) := by rw [HS18.out.cell, HSA.out]; rfl
              have i2 : w18.cell? ⟨bi, 2, none⟩ = some (.int .u64 (t.h 2 : Int)) := by rw [HSI.out.cell, HSB.out]; rfl
              have j2 : w18.cell? ⟨bs, 2, none⟩ = some (.int .u64 (s.h 2 : Int)) := by rw [HS18.out.cell, HSA.out]; rfl
              have p2 : w18.cell? ⟨bs, 6, none⟩ = some (.int .u64 (s.pn 2 : Int)) := by rw [HS18.out.cell, HSA.out]; rfl
              have i3 : w18.cell? ⟨bi, 3, none⟩ = some (.int .u64 (t.h 3 : Int)) := by rw [HSI.out.cell, HSB.out]; rfl
              have j3 : w18.cell? ⟨bs, 3, none⟩ = some (.int .u64 (s.h 3 : Int)) := by rw [HS18.out.cell, HSA.out]; rfl
              have p3 : w18.cell? ⟨bs, 7, none⟩ = some (.int .u64 (s.pn 3 : Int)) := by rw [HS18.out.cell, HSA.out]; rfl
              have i18 : w18.cell? ⟨bi, 18, none⟩ = some (.bool false) := by rw [HSI.out.cell, HSB.out, ← hq9]; rfl
              have qe := fun w => eq_deal14 9998 t.h s.h w
              have hth : t.h = s.h := by have h := HBE.out.h; rwa [if_neg (by decide)] at h
              rw [eq_four hth] at qe
              clear hth hq9
              go_upto_region 43 with fail
              have hbp := (Below.refl w18.heap.size w18).alloc (Nat.le_refl _) (.cells (arr4 s.pn) 29)
              have hrp : Row (w18.alloc (.cells (arr4 s.pn) 29)) w18.heap.size 29 (arr4 s.pn) := Row.new _ _ _
              have HSIl := Lib.hid HSI.out.lt
              have HS18l := Lib.hid HS18.out.lt
              have HSI' := Lib.hid (HSI.out.below HSI.out.lt hbp)
              have HS18' := Lib.hid (HS18.out.below HS18.out.lt hbp)
              have HB20 := Lib.hid (HB18.out.trans (hbp.mono HB18.out.size))
              clear i0 j0 p0 i1 j1 p1 i2 j2 p2 i3 j3 p3 i18 hbp qe
              generalize w18.alloc (.cells (arr4 s.pn) 29) = w20 at *
              have HBI : Hid (bi ≠ w18.heap.size ∧ bs ≠ w18.heap.size ∧ w.heap.size ≤ w18.heap.size) := Lib.hid ⟨by have := HSIl.out; omega, by have := HS18l.out; omega, HB18.out.size⟩
              obtain ⟨bp, hbp⟩ : ∃ bp, w18.heap.size = bp := ⟨_, rfl⟩
              rw [hbp] at hrp HBI ⊢
              have HRP := Lib.hid hrp
              clear hrp hbp
              have hpq : w20.cell? ⟨bp, q, none⟩ = some (.int .u64 (s.pn q : Int)) := (HRP.out.cell q).trans (arr4_get s.pn q hq4)
              have hpf := HRP.out.frozen q
              have hwpn := w64_52 (HI6.out.ok.pn q hq4)
              have hc64 : (c : Int) < 64 := by omega
              go_upto_region 45 with fail
              have hpn : t.pn = setH s.pn q (lor (s.pn q) (shl1 c)) := by have h := HBE.out.pn (by decide) (by decide); rwa [if_pos rfl] at h
              have hrp2 := HRP.out.set q (.int .u64 ((lor (s.pn q) (shl1 c) : Nat) : Int))
              rw [arr4_set s.pn q _ hq4, ← hpn] at hrp2
              have HSI2 := Lib.hid (HSI'.out.other (B' := bp) (i := q) (v := .int .u64 ((lor (s.pn q) (shl1 c) : Nat) : Int)) HBI.out.1)
              have HS2 := Lib.hid (HS18'.out.other (B' := bp) (i := q) (v := .int .u64 ((lor (s.pn q) (shl1 c) : Nat) : Int)) HBI.out.2.1)
              have HB21 := Lib.hid (HB20.out.setCell (p := ⟨bp, q, none⟩) HBI.out.2.2 (.int .u64 ((lor (s.pn q) (shl1 c) : Nat) : Int)))
              have HRP2 := Lib.hid hrp2
              clear hrp2 hpn hpq hpf hwpn
              generalize w20.setCell ⟨bp, q, none⟩ (.int .u64 ((lor (s.pn q) (shl1 c) : Nat) : Int)) = w21 at *
              have i0 : w21.cell? ⟨bi, 4, none⟩ = some (.int .u64 (t.pn 0 : Int)) := by rw [HSI2.out.cell, HSB.out]; rfl
              have p0 : w21.cell? ⟨bp, 0, none⟩ = some (.int .u64 (t.pn 0 : Int)) := by rw [HRP2.out.cell]; rfl
              have i1 : w21.cell? ⟨bi, 5, none⟩ = some (.int .u64 (t.pn 1 : Int)) := by rw [HSI2.out.cell, HSB.out]; rfl
              have p1 : w21.cell? ⟨bp, 1, none⟩ = some (.int .u64 (t.pn 1 : Int)) := by rw [HRP2.out.cell]; rfl
              have i2 : w21.cell? ⟨bi, 6, none⟩ = some (.int .u64 (t.pn 2 : Int)) := by rw [HSI2.out.cell, HSB.out]; rfl
              have p2 : w21.cell? ⟨bp, 2, none⟩ = some (.int .u64 (t.pn 2 : Int)) := by rw [HRP2.out.cell]; rfl
              have i3 : w21.cell? ⟨bi, 7, none⟩ = some (.int .u64 (t.pn 3 : Int)) := by rw [HSI2.out.cell, HSB.out]; rfl
              have p3 : w21.cell? ⟨bp, 3, none⟩ = some (.int .u64 (t.pn 3 : Int)) := by rw [HRP2.out.cell]; rfl
              have i18 : w21.cell? ⟨bi, 18, none⟩ = some (.bool false) := by rw [HSI2.out.cell, HSB.out, ← HBE.out.pend]; rfl
              have i10 : w21.cell? ⟨bi, 10, none⟩ = some (.int .u8 (s.ld : Int)) := by rw [HSI2.out.cell, HSB.out, ← HBE.out.ld (by decide) (by decide)]; rfl
              have j10 : w21.cell? ⟨bs, 10, none⟩ = some (.int .u8 (s.ld : Int)) := by rw [HS2.out.cell, HSA.out]; rfl
              have qe := fun w => eq_deal14 9998 t.pn t.pn w
              rw [eq_four rfl] at qe
              go_wp2_with fail
              go_ret
              exact ⟨rfl, HB21.out⟩
          · have t1 : ((bit : Int)).tmod 8 = 3 := by rw [Int.tmod_eq_emod_of_nonneg (by omega)]; omega
            obtain ⟨z, hz0⟩ : ∃ z, v3 &&& 8 = z := ⟨_, rfl⟩
            have hze : z = ((wantV df pt op).testBit 3).toNat * 2 ^ 3 := by rw [← hz0, HV3.out]; exact and_two_pow _ 3
            have hband : bits .and .u8 (v3 : Int) 8 = (z : Int) := by
              have h := run_and8 v3 8 (by rw [HV3.out]; have := want_lt df pt op; omega) (by decide)
              rw [intBits_and] at h
              injection h with h
              injection h with _ h
              rw [← hz0]; exact h
            clear hz0 hkb
            have hce := HCC.out 3 (by omega)
            cases hmb : mayB df pt op 3
            · rw [hmb] at hce
              have HCE := Lib.hid (show S1.chooseV 8 = (S1, 143) by rw [hce]; rfl)
              have hz : ¬ 0 < z := by rw [hze, want_bit df pt op 3 (by omega), hmb]; simp
              have HZ' := Lib.hid hz
              clear hce hze hmb
              obtain ⟨SB, hSB⟩ : ∃ SB, SB = S1.cells := ⟨_, rfl⟩
              have HZB : Hid ((Tryd.prog.info? 45).map (·.size) = some SB.size ∧ SB.size = 24 ∧ SB.all (·.oneCell') = true) := Lib.hid (by rw [hSB]; exact ⟨size_st, rfl, by simp [Value.oneCell']⟩)
              have HSB := Lib.hid hSB
              clear hSB
              go_wp2_with fail
              refine (tq_Choose (choice := 8) HD.out HI1'.out HR15.out HCE.out).mono ?_
              rintro e w16 ⟨rfl, hr, hkp⟩
              have HB16 := Lib.hid (HB15.out.trans (hkp.toBelow HBR.out HB15.out.size))
              have HR16 := Lib.hid hr
              clear hr hkp
              go_wp2_with fail
              refine (tb_State HD.out HI1'.out HR16.out HSB.out).mono ?_
              rintro e w17 ⟨rfl, hb⟩
              have HB17 := Lib.hid (HB16.out.trans (hb.mono HB16.out.size))
              have HR17 := Lib.hid (HR16.out.below HR16.out.lt hb)
              clear hb
              go_upto_region 37 with (refine wpList_store_row rfl 45 (.tmp 24) (.tmp 183) rfl w17.heap.size SB rfl rfl 45 _ (Row.new _ _ _) HZB.out.1 (by rw [HZB.out.2.1]; rfl) HZB.out.2.2 ?_)
              have hb18 := below_setRow ((Below.refl w17.heap.size w17).alloc (Nat.le_refl _) (.cells zst 45)) (Nat.le_refl _) SB
              have hr18 : Row ((w17.alloc (.cells zst 45)).setRow w17.heap.size SB) w17.heap.size 45 SB := setRow_heap _ _ _ _ _ _ (Row.new _ _ _)
              change Code.wp _ _ _ _ ((w17.alloc (.cells zst 45)).setRow w17.heap.size SB)
              generalize (w17.alloc (.cells zst 45)).setRow w17.heap.size SB = w18 at *
              have HB18 := Lib.hid (HB17.out.trans (hb18.mono HB17.out.size))
              have HR18 := Lib.hid (HR17.out.below HR17.out.lt hb18)
              obtain ⟨bi, hbi⟩ : ∃ bi, w17.heap.size = bi := ⟨_, rfl⟩
              rw [hbi] at hr18 ⊢
              have HSI := Lib.hid hr18
              clear hb18 hr18 hbi
              have HCH := Lib.hid (fun (W : World) (hA : TblAt W B S1) => tb_Choices HD.out HI1'.out hA)
              rw [HCV.out, ← HV3.out] at HCH
              go_wp2_with fail
              refine (HCH.out w18 HR18.out).mono ?_
              rintro e w19 ⟨rfl, hb⟩
              have HB19 := Lib.hid (HB18.out.trans (hb.mono HB18.out.size))
              have c18 : w19.cell? ⟨bi, 18, none⟩ = some (.bool true) := by rw [(HSI.out.below HSI.out.lt hb).cell, HSB.out, ← HP1.out]; rfl
              clear hb
              go_wp2_with fail
              go_ret
              exact ⟨rfl, HB19.out⟩
            · rw [hmb] at hce
              have hz : 0 < z := by rw [hze, want_bit df pt op 3 (by omega), hmb]; decide
              obtain ⟨t, ht⟩ : ∃ t, t = (S1.act 3).done := ⟨_, rfl⟩
              have hbec := HBC.out 3 (by omega)
              rw [← ht] at hbec
              have hce' : S1.chooseV 8 = (t, 0) := by rw [hce, ht]; rfl
              have HCE := Lib.hid hce'
              have hit := HI1'.out.choose HD.out 8
              rw [hce'] at hit
              have HIT := Lib.hid hit
              have HBE := Lib.hid hbec
              have hq9 := hbec.pend
              clear hce hze hmb hce' hit ht hbec
              obtain ⟨SB, hSB⟩ : ∃ SB, SB = t.cells := ⟨_, rfl⟩
              have HZB : Hid ((Tryd.prog.info? 45).map (·.size) = some SB.size ∧ SB.size = 24 ∧ SB.all (·.oneCell') = true) := Lib.hid (by rw [hSB]; exact ⟨size_st, rfl, by simp [Value.oneCell']⟩)
              have HSB := Lib.hid hSB
              clear hSB
              go_wp2_with fail
              refine (tq_Choose (choice := 8) HD.out HI1'.out HR15.out HCE.out).mono ?_
              rintro e w16 ⟨rfl, hr, hkp⟩
              have HB16 := Lib.hid (HB15.out.trans (hkp.toBelow HBR.out HB15.out.size))
              have HR16 := Lib.hid hr
              have HS16 := Lib.hid (HS15.out.kept (show bs ≠ B from HNSB.out) hkp)
              clear hr hkp
              go_wp2_with fail
              refine (tb_State HD.out HIT.out HR16.out HSB.out).mono ?_
              rintro e w17 ⟨rfl, hb⟩
              have HB17 := Lib.hid (HB16.out.trans (hb.mono HB16.out.size))
              have HS17 := Lib.hid (HS16.out.below HS16.out.lt hb)
              clear hb
              go_upto_region 37 with (refine wpList_store_row rfl 45 (.tmp 24) (.tmp 183) rfl w17.heap.size SB rfl rfl 45 _ (Row.new _ _ _) HZB.out.1 (by rw [HZB.out.2.1]; rfl) HZB.out.2.2 ?_)
              have hb18 := below_setRow ((Below.refl w17.heap.size w17).alloc (Nat.le_refl _) (.cells zst 45)) (Nat.le_refl _) SB
              have hr18 : Row ((w17.alloc (.cells zst 45)).setRow w17.heap.size SB) w17.heap.size 45 SB := setRow_heap _ _ _ _ _ _ (Row.new _ _ _)
              change Code.wp _ _ _ _ ((w17.alloc (.cells zst 45)).setRow w17.heap.size SB)
              generalize (w17.alloc (.cells zst 45)).setRow w17.heap.size SB = w18 at *
              have HB18 := Lib.hid (HB17.out.trans (hb18.mono HB17.out.size))
              have HS18 := Lib.hid (HS17.out.below HS17.out.lt hb18)
              obtain ⟨bi, hbi⟩ : ∃ bi, w17.heap.size = bi := ⟨_, rfl⟩
              rw [hbi] at hr18 ⊢
              have HSI := Lib.hid hr18
              clear hb18 hr18 hbi
              have i0 : w18.cell? ⟨bi, 0, none⟩ = some (.int .u64 (t.h 0 : Int)) := by rw [HSI.out.cell, HSB.out]; rfl
              have j0 : w18.cell? ⟨bs, 0, none⟩ = some (.int .u64 (s.h 0 : Int)) := by rw [HS18.out.cell, HSA.out]; rfl
              have p0 : w18.cell? ⟨bs, 4, none⟩ = some (.int .u64 (s.pn 0 : Int)) := by rw [HS18.out.cell, HSA.out]; rfl
              have i1 : w18.cell? ⟨bi, 1, none⟩ = some (.int .u64 (t.h 1 : Int)) := by rw [HSI.out.cell, HSB.out]; rfl
              have j1 : w18.cell? ⟨bs, 1, none⟩ = some (.int .u64 (s.h 1 : Int)) := by rw [HS18.out.cell, HSA.out]; rfl
              have p1 : w18.cell? ⟨bs, 5, none⟩ = some (.int .u64 (s.pn 1 : Int)) := by rw [HS18.out.cell, HSA.out]; rfl
              have i2 : w18.cell? ⟨bi, 2, none⟩ = some (.int .u64 (t.h 2 : Int)) := by rw [HSI.out.cell, HSB.out]; rfl
              have j2 : w18.cell? ⟨bs, 2, none⟩ = some (.int .u64 (s.h 2 : Int)) := by rw [HS18.out.cell, HSA.out]; rfl
              have p2 : w18.cell? ⟨bs, 6, none⟩ = some (.int .u64 (s.pn 2 : Int)) := by rw [HS18.out.cell, HSA.out]; rfl
              have i3 : w18.cell? ⟨bi, 3, none⟩ = some (.int .u64 (t.h 3 : Int)) := by rw [HSI.out.cell, HSB.out]; rfl
              have j3 : w18.cell? ⟨bs, 3, none⟩ = some (.int .u64 (s.h 3 : Int)) := by rw [HS18.out.cell, HSA.out]; rfl
              have p3 : w18.cell? ⟨bs, 7, none⟩ = some (.int .u64 (s.pn 3 : Int)) := by rw [HS18.out.cell, HSA.out]; rfl
              have i18 : w18.cell? ⟨bi, 18, none⟩ = some (.bool false) := by rw [HSI.out.cell, HSB.out, ← hq9]; rfl
              have qe := fun w => eq_deal14 9998 t.h s.h w
              have hth : t.h = s.h := by have h := HBE.out.h; rwa [if_neg (by decide)] at h
              rw [eq_four hth] at qe
              clear hth hq9
              go_upto_region 43 with fail
              have hbp := (Below.refl w18.heap.size w18).alloc (Nat.le_refl _) (.cells (arr4 s.pn) 29)
              have hrp : Row (w18.alloc (.cells (arr4 s.pn) 29)) w18.heap.size 29 (arr4 s.pn) := Row.new _ _ _
              have HSIl := Lib.hid HSI.out.lt
              have HS18l := Lib.hid HS18.out.lt
              have HSI' := Lib.hid (HSI.out.below HSI.out.lt hbp)
              have HS18' := Lib.hid (HS18.out.below HS18.out.lt hbp)
              have HB20 := Lib.hid (HB18.out.trans (hbp.mono HB18.out.size))
              clear i0 j0 p0 i1 j1 p1 i2 j2 p2 i3 j3 p3 i18 hbp qe
              generalize w18.alloc (.cells (arr4 s.pn) 29) = w20 at *
              have HBI : Hid (bi ≠ w18.heap.size ∧ bs ≠ w18.heap.size ∧ w.heap.size ≤ w18.heap.size) := Lib.hid ⟨by have := HSIl.out; omega, by have := HS18l.out; omega, HB18.out.size⟩
              obtain ⟨bp, hbp⟩ : ∃ bp, w18.heap.size = bp := ⟨_, rfl⟩
              rw [hbp] at hrp HBI ⊢
              have HRP := Lib.hid hrp
              clear hrp hbp
              have hpn : t.pn = s.pn := by have h := HBE.out.pn (by decide) (by decide); rwa [if_neg (by decide)] at h
              have HRP2 : Hid (Row w20 bp 29 (arr4 t.pn)) := Lib.hid (by rw [hpn]; exact HRP.out)
              have HSI2 := HSI'
              have HS2 := HS18'
              have HB21 := HB20
              clear hpn
              obtain ⟨w21, hw21⟩ : ∃ w21, w20 = w21 := ⟨_, rfl⟩
              rw [hw21] at HRP2 HSI2 HS2 HB21 ⊢
              clear hw21
              have i0 : w21.cell? ⟨bi, 4, none⟩ = some (.int .u64 (t.pn 0 : Int)) := by rw [HSI2.out.cell, HSB.out]; rfl
              have p0 : w21.cell? ⟨bp, 0, none⟩ = some (.int .u64 (t.pn 0 : Int)) := by rw [HRP2.out.cell]; rfl
              have i1 : w21.cell? ⟨bi, 5, none⟩ = some (.int .u64 (t.pn 1 : Int)) := by rw [HSI2.out.cell, HSB.out]; rfl
              have p1 : w21.cell? ⟨bp, 1, none⟩ = some (.int .u64 (t.pn 1 : Int)) := by rw [HRP2.out.cell]; rfl
              have i2 : w21.cell? ⟨bi, 6, none⟩ = some (.int .u64 (t.pn 2 : Int)) := by rw [HSI2.out.cell, HSB.out]; rfl
              have p2 : w21.cell? ⟨bp, 2, none⟩ = some (.int .u64 (t.pn 2 : Int)) := by rw [HRP2.out.cell]; rfl
              have i3 : w21.cell? ⟨bi, 7, none⟩ = some (.int .u64 (t.pn 3 : Int)) := by rw [HSI2.out.cell, HSB.out]; rfl
              have p3 : w21.cell? ⟨bp, 3, none⟩ = some (.int .u64 (t.pn 3 : Int)) := by rw [HRP2.out.cell]; rfl
              have i18 : w21.cell? ⟨bi, 18, none⟩ = some (.bool false) := by rw [HSI2.out.cell, HSB.out, ← HBE.out.pend]; rfl
              have i10 : w21.cell? ⟨bi, 10, none⟩ = some (.int .u8 (s.ld : Int)) := by rw [HSI2.out.cell, HSB.out, ← HBE.out.ld (by decide) (by decide)]; rfl
              have j10 : w21.cell? ⟨bs, 10, none⟩ = some (.int .u8 (s.ld : Int)) := by rw [HS2.out.cell, HSA.out]; rfl
              have qe := fun w => eq_deal14 9998 t.pn t.pn w
              rw [eq_four rfl] at qe
              obtain ⟨c13, hc13⟩ : ∃ x, c / 13 = x := ⟨_, rfl⟩
              have hc13l : c13 < 4 := by omega
              obtain ⟨pw, hpw⟩ : ∃ pw, pw = 2 ^ c13 := ⟨_, rfl⟩
              have hpw8 : pw < 256 := by rw [hpw]; exact Nat.pow_lt_pow_right (a := 2) (n := 8) (by decide) (by omega)
              have u1 : ((c : Int)).tdiv 13 = (c13 : Int) := by rw [Int.tdiv_eq_ediv_of_nonneg (by omega)]; omega
              have u2 : IntKind.u8.wrap (c13 : Int) = (c13 : Int) := by rw [IntKind.wrap_u8]; omega
              have u3 : ((2 : Int) ^ c13) % 256 = (pw : Int) := pow_u8 hpw (by omega)
              have u3' : IntKind.u8.wrap ((2 : Int) ^ c13) = (pw : Int) := by rw [IntKind.wrap_u8]; exact u3
              have i20 : w21.cell? ⟨bi, 20, none⟩ = some (.int .u8 (pw : Int)) := by rw [HSI2.out.cell, HSB.out, hpw, ← hc13, ← HBE.out.must rfl]; rfl
              clear hpw hc13
              go_wp2_with fail
              go_ret
              exact ⟨rfl, HB21.out⟩
          · have t1 : ((bit : Int)).tmod 8 = 4 := by rw [Int.tmod_eq_emod_of_nonneg (by omega)]; omega
            obtain ⟨z, hz0⟩ : ∃ z, v3 &&& 16 = z := ⟨_, rfl⟩
            have hze : z = ((wantV df pt op).testBit 4).toNat * 2 ^ 4 := by rw [← hz0, HV3.out]; exact and_two_pow _ 4
            have hband : bits .and .u8 (v3 : Int) 16 = (z : Int) := by
              have h := run_and8 v3 16 (by rw [HV3.out]; have := want_lt df pt op; omega) (by decide)
              rw [intBits_and] at h
              injection h with h
              injection h with _ h
              rw [← hz0]; exact h
            clear hz0 hkb
            have hce := HCC.out 4 (by omega)
            cases hmb : mayB df pt op 4
            · rw [hmb] at hce
              have HCE := Lib.hid (show S1.chooseV 16 = (S1, 143) by rw [hce]; rfl)
              have hz : ¬ 0 < z := by rw [hze, want_bit df pt op 4 (by omega), hmb]; simp
              have HZ' := Lib.hid hz
              clear hce hze hmb
              obtain ⟨SB, hSB⟩ : ∃ SB, SB = S1.cells := ⟨_, rfl⟩
              have HZB : Hid ((Tryd.prog.info? 45).map (·.size) = some SB.size ∧ SB.size = 24 ∧ SB.all (·.oneCell') = true) := Lib.hid (by rw [hSB]; exact ⟨size_st, rfl, by simp [Value.oneCell']⟩)
              have HSB := Lib.hid hSB
              clear hSB
              go_wp2_with fail
              refine (tq_Choose (choice := 16) HD.out HI1'.out HR15.out HCE.out).mono ?_
              rintro e w16 ⟨rfl, hr, hkp⟩
              have HB16 := Lib.hid (HB15.out.trans (hkp.toBelow HBR.out HB15.out.size))
              have HR16 := Lib.hid hr
              clear hr hkp
              go_wp2_with fail
              refine (tb_State HD.out HI1'.out HR16.out HSB.out).mono ?_
              rintro e w17 ⟨rfl, hb⟩
              have HB17 := Lib.hid (HB16.out.trans (hb.mono HB16.out.size))
              have HR17 := Lib.hid (HR16.out.below HR16.out.lt hb)
              clear hb
              go_upto_region 37 with (refine wpList_store_row rfl 45 (.tmp 24) (.tmp 183) rfl w17.heap.size SB rfl rfl 45 _ (Row.new _ _ _) HZB.out.1 (by rw [HZB.out.2.1]; rfl) HZB.out.2.2 ?_)
              have hb18 := below_setRow ((Below.refl w17.heap.size w17).alloc (Nat.le_refl _) (.cells zst 45)) (Nat.le_refl _) SB
              have hr18 : Row ((w17.alloc (.cells zst 45)).setRow w17.heap.size SB) w17.heap.size 45 SB := setRow_heap _ _ _ _ _ _ (Row.new _ _ _)
              change Code.wp _ _ _ _ ((w17.alloc (.cells zst 45)).setRow w17.heap.size SB)
              generalize (w17.alloc (.cells zst 45)).setRow w17.heap.size SB = w18 at *
              have HB18 := Lib.hid (HB17.out.trans (hb18.mono HB17.out.size))
              have HR18 := Lib.hid (HR17.out.below HR17.out.lt hb18)
              obtain ⟨bi, hbi⟩ : ∃ bi, w17.heap.size = bi := ⟨_, rfl⟩
              rw [hbi] at hr18 ⊢
              have HSI := Lib.hid hr18
              clear hb18 hr18 hbi
              have HCH := Lib.hid (fun (W : World) (hA : TblAt W B S1) => tb_Choices HD.out HI1'.out hA)
              rw [HCV.out, ← HV3.out] at HCH
              go_wp2_with fail
              refine (HCH.out w18 HR18.out).mono ?_
              rintro e w19 ⟨rfl, hb⟩
              have HB19 := Lib.hid (HB18.out.trans (hb.mono HB18.out.size))
              have c18 : w19.cell? ⟨bi, 18, none⟩ = some (.bool true) := by rw [(HSI.out.below HSI.out.lt hb).cell, HSB.out, ← HP1.out]; rfl
              clear hb
              go_wp2_with fail
              go_ret
              exact ⟨rfl, HB19.out⟩
            · rw [hmb] at hce
              have hz : 0 < z := by rw [hze, want_bit df pt op 4 (by omega), hmb]; decide
              obtain ⟨t, ht⟩ : ∃ t, t = (S1.act 4).done := ⟨_, rfl⟩
              have hbec := HBC.out 4 (by omega)
              rw [← ht] at hbec
              have hce' : S1.chooseV 16 = (t, 0) := by rw [hce, ht]; rfl
              have HCE := Lib.hid hce'
              have hit := HI1'.out.choose HD.out 16
              rw [hce'] at hit
              have HIT := Lib.hid hit
              have HBE := Lib.hid hbec
              have hq9 := hbec.pend
              clear hce hze hmb hce' hit ht hbec
              obtain ⟨SB, hSB⟩ : ∃ SB, SB = t.cells := ⟨_, rfl⟩
              have HZB : Hid ((Tryd.prog.info? 45).map (·.size) = some SB.size ∧ SB.size = 24 ∧ SB.all (·.oneCell') = true) := Lib.hid (by rw [hSB]; exact ⟨size_st, rfl, by simp [Value.oneCell']⟩)
              have HSB := Lib.hid hSB
              clear hSB
              go_wp2_with fail
              refine (tq_Choose (choice := 16) HD.out HI1'.out HR15.out HCE.out).mono ?_
              rintro e w16 ⟨rfl, hr, hkp⟩
              have HB16 := Lib.hid (HB15.out.trans (hkp.toBelow HBR.out HB15.out.size))
              have HR16 := Lib.hid hr
              have HS16 := Lib.hid (HS15.out.kept (show bs ≠ B from HNSB.out) hkp)
              clear hr hkp
              go_wp2_with fail
              refine (tb_State HD.out HIT.out HR16.out HSB.out).mono ?_
              rintro e w17 ⟨rfl, hb⟩
              have HB17 := Lib.hid (HB16.out.trans (hb.mono HB16.out.size))
              have HS17 := Lib.hid (HS16.out.below HS16.out.lt hb)
              clear hb
              go_upto_region 37 with (refine wpList_store_row rfl 45 (.tmp 24) (.tmp 183) rfl w17.heap.size SB rfl rfl 45 _ (Row.new _ _ _) HZB.out.1 (by rw [HZB.out.2.1]; rfl) HZB.out.2.2 ?_)
              have hb18 := below_setRow ((Below.refl w17.heap.size w17).alloc (Nat.le_refl _) (.cells zst 45)) (Nat.le_refl _) SB
              have hr18 : Row ((w17.alloc (.cells zst 45)).setRow w17.heap.size SB) w17.heap.size 45 SB := setRow_heap _ _ _ _ _ _ (Row.new _ _ _)
              change Code.wp _ _ _ _ ((w17.alloc (.cells zst 45)).setRow w17.heap.size SB)
              generalize (w17.alloc (.cells zst 45)).setRow w17.heap.size SB = w18 at *
              have HB18 := Lib.hid (HB17.out.trans (hb18.mono HB17.out.size))
              have HS18 := Lib.hid (HS17.out.below HS17.out.lt hb18)
              obtain ⟨bi, hbi⟩ : ∃ bi, w17.heap.size = bi := ⟨_, rfl⟩
              rw [hbi] at hr18 ⊢
              have HSI := Lib.hid hr18
              clear hb18 hr18 hbi
              have i0 : w18.cell? ⟨bi, 0, none⟩ = some (.int .u64 (t.h 0 : Int)) := by rw [HSI.out.cell, HSB.out]; rfl
              have j0 : w18.cell? ⟨bs, 0, none⟩ = some (.int .u64 (s.h 0 : Int)) := by rw [HS18.out.cell, HSA.out]; rfl
              have p0 : w18.cell? ⟨bs, 4, none⟩ = some (.int .u64 (s.pn 0 : Int)) := by rw [HS18.out.cell, HSA.out]; rfl
              have i1 : w18.cell? ⟨bi, 1, none⟩ = some (.int .u64 (t.h 1 : Int)) := by rw [HSI.out.cell, HSB.out]; rfl
              have j1 : w18.cell? ⟨bs, 1, none⟩ = some (.int .u64 (s.h 1 : Int)) := by rw [HS18.out.cell, HSA.out]; rfl
              have p1 : w18.cell? ⟨bs, 5, none⟩ = some (.int .u64 (s.pn 1 : Int)) := by rw [HS18.out.cell, HSA.out]; rfl
              have i2 : w18.cell? ⟨bi, 2, none⟩ = some (.int .u64 (t.h 2 : Int)) := by rw [HSI.out.cell, HSB.out]; rfl
              have j2 : w18.cell? ⟨bs, 2, none⟩ = some (.int .u64 (s.h 2 : Int)) := by rw [HS18.out.cell, HSA.out]; rfl
              have p2 : w18.cell? ⟨bs, 6, none⟩ = some (.int .u64 (s.pn 2 : Int)) := by rw [HS18.out.cell, HSA.out]; rfl
              have i3 : w18.cell? ⟨bi, 3, none⟩ = some (.int .u64 (t.h 3 : Int)) := by rw [HSI.out.cell, HSB.out]; rfl
              have j3 : w18.cell? ⟨bs, 3, none⟩ = some (.int .u64 (s.h 3 : Int)) := by rw [HS18.out.cell, HSA.out]; rfl
              have p3 : w18.cell? ⟨bs, 7, none⟩ = some (.int .u64 (s.pn 3 : Int)) := by rw [HS18.out.cell, HSA.out]; rfl
              have i18 : w18.cell? ⟨bi, 18, none⟩ = some (.bool false) := by rw [HSI.out.cell, HSB.out, ← hq9]; rfl
              have qe := fun w => eq_deal14 9998 t.h s.h w
              have hth : t.h = s.h := by have h := HBE.out.h; rwa [if_neg (by decide)] at h
              rw [eq_four hth] at qe
              clear hth hq9
              go_upto_region 43 with fail
              have hbp := (Below.refl w18.heap.size w18).alloc (Nat.le_refl _) (.cells (arr4 s.pn) 29)
              have hrp : Row (w18.alloc (.cells (arr4 s.pn) 29)) w18.heap.size 29 (arr4 s.pn) := Row.new _ _ _
              have HSIl := Lib.hid HSI.out.lt
              have HS18l := Lib.hid HS18.out.lt
              have HSI' := Lib.hid (HSI.out.below HSI.out.lt hbp)
              have HS18' := Lib.hid (HS18.out.below HS18.out.lt hbp)
              have HB20 := Lib.hid (HB18.out.trans (hbp.mono HB18.out.size))
              clear i0 j0 p0 i1 j1 p1 i2 j2 p2 i3 j3 p3 i18 hbp qe
              generalize w18.alloc (.cells (arr4 s.pn) 29) = w20 at *
              have HBI : Hid (bi ≠ w18.heap.size ∧ bs ≠ w18.heap.size ∧ w.heap.size ≤ w18.heap.size) := Lib.hid ⟨by have := HSIl.out; omega, by have := HS18l.out; omega, HB18.out.size⟩
              obtain ⟨bp, hbp⟩ : ∃ bp, w18.heap.size = bp := ⟨_, rfl⟩
              rw [hbp] at hrp HBI ⊢
              have HRP := Lib.hid hrp
              clear hrp hbp
              have hpn : t.pn = s.pn := by have h := HBE.out.pn (by decide) (by decide); rwa [if_neg (by decide)] at h
              have HRP2 : Hid (Row w20 bp 29 (arr4 t.pn)) := Lib.hid (by rw [hpn]; exact HRP.out)
              have HSI2 := HSI'
              have HS2 := HS18'
              have HB21 := HB20
              clear hpn
              obtain ⟨w21, hw21⟩ : ∃ w21, w20 = w21 := ⟨_, rfl⟩
              rw [hw21] at HRP2 HSI2 HS2 HB21 ⊢
              clear hw21
              have i0 : w21.cell? ⟨bi, 4, none⟩ = some (.int .u64 (t.pn 0 : Int)) := by rw [HSI2.out.cell, HSB.out]; rfl
              have p0 : w21.cell? ⟨bp, 0, none⟩ = some (.int .u64 (t.pn 0 : Int)) := by rw [HRP2.out.cell]; rfl
              have i1 : w21.cell? ⟨bi, 5, none⟩ = some (.int .u64 (t.pn 1 : Int)) := by rw [HSI2.out.cell, HSB.out]; rfl
              have p1 : w21.cell? ⟨bp, 1, none⟩ = some (.int .u64 (t.pn 1 : Int)) := by rw [HRP2.out.cell]; rfl
              have i2 : w21.cell? ⟨bi, 6, none⟩ = some (.int .u64 (t.pn 2 : Int)) := by rw [HSI2.out.cell, HSB.out]; rfl
              have p2 : w21.cell? ⟨bp, 2, none⟩ = some (.int .u64 (t.pn 2 : Int)) := by rw [HRP2.out.cell]; rfl
              have i3 : w21.cell? ⟨bi, 7, none⟩ = some (.int .u64 (t.pn 3 : Int)) := by rw [HSI2.out.cell, HSB.out]; rfl
              have p3 : w21.cell? ⟨bp, 3, none⟩ = some (.int .u64 (t.pn 3 : Int)) := by rw [HRP2.out.cell]; rfl
              have i18 : w21.cell? ⟨bi, 18, none⟩ = some (.bool false) := by rw [HSI2.out.cell, HSB.out, ← HBE.out.pend]; rfl
              have i10 : w21.cell? ⟨bi, 10, none⟩ = some (.int .u8 (s.ld : Int)) := by rw [HSI2.out.cell, HSB.out, ← HBE.out.ld (by decide) (by decide)]; rfl
              have j10 : w21.cell? ⟨bs, 10, none⟩ = some (.int .u8 (s.ld : Int)) := by rw [HS2.out.cell, HSA.out]; rfl
              have qe := fun w => eq_deal14 9998 t.pn t.pn w
              rw [eq_four rfl] at qe
              obtain ⟨c13, hc13⟩ : ∃ x, c / 13 = x := ⟨_, rfl⟩
              have hc13l : c13 < 4 := by omega
              obtain ⟨pw, hpw⟩ : ∃ pw, pw = 2 ^ c13 := ⟨_, rfl⟩
              have hpw8 : pw < 256 := by rw [hpw]; exact Nat.pow_lt_pow_right (a := 2) (n := 8) (by decide) (by omega)
              have u1 : ((c : Int)).tdiv 13 = (c13 : Int) := by rw [Int.tdiv_eq_ediv_of_nonneg (by omega)]; omega
              have u2 : IntKind.u8.wrap (c13 : Int) = (c13 : Int) := by rw [IntKind.wrap_u8]; omega
              have u3 : ((2 : Int) ^ c13) % 256 = (pw : Int) := pow_u8 hpw (by omega)
              have u3' : IntKind.u8.wrap ((2 : Int) ^ c13) = (pw : Int) := by rw [IntKind.wrap_u8]; exact u3
              have hnt := HI6.out.ok.nt
              obtain ⟨nw, hnw⟩ : ∃ nw, nw = s.nt ||| pw := ⟨_, rfl⟩
              have i21 : w21.cell? ⟨bi, 21, none⟩ = some (.int .u8 (nw : Int)) := by rw [HSI2.out.cell, HSB.out, hnw, hpw, ← hc13, ← HBE.out.nt rfl]; rfl
              have j21 : w21.cell? ⟨bs, 21, none⟩ = some (.int .u8 (s.nt : Int)) := by rw [HS2.out.cell, HSA.out]; rfl
              have u4 : bits .or .u8 (s.nt : Int) (pw : Int) = (nw : Int) := by rw [bits_or8 _ _ (by omega) hpw8, ← hnw]
              have u4' : bits .or .u8 (s.nt : Int) ((2 : Int) ^ c13 % 256) = (nw : Int) := by rw [u3]; exact u4
              have u4'' : bits .or .u8 (s.nt : Int) (IntKind.u8.wrap ((2 : Int) ^ c13)) = (nw : Int) := by rw [u3']; exact u4
              clear hnw
              clear hpw hc13
              go_wp2_with fail
              go_ret
              exact ⟨rfl, HB21.out⟩
          · have t1 : ((bit : Int)).tmod 8 = 5 := by rw [Int.tmod_eq_emod_of_nonneg (by omega)]; omega
            obtain ⟨z, hz0⟩ : ∃ z, v3 &&& 32 = z := ⟨_, rfl⟩
            have hze : z = ((wantV df pt op).testBit 5).toNat * 2 ^ 5 := by rw [← hz0, HV3.out]; exact and_two_pow _ 5
            have hband : bits .and .u8 (v3 : Int) 32 = (z : Int) := by
              have h := run_and8 v3 32 (by rw [HV3.out]; have := want_lt df pt op; omega) (by decide)
              rw [intBits_and] at h
              injection h with h
              injection h with _ h
              rw [← hz0]; exact h
            clear hz0 hkb
            have hce := HCC.out 5 (by omega)
            cases hmb : mayB df pt op 5
            · rw [hmb] at hce
              have HCE := Lib.hid (show S1.chooseV 32 = (S1, 143) by rw [hce]; rfl)
              have hz : ¬ 0 < z := by rw [hze, want_bit df pt op 5 (by omega), hmb]; simp
              have HZ' := Lib.hid hz
              clear hce hze hmb
              obtain ⟨SB, hSB⟩ : ∃ SB, SB = S1.cells := ⟨_, rfl⟩
              have HZB : Hid ((Tryd.prog.info? 45).map (·.size) = some SB.size ∧ SB.size = 24 ∧ SB.all (·.oneCell') = true) := Lib.hid (by rw [hSB]; exact ⟨size_st, rfl, by simp [Value.oneCell']⟩)
              have HSB := Lib.hid hSB
              clear hSB
              go_wp2_with fail
              refine (tq_Choose (choice := 32) HD.out HI1'.out HR15.out HCE.out).mono ?_
              rintro e w16 ⟨rfl, hr, hkp⟩
              have HB16 := Lib.hid (HB15.out.trans (hkp.toBelow HBR.out HB15.out.size))
              have HR16 := Lib.hid hr
              clear hr hkp
              go_wp2_with fail
              refine (tb_State HD.out HI1'.out HR16.out HSB.out).mono ?_
              rintro e w17 ⟨rfl, hb⟩
              have HB17 := Lib.hid (HB16.out.trans (hb.mono HB16.out.size))
              have HR17 := Lib.hid (HR16.out.below HR16.out.lt hb)
              clear hb
              go_upto_region 37 with (refine wpList_store_row rfl 45 (.tmp 24) (.tmp 183) rfl w17.heap.size SB rfl rfl 45 _ (Row.new _ _ _) HZB.out.1 (by rw [HZB.out.2.1]; rfl) HZB.out.2.2 ?_)
              have hb18 := below_setRow ((Below.refl w17.heap.size w17).alloc (Nat.le_refl _) (.cells zst 45)) (Nat.le_refl _) SB
              have hr18 : Row ((w17.alloc (.cells zst 45)).setRow w17.heap.size SB) w17.heap.size 45 SB := setRow_heap _ _ _ _ _ _ (Row.new _ _ _)
              change Code.wp _ _ _ _ ((w17.alloc (.cells zst 45)).setRow w17.heap.size SB)
              generalize (w17.alloc (.cells zst 45)).setRow w17.heap.size SB = w18 at *
              have HB18 := Lib.hid (HB17.out.trans (hb18.mono HB17.out.size))
              have HR18 := Lib.hid (HR17.out.below HR17.out.lt hb18)
              obtain ⟨bi, hbi⟩ : ∃ bi, w17.heap.size = bi := ⟨_, rfl⟩
              rw [hbi] at hr18 ⊢
              have HSI := Lib.hid hr18
              clear hb18 hr18 hbi
              have HCH := Lib.hid (fun (W : World) (hA : TblAt W B S1) => tb_Choices HD.out HI1'.out hA)
              rw [HCV.out, ← HV3.out] at HCH
              go_wp2_with fail
              refine (HCH.out w18 HR18.out).mono ?_
              rintro e w19 ⟨rfl, hb⟩
              have HB19 := Lib.hid (HB18.out.trans (hb.mono HB18.out.size))
              have c18 : w19.cell? ⟨bi, 18, none⟩ = some (.bool true) := by rw [(HSI.out.below HSI.out.lt hb).cell, HSB.out, ← HP1.out]; rfl
              clear hb
              go_wp2_with fail
              go_ret
              exact ⟨rfl, HB19.out⟩
            · rw [hmb] at hce
              have hz : 0 < z := by rw [hze, want_bit df pt op 5 (by omega), hmb]; decide
              obtain ⟨t, ht⟩ : ∃ t, t = (S1.act 5).done := ⟨_, rfl⟩
              have hbec := HBC.out 5 (by omega)
              rw [← ht] at hbec
              have hce' : S1.chooseV 32 = (t, 0) := by rw [hce, ht]; rfl
              have HCE := Lib.hid hce'
              have hit := HI1'.out.choose HD.out 32
              rw [hce'] at hit
              have HIT := Lib.hid hit
              have HBE := Lib.hid hbec
              have hq9 := hbec.pend
              clear hce hze hmb hce' hit ht hbec
              obtain ⟨SB, hSB⟩ : ∃ SB, SB = t.cells := ⟨_, rfl⟩
              have HZB : Hid ((Tryd.prog.info? 45).map (·.size) = some SB.size ∧ SB.size = 24 ∧ SB.all (·.oneCell') = true) := Lib.hid (by rw [hSB]; exact ⟨size_st, rfl, by simp [Value.oneCell']⟩)
              have HSB := Lib.hid hSB
              clear hSB
              go_wp2_with fail
              refine (tq_Choose (choice := 32) HD.out HI1'.out HR15.out HCE.out).mono ?_
              rintro e w16 ⟨rfl, hr, hkp⟩
              have HB16 := Lib.hid (HB15.out.trans (hkp.toBelow HBR.out HB15.out.size))
              have HR16 := Lib.hid hr
              have HS16 := Lib.hid (HS15.out.kept (show bs ≠ B from HNSB.out) hkp)
              clear hr hkp
              go_wp2_with fail
              refine (tb_State HD.out HIT.out HR16.out HSB.out).mono ?_
              rintro e w17 ⟨rfl, hb⟩
              have HB17 := Lib.hid (HB16.out.trans (hb.mono HB16.out.size))
              have HS17 := Lib.hid (HS16.out.below HS16.out.lt hb)
              clear hb
              go_upto_region 37 with (refine wpList_store_row rfl 45 (.tmp 24) (.tmp 183) rfl w17.heap.size SB rfl rfl 45 _ (Row.new _ _ _) HZB.out.1 (by rw [HZB.out.2.1]; rfl) HZB.out.2.2 ?_)
              have hb18 := below_setRow ((Below.refl w17.heap.size w17).alloc (Nat.le_refl _) (.cells zst 45)) (Nat.le_refl _) SB
              have hr18 : Row ((w17.alloc (.cells zst 45)).setRow w17.heap.size SB) w17.heap.size 45 SB := setRow_heap _ _ _ _ _ _ (Row.new _ _ _)
              change Code.wp _ _ _ _ ((w17.alloc (.cells zst 45)).setRow w17.heap.size SB)
              generalize (w17.alloc (.cells zst 45)).setRow w17.heap.size SB = w18 at *
              have HB18 := Lib.hid (HB17.out.trans (hb18.mono HB17.out.size))
              have HS18 := Lib.hid (HS17.out.below HS17.out.lt hb18)
              obtain ⟨bi, hbi⟩ : ∃ bi, w17.heap.size = bi := ⟨_, rfl⟩
              rw [hbi] at hr18 ⊢
              have HSI := Lib.hid hr18
              clear hb18 hr18 hbi
              have i0 : w18.cell? ⟨bi, 0, none⟩ = some (.int .u64 (t.h 0 : Int)) := by rw [HSI.out.cell, HSB.out]; rfl
              have j0 : w18.cell? ⟨bs, 0, none⟩ = some (.int .u64 (s.h 0 : Int)) := by rw [HS18.out.cell, HSA.out]; rfl
              have p0 : w18.cell? ⟨bs, 4, none⟩ = some (.int .u64 (s.pn 0 : Int)) := by rw [HS18.out.cell, HSA.out]; rfl
              have i1 : w18.cell? ⟨bi, 1, none⟩ = some (.int .u64 (t.h 1 : Int)) := by rw [HSI.out.cell, HSB.out]; rfl
              have j1 : w18.cell? ⟨bs, 1, none⟩ = some (.int .u64 (s.h 1 : Int)) := by rw [HS18.out.cell, HSA.out]; rfl
              have p1 : w18.cell? ⟨bs, 5, none⟩ = some (.int .u64 (s.pn 1 : Int)) := by rw [HS18.out.cell, HSA.out]; rfl
              have i2 : w18.cell? ⟨bi, 2, none⟩ = some (.int .u64 (t.h 2 : Int)) := by rw [HSI.out.cell, HSB.out]; rfl
              have j2 : w18.cell? ⟨bs, 2, none⟩ = some (.int .u64 (s.h 2 : Int)) := by rw [HS18.out.cell, HSA.out]; rfl
              have p2 : w18.cell? ⟨bs, 6, none⟩ = some (.int .u64 (s.pn 2 : Int)) := by rw [HS18.out.cell, HSA.out]; rfl
              have i3 : w18.cell? ⟨bi, 3, none⟩ = some (.int .u64 (t.h 3 : Int)) := by rw [HSI.out.cell, HSB.out]; rfl
              have j3 : w18.cell? ⟨bs, 3, none⟩ = some (.int .u64 (s.h 3 : Int)) := by rw [HS18.out.cell, HSA.out]; rfl
              have p3 : w18.cell? ⟨bs, 7, none⟩ = some (.int .u64 (s.pn 3 : Int)) := by rw [HS18.out.cell, HSA.out]; rfl
              have i18 : w18.cell? ⟨bi, 18, none⟩ = some (.bool false) := by rw [HSI.out.cell, HSB.out, ← hq9]; rfl
              have qe := fun w => eq_deal14 9998 t.h s.h w
              have hth : t.h q ≠ s.h q := by have h := HBE.out.h; rw [if_pos (by decide)] at h; rw [h]; exact outH_ne (by omega) HBIT.out
              rw [ne_four hq4 hth] at qe
              clear hth hq9
              have hdcb : ((t.dc : Int) == (s.dc : Int)) = false := by rw [beq_eq_false_iff_ne, HBE.out.dc5 rfl]; omega
              go_upto_region 43 with fail
              have hbp := (Below.refl w18.heap.size w18).alloc (Nat.le_refl _) (.cells (arr4 s.pn) 29)
              have HSI' := Lib.hid (HSI.out.below HSI.out.lt hbp)
              have HS18' := Lib.hid (HS18.out.below HS18.out.lt hbp)
              have HB20 := Lib.hid (HB18.out.trans (hbp.mono HB18.out.size))
              clear i0 i1 i2 i3 j0 j1 j2 j3 p0 p1 p2 p3 i18 hbp qe
              generalize w18.alloc (.cells (arr4 s.pn) 29) = w20 at *
              have i9 : w20.cell? ⟨bi, 9, none⟩ = some (.int .u8 (t.dc : Int)) := by rw [HSI'.out.cell, HSB.out]; rfl
              have j9 : w20.cell? ⟨bs, 9, none⟩ = some (.int .u8 (s.dc : Int)) := by rw [HS18'.out.cell, HSA.out]; rfl
              have i18 : w20.cell? ⟨bi, 18, none⟩ = some (.bool false) := by rw [HSI'.out.cell, HSB.out, ← HBE.out.pend]; rfl
              go_wp2_with fail
              go_ret
              exact ⟨rfl, HB20.out⟩
          · have t1 : ((bit : Int)).tmod 8 = 6 := by rw [Int.tmod_eq_emod_of_nonneg (by omega)]; omega
            obtain ⟨z, hz0⟩ : ∃ z, v3 &&& 64 = z := ⟨_, rfl⟩
            have hze : z = ((wantV df pt op).testBit 6).toNat * 2 ^ 6 := by rw [← hz0, HV3.out]; exact and_two_pow _ 6
            have hband : bits .and .u8 (v3 : Int) 64 = (z : Int) := by
              have h := run_and8 v3 64 (by rw [HV3.out]; have := want_lt df pt op; omega) (by decide)
              rw [intBits_and] at h
              injection h with h
              injection h with _ h
              rw [← hz0]; exact h
            clear hz0 hkb
            have hce := HCC.out 6 (by omega)
            have hmb : mayB df pt op 6 = false := rfl
            have HCE := Lib.hid (show S1.chooseV 64 = (S1, 143) by rw [hce]; rfl)
            have hz : ¬ 0 < z := by rw [hze, want_bit df pt op 6 (by omega), hmb]; simp
            have HZ' := Lib.hid hz
            clear hce hze hmb
            obtain ⟨SB, hSB⟩ : ∃ SB, SB = S1.cells := ⟨_, rfl⟩
            have HZB : Hid ((Tryd.prog.info? 45).map (·.size) = some SB.size ∧ SB.size = 24 ∧ SB.all (·.oneCell') = true) := Lib.hid (by rw [hSB]; exact ⟨size_st, rfl, by simp [Value.oneCell']⟩)
            have HSB := Lib.hid hSB
            clear hSB
            go_wp2_with fail
            refine (tq_Choose (choice := 64) HD.out HI1'.out HR15.out HCE.out).mono ?_
            rintro e w16 ⟨rfl, hr, hkp⟩
            have HB16 := Lib.hid (HB15.out.trans (hkp.toBelow HBR.out HB15.out.size))
            have HR16 := Lib.hid hr
            clear hr hkp
            go_wp2_with fail
            refine (tb_State HD.out HI1'.out HR16.out HSB.out).mono ?_
            rintro e w17 ⟨rfl, hb⟩
            have HB17 := Lib.hid (HB16.out.trans (hb.mono HB16.out.size))
            have HR17 := Lib.hid (HR16.out.below HR16.out.lt hb)
            clear hb
            go_upto_region 37 with (refine wpList_store_row rfl 45 (.tmp 24) (.tmp 183) rfl w17.heap.size SB rfl rfl 45 _ (Row.new _ _ _) HZB.out.1 (by rw [HZB.out.2.1]; rfl) HZB.out.2.2 ?_)
            have hb18 := below_setRow ((Below.refl w17.heap.size w17).alloc (Nat.le_refl _) (.cells zst 45)) (Nat.le_refl _) SB
            have hr18 : Row ((w17.alloc (.cells zst 45)).setRow w17.heap.size SB) w17.heap.size 45 SB := setRow_heap _ _ _ _ _ _ (Row.new _ _ _)
            change Code.wp _ _ _ _ ((w17.alloc (.cells zst 45)).setRow w17.heap.size SB)
            generalize (w17.alloc (.cells zst 45)).setRow w17.heap.size SB = w18 at *
            have HB18 := Lib.hid (HB17.out.trans (hb18.mono HB17.out.size))
            have HR18 := Lib.hid (HR17.out.below HR17.out.lt hb18)
            obtain ⟨bi, hbi⟩ : ∃ bi, w17.heap.size = bi := ⟨_, rfl⟩
            rw [hbi] at hr18 ⊢
            have HSI := Lib.hid hr18
            clear hb18 hr18 hbi
            have HCH := Lib.hid (fun (W : World) (hA : TblAt W B S1) => tb_Choices HD.out HI1'.out hA)
            rw [HCV.out, ← HV3.out] at HCH
            go_wp2_with fail
            refine (HCH.out w18 HR18.out).mono ?_
            rintro e w19 ⟨rfl, hb⟩
            have HB19 := Lib.hid (HB18.out.trans (hb.mono HB18.out.size))
            have c18 : w19.cell? ⟨bi, 18, none⟩ = some (.bool true) := by rw [(HSI.out.below HSI.out.lt hb).cell, HSB.out, ← HP1.out]; rfl
            clear hb
            go_wp2_with fail
            go_ret
            exact ⟨rfl, HB19.out⟩
          · have t1 : ((bit : Int)).tmod 8 = 7 := by rw [Int.tmod_eq_emod_of_nonneg (by omega)]; omega
            obtain ⟨z, hz0⟩ : ∃ z, v3 &&& 128 = z := ⟨_, rfl⟩
            have hze : z = ((wantV df pt op).testBit 7).toNat * 2 ^ 7 := by rw [← hz0, HV3.out]; exact and_two_pow _ 7
            have hband : bits .and .u8 (v3 : Int) 128 = (z : Int) := by
              have h := run_and8 v3 128 (by rw [HV3.out]; have := want_lt df pt op; omega) (by decide)
              rw [intBits_and] at h
              injection h with h
              injection h with _ h
              rw [← hz0]; exact h
            clear hz0 hkb
            have hce := HCC.out 7 (by omega)
            have hmb : mayB df pt op 7 = false := rfl
            have HCE := Lib.hid (show S1.chooseV 128 = (S1, 143) by rw [hce]; rfl)
            have hz : ¬ 0 < z := by rw [hze, want_bit df pt op 7 (by omega), hmb]; simp
            have HZ' := Lib.hid hz
            clear hce hze hmb
            obtain ⟨SB, hSB⟩ : ∃ SB, SB = S1.cells := ⟨_, rfl⟩
            have HZB : Hid ((Tryd.prog.info? 45).map (·.size) = some SB.size ∧ SB.size = 24 ∧ SB.all (·.oneCell') = true) := Lib.hid (by rw [hSB]; exact ⟨size_st, rfl, by simp [Value.oneCell']⟩)
            have HSB := Lib.hid hSB
            clear hSB
            go_wp2_with fail
            refine (tq_Choose (choice := 128) HD.out HI1'.out HR15.out HCE.out).mono ?_
            rintro e w16 ⟨rfl, hr, hkp⟩
            have HB16 := Lib.hid (HB15.out.trans (hkp.toBelow HBR.out HB15.out.size))
            have HR16 := Lib.hid hr
            clear hr hkp
            go_wp2_with fail
            refine (tb_State HD.out HI1'.out HR16.out HSB.out).mono ?_
            rintro e w17 ⟨rfl, hb⟩
            have HB17 := Lib.hid (HB16.out.trans (hb.mono HB16.out.size))
            have HR17 := Lib.hid (HR16.out.below HR16.out.lt hb)
            clear hb
            go_upto_region 37 with (refine wpList_store_row rfl 45 (.tmp 24) (.tmp 183) rfl w17.heap.size SB rfl rfl 45 _ (Row.new _ _ _) HZB.out.1 (by rw [HZB.out.2.1]; rfl) HZB.out.2.2 ?_)
            have hb18 := below_setRow ((Below.refl w17.heap.size w17).alloc (Nat.le_refl _) (.cells zst 45)) (Nat.le_refl _) SB
            have hr18 : Row ((w17.alloc (.cells zst 45)).setRow w17.heap.size SB) w17.heap.size 45 SB := setRow_heap _ _ _ _ _ _ (Row.new _ _ _)
            change Code.wp _ _ _ _ ((w17.alloc (.cells zst 45)).setRow w17.heap.size SB)
            generalize (w17.alloc (.cells zst 45)).setRow w17.heap.size SB = w18 at *
            have HB18 := Lib.hid (HB17.out.trans (hb18.mono HB17.out.size))
            have HR18 := Lib.hid (HR17.out.below HR17.out.lt hb18)
            obtain ⟨bi, hbi⟩ : ∃ bi, w17.heap.size = bi := ⟨_, rfl⟩
            rw [hbi] at hr18 ⊢
            have HSI := Lib.hid hr18
            clear hb18 hr18 hbi
            have HCH := Lib.hid (fun (W : World) (hA : TblAt W B S1) => tb_Choices HD.out HI1'.out hA)
            rw [HCV.out, ← HV3.out] at HCH
            go_wp2_with fail
            refine (HCH.out w18 HR18.out).mono ?_
            rintro e w19 ⟨rfl, hb⟩
            have HB19 := Lib.hid (HB18.out.trans (hb.mono HB18.out.size))
            have c18 : w19.cell? ⟨bi, 18, none⟩ = some (.bool true) := by rw [(HSI.out.below HSI.out.lt hb).cell, HSB.out, ← HP1.out]; rfl
            clear hb
            go_wp2_with fail
            go_ret
            exact ⟨rfl, HB19.out⟩
end Go.Proofs.YtgnlmodaekfhfaaDoor
