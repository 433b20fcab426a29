/- finesselaw14.LeadPenalty over this seat's program. -/
import Derived.Test.YtgnlmodaekfhfaaDoorLdPn
import Derived.Test.YtgnlmodaekfhfaaDoorLdR
namespace Go.Proofs.YtgnlmodaekfhfaaDoor
open Go.RowKit Go.Shelf Go.Sort

set_option maxHeartbeats 4000000 in
set_option maxRecDepth 10000 in
theorem law_LeadPenalty (x : Sk) (ao : Option Addr) (lo co : Nat) (al : Option Addr) (ll cl : Nat) (zs : List AcT) (w : World) (hx0 : x.size < 256) (hx1 : x.trumps < 256) (hx2 : x.decl < 256) (hz : Byt w ao lo x.order) (hzl : Acts w al ll zs) (hll : ll ≤ cl) (hT : Tab w) :
    Calls Tryd.prog 10 #[.agg (x.cells ao lo co), .slice al ll cl] w fun e w' => e = .returned (.bool true) ∧ Below w.heap.size w w' := by
  have HT0 := Lib.hid hT
  have hd := x.deal
  have HMK := Lib.hid (fun (W : World) (hb : Below w.heap.size w W) => law_Made x ao lo co W (hz.below (Nat.le_refl _) hb) hx0 hx1 hx2)
  obtain ⟨tm, htm⟩ : ∃ tm, x.trumps % 5 = tm := ⟨_, rfl⟩
  obtain ⟨dc, hdc⟩ : ∃ dc, x.decl % 4 = dc := ⟨_, rfl⟩
  have htm4 : tm ≤ 4 := by omega
  have hdc4 : dc < 4 := by omega
  rw [htm, hdc] at HMK
  have hnle := x.n_le.2
  have hw64 := x.w64
  generalize x.h = d at *
  generalize x.n = n at *
  have HD := Lib.hid hd
  have HW64 := Lib.hid (fun (i : Nat) (hi : i < 4) => w64_52 (hd.lt i hi))
  obtain ⟨DA, hDA⟩ : ∃ DA, DA = arr4 d := ⟨_, rfl⟩
  have HDA := Lib.hid hDA
  have HDZ : Hid ((Tryd.prog.info? 29).map (·.size) = some DA.size ∧ DA.size = 4 ∧ DA.all (·.oneCell') = true) := Lib.hid (by rw [hDA]; exact ⟨size_deal14, rfl, by simp [arr4, Value.oneCell']⟩)
  rw [← hDA] at HMK
  obtain ⟨XC, hXC⟩ : ∃ XC, XC = x.cells ao lo co := ⟨_, rfl⟩
  have HXZ : Hid ((Tryd.prog.info? 24).map (·.size) = some XC.size) := Lib.hid (by rw [hXC]; exact size_sk14)
  rw [← hXC] at HMK ⊢
  clear hXC hDA hT hz htm hdc hd
  have HNW := Lib.hid (fun W => ld_New_ok HD.out hw64 tm dc htm4 (by omega) W)
  have hda : #[.int .u64 (d 0 : Int), .int .u64 (d 1 : Int), .int .u64 (d 2 : Int), .int .u64 (d 3 : Int)] = DA := HDA.out.symm
  rw [hda] at HNW
  clear hda hw64
  have i0 := SInv.new HD.out (tm := tm) (dc := dc) htm4 hdc4
  obtain ⟨S0, hS0⟩ : ∃ S0, St.new d tm dc = S0 := ⟨_, rfl⟩
  rw [hS0] at i0 HNW
  have HI0 := Lib.hid i0
  clear i0 hS0
  have HAC := Lib.hid hzl
  have hlen := hzl.length
  have hsmall := hzl.small
  clear hzl
  have hb0 := (Below.refl w.heap.size w).alloc (Nat.le_refl _) (.cells XC 24)
  have hx0' : Row (w.alloc (.cells XC 24)) w.heap.size 24 XC := Row.new _ _ _
  go_enter Tryd.func10, Tryd.ntmps10
  go_upto_region 1 with fail
  generalize w.alloc (.cells XC 24) = w0 at *
  obtain ⟨bx, hbx⟩ : ∃ bx, w.heap.size = bx := ⟨_, rfl⟩
  have HB0 := Lib.hid hb0
  have HX0 := Lib.hid hx0'
  rw [hbx] at HX0
  have HBX := Lib.hid hbx
  clear hb0 hx0'
  rw [hbx]
  clear hbx
  have HT1 := Lib.hid (HT0.out.below HT0.out.pos HB0.out)
  go_wp2_with fail
  refine (law_awake14 _ HT1.out).mono ?_
  rintro e w1 ⟨rfl, hb⟩
  have HB1 := Lib.hid (HB0.out.trans (hb.mono HB0.out.size))
  have HX1 := Lib.hid (HX0.out.below HX0.out.lt hb)
  clear hb
  go_wp2_with (refine wpList_load_row rfl 24 (.tmp 2) rfl bx rfl 24 XC (0, 0) _ HX1.out Tryd.underlying24 rfl HXZ.out ?_)
  refine (HMK.out w1 HB1.out).mono ?_
  rintro e w2 ⟨rfl, hb⟩
  have HB2 := Lib.hid (HB1.out.trans (hb.mono HB1.out.size))
  clear hb
  go_upto_region 4 with (refine wpList_store_row rfl 29 (.tmp 5) (.tmp 25) rfl w2.heap.size DA rfl rfl 29 _ (Row.new _ _ _) HDZ.out.1 (by rw [HDZ.out.2.1]; rfl) HDZ.out.2.2 ?_)
  have hb3 := below_setRow (HB2.out.alloc HB2.out.size (.cells #[.int .u64 0, .int .u64 0, .int .u64 0, .int .u64 0] 29)) HB2.out.size DA
  have hr3 : Row ((w2.alloc (.cells #[.int .u64 0, .int .u64 0, .int .u64 0, .int .u64 0] 29)).setRow w2.heap.size DA) w2.heap.size 29 DA := setRow_heap _ _ _ _ _ _ (Row.new _ _ _)
  generalize (w2.alloc (.cells #[.int .u64 0, .int .u64 0, .int .u64 0, .int .u64 0] 29)).setRow w2.heap.size DA = w3 at *
  obtain ⟨bd, hbd⟩ : ∃ bd, w2.heap.size = bd := ⟨_, rfl⟩
  have HBD : Hid (w.heap.size ≤ bd) := Lib.hid (by rw [← hbd]; exact HB2.out.size)
  rw [hbd] at hr3 ⊢
  have HB3 := Lib.hid hb3
  have HD3 := Lib.hid hr3
  have HT3 := Lib.hid (HT0.out.below HT0.out.pos HB3.out)
  clear hb3 hr3 hbd
  go_wp2_with (refine wpList_load_row rfl 29 (.tmp 5) rfl bd rfl 29 DA (0, 0) _ HD3.out Tryd.underlying29 rfl HDZ.out.1 ?_)
  refine (HNW.out w3).mono ?_
  rintro e w4 ⟨B, rfl, hBB, hr, hb⟩
  have HBR : Hid (w.heap.size ≤ B) := Lib.hid (Nat.le_trans HB3.out.size hBB)
  have HNDR : Hid (bd < B) := Lib.hid (Nat.lt_of_lt_of_le HD3.out.lt hBB)
  have HB4 := Lib.hid (HB3.out.trans (hb.mono HB3.out.size))
  have HR4 := Lib.hid hr
  have HD4 := Lib.hid (HD3.out.below HD3.out.lt hb)
  have HT4 := Lib.hid (HT0.out.below HT0.out.pos HB4.out)
  clear hb hr hBB
  obtain ⟨m, hm⟩ : ∃ m, m = min ll 60 := ⟨_, rfl⟩
  have hm1 : m ≤ ll := by omega
  have hm2 : m ≤ 60 := by omega
  have hmc : (m : Int) ≤ (cl : Int) := by omega
  have hm0 : (0 : Int) ≤ (m : Int) := by omega
  have hmI : (if (60 : Int) < (ll : Int) then (60 : Int) else (ll : Int)) = (m : Int) := by split <;> omega
  have HM := Lib.hid hm
  clear hm
  go_upto_region 8 with fail
  clear hmI
  obtain ⟨S0', hS0'⟩ : ∃ q, q = runV S0 (zs.take 0) := ⟨_, rfl⟩
  go_loopw [47] (fun i wr => ∃ k : Nat, k ≤ m ∧ i = .int .i64 (k : Int) ∧ TblAt wr B (runV S0 (zs.take k)) ∧ Below w.heap.size w wr) (fun i _ => m - (intOf i).toNat)
  case atStart => exact ⟨0, by omega, rfl, HR4.out, HB4.out⟩
  case round =>
    obtain ⟨k, hk, rfl, hr, hB⟩ := hrel
    by_cases hlt : k < m
    · have hkl : k < zs.length := by omega
      have hse : runV S0 (zs.take (k + 1)) = (doesV (runV S0 (zs.take k)) zs[k]).1.1 := runV_take S0 zs k hkl
      have HSE := Lib.hid hse
      have hix := SInv.run HD.out (zs.take k) S0 HI0.out
      generalize runV S0 (zs.take k) = s at *
      have hak : zs[k]? = some zs[k] := List.getElem?_eq_getElem hkl
      have hok := HAC.out.ok k _ hak
      obtain ⟨ba, off, hal, hba, hcc⟩ : ∃ b off, al = some ⟨b, off, none⟩ ∧ b < w.heap.size ∧ ∀ (i : Nat) x, zs[i]? = some x → ∀ j, j < 3 → w.cell? ⟨b, off + i * 3 + j, none⟩ = x.cells[j]? := by
        rcases HAC.out.cells with h0 | h
        · omega
        · exact h
      subst hal
      have hc0 := hcc k _ hak
      obtain ⟨a, ha⟩ : ∃ a, a = zs[k] := ⟨_, rfl⟩
      rw [← ha] at hok hc0 HSE
      have HA := Lib.hid ha
      have HIX := Lib.hid hix
      have HOK := Lib.hid hok
      have hbc : ∀ j, j < 3 → wr.cell? ⟨ba, off + k * 3 + j, none⟩ = a.cells[j]? := fun j hj => (World.cell?_of_block (a := ⟨ba, off + k * 3 + j, none⟩) (hB.block ba hba)).trans (hc0 j hj)
      have c0 := hbc 0 (by omega)
      have c1 := hbc 1 (by omega)
      have c2 := hbc 2 (by omega)
      simp only [List.getElem?_toArray, List.getElem?_cons_zero, List.getElem?_cons_succ, Nat.add_zero] at c0 c1 c2
      have hkm : (k : Int) < (m : Int) := by omega
      clear hak hcc hc0 hbc ha hix hok hse
      have hW5 := hB.alloc hB.size (.cells a.cells 41)
      have hR5 := hr.alloc (.cells a.cells 41)
      go_upto_region 10 with fail
      have hRA : Row (wr.alloc (.cells a.cells 41)) wr.heap.size 41 a.cells := Row.new _ _ _
      generalize wr.alloc (.cells a.cells 41) = w5 at *
      clear c0 c1 c2
      have d0 := hRA.cell 0
      have d1 := hRA.cell 1
      have d2 := hRA.cell 2
      simp only [List.getElem?_toArray, List.getElem?_cons_zero, List.getElem?_cons_succ] at d0 d1 d2
      go_wp2_with fail
      refine (law_does HD.out HIX.out HOK.out hR5 (HT0.out.below HT0.out.pos hW5)).mono ?_
      rintro e w6 ⟨rfl, hr6, hk6⟩
      have hi6 := HIX.out.does HD.out a
      have hB6 := hW5.trans (hk6.toBelow HBR.out hW5.size)
      rw [← HSE.out] at hr6 hi6
      obtain ⟨t, htt⟩ : ∃ t, runV S0 (zs.take (k + 1)) = t := ⟨_, rfl⟩
      rw [htt] at hr6 hi6
      have HTT := Lib.hid htt
      clear htt
      have HB6 := Lib.hid hB6
      have HR6 := Lib.hid hr6
      have HI6 := Lib.hid hi6
      clear hr6 hk6 hi6 hB6 hW5 hR5 hr hB HIX hRA d0 d1 d2
      obtain ⟨SA, hSA⟩ : ∃ SA, SA = t.cells := ⟨_, rfl⟩
      have HZ : Hid ((Tryd.prog.info? 45).map (·.size) = some SA.size ∧ SA.size = 24 ∧ SA.all (·.oneCell') = true) := Lib.hid (by rw [hSA]; exact ⟨size_st, rfl, by simp [Value.oneCell']⟩)
      have HSA := Lib.hid hSA
      clear hSA
      go_wp2_with fail
      refine (tb_State HD.out HI6.out HR6.out HSA.out).mono ?_
      rintro e w7 ⟨rfl, hb⟩
      have HB7 := Lib.hid (HB6.out.trans (hb.mono HB6.out.size))
      have HR7 := Lib.hid (HR6.out.below HR6.out.lt hb)
      clear hb
      go_upto_region 12 with (refine wpList_store_row rfl 45 (.tmp 12) (.tmp 55) rfl w7.heap.size SA rfl rfl 45 _ (Row.new _ _ _) HZ.out.1 (by rw [HZ.out.2.1]; rfl) HZ.out.2.2 ?_)
      have hb8 := below_setRow ((Below.refl w7.heap.size w7).alloc (Nat.le_refl _) (.cells zst 45)) (Nat.le_refl _) SA
      have hr8 : Row ((w7.alloc (.cells zst 45)).setRow w7.heap.size SA) w7.heap.size 45 SA := setRow_heap _ _ _ _ _ _ (Row.new _ _ _)
      change Code.wp _ _ _ _ ((w7.alloc (.cells zst 45)).setRow w7.heap.size SA)
      generalize (w7.alloc (.cells zst 45)).setRow w7.heap.size SA = w8 at *
      have HB8 := Lib.hid (HB7.out.trans (hb8.mono HB7.out.size))
      have HR8 := Lib.hid (HR7.out.below HR7.out.lt hb8)
      have HS8 := Lib.hid hr8
      obtain ⟨bs, hbs⟩ : ∃ bs, w7.heap.size = bs := ⟨_, rfl⟩
      rw [hbs] at HS8 ⊢
      clear hb8 hr8 hbs
      by_cases ht0 : t.turnV.2 = 0
      rotate_left
      · have hne : (((t.turnV.2 : Nat) : Int) != 0) = true := by rw [bne_iff_ne]; omega
        have HTU := Lib.hid (tb_Turn HD.out HI6.out HR8.out)
        clear ht0
        generalize t.turnV.2 = e2 at *
        generalize t.turnV.1 = e1 at *
        go_wp2_with fail
        refine HTU.out.mono ?_
        rintro e w9 ⟨rfl, hb⟩
        go_wp2_with fail
        go_roundw
        case rel => exact ⟨k + 1, by omega, by go_num, by rw [HTT.out]; exact HR8.out.below HR8.out.lt hb, HB8.out.trans (hb.mono HB8.out.size)⟩
        case measure => simp [intOf]; omega
      obtain ⟨hv, hpk, hl0, -, hlh⟩ := pen_plain HI6.out ht0
      have HTU := Lib.hid (tb_Turn HD.out HI6.out HR8.out)
      rw [hv] at HTU
      clear ht0 hv
      go_wp2_with fail
      refine HTU.out.mono ?_
      rintro e w9 ⟨rfl, hb⟩
      have HB9 := Lib.hid (HB8.out.trans (hb.mono HB8.out.size))
      have HR9 := Lib.hid (HR8.out.below HR8.out.lt hb)
      have HS9 := Lib.hid (HS8.out.below HS8.out.lt hb)
      clear hb HTU
      obtain ⟨u, hu⟩ : ∃ u, t.turn = u := ⟨_, rfl⟩
      have hu4 : u < 4 := by rw [← hu]; exact t.turn_lt
      have hcd : canP t = if 0 < t.ct then (if 0 < land (t.h u) (sm (t.cs 0 / 13)) then land (t.h u) (sm (t.cs 0 / 13)) else t.h u) else if 0 < t.must ||| t.nt then t.legal else t.h u := by unfold canP; rw [hu]
      have hok := HI6.out.ok
      have hwM := w64_52 (hok.h u hu4)
      have hwP := w64_52 (hok.pn u hu4)
      have hwL := legal_w64 hok
      have hcs := hok.cs 0 (by omega)
      have hmu := hok.must
      have hnt := hok.nt
      have HLG := Lib.hid (fun (W : World) (hb : Below w9.heap.size w9 W) => tb_Legal HD.out HI6.out (HR9.out.below HR9.out.lt hb) (HT0.out.below HT0.out.pos (HB9.out.trans (hb.mono HB9.out.size))))
      have ch : w9.cell? ⟨bs, u, none⟩ = some (.int .u64 (t.h u : Int)) := by rw [HS9.out.cell, HSA.out, st_hget t u hu4]
      have cp : w9.cell? ⟨bs, 4 + u, none⟩ = some (.int .u64 (t.pn u : Int)) := by rw [HS9.out.cell, HSA.out, st_pget t u hu4]
      have c11 : w9.cell? ⟨bs, 11, none⟩ = some (.int .u8 (t.ct : Int)) := by rw [HS9.out.cell, HSA.out]; rfl
      have c12 : w9.cell? ⟨bs, 12, none⟩ = some (.int .u8 (t.cs 0 : Int)) := by rw [HS9.out.cell, HSA.out]; rfl
      have c20 : w9.cell? ⟨bs, 20, none⟩ = some (.int .u8 (t.must : Int)) := by rw [HS9.out.cell, HSA.out]; rfl
      have c21 : w9.cell? ⟨bs, 21, none⟩ = some (.int .u8 (t.nt : Int)) := by rw [HS9.out.cell, HSA.out]; rfl
      rw [hu] at hpk hlh ⊢
      clear hu hok
      have HPK := Lib.hid hpk
      have HLH := Lib.hid hlh
      have HL0 := Lib.hid hl0
      have HCD := Lib.hid hcd
      clear hpk hlh hl0 hcd
      generalize canP t = C at *
      generalize t.h u = M at *
      generalize t.pn u = p at *
      generalize t.legal = lg at *
      generalize t.ct = ct at *
      generalize t.cs 0 = c0 at *
      generalize t.must = mu at *
      generalize t.nt = nt at *
      have rch := fun dd os => cell_regrown ch dd os
      have hu4I : (u : Int) < 4 := by omega
      go_upto_region 14 with fail
      refine wp_region_quiet_below (by kernel_rfl) (by kernel_rfl) ?_
      repeat (first | quiet_step (with_reducible exact Calls.regrown_of (HLG.out _ (below_regrown _ _ _))))
      refine wpQuiet_nil ?_
      rintro _ ⟨y, rfl⟩
      have hb10 := below_regrown w9 y.d y.os
      have cp' := cell_regrown cp y.d y.os
      have c11' := cell_regrown c11 y.d y.os
      have c12' := cell_regrown c12 y.d y.os
      have c20' := cell_regrown c20 y.d y.os
      have c21' := cell_regrown c21 y.d y.os
      generalize grow (redrawn w9 y.d) y.os = w10 at *
      have HB10 := Lib.hid (HB9.out.trans (hb10.mono HB9.out.size))
      have HR10 := Lib.hid (HR9.out.below HR9.out.lt hb10)
      clear hb10 rch ch cp c11 c12 c20 c21
      obtain ⟨q, hq⟩ : ∃ q, c0 / 13 = q := ⟨_, rfl⟩
      have hq4 : q < 4 := by omega
      have q1 : ((c0 : Int)).tdiv 13 = (q : Int) := by rw [Int.tdiv_eq_ediv_of_nonneg (by omega)]; omega
      have q2 : IntKind.u8.wrap (q : Int) = (q : Int) := by rw [IntKind.wrap_u8]; omega
      have q3 : IntKind.u8.wrap ((q : Int) * 13) = ((13 * q : Nat) : Int) := by rw [IntKind.wrap_u8]; omega
      have sh := sm_shl q hq4
      have hws := w64_52 (sm_lt hq4)
      have ob := bits_or8 mu nt (by omega) (by omega)
      rw [hq] at HCD
      clear hq
      have HPK : Hid ((if land C p ≠ 0 then land C p else C) = lg) := HPK
      generalize sm q = K at *
      by_cases hct : 0 < ct
      · rw [if_pos hct] at HCD
        by_cases hlm : 0 < land M K
        · rw [if_pos hlm] at HCD
          rw [HCD.out] at HPK
          by_cases hpp : land (land M K) p ≠ 0
          · rw [if_pos hpp] at HPK
            have hgp : 0 < land (land M K) p := Nat.pos_of_ne_zero hpp
            clear hpp
            obtain rfl := HPK.out
            have hz : ¬ land (land M K) p = 0 := HL0.out
            have hn : ¬ 0 < landn (land (land M K) p) M := by rw [HLH.out]; exact Nat.lt_irrefl 0
            go_wp2_with fail
            go_roundw
            case rel => exact ⟨k + 1, by omega, by go_num, by rw [HTT.out]; exact HR10.out, HB10.out⟩
            case measure => simp [intOf]; omega
          · rw [if_neg hpp] at HPK
            have hgp : ¬ 0 < land (land M K) p := fun h => hpp (Nat.ne_of_gt h)
            clear hpp
            obtain rfl := HPK.out
            have hz : ¬ land M K = 0 := HL0.out
            have hn : ¬ 0 < landn (land M K) M := by rw [HLH.out]; exact Nat.lt_irrefl 0
            go_wp2_with fail
            go_roundw
            case rel => exact ⟨k + 1, by omega, by go_num, by rw [HTT.out]; exact HR10.out, HB10.out⟩
            case measure => simp [intOf]; omega
        · rw [if_neg hlm] at HCD
          rw [HCD.out] at HPK
          by_cases hpp : land M p ≠ 0
          · rw [if_pos hpp] at HPK
            have hgp : 0 < land (M) p := Nat.pos_of_ne_zero hpp
            clear hpp
            obtain rfl := HPK.out
            have hz : ¬ land (M) p = 0 := HL0.out
            have hn : ¬ 0 < landn (land (M) p) M := by rw [HLH.out]; exact Nat.lt_irrefl 0
            go_wp2_with fail
            go_roundw
            case rel => exact ⟨k + 1, by omega, by go_num, by rw [HTT.out]; exact HR10.out, HB10.out⟩
            case measure => simp [intOf]; omega
          · rw [if_neg hpp] at HPK
            have hgp : ¬ 0 < land (M) p := fun h => hpp (Nat.ne_of_gt h)
            clear hpp
            obtain rfl := HPK.out
            have hz : ¬ M = 0 := HL0.out
            have hn : ¬ 0 < landn (M) M := by rw [HLH.out]; exact Nat.lt_irrefl 0
            go_wp2_with fail
            go_roundw
            case rel => exact ⟨k + 1, by omega, by go_num, by rw [HTT.out]; exact HR10.out, HB10.out⟩
            case measure => simp [intOf]; omega
      · rw [if_neg hct] at HCD
        by_cases hlm : 0 < mu ||| nt
        · rw [if_pos hlm] at HCD
          rw [HCD.out] at HPK
          have hlm2 : 0 < mu ∨ 0 < nt := by
            rcases Nat.eq_zero_or_pos mu with h1 | h1
            · rcases Nat.eq_zero_or_pos nt with h2 | h2
              · rw [h1, h2] at hlm; exact absurd hlm (by decide)
              · exact .inr h2
            · exact .inl h1
          clear hlm
          by_cases hpp : land lg p ≠ 0
          · rw [if_pos hpp] at HPK
            have hgp : 0 < land (lg) p := Nat.pos_of_ne_zero hpp
            clear hpp
            have hgn : ((lg : Int) != ((land lg p : Nat) : Int)) = false := by rw [HPK.out]; simp
            have hgn2 : land lg p = lg := HPK.out
            have hz : ¬ lg = 0 := HL0.out
            have hn : ¬ 0 < landn (lg) M := by rw [HLH.out]; exact Nat.lt_irrefl 0
            go_wp2_with fail
            go_roundw
            case rel => exact ⟨k + 1, by omega, by go_num, by rw [HTT.out]; exact HR10.out, HB10.out⟩
            case measure => simp [intOf]; omega
          · rw [if_neg hpp] at HPK
            have hgp : ¬ 0 < land (lg) p := fun h => hpp (Nat.ne_of_gt h)
            clear hpp
            have hz : ¬ lg = 0 := HL0.out
            have hn : ¬ 0 < landn (lg) M := by rw [HLH.out]; exact Nat.lt_irrefl 0
            go_wp2_with fail
            go_roundw
            case rel => exact ⟨k + 1, by omega, by go_num, by rw [HTT.out]; exact HR10.out, HB10.out⟩
            case measure => simp [intOf]; omega
        · rw [if_neg hlm] at HCD
          rw [HCD.out] at HPK
          obtain ⟨hm1', hm2'⟩ := or_zero (Nat.eq_zero_of_not_pos hlm)
          clear hlm
          subst hm1' hm2'
          by_cases hpp : land M p ≠ 0
          · rw [if_pos hpp] at HPK
            have hgp : 0 < land (M) p := Nat.pos_of_ne_zero hpp
            clear hpp
            obtain rfl := HPK.out
            have hz : ¬ land (M) p = 0 := HL0.out
            have hn : ¬ 0 < landn (land (M) p) M := by rw [HLH.out]; exact Nat.lt_irrefl 0
            go_wp2_with fail
            go_roundw
            case rel => exact ⟨k + 1, by omega, by go_num, by rw [HTT.out]; exact HR10.out, HB10.out⟩
            case measure => simp [intOf]; omega
          · rw [if_neg hpp] at HPK
            have hgp : ¬ 0 < land (M) p := fun h => hpp (Nat.ne_of_gt h)
            clear hpp
            obtain rfl := HPK.out
            have hz : ¬ M = 0 := HL0.out
            have hn : ¬ 0 < landn (M) M := by rw [HLH.out]; exact Nat.lt_irrefl 0
            go_wp2_with fail
            go_roundw
            case rel => exact ⟨k + 1, by omega, by go_num, by rw [HTT.out]; exact HR10.out, HB10.out⟩
            case measure => simp [intOf]; omega
    · have hkm : k = m := by omega
      subst hkm
      go_wp2_with fail
      go_ret
      exact ⟨rfl, hB⟩
end Go.Proofs.YtgnlmodaekfhfaaDoor
