/- The body of PlaySmall returns true. -/
import Derived.Test.YtginbellakkliaaDoorRrL
import Derived.Test.YtginbellakkliaaDoorRrQ
import Derived.Test.YtginbellakkliaaDoorRrH
import Derived.Test.YtginbellakkliaaDoorRrS0
import Derived.Test.YtginbellakkliaaDoorPyO
namespace Go.Proofs.YtginbellakkliaaDoor
open Go.RowKit Go.Shelf Go.Sort Go.Maps Go.WideMaps
attribute [local go_sem] Oper.semAt_some
theorem below_lines {w w' : World} (h : Kept (fun g => g < w.heap.size) w w') : Below w.heap.size w w' := ⟨h.os, h.tape, h.output, h.size, fun k hk => h.block k hk hk⟩
theorem below_lines2 {w w' w'' : World} {N : Nat} (hb : Below w.heap.size w w') (h : Kept (fun g => g < N) w' w'') (hN : w.heap.size ≤ N) : Below w.heap.size w w'' :=
  ⟨h.os.trans hb.os, h.tape.trans hb.tape, h.output.trans hb.output, Nat.le_trans hb.size h.size, fun k hk => (h.block k (Nat.lt_of_lt_of_le hk hN) (Nat.lt_of_lt_of_le hk hb.size)).trans (hb.block k hk)⟩
theorem acts6 (W : World) (i : Nat) (hi : i < 256) : ActsP (W.alloc (.cells #[.int .u8 7, .int .u8 (i : Int), .int .u8 0, .int .u8 255, .int .u8 7, .int .u8 0, .int .u8 5, .int .u8 0, .int .u8 6, .int .u8 0, .int .u8 6, .int .u8 0] 77)) (some ⟨W.heap.size, 0, none⟩) 6 [⟨7, i⟩, ⟨0, 255⟩, ⟨7, 0⟩, ⟨5, 0⟩, ⟨6, 0⟩, ⟨6, 0⟩] := by
  refine ⟨rfl, by omega, fun k x hx => ?_, .inr ⟨W.heap.size, 0, rfl, by simp, fun k x hx j hj => ?_⟩⟩
  · have hk : k < 6 := (List.getElem?_eq_some_iff.1 hx).1
    rcases (show k = 0 ∨ k = 1 ∨ k = 2 ∨ k = 3 ∨ k = 4 ∨ k = 5 by omega) with rfl | rfl | rfl | rfl | rfl | rfl <;> (obtain rfl := Option.some.inj hx; exact ⟨by simp, by simp; try omega⟩)
  · have hk : k < 6 := (List.getElem?_eq_some_iff.1 hx).1
    have hr := Row.new W 77 #[.int .u8 7, .int .u8 (i : Int), .int .u8 0, .int .u8 255, .int .u8 7, .int .u8 0, .int .u8 5, .int .u8 0, .int .u8 6, .int .u8 0, .int .u8 6, .int .u8 0]
    rw [Nat.zero_add, hr.cell]
    rcases (show k = 0 ∨ k = 1 ∨ k = 2 ∨ k = 3 ∨ k = 4 ∨ k = 5 by omega) with rfl | rfl | rfl | rfl | rfl | rfl <;> (obtain rfl := Option.some.inj hx; rcases (show j = 0 ∨ j = 1 by omega) with rfl | rfl <;> rfl)
set_option maxHeartbeats 8000000 in
set_option maxRecDepth 10000 in
theorem law_PlaySmall (w : World) (hT : Tab w) : Calls Tryd.prog 10 #[] w fun e w' => e = .returned (.bool true) ∧ Below w.heap.size w w' := by
  have HT := Lib.hid hT
  clear hT
  go_enter Tryd.func10, Tryd.ntmps10
  go_wp2_with fail
  refine (law12_example w).mono ?_
  rintro e w1 ⟨rfl, hb1⟩
  have HB1 := Lib.hid hb1
  clear hb1
  go_upto_region 3 with fail
  have hr2 := Row.new (w1.alloc (.cells #[.int .u64 8193, .int .u64 16386, .int .u64 32772, .int .u64 33558528] 26)) 28 #[.int .u8 1, .int .u8 4, .int .u8 0, .int .u8 2]
  rw [show (w1.alloc (.cells #[.int .u64 8193, .int .u64 16386, .int .u64 32772, .int .u64 33558528] 26)).heap.size = w1.heap.size + 1 by simp] at hr2
  have hr4 := Row.new ((w1.alloc (.cells #[.int .u64 8193, .int .u64 16386, .int .u64 32772, .int .u64 33558528] 26)).alloc (.cells #[.int .u8 1, .int .u8 4, .int .u8 0, .int .u8 2] 28)) 26 #[.int .u64 8193, .int .u64 16386, .int .u64 32772, .int .u64 33558528, .int .u64 16385, .int .u64 67117056, .int .u64 134217730, .int .u64 2252899325313024, .int .u64 3, .int .u64 12, .int .u64 48, .int .u64 192, .int .u64 549755813889, .int .u64 1099578736640, .int .u64 2199023263744, .int .u64 4398180728832]
  rw [show ((w1.alloc (.cells #[.int .u64 8193, .int .u64 16386, .int .u64 32772, .int .u64 33558528] 26)).alloc (.cells #[.int .u8 1, .int .u8 4, .int .u8 0, .int .u8 2] 28)).heap.size = w1.heap.size + 1 + 1 by simp] at hr4
  have HRC := Lib.hid (hr2.alloc (.cells #[.int .u64 8193, .int .u64 16386, .int .u64 32772, .int .u64 33558528, .int .u64 16385, .int .u64 67117056, .int .u64 134217730, .int .u64 2252899325313024, .int .u64 3, .int .u64 12, .int .u64 48, .int .u64 192, .int .u64 549755813889, .int .u64 1099578736640, .int .u64 2199023263744, .int .u64 4398180728832] 26))
  have HR4 := Lib.hid hr4
  have HB2 := Lib.hid (HB1.out.trans (((((Below.refl w1.heap.size w1).alloc (Nat.le_refl _) (.cells #[.int .u64 8193, .int .u64 16386, .int .u64 32772, .int .u64 33558528] 26)).alloc (by simp) (.cells #[.int .u8 1, .int .u8 4, .int .u8 0, .int .u8 2] 28)).alloc (by simp; omega) (.cells #[.int .u64 8193, .int .u64 16386, .int .u64 32772, .int .u64 33558528, .int .u64 16385, .int .u64 67117056, .int .u64 134217730, .int .u64 2252899325313024, .int .u64 3, .int .u64 12, .int .u64 48, .int .u64 192, .int .u64 549755813889, .int .u64 1099578736640, .int .u64 2199023263744, .int .u64 4398180728832] 26)).mono HB1.out.size))
  clear hr2 hr4
  change Code.wp _ _ _ _ (((w1.alloc (.cells #[.int .u64 8193, .int .u64 16386, .int .u64 32772, .int .u64 33558528] 26)).alloc (.cells #[.int .u8 1, .int .u8 4, .int .u8 0, .int .u8 2] 28)).alloc (.cells #[.int .u64 8193, .int .u64 16386, .int .u64 32772, .int .u64 33558528, .int .u64 16385, .int .u64 67117056, .int .u64 134217730, .int .u64 2252899325313024, .int .u64 3, .int .u64 12, .int .u64 48, .int .u64 192, .int .u64 549755813889, .int .u64 1099578736640, .int .u64 2199023263744, .int .u64 4398180728832] 26))
  generalize ((w1.alloc (.cells #[.int .u64 8193, .int .u64 16386, .int .u64 32772, .int .u64 33558528] 26)).alloc (.cells #[.int .u8 1, .int .u8 4, .int .u8 0, .int .u8 2] 28)).alloc (.cells #[.int .u64 8193, .int .u64 16386, .int .u64 32772, .int .u64 33558528, .int .u64 16385, .int .u64 67117056, .int .u64 134217730, .int .u64 2252899325313024, .int .u64 3, .int .u64 12, .int .u64 48, .int .u64 192, .int .u64 549755813889, .int .u64 1099578736640, .int .u64 2199023263744, .int .u64 4398180728832] 26) = w2 at *
  obtain ⟨b1, hb1⟩ : ∃ b, w1.heap.size = b := ⟨_, rfl⟩
  obtain ⟨b2, hb2⟩ : ∃ b, w1.heap.size + 1 = b := ⟨_, rfl⟩
  obtain ⟨g4, hg4⟩ : ∃ b, w1.heap.size + 1 + 1 = b := ⟨_, rfl⟩
  rw [hg4] at HR4 ⊢
  rw [hb2] at HRC ⊢
  rw [hb1]
  clear hb1 hb2 hg4 HB1
  go_loopg [26] 4 (fun g iv wr => ∃ (i : Nat), g = 4 - i ∧ i ≤ 4 ∧ iv = .int .i64 (i : Int) ∧ Below w2.heap.size w2 wr)
  case atStart => exact ⟨0, rfl, by omega, rfl, Below.refl _ _⟩
  case round =>
    obtain ⟨i, rfl, hi, rfl, hbr⟩ := hrel
    have HBR := Lib.hid hbr
    clear hbr
    by_cases hlt : i < 4
    · have hd : decide (i < 4) = true := by simp; omega
      have hiI : (i : Int) < 4 := by omega
      have a0 : wr.cell? ⟨g4, i * 4, none⟩ = some (.int .u64 (smD i 0 : Int)) := (HBR.out.cell (p := ⟨g4, i * 4, none⟩) HR4.out.lt).trans ((HR4.out.cell (i * 4)).trans (smD_get i 0 hlt (by decide)))
      have a1 : wr.cell? ⟨g4, i * 4 + 1, none⟩ = some (.int .u64 (smD i 1 : Int)) := (HBR.out.cell (p := ⟨g4, i * 4 + 1, none⟩) HR4.out.lt).trans ((HR4.out.cell (i * 4 + 1)).trans (smD_get i 1 hlt (by decide)))
      have a2 : wr.cell? ⟨g4, i * 4 + 2, none⟩ = some (.int .u64 (smD i 2 : Int)) := (HBR.out.cell (p := ⟨g4, i * 4 + 2, none⟩) HR4.out.lt).trans ((HR4.out.cell (i * 4 + 2)).trans (smD_get i 2 hlt (by decide)))
      have a3 : wr.cell? ⟨g4, i * 4 + 3, none⟩ = some (.int .u64 (smD i 3 : Int)) := (HBR.out.cell (p := ⟨g4, i * 4 + 3, none⟩) HR4.out.lt).trans ((HR4.out.cell (i * 4 + 3)).trans (smD_get i 3 hlt (by decide)))
      have HD4 := Lib.hid (smD_ok i hlt)
      have HDW := Lib.hid (smD_w64 i hlt)
      obtain ⟨dl, hdl⟩ : ∃ z, smD i = z := ⟨_, rfl⟩
      rw [hdl] at a0 a1 a2 a3 HD4 HDW
      clear hdl
      have HRD := Lib.hid (Row.new wr 26 #[.int .u64 (dl 0 : Int), .int .u64 (dl 1 : Int), .int .u64 (dl 2 : Int), .int .u64 (dl 3 : Int)])
      have HB3 := Lib.hid (HBR.out.trans (((Below.refl wr.heap.size wr).alloc (Nat.le_refl _) (.cells #[.int .u64 (dl 0 : Int), .int .u64 (dl 1 : Int), .int .u64 (dl 2 : Int), .int .u64 (dl 3 : Int)] 26)).mono HBR.out.size))
      go_upto_region 6 with fail
      change Code.wp _ _ _ _ (wr.alloc (.cells #[.int .u64 (dl 0 : Int), .int .u64 (dl 1 : Int), .int .u64 (dl 2 : Int), .int .u64 (dl 3 : Int)] 26))
      generalize wr.alloc (.cells #[.int .u64 (dl 0 : Int), .int .u64 (dl 1 : Int), .int .u64 (dl 2 : Int), .int .u64 (dl 3 : Int)] 26) = w3 at *
      obtain ⟨bD, hbD⟩ : ∃ b, wr.heap.size = b := ⟨_, rfl⟩
      rw [hbD] at HRD ⊢
      clear hbD a0 a1 a2 a3 HBR
      obtain ⟨wo, hwo⟩ : ∃ x : World, x = wr := ⟨_, rfl⟩
      clear hwo
      go_loopg [5] 20 (fun g nv wr => ∃ (k : Nat), g = 20 - k ∧ k ≤ 20 ∧ nv = .int .i64 (k : Int) ∧ Below w3.heap.size w3 wr)
      case atStart => exact ⟨0, rfl, by omega, rfl, Below.refl _ _⟩
      case round =>
        obtain ⟨k, rfl, hk, rfl, hbr⟩ := hrel
        have HBK := Lib.hid hbr
        clear hbr
        by_cases hlt2 : k < 20
        · have hd2 : decide (k < 20) = true := by simp; omega
          obtain ⟨q7, hq7⟩ : ∃ z, k % 7 = z := ⟨_, rfl⟩
          obtain ⟨lv, hlv⟩ : ∃ z, 1 + q7 = z := ⟨_, rfl⟩
          obtain ⟨dn, hdn⟩ : ∃ z, k % 5 = z := ⟨_, rfl⟩
          obtain ⟨rk, hrk⟩ : ∃ z, k % 3 = z := ⟨_, rfl⟩
          obtain ⟨dc, hdc⟩ : ∃ z, k / 5 = z := ⟨_, rfl⟩
          obtain ⟨s4, hs4⟩ : ∃ z, (k + i) % 4 = z := ⟨_, rfl⟩
          have f1 : (k : Int).tmod 7 = (q7 : Int) := by rw [Int.tmod_eq_emod_of_nonneg (by omega)]; omega
          have f1' : (k : Int) % 7 = (q7 : Int) := by omega
          have f2 : (1 : Int) + (q7 : Int) = (lv : Int) := by omega
          have f3 : (k : Int).tmod 5 = (dn : Int) := by rw [Int.tmod_eq_emod_of_nonneg (by omega)]; omega
          have f3' : (k : Int) % 5 = (dn : Int) := by omega
          have f4 : (k : Int).tmod 3 = (rk : Int) := by rw [Int.tmod_eq_emod_of_nonneg (by omega)]; omega
          have f4' : (k : Int) % 3 = (rk : Int) := by omega
          have f5 : (k : Int).tdiv 5 = (dc : Int) := by rw [Int.tdiv_eq_ediv_of_nonneg (by omega)]; omega
          have f5' : (k : Int) / 5 = (dc : Int) := by omega
          have f6 : ((k : Int) + (i : Int)).tmod 4 = (s4 : Int) := by rw [Int.tmod_eq_emod_of_nonneg (by omega)]; omega
          have f6' : ((k : Int) + (i : Int)) % 4 = (s4 : Int) := by omega
          have g1 : IntKind.u8.wrap (lv : Int) = (lv : Int) := by rw [IntKind.wrap_u8]; omega
          have g2 : IntKind.u8.wrap (dn : Int) = (dn : Int) := by rw [IntKind.wrap_u8]; omega
          have g3 : IntKind.u8.wrap (rk : Int) = (rk : Int) := by rw [IntKind.wrap_u8]; omega
          have g4' : IntKind.u8.wrap (dc : Int) = (dc : Int) := by rw [IntKind.wrap_u8]; omega
          have HNE := Lib.hid (newE4 HD4.out (lv := lv) (dn := dn) (rk := rk) (dc := dc) (by omega) (by omega) (by omega) (by omega) (by omega))
          have hs4l : s4 < 4 := by omega
          have HRC4 := Lib.hid (Row.new wr 28 #[.int .u8 (lv : Int), .int .u8 (dn : Int), .int .u8 (rk : Int), .int .u8 (dc : Int)])
          have HB4 := Lib.hid (HBK.out.trans (((Below.refl wr.heap.size wr).alloc (Nat.le_refl _) (.cells #[.int .u8 (lv : Int), .int .u8 (dn : Int), .int .u8 (rk : Int), .int .u8 (dc : Int)] 28)).mono HBK.out.size))
          clear hq7 hlv hdn hrk hdc hs4
          go_upto_region 9 with fail
          change Code.wp _ _ _ _ (wr.alloc (.cells #[.int .u8 (lv : Int), .int .u8 (dn : Int), .int .u8 (rk : Int), .int .u8 (dc : Int)] 28))
          generalize wr.alloc (.cells #[.int .u8 (lv : Int), .int .u8 (dn : Int), .int .u8 (rk : Int), .int .u8 (dc : Int)] 28) = w4 at *
          obtain ⟨bC, hbC⟩ : ∃ b, wr.heap.size = b := ⟨_, rfl⟩
          rw [hbC] at HRC4 ⊢
          clear hbC HBK f1 f1' f2 f3 f3' f4 f4' f5 f5' g1 g2 g3 g4'
          have HRD4 := Lib.hid (HRD.out.later HB4.out)
          have HT4 := Lib.hid (HT.out.below HT.out.pos (HB2.out.trans ((HB3.out.trans (HB4.out.mono HB3.out.size)).mono HB2.out.size)))
          have HNW := Lib.hid (in_new dl lv dn rk dc HDW.out HNE.out (fun g => g < w4.heap.size) w4 (fun g hg => hg) HT4.out HT4.out.pos)
          have HRN := Lib.hid (fun W => rq_New dl lv dn rk dc (fun j _ => HDW.out j) W)
          rw [HNE.out] at HRN
          have HNZ : Hid ((newA dl lv dn rk dc).size = 10 ∧ (newA dl lv dn rk dc).all (·.oneCell') = true) := Lib.hid (by
            unfold newA; rw [if_pos HNE.out]; exact ⟨rfl, rp_one _ _ _ _ _ _ _⟩)
          have HNI := Lib.hid (fun (G : Nat → Prop) (W : World) => newA_in dl lv dn rk dc HNE.out G W)
          obtain ⟨NA, hNA⟩ : ∃ z, newA dl lv dn rk dc = z := ⟨_, rfl⟩
          rw [hNA] at HRN HNZ HNI
          clear hNA
          go_wp2_with (first
            | refine wpList_load_row rfl 26 (.tmp 4) rfl bD rfl 26 #[.int .u64 (dl 0 : Int), .int .u64 (dl 1 : Int), .int .u64 (dl 2 : Int), .int .u64 (dl 3 : Int)] (0, 0) _ HRD4.out Tryd.underlying26 rfl (by exact size_dealN) ?_
            | refine wpList_load_row rfl 28 (.tmp 6) rfl bC rfl 28 #[.int .u8 (lv : Int), .int .u8 (dn : Int), .int .u8 (rk : Int), .int .u8 (dc : Int)] (0, 0) _ HRC4.out Tryd.underlying28 rfl (by exact size_contrN) ?_)
          refine HNW.out.mono ?_
          rintro e w5 ⟨B, rfl, hin, hb5⟩
          have HIN := Lib.hid hin
          have HB45 := Lib.hid hb5
          have HRD5 := Lib.hid (HRD4.out.later hb5)
          have HRC5 := Lib.hid (HRC4.out.later hb5)
          clear hin hb5 HNW HRD4 HRC4
          go_wp2_with (first
            | refine wpList_load_row rfl 26 (.tmp 4) rfl bD rfl 26 #[.int .u64 (dl 0 : Int), .int .u64 (dl 1 : Int), .int .u64 (dl 2 : Int), .int .u64 (dl 3 : Int)] (0, 0) _ HRD5.out Tryd.underlying26 rfl (by exact size_dealN) ?_
            | refine wpList_load_row rfl 28 (.tmp 6) rfl bC rfl 28 #[.int .u8 (lv : Int), .int .u8 (dn : Int), .int .u8 (rk : Int), .int .u8 (dc : Int)] (0, 0) _ HRC5.out Tryd.underlying28 rfl (by exact size_contrN) ?_)
          refine (HRN.out w5).mono ?_
          rintro e w6 ⟨rfl, hb6⟩
          have HQ := Lib.hid (Row.new w6 71 zeroRp)
          have HB56 := Lib.hid hb6
          clear hb6 HRN HRD5 HRC5
          go_upto_region 11 with (refine wpList_store_row rfl 71 (.tmp 9) (.tmp 59) rfl w6.heap.size NA rfl rfl 71 _ HQ.out (by rw [HNZ.out.1]; exact size_rp) (by rw [HNZ.out.1]; rfl) HNZ.out.2 ?_)
          have hb7 := below_setRow ((Below.refl w6.heap.size w6).alloc (Nat.le_refl _) (.cells zeroRp 71)) (Nat.le_refl _) NA
          have HX7 := Lib.hid (show Row ((w6.alloc (.cells zeroRp 71)).setRow w6.heap.size NA) w6.heap.size 71 NA from setRow_heap _ _ _ _ _ _ HQ.out)
          have HB57 := Lib.hid (HB56.out.trans (hb7.mono HB56.out.size))
          change Code.wp _ _ _ _ ((w6.alloc (.cells zeroRp 71)).setRow w6.heap.size NA)
          generalize (w6.alloc (.cells zeroRp 71)).setRow w6.heap.size NA = w7 at *
          obtain ⟨b9, hb9⟩ : ∃ b, w6.heap.size = b := ⟨_, rfl⟩
          rw [hb9] at HX7 ⊢
          clear hb9 HQ hb7 HB56
          have HIN7 := Lib.hid (HIN.out.below HB57.out)
          have HB47 := Lib.hid (HB45.out.trans (HB57.out.mono HB45.out.size))
          have HB7 := Lib.hid (HB4.out.trans (HB47.out.mono HB4.out.size))
          clear HIN HB45 HB57
          by_cases h0 : s4 = 0
          · subst h0
            have HLI := Lib.hid (law12_lines HD4.out 8 (newP dl lv dn rk dc) (Tied.new HD4.out HNE.out) (newP_ok HDW.out HNE.out) rfl [] w7 B (fun g => g < w4.heap.size) NA [] (Nat.zero_le _) HIN7.out (HNI.out _ _))
            go_wp2_with (refine load_row_g (by rfl) 71 (.tmp 9) rfl b9 rfl 71 NA (0, 0) _ HX7.out Tryd.underlying71 rfl (by rw [HNZ.out.1]; exact size_rp) ?_)
            refine HLI.out.mono ?_
            rintro e w8 ⟨rfl, b', -, -, hk8⟩
            have HB8 := Lib.hid (below_lines2 HB7.out hk8 HB4.out.size)
            clear hk8 HLI HB7
            go_wp2_with fail
            go_roundg (20 - (k + 1))
            case measure => omega
            case rel => exact ⟨k + 1, rfl, by omega, by go_num, HB8.out⟩
          · have hb0 : ((s4 : Int) == 0) = false := by rw [beq_eq_false_iff_ne]; omega
            clear h0 HIN7 HNI
            go_wp2_with fail
            go_roundg (20 - (k + 1))
            case measure => omega
            case rel => exact ⟨k + 1, rfl, by omega, by go_num, HB7.out⟩
        · have hd2 : decide (k < 20) = false := by simp; omega
          go_wp2_with fail
          go_roundg (4 - (i + 1))
          case measure => omega
          case rel => exact ⟨i + 1, rfl, by omega, by go_num, HB3.out.trans (HBK.out.mono HB3.out.size)⟩
    · have hd : decide (i < 4) = false := by simp; omega
      have hfz := Row.new (wr.alloc (.cells #[.int .u64 8191, .int .u64 67100672, .int .u64 549688705024, .int .u64 4503049871556608] 26)) 26 #[.int .u64 0, .int .u64 0, .int .u64 0, .int .u64 0, .int .u64 1, .int .u64 0, .int .u64 0, .int .u64 0, .int .u64 1, .int .u64 2, .int .u64 4, .int .u64 0, .int .u64 1, .int .u64 2, .int .u64 4, .int .u64 4, .int .u64 1, .int .u64 2, .int .u64 4, .int .u64 8, .int .u64 1, .int .u64 2, .int .u64 4, .int .u64 4503599627370496, .int .u64 9223372036854775808, .int .u64 4611686018427387904, .int .u64 2305843009213693952, .int .u64 1152921504606846976, .int .u64 3, .int .u64 12, .int .u64 48, .int .u64 64, .int .u64 3, .int .u64 12, .int .u64 48, .int .u64 129, .int .u64 8191, .int .u64 67100672, .int .u64 549688705024, .int .u64 4503049871556608, .int .u64 16383, .int .u64 0, .int .u64 0, .int .u64 0, .int .u64 16383, .int .u64 268419072, .int .u64 4397778075648, .int .u64 72053195991416832]
      rw [show (wr.alloc (.cells #[.int .u64 8191, .int .u64 67100672, .int .u64 549688705024, .int .u64 4503049871556608] 26)).heap.size = wr.heap.size + 1 by simp] at hfz
      have HR12 := Lib.hid hfz
      have ha8 := ((Below.refl wr.heap.size wr).alloc (Nat.le_refl _) (.cells #[.int .u64 8191, .int .u64 67100672, .int .u64 549688705024, .int .u64 4503049871556608] 26)).alloc (by simp) (.cells #[.int .u64 0, .int .u64 0, .int .u64 0, .int .u64 0, .int .u64 1, .int .u64 0, .int .u64 0, .int .u64 0, .int .u64 1, .int .u64 2, .int .u64 4, .int .u64 0, .int .u64 1, .int .u64 2, .int .u64 4, .int .u64 4, .int .u64 1, .int .u64 2, .int .u64 4, .int .u64 8, .int .u64 1, .int .u64 2, .int .u64 4, .int .u64 4503599627370496, .int .u64 9223372036854775808, .int .u64 4611686018427387904, .int .u64 2305843009213693952, .int .u64 1152921504606846976, .int .u64 3, .int .u64 12, .int .u64 48, .int .u64 64, .int .u64 3, .int .u64 12, .int .u64 48, .int .u64 129, .int .u64 8191, .int .u64 67100672, .int .u64 549688705024, .int .u64 4503049871556608, .int .u64 16383, .int .u64 0, .int .u64 0, .int .u64 0, .int .u64 16383, .int .u64 268419072, .int .u64 4397778075648, .int .u64 72053195991416832] 26)
      have HRC8 := Lib.hid (HRC.out.later (HBR.out.trans (ha8.mono HBR.out.size)))
      have HB8 := Lib.hid (HB2.out.trans ((HBR.out.trans (ha8.mono HBR.out.size)).mono HB2.out.size))
      clear hfz ha8
      go_upto_region 16 with fail
      change Code.wp _ _ _ _ ((wr.alloc (.cells #[.int .u64 8191, .int .u64 67100672, .int .u64 549688705024, .int .u64 4503049871556608] 26)).alloc (.cells #[.int .u64 0, .int .u64 0, .int .u64 0, .int .u64 0, .int .u64 1, .int .u64 0, .int .u64 0, .int .u64 0, .int .u64 1, .int .u64 2, .int .u64 4, .int .u64 0, .int .u64 1, .int .u64 2, .int .u64 4, .int .u64 4, .int .u64 1, .int .u64 2, .int .u64 4, .int .u64 8, .int .u64 1, .int .u64 2, .int .u64 4, .int .u64 4503599627370496, .int .u64 9223372036854775808, .int .u64 4611686018427387904, .int .u64 2305843009213693952, .int .u64 1152921504606846976, .int .u64 3, .int .u64 12, .int .u64 48, .int .u64 64, .int .u64 3, .int .u64 12, .int .u64 48, .int .u64 129, .int .u64 8191, .int .u64 67100672, .int .u64 549688705024, .int .u64 4503049871556608, .int .u64 16383, .int .u64 0, .int .u64 0, .int .u64 0, .int .u64 16383, .int .u64 268419072, .int .u64 4397778075648, .int .u64 72053195991416832] 26))
      generalize (wr.alloc (.cells #[.int .u64 8191, .int .u64 67100672, .int .u64 549688705024, .int .u64 4503049871556608] 26)).alloc (.cells #[.int .u64 0, .int .u64 0, .int .u64 0, .int .u64 0, .int .u64 1, .int .u64 0, .int .u64 0, .int .u64 0, .int .u64 1, .int .u64 2, .int .u64 4, .int .u64 0, .int .u64 1, .int .u64 2, .int .u64 4, .int .u64 4, .int .u64 1, .int .u64 2, .int .u64 4, .int .u64 8, .int .u64 1, .int .u64 2, .int .u64 4, .int .u64 4503599627370496, .int .u64 9223372036854775808, .int .u64 4611686018427387904, .int .u64 2305843009213693952, .int .u64 1152921504606846976, .int .u64 3, .int .u64 12, .int .u64 48, .int .u64 64, .int .u64 3, .int .u64 12, .int .u64 48, .int .u64 129, .int .u64 8191, .int .u64 67100672, .int .u64 549688705024, .int .u64 4503049871556608, .int .u64 16383, .int .u64 0, .int .u64 0, .int .u64 0, .int .u64 16383, .int .u64 268419072, .int .u64 4397778075648, .int .u64 72053195991416832] 26) = w8 at *
      obtain ⟨g12, hg12⟩ : ∃ b, wr.heap.size + 1 = b := ⟨_, rfl⟩
      rw [hg12] at HR12 ⊢
      obtain ⟨b11, hb11⟩ : ∃ b, wr.heap.size = b := ⟨_, rfl⟩
      rw [hb11]
      clear hg12 hb11 HBR hi hlt hd
      obtain ⟨wo, hwo⟩ : ∃ x : World, x = wr := ⟨_, rfl⟩
      clear hwo
      go_loopg [96] 12 (fun g iv wr => ∃ (i : Nat), g = 12 - i ∧ i ≤ 12 ∧ iv = .int .i64 (i : Int) ∧ Below w8.heap.size w8 wr)
      case atStart => exact ⟨0, rfl, by omega, rfl, Below.refl _ _⟩
      case round =>
        obtain ⟨i, rfl, hi, rfl, hbr⟩ := hrel
        have HBR := Lib.hid hbr
        clear hbr
        by_cases hlt : i < 12
        · have hd : decide (i < 12) = true := by simp; omega
          have hiI : (i : Int) < 12 := by omega
          have a0 : wr.cell? ⟨g12, i * 4, none⟩ = some (.int .u64 (bgD i 0 : Int)) := (HBR.out.cell (p := ⟨g12, i * 4, none⟩) HR12.out.lt).trans ((HR12.out.cell (i * 4)).trans (bgD_get i 0 hlt (by decide)))
          have a1 : wr.cell? ⟨g12, i * 4 + 1, none⟩ = some (.int .u64 (bgD i 1 : Int)) := (HBR.out.cell (p := ⟨g12, i * 4 + 1, none⟩) HR12.out.lt).trans ((HR12.out.cell (i * 4 + 1)).trans (bgD_get i 1 hlt (by decide)))
          have a2 : wr.cell? ⟨g12, i * 4 + 2, none⟩ = some (.int .u64 (bgD i 2 : Int)) := (HBR.out.cell (p := ⟨g12, i * 4 + 2, none⟩) HR12.out.lt).trans ((HR12.out.cell (i * 4 + 2)).trans (bgD_get i 2 hlt (by decide)))
          have a3 : wr.cell? ⟨g12, i * 4 + 3, none⟩ = some (.int .u64 (bgD i 3 : Int)) := (HBR.out.cell (p := ⟨g12, i * 4 + 3, none⟩) HR12.out.lt).trans ((HR12.out.cell (i * 4 + 3)).trans (bgD_get i 3 hlt (by decide)))
          have hk := HRC8.out.later HBR.out
          have k0 : wr.cell? ⟨b2, 0, none⟩ = some (.int .u8 1) := hk.cell 0
          have k1 : wr.cell? ⟨b2, 1, none⟩ = some (.int .u8 4) := hk.cell 1
          have k2 : wr.cell? ⟨b2, 2, none⟩ = some (.int .u8 0) := hk.cell 2
          have k3 : wr.cell? ⟨b2, 3, none⟩ = some (.int .u8 2) := hk.cell 3
          have hb2lt := hk.lt
          have HDW := Lib.hid (bgD_w64 i hlt)
          have HDF := Lib.hid (bgD_far i hlt)
          obtain ⟨dl, hdl⟩ : ∃ z, bgD i = z := ⟨_, rfl⟩
          rw [hdl] at a0 a1 a2 a3 HDW HDF
          have hrc := Row.new (wr.alloc (.cells #[.int .u64 (dl 0 : Int), .int .u64 (dl 1 : Int), .int .u64 (dl 2 : Int), .int .u64 (dl 3 : Int)] 26)) 28 #[.int .u8 1, .int .u8 4, .int .u8 0, .int .u8 2, .int .u8 0, .int .u8 0, .int .u8 0, .int .u8 0, .int .u8 8, .int .u8 0, .int .u8 0, .int .u8 0, .int .u8 1, .int .u8 5, .int .u8 0, .int .u8 0, .int .u8 1, .int .u8 0, .int .u8 3, .int .u8 0, .int .u8 1, .int .u8 0, .int .u8 0, .int .u8 4]
          rw [show (wr.alloc (.cells #[.int .u64 (dl 0 : Int), .int .u64 (dl 1 : Int), .int .u64 (dl 2 : Int), .int .u64 (dl 3 : Int)] 26)).heap.size = wr.heap.size + 1 by simp] at hrc
          have HRC9 := Lib.hid hrc
          have HRD9 := Lib.hid ((Row.new wr 26 #[.int .u64 (dl 0 : Int), .int .u64 (dl 1 : Int), .int .u64 (dl 2 : Int), .int .u64 (dl 3 : Int)]).alloc (.cells #[.int .u8 1, .int .u8 4, .int .u8 0, .int .u8 2, .int .u8 0, .int .u8 0, .int .u8 0, .int .u8 0, .int .u8 8, .int .u8 0, .int .u8 0, .int .u8 0, .int .u8 1, .int .u8 5, .int .u8 0, .int .u8 0, .int .u8 1, .int .u8 0, .int .u8 3, .int .u8 0, .int .u8 1, .int .u8 0, .int .u8 0, .int .u8 4] 28))
          have HB9 := Lib.hid (HBR.out.trans ((((Below.refl wr.heap.size wr).alloc (Nat.le_refl _) (.cells #[.int .u64 (dl 0 : Int), .int .u64 (dl 1 : Int), .int .u64 (dl 2 : Int), .int .u64 (dl 3 : Int)] 26)).alloc (by simp) (.cells #[.int .u8 1, .int .u8 4, .int .u8 0, .int .u8 2, .int .u8 0, .int .u8 0, .int .u8 0, .int .u8 0, .int .u8 8, .int .u8 0, .int .u8 0, .int .u8 0, .int .u8 1, .int .u8 5, .int .u8 0, .int .u8 0, .int .u8 1, .int .u8 0, .int .u8 3, .int .u8 0, .int .u8 1, .int .u8 0, .int .u8 0, .int .u8 4] 28)).mono HBR.out.size))
          clear hdl hk hrc
          go_upto_region 19 with fail
          change Code.wp _ _ _ _ ((wr.alloc (.cells #[.int .u64 (dl 0 : Int), .int .u64 (dl 1 : Int), .int .u64 (dl 2 : Int), .int .u64 (dl 3 : Int)] 26)).alloc (.cells #[.int .u8 1, .int .u8 4, .int .u8 0, .int .u8 2, .int .u8 0, .int .u8 0, .int .u8 0, .int .u8 0, .int .u8 8, .int .u8 0, .int .u8 0, .int .u8 0, .int .u8 1, .int .u8 5, .int .u8 0, .int .u8 0, .int .u8 1, .int .u8 0, .int .u8 3, .int .u8 0, .int .u8 1, .int .u8 0, .int .u8 0, .int .u8 4] 28))
          generalize (wr.alloc (.cells #[.int .u64 (dl 0 : Int), .int .u64 (dl 1 : Int), .int .u64 (dl 2 : Int), .int .u64 (dl 3 : Int)] 26)).alloc (.cells #[.int .u8 1, .int .u8 4, .int .u8 0, .int .u8 2, .int .u8 0, .int .u8 0, .int .u8 0, .int .u8 0, .int .u8 8, .int .u8 0, .int .u8 0, .int .u8 0, .int .u8 1, .int .u8 5, .int .u8 0, .int .u8 0, .int .u8 1, .int .u8 0, .int .u8 3, .int .u8 0, .int .u8 1, .int .u8 0, .int .u8 0, .int .u8 4] 28) = w9 at *
          obtain ⟨gC, hgC⟩ : ∃ b, wr.heap.size + 1 = b := ⟨_, rfl⟩
          rw [hgC] at HRC9 ⊢
          obtain ⟨bD, hbD⟩ : ∃ b, wr.heap.size = b := ⟨_, rfl⟩
          rw [hbD] at HRD9 ⊢
          clear hgC hbD a0 a1 a2 a3 k0 k1 k2 k3 hb2lt HBR
          obtain ⟨wo2, hwo2⟩ : ∃ x : World, x = wr := ⟨_, rfl⟩
          clear hwo2
          go_loopg [109] 6 (fun g jv wr => ∃ (j : Nat), g = 6 - j ∧ j ≤ 6 ∧ jv = .int .i64 (j : Int) ∧ Below w9.heap.size w9 wr)
          case atStart => exact ⟨0, rfl, by omega, rfl, Below.refl _ _⟩
          case round =>
            obtain ⟨j, rfl, hj, rfl, hbr⟩ := hrel
            have HBJ := Lib.hid hbr
            clear hbr
            by_cases hlt2 : j < 6
            · have hd2 : decide (j < 6) = true := by simp; omega
              have hjI : (j : Int) < 6 := by omega
              have y0 : wr.cell? ⟨gC, j * 4, none⟩ = some (.int .u8 (smC j 0 : Int)) := (HBJ.out.cell (p := ⟨gC, j * 4, none⟩) HRC9.out.lt).trans ((HRC9.out.cell (j * 4)).trans (smC_get j 0 hlt2 (by decide)))
              have y1 : wr.cell? ⟨gC, j * 4 + 1, none⟩ = some (.int .u8 (smC j 1 : Int)) := (HBJ.out.cell (p := ⟨gC, j * 4 + 1, none⟩) HRC9.out.lt).trans ((HRC9.out.cell (j * 4 + 1)).trans (smC_get j 1 hlt2 (by decide)))
              have y2 : wr.cell? ⟨gC, j * 4 + 2, none⟩ = some (.int .u8 (smC j 2 : Int)) := (HBJ.out.cell (p := ⟨gC, j * 4 + 2, none⟩) HRC9.out.lt).trans ((HRC9.out.cell (j * 4 + 2)).trans (smC_get j 2 hlt2 (by decide)))
              have y3 : wr.cell? ⟨gC, j * 4 + 3, none⟩ = some (.int .u8 (smC j 3 : Int)) := (HBJ.out.cell (p := ⟨gC, j * 4 + 3, none⟩) HRC9.out.lt).trans ((HRC9.out.cell (j * 4 + 3)).trans (smC_get j 3 hlt2 (by decide)))
              obtain ⟨lv, hlv⟩ : ∃ z, smC j 0 = z := ⟨_, rfl⟩
              obtain ⟨dn, hdn⟩ : ∃ z, smC j 1 = z := ⟨_, rfl⟩
              obtain ⟨rk, hrk⟩ : ∃ z, smC j 2 = z := ⟨_, rfl⟩
              obtain ⟨dc, hdc⟩ : ∃ z, smC j 3 = z := ⟨_, rfl⟩
              rw [hlv] at y0
              rw [hdn] at y1
              rw [hrk] at y2
              rw [hdc] at y3
              have HRK := Lib.hid (Row.new wr 28 #[.int .u8 (lv : Int), .int .u8 (dn : Int), .int .u8 (rk : Int), .int .u8 (dc : Int)])
              have HB10 := Lib.hid (HBJ.out.trans (((Below.refl wr.heap.size wr).alloc (Nat.le_refl _) (.cells #[.int .u8 (lv : Int), .int .u8 (dn : Int), .int .u8 (rk : Int), .int .u8 (dc : Int)] 28)).mono HBJ.out.size))
              clear hlv hdn hrk hdc
              go_upto_region 21 with fail
              change Code.wp _ _ _ _ (wr.alloc (.cells #[.int .u8 (lv : Int), .int .u8 (dn : Int), .int .u8 (rk : Int), .int .u8 (dc : Int)] 28))
              generalize wr.alloc (.cells #[.int .u8 (lv : Int), .int .u8 (dn : Int), .int .u8 (rk : Int), .int .u8 (dc : Int)] 28) = w10 at *
              obtain ⟨bC, hbC⟩ : ∃ b, wr.heap.size = b := ⟨_, rfl⟩
              rw [hbC] at HRK ⊢
              clear hbC y0 y1 y2 y3 HBJ
              have HRD10 := Lib.hid (HRD9.out.later HB10.out)
              have HB11 := Lib.hid ((Below.refl w10.heap.size w10).alloc (Nat.le_refl _) (.cells #[.int .u8 7, .int .u8 (i : Int), .int .u8 0, .int .u8 255, .int .u8 7, .int .u8 0, .int .u8 5, .int .u8 0, .int .u8 6, .int .u8 0, .int .u8 6, .int .u8 0] 77))
              have HBW := Lib.hid (HB8.out.trans ((HB9.out.trans ((HB10.out.trans (HB11.out.mono HB10.out.size)).mono HB9.out.size)).mono HB8.out.size))
              have HPD := Lib.hid (law12_played dl HDW.out HDF.out lv dn rk dc (some ⟨w10.heap.size, 0, none⟩) 6 6 _ (w10.alloc (.cells #[.int .u8 7, .int .u8 (i : Int), .int .u8 0, .int .u8 255, .int .u8 7, .int .u8 0, .int .u8 5, .int .u8 0, .int .u8 6, .int .u8 0, .int .u8 6, .int .u8 0] 77)) (acts6 w10 i (by omega)) (HT.out.below HT.out.pos HBW.out))
              have eu : IntKind.u8.wrap (i : Int) = (i : Int) := by rw [IntKind.wrap_u8]; omega
              go_wp2_with (first
                | refine wpList_load_row rfl 26 (.tmp 13) rfl bD rfl 26 #[.int .u64 (dl 0 : Int), .int .u64 (dl 1 : Int), .int .u64 (dl 2 : Int), .int .u64 (dl 3 : Int)] (0, 0) _ HRD10.out Tryd.underlying26 rfl (by exact size_dealN) ?_
                | refine wpList_load_row rfl 28 (.tmp 15) rfl bC rfl 28 #[.int .u8 (lv : Int), .int .u8 (dn : Int), .int .u8 (rk : Int), .int .u8 (dc : Int)] (0, 0) _ HRK.out Tryd.underlying28 rfl (by exact size_contrN) ?_)
              refine HPD.out.mono ?_
              rintro e w12 ⟨rfl, hb12⟩
              have HB12 := Lib.hid (HB10.out.trans ((HB11.out.trans (hb12.mono HB11.out.size)).mono HB10.out.size))
              clear hb12 HPD HB11 HBW eu
              go_wp2_with fail
              go_roundg (6 - (j + 1))
              case measure => omega
              case rel => exact ⟨j + 1, rfl, by omega, by go_num, HB12.out⟩
            · have hd2 : decide (j < 6) = false := by simp; omega
              go_wp2_with fail
              go_roundg (12 - (i + 1))
              case measure => omega
              case rel => exact ⟨i + 1, rfl, by omega, by go_num, HB9.out.trans (HBJ.out.mono HB9.out.size)⟩
        · have hd : decide (i < 12) = false := by simp; omega
          have HBF := Lib.hid (HB8.out.trans (HBR.out.mono HB8.out.size))
          go_wp2_with fail
          refine (law12_none wr).mono ?_
          rintro e w13 ⟨rfl, hb13⟩
          have HBF2 := Lib.hid (HBF.out.trans (hb13.mono HBF.out.size))
          clear hb13
          go_wp2_with fail
          refine (law12_awake w13 (HT.out.below HT.out.pos HBF2.out)).mono ?_
          rintro e w14 ⟨rfl, hb14⟩
          have HBF3 := Lib.hid (HBF2.out.trans (hb14.mono HBF2.out.size))
          clear hb14
          go_wp2_with fail
          go_ret
          exact ⟨rfl, HBF3.out⟩
end Go.Proofs.YtginbellakkliaaDoor
