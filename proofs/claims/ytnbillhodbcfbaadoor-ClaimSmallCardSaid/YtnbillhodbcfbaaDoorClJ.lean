/- The closure of claim.least over this seat's program: between two tricks, and altogether. -/
import Derived.Test.YtnbillhodbcfbaaDoorClK
namespace Go.Proofs.YtnbillhodbcfbaaDoor
open Go.RowKit Go.Sort Go.Shelf Go.Maps Go.WideMaps

attribute [-go_sem] Instr.build
set_option maxHeartbeats 4000000 in
set_option maxRecDepth 10000 in
theorem cl_followA {P : Prm} {x m : Nat} (hP : P.ok x) (hI : FOk P x m) : ∀ (n : Nat) (h : Nat → Nat) (ld q : Nat) (W : World), TbG q ⟨h, ld, []⟩ → m + 1 = 4 * q → q ≤ 4 → Env P x n W → n + 5 ^ (m + 1) < maxLen →
    Calls Tryd.prog 70 (#[.agg (tbA ⟨h, ld, []⟩)] ++ capL x) W fun e w' => e = .returned (.int .i64 ((P.mn (m + 1) ⟨h, ld, []⟩ : Nat) : Int)) ∧ Env P x (n + 5 ^ (m + 1)) w' ∧ But W.heap.size (x + 4) W w' := by
  intro n h ld q W hg hm hq hE hn
  have HP := Lib.hid hP
  have HI := Lib.hid hI
  have HE0 := Lib.hid hE
  have HGT := Lib.hid hg
  have HMQ := Lib.hid hm
  have HQ := Lib.hid hq
  have HN := Lib.hid hn
  have hq0 : 0 < q := by omega
  have hc0 : canM (⟨h, ld, []⟩ : Tb) ≠ 0 := hg.can hq0
  have HLD : Hid (ld < 4) := Lib.hid hg.ok.ld
  obtain ⟨hgr, hmr⟩ := hP.rng q h ld hg
  have HRN : Hid (∀ W', Tab W' → Calls Tryd.prog P.rf #[.agg #[.int .u64 (h 0 : Int), .int .u64 (h 1 : Int), .int .u64 (h 2 : Int), .int .u64 (h 3 : Int)]] W' fun e w' => e = .returned (.agg #[.int .u64 (P.rn h 0 : Int), .int .u64 (P.rn h 1 : Int), .int .u64 (P.rn h 2 : Int), .int .u64 (P.rn h 3 : Int)]) ∧ Below W'.heap.size W' w') := Lib.hid (fun W' hT => hP.rename W' h hg.ok.pk.1 hT)
  have HRE := Lib.hid (fun w => hP.rent #[.agg #[.int .u64 (h 0 : Int), .int .u64 (h 1 : Int), .int .u64 (h 2 : Int), .int .u64 (h 3 : Int)]] w)
  have HMR := Lib.hid hmr
  obtain ⟨rh, hrh⟩ : ∃ f, P.rn h = f := ⟨_, rfl⟩
  rw [hrh] at HRN HMR hgr
  have HGR := Lib.hid hgr
  clear hrh hP hI hE hg hm hq hn hgr hmr hq0
  obtain ⟨t, ht⟩ : ∃ t, (⟨h, ld, []⟩ : Tb) = t := ⟨_, rfl⟩
  have HTE := Lib.hid ht
  rw [ht] at HMR HGT hc0 ⊢
  clear ht
  have HCA := Lib.hid (fun W' => cl_can t HGT.out.ok W')
  obtain ⟨TA, hTA⟩ : ∃ A, tbA t = A := ⟨_, rfl⟩
  have HTA := Lib.hid hTA
  have HAZ : Hid ((Tryd.prog.info? 87).map (·.size) = some TA.size) := Lib.hid (by rw [← hTA]; exact size_ct)
  rw [hTA] at HCA ⊢
  clear hTA
  have hY0 := Row.new W 87 TA
  have hB0 := (Below.refl W.heap.size W).alloc (Nat.le_refl _) (.cells TA 87)
  have hE0 := HE0.out.later HP.out hB0
  have hyx : x + 6 < W.heap.size := HE0.out.mlt
  show Calls Tryd.prog 70 #[.agg TA, .pointer (some ⟨x + 3, 0, none⟩), .pointer (some ⟨x + 5, 0, none⟩), .pointer (some ⟨x + 1, 0, none⟩), .pointer (some ⟨x + 2, 0, none⟩), .pointer (some ⟨x, 0, none⟩), .pointer (some ⟨x + 6, 0, none⟩)] W _
  go_enter Tryd.func70, Tryd.ntmps70
  go_upto_region 1 with fail
  generalize W.alloc (.cells TA 87) = w1 at *
  obtain ⟨y, hy⟩ : ∃ b, W.heap.size = b := ⟨_, rfl⟩
  have HYW := Lib.hid hy
  rw [hy] at hY0 hB0 hyx ⊢
  clear hy
  go_wp2_with (refine wpList_load_row rfl 87 (.tmp 7) rfl y rfl 87 TA (0, 0) _ hY0 Tryd.underlying87 rfl HAZ.out ?_)
  refine (HCA.out w1).mono ?_
  rintro e w2 ⟨rfl, hb2⟩
  have HE := Lib.hid (hE0.later HP.out hb2)
  have HY := Lib.hid (hY0.later hb2)
  have HBt : Hid (But y (x + 4) W w2) := Lib.hid (But.of_below (hB0.trans (hb2.mono (Nat.le_of_lt hY0.lt))))
  clear hb2 hE0 hY0 hB0
  have hcd : (((canM t : Nat) : Int) == 0) = false := by rw [beq_eq_false_iff_ne]; omega
  obtain ⟨cm, hcm⟩ : ∃ z, canM t = z := ⟨_, rfl⟩
  rw [hcm] at hcd ⊢
  clear hcm hc0
  go_upto_region 4 with fail
  have hlt2 := HY.out.lt
  have hb3 := (Below.refl w2.heap.size w2).alloc (Nat.le_refl _) (.cells #[.int .u64 0, .int .u64 0, .int .u64 0, .int .u64 0, .int .u8 0] 117)
  have HE := Lib.hid (HE.out.later HP.out hb3)
  have HY := Lib.hid (HY.out.later hb3)
  have HBt := Lib.hid (HBt.out.trans (But.of_below (hb3.mono (Nat.le_of_lt hlt2))))
  have HK0 := Lib.hid (Row.new w2 117 #[.int .u64 0, .int .u64 0, .int .u64 0, .int .u64 0, .int .u8 0])
  obtain ⟨b9, hb9⟩ : ∃ b, w2.heap.size = b := ⟨_, rfl⟩
  rw [hb9] at HK0 hlt2 ⊢
  have HYB : Hid (y < b9 ∧ x + 6 < y) := Lib.hid ⟨hlt2, hyx⟩
  have HYX : Hid (y ≠ x + 4 ∧ b9 ≠ x + 4) := Lib.hid ⟨by omega, by omega⟩
  clear hb3 hlt2 hcd hb9 hyx
  generalize w2.alloc (.cells #[.int .u64 0, .int .u64 0, .int .u64 0, .int .u64 0, .int .u8 0] 117) = w3 at *
  have HT5 : Hid (TA[0]? = some (.int .u64 (h 0 : Int)) ∧ TA[1]? = some (.int .u64 (h 1 : Int)) ∧ TA[2]? = some (.int .u64 (h 2 : Int)) ∧ TA[3]? = some (.int .u64 (h 3 : Int)) ∧ TA[5]? = some (.int .u8 0)) := Lib.hid (by rw [← HTA.out, ← HTE.out]; exact ⟨rfl, rfl, rfl, rfl, rfl⟩)
  have c0 := (HY.out.cell 0).trans HT5.out.1
  have c1 := (HY.out.cell 1).trans HT5.out.2.1
  have c2 := (HY.out.cell 2).trans HT5.out.2.2.1
  have c3 := (HY.out.cell 3).trans HT5.out.2.2.2.1
  have c5 := (HY.out.cell 5).trans HT5.out.2.2.2.2
  have cr := HE.out.r.2
  have hre := HRE.out
  go_wp2_with fail
  refine (HRN.out w3 HE.out.tab).mono ?_
  rintro e w4 ⟨rfl, hb4⟩
  have HBt := Lib.hid (HBt.out.trans (But.of_below (hb4.mono (Nat.le_of_lt HY.out.lt))))
  have HE := Lib.hid (HE.out.later HP.out hb4)
  have HY := Lib.hid (HY.out.later hb4)
  have HK0 := Lib.hid (HK0.out.later hb4)
  clear hb4 c0 c1 c2 c3 c5 cr hre
  have d0 := (HY.out.cell 0).trans HT5.out.1
  have d1 := (HY.out.cell 1).trans HT5.out.2.1
  have d2 := (HY.out.cell 2).trans HT5.out.2.2.1
  have d3 := (HY.out.cell 3).trans HT5.out.2.2.2.1
  have f0 := HY.out.frozen 0
  have f1 := HY.out.frozen 1
  have f2 := HY.out.frozen 2
  have f3 := HY.out.frozen 3
  go_upto_region 6 with fail
  obtain ⟨u, hu⟩ : ∃ u, (⟨rh, ld, []⟩ : Tb) = u := ⟨_, rfl⟩
  have HUE := Lib.hid hu
  obtain ⟨TU, hTU⟩ : ∃ A, tbA u = A := ⟨_, rfl⟩
  have HTU := Lib.hid hTU
  have HUZ : Hid ((Tryd.prog.info? 87).map (·.size) = some TU.size) := Lib.hid (by rw [← hTU]; exact size_ct)
  have HU4 : Hid (TU[0]? = some (.int .u64 (rh 0 : Int)) ∧ TU[1]? = some (.int .u64 (rh 1 : Int)) ∧ TU[2]? = some (.int .u64 (rh 2 : Int)) ∧ TU[3]? = some (.int .u64 (rh 3 : Int)) ∧ TU[4]? = some (.int .u8 (ld : Int))) := Lib.hid (by rw [← hTU, ← hu]; exact ⟨rfl, rfl, rfl, rfl, rfl⟩)
  have HU5 : Hid (TU[5]? = some (.int .u8 0)) := Lib.hid (by rw [← hTU, ← hu]; rfl)
  have HY5 : Hid (Row ((((w4.setCell ⟨y, 0, none⟩ (.int .u64 (rh 0 : Int))).setCell ⟨y, 1, none⟩ (.int .u64 (rh 1 : Int))).setCell ⟨y, 2, none⟩ (.int .u64 (rh 2 : Int))).setCell ⟨y, 3, none⟩ (.int .u64 (rh 3 : Int))) y 87 TU) := Lib.hid (by
    have := (((HY.out.set 0 (.int .u64 (rh 0 : Int))).set 1 (.int .u64 (rh 1 : Int))).set 2 (.int .u64 (rh 2 : Int))).set 3 (.int .u64 (rh 3 : Int))
    rw [← HTA.out, ← HTE.out] at this
    rw [← hTU, ← hu]
    exact this)
  have hyk : b9 ≠ y := by have := HYB.out; omega
  have HK5 := Lib.hid ((((HK0.out.other (i := 0) (v := .int .u64 (rh 0 : Int)) hyk).other (i := 1) (v := .int .u64 (rh 1 : Int)) hyk).other (i := 2) (v := .int .u64 (rh 2 : Int)) hyk).other (i := 3) (v := .int .u64 (rh 3 : Int)) hyk)
  have hb5 : Below y w4 ((((w4.setCell ⟨y, 0, none⟩ (.int .u64 (rh 0 : Int))).setCell ⟨y, 1, none⟩ (.int .u64 (rh 1 : Int))).setCell ⟨y, 2, none⟩ (.int .u64 (rh 2 : Int))).setCell ⟨y, 3, none⟩ (.int .u64 (rh 3 : Int))) := ((((Below.refl y w4).setCell (p := ⟨y, 0, none⟩) (Nat.le_refl _) _).setCell (p := ⟨y, 1, none⟩) (Nat.le_refl _) _).setCell (p := ⟨y, 2, none⟩) (Nat.le_refl _) _).setCell (p := ⟨y, 3, none⟩) (Nat.le_refl _) _
  have HE5 := Lib.hid (HE.out.below HP.out hb5 (by have := HYB.out; omega))
  have HB5 := Lib.hid (HBt.out.trans (But.of_below hb5))
  clear hb5 hyk d0 d1 d2 d3 f0 f1 f2 f3 HY HK0 HE HBt hTU
  generalize ((((w4.setCell ⟨y, 0, none⟩ (.int .u64 (rh 0 : Int))).setCell ⟨y, 1, none⟩ (.int .u64 (rh 1 : Int))).setCell ⟨y, 2, none⟩ (.int .u64 (rh 2 : Int))).setCell ⟨y, 3, none⟩ (.int .u64 (rh 3 : Int))) = w5 at *
  have HG : Hid (TbG q u) := Lib.hid (by rw [← hu]; exact HGR.out)
  have HIN : Hid (In52 rh) := Lib.hid HGR.out.ok.pk.1
  have HUQ : Hid (Uniq ⟨rh, ld, []⟩) := Lib.hid HGR.out.uq
  have HM1 : Hid (m + 1 + u.cs.length = 4 * q) := Lib.hid (by rw [← hu]; exact HMQ.out)
  have HC0 : Hid (canM u ≠ 0) := Lib.hid (HG.out.can (by have := HMQ.out; omega))
  have HMN : Hid (P.mn (m + 1) u = P.mn (m + 1) t) := Lib.hid (by rw [← hu, HMR.out])
  have HPO : Hid (4 * pop (rh 0) = m + 1) := Lib.hid (by rw [evn_zero HLD.out HGR.out.ev]; exact HMQ.out.symm)
  have HPM : Hid (P.mn (4 * pop (rh 0)) u = P.mn (m + 1) u) := Lib.hid (by rw [HPO.out])
  clear hu
  obtain ⟨KA, hKA⟩ : ∃ K, keyV rh ld = .agg K := ⟨_, rfl⟩
  obtain ⟨KL, hKL⟩ : ∃ K, keyL rh ld = K := ⟨_, rfl⟩
  have HKO : Hid (keyOf Tryd.prog 117 (.agg KA) = some KL) := Lib.hid (by rw [← hKA, ← hKL]; exact keyOf_ck rh ld (fun i hi => HIN.out.w64 hi) (by have := HLD.out; omega))
  have hka2 : KA = #[.int .u64 (rh 0 : Int), .int .u64 (rh 1 : Int), .int .u64 (rh 2 : Int), .int .u64 (rh 3 : Int), .int .u8 (ld : Int)] := by unfold keyV at hKA; injection hKA with h; exact h.symm
  have HKZ : Hid ((Tryd.prog.info? 117).map (·.size) = some KA.size ∧ KA.size = 5 ∧ KA.all (·.oneCell') = true) := Lib.hid (by rw [hka2]; exact ⟨size_ck, rfl, by simp [Value.oneCell']⟩)
  have hbk : ∀ w, (Instr.build 117 #[(0, .agg #[.int .u64 (rh 0 : Int), .int .u64 (rh 1 : Int), .int .u64 (rh 2 : Int), .int .u64 (rh 3 : Int)]), (1, .int .u8 (ld : Int))]).run Tryd.prog w = .ok (.agg KA) w := fun w => by rw [hka2]; exact run_build w 117 _ _ (by kernel_rfl)
  have HKV := Lib.hid hKA
  have HKL := Lib.hid hKL
  clear hka2 hKA hKL
  have c0 := (HY5.out.cell 0).trans HU4.out.1
  have c1 := (HY5.out.cell 1).trans HU4.out.2.1
  have c2 := (HY5.out.cell 2).trans HU4.out.2.2.1
  have c3 := (HY5.out.cell 3).trans HU4.out.2.2.2.1
  have c4 := (HY5.out.cell 4).trans HU4.out.2.2.2.2
  have hk5 := HK5.out
  go_upto_region 7 with (refine wpList_store_row rfl 117 (.tmp 9) (.tmp 31) rfl b9 KA rfl rfl 117 _ hk5 HKZ.out.1 (by rw [HKZ.out.2.1]; rfl) HKZ.out.2.2 ?_)
  have hb6 : Below b9 w5 (w5.setRow b9 KA) := below_setRow (Below.refl b9 w5) (Nat.le_refl _) KA
  have HK9 : Hid (Row (w5.setRow b9 KA) b9 117 KA) := Lib.hid (setRow_heap _ _ _ _ _ _ hk5)
  have HY := Lib.hid (HY5.out.below HYB.out.1 hb6)
  have HE := Lib.hid (HE5.out.below HP.out hb6 (by have := HYB.out; omega))
  have HBt := Lib.hid (HB5.out.trans (But.of_below (hb6.mono (Nat.le_of_lt HYB.out.1))))
  clear hb6 hk5 c0 c1 c2 c3 c4 hbk HY5 HK5 HE5 HB5
  generalize w5.setRow b9 KA = w6 at *
  obtain ⟨D, hD, hgd⟩ := HE.out.m
  obtain ⟨a, hda, hlook⟩ := look_num hD HIN.out HLD.out
  have hlk := hlook w6 hD
  rw [HKV.out, HKL.out] at hlk
  have HHAS : Hid (has D KL = true → a = ((P.mn (m + 1) t : Nat) : Int)) := Lib.hid (fun h => by
    have h1 := hgd rh ld HIN.out HUQ.out HLD.out (by rw [HKL.out]; exact h)
    rw [hda] at h1
    have h2 := numD_inj h1
    rw [h2, ← HMN.out, ← HPM.out, ← HUE.out]
    rfl)
  clear hD hgd hda hlook
  have hck := HE.out.k.2
  have hk9 := HK9.out
  obtain ⟨hs, hhs⟩ : ∃ b, has D KL = b := ⟨_, rfl⟩
  rw [hhs] at hlk HHAS
  clear hhs
  cases hs
  · clear HHAS
    go_upto_region 10 with (refine wpList_load_row rfl 117 (.tmp 9) rfl b9 rfl 117 KA (0, 0) _ hk9 Tryd.underlying117 rfl HKZ.out.1 ?_)
    clear hlk hck hk9
    have HDI := Lib.hid (fun W' (hT : Tab W') => cl_distinct u HG.out.ok W' hT)
    have HTR := Lib.hid (fun W' => cl_turn u HG.out.ok W')
    rw [HTU.out] at HDI HTR
    have hy0 := HY.out
    go_upto_region 10 with fail
    go_wp2_with (refine wpList_load_row rfl 87 (.tmp 7) rfl y rfl 87 TU (0, 0) _ hy0 Tryd.underlying87 rfl HUZ.out ?_)
    refine (HDI.out _ HE.out.tab).mono ?_
    rintro e wb ⟨rfl, hbb⟩
    have HYS : Hid (y ≤ wb.heap.size) := Lib.hid (Nat.le_trans (Nat.le_of_lt HY.out.lt) hbb.size)
    have HBt := Lib.hid (HBt.out.trans (But.of_below (hbb.mono (Nat.le_of_lt HY.out.lt))))
    have HE := Lib.hid (HE.out.later HP.out hbb)
    have HY := Lib.hid (HY.out.later hbb)
    have HK9 := Lib.hid (HK9.out.later hbb)
    clear hbb hy0
    have hul4 := u.turn_lt
    obtain ⟨ut, hut⟩ : ∃ z, u.turn = z := ⟨_, rfl⟩
    rw [hut] at HTR hul4
    obtain ⟨rr, hrr⟩ : ∃ z, ut % 2 = z := ⟨_, rfl⟩
    have HRR : Hid (u.turn % 2 = rr) := Lib.hid (by rw [hut, hrr])
    have hm1 : (ut : Int).tmod 2 = (rr : Int) := by rw [Int.tmod_eq_emod_of_nonneg (by omega)]; omega
    have hm2 : (ut : Int) % 2 = (rr : Int) := by omega
    have hm3 : IntKind.u8.wrap (rr : Int) = (rr : Int) := by rw [IntKind.wrap_u8]; omega
    have cS := HE.out.s.2
    have rS := fun dd os => cell_regrown cS dd os
    clear hut hrr
    go_upto_region 11 with fail
    refine wp_region_quiet_below (by kernel_rfl) (by kernel_rfl) ?_
    repeat (first
      | go_big_quiet_step (fail)
      | quiet_step (with_reducible exact Calls.regrown_of (HTR.out _))
      | (refine quiet_rowC (by rfl) 87 (.tmp 7) rfl y rfl (fun w' hw' => by obtain ⟨p, rfl⟩ := hw'; exact HY.out.later (below_regrown _ _ _)) Tryd.underlying87 rfl HUZ.out ?_))
    refine wpQuiet_nil ?_
    rintro _ ⟨qq, rfl⟩
    have hbq := below_regrown wb qq.d qq.os
    have HBt := Lib.hid (HBt.out.trans (But.of_below (hbq.mono HYS.out)))
    have HE := Lib.hid (HE.out.later HP.out hbq)
    have HY := Lib.hid (HY.out.later hbq)
    have HK9 := Lib.hid (HK9.out.later hbq)
    have HYS : Hid (y ≤ (grow (redrawn wb qq.d) qq.os).heap.size) := Lib.hid (Nat.le_of_lt HY.out.lt)
    clear hbq cS rS
    generalize grow (redrawn wb qq.d) qq.os = wq at *
    by_cases hrs : rr = P.sd
    · have hrd : ((rr : Int) == (P.sd : Int)) = true := by rw [beq_iff_eq, hrs]
      have HRS : Hid (u.turn % 2 = P.sd) := Lib.hid (by rw [HRR.out, hrs])
      clear hrs hm1 hm2 hm3
      have HCH := Lib.hid (fun W' (hE' : Env P x n W') => HP.out.choose W' u hE'.cr hE'.tab HG.out.ok HC0.out)
      rw [HTU.out] at HCH
      have hz0 := HP.out.chw u HG.out.ok
      obtain ⟨hLl, hLe, hLn0⟩ := HP.out.chl q u HG.out HC0.out
      have hLm := HP.out.chm q u m HG.out HC0.out HRS.out
      obtain ⟨z0, hz0e⟩ : ∃ z, P.ch u = z := ⟨_, rfl⟩
      rw [hz0e] at HCH hz0 hLl hLe hLn0 hLm
      clear hz0e
      obtain ⟨Lm, hLmm⟩ : ∃ l, (bitsList z0).map Fin.val = l := ⟨_, rfl⟩
      have HZL : Hid (Lm = [] ++ (bitsList z0).map Fin.val) := Lib.hid (by rw [hLmm]; rfl)
      have hLn : Lm ≠ [] := by rw [← hLmm]; simpa using hLn0
      rw [hLmm] at hLl hLe hLm
      clear hLmm hLn0
      have hcf := HE.out.c.2
      have hce := fun w => HP.out.cent (#[Value.agg TU] ++ P.cc) w
      have hy0 := HY.out
      go_upto_region 12 with fail
      go_wp2_with (refine wpList_load_row rfl 87 (.tmp 7) rfl y rfl 87 TU (0, 0) _ hy0 Tryd.underlying87 rfl HUZ.out ?_)
      refine (HCH.out _ HE.out).mono ?_
      rintro e wc ⟨rfl, hbc⟩
      have HBt := Lib.hid (HBt.out.trans (But.of_below (hbc.mono HYS.out)))
      have HE := Lib.hid (HE.out.later HP.out hbc)
      have HY := Lib.hid (HY.out.later hbc)
      have HK9 := Lib.hid (HK9.out.later hbc)
      clear hbc hcf hce hy0
      clear HYS
      have HLN : Hid (Lm ≠ []) := Lib.hid hLn
      have HLG := Lib.hid hLl
      have HLE := Lib.hid hLe
      have HMU := Lib.hid hLm
      clear hLn hLl hLe hLm
      obtain ⟨g, hgg⟩ : ∃ g, P.wo m u = g := ⟨_, rfl⟩
      have HGC : Hid (∀ c, g c = wonS P.sd P.tr u c + P.mn m (u.put P.tr c).1) := Lib.hid (fun c => by rw [← hgg]; rfl)
      rw [hgg] at HMU
      clear hgg
      go_wp2_with fail
      go_loopw [12, 13] (fun cc ff wr => ∃ (pre : List Nat) (z : Nat), W64 z ∧ Lm = pre ++ (bitsList z).map Fin.val ∧ cc = .int .u64 (z : Int) ∧ ff = .int .i64 (fw g pre : Int) ∧ Env P x (n + pre.length * 5 ^ m) wr ∧ Row wr y 87 TU ∧ But y (x + 4) W wr ∧ Row wr b9 117 KA) (fun cc _ _ => (intOf cc).toNat)
      case atStart => exact ⟨[], z0, hz0, HZL.out, rfl, rfl, HE.out.mono (by omega), HY.out, HBt.out, HK9.out⟩
      case round =>
        clear HE HY HBt HK9
        obtain ⟨pre, z, hzw, hll, rfl, rfl, hE, hY, hBt, hk9⟩ := hrel
        have HLL := Lib.hid hll
        have HE := Lib.hid hE
        have HY := Lib.hid hY
        have HBt := Lib.hid hBt
        have HK9 := Lib.hid hk9
        have HYS : Hid (y ≤ wr.heap.size) := Lib.hid (Nat.le_of_lt hY.lt)
        have HPL : Hid (pre.length ≤ 4) := Lib.hid (by
          have h1 := HLE.out
          have h2 := HQ.out
          rw [hll, List.length_append] at h1
          omega)
        clear hll hE hY hBt hk9
        by_cases hz : z = 0
        · subst hz
          have HEX : Hid ((∀ c ∈ Lm, c ∈ pre) ∨ fw g pre = 0) := Lib.hid (.inl (fun c hc => by rw [HLL.out, bitsList_zero] at hc; simpa using hc))
          have HF : Hid (fw g pre = P.mn (m + 1) u) := Lib.hid (by
            rw [HMU.out]
            refine fw_done HLN.out (by rw [← HMU.out]; have := Prm.mn_le (P := P) (m := m + 1) HG.out HM1.out; have := HQ.out; omega) (fun c hc => by rw [HLL.out]; exact List.mem_append_left _ hc) ?_
            exact HEX.out)
          obtain ⟨f, hf⟩ : ∃ f, fw g pre = f := ⟨_, rfl⟩
          rw [hf] at HF ⊢
          clear hf
          have hc5 : wr.cell? ⟨y, 5, none⟩ = some (.int .u8 0) := (HY.out.cell 5).trans HU5.out
          have hck := HE.out.k.2
          obtain ⟨D, hD, hgd⟩ := HE.out.m
          have HD := Lib.hid hD
          have HGD := Lib.hid hgd
          have hk9 := HK9.out
          have hnn : n + pre.length * 5 ^ m < maxLen := by
            have h1 := HN.out
            have h2 := HPL.out
            have h3 : pre.length * 5 ^ m ≤ 4 * 5 ^ m := Nat.mul_le_mul_right _ h2
            have h4 : 5 ^ (m + 1) = 5 * 5 ^ m := by rw [Nat.pow_succ, Nat.mul_comm]
            have h5 : 0 < 5 ^ m := Nat.pow_pos (by decide)
            omega
          clear hD hgd
          go_upto_region 19 with fail
          obtain ⟨w9, hrun, ho9, hg9⟩ := HD.out.update ck_keyed Tryd.underlying115 hnn HKO.out (numR_at (f : Int))
          have hrun : (Instr.mapUpdate 115 (.map (some (x + 4))) (.agg KA) (.int .i64 (f : Int))).run Tryd.prog wr = .ok () w9 := hrun
          go_wp2_with (refine wpList_load_row rfl 117 (.tmp 9) rfl b9 rfl 117 KA (0, 0) _ hk9 Tryd.underlying117 rfl HKZ.out.1 ?_)
          go_ret
          have hmx : x + 6 < wr.heap.size := HE.out.mlt
          refine ⟨by rw [HF.out, HMN.out]; rfl, ?_, by
            rw [HYW.out]
            exact HBt.out.trans ⟨hg9.os, hg9.tape, hg9.output, hg9.size, fun k hk hn => hg9.block k (Nat.lt_of_lt_of_le hk HYS.out) (by intro e; exact hn (by simpa using e))⟩⟩
          refine (HE.out.keep HP.out hg9.size (fun k hk hne => hg9.block k (by omega) (by intro e; exact hne (by simpa using e))) ⟨_, ho9, ?_⟩).mono ?_
          · rw [HF.out, ← HPM.out, ← HUE.out, ← HKL.out]
            exact HGD.out.put HD.out.isMap HIN.out HLD.out
          · have h2 := HPL.out
            have h3 : pre.length * 5 ^ m ≤ 4 * 5 ^ m := Nat.mul_le_mul_right _ h2
            have h4 : 5 ^ (m + 1) = 5 * 5 ^ m := by rw [Nat.pow_succ, Nat.mul_comm]
            have h5 : 0 < 5 ^ m := Nat.pow_pos (by decide)
            omega
        · have hz1 : ((z : Int) != 0) = true := by rw [bne_iff_ne]; omega
          by_cases hf0 : fw g pre = 0
          · have HEX : Hid ((∀ c ∈ Lm, c ∈ pre) ∨ fw g pre = 0) := Lib.hid (.inr hf0)
            have hfd : ((fw g pre : Nat) : Int) = 0 := by rw [hf0]; rfl
            clear hf0
            have HF : Hid (fw g pre = P.mn (m + 1) u) := Lib.hid (by
              rw [HMU.out]
              refine fw_done HLN.out (by rw [← HMU.out]; have := Prm.mn_le (P := P) (m := m + 1) HG.out HM1.out; have := HQ.out; omega) (fun c hc => by rw [HLL.out]; exact List.mem_append_left _ hc) ?_
              exact HEX.out)
            obtain ⟨f, hf⟩ : ∃ f, fw g pre = f := ⟨_, rfl⟩
            rw [hf] at HF hfd ⊢
            have hfg : ¬ (0 : Int) < (f : Int) := by omega
            clear hfd
            clear hf
            have hc5 : wr.cell? ⟨y, 5, none⟩ = some (.int .u8 0) := (HY.out.cell 5).trans HU5.out
            have hck := HE.out.k.2
            obtain ⟨D, hD, hgd⟩ := HE.out.m
            have HD := Lib.hid hD
            have HGD := Lib.hid hgd
            have hk9 := HK9.out
            have hnn : n + pre.length * 5 ^ m < maxLen := by
              have h1 := HN.out
              have h2 := HPL.out
              have h3 : pre.length * 5 ^ m ≤ 4 * 5 ^ m := Nat.mul_le_mul_right _ h2
              have h4 : 5 ^ (m + 1) = 5 * 5 ^ m := by rw [Nat.pow_succ, Nat.mul_comm]
              have h5 : 0 < 5 ^ m := Nat.pow_pos (by decide)
              omega
            clear hD hgd
            go_upto_region 19 with fail
            obtain ⟨w9, hrun, ho9, hg9⟩ := HD.out.update ck_keyed Tryd.underlying115 hnn HKO.out (numR_at (f : Int))
            have hrun : (Instr.mapUpdate 115 (.map (some (x + 4))) (.agg KA) (.int .i64 (f : Int))).run Tryd.prog wr = .ok () w9 := hrun
            go_wp2_with (refine wpList_load_row rfl 117 (.tmp 9) rfl b9 rfl 117 KA (0, 0) _ hk9 Tryd.underlying117 rfl HKZ.out.1 ?_)
            go_ret
            have hmx : x + 6 < wr.heap.size := HE.out.mlt
            refine ⟨by rw [HF.out, HMN.out]; rfl, ?_, by
              rw [HYW.out]
              exact HBt.out.trans ⟨hg9.os, hg9.tape, hg9.output, hg9.size, fun k hk hn => hg9.block k (Nat.lt_of_lt_of_le hk HYS.out) (by intro e; exact hn (by simpa using e))⟩⟩
            refine (HE.out.keep HP.out hg9.size (fun k hk hne => hg9.block k (by omega) (by intro e; exact hne (by simpa using e))) ⟨_, ho9, ?_⟩).mono ?_
            · rw [HF.out, ← HPM.out, ← HUE.out, ← HKL.out]
              exact HGD.out.put HD.out.isMap HIN.out HLD.out
            · have h2 := HPL.out
              have h3 : pre.length * 5 ^ m ≤ 4 * 5 ^ m := Nat.mul_le_mul_right _ h2
              have h4 : 5 ^ (m + 1) = 5 * 5 ^ m := by rw [Nat.pow_succ, Nat.mul_comm]
              have h5 : 0 < 5 ^ m := Nat.pow_pos (by decide)
              omega
          · have hfd : (0 : Int) < ((fw g pre : Nat) : Int) := by omega
            obtain ⟨hk, hcons⟩ := bitsList_cons z hz hzw
            have hcl := HLG.out (Lib.ctz 64 z) (by rw [HLL.out, hcons]; simp)
            have HXX : Hid (Lm = (pre ++ [Lib.ctz 64 z]) ++ (bitsList (drop1 z)).map Fin.val) := Lib.hid (by rw [HLL.out, hcons]; simp)
            have HFI := Lib.hid (fun (W' : World) (hT : Tab W') => cl_first z hzw hz W' hT)
            have hdr := drop_run z hzw hz
            have HDW := Lib.hid (drop1_w64 hzw hz)
            have HDL := Lib.hid (drop1_lt z hz)
            have HPR : Hid (pre.length + 1 ≤ 4) := Lib.hid (by
              have h1 := HLE.out
              have h2 := HQ.out
              rw [HXX.out, List.length_append, List.length_append] at h1
              simp at h1
              omega)
            clear hcons hk
            obtain ⟨c, hc⟩ : ∃ c, Lib.ctz 64 z = c := ⟨_, rfl⟩
            rw [hc] at hcl HXX HFI
            clear hc
            obtain ⟨z', hz'⟩ : ∃ q, drop1 z = q := ⟨_, rfl⟩
            rw [hz'] at hdr HDW HDL HXX
            clear hz'
            obtain ⟨hc52, hcb⟩ := legal_bit (cards_pk HG.out.ok.pk hcl)
            obtain ⟨q', hg', hq', hm'⟩ := HG.out.put P.tr hcl HM1.out
            have HG2 := Lib.hid hg'
            have HM2 := Lib.hid hm'
            have HQ2 : Hid (q' ≤ 4) := Lib.hid (by have := HQ.out; omega)
            have HFW : Hid (fw g (pre ++ [c]) = min (fw g pre) (g c)) := Lib.hid (fw_snoc g pre c)
            have HPU := Lib.hid (fun W' => cl_put u HG.out.ok P.tr P.sd c hc52 HP.out.tr W')
            rw [HTU.out] at HPU
            obtain ⟨un, hun⟩ : ∃ un, (u.put P.tr c).1 = un := ⟨_, rfl⟩
            obtain ⟨wn, hwn⟩ : ∃ wn, wonS P.sd P.tr u c = wn := ⟨_, rfl⟩
            have hgc := HGC.out c
            rw [hun, hwn] at hgc
            rw [hun, hwn] at HPU
            rw [hun] at HG2 HM2
            have hw1 : wn ≤ 1 := by rw [← hwn]; exact (wonS_le P.sd P.tr u c).1
            have hr7 := Prm.mn_le (P := P) (m := m) HG2.out HM2.out
            obtain ⟨TN, hTN⟩ : ∃ A, tbA un = A := ⟨_, rfl⟩
            have HNZ : Hid ((Tryd.prog.info? 87).map (·.size) = some TN.size ∧ TN.size = 10 ∧ TN.all (·.oneCell') = true) := Lib.hid (by rw [← hTN]; exact ⟨size_ct, rfl, tbA_one _⟩)
            have HIH := Lib.hid (fun n' W' hE' hn' => HI.out n' un q' W' HG2.out HM2.out HQ2.out hE' hn')
            rw [hTN] at HPU HIH
            obtain ⟨r, hr⟩ : ∃ r, P.mn m un = r := ⟨_, rfl⟩
            rw [hr] at hgc HIH hr7
            have hq2 := HQ2.out
            clear hcl hc52 hcb hg' hq' hm' hun hwn hTN hr hf0
            go_upto_region 16 with fail
            refine wp_region_reliesT (ChF [.agg TU, .int .u64 (z : Int), .int .u8 (c : Int), .int .u8 (P.tr : Int), .int .u8 (P.sd : Int), .tuple #[.agg TN, .int .i64 (wn : Int)], .tuple #[.agg TN, .int .i64 (wn : Int)], .agg TN, .int .i64 (wn : Int), undef, undef, .int .i64 (wn : Int)] [9, 10] [] (FoS wr TN)) (fun _ => true) (by kernel_rfl) (by kernel_rfl) (by kernel_rfl) (by kernel_rfl) (ChF.start ⟨(Below.refl _ _).drew, trivial⟩) ?obls ?fini
            case obls =>
              refine ⟨⟨?_, ?_⟩, ⟨?_, ?_⟩, ⟨?_, ?_⟩, ⟨?_, ?_⟩, ⟨?_, ?_⟩, ⟨?_, ?_⟩, ⟨?_, ?_⟩, ⟨?_, ?_⟩, ⟨?_, ?_⟩, ⟨?_, ?_⟩, ⟨?_, ?_⟩, ⟨?_, ?_⟩, trivial⟩
              · rfl
              · rintro ρ f W ⟨vs, us, hX⟩ hfi hw hcl hf
                have f7 : ρ (.tmp 7) = .pointer (some ⟨y, 0, none⟩) := hf.1 7 (by simp [Op.operands])
                exact ok_value (v := .agg TU) (w' := W) (exec_load_row 87 (.tmp 7) rfl y f7 (HY.out.later hX.st.1) Tryd.underlying87 rfl HUZ.out) (hX.pure 0 _ (by decide) (by decide) rfl hX.st)
              · rfl
              · rintro ρ f W ⟨vs, us, hX⟩ hfi hw hcl hf
                have f12 : ρ (.tmp 12) = .int .u64 (z : Int) := hf.1 12 (by simp [Op.operands])
                exact ok_value (v := .int .u64 (z : Int)) (w' := W) (by simp [execOp, f12]) (hX.pure 1 _ (by decide) (by decide) rfl hX.st)
              · rfl
              · rintro ρ f W ⟨vs, us, hX⟩ hfi hw hcl hf
                have f62 : ρ (.tmp 62) = .int .u64 (z : Int) := hX.val 1 _ _ (by decide) (by decide) (hf.1 62 (by simp [Op.operands, Call.operands])) rfl
                refine ok_call (f := 50) (args := #[.int .u64 (z : Int)]) (by simp [execOp, f62, hf.2.2.2, go_sem]) ?_
                refine (HFI.out W (HE.out.later HP.out hX.st.1).tab).mono ?_
                rintro e w5 ⟨rfl, rfl⟩
                exact ⟨_, rfl, hX.pure 2 _ (by decide) (by decide) rfl hX.st⟩
              · rfl
              · rintro ρ f W ⟨vs, us, hX⟩ hfi hw hcl hf
                have f5 : ρ (.tmp 5) = .pointer (some ⟨x, 0, none⟩) := hf.1 5 (by simp [Op.operands])
                have hc := (HE.out.later HP.out hX.st.1).t.2
                exact ok_value (v := .int .u8 (P.tr : Int)) (w' := W) (by simp [execOp, f5, go_sem, hc]) (hX.pure 3 _ (by decide) (by decide) rfl hX.st)
              · rfl
              · rintro ρ f W ⟨vs, us, hX⟩ hfi hw hcl hf
                have f3 : ρ (.tmp 3) = .pointer (some ⟨x + 1, 0, none⟩) := hf.1 3 (by simp [Op.operands])
                have hc := (HE.out.later HP.out hX.st.1).s.2
                exact ok_value (v := .int .u8 (P.sd : Int)) (w' := W) (by simp [execOp, f3, go_sem, hc]) (hX.pure 4 _ (by decide) (by decide) rfl hX.st)
              · rfl
              · rintro ρ f W ⟨vs, us, hX⟩ hfi hw hcl hf
                have f61 : ρ (.tmp 61) = .agg TU := hX.val 0 _ _ (by decide) (by decide) (hf.1 61 (by simp [Op.operands, Call.operands])) rfl
                have f63 : ρ (.tmp 63) = .int .u8 (c : Int) := hX.val 2 _ _ (by decide) (by decide) (hf.1 63 (by simp [Op.operands, Call.operands])) rfl
                have f64 : ρ (.tmp 64) = .int .u8 (P.tr : Int) := hX.val 3 _ _ (by decide) (by decide) (hf.1 64 (by simp [Op.operands, Call.operands])) rfl
                have f65 : ρ (.tmp 65) = .int .u8 (P.sd : Int) := hX.val 4 _ _ (by decide) (by decide) (hf.1 65 (by simp [Op.operands, Call.operands])) rfl
                refine ok_call (f := 52) (args := #[.agg TU, .int .u8 (c : Int), .int .u8 (P.tr : Int), .int .u8 (P.sd : Int)]) (by simp [execOp, f61, f63, f64, f65, hf.2.2.2, go_sem]) ?_
                refine (HPU.out W).mono ?_
                rintro e w5 ⟨rfl, hb5⟩
                exact ⟨_, rfl, hX.pure 5 _ (by decide) (by decide) rfl (FoS.below hX.st hb5)⟩
              · rfl
              · rintro ρ f W ⟨vs, us, hX⟩ hfi hw hcl hf
                have f66 : ρ (.tmp 66) = .tuple #[.agg TN, .int .i64 (wn : Int)] := hX.val 5 _ _ (by decide) (by decide) (hf.1 66 (by simp [Op.operands])) rfl
                exact ok_value (v := .tuple #[.agg TN, .int .i64 (wn : Int)]) (w' := W) (by simp [execOp, f66]) (hX.pure 6 _ (by decide) (by decide) rfl hX.st)
              · rfl
              · rintro ρ f W ⟨vs, us, hX⟩ hfi hw hcl hf
                have f60 : ρ (.tmp 60) = .tuple #[.agg TN, .int .i64 (wn : Int)] := hX.val 6 _ _ (by decide) (by decide) (hf.1 60 (by simp [Op.operands])) rfl
                exact ok_value (v := .agg TN) (w' := W) (by simp [execOp, f60, go_sem]) (hX.pure 7 _ (by decide) (by decide) rfl hX.st)
              · rfl
              · rintro ρ f W ⟨vs, us, hX⟩ hfi hw hcl hf
                have f60 : ρ (.tmp 60) = .tuple #[.agg TN, .int .i64 (wn : Int)] := hX.val 6 _ _ (by decide) (by decide) (hf.1 60 (by simp [Op.operands])) rfl
                exact ok_value (v := .int .i64 (wn : Int)) (w' := W) (by simp [execOp, f60, go_sem]) (hX.pure 8 _ (by decide) (by decide) rfl hX.st)
              · rfl
              · rintro ρ f W ⟨vs, us, hX⟩ hfi hw hcl hf
                have hl := hX.le1 0 9 rfl hfi
                obtain rfl := list0 hl
                obtain ⟨hbe, -⟩ := hX.st
                refine ok_value (exec_alloc 87 rfl (c := zeroT) (fun w => by kernel_rfl)) (hX.step1 9 _ rfl (by decide) (by decide) ⟨hbe.alloc hbe.size _, W.heap.size, rfl, hbe.size, Row.new W 87 zeroT⟩)
              · rfl
              · rintro ρ f W ⟨vs, us, hX⟩ hfi hw hcl hf
                have g14 := hX.get1 0 9 rfl (hf.1 14 (by simp [Op.operands]))
                have f67 : ρ (.tmp 67) = .agg TN := hX.val 7 _ _ (by decide) (by decide) (hf.1 67 (by simp [Op.operands])) rfl
                have hl := hX.le1 1 10 rfl hfi
                obtain ⟨p, rfl⟩ : ∃ p, vs = [p] := by
                  have h6 := hw 9 (by decide)
                  obtain ⟨v, hv⟩ := Option.isSome_iff_exists.1 h6
                  exact ⟨v, list1 hl (hX.get1 0 9 rfl hv)⟩
                obtain ⟨hbe, g0, rfl, hg0, hr0⟩ := hX.st
                have f14 : ρ (.tmp 14) = .pointer (some ⟨g0, 0, none⟩) := (Option.some.inj (show some (Value.pointer (some ⟨g0, 0, none⟩)) = some (ρ (.tmp 14)) from g14)).symm
                have hb5 := below_setRow (Below.refl g0 W) (Nat.le_refl _) TN
                exact ok_skip (exec_store_row 87 (.tmp 14) (.tmp 67) rfl g0 TN f14 f67 hr0 HNZ.out.1 (by rw [HNZ.out.2.1]; rfl) HNZ.out.2.2) (hX.step1 10 _ rfl (by decide) (by decide) ⟨hbe.trans (hb5.mono hg0), g0, rfl, hg0, setRow_heap _ _ _ _ _ _ hr0⟩)
              · rfl
              · rintro ρ f W ⟨vs, us, hX⟩ hfi hw hcl hf
                have f68 : ρ (.tmp 68) = .int .i64 (wn : Int) := hX.val 8 _ _ (by decide) (by decide) (hf.1 68 (by simp [Op.operands])) rfl
                exact ok_value (v := .int .i64 (wn : Int)) (w' := W) (by simp [execOp, f68]) (hX.pure 11 _ (by decide) (by decide) rfl hX.st)
            case fini =>
              rintro us w6 hlen ⟨vs, us', hX⟩
              have hl0 : us.length = 12 := hlen
              match us, hl0 with
              | [y0, y1, y2, y3, y4, y5, y6, y7, y8, y9, y10, y11], _ =>
                have hst := hX.st
                obtain ⟨p, hvs⟩ := list2 hX.l1 (hX.get1 1 10 rfl (v := y10) rfl)
                have hy9 : some p = some y9 := by have := hX.get1 0 9 rfl (v := y9) rfl; rw [hvs] at this; exact this
                obtain rfl := Option.some.inj hy9
                have hy : y11 = .int .i64 (wn : Int) := hX.val 11 _ _ (by decide) (by decide) rfl rfl
                subst hy
                rw [hvs] at hst
                obtain ⟨hb6, g0, rfl, hg0, hr6⟩ := hst
                have HE6 := Lib.hid (HE.out.later HP.out hb6)
                have HY6 := Lib.hid (HY.out.later hb6)
                have HB6 : Hid (But y (x + 4) W w6) := Lib.hid (HBt.out.trans (But.of_below (hb6.mono HYS.out)))
                have HK6 := Lib.hid (HK9.out.later hb6)
                have HG0 : Hid (y ≤ g0) := Lib.hid (Nat.le_trans HYS.out hg0)
                clear hX hvs hb6 hg0 hlen
                simp only [putAll, List.zip_cons_cons, List.zip_nil_right, List.foldl_cons, List.foldl_nil]
                simp only [Act.put, List.setIfInBounds_toArray, List.set_cons_succ, List.set_cons_zero]
                have hcf := HE6.out.f.2
                unfold folV at hcf
                have hnn : n + pre.length * 5 ^ m + 5 ^ m < maxLen := by
                  have h1 := HN.out
                  have h2 := HPR.out
                  have h3 : (pre.length + 1) * 5 ^ m ≤ 4 * 5 ^ m := Nat.mul_le_mul_right _ h2
                  have h4 : 5 ^ (m + 1) = 5 * 5 ^ m := by rw [Nat.pow_succ, Nat.mul_comm]
                  rw [Nat.succ_mul] at h3
                  omega
                have HNN := Lib.hid hnn
                clear hnn
                go_upto_region 17 with fail
                go_wp2_with (refine wpList_load_row rfl 87 (.tmp 14) rfl g0 rfl 87 TN (0, 0) _ hr6 Tryd.underlying87 rfl HNZ.out.1 ?_)
                refine (HIH.out _ w6 HE6.out HNN.out).mono ?_
                rintro e w7 ⟨rfl, hE7, hB7⟩
                have HE7 := Lib.hid hE7
                have hmx := HE6.out.mlt
                have HY7 := Lib.hid (hB7.row HY6.out HY6.out.lt HYX.out.1)
                have HK7 := Lib.hid (hB7.row HK6.out HK6.out.lt HYX.out.2)
                have HB7 : Hid (But y (x + 4) W w7) := Lib.hid (HB6.out.trans (hB7.mono (Nat.le_of_lt HY6.out.lt)))
                clear hE7 hB7 hr6 hcf hmx
                have hwr : IntKind.i64.wrap ((wn : Int) + (r : Int)) = (wn : Int) + (r : Int) := IntWalk.i64_in _ (by omega)
                have hmin : (if (wn : Int) + (r : Int) < ((fw g pre : Nat) : Int) then (wn : Int) + (r : Int) else ((fw g pre : Nat) : Int)) = ((fw g (pre ++ [c]) : Nat) : Int) := by
                  rw [HFW.out, hgc]
                  split <;> omega
                go_wp2_with fail
                go_roundw
                case rel => exact ⟨pre ++ [c], z', HDW.out, HXX.out, by go_num, by go_num, by rw [List.length_append, List.length_singleton, Nat.succ_mul, ← Nat.add_assoc]; exact HE7.out, HY7.out, HB7.out, HK7.out⟩
                case measure => have := HDL.out; simp [intOf]; omega
    · have hrd : ((rr : Int) == (P.sd : Int)) = false := by rw [beq_eq_false_iff_ne]; omega
      have HRS : Hid (u.turn % 2 ≠ P.sd) := Lib.hid (by rw [HRR.out]; exact hrs)
      rw [hrd]
      clear hrs hm1 hm2 hm3
      obtain ⟨hLl, hLe, hLn0⟩ := HG.out.few HC0.out
      have hLm := HG.out.few_mn (P := P) m (.inr HRS.out)
      have hz0 := fewM_w64 HG.out.ok
      obtain ⟨z0, hz0e⟩ : ∃ z, fewM u = z := ⟨_, rfl⟩
      rw [hz0e] at hz0 hLl hLe hLn0 hLm ⊢
      clear hz0e
      obtain ⟨Lm, hLmm⟩ : ∃ l, (bitsList z0).map Fin.val = l := ⟨_, rfl⟩
      have HZL : Hid (Lm = [] ++ (bitsList z0).map Fin.val) := Lib.hid (by rw [hLmm]; rfl)
      have hLn : Lm ≠ [] := by rw [← hLmm]; simpa using hLn0
      rw [hLmm] at hLl hLe hLm
      clear hLmm hLn0
      clear HYS
      have HLN : Hid (Lm ≠ []) := Lib.hid hLn
      have HLG := Lib.hid hLl
      have HLE := Lib.hid hLe
      have HMU := Lib.hid hLm
      clear hLn hLl hLe hLm
      obtain ⟨g, hgg⟩ : ∃ g, P.wo m u = g := ⟨_, rfl⟩
      have HGC : Hid (∀ c, g c = wonS P.sd P.tr u c + P.mn m (u.put P.tr c).1) := Lib.hid (fun c => by rw [← hgg]; rfl)
      rw [hgg] at HMU
      clear hgg
      go_wp2_with fail
      go_loopw [12, 13] (fun cc ff wr => ∃ (pre : List Nat) (z : Nat), W64 z ∧ Lm = pre ++ (bitsList z).map Fin.val ∧ cc = .int .u64 (z : Int) ∧ ff = .int .i64 (fw g pre : Int) ∧ Env P x (n + pre.length * 5 ^ m) wr ∧ Row wr y 87 TU ∧ But y (x + 4) W wr ∧ Row wr b9 117 KA) (fun cc _ _ => (intOf cc).toNat)
      case atStart => exact ⟨[], z0, hz0, HZL.out, rfl, rfl, HE.out.mono (by omega), HY.out, HBt.out, HK9.out⟩
      case round =>
        clear HE HY HBt HK9
        obtain ⟨pre, z, hzw, hll, rfl, rfl, hE, hY, hBt, hk9⟩ := hrel
        have HLL := Lib.hid hll
        have HE := Lib.hid hE
        have HY := Lib.hid hY
        have HBt := Lib.hid hBt
        have HK9 := Lib.hid hk9
        have HYS : Hid (y ≤ wr.heap.size) := Lib.hid (Nat.le_of_lt hY.lt)
        have HPL : Hid (pre.length ≤ 4) := Lib.hid (by
          have h1 := HLE.out
          have h2 := HQ.out
          rw [hll, List.length_append] at h1
          omega)
        clear hll hE hY hBt hk9
        by_cases hz : z = 0
        · subst hz
          have HEX : Hid ((∀ c ∈ Lm, c ∈ pre) ∨ fw g pre = 0) := Lib.hid (.inl (fun c hc => by rw [HLL.out, bitsList_zero] at hc; simpa using hc))
          have HF : Hid (fw g pre = P.mn (m + 1) u) := Lib.hid (by
            rw [HMU.out]
            refine fw_done HLN.out (by rw [← HMU.out]; have := Prm.mn_le (P := P) (m := m + 1) HG.out HM1.out; have := HQ.out; omega) (fun c hc => by rw [HLL.out]; exact List.mem_append_left _ hc) ?_
            exact HEX.out)
          obtain ⟨f, hf⟩ : ∃ f, fw g pre = f := ⟨_, rfl⟩
          rw [hf] at HF ⊢
          clear hf
          have hc5 : wr.cell? ⟨y, 5, none⟩ = some (.int .u8 0) := (HY.out.cell 5).trans HU5.out
          have hck := HE.out.k.2
          obtain ⟨D, hD, hgd⟩ := HE.out.m
          have HD := Lib.hid hD
          have HGD := Lib.hid hgd
          have hk9 := HK9.out
          have hnn : n + pre.length * 5 ^ m < maxLen := by
            have h1 := HN.out
            have h2 := HPL.out
            have h3 : pre.length * 5 ^ m ≤ 4 * 5 ^ m := Nat.mul_le_mul_right _ h2
            have h4 : 5 ^ (m + 1) = 5 * 5 ^ m := by rw [Nat.pow_succ, Nat.mul_comm]
            have h5 : 0 < 5 ^ m := Nat.pow_pos (by decide)
            omega
          clear hD hgd
          go_upto_region 19 with fail
          obtain ⟨w9, hrun, ho9, hg9⟩ := HD.out.update ck_keyed Tryd.underlying115 hnn HKO.out (numR_at (f : Int))
          have hrun : (Instr.mapUpdate 115 (.map (some (x + 4))) (.agg KA) (.int .i64 (f : Int))).run Tryd.prog wr = .ok () w9 := hrun
          go_wp2_with (refine wpList_load_row rfl 117 (.tmp 9) rfl b9 rfl 117 KA (0, 0) _ hk9 Tryd.underlying117 rfl HKZ.out.1 ?_)
          go_ret
          have hmx : x + 6 < wr.heap.size := HE.out.mlt
          refine ⟨by rw [HF.out, HMN.out]; rfl, ?_, by
            rw [HYW.out]
            exact HBt.out.trans ⟨hg9.os, hg9.tape, hg9.output, hg9.size, fun k hk hn => hg9.block k (Nat.lt_of_lt_of_le hk HYS.out) (by intro e; exact hn (by simpa using e))⟩⟩
          refine (HE.out.keep HP.out hg9.size (fun k hk hne => hg9.block k (by omega) (by intro e; exact hne (by simpa using e))) ⟨_, ho9, ?_⟩).mono ?_
          · rw [HF.out, ← HPM.out, ← HUE.out, ← HKL.out]
            exact HGD.out.put HD.out.isMap HIN.out HLD.out
          · have h2 := HPL.out
            have h3 : pre.length * 5 ^ m ≤ 4 * 5 ^ m := Nat.mul_le_mul_right _ h2
            have h4 : 5 ^ (m + 1) = 5 * 5 ^ m := by rw [Nat.pow_succ, Nat.mul_comm]
            have h5 : 0 < 5 ^ m := Nat.pow_pos (by decide)
            omega
        · have hz1 : ((z : Int) != 0) = true := by rw [bne_iff_ne]; omega
          by_cases hf0 : fw g pre = 0
          · have HEX : Hid ((∀ c ∈ Lm, c ∈ pre) ∨ fw g pre = 0) := Lib.hid (.inr hf0)
            have hfd : ((fw g pre : Nat) : Int) = 0 := by rw [hf0]; rfl
            clear hf0
            have HF : Hid (fw g pre = P.mn (m + 1) u) := Lib.hid (by
              rw [HMU.out]
              refine fw_done HLN.out (by rw [← HMU.out]; have := Prm.mn_le (P := P) (m := m + 1) HG.out HM1.out; have := HQ.out; omega) (fun c hc => by rw [HLL.out]; exact List.mem_append_left _ hc) ?_
              exact HEX.out)
            obtain ⟨f, hf⟩ : ∃ f, fw g pre = f := ⟨_, rfl⟩
            rw [hf] at HF hfd ⊢
            have hfg : ¬ (0 : Int) < (f : Int) := by omega
            clear hfd
            clear hf
            have hc5 : wr.cell? ⟨y, 5, none⟩ = some (.int .u8 0) := (HY.out.cell 5).trans HU5.out
            have hck := HE.out.k.2
            obtain ⟨D, hD, hgd⟩ := HE.out.m
            have HD := Lib.hid hD
            have HGD := Lib.hid hgd
            have hk9 := HK9.out
            have hnn : n + pre.length * 5 ^ m < maxLen := by
              have h1 := HN.out
              have h2 := HPL.out
              have h3 : pre.length * 5 ^ m ≤ 4 * 5 ^ m := Nat.mul_le_mul_right _ h2
              have h4 : 5 ^ (m + 1) = 5 * 5 ^ m := by rw [Nat.pow_succ, Nat.mul_comm]
              have h5 : 0 < 5 ^ m := Nat.pow_pos (by decide)
              omega
            clear hD hgd
            go_upto_region 19 with fail
            obtain ⟨w9, hrun, ho9, hg9⟩ := HD.out.update ck_keyed Tryd.underlying115 hnn HKO.out (numR_at (f : Int))
            have hrun : (Instr.mapUpdate 115 (.map (some (x + 4))) (.agg KA) (.int .i64 (f : Int))).run Tryd.prog wr = .ok () w9 := hrun
            go_wp2_with (refine wpList_load_row rfl 117 (.tmp 9) rfl b9 rfl 117 KA (0, 0) _ hk9 Tryd.underlying117 rfl HKZ.out.1 ?_)
            go_ret
            have hmx : x + 6 < wr.heap.size := HE.out.mlt
            refine ⟨by rw [HF.out, HMN.out]; rfl, ?_, by
              rw [HYW.out]
              exact HBt.out.trans ⟨hg9.os, hg9.tape, hg9.output, hg9.size, fun k hk hn => hg9.block k (Nat.lt_of_lt_of_le hk HYS.out) (by intro e; exact hn (by simpa using e))⟩⟩
            refine (HE.out.keep HP.out hg9.size (fun k hk hne => hg9.block k (by omega) (by intro e; exact hne (by simpa using e))) ⟨_, ho9, ?_⟩).mono ?_
            · rw [HF.out, ← HPM.out, ← HUE.out, ← HKL.out]
              exact HGD.out.put HD.out.isMap HIN.out HLD.out
            · have h2 := HPL.out
              have h3 : pre.length * 5 ^ m ≤ 4 * 5 ^ m := Nat.mul_le_mul_right _ h2
              have h4 : 5 ^ (m + 1) = 5 * 5 ^ m := by rw [Nat.pow_succ, Nat.mul_comm]
              have h5 : 0 < 5 ^ m := Nat.pow_pos (by decide)
              omega
          · have hfd : (0 : Int) < ((fw g pre : Nat) : Int) := by omega
            obtain ⟨hk, hcons⟩ := bitsList_cons z hz hzw
            have hcl := HLG.out (Lib.ctz 64 z) (by rw [HLL.out, hcons]; simp)
            have HXX : Hid (Lm = (pre ++ [Lib.ctz 64 z]) ++ (bitsList (drop1 z)).map Fin.val) := Lib.hid (by rw [HLL.out, hcons]; simp)
            have HFI := Lib.hid (fun (W' : World) (hT : Tab W') => cl_first z hzw hz W' hT)
            have hdr := drop_run z hzw hz
            have HDW := Lib.hid (drop1_w64 hzw hz)
            have HDL := Lib.hid (drop1_lt z hz)
            have HPR : Hid (pre.length + 1 ≤ 4) := Lib.hid (by
              have h1 := HLE.out
              have h2 := HQ.out
              rw [HXX.out, List.length_append, List.length_append] at h1
              simp at h1
              omega)
            clear hcons hk
            obtain ⟨c, hc⟩ : ∃ c, Lib.ctz 64 z = c := ⟨_, rfl⟩
            rw [hc] at hcl HXX HFI
            clear hc
            obtain ⟨z', hz'⟩ : ∃ q, drop1 z = q := ⟨_, rfl⟩
            rw [hz'] at hdr HDW HDL HXX
            clear hz'
            obtain ⟨hc52, hcb⟩ := legal_bit (cards_pk HG.out.ok.pk hcl)
            obtain ⟨q', hg', hq', hm'⟩ := HG.out.put P.tr hcl HM1.out
            have HG2 := Lib.hid hg'
            have HM2 := Lib.hid hm'
            have HQ2 : Hid (q' ≤ 4) := Lib.hid (by have := HQ.out; omega)
            have HFW : Hid (fw g (pre ++ [c]) = min (fw g pre) (g c)) := Lib.hid (fw_snoc g pre c)
            have HPU := Lib.hid (fun W' => cl_put u HG.out.ok P.tr P.sd c hc52 HP.out.tr W')
            rw [HTU.out] at HPU
            obtain ⟨un, hun⟩ : ∃ un, (u.put P.tr c).1 = un := ⟨_, rfl⟩
            obtain ⟨wn, hwn⟩ : ∃ wn, wonS P.sd P.tr u c = wn := ⟨_, rfl⟩
            have hgc := HGC.out c
            rw [hun, hwn] at hgc
            rw [hun, hwn] at HPU
            rw [hun] at HG2 HM2
            have hw1 : wn ≤ 1 := by rw [← hwn]; exact (wonS_le P.sd P.tr u c).1
            have hr7 := Prm.mn_le (P := P) (m := m) HG2.out HM2.out
            obtain ⟨TN, hTN⟩ : ∃ A, tbA un = A := ⟨_, rfl⟩
            have HNZ : Hid ((Tryd.prog.info? 87).map (·.size) = some TN.size ∧ TN.size = 10 ∧ TN.all (·.oneCell') = true) := Lib.hid (by rw [← hTN]; exact ⟨size_ct, rfl, tbA_one _⟩)
            have HIH := Lib.hid (fun n' W' hE' hn' => HI.out n' un q' W' HG2.out HM2.out HQ2.out hE' hn')
            rw [hTN] at HPU HIH
            obtain ⟨r, hr⟩ : ∃ r, P.mn m un = r := ⟨_, rfl⟩
            rw [hr] at hgc HIH hr7
            have hq2 := HQ2.out
            clear hcl hc52 hcb hg' hq' hm' hun hwn hTN hr hf0
            go_upto_region 16 with fail
            refine wp_region_reliesT (ChF [.agg TU, .int .u64 (z : Int), .int .u8 (c : Int), .int .u8 (P.tr : Int), .int .u8 (P.sd : Int), .tuple #[.agg TN, .int .i64 (wn : Int)], .tuple #[.agg TN, .int .i64 (wn : Int)], .agg TN, .int .i64 (wn : Int), undef, undef, .int .i64 (wn : Int)] [9, 10] [] (FoS wr TN)) (fun _ => true) (by kernel_rfl) (by kernel_rfl) (by kernel_rfl) (by kernel_rfl) (ChF.start ⟨(Below.refl _ _).drew, trivial⟩) ?obls ?fini
            case obls =>
              refine ⟨⟨?_, ?_⟩, ⟨?_, ?_⟩, ⟨?_, ?_⟩, ⟨?_, ?_⟩, ⟨?_, ?_⟩, ⟨?_, ?_⟩, ⟨?_, ?_⟩, ⟨?_, ?_⟩, ⟨?_, ?_⟩, ⟨?_, ?_⟩, ⟨?_, ?_⟩, ⟨?_, ?_⟩, trivial⟩
              · rfl
              · rintro ρ f W ⟨vs, us, hX⟩ hfi hw hcl hf
                have f7 : ρ (.tmp 7) = .pointer (some ⟨y, 0, none⟩) := hf.1 7 (by simp [Op.operands])
                exact ok_value (v := .agg TU) (w' := W) (exec_load_row 87 (.tmp 7) rfl y f7 (HY.out.later hX.st.1) Tryd.underlying87 rfl HUZ.out) (hX.pure 0 _ (by decide) (by decide) rfl hX.st)
              · rfl
              · rintro ρ f W ⟨vs, us, hX⟩ hfi hw hcl hf
                have f12 : ρ (.tmp 12) = .int .u64 (z : Int) := hf.1 12 (by simp [Op.operands])
                exact ok_value (v := .int .u64 (z : Int)) (w' := W) (by simp [execOp, f12]) (hX.pure 1 _ (by decide) (by decide) rfl hX.st)
              · rfl
              · rintro ρ f W ⟨vs, us, hX⟩ hfi hw hcl hf
                have f62 : ρ (.tmp 62) = .int .u64 (z : Int) := hX.val 1 _ _ (by decide) (by decide) (hf.1 62 (by simp [Op.operands, Call.operands])) rfl
                refine ok_call (f := 50) (args := #[.int .u64 (z : Int)]) (by simp [execOp, f62, hf.2.2.2, go_sem]) ?_
                refine (HFI.out W (HE.out.later HP.out hX.st.1).tab).mono ?_
                rintro e w5 ⟨rfl, rfl⟩
                exact ⟨_, rfl, hX.pure 2 _ (by decide) (by decide) rfl hX.st⟩
              · rfl
              · rintro ρ f W ⟨vs, us, hX⟩ hfi hw hcl hf
                have f5 : ρ (.tmp 5) = .pointer (some ⟨x, 0, none⟩) := hf.1 5 (by simp [Op.operands])
                have hc := (HE.out.later HP.out hX.st.1).t.2
                exact ok_value (v := .int .u8 (P.tr : Int)) (w' := W) (by simp [execOp, f5, go_sem, hc]) (hX.pure 3 _ (by decide) (by decide) rfl hX.st)
              · rfl
              · rintro ρ f W ⟨vs, us, hX⟩ hfi hw hcl hf
                have f3 : ρ (.tmp 3) = .pointer (some ⟨x + 1, 0, none⟩) := hf.1 3 (by simp [Op.operands])
                have hc := (HE.out.later HP.out hX.st.1).s.2
                exact ok_value (v := .int .u8 (P.sd : Int)) (w' := W) (by simp [execOp, f3, go_sem, hc]) (hX.pure 4 _ (by decide) (by decide) rfl hX.st)
              · rfl
              · rintro ρ f W ⟨vs, us, hX⟩ hfi hw hcl hf
                have f61 : ρ (.tmp 61) = .agg TU := hX.val 0 _ _ (by decide) (by decide) (hf.1 61 (by simp [Op.operands, Call.operands])) rfl
                have f63 : ρ (.tmp 63) = .int .u8 (c : Int) := hX.val 2 _ _ (by decide) (by decide) (hf.1 63 (by simp [Op.operands, Call.operands])) rfl
                have f64 : ρ (.tmp 64) = .int .u8 (P.tr : Int) := hX.val 3 _ _ (by decide) (by decide) (hf.1 64 (by simp [Op.operands, Call.operands])) rfl
                have f65 : ρ (.tmp 65) = .int .u8 (P.sd : Int) := hX.val 4 _ _ (by decide) (by decide) (hf.1 65 (by simp [Op.operands, Call.operands])) rfl
                refine ok_call (f := 52) (args := #[.agg TU, .int .u8 (c : Int), .int .u8 (P.tr : Int), .int .u8 (P.sd : Int)]) (by simp [execOp, f61, f63, f64, f65, hf.2.2.2, go_sem]) ?_
                refine (HPU.out W).mono ?_
                rintro e w5 ⟨rfl, hb5⟩
                exact ⟨_, rfl, hX.pure 5 _ (by decide) (by decide) rfl (FoS.below hX.st hb5)⟩
              · rfl
              · rintro ρ f W ⟨vs, us, hX⟩ hfi hw hcl hf
                have f66 : ρ (.tmp 66) = .tuple #[.agg TN, .int .i64 (wn : Int)] := hX.val 5 _ _ (by decide) (by decide) (hf.1 66 (by simp [Op.operands])) rfl
                exact ok_value (v := .tuple #[.agg TN, .int .i64 (wn : Int)]) (w' := W) (by simp [execOp, f66]) (hX.pure 6 _ (by decide) (by decide) rfl hX.st)
              · rfl
              · rintro ρ f W ⟨vs, us, hX⟩ hfi hw hcl hf
                have f60 : ρ (.tmp 60) = .tuple #[.agg TN, .int .i64 (wn : Int)] := hX.val 6 _ _ (by decide) (by decide) (hf.1 60 (by simp [Op.operands])) rfl
                exact ok_value (v := .agg TN) (w' := W) (by simp [execOp, f60, go_sem]) (hX.pure 7 _ (by decide) (by decide) rfl hX.st)
              · rfl
              · rintro ρ f W ⟨vs, us, hX⟩ hfi hw hcl hf
                have f60 : ρ (.tmp 60) = .tuple #[.agg TN, .int .i64 (wn : Int)] := hX.val 6 _ _ (by decide) (by decide) (hf.1 60 (by simp [Op.operands])) rfl
                exact ok_value (v := .int .i64 (wn : Int)) (w' := W) (by simp [execOp, f60, go_sem]) (hX.pure 8 _ (by decide) (by decide) rfl hX.st)
              · rfl
              · rintro ρ f W ⟨vs, us, hX⟩ hfi hw hcl hf
                have hl := hX.le1 0 9 rfl hfi
                obtain rfl := list0 hl
                obtain ⟨hbe, -⟩ := hX.st
                refine ok_value (exec_alloc 87 rfl (c := zeroT) (fun w => by kernel_rfl)) (hX.step1 9 _ rfl (by decide) (by decide) ⟨hbe.alloc hbe.size _, W.heap.size, rfl, hbe.size, Row.new W 87 zeroT⟩)
              · rfl
              · rintro ρ f W ⟨vs, us, hX⟩ hfi hw hcl hf
                have g14 := hX.get1 0 9 rfl (hf.1 14 (by simp [Op.operands]))
                have f67 : ρ (.tmp 67) = .agg TN := hX.val 7 _ _ (by decide) (by decide) (hf.1 67 (by simp [Op.operands])) rfl
                have hl := hX.le1 1 10 rfl hfi
                obtain ⟨p, rfl⟩ : ∃ p, vs = [p] := by
                  have h6 := hw 9 (by decide)
                  obtain ⟨v, hv⟩ := Option.isSome_iff_exists.1 h6
                  exact ⟨v, list1 hl (hX.get1 0 9 rfl hv)⟩
                obtain ⟨hbe, g0, rfl, hg0, hr0⟩ := hX.st
                have f14 : ρ (.tmp 14) = .pointer (some ⟨g0, 0, none⟩) := (Option.some.inj (show some (Value.pointer (some ⟨g0, 0, none⟩)) = some (ρ (.tmp 14)) from g14)).symm
                have hb5 := below_setRow (Below.refl g0 W) (Nat.le_refl _) TN
                exact ok_skip (exec_store_row 87 (.tmp 14) (.tmp 67) rfl g0 TN f14 f67 hr0 HNZ.out.1 (by rw [HNZ.out.2.1]; rfl) HNZ.out.2.2) (hX.step1 10 _ rfl (by decide) (by decide) ⟨hbe.trans (hb5.mono hg0), g0, rfl, hg0, setRow_heap _ _ _ _ _ _ hr0⟩)
              · rfl
              · rintro ρ f W ⟨vs, us, hX⟩ hfi hw hcl hf
                have f68 : ρ (.tmp 68) = .int .i64 (wn : Int) := hX.val 8 _ _ (by decide) (by decide) (hf.1 68 (by simp [Op.operands])) rfl
                exact ok_value (v := .int .i64 (wn : Int)) (w' := W) (by simp [execOp, f68]) (hX.pure 11 _ (by decide) (by decide) rfl hX.st)
            case fini =>
              rintro us w6 hlen ⟨vs, us', hX⟩
              have hl0 : us.length = 12 := hlen
              match us, hl0 with
              | [y0, y1, y2, y3, y4, y5, y6, y7, y8, y9, y10, y11], _ =>
                have hst := hX.st
                obtain ⟨p, hvs⟩ := list2 hX.l1 (hX.get1 1 10 rfl (v := y10) rfl)
                have hy9 : some p = some y9 := by have := hX.get1 0 9 rfl (v := y9) rfl; rw [hvs] at this; exact this
                obtain rfl := Option.some.inj hy9
                have hy : y11 = .int .i64 (wn : Int) := hX.val 11 _ _ (by decide) (by decide) rfl rfl
                subst hy
                rw [hvs] at hst
                obtain ⟨hb6, g0, rfl, hg0, hr6⟩ := hst
                have HE6 := Lib.hid (HE.out.later HP.out hb6)
                have HY6 := Lib.hid (HY.out.later hb6)
                have HB6 : Hid (But y (x + 4) W w6) := Lib.hid (HBt.out.trans (But.of_below (hb6.mono HYS.out)))
                have HK6 := Lib.hid (HK9.out.later hb6)
                have HG0 : Hid (y ≤ g0) := Lib.hid (Nat.le_trans HYS.out hg0)
                clear hX hvs hb6 hg0 hlen
                simp only [putAll, List.zip_cons_cons, List.zip_nil_right, List.foldl_cons, List.foldl_nil]
                simp only [Act.put, List.setIfInBounds_toArray, List.set_cons_succ, List.set_cons_zero]
                have hcf := HE6.out.f.2
                unfold folV at hcf
                have hnn : n + pre.length * 5 ^ m + 5 ^ m < maxLen := by
                  have h1 := HN.out
                  have h2 := HPR.out
                  have h3 : (pre.length + 1) * 5 ^ m ≤ 4 * 5 ^ m := Nat.mul_le_mul_right _ h2
                  have h4 : 5 ^ (m + 1) = 5 * 5 ^ m := by rw [Nat.pow_succ, Nat.mul_comm]
                  rw [Nat.succ_mul] at h3
                  omega
                have HNN := Lib.hid hnn
                clear hnn
                go_upto_region 17 with fail
                go_wp2_with (refine wpList_load_row rfl 87 (.tmp 14) rfl g0 rfl 87 TN (0, 0) _ hr6 Tryd.underlying87 rfl HNZ.out.1 ?_)
                refine (HIH.out _ w6 HE6.out HNN.out).mono ?_
                rintro e w7 ⟨rfl, hE7, hB7⟩
                have HE7 := Lib.hid hE7
                have hmx := HE6.out.mlt
                have HY7 := Lib.hid (hB7.row HY6.out HY6.out.lt HYX.out.1)
                have HK7 := Lib.hid (hB7.row HK6.out HK6.out.lt HYX.out.2)
                have HB7 : Hid (But y (x + 4) W w7) := Lib.hid (HB6.out.trans (hB7.mono (Nat.le_of_lt HY6.out.lt)))
                clear hE7 hB7 hr6 hcf hmx
                have hwr : IntKind.i64.wrap ((wn : Int) + (r : Int)) = (wn : Int) + (r : Int) := IntWalk.i64_in _ (by omega)
                have hmin : (if (wn : Int) + (r : Int) < ((fw g pre : Nat) : Int) then (wn : Int) + (r : Int) else ((fw g pre : Nat) : Int)) = ((fw g (pre ++ [c]) : Nat) : Int) := by
                  rw [HFW.out, hgc]
                  split <;> omega
                go_wp2_with fail
                go_roundw
                case rel => exact ⟨pre ++ [c], z', HDW.out, HXX.out, by go_num, by go_num, by rw [List.length_append, List.length_singleton, Nat.succ_mul, ← Nat.add_assoc]; exact HE7.out, HY7.out, HB7.out, HK7.out⟩
                case measure => have := HDL.out; simp [intOf]; omega
  · have hav := HHAS.out rfl
    go_wp2_with (refine wpList_load_row rfl 117 (.tmp 9) rfl b9 rfl 117 KA (0, 0) _ hk9 Tryd.underlying117 rfl HKZ.out.1 ?_)
    go_ret
    exact ⟨by rw [← hav]; rfl, HE.out.mono (Nat.le_add_right _ _), by rw [HYW.out]; exact HBt.out⟩
/-- the closure, however many cards are left -/
theorem cl_follow {P : Prm} {x : Nat} (hP : P.ok x) : ∀ m, FOk P x m
  | 0 => cl_follow0 hP
  | m + 1 => by
    have hI := cl_follow hP m
    intro n t q W hg hm hq hE hn
    by_cases h0 : t.cs.length = 0
    · obtain ⟨h, ld, cs⟩ := t
      obtain rfl : cs = [] := List.length_eq_zero_iff.1 h0
      exact cl_followA hP hI n h ld q W hg hm hq hE hn
    · exact cl_followB hP hI n t q W h0 hg hm hq hE hn
end Go.Proofs.YtnbillhodbcfbaaDoor
