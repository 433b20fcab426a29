/- The reference of chapter 14: Choose, a choice that there is. -/
import Derived.Test.YtgnlmodaekfhfaaDoorLfG
namespace Go.Proofs.YtgnlmodaekfhfaaDoor
open Go.RowKit Go.Shelf Go.Sort

attribute [-go_sem] run_equalIn_agg run_neq_struct
theorem SCore.led_done {d : Nat → Nat} {n : Nat} {s : St} (h : SCore d n s) (h0 : s.ct = 0) : SCore d n ({ s.done with ld := s.seat, nt := 0 } : St) :=
  (h.led h0 h.ok.seat (nt := 0) (by decide)).done.toSCore
theorem turn_done {s : St} (hs : s.seat < 4) (h0 : s.ct = 0) : ({ s.done with ld := s.seat, nt := 0 } : St).turn = s.seat := by
  unfold St.turn St.done; dsimp only; rw [h0]; omega
set_option maxHeartbeats 1000000 in
set_option maxRecDepth 10000 in
theorem lf_Choose_0 {d : Nat → Nat} {n : Nat} {s : St} (hi : SInv d n s) {SA : Array Value} (hSA : SA = s.cells) (hp : s.pend = true) (w : World) :
    Calls Tryd.prog 61 #[.agg SA, .int .u8 1] w fun e w' => ∃ SB, (SB = (if s.may 0 then ((s.act 0).done, 0) else (s, 143) : St × Nat).1.cells ∧ e = .returned (.tuple #[.agg SB, .int .i64 ((if s.may 0 then ((s.act 0).done, 0) else (s, 143) : St × Nat).2 : Int)])) ∧ Below w.heap.size w w' := by
  have HM0 := Lib.hid (RM.start w hSA)
  have HRA : Hid (Row ((w.alloc (.cells SA 80)).alloc (.cells zst 80)) w.heap.size 80 SA) := Lib.hid ((Row.new w _ _).alloc _)
  have HZ : Hid ((Tryd.prog.info? 80).map (·.size) = some SA.size ∧ SA.size = 24 ∧ SA.all (·.oneCell') = true) := Lib.hid (by rw [hSA]; exact ⟨size_rst, rfl, one_cells _⟩)
  have HCH := Lib.hid (fun (W : World) => lf_Choices hi hSA W)
  have hvb := choices_bit s 0 (by omega)
  have hvl := choices_lt s
  obtain ⟨V, hV⟩ : ∃ V, s.choicesV = V := ⟨_, rfl⟩
  rw [hV] at HCH hvb hvl
  have HI := Lib.hid hi
  have HSA := Lib.hid hSA
  have HPE := Lib.hid hp
  clear hV hSA hi
  have hs4 := HI.out.ok.seat
  have hc52 := HI.out.ok.card
  have hs4I : (s.seat : Int) < 4 := by omega
  obtain ⟨hct, hcb, -⟩ := HI.out.pnd hp
  have HCT := Lib.hid hct
  have HCB := Lib.hid hcb
  clear hct hcb
  have hdv : V / 2 ^ 0 = V / 1 := by congr 1
  rw [hdv] at hvb
  have t1 : ((V : Int)).tdiv 1 = ((V / 1 : Nat) : Int) := by rw [Int.tdiv_eq_ediv_of_nonneg (by omega)]; omega
  have t1' : (V : Int) / 1 = ((V / 1 : Nat) : Int) := by omega
  have hql : V / 1 < 64 := by omega
  have hq1 : 1 = 1 → V / 1 = V := by intro h; omega
  have t1a : 1 = 1 → ((V / 1 : Nat) : Int) = (V : Int) := by intro h; omega
  clear hdv
  cases hm : s.may 0
  · rw [hm] at hvb
    simp only [Bool.false_eq_true, if_false] at hvb ⊢
    rw [Nat.div_one] at hvb
    clear t1 t1' hql hq1 t1a
    have e1 : IntKind.u8.wrap (V : Int) = (V : Int) := by rw [IntKind.wrap_u8]; omega
    have t2 : ((V : Int)).tmod 2 = 0 := by rw [Int.tmod_eq_emod_of_nonneg (by omega)]; omega
    have t3 : (V : Int) % 2 = 0 := by omega
    have HVB := Lib.hid hvb
    clear hvb
    go_enter Tryd.func61, Tryd.ntmps61
    go_upto_region 1 with fail
    change Code.wp _ _ _ _ ((w.alloc (.cells SA 80)).alloc (.cells zst 80))
    generalize (w.alloc (.cells SA 80)).alloc (.cells zst 80) = w1 at *
    have c18 : w1.cell? ⟨w.heap.size, 18, none⟩ = some (.bool s.pend) := HM0.out.row.cell 18
    rw [hp] at c18
    clear hp
    go_wp2_with (first
      | refine wpList_load_row_g rfl 80 (.tmp 2) rfl w.heap.size rfl 80 SA (0, 0) _ HRA.out Tryd.underlying80 rfl HZ.out.1 ?_
      | refine wpList_load_row_g rfl 80 (.tmp 2) rfl w.heap.size rfl 80 SA (0, 0) _ (HRA.out.below HRA.out.lt hb2) Tryd.underlying80 rfl HZ.out.1 ?_
      | refine wpList_store_row rfl 80 (.tmp 4) (.tmp 42) rfl (w.heap.size + 1) SA rfl rfl 80 _ (HM0.out.below hb2).res HZ.out.1 (by rw [HZ.out.2.1]; rfl) HZ.out.2.2 ?_
      | (go_at_call 59; refine (HCH.out _).mono ?_; rintro e w2 ⟨rfl, hb2⟩))
    refine bodyPost_ret (v := .tuple #[.agg SA, .int .i64 143]) (results_cellt Tryd.results61 _ _ (w.heap.size + 1) _ SA (0, 0) _ rfl (setRow_heap _ _ _ _ _ _ (HM0.out.below hb2).res) Tryd.underlying80 rfl HZ.out.1) rfl (by first | exact ⟨SA, ⟨HSA.out, rfl⟩, below_setRow (HM0.out.below hb2).bl (by omega) _⟩ | exact ⟨by rw [HSA.out], below_setRow (HM0.out.below hb2).bl (by omega) _⟩)
  · rw [hm] at hvb
    simp only [if_true] at hvb ⊢
    rw [Nat.div_one] at hvb
    clear t1 t1' hql hq1 t1a
    have e1 : IntKind.u8.wrap (V : Int) = (V : Int) := by rw [IntKind.wrap_u8]; omega
    have t2 : ((V : Int)).tmod 2 = 1 := by rw [Int.tmod_eq_emod_of_nonneg (by omega)]; omega
    have t3 : (V : Int) % 2 = 1 := by omega
    have HVB := Lib.hid hvb
    clear hvb
    go_enter Tryd.func61, Tryd.ntmps61
    go_upto_region 1 with fail
    change Code.wp _ _ _ _ ((w.alloc (.cells SA 80)).alloc (.cells zst 80))
    generalize (w.alloc (.cells SA 80)).alloc (.cells zst 80) = w1 at *
    have c18 : w1.cell? ⟨w.heap.size, 18, none⟩ = some (.bool s.pend) := HM0.out.row.cell 18
    rw [hp] at c18
    clear hp
    go_upto_region 5 with (first
      | refine wpList_load_row_g rfl 80 (.tmp 2) rfl w.heap.size rfl 80 SA (0, 0) _ HRA.out Tryd.underlying80 rfl HZ.out.1 ?_
      | refine wpList_load_row_g rfl 80 (.tmp 2) rfl w.heap.size rfl 80 SA (0, 0) _ (HRA.out.below HRA.out.lt hb2) Tryd.underlying80 rfl HZ.out.1 ?_
      | refine wpList_store_row rfl 80 (.tmp 4) (.tmp 42) rfl (w.heap.size + 1) SA rfl rfl 80 _ (HM0.out.below hb2).res HZ.out.1 (by rw [HZ.out.2.1]; rfl) HZ.out.2.2 ?_
      | (go_at_call 59; refine (HCH.out _).mono ?_; rintro e w2 ⟨rfl, hb2⟩))
    have HM2 := Lib.hid (HM0.out.below hb2)
    clear HM0 HRA hb2 c18
    have c16 : w2.cell? ⟨w.heap.size, 16, none⟩ = some (.int .u8 (s.seat : Int)) := HM2.out.row.cell 16
    have c17 : w2.cell? ⟨w.heap.size, 17, none⟩ = some (.int .u8 (s.card : Int)) := HM2.out.row.cell 17
    have rc16 := fun dd os => cell_regrown c16 dd os
    have rc17 := fun dd os => cell_regrown c17 dd os
    refine wp_region_quiet_below (by kernel_rfl) (by kernel_rfl) ?_
    repeat (quiet_step (fail))
    refine wpQuiet_nil ?_
    rintro _ ⟨z, rfl⟩
    have hb := below_regrown w2 z.d z.os
    generalize grow (redrawn w2 z.d) z.os = w3 at *
    have HM3 := Lib.hid (HM2.out.below hb)
    clear HM2 hb c16 c17 rc16 rc17
    have d16 := HM3.out.row.cell 16
    have d17 := HM3.out.row.cell 17
    have d18 := HM3.out.row.cell 18
    simp only [List.getElem?_toArray, List.getElem?_cons_zero, List.getElem?_cons_succ] at d16 d17 d18
    have g16 := HM3.out.row.frozen 16
    have g17 := HM3.out.row.frozen 17
    have g18 := HM3.out.row.frozen 18
    have HM6 : Hid (RM w (((w3.setCell ⟨w.heap.size, 18, none⟩ (.bool false)).setCell ⟨w.heap.size, 16, none⟩ (.int .u8 0)).setCell ⟨w.heap.size, 17, none⟩ (.int .u8 0)) s.done) := Lib.hid
      (((HM3.out.set (s' := { s with pend := false }) rfl).set (s' := { s with pend := false, seat := 0 }) rfl).set rfl)
    go_upto_region 7 with fail
    clear d16 d17 d18 g16 g17 g18 HM3
    generalize ((w3.setCell ⟨w.heap.size, 18, none⟩ (.bool false)).setCell ⟨w.heap.size, 16, none⟩ (.int .u8 0)).setCell ⟨w.heap.size, 17, none⟩ (.int .u8 0) = w6 at *
    go_upto_region 12 with fail
    have d10 := HM6.out.row.cell 10
    have d21 := HM6.out.row.cell 21
    simp only [List.getElem?_toArray, List.getElem?_cons_zero, List.getElem?_cons_succ] at d10 d21
    have g10 := HM6.out.row.frozen 10
    have g21 := HM6.out.row.frozen 21
    have HM12 : Hid (RM w ((w6.setCell ⟨w.heap.size, 10, none⟩ (.int .u8 (s.seat : Int))).setCell ⟨w.heap.size, 21, none⟩ (.int .u8 0)) { s.done with ld := s.seat, nt := 0 }) := Lib.hid (((HM6.out.set (s' := { s.done with ld := s.seat }) rfl)).set rfl)
    clear HM6
    go_upto_region 13 with fail
    clear d10 d21 g10 g21
    generalize (w6.setCell ⟨w.heap.size, 10, none⟩ (.int .u8 (s.seat : Int))).setCell ⟨w.heap.size, 21, none⟩ (.int .u8 0) = w12 at *
    obtain ⟨SD, hSD⟩ : ∃ SD, SD = ({ s.done with ld := s.seat, nt := 0 } : St).cells := ⟨_, rfl⟩
    have HRD : Hid (Row w12 w.heap.size 80 SD) := Lib.hid (by rw [hSD]; exact HM12.out.row)
    have HZD : Hid ((Tryd.prog.info? 80).map (·.size) = some SD.size) := Lib.hid (by rw [hSD]; exact size_rst)
    have hact : (s.act 0).done = ({ s.done with ld := s.seat, nt := 0 } : St).put s.card := by rw [show s.act 0 = s.accept from rfl, accept_done]
    have HPU := Lib.hid (fun (W : World) => lf_put (HI.out.toSCore.led_done HCT.out) (c := s.card) (by rw [turn_done hs4 HCT.out]; exact HCB.out) hSD W)
    have HACT := Lib.hid hact
    clear hSD hact
    go_wp2_with (first
      | refine wpList_load_row_g rfl 80 (.tmp 2) rfl w.heap.size rfl 80 SD (0, 0) _ HRD.out Tryd.underlying80 rfl HZD.out ?_
      | refine wpList_store_row rfl 80 (.tmp 4) (.tmp 66) rfl (w.heap.size + 1) SB rfl rfl 80 _ (HM12.out.below hb3).res HZB.out.1 (by rw [HZB.out.2.1]; rfl) HZB.out.2.2 ?_
      | (go_at_call 73; refine (HPU.out _).mono ?_; rintro e w13 ⟨SB, hSB, rfl, hb3⟩
         have HZB : Hid ((Tryd.prog.info? 80).map (·.size) = some SB.size ∧ SB.size = 24 ∧ SB.all (·.oneCell') = true) := Lib.hid (by rw [hSB]; exact ⟨size_rst, rfl, one_cells _⟩)
         have HSB : Hid (SB = (s.act 0).done.cells) := Lib.hid (hSB.trans (congrArg St.cells HACT.out.symm))
         clear hSB))
    refine bodyPost_ret (v := .tuple #[.agg SB, .int .i64 0]) (results_cellt Tryd.results61 _ _ (w.heap.size + 1) _ SB (0, 0) _ rfl (setRow_heap _ _ _ _ _ _ (HM12.out.below hb3).res) Tryd.underlying80 rfl HZB.out.1) rfl (by first | exact ⟨SB, ⟨HSB.out, rfl⟩, below_setRow (HM12.out.below hb3).bl (by omega) _⟩ | exact ⟨by rw [HSB.out], below_setRow (HM12.out.below hb3).bl (by omega) _⟩)
set_option maxHeartbeats 1000000 in
set_option maxRecDepth 10000 in
theorem lf_Choose_1 {d : Nat → Nat} {n : Nat} {s : St} (hi : SInv d n s) {SA : Array Value} (hSA : SA = s.cells) (hp : s.pend = true) (w : World) :
    Calls Tryd.prog 61 #[.agg SA, .int .u8 2] w fun e w' => ∃ SB, (SB = (if s.may 1 then ((s.act 1).done, 0) else (s, 143) : St × Nat).1.cells ∧ e = .returned (.tuple #[.agg SB, .int .i64 ((if s.may 1 then ((s.act 1).done, 0) else (s, 143) : St × Nat).2 : Int)])) ∧ Below w.heap.size w w' := by
  have HM0 := Lib.hid (RM.start w hSA)
  have HRA : Hid (Row ((w.alloc (.cells SA 80)).alloc (.cells zst 80)) w.heap.size 80 SA) := Lib.hid ((Row.new w _ _).alloc _)
  have HZ : Hid ((Tryd.prog.info? 80).map (·.size) = some SA.size ∧ SA.size = 24 ∧ SA.all (·.oneCell') = true) := Lib.hid (by rw [hSA]; exact ⟨size_rst, rfl, one_cells _⟩)
  have HCH := Lib.hid (fun (W : World) => lf_Choices hi hSA W)
  have hvb := choices_bit s 1 (by omega)
  have hvl := choices_lt s
  obtain ⟨V, hV⟩ : ∃ V, s.choicesV = V := ⟨_, rfl⟩
  rw [hV] at HCH hvb hvl
  have HI := Lib.hid hi
  have HSA := Lib.hid hSA
  have HPE := Lib.hid hp
  clear hV hSA hi
  have hs4 := HI.out.ok.seat
  have hc52 := HI.out.ok.card
  have hs4I : (s.seat : Int) < 4 := by omega
  obtain ⟨hct, hcb, -⟩ := HI.out.pnd hp
  have HCT := Lib.hid hct
  have HCB := Lib.hid hcb
  clear hct hcb
  have hdv : V / 2 ^ 1 = V / 2 := by congr 1
  rw [hdv] at hvb
  have t1 : ((V : Int)).tdiv 2 = ((V / 2 : Nat) : Int) := by rw [Int.tdiv_eq_ediv_of_nonneg (by omega)]; omega
  have t1' : (V : Int) / 2 = ((V / 2 : Nat) : Int) := by omega
  have hql : V / 2 < 64 := by omega
  have hq1 : 2 = 1 → V / 2 = V := by intro h; omega
  have t1a : 2 = 1 → ((V / 2 : Nat) : Int) = (V : Int) := by intro h; omega
  clear hdv
  cases hm : s.may 1
  · rw [hm] at hvb
    simp only [Bool.false_eq_true, if_false] at hvb ⊢
    clear hq1 t1a
    generalize V / 2 = q at *
    have e1 : IntKind.u8.wrap (q : Int) = (q : Int) := by rw [IntKind.wrap_u8]; omega
    have t2 : ((q : Int)).tmod 2 = 0 := by rw [Int.tmod_eq_emod_of_nonneg (by omega)]; omega
    have t3 : (q : Int) % 2 = 0 := by omega
    have HVB := Lib.hid hvb
    clear hvb
    go_enter Tryd.func61, Tryd.ntmps61
    go_upto_region 1 with fail
    change Code.wp _ _ _ _ ((w.alloc (.cells SA 80)).alloc (.cells zst 80))
    generalize (w.alloc (.cells SA 80)).alloc (.cells zst 80) = w1 at *
    have c18 : w1.cell? ⟨w.heap.size, 18, none⟩ = some (.bool s.pend) := HM0.out.row.cell 18
    rw [hp] at c18
    clear hp
    go_wp2_with (first
      | refine wpList_load_row_g rfl 80 (.tmp 2) rfl w.heap.size rfl 80 SA (0, 0) _ HRA.out Tryd.underlying80 rfl HZ.out.1 ?_
      | refine wpList_load_row_g rfl 80 (.tmp 2) rfl w.heap.size rfl 80 SA (0, 0) _ (HRA.out.below HRA.out.lt hb2) Tryd.underlying80 rfl HZ.out.1 ?_
      | refine wpList_store_row rfl 80 (.tmp 4) (.tmp 42) rfl (w.heap.size + 1) SA rfl rfl 80 _ (HM0.out.below hb2).res HZ.out.1 (by rw [HZ.out.2.1]; rfl) HZ.out.2.2 ?_
      | (go_at_call 59; refine (HCH.out _).mono ?_; rintro e w2 ⟨rfl, hb2⟩))
    refine bodyPost_ret (v := .tuple #[.agg SA, .int .i64 143]) (results_cellt Tryd.results61 _ _ (w.heap.size + 1) _ SA (0, 0) _ rfl (setRow_heap _ _ _ _ _ _ (HM0.out.below hb2).res) Tryd.underlying80 rfl HZ.out.1) rfl (by first | exact ⟨SA, ⟨HSA.out, rfl⟩, below_setRow (HM0.out.below hb2).bl (by omega) _⟩ | exact ⟨by rw [HSA.out], below_setRow (HM0.out.below hb2).bl (by omega) _⟩)
  · rw [hm] at hvb
    simp only [if_true] at hvb ⊢
    clear hq1 t1a
    generalize V / 2 = q at *
    have e1 : IntKind.u8.wrap (q : Int) = (q : Int) := by rw [IntKind.wrap_u8]; omega
    have t2 : ((q : Int)).tmod 2 = 1 := by rw [Int.tmod_eq_emod_of_nonneg (by omega)]; omega
    have t3 : (q : Int) % 2 = 1 := by omega
    have HVB := Lib.hid hvb
    clear hvb
    go_enter Tryd.func61, Tryd.ntmps61
    go_upto_region 1 with fail
    change Code.wp _ _ _ _ ((w.alloc (.cells SA 80)).alloc (.cells zst 80))
    generalize (w.alloc (.cells SA 80)).alloc (.cells zst 80) = w1 at *
    have c18 : w1.cell? ⟨w.heap.size, 18, none⟩ = some (.bool s.pend) := HM0.out.row.cell 18
    rw [hp] at c18
    clear hp
    go_upto_region 5 with (first
      | refine wpList_load_row_g rfl 80 (.tmp 2) rfl w.heap.size rfl 80 SA (0, 0) _ HRA.out Tryd.underlying80 rfl HZ.out.1 ?_
      | refine wpList_load_row_g rfl 80 (.tmp 2) rfl w.heap.size rfl 80 SA (0, 0) _ (HRA.out.below HRA.out.lt hb2) Tryd.underlying80 rfl HZ.out.1 ?_
      | refine wpList_store_row rfl 80 (.tmp 4) (.tmp 42) rfl (w.heap.size + 1) SA rfl rfl 80 _ (HM0.out.below hb2).res HZ.out.1 (by rw [HZ.out.2.1]; rfl) HZ.out.2.2 ?_
      | (go_at_call 59; refine (HCH.out _).mono ?_; rintro e w2 ⟨rfl, hb2⟩))
    have HM2 := Lib.hid (HM0.out.below hb2)
    clear HM0 HRA hb2 c18
    have c16 : w2.cell? ⟨w.heap.size, 16, none⟩ = some (.int .u8 (s.seat : Int)) := HM2.out.row.cell 16
    have c17 : w2.cell? ⟨w.heap.size, 17, none⟩ = some (.int .u8 (s.card : Int)) := HM2.out.row.cell 17
    have rc16 := fun dd os => cell_regrown c16 dd os
    have rc17 := fun dd os => cell_regrown c17 dd os
    refine wp_region_quiet_below (by kernel_rfl) (by kernel_rfl) ?_
    repeat (quiet_step (fail))
    refine wpQuiet_nil ?_
    rintro _ ⟨z, rfl⟩
    have hb := below_regrown w2 z.d z.os
    generalize grow (redrawn w2 z.d) z.os = w3 at *
    have HM3 := Lib.hid (HM2.out.below hb)
    clear HM2 hb c16 c17 rc16 rc17
    have d16 := HM3.out.row.cell 16
    have d17 := HM3.out.row.cell 17
    have d18 := HM3.out.row.cell 18
    simp only [List.getElem?_toArray, List.getElem?_cons_zero, List.getElem?_cons_succ] at d16 d17 d18
    have g16 := HM3.out.row.frozen 16
    have g17 := HM3.out.row.frozen 17
    have g18 := HM3.out.row.frozen 18
    have HM6 : Hid (RM w (((w3.setCell ⟨w.heap.size, 18, none⟩ (.bool false)).setCell ⟨w.heap.size, 16, none⟩ (.int .u8 0)).setCell ⟨w.heap.size, 17, none⟩ (.int .u8 0)) s.done) := Lib.hid
      (((HM3.out.set (s' := { s with pend := false }) rfl).set (s' := { s with pend := false, seat := 0 }) rfl).set rfl)
    go_upto_region 7 with fail
    clear d16 d17 d18 g16 g17 g18 HM3
    generalize ((w3.setCell ⟨w.heap.size, 18, none⟩ (.bool false)).setCell ⟨w.heap.size, 16, none⟩ (.int .u8 0)).setCell ⟨w.heap.size, 17, none⟩ (.int .u8 0) = w6 at *
    obtain ⟨SB, hSB⟩ : ∃ SB, SB = (s.done : St).cells := ⟨_, rfl⟩
    have HSB := Lib.hid hSB
    have HRB : Hid (Row w6 w.heap.size 80 SB) := Lib.hid (by rw [hSB]; exact HM6.out.row)
    have HZB : Hid ((Tryd.prog.info? 80).map (·.size) = some SB.size ∧ SB.size = 24 ∧ SB.all (·.oneCell') = true) := Lib.hid (by rw [hSB]; exact ⟨size_rst, rfl, one_cells _⟩)
    clear hSB
    go_wp2_with (first
      | refine wpList_load_row_g rfl 80 (.tmp 2) rfl w.heap.size rfl 80 SB (0, 0) _ HRB.out Tryd.underlying80 rfl HZB.out.1 ?_
      | refine wpList_store_row rfl 80 (.tmp 4) (.tmp 99) rfl (w.heap.size + 1) SB rfl rfl 80 _ HM6.out.res HZB.out.1 (by rw [HZB.out.2.1]; rfl) HZB.out.2.2 ?_)
    refine bodyPost_ret (v := .tuple #[.agg SB, .int .i64 0]) (results_cellt Tryd.results61 _ _ (w.heap.size + 1) _ SB (0, 0) _ rfl (setRow_heap _ _ _ _ _ _ HM6.out.res) Tryd.underlying80 rfl HZB.out.1) rfl (by first | exact ⟨SB, ⟨HSB.out, rfl⟩, below_setRow HM6.out.bl (by omega) _⟩ | exact ⟨by rw [HSB.out], below_setRow HM6.out.bl (by omega) _⟩)
set_option maxHeartbeats 1000000 in
set_option maxRecDepth 10000 in
theorem lf_Choose_2 {d : Nat → Nat} {n : Nat} {s : St} (hi : SInv d n s) {SA : Array Value} (hSA : SA = s.cells) (hp : s.pend = true) (w : World) :
    Calls Tryd.prog 61 #[.agg SA, .int .u8 4] w fun e w' => ∃ SB, (SB = (if s.may 2 then ((s.act 2).done, 0) else (s, 143) : St × Nat).1.cells ∧ e = .returned (.tuple #[.agg SB, .int .i64 ((if s.may 2 then ((s.act 2).done, 0) else (s, 143) : St × Nat).2 : Int)])) ∧ Below w.heap.size w w' := by
  have HM0 := Lib.hid (RM.start w hSA)
  have HRA : Hid (Row ((w.alloc (.cells SA 80)).alloc (.cells zst 80)) w.heap.size 80 SA) := Lib.hid ((Row.new w _ _).alloc _)
  have HZ : Hid ((Tryd.prog.info? 80).map (·.size) = some SA.size ∧ SA.size = 24 ∧ SA.all (·.oneCell') = true) := Lib.hid (by rw [hSA]; exact ⟨size_rst, rfl, one_cells _⟩)
  have HCH := Lib.hid (fun (W : World) => lf_Choices hi hSA W)
  have hvb := choices_bit s 2 (by omega)
  have hvl := choices_lt s
  obtain ⟨V, hV⟩ : ∃ V, s.choicesV = V := ⟨_, rfl⟩
  rw [hV] at HCH hvb hvl
  have HI := Lib.hid hi
  have HSA := Lib.hid hSA
  have HPE := Lib.hid hp
  clear hV hSA hi
  have hs4 := HI.out.ok.seat
  have hc52 := HI.out.ok.card
  have hs4I : (s.seat : Int) < 4 := by omega
  obtain ⟨hct, hcb, -⟩ := HI.out.pnd hp
  have HCT := Lib.hid hct
  have HCB := Lib.hid hcb
  clear hct hcb
  have hdv : V / 2 ^ 2 = V / 4 := by congr 1
  rw [hdv] at hvb
  have t1 : ((V : Int)).tdiv 4 = ((V / 4 : Nat) : Int) := by rw [Int.tdiv_eq_ediv_of_nonneg (by omega)]; omega
  have t1' : (V : Int) / 4 = ((V / 4 : Nat) : Int) := by omega
  have hql : V / 4 < 64 := by omega
  have hq1 : 4 = 1 → V / 4 = V := by intro h; omega
  have t1a : 4 = 1 → ((V / 4 : Nat) : Int) = (V : Int) := by intro h; omega
  clear hdv
  cases hm : s.may 2
  · rw [hm] at hvb
    simp only [Bool.false_eq_true, if_false] at hvb ⊢
    clear hq1 t1a
    generalize V / 4 = q at *
    have e1 : IntKind.u8.wrap (q : Int) = (q : Int) := by rw [IntKind.wrap_u8]; omega
    have t2 : ((q : Int)).tmod 2 = 0 := by rw [Int.tmod_eq_emod_of_nonneg (by omega)]; omega
    have t3 : (q : Int) % 2 = 0 := by omega
    have HVB := Lib.hid hvb
    clear hvb
    go_enter Tryd.func61, Tryd.ntmps61
    go_upto_region 1 with fail
    change Code.wp _ _ _ _ ((w.alloc (.cells SA 80)).alloc (.cells zst 80))
    generalize (w.alloc (.cells SA 80)).alloc (.cells zst 80) = w1 at *
    have c18 : w1.cell? ⟨w.heap.size, 18, none⟩ = some (.bool s.pend) := HM0.out.row.cell 18
    rw [hp] at c18
    clear hp
    go_wp2_with (first
      | refine wpList_load_row_g rfl 80 (.tmp 2) rfl w.heap.size rfl 80 SA (0, 0) _ HRA.out Tryd.underlying80 rfl HZ.out.1 ?_
      | refine wpList_load_row_g rfl 80 (.tmp 2) rfl w.heap.size rfl 80 SA (0, 0) _ (HRA.out.below HRA.out.lt hb2) Tryd.underlying80 rfl HZ.out.1 ?_
      | refine wpList_store_row rfl 80 (.tmp 4) (.tmp 42) rfl (w.heap.size + 1) SA rfl rfl 80 _ (HM0.out.below hb2).res HZ.out.1 (by rw [HZ.out.2.1]; rfl) HZ.out.2.2 ?_
      | (go_at_call 59; refine (HCH.out _).mono ?_; rintro e w2 ⟨rfl, hb2⟩))
    refine bodyPost_ret (v := .tuple #[.agg SA, .int .i64 143]) (results_cellt Tryd.results61 _ _ (w.heap.size + 1) _ SA (0, 0) _ rfl (setRow_heap _ _ _ _ _ _ (HM0.out.below hb2).res) Tryd.underlying80 rfl HZ.out.1) rfl (by first | exact ⟨SA, ⟨HSA.out, rfl⟩, below_setRow (HM0.out.below hb2).bl (by omega) _⟩ | exact ⟨by rw [HSA.out], below_setRow (HM0.out.below hb2).bl (by omega) _⟩)
  · rw [hm] at hvb
    simp only [if_true] at hvb ⊢
    clear hq1 t1a
    generalize V / 4 = q at *
    have e1 : IntKind.u8.wrap (q : Int) = (q : Int) := by rw [IntKind.wrap_u8]; omega
    have t2 : ((q : Int)).tmod 2 = 1 := by rw [Int.tmod_eq_emod_of_nonneg (by omega)]; omega
    have t3 : (q : Int) % 2 = 1 := by omega
    have HVB := Lib.hid hvb
    clear hvb
    go_enter Tryd.func61, Tryd.ntmps61
    go_upto_region 1 with fail
    change Code.wp _ _ _ _ ((w.alloc (.cells SA 80)).alloc (.cells zst 80))
    generalize (w.alloc (.cells SA 80)).alloc (.cells zst 80) = w1 at *
    have c18 : w1.cell? ⟨w.heap.size, 18, none⟩ = some (.bool s.pend) := HM0.out.row.cell 18
    rw [hp] at c18
    clear hp
    go_upto_region 5 with (first
      | refine wpList_load_row_g rfl 80 (.tmp 2) rfl w.heap.size rfl 80 SA (0, 0) _ HRA.out Tryd.underlying80 rfl HZ.out.1 ?_
      | refine wpList_load_row_g rfl 80 (.tmp 2) rfl w.heap.size rfl 80 SA (0, 0) _ (HRA.out.below HRA.out.lt hb2) Tryd.underlying80 rfl HZ.out.1 ?_
      | refine wpList_store_row rfl 80 (.tmp 4) (.tmp 42) rfl (w.heap.size + 1) SA rfl rfl 80 _ (HM0.out.below hb2).res HZ.out.1 (by rw [HZ.out.2.1]; rfl) HZ.out.2.2 ?_
      | (go_at_call 59; refine (HCH.out _).mono ?_; rintro e w2 ⟨rfl, hb2⟩))
    have HM2 := Lib.hid (HM0.out.below hb2)
    clear HM0 HRA hb2 c18
    have c16 : w2.cell? ⟨w.heap.size, 16, none⟩ = some (.int .u8 (s.seat : Int)) := HM2.out.row.cell 16
    have c17 : w2.cell? ⟨w.heap.size, 17, none⟩ = some (.int .u8 (s.card : Int)) := HM2.out.row.cell 17
    have rc16 := fun dd os => cell_regrown c16 dd os
    have rc17 := fun dd os => cell_regrown c17 dd os
    refine wp_region_quiet_below (by kernel_rfl) (by kernel_rfl) ?_
    repeat (quiet_step (fail))
    refine wpQuiet_nil ?_
    rintro _ ⟨z, rfl⟩
    have hb := below_regrown w2 z.d z.os
    generalize grow (redrawn w2 z.d) z.os = w3 at *
    have HM3 := Lib.hid (HM2.out.below hb)
    clear HM2 hb c16 c17 rc16 rc17
    have d16 := HM3.out.row.cell 16
    have d17 := HM3.out.row.cell 17
    have d18 := HM3.out.row.cell 18
    simp only [List.getElem?_toArray, List.getElem?_cons_zero, List.getElem?_cons_succ] at d16 d17 d18
    have g16 := HM3.out.row.frozen 16
    have g17 := HM3.out.row.frozen 17
    have g18 := HM3.out.row.frozen 18
    have HM6 : Hid (RM w (((w3.setCell ⟨w.heap.size, 18, none⟩ (.bool false)).setCell ⟨w.heap.size, 16, none⟩ (.int .u8 0)).setCell ⟨w.heap.size, 17, none⟩ (.int .u8 0)) s.done) := Lib.hid
      (((HM3.out.set (s' := { s with pend := false }) rfl).set (s' := { s with pend := false, seat := 0 }) rfl).set rfl)
    go_upto_region 7 with fail
    clear d16 d17 d18 g16 g17 g18 HM3
    generalize ((w3.setCell ⟨w.heap.size, 18, none⟩ (.bool false)).setCell ⟨w.heap.size, 16, none⟩ (.int .u8 0)).setCell ⟨w.heap.size, 17, none⟩ (.int .u8 0) = w6 at *
    go_upto_region 15 with fail
    obtain ⟨p, hpn⟩ : ∃ p, s.pn s.seat = p := ⟨_, rfl⟩
    have hpw : W64 p := by rw [← hpn]; exact w64_52 (HI.out.ok.pn _ hs4)
    have HWI := Lib.hid (fun (W : World) => lf_with p s.card hpw (by omega) W)
    have u3 : IntKind.i64.wrap (s.card : Int) = (s.card : Int) := IntWalk.i64_in _ (by omega)
    have cp : w6.cell? ⟨w.heap.size, 4 + s.seat, none⟩ = some (.int .u64 (p : Int)) := by rw [HM6.out.row.cell, st_pget _ _ hs4, ← hpn]; rfl
    have fp := HM6.out.row.frozen (4 + s.seat)
    have HM15 : Hid (RM w (w6.setCell ⟨w.heap.size, 4 + s.seat, none⟩ (.int .u64 ((lor p (shl1 s.card) : Nat) : Int))) (s.act 2).done) := Lib.hid (by
      have := HM6.out.set (st_pset _ s.seat (lor p (shl1 s.card)) hs4)
      rw [← hpn] at this ⊢; exact this)
    clear HM6 hpn hpw
    go_upto_region 20 with (go_at_call 74; refine (HWI.out _).mono ?_; rintro e w' ⟨rfl, rfl⟩)
    clear cp fp
    generalize w6.setCell ⟨w.heap.size, 4 + s.seat, none⟩ (.int .u64 ((lor p (shl1 s.card) : Nat) : Int)) = w15 at *
    obtain ⟨SB, hSB⟩ : ∃ SB, SB = ((s.act 2).done : St).cells := ⟨_, rfl⟩
    have HSB := Lib.hid hSB
    have HRB : Hid (Row w15 w.heap.size 80 SB) := Lib.hid (by rw [hSB]; exact HM15.out.row)
    have HZB : Hid ((Tryd.prog.info? 80).map (·.size) = some SB.size ∧ SB.size = 24 ∧ SB.all (·.oneCell') = true) := Lib.hid (by rw [hSB]; exact ⟨size_rst, rfl, one_cells _⟩)
    clear hSB
    go_wp2_with (first
      | refine wpList_load_row_g rfl 80 (.tmp 2) rfl w.heap.size rfl 80 SB (0, 0) _ HRB.out Tryd.underlying80 rfl HZB.out.1 ?_
      | refine wpList_store_row rfl 80 (.tmp 4) (.tmp 99) rfl (w.heap.size + 1) SB rfl rfl 80 _ HM15.out.res HZB.out.1 (by rw [HZB.out.2.1]; rfl) HZB.out.2.2 ?_)
    refine bodyPost_ret (v := .tuple #[.agg SB, .int .i64 0]) (results_cellt Tryd.results61 _ _ (w.heap.size + 1) _ SB (0, 0) _ rfl (setRow_heap _ _ _ _ _ _ HM15.out.res) Tryd.underlying80 rfl HZB.out.1) rfl (by first | exact ⟨SB, ⟨HSB.out, rfl⟩, below_setRow HM15.out.bl (by omega) _⟩ | exact ⟨by rw [HSB.out], below_setRow HM15.out.bl (by omega) _⟩)
set_option maxHeartbeats 1000000 in
set_option maxRecDepth 10000 in
theorem lf_Choose_3 {d : Nat → Nat} {n : Nat} {s : St} (hi : SInv d n s) {SA : Array Value} (hSA : SA = s.cells) (hp : s.pend = true) (w : World) :
    Calls Tryd.prog 61 #[.agg SA, .int .u8 8] w fun e w' => ∃ SB, (SB = (if s.may 3 then ((s.act 3).done, 0) else (s, 143) : St × Nat).1.cells ∧ e = .returned (.tuple #[.agg SB, .int .i64 ((if s.may 3 then ((s.act 3).done, 0) else (s, 143) : St × Nat).2 : Int)])) ∧ Below w.heap.size w w' := by
  have HM0 := Lib.hid (RM.start w hSA)
  have HRA : Hid (Row ((w.alloc (.cells SA 80)).alloc (.cells zst 80)) w.heap.size 80 SA) := Lib.hid ((Row.new w _ _).alloc _)
  have HZ : Hid ((Tryd.prog.info? 80).map (·.size) = some SA.size ∧ SA.size = 24 ∧ SA.all (·.oneCell') = true) := Lib.hid (by rw [hSA]; exact ⟨size_rst, rfl, one_cells _⟩)
  have HCH := Lib.hid (fun (W : World) => lf_Choices hi hSA W)
  have hvb := choices_bit s 3 (by omega)
  have hvl := choices_lt s
  obtain ⟨V, hV⟩ : ∃ V, s.choicesV = V := ⟨_, rfl⟩
  rw [hV] at HCH hvb hvl
  have HI := Lib.hid hi
  have HSA := Lib.hid hSA
  have HPE := Lib.hid hp
  clear hV hSA hi
  have hs4 := HI.out.ok.seat
  have hc52 := HI.out.ok.card
  have hs4I : (s.seat : Int) < 4 := by omega
  obtain ⟨hct, hcb, -⟩ := HI.out.pnd hp
  have HCT := Lib.hid hct
  have HCB := Lib.hid hcb
  clear hct hcb
  have hdv : V / 2 ^ 3 = V / 8 := by congr 1
  rw [hdv] at hvb
  have t1 : ((V : Int)).tdiv 8 = ((V / 8 : Nat) : Int) := by rw [Int.tdiv_eq_ediv_of_nonneg (by omega)]; omega
  have t1' : (V : Int) / 8 = ((V / 8 : Nat) : Int) := by omega
  have hql : V / 8 < 64 := by omega
  have hq1 : 8 = 1 → V / 8 = V := by intro h; omega
  have t1a : 8 = 1 → ((V / 8 : Nat) : Int) = (V : Int) := by intro h; omega
  clear hdv
  cases hm : s.may 3
  · rw [hm] at hvb
    simp only [Bool.false_eq_true, if_false] at hvb ⊢
    clear hq1 t1a
    generalize V / 8 = q at *
    have e1 : IntKind.u8.wrap (q : Int) = (q : Int) := by rw [IntKind.wrap_u8]; omega
    have t2 : ((q : Int)).tmod 2 = 0 := by rw [Int.tmod_eq_emod_of_nonneg (by omega)]; omega
    have t3 : (q : Int) % 2 = 0 := by omega
    have HVB := Lib.hid hvb
    clear hvb
    go_enter Tryd.func61, Tryd.ntmps61
    go_upto_region 1 with fail
    change Code.wp _ _ _ _ ((w.alloc (.cells SA 80)).alloc (.cells zst 80))
    generalize (w.alloc (.cells SA 80)).alloc (.cells zst 80) = w1 at *
    have c18 : w1.cell? ⟨w.heap.size, 18, none⟩ = some (.bool s.pend) := HM0.out.row.cell 18
    rw [hp] at c18
    clear hp
    go_wp2_with (first
      | refine wpList_load_row_g rfl 80 (.tmp 2) rfl w.heap.size rfl 80 SA (0, 0) _ HRA.out Tryd.underlying80 rfl HZ.out.1 ?_
      | refine wpList_load_row_g rfl 80 (.tmp 2) rfl w.heap.size rfl 80 SA (0, 0) _ (HRA.out.below HRA.out.lt hb2) Tryd.underlying80 rfl HZ.out.1 ?_
      | refine wpList_store_row rfl 80 (.tmp 4) (.tmp 42) rfl (w.heap.size + 1) SA rfl rfl 80 _ (HM0.out.below hb2).res HZ.out.1 (by rw [HZ.out.2.1]; rfl) HZ.out.2.2 ?_
      | (go_at_call 59; refine (HCH.out _).mono ?_; rintro e w2 ⟨rfl, hb2⟩))
    refine bodyPost_ret (v := .tuple #[.agg SA, .int .i64 143]) (results_cellt Tryd.results61 _ _ (w.heap.size + 1) _ SA (0, 0) _ rfl (setRow_heap _ _ _ _ _ _ (HM0.out.below hb2).res) Tryd.underlying80 rfl HZ.out.1) rfl (by first | exact ⟨SA, ⟨HSA.out, rfl⟩, below_setRow (HM0.out.below hb2).bl (by omega) _⟩ | exact ⟨by rw [HSA.out], below_setRow (HM0.out.below hb2).bl (by omega) _⟩)
  · rw [hm] at hvb
    simp only [if_true] at hvb ⊢
    clear hq1 t1a
    generalize V / 8 = q at *
    have e1 : IntKind.u8.wrap (q : Int) = (q : Int) := by rw [IntKind.wrap_u8]; omega
    have t2 : ((q : Int)).tmod 2 = 1 := by rw [Int.tmod_eq_emod_of_nonneg (by omega)]; omega
    have t3 : (q : Int) % 2 = 1 := by omega
    have HVB := Lib.hid hvb
    clear hvb
    go_enter Tryd.func61, Tryd.ntmps61
    go_upto_region 1 with fail
    change Code.wp _ _ _ _ ((w.alloc (.cells SA 80)).alloc (.cells zst 80))
    generalize (w.alloc (.cells SA 80)).alloc (.cells zst 80) = w1 at *
    have c18 : w1.cell? ⟨w.heap.size, 18, none⟩ = some (.bool s.pend) := HM0.out.row.cell 18
    rw [hp] at c18
    clear hp
    go_upto_region 5 with (first
      | refine wpList_load_row_g rfl 80 (.tmp 2) rfl w.heap.size rfl 80 SA (0, 0) _ HRA.out Tryd.underlying80 rfl HZ.out.1 ?_
      | refine wpList_load_row_g rfl 80 (.tmp 2) rfl w.heap.size rfl 80 SA (0, 0) _ (HRA.out.below HRA.out.lt hb2) Tryd.underlying80 rfl HZ.out.1 ?_
      | refine wpList_store_row rfl 80 (.tmp 4) (.tmp 42) rfl (w.heap.size + 1) SA rfl rfl 80 _ (HM0.out.below hb2).res HZ.out.1 (by rw [HZ.out.2.1]; rfl) HZ.out.2.2 ?_
      | (go_at_call 59; refine (HCH.out _).mono ?_; rintro e w2 ⟨rfl, hb2⟩))
    have HM2 := Lib.hid (HM0.out.below hb2)
    clear HM0 HRA hb2 c18
    have c16 : w2.cell? ⟨w.heap.size, 16, none⟩ = some (.int .u8 (s.seat : Int)) := HM2.out.row.cell 16
    have c17 : w2.cell? ⟨w.heap.size, 17, none⟩ = some (.int .u8 (s.card : Int)) := HM2.out.row.cell 17
    have rc16 := fun dd os => cell_regrown c16 dd os
    have rc17 := fun dd os => cell_regrown c17 dd os
    refine wp_region_quiet_below (by kernel_rfl) (by kernel_rfl) ?_
    repeat (quiet_step (fail))
    refine wpQuiet_nil ?_
    rintro _ ⟨z, rfl⟩
    have hb := below_regrown w2 z.d z.os
    generalize grow (redrawn w2 z.d) z.os = w3 at *
    have HM3 := Lib.hid (HM2.out.below hb)
    clear HM2 hb c16 c17 rc16 rc17
    have d16 := HM3.out.row.cell 16
    have d17 := HM3.out.row.cell 17
    have d18 := HM3.out.row.cell 18
    simp only [List.getElem?_toArray, List.getElem?_cons_zero, List.getElem?_cons_succ] at d16 d17 d18
    have g16 := HM3.out.row.frozen 16
    have g17 := HM3.out.row.frozen 17
    have g18 := HM3.out.row.frozen 18
    have HM6 : Hid (RM w (((w3.setCell ⟨w.heap.size, 18, none⟩ (.bool false)).setCell ⟨w.heap.size, 16, none⟩ (.int .u8 0)).setCell ⟨w.heap.size, 17, none⟩ (.int .u8 0)) s.done) := Lib.hid
      (((HM3.out.set (s' := { s with pend := false }) rfl).set (s' := { s with pend := false, seat := 0 }) rfl).set rfl)
    go_upto_region 7 with fail
    clear d16 d17 d18 g16 g17 g18 HM3
    generalize ((w3.setCell ⟨w.heap.size, 18, none⟩ (.bool false)).setCell ⟨w.heap.size, 16, none⟩ (.int .u8 0)).setCell ⟨w.heap.size, 17, none⟩ (.int .u8 0) = w6 at *
    obtain ⟨q2, hq2⟩ : ∃ q2, s.card / 13 = q2 := ⟨_, rfl⟩
    have hq4 : q2 < 4 := by omega
    have u1 : ((s.card : Int)).tdiv 13 = (q2 : Int) := by rw [Int.tdiv_eq_ediv_of_nonneg (by omega)]; omega
    have u1' : (s.card : Int) / 13 = (q2 : Int) := by omega
    have u2 : IntKind.i64.wrap (q2 : Int) = (q2 : Int) := IntWalk.i64_in _ (by omega)
    have u3 : IntKind.i64.wrap (s.card : Int) = (s.card : Int) := IntWalk.i64_in _ (by omega)
    have hsh : shl1 q2 = 2 ^ q2 := by unfold shl1; rw [if_pos (by omega)]
    have HQ2 := Lib.hid hq2
    have hp16 : 2 ^ q2 < 16 := Nat.pow_lt_pow_right (a := 2) (n := 4) (by decide) hq4
    have hl0 : lor 0 (shl1 q2) = 2 ^ q2 := by unfold lor; rw [Nat.zero_or, hsh]
    have HWI := Lib.hid (fun (W : World) => lf_with 0 q2 (by unfold W64; decide) (by omega) W)
    rw [hl0] at HWI
    obtain ⟨pq, hpq⟩ : ∃ pq, (2 ^ q2 : Nat) = pq := ⟨_, rfl⟩
    rw [hpq] at HWI hp16
    have u4 : IntKind.u8.wrap (pq : Int) = (pq : Int) := by rw [IntKind.wrap_u8]; omega
    have d20 := HM6.out.row.cell 20
    have d21 := HM6.out.row.cell 21
    simp only [List.getElem?_toArray, List.getElem?_cons_zero, List.getElem?_cons_succ] at d20 d21
    have g20 := HM6.out.row.frozen 20
    have g21 := HM6.out.row.frozen 21
    have HM17 : Hid (RM w ((w6.setCell ⟨w.heap.size, 20, none⟩ (.int .u8 (pq : Int))).setCell ⟨w.heap.size, 21, none⟩ (.int .u8 0)) (s.act 3).done) := Lib.hid (by
      have e : (s.act 3).done = { s.done with must := pq, nt := 0 } := by rw [← hpq, ← HQ2.out]; rfl
      rw [e]
      exact (HM6.out.set (s' := { s.done with must := pq }) rfl).set rfl)
    clear HM6 hpq hl0 hsh hq2
    go_upto_region 20 with (go_at_call 74; refine (HWI.out _).mono ?_; rintro e w' ⟨rfl, rfl⟩)
    clear d20 d21 g20 g21
    generalize (w6.setCell ⟨w.heap.size, 20, none⟩ (.int .u8 (pq : Int))).setCell ⟨w.heap.size, 21, none⟩ (.int .u8 0) = w17 at *
    obtain ⟨SB, hSB⟩ : ∃ SB, SB = ((s.act 3).done : St).cells := ⟨_, rfl⟩
    have HSB := Lib.hid hSB
    have HRB : Hid (Row w17 w.heap.size 80 SB) := Lib.hid (by rw [hSB]; exact HM17.out.row)
    have HZB : Hid ((Tryd.prog.info? 80).map (·.size) = some SB.size ∧ SB.size = 24 ∧ SB.all (·.oneCell') = true) := Lib.hid (by rw [hSB]; exact ⟨size_rst, rfl, one_cells _⟩)
    clear hSB
    go_wp2_with (first
      | refine wpList_load_row_g rfl 80 (.tmp 2) rfl w.heap.size rfl 80 SB (0, 0) _ HRB.out Tryd.underlying80 rfl HZB.out.1 ?_
      | refine wpList_store_row rfl 80 (.tmp 4) (.tmp 99) rfl (w.heap.size + 1) SB rfl rfl 80 _ HM17.out.res HZB.out.1 (by rw [HZB.out.2.1]; rfl) HZB.out.2.2 ?_)
    refine bodyPost_ret (v := .tuple #[.agg SB, .int .i64 0]) (results_cellt Tryd.results61 _ _ (w.heap.size + 1) _ SB (0, 0) _ rfl (setRow_heap _ _ _ _ _ _ HM17.out.res) Tryd.underlying80 rfl HZB.out.1) rfl (by first | exact ⟨SB, ⟨HSB.out, rfl⟩, below_setRow HM17.out.bl (by omega) _⟩ | exact ⟨by rw [HSB.out], below_setRow HM17.out.bl (by omega) _⟩)
set_option maxHeartbeats 1000000 in
set_option maxRecDepth 10000 in
theorem lf_Choose_4 {d : Nat → Nat} {n : Nat} {s : St} (hi : SInv d n s) {SA : Array Value} (hSA : SA = s.cells) (hp : s.pend = true) (w : World) :
    Calls Tryd.prog 61 #[.agg SA, .int .u8 16] w fun e w' => ∃ SB, (SB = (if s.may 4 then ((s.act 4).done, 0) else (s, 143) : St × Nat).1.cells ∧ e = .returned (.tuple #[.agg SB, .int .i64 ((if s.may 4 then ((s.act 4).done, 0) else (s, 143) : St × Nat).2 : Int)])) ∧ Below w.heap.size w w' := by
  have HM0 := Lib.hid (RM.start w hSA)
  have HRA : Hid (Row ((w.alloc (.cells SA 80)).alloc (.cells zst 80)) w.heap.size 80 SA) := Lib.hid ((Row.new w _ _).alloc _)
  have HZ : Hid ((Tryd.prog.info? 80).map (·.size) = some SA.size ∧ SA.size = 24 ∧ SA.all (·.oneCell') = true) := Lib.hid (by rw [hSA]; exact ⟨size_rst, rfl, one_cells _⟩)
  have HCH := Lib.hid (fun (W : World) => lf_Choices hi hSA W)
  have hvb := choices_bit s 4 (by omega)
  have hvl := choices_lt s
  obtain ⟨V, hV⟩ : ∃ V, s.choicesV = V := ⟨_, rfl⟩
  rw [hV] at HCH hvb hvl
  have HI := Lib.hid hi
  have HSA := Lib.hid hSA
  have HPE := Lib.hid hp
  clear hV hSA hi
  have hs4 := HI.out.ok.seat
  have hc52 := HI.out.ok.card
  have hs4I : (s.seat : Int) < 4 := by omega
  obtain ⟨hct, hcb, -⟩ := HI.out.pnd hp
  have HCT := Lib.hid hct
  have HCB := Lib.hid hcb
  clear hct hcb
  have hdv : V / 2 ^ 4 = V / 16 := by congr 1
  rw [hdv] at hvb
  have t1 : ((V : Int)).tdiv 16 = ((V / 16 : Nat) : Int) := by rw [Int.tdiv_eq_ediv_of_nonneg (by omega)]; omega
  have t1' : (V : Int) / 16 = ((V / 16 : Nat) : Int) := by omega
  have hql : V / 16 < 64 := by omega
  have hq1 : 16 = 1 → V / 16 = V := by intro h; omega
  have t1a : 16 = 1 → ((V / 16 : Nat) : Int) = (V : Int) := by intro h; omega
  clear hdv
  cases hm : s.may 4
  · rw [hm] at hvb
    simp only [Bool.false_eq_true, if_false] at hvb ⊢
    clear hq1 t1a
    generalize V / 16 = q at *
    have e1 : IntKind.u8.wrap (q : Int) = (q : Int) := by rw [IntKind.wrap_u8]; omega
    have t2 : ((q : Int)).tmod 2 = 0 := by rw [Int.tmod_eq_emod_of_nonneg (by omega)]; omega
    have t3 : (q : Int) % 2 = 0 := by omega
    have HVB := Lib.hid hvb
    clear hvb
    go_enter Tryd.func61, Tryd.ntmps61
    go_upto_region 1 with fail
    change Code.wp _ _ _ _ ((w.alloc (.cells SA 80)).alloc (.cells zst 80))
    generalize (w.alloc (.cells SA 80)).alloc (.cells zst 80) = w1 at *
    have c18 : w1.cell? ⟨w.heap.size, 18, none⟩ = some (.bool s.pend) := HM0.out.row.cell 18
    rw [hp] at c18
    clear hp
    go_wp2_with (first
      | refine wpList_load_row_g rfl 80 (.tmp 2) rfl w.heap.size rfl 80 SA (0, 0) _ HRA.out Tryd.underlying80 rfl HZ.out.1 ?_
      | refine wpList_load_row_g rfl 80 (.tmp 2) rfl w.heap.size rfl 80 SA (0, 0) _ (HRA.out.below HRA.out.lt hb2) Tryd.underlying80 rfl HZ.out.1 ?_
      | refine wpList_store_row rfl 80 (.tmp 4) (.tmp 42) rfl (w.heap.size + 1) SA rfl rfl 80 _ (HM0.out.below hb2).res HZ.out.1 (by rw [HZ.out.2.1]; rfl) HZ.out.2.2 ?_
      | (go_at_call 59; refine (HCH.out _).mono ?_; rintro e w2 ⟨rfl, hb2⟩))
    refine bodyPost_ret (v := .tuple #[.agg SA, .int .i64 143]) (results_cellt Tryd.results61 _ _ (w.heap.size + 1) _ SA (0, 0) _ rfl (setRow_heap _ _ _ _ _ _ (HM0.out.below hb2).res) Tryd.underlying80 rfl HZ.out.1) rfl (by first | exact ⟨SA, ⟨HSA.out, rfl⟩, below_setRow (HM0.out.below hb2).bl (by omega) _⟩ | exact ⟨by rw [HSA.out], below_setRow (HM0.out.below hb2).bl (by omega) _⟩)
  · rw [hm] at hvb
    simp only [if_true] at hvb ⊢
    clear hq1 t1a
    generalize V / 16 = q at *
    have e1 : IntKind.u8.wrap (q : Int) = (q : Int) := by rw [IntKind.wrap_u8]; omega
    have t2 : ((q : Int)).tmod 2 = 1 := by rw [Int.tmod_eq_emod_of_nonneg (by omega)]; omega
    have t3 : (q : Int) % 2 = 1 := by omega
    have HVB := Lib.hid hvb
    clear hvb
    go_enter Tryd.func61, Tryd.ntmps61
    go_upto_region 1 with fail
    change Code.wp _ _ _ _ ((w.alloc (.cells SA 80)).alloc (.cells zst 80))
    generalize (w.alloc (.cells SA 80)).alloc (.cells zst 80) = w1 at *
    have c18 : w1.cell? ⟨w.heap.size, 18, none⟩ = some (.bool s.pend) := HM0.out.row.cell 18
    rw [hp] at c18
    clear hp
    go_upto_region 5 with (first
      | refine wpList_load_row_g rfl 80 (.tmp 2) rfl w.heap.size rfl 80 SA (0, 0) _ HRA.out Tryd.underlying80 rfl HZ.out.1 ?_
      | refine wpList_load_row_g rfl 80 (.tmp 2) rfl w.heap.size rfl 80 SA (0, 0) _ (HRA.out.below HRA.out.lt hb2) Tryd.underlying80 rfl HZ.out.1 ?_
      | refine wpList_store_row rfl 80 (.tmp 4) (.tmp 42) rfl (w.heap.size + 1) SA rfl rfl 80 _ (HM0.out.below hb2).res HZ.out.1 (by rw [HZ.out.2.1]; rfl) HZ.out.2.2 ?_
      | (go_at_call 59; refine (HCH.out _).mono ?_; rintro e w2 ⟨rfl, hb2⟩))
    have HM2 := Lib.hid (HM0.out.below hb2)
    clear HM0 HRA hb2 c18
    have c16 : w2.cell? ⟨w.heap.size, 16, none⟩ = some (.int .u8 (s.seat : Int)) := HM2.out.row.cell 16
    have c17 : w2.cell? ⟨w.heap.size, 17, none⟩ = some (.int .u8 (s.card : Int)) := HM2.out.row.cell 17
    have rc16 := fun dd os => cell_regrown c16 dd os
    have rc17 := fun dd os => cell_regrown c17 dd os
    refine wp_region_quiet_below (by kernel_rfl) (by kernel_rfl) ?_
    repeat (quiet_step (fail))
    refine wpQuiet_nil ?_
    rintro _ ⟨z, rfl⟩
    have hb := below_regrown w2 z.d z.os
    generalize grow (redrawn w2 z.d) z.os = w3 at *
    have HM3 := Lib.hid (HM2.out.below hb)
    clear HM2 hb c16 c17 rc16 rc17
    have d16 := HM3.out.row.cell 16
    have d17 := HM3.out.row.cell 17
    have d18 := HM3.out.row.cell 18
    simp only [List.getElem?_toArray, List.getElem?_cons_zero, List.getElem?_cons_succ] at d16 d17 d18
    have g16 := HM3.out.row.frozen 16
    have g17 := HM3.out.row.frozen 17
    have g18 := HM3.out.row.frozen 18
    have HM6 : Hid (RM w (((w3.setCell ⟨w.heap.size, 18, none⟩ (.bool false)).setCell ⟨w.heap.size, 16, none⟩ (.int .u8 0)).setCell ⟨w.heap.size, 17, none⟩ (.int .u8 0)) s.done) := Lib.hid
      (((HM3.out.set (s' := { s with pend := false }) rfl).set (s' := { s with pend := false, seat := 0 }) rfl).set rfl)
    go_upto_region 7 with fail
    clear d16 d17 d18 g16 g17 g18 HM3
    generalize ((w3.setCell ⟨w.heap.size, 18, none⟩ (.bool false)).setCell ⟨w.heap.size, 16, none⟩ (.int .u8 0)).setCell ⟨w.heap.size, 17, none⟩ (.int .u8 0) = w6 at *
    obtain ⟨q2, hq2⟩ : ∃ q2, s.card / 13 = q2 := ⟨_, rfl⟩
    have hq4 : q2 < 4 := by omega
    have u1 : ((s.card : Int)).tdiv 13 = (q2 : Int) := by rw [Int.tdiv_eq_ediv_of_nonneg (by omega)]; omega
    have u1' : (s.card : Int) / 13 = (q2 : Int) := by omega
    have u2 : IntKind.i64.wrap (q2 : Int) = (q2 : Int) := IntWalk.i64_in _ (by omega)
    have u3 : IntKind.i64.wrap (s.card : Int) = (s.card : Int) := IntWalk.i64_in _ (by omega)
    have hsh : shl1 q2 = 2 ^ q2 := by unfold shl1; rw [if_pos (by omega)]
    have HQ2 := Lib.hid hq2
    have hp16 : 2 ^ q2 < 16 := Nat.pow_lt_pow_right (a := 2) (n := 4) (by decide) hq4
    have hnt := HI.out.ok.nt
    have hnw : W64 s.nt := by unfold W64; omega
    have HWI := Lib.hid (fun (W : World) => lf_with s.nt q2 hnw (by omega) W)
    have hl0 : lor s.nt (shl1 q2) = s.nt ||| 2 ^ q2 := by unfold lor; rw [hsh]
    rw [hl0] at HWI
    have hlt : s.nt ||| 2 ^ q2 < 16 := Nat.or_lt_two_pow (n := 4) hnt hp16
    obtain ⟨pq, hpq⟩ : ∃ pq, (s.nt ||| 2 ^ q2 : Nat) = pq := ⟨_, rfl⟩
    rw [hpq] at HWI hlt
    have u4 : IntKind.u8.wrap (pq : Int) = (pq : Int) := by rw [IntKind.wrap_u8]; omega
    have u5 : IntKind.u64.wrap (s.nt : Int) = (s.nt : Int) := wrap_u64 _ hnw
    have d21 : w6.cell? ⟨w.heap.size, 21, none⟩ = some (.int .u8 (s.nt : Int)) := HM6.out.row.cell 21
    have g21 := HM6.out.row.frozen 21
    have HM19 : Hid (RM w (w6.setCell ⟨w.heap.size, 21, none⟩ (.int .u8 (pq : Int))) (s.act 4).done) := Lib.hid (by
      have e : (s.act 4).done = { s.done with nt := pq } := by rw [← hpq, ← HQ2.out]; rfl
      rw [e]
      exact HM6.out.set rfl)
    clear HM6 hpq hl0 hsh hq2 hp16
    go_upto_region 20 with (go_at_call 74; refine (HWI.out _).mono ?_; rintro e w' ⟨rfl, rfl⟩)
    clear d21 g21
    generalize w6.setCell ⟨w.heap.size, 21, none⟩ (.int .u8 (pq : Int)) = w19 at *
    obtain ⟨SB, hSB⟩ : ∃ SB, SB = ((s.act 4).done : St).cells := ⟨_, rfl⟩
    have HSB := Lib.hid hSB
    have HRB : Hid (Row w19 w.heap.size 80 SB) := Lib.hid (by rw [hSB]; exact HM19.out.row)
    have HZB : Hid ((Tryd.prog.info? 80).map (·.size) = some SB.size ∧ SB.size = 24 ∧ SB.all (·.oneCell') = true) := Lib.hid (by rw [hSB]; exact ⟨size_rst, rfl, one_cells _⟩)
    clear hSB
    go_wp2_with (first
      | refine wpList_load_row_g rfl 80 (.tmp 2) rfl w.heap.size rfl 80 SB (0, 0) _ HRB.out Tryd.underlying80 rfl HZB.out.1 ?_
      | refine wpList_store_row rfl 80 (.tmp 4) (.tmp 99) rfl (w.heap.size + 1) SB rfl rfl 80 _ HM19.out.res HZB.out.1 (by rw [HZB.out.2.1]; rfl) HZB.out.2.2 ?_)
    refine bodyPost_ret (v := .tuple #[.agg SB, .int .i64 0]) (results_cellt Tryd.results61 _ _ (w.heap.size + 1) _ SB (0, 0) _ rfl (setRow_heap _ _ _ _ _ _ HM19.out.res) Tryd.underlying80 rfl HZB.out.1) rfl (by first | exact ⟨SB, ⟨HSB.out, rfl⟩, below_setRow HM19.out.bl (by omega) _⟩ | exact ⟨by rw [HSB.out], below_setRow HM19.out.bl (by omega) _⟩)
set_option maxHeartbeats 1000000 in
set_option maxRecDepth 10000 in
theorem lf_Choose_5 {d : Nat → Nat} {n : Nat} {s : St} (hi : SInv d n s) {SA : Array Value} (hSA : SA = s.cells) (hp : s.pend = true) (w : World) :
    Calls Tryd.prog 61 #[.agg SA, .int .u8 32] w fun e w' => ∃ SB, (SB = (if s.may 5 then ((s.act 5).done, 0) else (s, 143) : St × Nat).1.cells ∧ e = .returned (.tuple #[.agg SB, .int .i64 ((if s.may 5 then ((s.act 5).done, 0) else (s, 143) : St × Nat).2 : Int)])) ∧ Below w.heap.size w w' := by
  have HM0 := Lib.hid (RM.start w hSA)
  have HRA : Hid (Row ((w.alloc (.cells SA 80)).alloc (.cells zst 80)) w.heap.size 80 SA) := Lib.hid ((Row.new w _ _).alloc _)
  have HZ : Hid ((Tryd.prog.info? 80).map (·.size) = some SA.size ∧ SA.size = 24 ∧ SA.all (·.oneCell') = true) := Lib.hid (by rw [hSA]; exact ⟨size_rst, rfl, one_cells _⟩)
  have HCH := Lib.hid (fun (W : World) => lf_Choices hi hSA W)
  have hvb := choices_bit s 5 (by omega)
  have hvl := choices_lt s
  obtain ⟨V, hV⟩ : ∃ V, s.choicesV = V := ⟨_, rfl⟩
  rw [hV] at HCH hvb hvl
  have HI := Lib.hid hi
  have HSA := Lib.hid hSA
  have HPE := Lib.hid hp
  clear hV hSA hi
  have hs4 := HI.out.ok.seat
  have hc52 := HI.out.ok.card
  have hs4I : (s.seat : Int) < 4 := by omega
  obtain ⟨hct, hcb, -⟩ := HI.out.pnd hp
  have HCT := Lib.hid hct
  have HCB := Lib.hid hcb
  clear hct hcb
  have hdv : V / 2 ^ 5 = V / 32 := by congr 1
  rw [hdv] at hvb
  have t1 : ((V : Int)).tdiv 32 = ((V / 32 : Nat) : Int) := by rw [Int.tdiv_eq_ediv_of_nonneg (by omega)]; omega
  have t1' : (V : Int) / 32 = ((V / 32 : Nat) : Int) := by omega
  have hql : V / 32 < 64 := by omega
  have hq1 : 32 = 1 → V / 32 = V := by intro h; omega
  have t1a : 32 = 1 → ((V / 32 : Nat) : Int) = (V : Int) := by intro h; omega
  clear hdv
  cases hm : s.may 5
  · rw [hm] at hvb
    simp only [Bool.false_eq_true, if_false] at hvb ⊢
    clear hq1 t1a
    generalize V / 32 = q at *
    have e1 : IntKind.u8.wrap (q : Int) = (q : Int) := by rw [IntKind.wrap_u8]; omega
    have t2 : ((q : Int)).tmod 2 = 0 := by rw [Int.tmod_eq_emod_of_nonneg (by omega)]; omega
    have t3 : (q : Int) % 2 = 0 := by omega
    have HVB := Lib.hid hvb
    clear hvb
    go_enter Tryd.func61, Tryd.ntmps61
    go_upto_region 1 with fail
    change Code.wp _ _ _ _ ((w.alloc (.cells SA 80)).alloc (.cells zst 80))
    generalize (w.alloc (.cells SA 80)).alloc (.cells zst 80) = w1 at *
    have c18 : w1.cell? ⟨w.heap.size, 18, none⟩ = some (.bool s.pend) := HM0.out.row.cell 18
    rw [hp] at c18
    clear hp
    go_wp2_with (first
      | refine wpList_load_row_g rfl 80 (.tmp 2) rfl w.heap.size rfl 80 SA (0, 0) _ HRA.out Tryd.underlying80 rfl HZ.out.1 ?_
      | refine wpList_load_row_g rfl 80 (.tmp 2) rfl w.heap.size rfl 80 SA (0, 0) _ (HRA.out.below HRA.out.lt hb2) Tryd.underlying80 rfl HZ.out.1 ?_
      | refine wpList_store_row rfl 80 (.tmp 4) (.tmp 42) rfl (w.heap.size + 1) SA rfl rfl 80 _ (HM0.out.below hb2).res HZ.out.1 (by rw [HZ.out.2.1]; rfl) HZ.out.2.2 ?_
      | (go_at_call 59; refine (HCH.out _).mono ?_; rintro e w2 ⟨rfl, hb2⟩))
    refine bodyPost_ret (v := .tuple #[.agg SA, .int .i64 143]) (results_cellt Tryd.results61 _ _ (w.heap.size + 1) _ SA (0, 0) _ rfl (setRow_heap _ _ _ _ _ _ (HM0.out.below hb2).res) Tryd.underlying80 rfl HZ.out.1) rfl (by first | exact ⟨SA, ⟨HSA.out, rfl⟩, below_setRow (HM0.out.below hb2).bl (by omega) _⟩ | exact ⟨by rw [HSA.out], below_setRow (HM0.out.below hb2).bl (by omega) _⟩)
  · rw [hm] at hvb
    simp only [if_true] at hvb ⊢
    clear hq1 t1a
    generalize V / 32 = q at *
    have e1 : IntKind.u8.wrap (q : Int) = (q : Int) := by rw [IntKind.wrap_u8]; omega
    have t2 : ((q : Int)).tmod 2 = 1 := by rw [Int.tmod_eq_emod_of_nonneg (by omega)]; omega
    have t3 : (q : Int) % 2 = 1 := by omega
    have HVB := Lib.hid hvb
    clear hvb
    go_enter Tryd.func61, Tryd.ntmps61
    go_upto_region 1 with fail
    change Code.wp _ _ _ _ ((w.alloc (.cells SA 80)).alloc (.cells zst 80))
    generalize (w.alloc (.cells SA 80)).alloc (.cells zst 80) = w1 at *
    have c18 : w1.cell? ⟨w.heap.size, 18, none⟩ = some (.bool s.pend) := HM0.out.row.cell 18
    rw [hp] at c18
    clear hp
    go_upto_region 5 with (first
      | refine wpList_load_row_g rfl 80 (.tmp 2) rfl w.heap.size rfl 80 SA (0, 0) _ HRA.out Tryd.underlying80 rfl HZ.out.1 ?_
      | refine wpList_load_row_g rfl 80 (.tmp 2) rfl w.heap.size rfl 80 SA (0, 0) _ (HRA.out.below HRA.out.lt hb2) Tryd.underlying80 rfl HZ.out.1 ?_
      | refine wpList_store_row rfl 80 (.tmp 4) (.tmp 42) rfl (w.heap.size + 1) SA rfl rfl 80 _ (HM0.out.below hb2).res HZ.out.1 (by rw [HZ.out.2.1]; rfl) HZ.out.2.2 ?_
      | (go_at_call 59; refine (HCH.out _).mono ?_; rintro e w2 ⟨rfl, hb2⟩))
    have HM2 := Lib.hid (HM0.out.below hb2)
    clear HM0 HRA hb2 c18
    have c16 : w2.cell? ⟨w.heap.size, 16, none⟩ = some (.int .u8 (s.seat : Int)) := HM2.out.row.cell 16
    have c17 : w2.cell? ⟨w.heap.size, 17, none⟩ = some (.int .u8 (s.card : Int)) := HM2.out.row.cell 17
    have rc16 := fun dd os => cell_regrown c16 dd os
    have rc17 := fun dd os => cell_regrown c17 dd os
    refine wp_region_quiet_below (by kernel_rfl) (by kernel_rfl) ?_
    repeat (quiet_step (fail))
    refine wpQuiet_nil ?_
    rintro _ ⟨z, rfl⟩
    have hb := below_regrown w2 z.d z.os
    generalize grow (redrawn w2 z.d) z.os = w3 at *
    have HM3 := Lib.hid (HM2.out.below hb)
    clear HM2 hb c16 c17 rc16 rc17
    have d16 := HM3.out.row.cell 16
    have d17 := HM3.out.row.cell 17
    have d18 := HM3.out.row.cell 18
    simp only [List.getElem?_toArray, List.getElem?_cons_zero, List.getElem?_cons_succ] at d16 d17 d18
    have g16 := HM3.out.row.frozen 16
    have g17 := HM3.out.row.frozen 17
    have g18 := HM3.out.row.frozen 18
    have HM6 : Hid (RM w (((w3.setCell ⟨w.heap.size, 18, none⟩ (.bool false)).setCell ⟨w.heap.size, 16, none⟩ (.int .u8 0)).setCell ⟨w.heap.size, 17, none⟩ (.int .u8 0)) s.done) := Lib.hid
      (((HM3.out.set (s' := { s with pend := false }) rfl).set (s' := { s with pend := false, seat := 0 }) rfl).set rfl)
    go_upto_region 7 with fail
    clear d16 d17 d18 g16 g17 g18 HM3
    generalize ((w3.setCell ⟨w.heap.size, 18, none⟩ (.bool false)).setCell ⟨w.heap.size, 16, none⟩ (.int .u8 0)).setCell ⟨w.heap.size, 17, none⟩ (.int .u8 0) = w6 at *
    have HD : Hid (SCore d n ({ s with dc := (s.dc + 2) % 4 } : St)) := Lib.hid (by
      have h := HI.out.toSCore
      exact h.with ⟨h.ok.h, h.ok.pn, h.ok.tm, Nat.mod_lt _ (by decide), h.ok.ld, h.ok.ct, h.ok.cs, h.ok.seat, h.ok.card, h.ok.must, h.ok.nt, h.ok.w⟩ rfl rfl rfl rfl rfl rfl h.pen)
    have hdc := HI.out.ok.dc
    obtain ⟨x, hx⟩ : ∃ x, x = (s.dc + 2) % 4 := ⟨_, rfl⟩
    have u1 : IntKind.u8.wrap ((s.dc : Int) + 2) = (s.dc : Int) + 2 := by rw [IntKind.wrap_u8]; omega
    have u2 : ((s.dc : Int) + 2).tmod 4 = (x : Int) := by rw [Int.tmod_eq_emod_of_nonneg (by omega)]; omega
    have u3 : IntKind.u8.wrap (x : Int) = (x : Int) := by rw [IntKind.wrap_u8]; omega
    rw [← hx] at HD
    have HX := Lib.hid hx
    clear hx
    go_upto_region 11 with fail
    have c9 : w6.cell? ⟨w.heap.size, 9, none⟩ = some (.int .u8 (s.dc : Int)) := HM6.out.row.cell 9
    have f9 := HM6.out.row.frozen 9
    have HM11 : Hid (RM w (w6.setCell ⟨w.heap.size, 9, none⟩ (.int .u8 (x : Int))) { s.done with dc := x }) := Lib.hid (HM6.out.set rfl)
    clear HM6
    go_upto_region 12 with fail
    clear c9 f9 u1 u2 u3
    generalize w6.setCell ⟨w.heap.size, 9, none⟩ (.int .u8 (x : Int)) = w11 at *
    have d10 := HM11.out.row.cell 10
    have d21 := HM11.out.row.cell 21
    simp only [List.getElem?_toArray, List.getElem?_cons_zero, List.getElem?_cons_succ] at d10 d21
    have g10 := HM11.out.row.frozen 10
    have g21 := HM11.out.row.frozen 21
    have HM12 : Hid (RM w ((w11.setCell ⟨w.heap.size, 10, none⟩ (.int .u8 (s.seat : Int))).setCell ⟨w.heap.size, 21, none⟩ (.int .u8 0)) { s.done with dc := x, ld := s.seat, nt := 0 }) := Lib.hid (((HM11.out.set (s' := { s.done with dc := x, ld := s.seat }) rfl)).set rfl)
    clear HM11
    go_upto_region 13 with fail
    clear d10 d21 g10 g21
    generalize (w11.setCell ⟨w.heap.size, 10, none⟩ (.int .u8 (s.seat : Int))).setCell ⟨w.heap.size, 21, none⟩ (.int .u8 0) = w12 at *
    obtain ⟨SD, hSD⟩ : ∃ SD, SD = ({ s.done with dc := x, ld := s.seat, nt := 0 } : St).cells := ⟨_, rfl⟩
    have HRD : Hid (Row w12 w.heap.size 80 SD) := Lib.hid (by rw [hSD]; exact HM12.out.row)
    have HZD : Hid ((Tryd.prog.info? 80).map (·.size) = some SD.size) := Lib.hid (by rw [hSD]; exact size_rst)
    have hact : (s.act 5).done = ({ s.done with dc := x, ld := s.seat, nt := 0 } : St).put s.card := by rw [show s.act 5 = ({ s with dc := (s.dc + 2) % 4 } : St).accept from rfl, ← HX.out, accept_done]; rfl
    have HPU := Lib.hid (fun (W : World) => lf_put (HD.out.led_done HCT.out) (c := s.card) (by rw [turn_done (s := { s with dc := x }) hs4 HCT.out]; exact HCB.out) hSD W)
    have HACT := Lib.hid hact
    clear hSD hact
    go_wp2_with (first
      | refine wpList_load_row_g rfl 80 (.tmp 2) rfl w.heap.size rfl 80 SD (0, 0) _ HRD.out Tryd.underlying80 rfl HZD.out ?_
      | refine wpList_store_row rfl 80 (.tmp 4) (.tmp 66) rfl (w.heap.size + 1) SB rfl rfl 80 _ (HM12.out.below hb3).res HZB.out.1 (by rw [HZB.out.2.1]; rfl) HZB.out.2.2 ?_
      | (go_at_call 73; refine (HPU.out _).mono ?_; rintro e w13 ⟨SB, hSB, rfl, hb3⟩
         have HZB : Hid ((Tryd.prog.info? 80).map (·.size) = some SB.size ∧ SB.size = 24 ∧ SB.all (·.oneCell') = true) := Lib.hid (by rw [hSB]; exact ⟨size_rst, rfl, one_cells _⟩)
         have HSB : Hid (SB = (s.act 5).done.cells) := Lib.hid (hSB.trans (congrArg St.cells HACT.out.symm))
         clear hSB))
    refine bodyPost_ret (v := .tuple #[.agg SB, .int .i64 0]) (results_cellt Tryd.results61 _ _ (w.heap.size + 1) _ SB (0, 0) _ rfl (setRow_heap _ _ _ _ _ _ (HM12.out.below hb3).res) Tryd.underlying80 rfl HZB.out.1) rfl (by first | exact ⟨SB, ⟨HSB.out, rfl⟩, below_setRow (HM12.out.below hb3).bl (by omega) _⟩ | exact ⟨by rw [HSB.out], below_setRow (HM12.out.below hb3).bl (by omega) _⟩)
end Go.Proofs.YtgnlmodaekfhfaaDoor
