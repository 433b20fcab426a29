/- LfE, LfF in one text. -/
import Derived.Test.YtgnlmodaekfhfaaDoorLfD

/- The reference of chapter 14: put. -/
namespace Go.Proofs.YtgnlmodaekfhfaaDoor
open Go.RowKit Go.Shelf Go.Sort

attribute [-go_sem] run_equalIn_agg run_neq_struct
/-- a state under change in the first block that the function made; the second one is for the result -/
structure RM (w0 w : World) (s : St) : Prop where
  row : RefAt w w0.heap.size s
  res : Row w (w0.heap.size + 1) 80 zst
  bl : Below w0.heap.size w0 w
theorem RM.start (w : World) {s : St} {SA : Array Value} (h : SA = s.cells) : RM w ((w.alloc (.cells SA 80)).alloc (.cells zst 80)) s := by
  subst h
  refine ⟨(Row.new w _ _).alloc _, ?_, ((Below.refl _ w).alloc (Nat.le_refl _) _).alloc (by rw [World.size_alloc]; omega) _⟩
  have := Row.new (w.alloc (.cells s.cells 80)) 80 zst
  rwa [World.size_alloc] at this
theorem RM.below {w0 w w' : World} {s : St} (h : RM w0 w s) (hb : Below w.heap.size w w') : RM w0 w' s :=
  ⟨h.row.below h.row.lt hb, h.res.below h.res.lt hb, h.bl.trans (hb.mono h.bl.size)⟩
theorem RM.set {w0 w : World} {s s' : St} (h : RM w0 w s) {i : Nat} {v : Value} (he : s.cells.setIfInBounds i v = s'.cells) : RM w0 (w.setCell ⟨w0.heap.size, i, none⟩ v) s' :=
  ⟨by have := h.row.set i v; rw [he] at this; exact this, h.res.other (by omega), h.bl.setCell (Nat.le_refl _) _⟩
theorem st_cget (s : St) (k : Nat) (hk : k < 4) : s.cells[12 + k]? = some (.int .u8 (s.cs k : Int)) := by
  rcases (show k = 0 ∨ k = 1 ∨ k = 2 ∨ k = 3 by omega) with h | h | h | h <;> rw [h] <;> rfl
theorem st_wget (s : St) (k : Nat) (hk : k < 2) : s.cells[22 + k]? = some (.int .u8 (s.w k : Int)) := by
  rcases (show k = 0 ∨ k = 1 by omega) with h | h <;> rw [h] <;> rfl
theorem put_early (s : St) (c : Nat) (h : s.ct ≠ 3) : s.put c = { s with h := setH s.h s.turn (landn (s.h s.turn) (shl1 c)), pn := setH s.pn s.turn (landn (s.pn s.turn) (shl1 c)), cs := setH s.cs s.ct c, ct := s.ct + 1, opn := false, must := 0 } := by
  unfold St.put; rw [if_neg h]
theorem put_late (s : St) (c v nv wx : Nat) (h : s.ct = 3) (hv : s.win c = v) (hn : nv = if v = s.ld then s.nt else 0) (hw : wx = (s.w (v % 2) + 1) % 256) : s.put c = { s with h := setH s.h s.turn (landn (s.h s.turn) (shl1 c)), pn := setH s.pn s.turn (landn (s.pn s.turn) (shl1 c)), opn := false, must := 0, nt := nv, w := setH s.w (v % 2) wx, ld := v, ct := 0, cs := fun _ => 0 } := by
  unfold St.put; rw [if_pos h, hv, hn, hw]
theorem size_cells (s : St) : s.cells.size = 24 := rfl
theorem one_cells (s : St) : s.cells.all (·.oneCell') = true := by simp [Value.oneCell']
set_option maxHeartbeats 2000000 in
set_option maxRecDepth 10000 in
theorem lf_put {d : Nat → Nat} {n : Nat} {s : St} (hi : SCore d n s) {c : Nat} (hc : (s.h s.turn).testBit c = true) {SA : Array Value} (hSA : SA = s.cells) (w : World) :
    Calls Tryd.prog 73 #[.agg SA, .int .u8 (c : Int)] w fun e w' => ∃ SB, SB = (s.put c).cells ∧ e = .returned (.agg SB) ∧ Below w.heap.size w w' := by
  have hs := hi.ok
  have hc52 := hi.bit52 s.turn_lt hc
  have HM0 := Lib.hid (RM.start w hSA)
  have HWH := Lib.hid (fun (W : World) => lf_who hs hSA W)
  have HRA : Hid (Row ((w.alloc (.cells SA 80)).alloc (.cells zst 80)) w.heap.size 80 SA) := Lib.hid ((Row.new w _ _).alloc _)
  have HZ : Hid ((Tryd.prog.info? 80).map (·.size) = some SA.size) := Lib.hid (by rw [hSA]; exact size_rst)
  have hn4 := s.turn_lt
  have hct := hs.ct
  obtain ⟨tn, htn⟩ : ∃ x, s.turn = x := ⟨_, rfl⟩
  obtain ⟨m, hm⟩ : ∃ m, s.h tn = m := ⟨_, rfl⟩
  obtain ⟨p, hp⟩ : ∃ m, s.pn tn = m := ⟨_, rfl⟩
  obtain ⟨ct, hcte⟩ : ∃ m, s.ct = m := ⟨_, rfl⟩
  rw [htn] at hn4 HWH
  have hmw : W64 m := by rw [← hm]; exact w64_52 (hs.h _ hn4)
  have hpw : W64 p := by rw [← hp]; exact w64_52 (hs.pn _ hn4)
  rw [hcte] at hct
  have HWM := Lib.hid (fun W => lf_without m c hmw W)
  have HWP := Lib.hid (fun W => lf_without p c hpw W)
  have HTN := Lib.hid htn
  have HM := Lib.hid hm
  have HP := Lib.hid hp
  have HCT := Lib.hid hcte
  have HI := Lib.hid hi
  have HC := Lib.hid hc
  have hn4I : (tn : Int) < 4 := by omega
  have hctI : (ct : Int) < 4 := by omega
  have e3 : IntKind.i64.wrap (c : Int) = (c : Int) := IntWalk.i64_in _ (by omega)
  clear hSA htn hm hp hcte hi hc hmw hpw hs
  go_enter Tryd.func73, Tryd.ntmps73
  go_upto_region 1 with fail
  change Code.wp _ _ _ _ ((w.alloc (.cells SA 80)).alloc (.cells zst 80))
  generalize (w.alloc (.cells SA 80)).alloc (.cells zst 80) = w1 at *
  go_upto_region 2 with (first
    | refine wpList_load_row_g rfl 80 (.tmp 2) rfl w.heap.size rfl 80 SA (0, 0) _ HRA.out Tryd.underlying80 rfl HZ.out ?_
    | (go_at_call 68; refine (HWH.out _).mono ?_; rintro e w2 ⟨rfl, hb2⟩))
  have hM2 := HM0.out.below hb2
  clear HRA HZ hb2 HWH HM0
  have c2 : w2.cell? ⟨w.heap.size, tn, none⟩ = some (.int .u64 (m : Int)) := by rw [hM2.row.cell, st_hget s tn hn4, HM.out]
  have f2 := hM2.row.frozen tn
  have HM3 := Lib.hid (hM2.set (st_hset s tn (landn m (shl1 c)) hn4))
  clear hM2
  go_upto_region 3 with (go_at_call 78; refine (HWM.out _).mono ?_; rintro e w' ⟨rfl, rfl⟩)
  clear c2 f2
  generalize w2.setCell ⟨w.heap.size, tn, none⟩ (.int .u64 ((landn m (shl1 c) : Nat) : Int)) = w3 at *
  have c3 : w3.cell? ⟨w.heap.size, 4 + tn, none⟩ = some (.int .u64 (p : Int)) := by rw [HM3.out.row.cell, st_pget _ tn hn4]; show some (Value.int .u64 (s.pn tn : Int)) = _; rw [HP.out]
  have f3 := HM3.out.row.frozen (4 + tn)
  have HM4 := Lib.hid (HM3.out.set (st_pset _ tn (landn p (shl1 c)) hn4))
  clear HM3
  go_upto_region 4 with (go_at_call 78; refine (HWP.out _).mono ?_; rintro e w' ⟨rfl, rfl⟩)
  clear c3 f3
  generalize w3.setCell ⟨w.heap.size, 4 + tn, none⟩ (.int .u64 ((landn p (shl1 c) : Nat) : Int)) = w4 at *
  have c4 : w4.cell? ⟨w.heap.size, 11, none⟩ = some (.int .u8 (ct : Int)) := by rw [← HCT.out]; exact HM4.out.row.cell 11
  have d4 := HM4.out.row.cell (12 + ct)
  rw [st_cget _ ct hct] at d4
  have f4 := HM4.out.row.frozen (12 + ct)
  have HM5 := Lib.hid (HM4.out.set (st_cset _ ct c hct))
  clear HM4
  go_upto_region 5 with fail
  clear c4 d4 f4
  generalize w4.setCell ⟨w.heap.size, 12 + ct, none⟩ (.int .u8 (c : Int)) = w5 at *
  have c5 : w5.cell? ⟨w.heap.size, 11, none⟩ = some (.int .u8 (ct : Int)) := by rw [← HCT.out]; exact HM5.out.row.cell 11
  have f5 := HM5.out.row.frozen 11
  have ew : IntKind.u8.wrap ((ct : Int) + 1) = (ct : Int) + 1 := by rw [IntKind.wrap_u8]; omega
  have HM6 : Hid (RM w (w5.setCell ⟨w.heap.size, 11, none⟩ (.int .u8 ((ct : Int) + 1))) { s with h := setH s.h tn (landn m (shl1 c)), pn := setH s.pn tn (landn p (shl1 c)), cs := setH s.cs ct c, ct := ct + 1 }) := Lib.hid (HM5.out.set rfl)
  clear HM5
  go_upto_region 6 with fail
  clear c5 f5 ew
  generalize w5.setCell ⟨w.heap.size, 11, none⟩ (.int .u8 ((ct : Int) + 1)) = w6 at *
  have c6 : w6.cell? ⟨w.heap.size, 19, none⟩ = some (.bool s.opn) := HM6.out.row.cell 19
  have f6 := HM6.out.row.frozen 19
  have HM7 : Hid (RM w (w6.setCell ⟨w.heap.size, 19, none⟩ (.bool false)) { s with h := setH s.h tn (landn m (shl1 c)), pn := setH s.pn tn (landn p (shl1 c)), cs := setH s.cs ct c, ct := ct + 1, opn := false }) := Lib.hid (HM6.out.set rfl)
  clear HM6
  go_upto_region 7 with fail
  clear c6 f6
  generalize w6.setCell ⟨w.heap.size, 19, none⟩ (.bool false) = w7 at *
  have c7 : w7.cell? ⟨w.heap.size, 20, none⟩ = some (.int .u8 (s.must : Int)) := HM7.out.row.cell 20
  have f7 := HM7.out.row.frozen 20
  have HM8 : Hid (RM w (w7.setCell ⟨w.heap.size, 20, none⟩ (.int .u8 0)) { s with h := setH s.h tn (landn m (shl1 c)), pn := setH s.pn tn (landn p (shl1 c)), cs := setH s.cs ct c, ct := ct + 1, opn := false, must := 0 }) := Lib.hid (HM7.out.set rfl)
  clear HM7
  go_upto_region 8 with fail
  clear c7 f7
  generalize w7.setCell ⟨w.heap.size, 20, none⟩ (.int .u8 0) = w8 at *
  have c8 : w8.cell? ⟨w.heap.size, 11, none⟩ = some (.int .u8 ((ct : Int) + 1)) := HM8.out.row.cell 11
  obtain ⟨S8, hS8⟩ : ∃ S8 : St, S8 = { s with h := setH s.h tn (landn m (shl1 c)), pn := setH s.pn tn (landn p (shl1 c)), cs := setH s.cs ct c, ct := ct + 1, opn := false, must := 0 } := ⟨_, rfl⟩
  rw [← hS8] at HM8
  have HS8 := Lib.hid hS8
  clear hS8
  by_cases h4 : ct + 1 < 4
  · have hpe : s.put c = S8 := by
      rw [put_early s c (by rw [HCT.out]; omega), HTN.out, HM.out, HP.out, HCT.out, HS8.out]
    obtain ⟨SB, hSB⟩ : ∃ SB, SB = S8.cells := ⟨_, rfl⟩
    have HSB := Lib.hid hSB
    have HRB : Hid (Row w8 w.heap.size 80 SB) := Lib.hid (by rw [hSB]; exact HM8.out.row)
    have HZB : Hid ((Tryd.prog.info? 80).map (·.size) = some SB.size ∧ SB.size = 24 ∧ SB.all (·.oneCell') = true) := Lib.hid (by rw [hSB]; exact ⟨size_rst, rfl, one_cells _⟩)
    have HPE := Lib.hid hpe
    have h4I : (ct : Int) + 1 < 4 := by omega
    clear hSB hpe
    go_wp2_with (first
      | refine wpList_load_row_g rfl 80 (.tmp 2) rfl w.heap.size rfl 80 SB (0, 0) _ HRB.out Tryd.underlying80 rfl HZB.out.1 ?_
      | refine wpList_store_row rfl 80 (.tmp 4) (.tmp 44) rfl (w.heap.size + 1) SB rfl rfl 80 _ HM8.out.res HZB.out.1 (by rw [HZB.out.2.1]; rfl) HZB.out.2.2 ?_)
    refine bodyPost_ret (v := .agg SB) (results_cell1 Tryd.results73 _ _ (w.heap.size + 1) _ SB (0, 0) _ rfl (setRow_heap _ _ _ _ _ _ HM8.out.res) Tryd.underlying80 rfl HZB.out.1) rfl ⟨SB, by rw [HSB.out, HPE.out], rfl, below_setRow HM8.out.bl (by omega) _⟩
  · have h3 : ct = 3 := by omega
    have h4B : decide ((ct : Int) + 1 < 4) = false := by rw [decide_eq_false_iff_not]; omega
    have H3 := Lib.hid h3
    have hwin := win_worth HI.out (HCT.out.trans h3) HC.out
    have hS8c : ∀ k, k < 4 → S8.cs k = [s.cs 0, s.cs 1, s.cs 2, c].getD k 0 := by
      intro k hk
      rw [HS8.out, h3]
      rcases (show k = 0 ∨ k = 1 ∨ k = 2 ∨ k = 3 by omega) with h | h | h | h <;> rw [h] <;> rfl
    have hT52 : ∀ k, k < 4 → [s.cs 0, s.cs 1, s.cs 2, c].getD k 0 < 52 := by
      intro k hk
      have h52 := fun j hj => HI.out.ok.cs j hj
      rcases (show k = 0 ∨ k = 1 ∨ k = 2 ∨ k = 3 by omega) with h | h | h | h <;> rw [h]
      · exact h52 0 (by omega)
      · exact h52 1 (by omega)
      · exact h52 2 (by omega)
      · exact hc52
    have hF1 : bestTo (worthI s.tm (s.cs 0 / 13)) [s.cs 0, s.cs 1, s.cs 2, c] 1 = 0 := by rw [bestTo]; split <;> rfl
    have hFS : ∀ k, bestTo (worthI s.tm (s.cs 0 / 13)) [s.cs 0, s.cs 1, s.cs 2, c] (k + 1) = if worthI s.tm (s.cs 0 / 13) ([s.cs 0, s.cs 1, s.cs 2, c].getD (bestTo (worthI s.tm (s.cs 0 / 13)) [s.cs 0, s.cs 1, s.cs 2, c] k) 0) < worthI s.tm (s.cs 0 / 13) ([s.cs 0, s.cs 1, s.cs 2, c].getD k 0) then k else bestTo (worthI s.tm (s.cs 0 / 13)) [s.cs 0, s.cs 1, s.cs 2, c] k := fun k => rfl
    have hFL := fun k hk => bestTo_lt (worthI s.tm (s.cs 0 / 13)) [s.cs 0, s.cs 1, s.cs 2, c] k hk
    obtain ⟨SB, hSB⟩ : ∃ SB, SB = S8.cells := ⟨_, rfl⟩
    have HWO := Lib.hid (fun k (hk : k < 4) (W : World) => lf_worth hSB (tm := s.tm) (c0 := s.cs 0) (show S8.tm = s.tm by rw [HS8.out]) (show S8.cs 0 = s.cs 0 by rw [hS8c 0 (by omega)]; rfl) (HI.out.ok.cs 0 (by omega)) (hT52 k hk) W)
    generalize bestTo (worthI s.tm (s.cs 0 / 13)) [s.cs 0, s.cs 1, s.cs 2, c] = F at *
    generalize worthI s.tm (s.cs 0 / 13) = VI at *
    generalize [s.cs 0, s.cs 1, s.cs 2, c] = zs at *
    have HZB : Hid ((Tryd.prog.info? 80).map (·.size) = some SB.size) := Lib.hid (by rw [hSB]; exact size_rst)
    have HSB := Lib.hid hSB
    have HWIN := Lib.hid hwin
    have HS8C := Lib.hid hS8c
    have HT52 := Lib.hid hT52
    have HF1 := Lib.hid hF1
    have HFS := Lib.hid hFS
    have HFL := Lib.hid hFL
    clear hwin hS8c hT52 hF1 hFS hFL hSB h3
    go_upto_region 10 with fail
    clear c8 h4B
    go_wp2_with fail
    go_loopw [6, 7] (fun q i wr => ∃ k : Nat, 1 ≤ k ∧ k ≤ 4 ∧ i = .int .i64 (k : Int) ∧ q = .int .i64 (F k : Int) ∧ RM w wr S8) (fun _ i _ => 4 - (intOf i).toNat)
    case atStart => exact ⟨1, by omega, by omega, rfl, by rw [HF1.out]; rfl, HM8.out⟩
    case round =>
      obtain ⟨k, hk1, hk4, rfl, rfl, hrm⟩ := hrel
      by_cases hlt : k < 4
      · have hq := HFL.out k hk1
        have hstep := HFS.out k
        have ck : wr.cell? ⟨w.heap.size, 12 + k, none⟩ = some (.int .u8 (zs.getD k 0 : Int)) := by rw [hrm.row.cell, st_cget _ k hlt, HS8C.out k hlt]
        obtain ⟨q, hqe⟩ : ∃ q, F k = q := ⟨_, rfl⟩
        rw [hqe] at hq hstep ⊢
        have cq : wr.cell? ⟨w.heap.size, 12 + q, none⟩ = some (.int .u8 (zs.getD q 0 : Int)) := by rw [hrm.row.cell, st_cget _ q (by omega), HS8C.out q (by omega)]
        have HWK := HWO.out k hlt
        have HWQ := HWO.out q (by omega)
        obtain ⟨fk, hfk⟩ : ∃ fk, F (k + 1) = fk := ⟨_, rfl⟩
        rw [hfk] at hstep
        have HFK := Lib.hid hfk
        generalize VI (zs.getD k 0) = x at *
        generalize VI (zs.getD q 0) = y at *
        generalize zs.getD k 0 = ek at *
        generalize zs.getD q 0 = eq at *
        have HWK := Lib.hid HWK
        have HWQ := Lib.hid HWQ
        have HST := Lib.hid hstep
        have HRM := Lib.hid hrm
        have HRW : Hid (Row wr w.heap.size 80 SB) := Lib.hid (by rw [HSB.out]; exact hrm.row)
        have rck := fun dd os => cell_regrown ck dd os
        have rcq := fun dd os => cell_regrown cq dd os
        have hkI : (k : Int) < 4 := by omega
        have hqI : (q : Int) < 4 := by omega
        have hk0 : (0 : Int) ≤ (k : Int) := by omega
        have hq0 : (0 : Int) ≤ (q : Int) := by omega
        clear hfk hstep hrm hqe
        go_upto_region 14 with fail
        refine wp_region_quiet_below (by kernel_rfl) (by kernel_rfl) ?_
        repeat (first
          | (refine quiet_row rfl 80 (.tmp 2) rfl w.heap.size rfl (fun w' hw' => by obtain ⟨p, rfl⟩ := hw'; exact HRW.out.later (below_regrown _ _ _)) Tryd.underlying80 rfl HZB.out ?_)
          | quiet_step (first | with_reducible exact Calls.regrown_of (HWK.out _) | with_reducible exact Calls.regrown_of (HWQ.out _)))
        refine wpQuiet_nil ?_
        rintro _ ⟨z, rfl⟩
        have hb := below_regrown wr z.d z.os
        generalize grow (redrawn wr z.d) z.os = w9 at *
        have HRM9 := Lib.hid (HRM.out.below hb)
        clear hb ck cq rck rcq
        by_cases hgt : y < x
        · have hd : decide (x > y) = true := decide_eq_true hgt
          have hs := HST.out
          rw [if_pos hgt] at hs
          have HS := Lib.hid hs
          clear hs
          go_wp2_with fail
          go_roundw
          case rel => exact ⟨k + 1, by omega, by omega, by go_num, by rw [HFK.out, HS.out], HRM9.out⟩
          case measure => simp [intOf]; omega
        · have hd : decide (x > y) = false := decide_eq_false hgt
          have hs := HST.out
          rw [if_neg hgt] at hs
          have HS := Lib.hid hs
          clear hs
          go_wp2_with fail
          go_roundw
          case rel => exact ⟨k + 1, by omega, by omega, by go_num, by rw [HFK.out, HS.out], HRM9.out⟩
          case measure => simp [intOf]; omega
      · obtain rfl : k = 4 := by omega
        have hq := HFL.out 4 (by omega)
        have hld := HI.out.ok.ld
        obtain ⟨q, hqe⟩ : ∃ q, F 4 = q := ⟨_, rfl⟩
        have hwin := HWIN.out
        rw [hqe] at hq hwin ⊢
        obtain ⟨v, hv⟩ : ∃ v, v = (s.ld + q) % 4 := ⟨_, rfl⟩
        rw [← hv] at hwin
        obtain ⟨nv, hnv⟩ : ∃ nv, nv = if v = s.ld then s.nt else 0 := ⟨_, rfl⟩
        have HV := Lib.hid hv
        have HNV := Lib.hid hnv
        have HWI := Lib.hid hwin
        have HRM := Lib.hid hrm
        have hv4 : v < 4 := by omega
        clear hqe hwin hrm hnv HWO HFS HFL HF1 HT52 HS8C HWIN hk1 hk4 hlt HSB HZB
        have H9 : q = 0 → RM w wr { S8 with nt := nv } := by
          intro h
          have : nv = S8.nt := by rw [HNV.out, if_pos (by rw [HV.out]; omega), HS8.out]
          rw [this]; exact HRM.out
        have H9' : 0 < q → RM w (wr.setCell ⟨w.heap.size, 21, none⟩ (.int .u8 0)) { S8 with nt := nv } := by
          intro h
          have : nv = 0 := by rw [HNV.out, if_neg (by rw [HV.out]; omega)]
          rw [this]; exact HRM.out.set rfl
        have H9 := Lib.hid H9
        have H9' := Lib.hid H9'
        have c21 := HRM.out.row.cell 21
        simp only [List.getElem?_toArray, List.getElem?_cons_zero, List.getElem?_cons_succ] at c21
        have f21 := HRM.out.row.frozen 21
        clear hv HRM
        by_cases hq0 : 0 < q
        · have HM9 := Lib.hid (H9'.out hq0)
          go_upto_region 18 with fail
          generalize wr.setCell ⟨w.heap.size, 21, none⟩ (.int .u8 0) = w9 at *
          clear c21 f21 H9 H9'
          have c10 : w9.cell? ⟨w.heap.size, 10, none⟩ = some (.int .u8 (s.ld : Int)) := by have := HM9.out.row.cell 10; rw [HS8.out] at this; exact this
          have f10 := HM9.out.row.frozen 10
          have e1 : IntKind.u8.wrap (q : Int) = (q : Int) := by rw [IntKind.wrap_u8]; omega
          have e2 : IntKind.u8.wrap ((s.ld : Int) + (q : Int)) = (s.ld : Int) + (q : Int) := by rw [IntKind.wrap_u8]; omega
          have t1 : ((s.ld : Int) + (q : Int)).tmod 4 = (v : Int) := by rw [Int.tmod_eq_emod_of_nonneg (by omega)]; have := HV.out; omega
          have e0 : (s.ld : Int) + 0 = (s.ld : Int) := by omega
          have t0 : q = 0 → ((s.ld : Int)).tmod 4 = (v : Int) := by intro h; rw [Int.tmod_eq_emod_of_nonneg (by omega)]; have := HV.out; omega
          have e3 : IntKind.u8.wrap (v : Int) = (v : Int) := by rw [IntKind.wrap_u8]; omega
          have e4 : IntKind.u8.wrap (s.ld : Int) = (s.ld : Int) := by rw [IntKind.wrap_u8]; omega
          have HM10 : Hid (RM w (w9.setCell ⟨w.heap.size, 10, none⟩ (.int .u8 (v : Int))) { S8 with nt := nv, ld := v }) := Lib.hid (HM9.out.set rfl)
          clear HM9
          go_upto_region 19 with fail
          generalize w9.setCell ⟨w.heap.size, 10, none⟩ (.int .u8 (v : Int)) = w10 at *
          clear c10 f10 e1 e2 t1 e3
          have c10 : w10.cell? ⟨w.heap.size, 10, none⟩ = some (.int .u8 (v : Int)) := HM10.out.row.cell 10
          obtain ⟨k, hkv, hk2⟩ : ∃ k, v % 2 = k ∧ k < 2 := ⟨_, rfl, Nat.mod_lt _ (by decide)⟩
          have hk2I : (k : Int) < 2 := by omega
          have t1 : ((v : Int)).tmod 2 = (k : Int) := by rw [Int.tmod_eq_emod_of_nonneg (by omega)]; omega
          have e1 : IntKind.u8.wrap (k : Int) = (k : Int) := by rw [IntKind.wrap_u8]; omega
          obtain ⟨wv, hwv⟩ : ∃ wv, s.w k = wv := ⟨_, rfl⟩
          have hwv6 : wv < 256 := by rw [← hwv]; exact HI.out.ok.w _ hk2
          have c22 : w10.cell? ⟨w.heap.size, 22 + k, none⟩ = some (.int .u8 (wv : Int)) := by rw [HM10.out.row.cell, st_wget _ k hk2, ← hwv]; show some (Value.int .u8 (S8.w k : Int)) = _; rw [HS8.out]
          have f22 := HM10.out.row.frozen (22 + k)
          obtain ⟨wx, hwx⟩ : ∃ x, x = (wv + 1) % 256 := ⟨_, rfl⟩
          have e2 : IntKind.u8.wrap ((wv : Int) + 1) = (wx : Int) := by rw [IntKind.wrap_u8]; omega
          have HKV := Lib.hid hkv
          have HWX := Lib.hid hwx
          have HWV := Lib.hid hwv
          have HM11 : Hid (RM w (w10.setCell ⟨w.heap.size, 22 + k, none⟩ (.int .u8 (wx : Int))) { S8 with nt := nv, ld := v, w := setH S8.w k wx }) := Lib.hid (HM10.out.set (st_wset _ k wx hk2))
          clear HM10 hkv hwx hwv
          go_upto_region 20 with fail
          generalize w10.setCell ⟨w.heap.size, 22 + k, none⟩ (.int .u8 (wx : Int)) = w11 at *
          clear c10 c22 f22 e1 e2 t1
          have c11 := HM11.out.row.cell 11
          simp only [List.getElem?_toArray, List.getElem?_cons_zero, List.getElem?_cons_succ] at c11
          have f11 := HM11.out.row.frozen 11
          have HM12 : Hid (RM w (w11.setCell ⟨w.heap.size, 11, none⟩ (.int .u8 0)) { S8 with nt := nv, ld := v, w := setH S8.w k wx, ct := 0 }) := Lib.hid (HM11.out.set rfl)
          clear HM11
          go_upto_region 21 with fail
          generalize w11.setCell ⟨w.heap.size, 11, none⟩ (.int .u8 0) = w12 at *
          clear c11 f11
          have d12 := HM12.out.row.cell 12
          have d13 := HM12.out.row.cell 13
          have d14 := HM12.out.row.cell 14
          have d15 := HM12.out.row.cell 15
          simp only [List.getElem?_toArray, List.getElem?_cons_zero, List.getElem?_cons_succ] at d12 d13 d14 d15
          have g12 := HM12.out.row.frozen 12
          have g13 := HM12.out.row.frozen 13
          have g14 := HM12.out.row.frozen 14
          have g15 := HM12.out.row.frozen 15
          have HM16 : Hid (RM w ((((w12.setCell ⟨w.heap.size, 12, none⟩ (.int .u8 0)).setCell ⟨w.heap.size, 13, none⟩ (.int .u8 0)).setCell ⟨w.heap.size, 14, none⟩ (.int .u8 0)).setCell ⟨w.heap.size, 15, none⟩ (.int .u8 0)) { S8 with nt := nv, ld := v, w := setH S8.w k wx, ct := 0, cs := fun _ => 0 }) := Lib.hid
            ((((HM12.out.set (s' := { S8 with nt := nv, ld := v, w := setH S8.w k wx, ct := 0, cs := setH S8.cs 0 0 }) rfl).set (s' := { S8 with nt := nv, ld := v, w := setH S8.w k wx, ct := 0, cs := setH (setH S8.cs 0 0) 1 0 }) rfl).set (s' := { S8 with nt := nv, ld := v, w := setH S8.w k wx, ct := 0, cs := setH (setH (setH S8.cs 0 0) 1 0) 2 0 }) rfl).set rfl)
          clear HM12
          go_upto_region 22 with fail
          clear d12 d13 d14 d15 g12 g13 g14 g15
          generalize (((w12.setCell ⟨w.heap.size, 12, none⟩ (.int .u8 0)).setCell ⟨w.heap.size, 13, none⟩ (.int .u8 0)).setCell ⟨w.heap.size, 14, none⟩ (.int .u8 0)).setCell ⟨w.heap.size, 15, none⟩ (.int .u8 0) = w16 at *
          have hpe : s.put c = { S8 with nt := nv, ld := v, w := setH S8.w k wx, ct := 0, cs := fun _ => 0 } := by
            rw [put_late s c v nv wx (HCT.out.trans H3.out) HWI.out HNV.out (by rw [HKV.out, HWV.out, HWX.out]), HTN.out, HM.out, HP.out, HS8.out, HKV.out]
          obtain ⟨SC, hSC⟩ : ∃ SC, SC = ({ S8 with nt := nv, ld := v, w := setH S8.w k wx, ct := 0, cs := fun _ => 0 } : St).cells := ⟨_, rfl⟩
          have HSC := Lib.hid hSC
          have HRC : Hid (Row w16 w.heap.size 80 SC) := Lib.hid (by rw [hSC]; exact HM16.out.row)
          have HZC : Hid ((Tryd.prog.info? 80).map (·.size) = some SC.size ∧ SC.size = 24 ∧ SC.all (·.oneCell') = true) := Lib.hid (by rw [hSC]; exact ⟨size_rst, rfl, one_cells _⟩)
          have HPE := Lib.hid hpe
          clear hSC hpe
          go_wp2_with (first
            | refine wpList_load_row_g rfl 80 (.tmp 2) rfl w.heap.size rfl 80 SC (0, 0) _ HRC.out Tryd.underlying80 rfl HZC.out.1 ?_
            | refine wpList_store_row rfl 80 (.tmp 4) (.tmp 85) rfl (w.heap.size + 1) SC rfl rfl 80 _ HM16.out.res HZC.out.1 (by rw [HZC.out.2.1]; rfl) HZC.out.2.2 ?_)
          refine bodyPost_ret (v := .agg SC) (results_cell1 Tryd.results73 _ _ (w.heap.size + 1) _ SC (0, 0) _ rfl (setRow_heap _ _ _ _ _ _ HM16.out.res) Tryd.underlying80 rfl HZC.out.1) rfl (by first | exact ⟨SC, by rw [HSC.out, HPE.out], rfl, below_setRow HM16.out.bl (by omega) _⟩ | exact ⟨by rw [HSC.out, HPE.out], below_setRow HM16.out.bl (by omega) _⟩)
        · have HM9 := Lib.hid (H9.out (by omega))
          obtain rfl : q = 0 := by omega
          go_upto_region 18 with fail
          generalize wr = w9 at *
          clear c21 f21 H9 H9'
          have c10 : w9.cell? ⟨w.heap.size, 10, none⟩ = some (.int .u8 (s.ld : Int)) := by have := HM9.out.row.cell 10; rw [HS8.out] at this; exact this
          have f10 := HM9.out.row.frozen 10
          have e1 : IntKind.u8.wrap (0 : Int) = (0 : Int) := by rw [IntKind.wrap_u8]; omega
          have e2 : IntKind.u8.wrap ((s.ld : Int) + (0 : Int)) = (s.ld : Int) + (0 : Int) := by rw [IntKind.wrap_u8]; omega
          have t1 : ((s.ld : Int) + (0 : Int)).tmod 4 = (v : Int) := by rw [Int.tmod_eq_emod_of_nonneg (by omega)]; have := HV.out; omega
          have e0 : (s.ld : Int) + 0 = (s.ld : Int) := by omega
          have t0 : 0 = 0 → ((s.ld : Int)).tmod 4 = (v : Int) := by intro h; rw [Int.tmod_eq_emod_of_nonneg (by omega)]; have := HV.out; omega
          have e3 : IntKind.u8.wrap (v : Int) = (v : Int) := by rw [IntKind.wrap_u8]; omega
          have e4 : IntKind.u8.wrap (s.ld : Int) = (s.ld : Int) := by rw [IntKind.wrap_u8]; omega
          have HM10 : Hid (RM w (w9.setCell ⟨w.heap.size, 10, none⟩ (.int .u8 (v : Int))) { S8 with nt := nv, ld := v }) := Lib.hid (HM9.out.set rfl)
          clear HM9
          go_upto_region 19 with fail
          generalize w9.setCell ⟨w.heap.size, 10, none⟩ (.int .u8 (v : Int)) = w10 at *
          clear c10 f10 e1 e2 t1 e3
          have c10 : w10.cell? ⟨w.heap.size, 10, none⟩ = some (.int .u8 (v : Int)) := HM10.out.row.cell 10
          obtain ⟨k, hkv, hk2⟩ : ∃ k, v % 2 = k ∧ k < 2 := ⟨_, rfl, Nat.mod_lt _ (by decide)⟩
          have hk2I : (k : Int) < 2 := by omega
          have t1 : ((v : Int)).tmod 2 = (k : Int) := by rw [Int.tmod_eq_emod_of_nonneg (by omega)]; omega
          have e1 : IntKind.u8.wrap (k : Int) = (k : Int) := by rw [IntKind.wrap_u8]; omega
          obtain ⟨wv, hwv⟩ : ∃ wv, s.w k = wv := ⟨_, rfl⟩
          have hwv6 : wv < 256 := by rw [← hwv]; exact HI.out.ok.w _ hk2
          have c22 : w10.cell? ⟨w.heap.size, 22 + k, none⟩ = some (.int .u8 (wv : Int)) := by rw [HM10.out.row.cell, st_wget _ k hk2, ← hwv]; show some (Value.int .u8 (S8.w k : Int)) = _; rw [HS8.out]
          have f22 := HM10.out.row.frozen (22 + k)
          obtain ⟨wx, hwx⟩ : ∃ x, x = (wv + 1) % 256 := ⟨_, rfl⟩
          have e2 : IntKind.u8.wrap ((wv : Int) + 1) = (wx : Int) := by rw [IntKind.wrap_u8]; omega
          have HKV := Lib.hid hkv
          have HWX := Lib.hid hwx
          have HWV := Lib.hid hwv
          have HM11 : Hid (RM w (w10.setCell ⟨w.heap.size, 22 + k, none⟩ (.int .u8 (wx : Int))) { S8 with nt := nv, ld := v, w := setH S8.w k wx }) := Lib.hid (HM10.out.set (st_wset _ k wx hk2))
          clear HM10 hkv hwx hwv
          go_upto_region 20 with fail
          generalize w10.setCell ⟨w.heap.size, 22 + k, none⟩ (.int .u8 (wx : Int)) = w11 at *
          clear c10 c22 f22 e1 e2 t1
          have c11 := HM11.out.row.cell 11
          simp only [List.getElem?_toArray, List.getElem?_cons_zero, List.getElem?_cons_succ] at c11
          have f11 := HM11.out.row.frozen 11
          have HM12 : Hid (RM w (w11.setCell ⟨w.heap.size, 11, none⟩ (.int .u8 0)) { S8 with nt := nv, ld := v, w := setH S8.w k wx, ct := 0 }) := Lib.hid (HM11.out.set rfl)
          clear HM11
          go_upto_region 21 with fail
          generalize w11.setCell ⟨w.heap.size, 11, none⟩ (.int .u8 0) = w12 at *
          clear c11 f11
          have d12 := HM12.out.row.cell 12
          have d13 := HM12.out.row.cell 13
          have d14 := HM12.out.row.cell 14
          have d15 := HM12.out.row.cell 15
          simp only [List.getElem?_toArray, List.getElem?_cons_zero, List.getElem?_cons_succ] at d12 d13 d14 d15
          have g12 := HM12.out.row.frozen 12
          have g13 := HM12.out.row.frozen 13
          have g14 := HM12.out.row.frozen 14
          have g15 := HM12.out.row.frozen 15
          have HM16 : Hid (RM w ((((w12.setCell ⟨w.heap.size, 12, none⟩ (.int .u8 0)).setCell ⟨w.heap.size, 13, none⟩ (.int .u8 0)).setCell ⟨w.heap.size, 14, none⟩ (.int .u8 0)).setCell ⟨w.heap.size, 15, none⟩ (.int .u8 0)) { S8 with nt := nv, ld := v, w := setH S8.w k wx, ct := 0, cs := fun _ => 0 }) := Lib.hid
            ((((HM12.out.set (s' := { S8 with nt := nv, ld := v, w := setH S8.w k wx, ct := 0, cs := setH S8.cs 0 0 }) rfl).set (s' := { S8 with nt := nv, ld := v, w := setH S8.w k wx, ct := 0, cs := setH (setH S8.cs 0 0) 1 0 }) rfl).set (s' := { S8 with nt := nv, ld := v, w := setH S8.w k wx, ct := 0, cs := setH (setH (setH S8.cs 0 0) 1 0) 2 0 }) rfl).set rfl)
          clear HM12
          go_upto_region 22 with fail
          clear d12 d13 d14 d15 g12 g13 g14 g15
          generalize (((w12.setCell ⟨w.heap.size, 12, none⟩ (.int .u8 0)).setCell ⟨w.heap.size, 13, none⟩ (.int .u8 0)).setCell ⟨w.heap.size, 14, none⟩ (.int .u8 0)).setCell ⟨w.heap.size, 15, none⟩ (.int .u8 0) = w16 at *
          have hpe : s.put c = { S8 with nt := nv, ld := v, w := setH S8.w k wx, ct := 0, cs := fun _ => 0 } := by
            rw [put_late s c v nv wx (HCT.out.trans H3.out) HWI.out HNV.out (by rw [HKV.out, HWV.out, HWX.out]), HTN.out, HM.out, HP.out, HS8.out, HKV.out]
          obtain ⟨SC, hSC⟩ : ∃ SC, SC = ({ S8 with nt := nv, ld := v, w := setH S8.w k wx, ct := 0, cs := fun _ => 0 } : St).cells := ⟨_, rfl⟩
          have HSC := Lib.hid hSC
          have HRC : Hid (Row w16 w.heap.size 80 SC) := Lib.hid (by rw [hSC]; exact HM16.out.row)
          have HZC : Hid ((Tryd.prog.info? 80).map (·.size) = some SC.size ∧ SC.size = 24 ∧ SC.all (·.oneCell') = true) := Lib.hid (by rw [hSC]; exact ⟨size_rst, rfl, one_cells _⟩)
          have HPE := Lib.hid hpe
          clear hSC hpe
          go_wp2_with (first
            | refine wpList_load_row_g rfl 80 (.tmp 2) rfl w.heap.size rfl 80 SC (0, 0) _ HRC.out Tryd.underlying80 rfl HZC.out.1 ?_
            | refine wpList_store_row rfl 80 (.tmp 4) (.tmp 85) rfl (w.heap.size + 1) SC rfl rfl 80 _ HM16.out.res HZC.out.1 (by rw [HZC.out.2.1]; rfl) HZC.out.2.2 ?_)
          refine bodyPost_ret (v := .agg SC) (results_cell1 Tryd.results73 _ _ (w.heap.size + 1) _ SC (0, 0) _ rfl (setRow_heap _ _ _ _ _ _ HM16.out.res) Tryd.underlying80 rfl HZC.out.1) rfl (by first | exact ⟨SC, by rw [HSC.out, HPE.out], rfl, below_setRow HM16.out.bl (by omega) _⟩ | exact ⟨by rw [HSC.out, HPE.out], below_setRow HM16.out.bl (by omega) _⟩)
end Go.Proofs.YtgnlmodaekfhfaaDoor

/- The reference of chapter 14: Play, Lead. -/
namespace Go.Proofs.YtgnlmodaekfhfaaDoor
open Go.RowKit Go.Shelf Go.Sort

attribute [-go_sem] run_equalIn_agg run_neq_struct
theorem results_cellt {P : Program} {fn : Func} {p q : Tmp} {ty : TypeId} (h : fn.results = #[.cell p ty, .tmp q]) (tmps : Array Value) (w : World) (g : Nat) (t : TypeId) (cs : Array Value) (fr : Nat × Nat) (d : TypeDesc)
    (hp : tmps.getD p undef = .pointer (some ⟨g, 0, none⟩)) (hg : w.heap[g]? = some (.cells cs t fr))
    (hu : P.underlying ty = some d) (hd : (match d with | .struct _ | .array _ _ => true | _ => false) = true) (hi : (P.info? ty).map (·.size) = some cs.size) :
    (results fn tmps).run P w = .ok (.tuple #[.agg cs, tmps.getD q undef]) w := by
  have hp' : tmps[p]?.getD undef = .pointer (some ⟨g, 0, none⟩) := by simpa using hp
  simp [results, h, hp', asAddr, run_loadVar_row w g t ty cs fr d hg hu hd hi]
set_option maxHeartbeats 1000000 in
set_option maxRecDepth 10000 in
theorem lf_Play {d : Nat → Nat} {n : Nat} {s : St} (hi : SInv d n s) {SA : Array Value} (hSA : SA = s.cells) {c : Nat} (hc : c < 256) {t : St} {er : Nat} (he : s.playV c = (t, er)) (w : World) :
    Calls Tryd.prog 63 #[.agg SA, .int .u8 (c : Int)] w fun e w' => ∃ SB, (SB = t.cells ∧ e = .returned (.tuple #[.agg SB, .int .i64 (er : Int)])) ∧ Below w.heap.size w w' := by
  have HM0 := Lib.hid (RM.start w hSA)
  have HRA : Hid (Row ((w.alloc (.cells SA 80)).alloc (.cells zst 80)) w.heap.size 80 SA) := Lib.hid ((Row.new w _ _).alloc _)
  have HZ : Hid ((Tryd.prog.info? 80).map (·.size) = some SA.size ∧ SA.size = 24 ∧ SA.all (·.oneCell') = true) := Lib.hid (by rw [hSA]; exact ⟨size_rst, rfl, one_cells _⟩)
  have HL := Lib.hid (fun (W : World) => lf_Legal hi hSA W)
  obtain ⟨lg, hlg⟩ : ∃ lg, s.legal = lg := ⟨_, rfl⟩
  rw [hlg] at HL
  have hlw : W64 lg := by
    rw [← hlg]
    unfold St.legal
    split
    · exact Nat.zero_lt_succ _
    · have hb : ∀ i, (pick s.can (s.pn s.turn)).testBit i = true → i < 52 := fun i h => hi.toSCore.bit52 s.turn_lt (hi.toSCore.can_sub (pick_bit _ _ _ h))
      exact w64_52 (lt_of_bits hb)
  have HH := Lib.hid (fun (W : World) => lf_has lg c hlw W)
  have e3 : IntKind.i64.wrap (c : Int) = (c : Int) := IntWalk.i64_in _ (by omega)
  have HPU := Lib.hid (fun (hb : lg.testBit c = true) (W : World) => lf_put hi.toSCore (c := c) (hi.toSCore.legal_sub (by rw [hlg]; exact hb)) hSA W)
  unfold St.playV at he
  rw [hlg] at he
  have HSA := Lib.hid hSA
  clear hSA hlg hlw
  go_enter Tryd.func63, Tryd.ntmps63
  go_upto_region 1 with fail
  change Code.wp _ _ _ _ ((w.alloc (.cells SA 80)).alloc (.cells zst 80))
  generalize (w.alloc (.cells SA 80)).alloc (.cells zst 80) = w1 at *
  have c18 : w1.cell? ⟨w.heap.size, 18, none⟩ = some (.bool s.pend) := HM0.out.row.cell 18
  cases hp : s.pend
  · rw [hp] at c18 he
    clear hp
    cases hb : lg.testBit c
    · rw [hb] at he HH
      simp only [Bool.false_eq_true, if_false, Prod.mk.injEq] at he
      obtain ⟨rfl, rfl⟩ := he
      clear hb HPU
      go_wp2_with (first
        | refine wpList_load_row_g rfl 80 (.tmp 2) rfl w.heap.size rfl 80 SA (0, 0) _ HRA.out Tryd.underlying80 rfl HZ.out.1 ?_
        | refine wpList_load_row_g rfl 80 (.tmp 2) rfl w.heap.size rfl 80 SA (0, 0) _ (HRA.out.below HRA.out.lt hb2) Tryd.underlying80 rfl HZ.out.1 ?_
        | refine wpList_store_row rfl 80 (.tmp 4) (.tmp 15) rfl (w.heap.size + 1) SA rfl rfl 80 _ (HM0.out.below hb2).res HZ.out.1 (by rw [HZ.out.2.1]; rfl) HZ.out.2.2 ?_
        | (go_at_call 58; refine (HL.out _).mono ?_; rintro e w2 ⟨rfl, hb2⟩)
        | (go_at_call 56; refine (HH.out _).mono ?_; rintro e w' ⟨rfl, rfl⟩))
      refine bodyPost_ret (v := .tuple #[.agg SA, .int .i64 141]) (results_cellt Tryd.results63 _ _ (w.heap.size + 1) _ SA (0, 0) _ rfl (setRow_heap _ _ _ _ _ _ (HM0.out.below hb2).res) Tryd.underlying80 rfl HZ.out.1) rfl (by first | exact ⟨SA, ⟨HSA.out, rfl⟩, below_setRow (HM0.out.below hb2).bl (by omega) _⟩ | exact ⟨by rw [HSA.out], below_setRow (HM0.out.below hb2).bl (by omega) _⟩)
    · rw [hb] at he HH
      simp only [Bool.false_eq_true, if_false, if_true, Prod.mk.injEq] at he
      obtain ⟨rfl, rfl⟩ := he
      have HPU := Lib.hid (HPU.out hb)
      clear hb
      go_wp2_with (first
        | refine wpList_load_row_g rfl 80 (.tmp 2) rfl w.heap.size rfl 80 SA (0, 0) _ HRA.out Tryd.underlying80 rfl HZ.out.1 ?_
        | refine wpList_load_row_g rfl 80 (.tmp 2) rfl w.heap.size rfl 80 SA (0, 0) _ (HRA.out.below HRA.out.lt hb2) Tryd.underlying80 rfl HZ.out.1 ?_
        | refine wpList_store_row rfl 80 (.tmp 4) (.tmp 18) rfl (w.heap.size + 1) SB rfl rfl 80 _ ((HM0.out.below hb2).below hb3).res HZB.out.1 (by rw [HZB.out.2.1]; rfl) HZB.out.2.2 ?_
        | (go_at_call 58; refine (HL.out _).mono ?_; rintro e w2 ⟨rfl, hb2⟩)
        | (go_at_call 73; refine (HPU.out _).mono ?_; rintro e w3 ⟨SB, hSB, rfl, hb3⟩
           have HZB : Hid ((Tryd.prog.info? 80).map (·.size) = some SB.size ∧ SB.size = 24 ∧ SB.all (·.oneCell') = true) := Lib.hid (by rw [hSB]; exact ⟨size_rst, rfl, one_cells _⟩)
           have HSB := Lib.hid hSB
           clear hSB)
        | (go_at_call 56; refine (HH.out _).mono ?_; rintro e w' ⟨rfl, rfl⟩))
      refine bodyPost_ret (v := .tuple #[.agg SB, .int .i64 0]) (results_cellt Tryd.results63 _ _ (w.heap.size + 1) _ SB (0, 0) _ rfl (setRow_heap _ _ _ _ _ _ ((HM0.out.below hb2).below hb3).res) Tryd.underlying80 rfl HZB.out.1) rfl (by first | exact ⟨SB, ⟨HSB.out, rfl⟩, below_setRow ((HM0.out.below hb2).below hb3).bl (by omega) _⟩ | exact ⟨by rw [HSB.out], below_setRow ((HM0.out.below hb2).below hb3).bl (by omega) _⟩)
  · rw [hp] at c18 he
    simp only [if_true, Prod.mk.injEq] at he
    obtain ⟨rfl, rfl⟩ := he
    clear hp
    go_wp2_with (first
      | refine wpList_load_row_g rfl 80 (.tmp 2) rfl w.heap.size rfl 80 SA (0, 0) _ HRA.out Tryd.underlying80 rfl HZ.out.1 ?_
      | refine wpList_store_row rfl 80 (.tmp 4) (.tmp 8) rfl (w.heap.size + 1) SA rfl rfl 80 _ HM0.out.res HZ.out.1 (by rw [HZ.out.2.1]; rfl) HZ.out.2.2 ?_)
    refine bodyPost_ret (v := .tuple #[.agg SA, .int .i64 142]) (results_cellt Tryd.results63 _ _ (w.heap.size + 1) _ SA (0, 0) _ rfl (setRow_heap _ _ _ _ _ _ HM0.out.res) Tryd.underlying80 rfl HZ.out.1) rfl (by first | exact ⟨SA, ⟨HSA.out, rfl⟩, below_setRow HM0.out.bl (by omega) _⟩ | exact ⟨by rw [HSA.out], below_setRow HM0.out.bl (by omega) _⟩)
set_option maxHeartbeats 1000000 in
set_option maxRecDepth 10000 in
theorem lf_Lead {d : Nat → Nat} {n : Nat} {s : St} (hi : SInv d n s) {SA : Array Value} (hSA : SA = s.cells) {seat c : Nat} (hse : seat < 256) (hc : c < 256) {t : St} {er : Nat} (he : s.leadV seat c = (t, er)) (w : World) :
    Calls Tryd.prog 60 #[.agg SA, .int .u8 (seat : Int), .int .u8 (c : Int)] w fun e w' => ∃ SB, (SB = t.cells ∧ e = .returned (.tuple #[.agg SB, .int .i64 (er : Int)])) ∧ Below w.heap.size w w' := by
  have HM0 := Lib.hid (RM.start w hSA)
  have HRA : Hid (Row ((w.alloc (.cells SA 80)).alloc (.cells zst 80)) w.heap.size 80 SA) := Lib.hid ((Row.new w _ _).alloc _)
  have HZ : Hid ((Tryd.prog.info? 80).map (·.size) = some SA.size ∧ SA.size = 24 ∧ SA.all (·.oneCell') = true) := Lib.hid (by rw [hSA]; exact ⟨size_rst, rfl, one_cells _⟩)
  have e3 : IntKind.i64.wrap (c : Int) = (c : Int) := IntWalk.i64_in _ (by omega)
  have HSA := Lib.hid hSA
  have HPL := Lib.hid (fun (W : World) {t : St} {er : Nat} (h : s.playV c = (t, er)) => lf_Play hi hSA hc h W)
  have hw := fun j hj => w64_52 (hi.ok.h j hj)
  have HHH := Lib.hid (fun j (hj : j < 4) (W : World) => lf_has (s.h j) c (hw j hj) W)
  have hld := hi.ok.ld
  have htu : s.ct = 0 → s.turn = s.ld := by intro h; unfold St.turn; rw [h]; omega
  have HTU := Lib.hid htu
  unfold St.leadV at he
  clear hSA hw hi htu
  go_enter Tryd.func60, Tryd.ntmps60
  go_upto_region 1 with fail
  change Code.wp _ _ _ _ ((w.alloc (.cells SA 80)).alloc (.cells zst 80))
  generalize (w.alloc (.cells SA 80)).alloc (.cells zst 80) = w1 at *
  have c18 : w1.cell? ⟨w.heap.size, 18, none⟩ = some (.bool s.pend) := HM0.out.row.cell 18
  have c11 : w1.cell? ⟨w.heap.size, 11, none⟩ = some (.int .u8 (s.ct : Int)) := HM0.out.row.cell 11
  cases hp : s.pend
  · rw [hp] at c18 he
    have HP := Lib.hid hp
    clear hp
    by_cases h0 : s.ct = 0
    · have h0I : ((s.ct : Int) != 0) = false := by rw [h0]; rfl
      have hld2 := HTU.out h0
      rw [hld2] at he
      rw [if_neg (show ¬ (false || s.ct != 0) = true by rw [h0]; decide)] at he
      have HCT := Lib.hid h0
      clear h0 hld2
      have c10 : w1.cell? ⟨w.heap.size, 10, none⟩ = some (.int .u8 (s.ld : Int)) := HM0.out.row.cell 10
      by_cases h3 : 3 < seat
      · rw [if_pos (.inl h3)] at he
        obtain ⟨rfl, rfl⟩ := Prod.mk.inj he
        have h3I : (3 : Int) < (seat : Int) := by omega
        go_wp2_with (first
          | refine wpList_load_row_g rfl 80 (.tmp 3) rfl w.heap.size rfl 80 SA (0, 0) _ HRA.out Tryd.underlying80 rfl HZ.out.1 ?_
          | refine wpList_store_row rfl 80 (.tmp 6) (.tmp 28) rfl (w.heap.size + 1) SA rfl rfl 80 _ HM0.out.res HZ.out.1 (by rw [HZ.out.2.1]; rfl) HZ.out.2.2 ?_)
        refine bodyPost_ret (v := .tuple #[.agg SA, .int .i64 141]) (results_cellt Tryd.results60 _ _ (w.heap.size + 1) _ SA (0, 0) _ rfl (setRow_heap _ _ _ _ _ _ HM0.out.res) Tryd.underlying80 rfl HZ.out.1) rfl (by first | exact ⟨SA, ⟨HSA.out, rfl⟩, below_setRow HM0.out.bl (by omega) _⟩ | exact ⟨by rw [HSA.out], below_setRow HM0.out.bl (by omega) _⟩)
      · have h3I : ¬ (3 : Int) < (seat : Int) := by omega
        have hs4 : (seat : Int) < 4 := by omega
        have HH := HHH.out seat (by omega)
        have ch : w1.cell? ⟨w.heap.size, seat, none⟩ = some (.int .u64 (s.h seat : Int)) := by rw [HM0.out.row.cell, st_hget s seat (by omega)]
        generalize s.h seat = hh at *
        cases hb : hh.testBit c
        · rw [hb] at HH
          rw [if_pos (.inr hb)] at he
          obtain ⟨rfl, rfl⟩ := Prod.mk.inj he
          have HH := Lib.hid HH
          clear hb
          go_wp2_with (first
            | refine wpList_load_row_g rfl 80 (.tmp 3) rfl w.heap.size rfl 80 SA (0, 0) _ HRA.out Tryd.underlying80 rfl HZ.out.1 ?_
            | refine wpList_store_row rfl 80 (.tmp 6) (.tmp 28) rfl (w.heap.size + 1) SA rfl rfl 80 _ HM0.out.res HZ.out.1 (by rw [HZ.out.2.1]; rfl) HZ.out.2.2 ?_
            | (go_at_call 56; refine (HH.out _).mono ?_; rintro e w' ⟨rfl, rfl⟩))
          refine bodyPost_ret (v := .tuple #[.agg SA, .int .i64 141]) (results_cellt Tryd.results60 _ _ (w.heap.size + 1) _ SA (0, 0) _ rfl (setRow_heap _ _ _ _ _ _ HM0.out.res) Tryd.underlying80 rfl HZ.out.1) rfl (by first | exact ⟨SA, ⟨HSA.out, rfl⟩, below_setRow HM0.out.bl (by omega) _⟩ | exact ⟨by rw [HSA.out], below_setRow HM0.out.bl (by omega) _⟩)
        · rw [hb] at HH
          rw [if_neg (by rw [hb]; rintro (h | h); exact h3 h; cases h)] at he
          have HH := Lib.hid HH
          clear hb
          by_cases hse2 : seat = s.ld
          · rw [if_pos hse2] at he
            have hseI : ((seat : Int) == (s.ld : Int)) = true := by rw [beq_iff_eq]; omega
            have HPL := Lib.hid (fun (W : World) => HPL.out W he)
            clear he hse2
            go_wp2_with (first
              | refine wpList_load_row_g rfl 80 (.tmp 3) rfl w.heap.size rfl 80 SA (0, 0) _ HRA.out Tryd.underlying80 rfl HZ.out.1 ?_
              | refine wpList_store_row rfl 80 (.tmp 6) (.tmp 36) rfl (w.heap.size + 1) SB rfl rfl 80 _ (HM0.out.below hb3).res HZB.out.1 (by rw [HZB.out.2.1]; rfl) HZB.out.2.2 ?_
              | (go_at_call 63; refine (HPL.out _).mono ?_; rintro e w3 ⟨SB, ⟨hSB, rfl⟩, hb3⟩
                 have HZB : Hid ((Tryd.prog.info? 80).map (·.size) = some SB.size ∧ SB.size = 24 ∧ SB.all (·.oneCell') = true) := Lib.hid (by rw [hSB]; exact ⟨size_rst, rfl, one_cells _⟩)
                 have HSB := Lib.hid hSB
                 clear hSB)
              | (go_at_call 56; refine (HH.out _).mono ?_; rintro e w' ⟨rfl, rfl⟩))
            refine bodyPost_ret (v := .tuple #[.agg SB, .int .i64 (er : Int)]) (results_cellt Tryd.results60 _ _ (w.heap.size + 1) _ SB (0, 0) _ rfl (setRow_heap _ _ _ _ _ _ (HM0.out.below hb3).res) Tryd.underlying80 rfl HZB.out.1) rfl (by first | exact ⟨SB, ⟨HSB.out, rfl⟩, below_setRow (HM0.out.below hb3).bl (by omega) _⟩ | exact ⟨by rw [HSB.out], below_setRow (HM0.out.below hb3).bl (by omega) _⟩)
          · rw [if_neg hse2] at he
            obtain ⟨rfl, rfl⟩ := Prod.mk.inj he
            have hseI : ((seat : Int) == (s.ld : Int)) = false := by rw [beq_eq_false_iff_ne]; omega
            have d16 := HM0.out.row.cell 16
            have d17 := HM0.out.row.cell 17
            have d18 := HM0.out.row.cell 18
            simp only [List.getElem?_toArray, List.getElem?_cons_zero, List.getElem?_cons_succ] at d16 d17 d18
            have g16 := HM0.out.row.frozen 16
            have g17 := HM0.out.row.frozen 17
            have g18 := HM0.out.row.frozen 18
            have HM3 : Hid (RM w (((w1.setCell ⟨w.heap.size, 18, none⟩ (.bool true)).setCell ⟨w.heap.size, 16, none⟩ (.int .u8 (seat : Int))).setCell ⟨w.heap.size, 17, none⟩ (.int .u8 (c : Int))) { s with seat := seat, card := c, pend := true }) := Lib.hid
              (((HM0.out.set (s' := { s with pend := true }) rfl).set (s' := { s with pend := true, seat := seat }) rfl).set rfl)
            go_upto_region 8 with (go_at_call 56; refine (HH.out _).mono ?_; rintro e w' ⟨rfl, rfl⟩)
            clear d16 d17 d18 g16 g17 g18 c18 c11 c10 ch
            generalize ((w1.setCell ⟨w.heap.size, 18, none⟩ (.bool true)).setCell ⟨w.heap.size, 16, none⟩ (.int .u8 (seat : Int))).setCell ⟨w.heap.size, 17, none⟩ (.int .u8 (c : Int)) = w3 at *
            obtain ⟨SB, hSB⟩ : ∃ SB, SB = ({ s with seat := seat, card := c, pend := true } : St).cells := ⟨_, rfl⟩
            have HSB := Lib.hid hSB
            have HRB : Hid (Row w3 w.heap.size 80 SB) := Lib.hid (by rw [hSB]; exact HM3.out.row)
            have HZB : Hid ((Tryd.prog.info? 80).map (·.size) = some SB.size ∧ SB.size = 24 ∧ SB.all (·.oneCell') = true) := Lib.hid (by rw [hSB]; exact ⟨size_rst, rfl, one_cells _⟩)
            clear hSB
            go_wp2_with (first
              | refine wpList_load_row_g rfl 80 (.tmp 3) rfl w.heap.size rfl 80 SB (0, 0) _ HRB.out Tryd.underlying80 rfl HZB.out.1 ?_
              | refine wpList_store_row rfl 80 (.tmp 6) (.tmp 43) rfl (w.heap.size + 1) SB rfl rfl 80 _ HM3.out.res HZB.out.1 (by rw [HZB.out.2.1]; rfl) HZB.out.2.2 ?_)
            refine bodyPost_ret (v := .tuple #[.agg SB, .int .i64 0]) (results_cellt Tryd.results60 _ _ (w.heap.size + 1) _ SB (0, 0) _ rfl (setRow_heap _ _ _ _ _ _ HM3.out.res) Tryd.underlying80 rfl HZB.out.1) rfl (by first | exact ⟨SB, ⟨HSB.out, rfl⟩, below_setRow HM3.out.bl (by omega) _⟩ | exact ⟨by rw [HSB.out], below_setRow HM3.out.bl (by omega) _⟩)
    · have h0I : ((s.ct : Int) != 0) = true := by rw [bne_iff_ne]; omega
      rw [if_pos (by rw [Bool.false_or, bne_iff_ne]; exact h0)] at he
      obtain ⟨rfl, rfl⟩ := Prod.mk.inj he
      clear h0
      go_wp2_with (first
        | refine wpList_load_row_g rfl 80 (.tmp 3) rfl w.heap.size rfl 80 SA (0, 0) _ HRA.out Tryd.underlying80 rfl HZ.out.1 ?_
        | refine wpList_store_row rfl 80 (.tmp 6) (.tmp 15) rfl (w.heap.size + 1) SA rfl rfl 80 _ HM0.out.res HZ.out.1 (by rw [HZ.out.2.1]; rfl) HZ.out.2.2 ?_)
      refine bodyPost_ret (v := .tuple #[.agg SA, .int .i64 142]) (results_cellt Tryd.results60 _ _ (w.heap.size + 1) _ SA (0, 0) _ rfl (setRow_heap _ _ _ _ _ _ HM0.out.res) Tryd.underlying80 rfl HZ.out.1) rfl (by first | exact ⟨SA, ⟨HSA.out, rfl⟩, below_setRow HM0.out.bl (by omega) _⟩ | exact ⟨by rw [HSA.out], below_setRow HM0.out.bl (by omega) _⟩)
  · rw [hp] at c18 he
    rw [Bool.true_or, if_pos rfl] at he
    obtain ⟨rfl, rfl⟩ := Prod.mk.inj he
    clear hp
    go_wp2_with (first
      | refine wpList_load_row_g rfl 80 (.tmp 3) rfl w.heap.size rfl 80 SA (0, 0) _ HRA.out Tryd.underlying80 rfl HZ.out.1 ?_
      | refine wpList_store_row rfl 80 (.tmp 6) (.tmp 15) rfl (w.heap.size + 1) SA rfl rfl 80 _ HM0.out.res HZ.out.1 (by rw [HZ.out.2.1]; rfl) HZ.out.2.2 ?_)
    refine bodyPost_ret (v := .tuple #[.agg SA, .int .i64 142]) (results_cellt Tryd.results60 _ _ (w.heap.size + 1) _ SA (0, 0) _ rfl (setRow_heap _ _ _ _ _ _ HM0.out.res) Tryd.underlying80 rfl HZ.out.1) rfl (by first | exact ⟨SA, ⟨HSA.out, rfl⟩, below_setRow HM0.out.bl (by omega) _⟩ | exact ⟨by rw [HSA.out], below_setRow HM0.out.bl (by omega) _⟩)
end Go.Proofs.YtgnlmodaekfhfaaDoor
