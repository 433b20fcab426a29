/- RfJ, RfK, RfL in one text. -/
import Derived.Test.YtdlnilebnobllaaRfG
import Derived.Test.YtdlnilebnobllaaRfH
import Derived.Test.YtdlnilebnobllaaRfI

/- The reference of chapter 13 over this seat's program: Moved, Tricks. -/
namespace Go.Proofs.Ytdlnilebnobllaa
open Go.RowKit Go.Shelf Go.Sort

theorem side_none (d : Nat) (ws : List Nat) (l : List Rvk) : (sideV l 0 = false → (cntAll d ws l).s0 = 0) ∧ (sideV l 1 = false → (cntAll d ws l).s1 = 0) := by
  have h : ∀ s, s < 2 → sideV l s = false → ∀ v ∈ l, v.est = true → v.seat % 2 = 1 - s := by
    intro s hs hf v hv he
    unfold sideV at hf
    rw [List.any_eq_false] at hf
    have := hf v hv
    simp [he] at this
    omega
  exact ⟨fun hf => (cnt_side1 d ws l (fun v hv he => h 0 (by omega) hf v hv he)).1, fun hf => (cnt_side0 d ws l (fun v hv he => h 1 (by omega) hf v hv he)).1⟩
/-- what the reference says of a complete play -/
theorem moved_ref {r : Rc} (hE : r.rightV = (-1, 0)) (hfull : ¬ r.zs.length < 4 * pop (r.h 0)) :
    r.movedV = (sideR r.d (findAll r.rnds) (winsTo r.rnds) (r.d % 2), sideR r.d (findAll r.rnds) (winsTo r.rnds) ((r.d + 1) % 2), 0) := by
  obtain ⟨n0, n1⟩ := side_none r.d (winsTo r.rnds) (findAll r.rnds)
  have e0 := sideR_eq r.d (winsTo r.rnds) (findAll r.rnds) 0 (by omega)
  have e1 := sideR_eq r.d (winsTo r.rnds) (findAll r.rnds) 1 (by omega)
  simp only [Nat.sub_zero, Nat.sub_self, if_true, Nat.one_ne_zero, if_false] at e0 e1
  have hc : r.cntE = ((if sideV (findAll r.rnds) 0 && sideV (findAll r.rnds) 1 then (0, 0) else ((cntAll r.d (winsTo r.rnds) (findAll r.rnds)).s0, (cntAll r.d (winsTo r.rnds) (findAll r.rnds)).s1)), (wonV (winsTo r.rnds) 0 0, wonV (winsTo r.rnds) 1 0), 0) := by
    unfold Rc.cntE
    rw [hE, if_pos rfl]
    unfold Rc.cnt
    rw [if_neg hfull]
  unfold Rc.movedV
  rw [hc]
  have key : (if sideV (findAll r.rnds) 0 && sideV (findAll r.rnds) 1 then ((0, 0) : Nat × Nat) else ((cntAll r.d (winsTo r.rnds) (findAll r.rnds)).s0, (cntAll r.d (winsTo r.rnds) (findAll r.rnds)).s1)) = (sideR r.d (findAll r.rnds) (winsTo r.rnds) 0, sideR r.d (findAll r.rnds) (winsTo r.rnds) 1) := by
    rw [e0, e1]
    cases h0 : sideV (findAll r.rnds) 0 <;> cases h1 : sideV (findAll r.rnds) 1
    · simp
    · simp [n0 h0]
    · simp [n1 h1]
    · simp
  rw [key]
  simp only [if_true]
  by_cases hp : r.d % 2 = 0
  · rw [if_pos hp, hp, show (r.d + 1) % 2 = 1 by omega]
  · rw [if_neg hp, show r.d % 2 = 1 by omega, show (r.d + 1) % 2 = 0 by omega]
theorem moved_open {r : Rc} (hE : r.rightV = (-1, 0)) (hopen : r.zs.length < 4 * pop (r.h 0)) : r.movedV = (0, 0, 132) ∧ r.tricksV = (0, 0, 132) := by
  have hc : r.cntE = ((0, 0), (0, 0), 132) := by
    unfold Rc.cntE
    rw [hE, if_pos rfl]
    unfold Rc.cnt
    rw [if_pos hopen]
  unfold Rc.movedV Rc.tricksV
  rw [hc]
  simp
theorem tricks_ref {r : Rc} (hE : r.rightV = (-1, 0)) (hfull : ¬ r.zs.length < 4 * pop (r.h 0)) :
    r.tricksV = ((wonV (winsTo r.rnds) (r.d % 2) 0 : Int) - r.movedV.1 + r.movedV.2.1, (wonV (winsTo r.rnds) ((r.d + 1) % 2) 0 : Int) + r.movedV.1 - r.movedV.2.1, 0) ∧ r.movedV.2.2 = 0 := by
  have hc : r.cntE.2 = ((wonV (winsTo r.rnds) 0 0, wonV (winsTo r.rnds) 1 0), 0) := by
    unfold Rc.cntE
    rw [hE, if_pos rfl]
    unfold Rc.cnt
    rw [if_neg hfull]
  unfold Rc.tricksV Rc.movedV
  rw [hc]
  simp only [if_true]
  by_cases hp : r.d % 2 = 0
  · rw [if_pos hp, if_pos hp, hp, show (r.d + 1) % 2 = 1 by omega]
    refine ⟨?_, rfl⟩
    simp only [Prod.mk.injEq, and_true, true_and]
    omega
  · rw [if_neg hp, if_neg hp, show r.d % 2 = 1 by omega, show (r.d + 1) % 2 = 0 by omega]
    refine ⟨?_, rfl⟩
    simp only [Prod.mk.injEq, and_true, true_and]
    omega
end Go.Proofs.Ytdlnilebnobllaa

/- The reference of chapter 13 over this seat's program: Moved. -/
namespace Go.Proofs.Ytdlnilebnobllaa
open Go.RowKit Go.Shelf Go.Sort

theorem err_le (r : Rc) : r.rightV.2 ≤ 131 := by
  unfold Rc.rightV
  split
  · split <;> simp
  · simp
set_option maxHeartbeats 2000000 in
set_option maxRecDepth 100000 in
theorem rf_moved (r : Rc) (a : Option Addr) (len cap : Nat) (w : World) (hok : r.ok len cap) (hz : Byt w a len r.zs) (h60 : len ≤ 60000) :
    Calls Try.prog 28 #[r.v a len cap] w fun e w' => e = .returned (.tuple #[.int .i64 (r.movedV.1 : Int), .int .i64 (r.movedV.2.1 : Int), .int .i64 (r.movedV.2.2 : Int)]) ∧ Below w.heap.size w w' := by
  have hB0 := (Below.refl w.heap.size w).alloc (Nat.le_refl _) (.cells (r.cells a len cap) 57)
  have hR0 := Row.new w 57 (r.cells a len cap)
  have hzA : ∀ w1, Below w.heap.size w w1 → Byt w1 a len r.zs := fun w1 hb => hz.below (Nat.le_refl _) hb
  by_cases hE : r.rightV.2 = 0
  · obtain ⟨hd, hEE⟩ := right_zero hE
    have HF := Lib.hid (rf_find r a len cap _ hok (hzA _ hB0) h60 hd hEE)
    have HWI := Lib.hid (fun (w1 : World) (hb : Below w.heap.size w w1) => rf_winners r a len cap w1 hok (hzA w1 hb) h60 hd hEE)
    have hsz := rf_size (r.h 0) (hok.h 0)
    have hpk := dealt_pack hd
    rw [cnt_top (r.h 0) (fun c hb => hpk.le 0 c (by omega) hb)] at hsz
    have HSZ := Lib.hid hsz
    have hpl := cnt_le (r.h 0) 64
    have hwl : (winsTo r.rnds).length = len / 4 := by rw [wins_full hd hEE, winsK_length, hz.length]
    have hd3 := dealt_d hd
    have HBY := Lib.hid (wins_byte hok)
    have HTR := Lib.hid (fun (v : Rvk) (hv : v ∈ findAll r.rnds) (he : v.est = true) => est_trick r v hv he)
    have hfl := findAll_len r.rnds
    have hsm : sumTo r.rnds ≤ len := by rw [← hz.length]; exact good_le r
    have HLEN := Lib.hid hz.length
    have HOP := Lib.hid (fun (h : r.zs.length < 4 * pop (r.h 0)) => (moved_open hEE h).1)
    have HFU := Lib.hid (fun (h : ¬ r.zs.length < 4 * pop (r.h 0)) => moved_ref hEE h)
    unfold pop at HSZ HOP HFU
    rw [HLEN.out] at HOP HFU
    have hl60 : (findAll r.rnds).length ≤ 60000 := by omega
    clear hsz hpk hE hd hEE hfl hsm
    generalize cnt (r.h 0) 64 = pp at *
    generalize winsTo r.rnds = ws at *
    generalize findAll r.rnds = l at *
    have hwl60 : ws.length ≤ 60000 := by omega
    obtain ⟨lw, hlw⟩ : ∃ lw, lw = ws.length := ⟨_, rfl⟩
    rw [← hlw] at hwl hwl60 HTR
    have HLW := Lib.hid hlw
    have HWL := Lib.hid hwl
    clear hlw hwl
    go_enter Try.func28, Try.ntmps28
    go_wp2_with fail
    refine HF.out.mono ?_
    rintro e w1 ⟨vl, rfl, hoL, hb1⟩
    have hR1 := hR0.below (by simp) hb1
    have hB1 := hB0.trans (hb1.mono (by simp))
    have hsz0 : w.heap.size ≤ w1.heap.size := hB1.size
    have c0 := hR1.cell 0
    have c1 := hR1.cell 1
    have c2 := hR1.cell 2
    have c3 := hR1.cell 3
    have c4 := hR1.cell 4
    have c5 := hR1.cell 5
    have c6 := hR1.cell 6
    simp only [List.getElem?_toArray, List.getElem?_cons_zero, List.getElem?_cons_succ] at c0 c1 c2 c3 c4 c5 c6
    clear hb1 HF
    go_wp2_with fail
    refine (HWI.out w1 hB1).mono ?_
    rintro e w2 ⟨vw, rfl, hoW, hb2⟩
    obtain ⟨aw, cw, he, -, -, -, -, hbW⟩ := OwnU.byt hoW (by rw [← HLW.out]; omega) HBY.out
    subst he
    rw [← HLW.out] at hbW ⊢
    have hR2 := hR1.below hR1.lt hb2
    have hB2 := hB1.trans (hb2.mono hB1.size)
    have hoL2 := Owns.below hoL hb2
    clear c0 c1 c2 c3 c4 c5 c6 hb2 HWI hoL hoW hR1 hB1
    have c0 := hR2.cell 0
    have c1 := hR2.cell 1
    have c2 := hR2.cell 2
    have c3 := hR2.cell 3
    have c4 := hR2.cell 4
    have c5 := hR2.cell 5
    have c6 := hR2.cell 6
    simp only [List.getElem?_toArray, List.getElem?_cons_zero, List.getElem?_cons_succ] at c0 c1 c2 c3 c4 c5 c6
    by_cases hop : len < 4 * pp
    · have hopB : decide ((lw : Int) < (pp : Int)) = true := by rw [decide_eq_true_eq]; have := HWL.out; omega
      have hopN : decide (lw < pp) = true := by rw [decide_eq_true_eq]; have := HWL.out; omega
      have HM := Lib.hid (HOP.out hop)
      clear hop
      go_wp2_with (go_at_call 44; refine (HSZ.out _).mono ?_; rintro e w' ⟨rfl, rfl⟩)
      go_ret3
      exact ⟨by rw [HM.out]; rfl, hB2⟩
    · have hopB : decide ((lw : Int) < (pp : Int)) = false := by rw [decide_eq_false_iff_not]; have := HWL.out; omega
      have hopN : decide (lw < pp) = false := by rw [decide_eq_false_iff_not]; have := HWL.out; omega
      have HM := Lib.hid (HFU.out hop)
      clear hop
      obtain ⟨d0, hd0⟩ : ∃ d0, d0 = r.d % 2 := ⟨_, rfl⟩
      obtain ⟨d1, hd1⟩ : ∃ d1, d1 = (r.d + 1) % 2 := ⟨_, rfl⟩
      have hq0 : (r.d : Int) % 2 = (d0 : Int) := by omega
      have hq0t : (r.d : Int).tmod 2 = (d0 : Int) := by rw [Int.tmod_eq_emod_of_nonneg (by omega)]; exact hq0
      have hq1 : ((r.d : Int) + 1) % 2 = (d1 : Int) := by omega
      have hq1t : ((r.d : Int) + 1).tmod 2 = (d1 : Int) := by rw [Int.tmod_eq_emod_of_nonneg (by omega)]; exact hq1
      have hqw : IntKind.u8.wrap ((r.d : Int) + 1) = (r.d : Int) + 1 := by rw [IntKind.wrap_u8]; omega
      rw [← hd0, ← hd1] at HM
      have HSD := Lib.hid (fun (who : Nat) (wy : World) (hb : Below w2.heap.size w2 wy) => rf_side r a len cap l vl _ ws aw lw cw who wy hd3 (Owns.below hoL2 hb) (hbW.below (Nat.le_refl _) hb) hl60 hwl60 (fun v hv he => HTR.out v hv he))
      clear hd0 hd1
      have rc0 := fun dd os => cell_regrown c0 dd os
      have rc1 := fun dd os => cell_regrown c1 dd os
      have rc2 := fun dd os => cell_regrown c2 dd os
      have rc3 := fun dd os => cell_regrown c3 dd os
      have rc4 := fun dd os => cell_regrown c4 dd os
      have rc5 := fun dd os => cell_regrown c5 dd os
      have rc6 := fun dd os => cell_regrown c6 dd os
      go_wp2_with (go_at_call 44; refine (HSZ.out _).mono ?_; rintro e w' ⟨rfl, rfl⟩)
      refine wp_region_quiet_below (by kernel_rfl) (by kernel_rfl) ?_
      repeat (quiet_step ((exact Calls.regrown_of (HSD.out _ _ (below_regrown _ _ _)))))
      refine wpQuiet_nil ?_
      rintro _ ⟨p, rfl⟩
      have hb9 := below_regrown w2 p.d p.os
      generalize grow (redrawn w2 p.d) p.os = w9 at *
      have HB9 := Lib.hid (hB2.trans (hb9.mono hB2.size))
      clear rc0 rc1 rc2 rc3 rc4 rc5 rc6 hq0 hq0t hq1 hq1t hqw
      go_wp2
      go_ret3
      exact ⟨by rw [HM.out]; rfl, HB9.out⟩
  · obtain ⟨hm1, -⟩ := bad_err (r := r) (i := r.rightV.1) (e := r.rightV.2) rfl hE
    have HF := Lib.hid (rf_find_no r a len cap _ hok (hzA _ hB0) h60 hE)
    rw [hm1]
    have hle := err_le r
    clear hm1
    generalize r.rightV.2 = x at *
    have hxB : ((x : Int) != 0) = true := by rw [bne_iff_ne]; omega
    clear hE
    go_enter Try.func28, Try.ntmps28
    go_wp2_with fail
    refine HF.out.mono ?_
    rintro e w1 ⟨rfl, hb1⟩
    go_wp2
    go_ret3
    exact ⟨rfl, hB0.trans (hb1.mono (by simp))⟩
end Go.Proofs.Ytdlnilebnobllaa

/- The reference of chapter 13 over this seat's program: Tricks. -/
namespace Go.Proofs.Ytdlnilebnobllaa
open Go.RowKit Go.Shelf Go.Sort

theorem moved_err (r : Rc) : r.movedV.2.2 = r.cntE.2.2 := by
  unfold Rc.movedV
  split
  next h => rw [h]; split <;> rfl
  · rfl
theorem tricks_err {r : Rc} (h : r.movedV.2.2 ≠ 0) : r.tricksV = (0, 0, r.movedV.2.2) := by
  rw [moved_err] at h ⊢
  unfold Rc.tricksV
  rw [if_neg h]
theorem moved_full {r : Rc} (h : r.movedV.2.2 = 0) : r.dealt = true ∧ r.rightV = (-1, 0) ∧ ¬ r.zs.length < 4 * pop (r.h 0) := by
  rw [moved_err] at h
  have hE : r.rightV.2 = 0 := by
    unfold Rc.cntE at h
    by_cases h0 : r.rightV.2 = 0
    · exact h0
    · rw [if_neg h0] at h; exact h
  obtain ⟨hd, hEE⟩ := right_zero hE
  refine ⟨hd, hEE, fun hop => ?_⟩
  unfold Rc.cntE at h
  rw [if_pos hE] at h
  unfold Rc.cnt at h
  rw [if_pos hop] at h
  simp at h
theorem moved_le (r : Rc) : r.movedV.1 ≤ r.zs.length ∧ r.movedV.2.1 ≤ r.zs.length ∧ r.movedV.2.2 ≤ 132 := by
  obtain ⟨h1, h2, -, -⟩ := cnt_small r r.zs.length (Nat.le_refl _)
  have h3 : r.cntE.2.2 ≤ 132 := by
    unfold Rc.cntE
    split
    · unfold Rc.cnt
      split <;> simp
    · have := err_le r; simp; omega
  rw [moved_err]
  unfold Rc.movedV
  split
  · split <;> exact ⟨by assumption, by assumption, h3⟩
  · exact ⟨Nat.zero_le _, Nat.zero_le _, h3⟩
set_option maxHeartbeats 2000000 in
set_option maxRecDepth 100000 in
theorem rf_tricks (r : Rc) (a : Option Addr) (len cap : Nat) (w : World) (hok : r.ok len cap) (hz : Byt w a len r.zs) (h60 : len ≤ 60000) :
    Calls Try.prog 29 #[r.v a len cap] w fun e w' => e = .returned (.tuple #[.int .i64 r.tricksV.1, .int .i64 r.tricksV.2.1, .int .i64 (r.tricksV.2.2 : Int)]) ∧ Below w.heap.size w w' := by
  have hB0 := (Below.refl w.heap.size w).alloc (Nat.le_refl _) (.cells (r.cells a len cap) 57)
  have hR0 := Row.new w 57 (r.cells a len cap)
  have hzA : ∀ w1, Below w.heap.size w w1 → Byt w1 a len r.zs := fun w1 hb => hz.below (Nat.le_refl _) hb
  have HMV := Lib.hid (rf_moved r a len cap _ hok (hzA _ hB0) h60)
  by_cases hE : r.movedV.2.2 = 0
  · obtain ⟨hd, hEE, hfull⟩ := moved_full hE
    have HWI := Lib.hid (fun (w1 : World) (hb : Below w.heap.size w w1) => rf_winners r a len cap w1 hok (hzA w1 hb) h60 hd hEE)
    have hwl : (winsTo r.rnds).length = len / 4 := by rw [wins_full hd hEE, winsK_length, hz.length]
    have hd3 := dealt_d hd
    have HBY := Lib.hid (wins_byte hok)
    obtain ⟨htr, -⟩ := tricks_ref hEE hfull
    have HTR := Lib.hid htr
    obtain ⟨hm1, hm2, -⟩ := moved_le r
    have hw0 := wonV_le (winsTo r.rnds) (r.d % 2) 0
    have hw1 := wonV_le (winsTo r.rnds) ((r.d + 1) % 2) 0
    rw [hz.length] at hm1 hm2
    rw [hE] at HMV
    clear hfull hE hd hEE htr
    generalize r.movedV.1 = m1 at *
    generalize r.movedV.2.1 = m2 at *
    generalize winsTo r.rnds = ws at *
    have hwl60 : ws.length ≤ 60000 := by omega
    obtain ⟨lw, hlw⟩ : ∃ lw, lw = ws.length := ⟨_, rfl⟩
    rw [← hlw] at hwl hwl60 hw0 hw1
    have HLW := Lib.hid hlw
    clear hlw hwl
    obtain ⟨d0, hd0⟩ : ∃ d0, d0 = r.d % 2 := ⟨_, rfl⟩
    obtain ⟨d1, hd1⟩ : ∃ d1, d1 = (r.d + 1) % 2 := ⟨_, rfl⟩
    have hq0 : (r.d : Int) % 2 = (d0 : Int) := by omega
    have hq0t : (r.d : Int).tmod 2 = (d0 : Int) := by rw [Int.tmod_eq_emod_of_nonneg (by omega)]; exact hq0
    have hq1 : ((r.d : Int) + 1) % 2 = (d1 : Int) := by omega
    have hq1t : ((r.d : Int) + 1).tmod 2 = (d1 : Int) := by rw [Int.tmod_eq_emod_of_nonneg (by omega)]; exact hq1
    have hqw : IntKind.u8.wrap ((r.d : Int) + 1) = (r.d : Int) + 1 := by rw [IntKind.wrap_u8]; omega
    rw [← hd0] at hw0 HTR
    rw [← hd1] at hw1 HTR
    clear hd0 hd1
    go_enter Try.func29, Try.ntmps29
    go_wp2_with fail
    refine HMV.out.mono ?_
    rintro e w1 ⟨rfl, hb1⟩
    have hR1 := hR0.below (by simp) hb1
    have hB1 := hB0.trans (hb1.mono (by simp))
    have c0 := hR1.cell 0
    have c1 := hR1.cell 1
    have c2 := hR1.cell 2
    have c3 := hR1.cell 3
    have c4 := hR1.cell 4
    have c5 := hR1.cell 5
    have c6 := hR1.cell 6
    simp only [List.getElem?_toArray, List.getElem?_cons_zero, List.getElem?_cons_succ] at c0 c1 c2 c3 c4 c5 c6
    clear hb1 HMV
    go_wp2_with fail
    refine (HWI.out w1 hB1).mono ?_
    rintro e w2 ⟨vw, rfl, hoW, hb2⟩
    obtain ⟨aw, cw, he, -, -, -, -, hbW⟩ := OwnU.byt hoW (by rw [← HLW.out]; omega) HBY.out
    subst he
    rw [← HLW.out] at hbW ⊢
    have hR2 := hR1.below hR1.lt hb2
    have hB2 := hB1.trans (hb2.mono hB1.size)
    clear c0 c1 c2 c3 c4 c5 c6 hb2 HWI hoW hR1 hB1
    have c0 := hR2.cell 0
    have c1 := hR2.cell 1
    have c2 := hR2.cell 2
    have c3 := hR2.cell 3
    have c4 := hR2.cell 4
    have c5 := hR2.cell 5
    have c6 := hR2.cell 6
    simp only [List.getElem?_toArray, List.getElem?_cons_zero, List.getElem?_cons_succ] at c0 c1 c2 c3 c4 c5 c6
    have HWN := Lib.hid (fun (who : Nat) (wy : World) (hb : Below w2.heap.size w2 wy) => rf_won ws aw lw cw 0 who wy (hbW.below (Nat.le_refl _) hb) (by omega) hwl60)
    have rc0 := fun dd os => cell_regrown c0 dd os
    have rc1 := fun dd os => cell_regrown c1 dd os
    have rc2 := fun dd os => cell_regrown c2 dd os
    have rc3 := fun dd os => cell_regrown c3 dd os
    have rc4 := fun dd os => cell_regrown c4 dd os
    have rc5 := fun dd os => cell_regrown c5 dd os
    have rc6 := fun dd os => cell_regrown c6 dd os
    have k0 : IntKind.i64.wrap ((wonV ws d0 0 : Int) - (m1 : Int)) = (wonV ws d0 0 : Int) - (m1 : Int) := by rw [IntKind.wrap_i64]; omega
    have k1 : IntKind.i64.wrap ((wonV ws d0 0 : Int) - (m1 : Int) + (m2 : Int)) = (wonV ws d0 0 : Int) - (m1 : Int) + (m2 : Int) := by rw [IntKind.wrap_i64]; omega
    have k2 : IntKind.i64.wrap ((wonV ws d1 0 : Int) + (m1 : Int)) = (wonV ws d1 0 : Int) + (m1 : Int) := by rw [IntKind.wrap_i64]; omega
    have k3 : IntKind.i64.wrap ((wonV ws d1 0 : Int) + (m1 : Int) - (m2 : Int)) = (wonV ws d1 0 : Int) + (m1 : Int) - (m2 : Int) := by rw [IntKind.wrap_i64]; omega
    go_wp2
    refine wp_region_quiet_below (by kernel_rfl) (by kernel_rfl) ?_
    repeat (quiet_step ((exact Calls.regrown_of ((HWN.out _ _ (below_regrown _ _ _)).mono fun _ _ ⟨he, hw⟩ => ⟨he, hw ▸ Below.refl _ _⟩))))
    refine wpQuiet_nil ?_
    rintro _ ⟨p, rfl⟩
    have hb9 := below_regrown w2 p.d p.os
    generalize grow (redrawn w2 p.d) p.os = w9 at *
    have HB9 := Lib.hid (hB2.trans (hb9.mono hB2.size))
    clear rc0 rc1 rc2 rc3 rc4 rc5 rc6 hq0 hq0t hq1 hq1t hqw k0 k1 k2 k3
    go_wp2
    go_ret3
    exact ⟨by rw [HTR.out]; rfl, HB9.out⟩
  · have hm1 := tricks_err hE
    obtain ⟨-, -, hle⟩ := moved_le r
    rw [hm1]
    clear hm1
    generalize r.movedV.1 = m1 at *
    generalize r.movedV.2.1 = m2 at *
    generalize r.movedV.2.2 = x at *
    have hxB : ((x : Int) != 0) = true := by rw [bne_iff_ne]; omega
    clear hE
    go_enter Try.func29, Try.ntmps29
    go_wp2_with fail
    refine HMV.out.mono ?_
    rintro e w1 ⟨rfl, hb1⟩
    go_wp2
    go_ret3
    exact ⟨rfl, hB0.trans (hb1.mono (by simp))⟩
end Go.Proofs.Ytdlnilebnobllaa
