/- The reference of chapter 40: Both. -/
import Derived.Test.YtmkplfndbjcflaaRgF
namespace Go.Proofs.Ytmkplfndbjcflaa
open Go.RowKit Go.Sort Go.Shelf Cnt

/-- integers by their place -/
def tabI (n : Nat) (f : Nat → Int) : Array Value := ((List.range n).map fun i => Value.int .i64 (f i)).toArray
theorem tabI_size (n : Nat) (f : Nat → Int) : (tabI n f).size = n := by simp [tabI]
theorem tabI_get (n : Nat) (f : Nat → Int) (i : Nat) (h : i < n) : (tabI n f)[i]? = some (.int .i64 (f i)) := by
  simp [tabI, List.getElem?_range h]
theorem tabI_congr {n : Nat} {f g : Nat → Int} (h : ∀ i, i < n → f i = g i) : tabI n f = tabI n g := by
  unfold tabI
  congr 1
  refine List.map_congr_left fun i hi => ?_
  rw [h i (List.mem_range.1 hi)]
def putF (f : Nat → Int) (i : Nat) (v : Int) : Nat → Int := fun j => if j = i then v else f j
theorem tabI_set (n : Nat) (f : Nat → Int) (i : Nat) (v : Int) : (tabI n f).setIfInBounds i (.int .i64 v) = tabI n (putF f i v) := by
  apply Array.ext_getElem?
  intro j
  rw [Array.getElem?_setIfInBounds]
  by_cases hj : j < n
  · rw [tabI_get n (putF f i v) j hj]
    by_cases e : i = j
    · subst e
      simp [putF, tabI_size, hj]
    · have e' : ¬ j = i := fun h => e h.symm
      rw [if_neg e, tabI_get n f j hj]
      simp [putF, e']
  · have h1 : (tabI n f)[j]? = none := Array.getElem?_eq_none (by rw [tabI_size]; omega)
    have h2 : (tabI n (putF f i v))[j]? = none := Array.getElem?_eq_none (by rw [tabI_size]; omega)
    rw [h1, h2, tabI_size]
    split
    · rw [if_neg (by omega)]
    · rfl
theorem tabI_one (n : Nat) (f : Nat → Int) : (tabI n f).all (·.oneCell') = true := by
  simp [tabI, Value.oneCell']
theorem arr_tabI (r : Rg) : r.arr = tabI 10 r.cell := rfl
/-- the first m numbers joined -/
def jf (r q : Rg) (m : Nat) : Nat → Int := fun j => if j < m then (r.join q).cell j else r.cell j
theorem join_cell (r q : Rg) (m : Nat) (h : m < 10) : (r.join q).cell m = if m % 2 = 0 then mx (r.cell m) (q.cell m) else mn (r.cell m) (q.cell m) := by
  rcases (show m = 0 ∨ m = 1 ∨ m = 2 ∨ m = 3 ∨ m = 4 ∨ m = 5 ∨ m = 6 ∨ m = 7 ∨ m = 8 ∨ m = 9 by omega) with rfl | rfl | rfl | rfl | rfl | rfl | rfl | rfl | rfl | rfl <;> rfl
theorem jf_zero (r q : Rg) : jf r q 0 = r.cell := funext fun j => by simp [jf]
theorem jf_all (r q : Rg) : tabI 10 (jf r q 10) = (r.join q).arr := by
  rw [arr_tabI]
  exact tabI_congr fun i hi => by unfold jf; rw [if_pos hi]
theorem jf_at (r q : Rg) (m : Nat) : jf r q m m = r.cell m := by unfold jf; rw [if_neg (by omega)]
theorem jf_put (r q : Rg) (m : Nat) : tabI 10 (putF (jf r q m) m ((r.join q).cell m)) = tabI 10 (jf r q (m + 1)) := tabI_congr fun i _ => by
  unfold putF jf
  by_cases e : i = m
  · rw [if_pos e, if_pos (by omega), e]
  · rw [if_neg e]
    by_cases h1 : i < m
    · rw [if_pos h1, if_pos (by omega)]
    · rw [if_neg h1, if_neg (by omega)]
theorem jf_keep (r q : Rg) (m : Nat) (h : (r.join q).cell m = r.cell m) : tabI 10 (jf r q m) = tabI 10 (jf r q (m + 1)) := tabI_congr fun i _ => by
  unfold jf
  by_cases e : i = m
  · rw [e, if_neg (by omega), if_pos (by omega), h]
  · by_cases h1 : i < m
    · rw [if_pos h1, if_pos (by omega)]
    · rw [if_neg h1, if_neg (by omega)]
/-- between two steps of Both -/
structure QW (w : World) (b9 : Nat) (v : Value) (l : List Rg) (f : Nat → Int) (W : World) : Prop where
  below : Below w.heap.size w W
  own : OwnT W w.heap.size v l
  row : Row W b9 56 (tabI 10 f)
  ne : ∀ g, v.ownBlock = some g → g ≠ b9
  lo : w.heap.size ≤ b9
theorem QW.later {w : World} {b9 : Nat} {v : Value} {l : List Rg} {f : Nat → Int} {W W' : World} (h : QW w b9 v l f W) (hb : Below W.heap.size W W') : QW w b9 v l f W' :=
  ⟨h.below.trans (hb.mono h.below.size), h.own.below hb, h.row.later hb, h.ne, h.lo⟩
theorem QW.set {w : World} {b9 : Nat} {v : Value} {l : List Rg} {f : Nat → Int} {W : World} (h : QW w b9 v l f W) (m : Nat) (x : Int) : QW w b9 v l (putF f m x) (W.setCell ⟨b9, m, none⟩ (.int .i64 x)) := by
  refine ⟨h.below.setCell (p := ⟨b9, m, none⟩) h.lo _, ?_, ?_, h.ne, h.lo⟩
  · refine h.own.kept (row := some b9) ⟨rfl, rfl, rfl, by simp [World.setCell], fun k _ hk => ?_⟩ (.inl fun e => h.ne b9 e.symm rfl)
    unfold World.setCell
    rw [Array.getElem?_modify, if_neg (fun e => hk (congrArg some e.symm))]
  · have := h.row.set m (.int .i64 x)
    rwa [tabI_set] at this
theorem QW.same {w : World} {b9 : Nat} {v : Value} {l : List Rg} {f g : Nat → Int} {W : World} (h : QW w b9 v l f W) (e : tabI 10 f = tabI 10 g) : QW w b9 v l g W :=
  ⟨h.below, h.own, by rw [← e]; exact h.row, h.ne, h.lo⟩
/-- one step: place m, either way -/
theorem QW.step {w : World} {b9 : Nat} {v : Value} {l : List Rg} {r q : Rg} {m : Nat} {W : World} (h : QW w b9 v l (jf r q m) W) (hc : (r.join q).cell m = q.cell m) : QW w b9 v l (jf r q (m + 1)) (W.setCell ⟨b9, m, none⟩ (.int .i64 (q.cell m))) := by
  have := h.set m (q.cell m)
  rw [← hc] at this
  rw [← hc]
  exact this.same (jf_put r q m)
theorem QW.stay {w : World} {b9 : Nat} {v : Value} {l : List Rg} {r q : Rg} {m : Nat} {W : World} (h : QW w b9 v l (jf r q m) W) (hc : (r.join q).cell m = r.cell m) : QW w b9 v l (jf r q (m + 1)) W := h.same (jf_keep r q m hc)
theorem size56 : (Try.prog.info? 56).map (·.size) = some 10 := by kernel_rfl
theorem mx_pos {x y : Int} (h : x < y) : mx x y = y := by unfold mx; rw [if_pos h]
theorem mx_neg {x y : Int} (h : ¬ x < y) : mx x y = x := by unfold mx; rw [if_neg h]
theorem mn_pos {x y : Int} (h : y < x) : mn x y = y := by unfold mn; rw [if_pos h]
theorem mn_neg {x y : Int} (h : ¬ y < x) : mn x y = x := by unfold mn; rw [if_neg h]

set_option maxHeartbeats 4000000 in
set_option maxRecDepth 5000 in
theorem rf_Both_yes (a b : Option Addr) (la ca lb cb : Nat) (ra rb : List Rg) (w : World) (ha : Rgs w a la ra) (hb : Rgs w b lb rb) (oka : rightV ra = true) (okb : rightV rb = true) :
    Calls Try.prog 21 #[.slice a la ca, .slice b lb cb] w fun e w' =>
      (if (bothL ra rb).length ≤ 20 then ∃ v, e = .returned (.tuple #[v, .int .i64 0]) ∧ OwnT w' w.heap.size v (bothL ra rb) else e = .returned (.tuple #[.slice none 0 0, .int .i64 5])) ∧ Below w.heap.size w w' := by
  have hla : la ≤ 20 := by have := ha.length; simp [rightV] at oka; omega
  have hlb : lb ≤ 20 := by have := hb.length; simp [rightV] at okb; omega
  have HA := Lib.hid ha
  have HB := Lib.hid hb
  have HLA := Lib.hid hla
  have HLB := Lib.hid hlb
  have HKA := Lib.hid oka
  have HKB := Lib.hid okb
  clear ha hb oka okb hla hlb
  go_enter Try.func21, Try.ntmps21
  go_wp2_with fail
  refine (rf_Right a la ca ra _ HA.out).mono ?_
  rintro e w3 ⟨rfl, hb3⟩
  have HB3 := Lib.hid hb3
  clear hb3
  rw [HKA.out]
  go_wp2_with fail
  refine (rf_Right b lb cb rb _ (HB.out.below (Nat.le_refl _) HB3.out)).mono ?_
  rintro e w4 ⟨rfl, hb4⟩
  have HB4 := Lib.hid (HB3.out.trans (hb4.mono HB3.out.size))
  clear hb4
  rw [HKB.out]
  go_wp2_with fail
  go_loopw [6, 7] (fun v i wr => ∃ (k : Nat), k ≤ la ∧ i = .int .i64 (k : Int) ∧ Below w.heap.size w wr ∧ OwnT wr w.heap.size v (bothL (ra.take k) rb)) (fun _ i _ => la - (intOf i).toNat)
  case atStart => exact ⟨0, by omega, rfl, HB4.out, Owns.nil encR_len _ _⟩
  case round =>
    obtain ⟨k, hk, rfl, hB, hO⟩ := hrel
    by_cases hlt : k < la
    · obtain ⟨ba, offa, r, rfl, -, hr, -⟩ := HA.out.ten hlt
      have hk20 : k < 20 := by have := HLA.out; omega
      have hd : decide ((k : Int) < (la : Int)) = true := by simp; omega
      have HRK := Lib.hid hr
      have HB' := Lib.hid hB
      have HO := Lib.hid hO
      clear hr hB hO
      go_wp2_with fail
      go_loopw [6, 8] (fun v i wr => ∃ (j : Nat), j ≤ lb ∧ i = .int .i64 (j : Int) ∧ Below w.heap.size w wr ∧ OwnT wr w.heap.size v (bothL (ra.take k) rb ++ bothR (rb.take j) r)) (fun _ i _ => lb - (intOf i).toNat)
      case atStart => exact ⟨0, by omega, rfl, HB'.out, by have := HO.out; simpa [bothR] using this⟩
      case round =>
        clear HB' HO
        obtain ⟨j, hj, rfl, hB, hO⟩ := hrel
        by_cases hjl : j < lb
        · obtain ⟨bb, offb, q, rfl, -, hq, -⟩ := HB.out.ten hjl
          obtain ⟨ba', offa', r', e', -, hr', c0, c1, c2, c3, c4, c5, c6, c7, c8, c9⟩ := (HA.out.below (Nat.le_refl _) hB).ten hlt
          obtain ⟨rfl, rfl⟩ : ba = ba' ∧ offa = offa' := by simpa using e'
          obtain rfl : r = r' := by have h := HRK.out; rw [h] at hr'; exact Option.some.inj hr'
          have hj20 : j < 20 := by have := HLB.out; omega
          have hd2 : decide ((j : Int) < (lb : Int)) = true := by simp; omega
          have hji : (j : Int) < (lb : Int) := by omega
          have HQ := Lib.hid hq
          have HBB := Lib.hid hB
          have HO := Lib.hid hO
          have HC : Hid (∀ W, Below w.heap.size w W → ∀ m, m < 10 → W.cell? ⟨bb, offb + j * 10 + m, none⟩ = some (.int .i64 (q.cell m))) := Lib.hid fun W hW m hm => by
            rcases (HB.out.below (Nat.le_refl _) hW).cells with h0 | ⟨b', off', e, _, hc⟩
            · omega
            · obtain ⟨rfl, rfl⟩ : bb = b' ∧ offb = off' := by simpa using e
              exact hc j q HQ.out m hm
          clear hq hB hO e' hr'
          go_upto_region 11 with fail
          have hI : QW w wr.heap.size u6 (bothL (ra.take k) rb ++ bothR (rb.take j) r) (jf r q 0) (wr.alloc (.cells r.arr 56)) := by
            refine ⟨HBB.out.alloc HBB.out.size _, HO.out.alloc _, ?_, fun g hg => by have := (World.ownsRow.lt HO.out.2 g hg).2; omega, HBB.out.size⟩
            rw [jf_zero, ← arr_tabI]
            exact Row.new _ _ _
          generalize wr.heap.size = b9 at *
          generalize wr.alloc (.cells r.arr 56) = W0 at *
          have HI := Lib.hid hI
          clear hI c0 c1 c2 c3 c4 c5 c6 c7 c8 c9
          have x0 := HC.out _ HI.out.below 0 (by decide)
          have x1 := (HI.out.row.cell 0).trans (tabI_get 10 _ 0 (by decide))
          rw [jf_at] at x1
          simp only [Nat.add_zero] at x0
          obtain ⟨rc, HR⟩ : ∃ x, Hid (r.cell 0 = x) := ⟨_, Lib.hid rfl⟩
          obtain ⟨qc, HQC⟩ : ∃ x, Hid (q.cell 0 = x) := ⟨_, Lib.hid rfl⟩
          rw [HR.out] at x1
          rw [HQC.out] at x0
          have y0 := fun dd os => cell_regrown x0 dd os
          have y1 := fun dd os => cell_regrown x1 dd os
          refine wp_region_quiet_below (by kernel_rfl) (by kernel_rfl) ?_
          repeat (first | go_big_quiet_step (fail) | quiet_step (fail))
          refine wpQuiet_nil ?_
          rintro _ ⟨pp, rfl⟩
          have HI1 := Lib.hid (HI.out.later (below_regrown W0 pp.d pp.os))
          generalize grow (redrawn W0 pp.d) pp.os = W1 at *
          clear x0 x1 y0 y1
          go_upto_if 44 with fail
          go_cut [] from 25 to 132 (fun wx => QW w b9 u6 (bothL (ra.take k) rb ++ bothR (rb.take j) r) (jf r q 1) wx)
          case first =>
            have hj := join_cell r q 0 (by decide)
            rw [if_pos (by decide), HR.out, HQC.out] at hj
            by_cases h0 : rc < qc
            · have e0 : decide (rc < qc) = true := decide_eq_true h0
              have HS := Lib.hid (HI1.out.step (m := 0) (by rw [hj, mx_pos h0, HQC.out]))
              rw [HQC.out] at HS
              have x0 := HC.out _ HI1.out.below 0 (by decide)
              rw [HQC.out] at x0
              simp only [Nat.add_zero] at x0
              have f0 := HI1.out.row.frozen (0)
              have x1 := (HI1.out.row.cell 0).trans (tabI_get 10 _ 0 (by decide))
              clear hj
              go_wp2_with fail
              go_meet
              exact HS.out
            · have e0 : decide (rc < qc) = false := decide_eq_false h0
              have HS := Lib.hid (HI1.out.stay (m := 0) (by rw [hj, mx_neg h0, HR.out]))
              clear hj
              go_wp2_with fail
              go_meet
              exact HS.out
          have HI2 := Lib.hid hcut
          clear hcut HR HQC HI HI1
          go_upto_region 13 with fail
          have x0 := HC.out _ HI2.out.below 1 (by decide)
          have x1 := (HI2.out.row.cell 1).trans (tabI_get 10 _ 1 (by decide))
          rw [jf_at] at x1
          obtain ⟨rc, HR⟩ : ∃ x, Hid (r.cell 1 = x) := ⟨_, Lib.hid rfl⟩
          obtain ⟨qc, HQC⟩ : ∃ x, Hid (q.cell 1 = x) := ⟨_, Lib.hid rfl⟩
          rw [HR.out] at x1
          rw [HQC.out] at x0
          have y0 := fun dd os => cell_regrown x0 dd os
          have y1 := fun dd os => cell_regrown x1 dd os
          refine wp_region_quiet_below (by kernel_rfl) (by kernel_rfl) ?_
          repeat (first | go_big_quiet_step (fail) | quiet_step (fail))
          refine wpQuiet_nil ?_
          rintro _ ⟨pp, rfl⟩
          have HI3 := Lib.hid (HI2.out.later (below_regrown wc pp.d pp.os))
          generalize grow (redrawn wc pp.d) pp.os = W3 at *
          clear x0 x1 y0 y1
          go_upto_if 62 with fail
          go_cut [] from 25 to 132 (fun wx => QW w b9 u6 (bothL (ra.take k) rb ++ bothR (rb.take j) r) (jf r q 2) wx)
          case first =>
            have hj := join_cell r q 1 (by decide)
            rw [if_neg (by decide), HR.out, HQC.out] at hj
            by_cases h0 : qc < rc
            · have e0 : decide (qc < rc) = true := decide_eq_true h0
              have HS := Lib.hid (HI3.out.step (m := 1) (by rw [hj, mn_pos h0, HQC.out]))
              rw [HQC.out] at HS
              have x0 := HC.out _ HI3.out.below 1 (by decide)
              rw [HQC.out] at x0
              have f0 := HI3.out.row.frozen (1)
              have x1 := (HI3.out.row.cell 1).trans (tabI_get 10 _ 1 (by decide))
              clear hj
              go_wp2_with fail
              go_meet
              exact HS.out
            · have e0 : decide (qc < rc) = false := decide_eq_false h0
              have HS := Lib.hid (HI3.out.stay (m := 1) (by rw [hj, mn_neg h0, HR.out]))
              clear hj
              go_wp2_with fail
              go_meet
              exact HS.out
          have HI4 := Lib.hid hcut
          clear hcut HR HQC HI2 HI3
          go_wp2_with fail
          go_loopw [10] (fun i wr => ∃ (s : Nat), s ≤ 4 ∧ i = .int .i64 (s : Int) ∧ QW w b9 u6 (bothL (ra.take k) rb ++ bothR (rb.take j) r) (jf r q (2 + s * 2)) wr) (fun i _ => 4 - (intOf i).toNat)
          case atStart => exact ⟨0, by omega, rfl, HI4.out⟩
          case round =>
            clear HI4
            obtain ⟨s, hs, rfl, hW⟩ := hrel
            have HW := Lib.hid hW
            clear hW
            by_cases hls : s < 4
            · have hds : decide ((s : Int) < 4) = true := by simp; omega
              have hsi : (s : Int) < 4 := by omega
              go_upto_region 18 with fail
              have x0 := HC.out _ HW.out.below (2 + s * 2) (by omega)
              have x1 := (HW.out.row.cell (2 + s * 2)).trans (tabI_get 10 _ (2 + s * 2) (by omega))
              rw [jf_at] at x1
              rw [show offb + j * 10 + (2 + s * 2) = offb + j * 10 + 2 + s * 2 by omega] at x0
              obtain ⟨rc, HR⟩ : ∃ x, Hid (r.cell (2 + s * 2) = x) := ⟨_, Lib.hid rfl⟩
              obtain ⟨qc, HQC⟩ : ∃ x, Hid (q.cell (2 + s * 2) = x) := ⟨_, Lib.hid rfl⟩
              rw [HR.out] at x1
              rw [HQC.out] at x0
              have y0 := fun dd os => cell_regrown x0 dd os
              have y1 := fun dd os => cell_regrown x1 dd os
              refine wp_region_quiet_below (by kernel_rfl) (by kernel_rfl) ?_
              repeat (first | go_big_quiet_step (fail) | quiet_step (fail))
              refine wpQuiet_nil ?_
              rintro _ ⟨pp, rfl⟩
              have HA1 := Lib.hid (HW.out.later (below_regrown wr pp.d pp.os))
              generalize grow (redrawn wr pp.d) pp.os = WA1 at *
              clear x0 x1 y0 y1
              go_upto_if 88 with fail
              go_cut [] from 71 to 126 (fun wx => QW w b9 u6 (bothL (ra.take k) rb ++ bothR (rb.take j) r) (jf r q (2 + s * 2 + 1)) wx)
              case first =>
                have hj := join_cell r q (2 + s * 2) (by omega)
                rw [if_pos (by omega), HR.out, HQC.out] at hj
                by_cases h0 : rc < qc
                · have e0 : decide (rc < qc) = true := decide_eq_true h0
                  have x0 := HC.out _ HA1.out.below (2 + s * 2) (by omega)
                  rw [show offb + j * 10 + (2 + s * 2) = offb + j * 10 + 2 + s * 2 by omega] at x0
                  rw [HQC.out] at x0
                  have y0 := fun dd os => cell_regrown x0 dd os
                  have HJ := Lib.hid hj
                  clear hj
                  go_wp2_with fail
                  refine wp_region_below_tail 12 (by kernel_rfl) (by kernel_rfl) ?_
                  simp only [List.take_succ_cons, List.take_zero, List.drop_succ_cons, List.drop_zero]
                  repeat (first | go_big_quiet_step (fail) | quiet_step (fail))
                  refine wpQuiet_nil ?_
                  rintro _ ⟨pq, rfl⟩
                  have HT := Lib.hid (HA1.out.later (below_regrown WA1 pq.d pq.os))
                  generalize grow (redrawn WA1 pq.d) pq.os = WT at *
                  have HS := Lib.hid (HT.out.step (m := 2 + s * 2) (by rw [HJ.out, mx_pos h0, HQC.out]))
                  rw [HQC.out] at HS
                  have f0 := HT.out.row.frozen (2 + s * 2)
                  have x1 := (HT.out.row.cell (2 + s * 2)).trans (tabI_get 10 _ (2 + s * 2) (by omega))
                  clear x0 y0
                  go_wp2_with fail
                  go_meet
                  exact HS.out
                · have e0 : decide (rc < qc) = false := decide_eq_false h0
                  have HS := Lib.hid (HA1.out.stay (m := 2 + s * 2) (by rw [hj, mx_neg h0, HR.out]))
                  clear hj
                  go_wp2_with fail
                  go_meet
                  exact HS.out
              have HW1 := Lib.hid hcut
              clear hcut HR HQC HA1
              go_upto_region 20 with fail
              have x0 := HC.out _ HW1.out.below (2 + s * 2 + 1) (by omega)
              have x1 := (HW1.out.row.cell (2 + s * 2 + 1)).trans (tabI_get 10 _ (2 + s * 2 + 1) (by omega))
              rw [jf_at] at x1
              rw [show offb + j * 10 + (2 + s * 2 + 1) = offb + j * 10 + 2 + s * 2 + 1 by omega] at x0
              obtain ⟨rc, HR⟩ : ∃ x, Hid (r.cell (2 + s * 2 + 1) = x) := ⟨_, Lib.hid rfl⟩
              obtain ⟨qc, HQC⟩ : ∃ x, Hid (q.cell (2 + s * 2 + 1) = x) := ⟨_, Lib.hid rfl⟩
              rw [HR.out] at x1
              rw [HQC.out] at x0
              have y0 := fun dd os => cell_regrown x0 dd os
              have y1 := fun dd os => cell_regrown x1 dd os
              refine wp_region_quiet_below (by kernel_rfl) (by kernel_rfl) ?_
              repeat (first | go_big_quiet_step (fail) | quiet_step (fail))
              refine wpQuiet_nil ?_
              rintro _ ⟨pp, rfl⟩
              have HA2 := Lib.hid (HW1.out.later (below_regrown wc pp.d pp.os))
              generalize grow (redrawn wc pp.d) pp.os = WA2 at *
              clear x0 x1 y0 y1
              go_upto_if 114 with fail
              have hj := join_cell r q (2 + s * 2 + 1) (by omega)
              rw [if_neg (by omega), HR.out, HQC.out] at hj
              by_cases h0 : qc < rc
              · have e0 : decide (qc < rc) = true := decide_eq_true h0
                have x0 := HC.out _ HA2.out.below (2 + s * 2 + 1) (by omega)
                rw [show offb + j * 10 + (2 + s * 2 + 1) = offb + j * 10 + 2 + s * 2 + 1 by omega] at x0
                rw [HQC.out] at x0
                have y0 := fun dd os => cell_regrown x0 dd os
                have HJ := Lib.hid hj
                clear hj
                go_wp2_with fail
                refine wp_region_below_tail 12 (by kernel_rfl) (by kernel_rfl) ?_
                simp only [List.take_succ_cons, List.take_zero, List.drop_succ_cons, List.drop_zero]
                repeat (first | go_big_quiet_step (fail) | quiet_step (fail))
                refine wpQuiet_nil ?_
                rintro _ ⟨pq, rfl⟩
                have HT := Lib.hid (HA2.out.later (below_regrown WA2 pq.d pq.os))
                generalize grow (redrawn WA2 pq.d) pq.os = WT at *
                have HS := Lib.hid (HT.out.step (m := 2 + s * 2 + 1) (by rw [HJ.out, mn_pos h0, HQC.out]))
                rw [HQC.out] at HS
                have f0 := HT.out.row.frozen (2 + s * 2 + 1)
                have x1 := (HT.out.row.cell (2 + s * 2 + 1)).trans (tabI_get 10 _ (2 + s * 2 + 1) (by omega))
                clear x0 y0
                go_wp2_with fail
                exact ⟨⟨s + 1, by omega, by simp, by rw [show 2 + (s + 1) * 2 = 2 + s * 2 + 1 + 1 by omega]; exact HS.out⟩, by simp [intOf]; omega⟩
              · have e0 : decide (qc < rc) = false := decide_eq_false h0
                have HS := Lib.hid (HA2.out.stay (m := 2 + s * 2 + 1) (by rw [hj, mn_neg h0, HR.out]))
                clear hj
                go_wp2_with fail
                exact ⟨⟨s + 1, by omega, by simp, by rw [show 2 + (s + 1) * 2 = 2 + s * 2 + 1 + 1 by omega]; exact HS.out⟩, by simp [intOf]; omega⟩
            · obtain rfl : s = 4 := by omega
              simp only [show ((4 : Nat) : Int) = 4 from rfl]
              have HK : Hid (QW w b9 u6 (bothL (ra.take k) rb ++ bothR (rb.take j) r) (r.join q).cell wr) := Lib.hid (HW.out.same (by rw [← arr_tabI, ← jf_all]))
              have HROW : Hid (Row wr b9 56 (r.join q).arr) := Lib.hid (by rw [arr_tabI]; exact HK.out.row)
              have HN := Lib.hid (bothR_take_succ (r := r) HQ.out)
              clear HW
              go_wp2_with (refine wpList_load_row rfl 56 (.tmp 9) rfl b9 rfl 56 (r.join q).arr (0, 0) _ HROW.out Try.underlying56 rfl (by rw [size56]; rfl) ?_)
              refine (rf_fine (r.join q) _).mono ?_
              rintro e w6 ⟨rfl, hb6⟩
              have HK6 := Lib.hid (HK.out.later hb6)
              have HR6 := Lib.hid (HROW.out.later hb6)
              clear hb6 HROW
              cases hok : (r.join q).ok
              · rw [hok] at HN
                clear hok
                go_wp2_with fail
                exact ⟨⟨j + 1, by omega, by simp, HK6.out.below, by rw [HN.out]; simpa using HK6.out.own⟩, by simp [intOf]; omega⟩
              · rw [hok] at HN
                clear hok
                generalize hx : r.join q = x at *
                clear hx
                have hl1 : (bothL (ra.take k) rb ++ bothR (rb.take j) r).length + 1 ≤ 100000 := by
                  have h1 := bothL_len (ra.take k) rb
                  have h2 := bothR_len (rb.take j) r
                  have h3 := HB.out.length
                  have h4 := HLB.out
                  have h5 := HLA.out
                  have h6 : (ra.take k).length * rb.length ≤ 20 * 20 := Nat.mul_le_mul (by rw [List.length_take]; omega) (by omega)
                  have h7 : (rb.take j).length ≤ 20 := by rw [List.length_take]; omega
                  rw [List.length_append]
                  omega
                have HL1 := Lib.hid hl1
                clear hl1
                have HOW := Lib.hid (HK6.out.own.alloc (.cells x.arr 56))
                have HBW := Lib.hid (HK6.out.below.alloc HK6.out.below.size (.cells x.arr 56))
                have HBS := Lib.hid HBW.out.size
                go_wp2_with (first
                  | refine wpList_load_row rfl 56 (.tmp 9) rfl b9 rfl 56 x.arr (0, 0) _ HR6.out Try.underlying56 rfl (by rw [size56]; rfl) ?_
                  | (refine appT rfl (.tmp 129) (.tmp 131) rfl w.heap.size u6 (bothL (ra.take k) rb ++ bothR (rb.take j) r) [x] rfl HOW.out ⟨w6.heap.size, 0, none⟩ 1 1 rfl (rgs_newT w6 x 56) HL1.out HBS.out ?_; intro v' w7 h1 h2 h3 h4; have HB7 := Lib.hid (HBW.out.trans h2); have HO7 := Lib.hid h1; clear h1 h2 h3 h4))
                exact ⟨⟨j + 1, by omega, by simp, HB7.out, by rw [HN.out, if_pos trivial, ← List.append_assoc]; exact HO7.out⟩, by simp [intOf]; omega⟩
        · obtain rfl : j = lb := by omega
          have hd2 : decide ((j : Int) < (j : Int)) = false := by simp
          have HBB := Lib.hid hB
          have HN := Lib.hid (bothL_take_succ (rb := rb) HRK.out)
          have HO2 : Hid (OwnT wr w.heap.size u6 (bothL (ra.take (k + 1)) rb)) := Lib.hid (by
            rw [HN.out]
            have h := hO
            rwa [List.take_of_length_le (l := rb) (i := j) (by have := HB.out.length; omega)] at h)
          clear hB hO
          go_wp2_with fail
          exact ⟨⟨k + 1, by omega, by simp, HBB.out, HO2.out⟩, by simp [intOf]; omega⟩
    · obtain rfl : k = la := by omega
      have hd : decide ((k : Int) < (k : Int)) = false := by simp
      have HBB := Lib.hid hB
      have HO2 : Hid (OwnT wr w.heap.size u6 (bothL ra rb)) := Lib.hid (by
        have h := hO
        rwa [List.take_of_length_le (l := ra) (i := k) (by have := HA.out.length; omega)] at h)
      have hln : (bothL ra rb).length ≤ 400 := by
        have h1 := bothL_len ra rb
        have h2 : ra.length * rb.length ≤ 20 * 20 := Nat.mul_le_mul (by have := HA.out.length; have := HLA.out; omega) (by have := HB.out.length; have := HLB.out; omega)
        omega
      clear hB hO
      obtain ⟨ao, cap, rfl, -⟩ := HO2.out.slice
      have HL4 := Lib.hid hln
      clear hln
      by_cases h20 : (bothL ra rb).length ≤ 20
      · have d20 : decide ((20 : Int) < ((bothL ra rb).length : Int)) = false := by simp; omega
        have H20 := Lib.hid h20
        clear h20
        go_wp2_with fail
        go_ret2
        refine ⟨?_, HBB.out⟩
        exact ⟨_, rfl, HO2.out⟩
      · have d20 : decide ((20 : Int) < ((bothL ra rb).length : Int)) = true := by simp; omega
        have H20 := Lib.hid h20
        clear h20
        go_wp2_with fail
        go_ret2
        refine ⟨?_, HBB.out⟩
        rfl
theorem rf_Both_no (a b : Option Addr) (la ca lb cb : Nat) (ra rb : List Rg) (w : World) (ha : Rgs w a la ra) (hb : Rgs w b lb rb) (hno : (rightV ra && rightV rb) = false) :
    Calls Try.prog 21 #[.slice a la ca, .slice b lb cb] w fun e w' => e = .returned (.tuple #[.slice none 0 0, .int .i64 2]) ∧ Below w.heap.size w w' := by
  have HA := Lib.hid ha
  have HB := Lib.hid hb
  clear ha hb
  rcases hr : rightV ra with _ | _
  · go_enter Try.func21, Try.ntmps21
    go_wp2_with fail
    refine (rf_Right a la ca ra _ HA.out).mono ?_
    rintro e w1 ⟨rfl, hb1⟩
    rw [hr]
    have HB1 := Lib.hid hb1
    clear hb1
    go_wp2_with fail
    go_ret2
    exact ⟨rfl, HB1.out⟩
  · have hr2 : rightV rb = false := by rw [hr] at hno; simpa using hno
    have HR := Lib.hid hr
    have HR2 := Lib.hid hr2
    clear hno hr2 hr
    go_enter Try.func21, Try.ntmps21
    go_wp2_with fail
    refine (rf_Right a la ca ra _ HA.out).mono ?_
    rintro e w1 ⟨rfl, hb1⟩
    rw [HR.out]
    have HB1 := Lib.hid hb1
    clear hb1
    go_wp2_with fail
    refine (rf_Right b lb cb rb _ (HB.out.below (Nat.le_refl _) HB1.out)).mono ?_
    rintro e w2 ⟨rfl, hb2⟩
    rw [HR2.out]
    have HB2 := Lib.hid (HB1.out.trans (hb2.mono HB1.out.size))
    clear hb2
    go_wp2_with fail
    go_ret2
    exact ⟨rfl, HB2.out⟩
end Go.Proofs.Ytmkplfndbjcflaa
