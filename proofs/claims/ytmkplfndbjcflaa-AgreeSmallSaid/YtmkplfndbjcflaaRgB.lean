/- The reference of chapter 40: in, Fits. -/
import Derived.Test.YtmkplfndbjcflaaRgA
import Derived.BigQuiet
import Derived.Deep.CutRange
namespace Go.Proofs.Ytmkplfndbjcflaa
open Go.RowKit Go.Sort Go.Shelf Cnt

/-- in, range by range, suit by suit -/
def inTo (r : Rg) (p : Nat) (l : Nat → Nat) : Nat → Bool
  | 0 => wthn (p : Int) r.p0 r.p1
  | k + 1 => inTo r p l k && wthn (l k) (r.lo k) (r.hi k)
theorem inTo_four (r : Rg) (p : Nat) (l : Nat → Nat) : inTo r p l 4 = (r.long l && wthn (p : Int) r.p0 r.p1) := by
  simp only [inTo, Rg.long, Rg.longTo]
  generalize wthn (p : Int) r.p0 r.p1 = a
  generalize wthn (l 0 : Int) (r.lo 0) (r.hi 0) = b
  generalize wthn (l 1 : Int) (r.lo 1) (r.hi 1) = c
  generalize wthn (l 2 : Int) (r.lo 2) (r.hi 2) = d
  generalize wthn (l 3 : Int) (r.lo 3) (r.hi 3) = e
  cases a <;> cases b <;> cases c <;> cases d <;> cases e <;> rfl
theorem larr_get' (l : Nat → Nat) (k : Nat) (hk : k < 4) : (#[.int .i64 (l 0 : Int), .int .i64 (l 1 : Int), .int .i64 (l 2 : Int), .int .i64 (l 3 : Int)] : Array Value)[k]? = some (.int .i64 (l k : Int)) := by
  have : k = 0 ∨ k = 1 ∨ k = 2 ∨ k = 3 := by omega
  rcases this with rfl | rfl | rfl | rfl <;> rfl
theorem cell_lo (r : Rg) (k : Nat) (hk : k < 4) : r.cell (2 + k * 2) = r.lo k ∧ r.cell (2 + k * 2 + 1) = r.hi k := by
  have : k = 0 ∨ k = 1 ∨ k = 2 ∨ k = 3 := by omega
  rcases this with rfl | rfl | rfl | rfl <;> exact ⟨rfl, rfl⟩
theorem fitP_hit {rs : List Rg} {p : Nat} {l : Nat → Nat} {k : Nat} {r : Rg} (hr : rs[k]? = some r) (h : inTo r p l 4 = true) : fitP rs l p = true := by
  rw [inTo_four] at h
  exact List.any_eq_true.2 ⟨r, List.mem_of_getElem? hr, h⟩
theorem fitP_miss {rs : List Rg} {p : Nat} {l : Nat → Nat} {k : Nat} {r : Rg} (hr : rs[k]? = some r) (h0 : fitP (rs.take k) l p = false) (h : inTo r p l 4 = false) : fitP (rs.take (k + 1)) l p = false := by
  rw [inTo_four] at h
  unfold fitP at h0 ⊢
  exact any_take_succ (p := fun r : Rg => r.long l && wthn (p : Int) r.p0 r.p1) hr h0 h
set_option maxHeartbeats 4000000 in
theorem rf_in (a : Option Addr) (len cap : Nat) (rs : List Rg) (p : Nat) (l : Nat → Nat) (w : World) (h : Rgs w a len rs) : Calls Try.prog 48 #[.slice a len cap, .int .i64 (p : Int), len4 l] w fun e w' => e = .returned (.bool (fitP rs l p)) ∧ Below w.heap.size w w' := by
  have hsm := h.small
  have HH := Lib.hid h
  clear h
  go_enter Try.func48, Try.ntmps48
  go_wp2
  have hb0 : Below w.heap.size w (w.alloc (.cells #[.int .i64 (l 0 : Int), .int .i64 (l 1 : Int), .int .i64 (l 2 : Int), .int .i64 (l 3 : Int)] 80)) := (Below.refl _ _).alloc (Nat.le_refl _) _
  have hr0 := Row.new w 80 #[.int .i64 (l 0 : Int), .int .i64 (l 1 : Int), .int .i64 (l 2 : Int), .int .i64 (l 3 : Int)]
  go_loopw [7] (fun i wr => ∃ (k : Nat), k ≤ len ∧ i = .int .i64 k ∧ fitP (rs.take k) l p = false ∧ Below w.heap.size w wr ∧ Row wr w.heap.size 80 #[.int .i64 (l 0 : Int), .int .i64 (l 1 : Int), .int .i64 (l 2 : Int), .int .i64 (l 3 : Int)]) (fun i _ => len - (intOf i).toNat)
  case atStart => exact ⟨0, by omega, rfl, rfl, hb0, hr0⟩
  case round =>
    clear hb0 hr0
    obtain ⟨k, hk, rfl, hno, hB, hr⟩ := hrel
    by_cases hlt : k < len
    · have hd : decide ((k : Int) < (len : Int)) = true := by simp; omega
      have hki : (k : Int) < (len : Int) := by omega
      rcases (HH.out.below (Nat.le_refl _) hB).cells with h0 | ⟨b, off, rfl, hbl, hc⟩
      · omega
      obtain ⟨r, hrr⟩ : ∃ r, rs[k]? = some r := ⟨_, List.getElem?_eq_getElem (by have := HH.out.length; omega)⟩
      have c0 := hc k r hrr 0 (by decide)
      have c1 := hc k r hrr 1 (by decide)
      simp only [Rg.cell, Nat.add_zero] at c0 c1
      have HC := Lib.hid fun j hj => hc k r hrr j hj
      have HR := Lib.hid hr
      have HB := Lib.hid hB
      have HRR := Lib.hid hrr
      have HNO := Lib.hid hno
      clear hr hB hbl hc hrr hno
      have HT0 : Hid (∀ u v, decide (r.p0 ≤ (p : Int)) = u → decide ((p : Int) ≤ r.p1) = v → inTo r p l 0 = (u && v)) := Lib.hid (by rintro u v rfl rfl; rfl)
      by_cases hp0 : r.p0 ≤ (p : Int) <;> by_cases hp1 : (p : Int) ≤ r.p1
      all_goals
        have HT1 := Lib.hid (HT0.out _ _ (by first | exact decide_eq_true hp0 | exact decide_eq_false hp0) (by first | exact decide_eq_true hp1 | exact decide_eq_false hp1))
        have hq0 : decide (r.p0 ≤ (p : Int)) = _ := (by first | exact decide_eq_true hp0 | exact decide_eq_false hp0)
        have hq1 : decide ((p : Int) ≤ r.p1) = _ := (by first | exact decide_eq_true hp1 | exact decide_eq_false hp1)
        clear HT0
        go_wp2_with fail
        go_loopw [8, 9] (fun v x wr => ∃ (s : Nat), s ≤ 4 ∧ x = .int .i64 (s : Int) ∧ v = .bool (inTo r p l s) ∧ Below w.heap.size w wr ∧ Row wr w.heap.size 80 #[.int .i64 (l 0 : Int), .int .i64 (l 1 : Int), .int .i64 (l 2 : Int), .int .i64 (l 3 : Int)]) (fun _ x _ => 4 - (intOf x).toNat)
        case atStart => exact ⟨0, by omega, rfl, by rw [HT1.out]; rfl, HB.out, HR.out⟩
        case round =>
          obtain ⟨s, hs, rfl, rfl, hB2, hR2⟩ := hrel
          by_cases hlt2 : s < 4
          · have hd2 : decide ((s : Int) < 4) = true := by simp; omega
            have hs4 : (s : Int) < 4 := by omega
            rcases (HH.out.below (Nat.le_refl _) hB2).cells with h0 | ⟨b', off', e, hbl, hc⟩
            · omega
            obtain ⟨rfl, rfl⟩ : b = b' ∧ off = off' := by simpa using e
            have x0 := hc k r HRR.out (2 + s * 2) (by omega)
            have x1 := hc k r HRR.out (2 + s * 2 + 1) (by omega)
            rw [(cell_lo r s hlt2).1, show off + k * 10 + (2 + s * 2) = off + k * 10 + 2 + s * 2 by omega] at x0
            rw [(cell_lo r s hlt2).2, show off + k * 10 + (2 + s * 2 + 1) = off + k * 10 + 2 + s * 2 + 1 by omega] at x1
            have x2 := (hR2.cell s).trans (larr_get' l s hlt2)
            have y0 := fun dd os => cell_regrown x0 dd os
            have y1 := fun dd os => cell_regrown x1 dd os
            have y2 := fun dd os => cell_regrown x2 dd os
            have HB2 := Lib.hid hB2
            have HR2 := Lib.hid hR2
            clear e hbl hc hB2 hR2
            have HS : Hid (inTo r p l (s + 1) = (inTo r p l s && (decide (r.lo s ≤ (l s : Int)) && decide ((l s : Int) ≤ r.hi s)))) := Lib.hid rfl
            cases hv : inTo r p l s
            · rw [hv] at HS
              have HS2 : Hid (inTo r p l (s + 1) = false) := Lib.hid HS.out
              clear HS
              go_wp2_with fail
              refine wp_region_quiet_below (by kernel_rfl) (by kernel_rfl) ?_
              repeat (first | go_big_quiet_step (fail) | quiet_step (fail))
              refine wpQuiet_nil ?_
              rintro _ ⟨q, rfl⟩
              have hb := below_regrown wr q.d q.os
              have HB3 := Lib.hid (HB2.out.trans (hb.mono HB2.out.size))
              have HR3 := Lib.hid (HR2.out.later hb)
              generalize grow (redrawn wr q.d) q.os = wa at *
              clear hb
              go_wp2_with fail
              exact ⟨⟨s + 1, by omega, by simp, by rw [HS2.out], HB3.out, HR3.out⟩, by simp [intOf]; omega⟩
            · rw [hv, Bool.true_and] at HS
              generalize r.lo s = lo at *
              generalize r.hi s = hi at *
              generalize l s = ls at *
              by_cases q1 : lo ≤ (ls : Int) <;> by_cases q2 : (ls : Int) ≤ hi
              all_goals
                have e1 : decide (lo ≤ (ls : Int)) = _ := (by first | exact decide_eq_true q1 | exact decide_eq_false q1)
                have e2 : decide ((ls : Int) ≤ hi) = _ := (by first | exact decide_eq_true q2 | exact decide_eq_false q2)
                rw [e1, e2] at HS
                go_wp2_with fail
                refine wp_region_quiet_below (by kernel_rfl) (by kernel_rfl) ?_
                repeat (first | go_big_quiet_step (fail) | quiet_step (fail))
                refine wpQuiet_nil ?_
                rintro _ ⟨q, rfl⟩
                have hb := below_regrown wr q.d q.os
                have HB3 := Lib.hid (HB2.out.trans (hb.mono HB2.out.size))
                have HR3 := Lib.hid (HR2.out.later hb)
                generalize grow (redrawn wr q.d) q.os = wa at *
                clear hb
                go_wp2_with fail
                exact ⟨⟨s + 1, by omega, by simp, by rw [HS.out]; rfl, HB3.out, HR3.out⟩, by simp [intOf]; omega⟩
          · obtain rfl : s = 4 := by omega
            cases hv : inTo r p l 4
            · have HM := Lib.hid (fitP_miss HRR.out HNO.out hv)
              simp only [show ((4 : Nat) : Int) = 4 from rfl]
              have HB2 := Lib.hid hB2
              have HR2 := Lib.hid hR2
              go_wp2_with fail
              go_roundw
              · exact ⟨k + 1, by omega, by simp, HM.out, HB2.out, HR2.out⟩
              · simp [intOf]; omega
            · have HM := Lib.hid (fitP_hit HRR.out hv)
              have HB2 := Lib.hid hB2
              simp only [show ((4 : Nat) : Int) = 4 from rfl]
              go_wp2_with fail
              go_ret
              exact ⟨by rw [HM.out]; rfl, HB2.out⟩
    · obtain rfl : k = len := by omega
      have HE : Hid (fitP rs l p = false) := Lib.hid (by
        rw [List.take_of_length_le (by have := HH.out.length; omega)] at hno
        exact hno)
      have HB := Lib.hid hB
      go_wp2_with fail
      go_ret
      exact ⟨by rw [HE.out]; rfl, HB.out⟩
theorem rf_Fits (a : Option Addr) (len cap : Nat) (rs : List Rg) (h : Nat) (hh : W64 h) (w : World) (hr : Rgs w a len rs) : Calls Try.prog 36 #[.slice a len cap, .int .u64 (h : Int)] w fun e w' => e = .returned (.bool (fitsV rs h)) ∧ Below w.heap.size w w' := by
  have HE : Hid (fitsV rs h = fitP rs (lensM h) (ptsM h)) := Lib.hid (by
    rw [fits_ft, pts_ft]
    unfold fitP
    congr 1
    funext r
    rw [long_congr r (fun k hk => lens_ft h k hk)])
  rw [HE.out]
  have HR := Lib.hid hr
  clear hr
  go_enter Try.func36, Try.ntmps36
  go_wp2_with fail
  refine (rf_Points h hh _).mono ?_
  rintro e w' ⟨rfl, rfl⟩
  go_wp2_with fail
  refine (rf_length h 0 hh (by decide) _).mono ?_
  rintro e w' ⟨rfl, rfl⟩
  go_wp2_with fail
  refine (rf_length h 1 hh (by decide) _).mono ?_
  rintro e w' ⟨rfl, rfl⟩
  go_wp2_with fail
  refine (rf_length h 2 hh (by decide) _).mono ?_
  rintro e w' ⟨rfl, rfl⟩
  go_wp2_with fail
  refine (rf_length h 3 hh (by decide) _).mono ?_
  rintro e w' ⟨rfl, rfl⟩
  go_wp2_with fail
  refine (rf_in a len cap rs (ptsM h) (lensM h) _ HR.out).mono ?_
  rintro e w2 ⟨rfl, hb⟩
  have HB := Lib.hid hb
  go_wp2_with fail
  go_ret
  exact ⟨rfl, HB.out⟩
end Go.Proofs.Ytmkplfndbjcflaa
