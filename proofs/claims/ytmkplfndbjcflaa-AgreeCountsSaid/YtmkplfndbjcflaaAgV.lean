/- finesselaw40.all and awake over this seat's program. -/
import Derived.Test.YtmkplfndbjcflaaAgU
namespace Go.Proofs.Ytmkplfndbjcflaa
open Go.RowKit Go.Sort Go.Shelf Cnt

/-- the range of all hands -/
def rgAll : Rg := ⟨0, 40, 0, 13, 0, 13, 0, 13, 0, 13⟩
theorem law_all (w : World) : Calls Try.prog 18 #[] w fun e w' => e = .returned rgAll.v ∧ Below w.heap.size w w' := by
  go_enter Try.func18, Try.ntmps18
  go_wp2
  refine bodyPost_ret (results_cell_row (p := 0) rfl _ _ w.heap.size _ _ (0, 0) _ rfl (Row.new _ _ _) Try.underlying39 rfl (by rw [size39]; rfl)) rfl ⟨rfl, (Below.refl _ _).alloc (Nat.le_refl _) _⟩
def rgHigh : Rg := ⟨5, 40, 0, 13, 0, 13, 0, 13, 0, 13⟩
def rgB : Rg := ⟨5, 40, 0, 13, 0, 13, 0, 13, 1, 1⟩
def rgOne : Rg := ⟨0, 40, 0, 13, 0, 13, 0, 13, 1, 1⟩
theorem aw_total : totalV 3377768440004609 2 = (6, 0) := by decide +kernel
theorem aw_count : givenV 3377768440004609 2 [rgHigh] [] = (3, 0, 0) := by decide +kernel
theorem aw_given : givenV 3377768440004609 2 [rgOne] [rgHigh] = (4, 2, 0) := by decide +kernel
theorem aw_both : bothL [rgOne] [rgHigh] = [⟨5, 40, 0, 13, 0, 13, 0, 13, 1, 1⟩] ∧ rightV [rgOne] = true ∧ rightV [rgHigh] = true := by decide +kernel
theorem aw_pack : totalV 4503599627370495 13 = (635013559600, 0) := by
  unfold totalV
  rw [← way_chs]
  decide +kernel
theorem aw_points : ptsM 3377768440004609 = 9 := by decide +kernel
theorem aw_fits : fitsV [rgB] 2251868533161984 = true ∧ fitsV [rgB] 3377699720527872 = false := by decide +kernel

theorem c_total (w : World) : Calls Try.prog 33 #[.int .u64 3377768440004609, .int .i64 2] w fun e w' => e = .returned (.tuple #[.int .i64 6, .int .i64 0]) ∧ w = w' := by
  have h := ag_Total 3377768440004609 2 w (by unfold W64; decide)
  rw [aw_total] at h
  exact h
theorem c_pack (w : World) : Calls Try.prog 33 #[.int .u64 4503599627370495, .int .i64 13] w fun e w' => e = .returned (.tuple #[.int .i64 635013559600, .int .i64 0]) ∧ w = w' := by
  have h := ag_Total 4503599627370495 13 w (by unfold W64; decide)
  rw [aw_pack] at h
  exact h
theorem c_count (a : Option Addr) (w : World) (hr : Rgs w a 1 [rgHigh]) : Calls Try.prog 15 #[.int .u64 3377768440004609, .int .i64 2, .slice a 1 1] w fun e w' => e = .returned (.tuple #[.int .i64 3, .int .i64 0]) ∧ Below w.heap.size w w' := by
  have h := ag_Count 3377768440004609 2 a 1 1 [rgHigh] w hr
  rw [aw_count] at h
  exact h
theorem c_given (a b : Option Addr) (w : World) (ha : Rgs w a 1 [rgOne]) (hb : Rgs w b 1 [rgHigh]) : Calls Try.prog 16 #[.int .u64 3377768440004609, .int .i64 2, .slice a 1 1, .slice b 1 1] w fun e w' => e = .returned (.tuple #[.int .i64 4, .int .i64 2, .int .i64 0]) ∧ Below w.heap.size w w' := by
  have h := ag_GivenV 3377768440004609 2 a b 1 1 1 1 [rgOne] [rgHigh] w ha hb
  rw [aw_given] at h
  exact h
/-- two slices of one range each -/
theorem rgs_two (w : World) (r q : Rg) : Rgs ((w.alloc (.cells r.arr 39)).alloc (.cells q.arr 39)) (some ⟨w.heap.size, 0, none⟩) 1 [r] ∧ Rgs ((w.alloc (.cells r.arr 39)).alloc (.cells q.arr 39)) (some ⟨w.heap.size + 1, 0, none⟩) 1 [q] ∧ Below w.heap.size w ((w.alloc (.cells r.arr 39)).alloc (.cells q.arr 39)) :=
  ⟨(rgs_new1 w r).below (Nat.le_refl _) ((Below.refl _ _).alloc (Nat.le_refl _) _), (by have := rgs_new1 (w.alloc (.cells r.arr 39)) q; rwa [World.size_alloc] at this), ((Below.refl _ _).alloc (Nat.le_refl _) _).alloc (by simp) _⟩
theorem c_both (a b : Option Addr) (w : World) (ha : Rgs w a 1 [rgOne]) (hb : Rgs w b 1 [rgHigh]) : Calls Try.prog 17 #[.slice a 1 1, .slice b 1 1] w fun e w' => (∃ av cv, e = .returned (.tuple #[.slice av 1 cv, .int .i64 0]) ∧ Rgs w' av 1 [rgB]) ∧ Below w.heap.size w w' := by
  refine (ag_Both_yes a b 1 1 1 1 [rgOne] [rgHigh] w ha hb aw_both.2.1 aw_both.2.2).mono ?_
  rintro e w6 ⟨h6, hb6⟩
  rw [aw_both.1, if_pos (by decide)] at h6
  obtain ⟨v, rfl, hv⟩ := h6
  obtain ⟨av, cv, rfl, hR, -, -⟩ := hv.rgs (by decide)
  exact ⟨⟨av, cv, rfl, hR⟩, hb6⟩
theorem c_points (w : World) : Calls Try.prog 31 #[.int .u64 3377768440004609] w fun e w' => e = .returned (.int .i64 9) ∧ w = w' := by
  have h := ag_Points 3377768440004609 (by unfold W64; decide) w
  rw [aw_points] at h
  exact h
theorem c_fit1 (a : Option Addr) (c : Nat) (w : World) (hr : Rgs w a 1 [rgB]) : Calls Try.prog 30 #[.slice a 1 c, .int .u64 2251868533161984] w fun e w' => e = .returned (.bool true) ∧ Below w.heap.size w w' := by
  have h := ag_Fits a 1 c [rgB] 2251868533161984 (by unfold W64; decide) w hr
  rw [aw_fits.1] at h
  exact h
theorem c_fit2 (a : Option Addr) (c : Nat) (w : World) (hr : Rgs w a 1 [rgB]) : Calls Try.prog 30 #[.slice a 1 c, .int .u64 3377699720527872] w fun e w' => e = .returned (.bool false) ∧ Below w.heap.size w w' := by
  have h := ag_Fits a 1 c [rgB] 3377699720527872 (by unfold W64; decide) w hr
  rw [aw_fits.2] at h
  exact h
set_option maxHeartbeats 400000 in
theorem law40_awake (w : World) : Calls Try.prog 13 #[] w fun e w' => e = .returned (.bool true) ∧ Below w.heap.size w w' := by
  go_enter Try.func13, Try.ntmps13
  go_wp2_with fail
  refine (law_all _).mono ?_
  rintro e w1 ⟨rfl, hb1⟩
  have HB1 := Lib.hid hb1
  clear hb1
  go_wp2_with fail
  refine (law_all _).mono ?_
  rintro e w2 ⟨rfl, hb2⟩
  have HB2 := Lib.hid (HB1.out.trans (hb2.mono HB1.out.size))
  clear hb2 HB1
  go_wp2_with fail
  have hH : Row ((w2.alloc (.cells rgHigh.arr 39)).alloc (.cells rgOne.arr 39)) w2.heap.size 39 rgHigh.arr := (Row.new _ _ _).alloc _
  have hO : Row ((w2.alloc (.cells rgHigh.arr 39)).alloc (.cells rgOne.arr 39)) (w2.heap.size + 1) 39 rgOne.arr := Row.new1 _ _ _ _
  have hb3 : Below w.heap.size w ((w2.alloc (.cells rgHigh.arr 39)).alloc (.cells rgOne.arr 39)) := (HB2.out.alloc HB2.out.size _).alloc (by have := HB2.out.size; simp; omega) _
  show Calls _ _ _ ((w2.alloc (.cells rgHigh.arr 39)).alloc (.cells rgOne.arr 39)) _
  generalize ((w2.alloc (.cells rgHigh.arr 39)).alloc (.cells rgOne.arr 39)) = w3 at *
  generalize w2.heap.size + 1 = bo at *
  generalize w2.heap.size = bh at *
  have Hbh := Lib.hid hH
  have Hbo := Lib.hid hO
  have HB3 := Lib.hid hb3
  clear hH hO hb3 HB2
  refine (c_total _).mono ?_
  rintro e w' ⟨rfl, rfl⟩
  go_wp2_with (refine wpList_load_row rfl 39 (.tmp 2) rfl bh rfl 39 rgHigh.arr (0, 0) _ Hbh.out Try.underlying39 rfl (by rw [size39]; rfl) ?_)
  refine (c_count _ _ (rgs_new1 w3 rgHigh)).mono ?_
  rintro e w4 ⟨rfl, hb4⟩
  have hb4' := ((Below.refl w3.heap.size w3).alloc (Nat.le_refl _) (.cells rgHigh.arr 39)).trans (hb4.mono (by simp))
  have hH4 := Hbh.out.later hb4'
  have hO4 := Hbo.out.later hb4'
  have HB4 := Lib.hid (HB3.out.trans (hb4'.mono HB3.out.size))
  clear Hbh Hbo hb4 hb4'
  have Hbh := Lib.hid hH4
  have Hbo := Lib.hid hO4
  clear hH4 hO4
  go_wp2_with (first | refine wpList_load_row rfl 39 (.tmp 3) rfl bo rfl 39 rgOne.arr (0, 0) _ Hbo.out Try.underlying39 rfl (by rw [size39]; rfl) ?_ | refine wpList_load_row rfl 39 (.tmp 2) rfl bh rfl 39 rgHigh.arr (0, 0) _ (Hbh.out.alloc _) Try.underlying39 rfl (by rw [size39]; rfl) ?_)
  have h2 := rgs_two w4 rgOne rgHigh
  have H2 := Lib.hid h2.2.2
  refine (c_given _ _ _ h2.1 h2.2.1).mono ?_
  clear h2
  rintro e w5 ⟨rfl, hb5⟩
  have hb5' := H2.out.trans (hb5.mono H2.out.size)
  clear H2
  have hH5 := Hbh.out.later hb5'
  have hO5 := Hbo.out.later hb5'
  have HB5 := Lib.hid (HB4.out.trans (hb5'.mono HB4.out.size))
  clear Hbh Hbo hb5 hb5'
  have Hbh := Lib.hid hH5
  have Hbo := Lib.hid hO5
  clear hH5 hO5
  go_wp2_with (first | refine wpList_load_row rfl 39 (.tmp 3) rfl bo rfl 39 rgOne.arr (0, 0) _ Hbo.out Try.underlying39 rfl (by rw [size39]; rfl) ?_ | refine wpList_load_row rfl 39 (.tmp 2) rfl bh rfl 39 rgHigh.arr (0, 0) _ (Hbh.out.alloc _) Try.underlying39 rfl (by rw [size39]; rfl) ?_)
  have h2 := rgs_two w5 rgOne rgHigh
  have H2 := Lib.hid h2.2.2
  refine (c_both _ _ _ h2.1 h2.2.1).mono ?_
  clear h2
  rintro e w6 ⟨⟨av, cv, rfl, hR⟩, hb6⟩
  have HR := Lib.hid hR
  have hb6' := H2.out.trans (hb6.mono H2.out.size)
  clear H2
  have HB6 := Lib.hid (HB5.out.trans (hb6'.mono HB5.out.size))
  clear hb6 hb6' hR
  go_wp2_with fail
  refine (c_pack _).mono ?_
  rintro e w' ⟨rfl, rfl⟩
  go_wp2_with fail
  refine (c_points _).mono ?_
  rintro e w' ⟨rfl, rfl⟩
  go_wp2_with fail
  refine (c_fit1 _ cv _ HR.out).mono ?_
  rintro e w7 ⟨rfl, hb7⟩
  have HR7 := Lib.hid (HR.out.below (Nat.le_refl _) hb7)
  have HB7 := Lib.hid (HB6.out.trans (hb7.mono HB6.out.size))
  clear hb7
  go_wp2_with fail
  refine (c_fit2 _ cv _ HR7.out).mono ?_
  rintro e w8 ⟨rfl, hb8⟩
  have HB8 := Lib.hid (HB7.out.trans (hb8.mono HB7.out.size))
  clear hb8
  go_wp2_with fail
  go_ret
  exact ⟨rfl, HB8.out⟩
end Go.Proofs.Ytmkplfndbjcflaa
