/- AgU, AgV, Min in one text. -/
import Derived.Test.YtmkplfndbjcflaaMAgs

/- Contract of agree.Both over this seat's program. -/
namespace Go.Proofs.Ytmkplfndbjcflaa
open Go.RowKit Go.Sort Go.Shelf Cnt

theorem ag_Both_no (a b : Option Addr) (la ca lb cb : Nat) (ra rb : List Rg) (w : World) (ha : Rgs w a la ra) (hb : Rgs w b lb rb) (hno : (rightV ra && rightV rb) = false) :
    Calls Try.prog 17 #[.slice a la ca, .slice b lb cb] w fun e w' => e = .returned (.tuple #[.slice none 0 0, .int .i64 2]) ∧ Below w.heap.size w w' := by
  have HA := Lib.hid ha
  have HB := Lib.hid hb
  have HNO := Lib.hid hno
  clear ha hb hno
  go_enter Try.func17, Try.ntmps17
  go_wp2_with fail
  refine (ag_Right a la ca ra _ HA.out).mono ?_
  rintro e w3 ⟨rfl, hb3⟩
  have HB3 := Lib.hid hb3
  clear hb3
  rcases hr : rightV ra with _ | _
  · clear hr
    go_wp2_with fail
    go_ret2
    exact ⟨rfl, HB3.out⟩
  · have HR := Lib.hid hr
    clear hr
    go_wp2_with fail
    refine (ag_Right b lb cb rb _ (HB.out.below (Nat.le_refl _) HB3.out)).mono ?_
    rintro e w4 ⟨rfl, hb4⟩
    have HB4 := Lib.hid (HB3.out.trans (hb4.mono HB3.out.size))
    clear hb4
    have hr2 : rightV rb = false := by
      have := HNO.out
      rw [HR.out] at this
      simpa using this
    rw [hr2]
    clear hr2
    go_wp2_with fail
    go_ret2
    exact ⟨rfl, HB4.out⟩

/-- between two rounds of the inner loop -/
structure BW (w : World) (b8 : Nat) (r : Rg) (v : Value) (l : List Rg) (W : World) : Prop where
  below : Below w.heap.size w W
  own : OwnR W w.heap.size v l
  row : Row W b8 39 r.arr
  ne : ∀ g, v.ownBlock = some g → g ≠ b8
  lo : w.heap.size ≤ b8
theorem BW.later {w : World} {b8 : Nat} {r : Rg} {v : Value} {l : List Rg} {W W' : World} (h : BW w b8 r v l W) (hb : Below W.heap.size W W') : BW w b8 r v l W' :=
  ⟨h.below.trans (hb.mono h.below.size), h.own.later hb, h.row.later hb, h.ne, h.lo⟩
theorem BW.app {w : World} {b8 : Nat} {r : Rg} {v v' : Value} {l l' : List Rg} {W W' : World} (h : BW w b8 r v l W) (h1 : OwnR W' w.heap.size v' l') (hb : Below w.heap.size W W') (hg : W.grownBy W' v.ownBlock) (hl : v'.ownBlock = v.ownBlock ∨ v'.ownBlock = some W.heap.size) : BW w b8 r v' l' W' := by
  refine ⟨h.below.trans hb, h1, h.row.same (hg.block b8 h.row.lt (fun e => h.ne b8 e.symm rfl)), ?_, h.lo⟩
  intro g he
  rcases hl with hl | hl
  · exact h.ne g (hl ▸ he)
  · rw [hl] at he
    have := h.row.lt
    simp at he
    omega

set_option maxHeartbeats 4000000 in
theorem ag_Both_yes (a b : Option Addr) (la ca lb cb : Nat) (ra rb : List Rg) (w : World) (ha : Rgs w a la ra) (hb : Rgs w b lb rb) (oka : rightV ra = true) (okb : rightV rb = true) :
    Calls Try.prog 17 #[.slice a la ca, .slice b lb cb] w fun e w' =>
      (if (bothL ra rb).length ≤ 20 then ∃ v, e = .returned (.tuple #[v, .int .i64 0]) ∧ OwnR w' w.heap.size v (bothL ra rb) else e = .returned (.tuple #[.slice none 0 0, .int .i64 5])) ∧ Below w.heap.size w w' := by
  have hla : la ≤ 20 := by have := ha.length; simp [rightV] at oka; omega
  have hlb : lb ≤ 20 := by have := hb.length; simp [rightV] at okb; omega
  have HA := Lib.hid ha
  have HB := Lib.hid hb
  have HLA := Lib.hid hla
  have HLB := Lib.hid hlb
  have HKA := Lib.hid oka
  have HKB := Lib.hid okb
  clear ha hb oka okb hla hlb
  go_enter Try.func17, Try.ntmps17
  go_wp2_with fail
  refine (ag_Right a la ca ra _ HA.out).mono ?_
  rintro e w3 ⟨rfl, hb3⟩
  have HB3 := Lib.hid hb3
  clear hb3
  rw [HKA.out]
  go_wp2_with fail
  refine (ag_Right b lb cb rb _ (HB.out.below (Nat.le_refl _) HB3.out)).mono ?_
  rintro e w4 ⟨rfl, hb4⟩
  have HB4 := Lib.hid (HB3.out.trans (hb4.mono HB3.out.size))
  clear hb4
  rw [HKB.out]
  go_wp2_with fail
  go_loopw [6, 8, 10, 11, 22, 28] (fun v _ _ _ i _ wr => ∃ (k : Nat), k ≤ la ∧ i = .int .i64 (k : Int) ∧ Below w.heap.size w wr ∧ OwnR wr w.heap.size v (bothL (ra.take k) rb)) (fun _ _ _ _ i _ _ => la - (intOf i).toNat)
  case atStart => exact ⟨0, by omega, rfl, HB4.out, OwnR.nil _ _⟩
  case round =>
    obtain ⟨k, hk, rfl, hB, hO⟩ := hrel
    by_cases hlt : k < la
    · obtain ⟨ba, offa, r, rfl, hbl, hr, c0, c1, c2, c3, c4, c5, c6, c7, c8, c9⟩ := (HA.out.below (Nat.le_refl _) hB).ten hlt
      have hk20 : k < 20 := by have := HLA.out; omega
      have hd : decide ((k : Int) < (la : Int)) = true := by simp; omega
      have HRK := Lib.hid hr
      have HB' := Lib.hid hB
      have HO := Lib.hid hO
      clear hr hB hO
      go_wp2_with fail
      have hI : BW w wr.heap.size r u6 (bothL (ra.take k) rb ++ bothR (rb.take 0) r) (wr.alloc (.cells r.arr 39)) := by
        refine ⟨HB'.out.alloc HB'.out.size _, ?_, Row.new _ _ _, fun g hg => by have := (HO.out.lt g hg).2; omega, HB'.out.size⟩
        have := HO.out.later ((Below.refl _ wr).alloc (Nat.le_refl _) (.cells r.arr 39))
        simpa [bothR] using this
      clear c0 c1 c2 c3 c4 c5 c6 c7 c8 c9 hbl
      generalize wr.heap.size = b8 at *
      generalize wr.alloc (.cells r.arr 39) = W0 at *
      have HI := Lib.hid hI
      clear hI HO
      go_loopw [6, 10, 11, 28] (fun v _ _ i wi => ∃ (j : Nat), j ≤ lb ∧ i = .int .i64 (j : Int) ∧ BW w b8 r v (bothL (ra.take k) rb ++ bothR (rb.take j) r) wi) (fun _ _ _ i _ => lb - (intOf i).toNat)
      case atStart => exact ⟨0, by omega, rfl, HI.out⟩
      case round =>
        obtain ⟨j, hj, rfl, hW⟩ := hrel
        by_cases hjl : j < lb
        · obtain ⟨bb, offb, q, rfl, hbl, hq, c0, c1, c2, c3, c4, c5, c6, c7, c8, c9⟩ := (HB.out.below (Nat.le_refl _) hW.below).ten hjl
          have hj20 : j < 20 := by have := HLB.out; omega
          have hd2 : decide ((j : Int) < (lb : Int)) = true := by simp; omega
          have HQ := Lib.hid hq
          have HW := Lib.hid hW
          clear hq hW
          go_wp2_with (refine wpList_load_row rfl 39 (.tmp 8) rfl b8 rfl 39 r.arr (0, 0) _ (HW.out.row.alloc _) Try.underlying39 rfl (by rw [size39]; rfl) ?_)
          refine (ag_common r q _).mono ?_
          rintro e w5 ⟨rfl, hb5⟩
          have hW5 := (HW.out.later ((Below.refl _ _).alloc (Nat.le_refl _) _)).later hb5
          have HW5 := Lib.hid hW5
          clear hb5 hW5 c0 c1 c2 c3 c4 c5 c6 c7 c8 c9 hbl
          go_wp2_with fail
          refine (ag_right (r.join q) _).mono ?_
          rintro e w6 ⟨rfl, hb6⟩
          have hW6 := (HW5.out.later ((Below.refl _ _).alloc (Nat.le_refl _) _)).later hb6
          have hR6 := (Row.new w5 39 (r.join q).arr).later hb6
          have HW6 := Lib.hid hW6
          have HR6 := Lib.hid hR6
          clear hb6 hW6 hR6
          generalize w5.heap.size = b11 at *
          cases hok : (r.join q).ok
          · have HN := Lib.hid (bothR_take_succ (r := r) HQ.out)
            rw [hok] at HN
            clear hok
            go_wp2_with fail
            go_roundw
            · exact ⟨j + 1, by omega, by simp, by rw [HN.out]; simpa using HW6.out⟩
            · simp [intOf]; omega
          · have HN := Lib.hid (bothR_take_succ (r := r) HQ.out)
            rw [hok] at HN
            clear hok
            generalize hx : r.join q = x at *
            clear hx
            have hl1 : (bothL (ra.take k) rb ++ bothR (rb.take j) r).length + 1 ≤ 100000 := by
              have h1 := bothL_len (ra.take k) rb
              have h2 := bothR_len (rb.take j) r
              have h3 := HB.out.length
              have h4 := HLB.out
              have h5 := HLA.out
              have h6 : (ra.take k).length * rb.length ≤ 20 * 20 := Nat.mul_le_mul (by rw [List.length_take]; omega) (by omega)
              have h7 : (rb.take j).length ≤ 20 := by rw [List.length_take]; omega
              rw [List.length_append]
              omega
            have HL1 := Lib.hid hl1
            clear hl1
            have H7 : ∀ (v' : Value) (w7 : World), OwnR w7 w.heap.size v' ((bothL (ra.take k) rb ++ bothR (rb.take j) r) ++ [x]) → Below w.heap.size (w6.alloc (.cells x.arr 39)) w7 → (w6.alloc (.cells x.arr 39)).grownBy w7 u6.ownBlock → (v'.ownBlock = u6.ownBlock ∨ v'.ownBlock = some (w6.alloc (.cells x.arr 39)).heap.size) → BW w b8 r v' (bothL (ra.take k) rb ++ bothR (rb.take (j + 1)) r) w7 := by
              intro v' w7 h1 h2 h3 h4
              rw [HN.out, if_pos rfl, ← List.append_assoc]
              exact (HW6.out.later ((Below.refl _ _).alloc (Nat.le_refl _) _)).app h1 h2 h3 h4
            have HH7 := Lib.hid H7
            clear H7
            have hown : OwnR (w6.alloc (.cells x.arr 39)) w.heap.size u6 (bothL (ra.take k) rb ++ bothR (rb.take j) r) := HW6.out.own.later ((Below.refl _ _).alloc (Nat.le_refl _) _)
            have HOW := Lib.hid hown
            clear hown
            have hbs : w.heap.size ≤ (w6.alloc (.cells x.arr 39)).heap.size := by have := HW6.out.below.size; simp; omega
            have HBS := Lib.hid hbs
            clear hbs
            go_wp2_with (first
              | refine wpList_load_row rfl 39 (.tmp 11) rfl b11 rfl 39 x.arr (0, 0) _ HR6.out Try.underlying39 rfl (by rw [size39]; rfl) ?_
              | (refine appR rfl (.tmp 37) (.tmp 39) rfl w.heap.size u6 (bothL (ra.take k) rb ++ bothR (rb.take j) r) [x] rfl HOW.out ⟨w6.heap.size, 0, none⟩ 1 1 rfl (rgs_new1 w6 x) HL1.out HBS.out ?_; intro v' w7 h1 h2 h3 h4; have HB7 := Lib.hid (HH7.out v' w7 h1 h2 h3 h4); clear h1 h2 h3 h4))
            go_roundw
            · exact ⟨j + 1, by omega, by simp, HB7.out⟩
            · simp [intOf]; omega
        · obtain rfl : j = lb := by omega
          have HW := Lib.hid hW
          have HN := Lib.hid (bothL_take_succ (rb := rb) HRK.out)
          have hlen := HB.out.length
          clear hW
          go_wp2_with fail
          go_roundw
          · refine ⟨k + 1, by omega, by simp, HW.out.below, ?_⟩
            rw [HN.out]
            have hlen := HB.out.length
            have := HW.out.own
            rwa [List.take_of_length_le (l := rb) (i := j) (by omega)] at this
          · simp [intOf]; omega
    · obtain rfl : k = la := by omega
      have hlen := HA.out.length
      rw [List.take_of_length_le (by omega)] at hO
      obtain ⟨av, cv, rfl, -, -⟩ := hO.rgs (by
        have h1 := bothL_len ra rb
        have h3 := HB.out.length
        have h4 := HLB.out
        have h5 := HLA.out
        have h6 : ra.length * rb.length ≤ 20 * 20 := Nat.mul_le_mul (by omega) (by omega)
        omega)
      have HO := Lib.hid hO
      have HB' := Lib.hid hB
      clear hO hB
      by_cases h20 : (bothL ra rb).length ≤ 20
      · have hdd : decide ((20 : Int) < ((bothL ra rb).length : Int)) = false := by simp; omega
        have H20 := Lib.hid h20
        clear h20
        go_wp2_with fail
        go_ret2
        refine ⟨?_, HB'.out⟩
        exact ⟨_, rfl, HO.out⟩
      · have hdd : decide ((20 : Int) < ((bothL ra rb).length : Int)) = true := by simp; omega
        have H20 := Lib.hid h20
        clear h20
        go_wp2_with fail
        go_ret2
        refine ⟨?_, HB'.out⟩
        rfl
end Go.Proofs.Ytmkplfndbjcflaa

/- finesselaw40.all and awake over this seat's program. -/
namespace Go.Proofs.Ytmkplfndbjcflaa
open Go.RowKit Go.Sort Go.Shelf Cnt

/-- the range of all hands -/
def rgAll : Rg := ⟨0, 40, 0, 13, 0, 13, 0, 13, 0, 13⟩
theorem law_all (w : World) : Calls Try.prog 18 #[] w fun e w' => e = .returned rgAll.v ∧ Below w.heap.size w w' := by
  go_enter Try.func18, Try.ntmps18
  go_wp2
  refine bodyPost_ret (results_cell_row (p := 0) rfl _ _ w.heap.size _ _ (0, 0) _ rfl (Row.new _ _ _) Try.underlying39 rfl (by rw [size39]; rfl)) rfl ⟨rfl, (Below.refl _ _).alloc (Nat.le_refl _) _⟩
def rgHigh : Rg := ⟨5, 40, 0, 13, 0, 13, 0, 13, 0, 13⟩
def rgB : Rg := ⟨5, 40, 0, 13, 0, 13, 0, 13, 1, 1⟩
def rgOne : Rg := ⟨0, 40, 0, 13, 0, 13, 0, 13, 1, 1⟩
theorem aw_total : totalV 3377768440004609 2 = (6, 0) := by decide +kernel
theorem aw_count : givenV 3377768440004609 2 [rgHigh] [] = (3, 0, 0) := by decide +kernel
theorem aw_given : givenV 3377768440004609 2 [rgOne] [rgHigh] = (4, 2, 0) := by decide +kernel
theorem aw_both : bothL [rgOne] [rgHigh] = [⟨5, 40, 0, 13, 0, 13, 0, 13, 1, 1⟩] ∧ rightV [rgOne] = true ∧ rightV [rgHigh] = true := by decide +kernel
theorem aw_pack : totalV 4503599627370495 13 = (635013559600, 0) := by
  unfold totalV
  rw [← way_chs]
  decide +kernel
theorem aw_points : ptsM 3377768440004609 = 9 := by decide +kernel
theorem aw_fits : fitsV [rgB] 2251868533161984 = true ∧ fitsV [rgB] 3377699720527872 = false := by decide +kernel

theorem c_total (w : World) : Calls Try.prog 33 #[.int .u64 3377768440004609, .int .i64 2] w fun e w' => e = .returned (.tuple #[.int .i64 6, .int .i64 0]) ∧ w = w' := by
  have h := ag_Total 3377768440004609 2 w (by unfold W64; decide)
  rw [aw_total] at h
  exact h
theorem c_pack (w : World) : Calls Try.prog 33 #[.int .u64 4503599627370495, .int .i64 13] w fun e w' => e = .returned (.tuple #[.int .i64 635013559600, .int .i64 0]) ∧ w = w' := by
  have h := ag_Total 4503599627370495 13 w (by unfold W64; decide)
  rw [aw_pack] at h
  exact h
theorem c_count (a : Option Addr) (w : World) (hr : Rgs w a 1 [rgHigh]) : Calls Try.prog 15 #[.int .u64 3377768440004609, .int .i64 2, .slice a 1 1] w fun e w' => e = .returned (.tuple #[.int .i64 3, .int .i64 0]) ∧ Below w.heap.size w w' := by
  have h := ag_Count 3377768440004609 2 a 1 1 [rgHigh] w hr
  rw [aw_count] at h
  exact h
theorem c_given (a b : Option Addr) (w : World) (ha : Rgs w a 1 [rgOne]) (hb : Rgs w b 1 [rgHigh]) : Calls Try.prog 16 #[.int .u64 3377768440004609, .int .i64 2, .slice a 1 1, .slice b 1 1] w fun e w' => e = .returned (.tuple #[.int .i64 4, .int .i64 2, .int .i64 0]) ∧ Below w.heap.size w w' := by
  have h := ag_GivenV 3377768440004609 2 a b 1 1 1 1 [rgOne] [rgHigh] w ha hb
  rw [aw_given] at h
  exact h
/-- two slices of one range each -/
theorem rgs_two (w : World) (r q : Rg) : Rgs ((w.alloc (.cells r.arr 39)).alloc (.cells q.arr 39)) (some ⟨w.heap.size, 0, none⟩) 1 [r] ∧ Rgs ((w.alloc (.cells r.arr 39)).alloc (.cells q.arr 39)) (some ⟨w.heap.size + 1, 0, none⟩) 1 [q] ∧ Below w.heap.size w ((w.alloc (.cells r.arr 39)).alloc (.cells q.arr 39)) :=
  ⟨(rgs_new1 w r).below (Nat.le_refl _) ((Below.refl _ _).alloc (Nat.le_refl _) _), (by have := rgs_new1 (w.alloc (.cells r.arr 39)) q; rwa [World.size_alloc] at this), ((Below.refl _ _).alloc (Nat.le_refl _) _).alloc (by simp) _⟩
theorem c_both (a b : Option Addr) (w : World) (ha : Rgs w a 1 [rgOne]) (hb : Rgs w b 1 [rgHigh]) : Calls Try.prog 17 #[.slice a 1 1, .slice b 1 1] w fun e w' => (∃ av cv, e = .returned (.tuple #[.slice av 1 cv, .int .i64 0]) ∧ Rgs w' av 1 [rgB]) ∧ Below w.heap.size w w' := by
  refine (ag_Both_yes a b 1 1 1 1 [rgOne] [rgHigh] w ha hb aw_both.2.1 aw_both.2.2).mono ?_
  rintro e w6 ⟨h6, hb6⟩
  rw [aw_both.1, if_pos (by decide)] at h6
  obtain ⟨v, rfl, hv⟩ := h6
  obtain ⟨av, cv, rfl, hR, -, -⟩ := hv.rgs (by decide)
  exact ⟨⟨av, cv, rfl, hR⟩, hb6⟩
theorem c_points (w : World) : Calls Try.prog 31 #[.int .u64 3377768440004609] w fun e w' => e = .returned (.int .i64 9) ∧ w = w' := by
  have h := ag_Points 3377768440004609 (by unfold W64; decide) w
  rw [aw_points] at h
  exact h
theorem c_fit1 (a : Option Addr) (c : Nat) (w : World) (hr : Rgs w a 1 [rgB]) : Calls Try.prog 30 #[.slice a 1 c, .int .u64 2251868533161984] w fun e w' => e = .returned (.bool true) ∧ Below w.heap.size w w' := by
  have h := ag_Fits a 1 c [rgB] 2251868533161984 (by unfold W64; decide) w hr
  rw [aw_fits.1] at h
  exact h
theorem c_fit2 (a : Option Addr) (c : Nat) (w : World) (hr : Rgs w a 1 [rgB]) : Calls Try.prog 30 #[.slice a 1 c, .int .u64 3377699720527872] w fun e w' => e = .returned (.bool false) ∧ Below w.heap.size w w' := by
  have h := ag_Fits a 1 c [rgB] 3377699720527872 (by unfold W64; decide) w hr
  rw [aw_fits.2] at h
  exact h
set_option maxHeartbeats 400000 in
theorem law40_awake (w : World) : Calls Try.prog 13 #[] w fun e w' => e = .returned (.bool true) ∧ Below w.heap.size w w' := by
  go_enter Try.func13, Try.ntmps13
  go_wp2_with fail
  refine (law_all _).mono ?_
  rintro e w1 ⟨rfl, hb1⟩
  have HB1 := Lib.hid hb1
  clear hb1
  go_wp2_with fail
  refine (law_all _).mono ?_
  rintro e w2 ⟨rfl, hb2⟩
  have HB2 := Lib.hid (HB1.out.trans (hb2.mono HB1.out.size))
  clear hb2 HB1
  go_wp2_with fail
  have hH : Row ((w2.alloc (.cells rgHigh.arr 39)).alloc (.cells rgOne.arr 39)) w2.heap.size 39 rgHigh.arr := (Row.new _ _ _).alloc _
  have hO : Row ((w2.alloc (.cells rgHigh.arr 39)).alloc (.cells rgOne.arr 39)) (w2.heap.size + 1) 39 rgOne.arr := Row.new1 _ _ _ _
  have hb3 : Below w.heap.size w ((w2.alloc (.cells rgHigh.arr 39)).alloc (.cells rgOne.arr 39)) := (HB2.out.alloc HB2.out.size _).alloc (by have := HB2.out.size; simp; omega) _
  show Calls _ _ _ ((w2.alloc (.cells rgHigh.arr 39)).alloc (.cells rgOne.arr 39)) _
  generalize ((w2.alloc (.cells rgHigh.arr 39)).alloc (.cells rgOne.arr 39)) = w3 at *
  generalize w2.heap.size + 1 = bo at *
  generalize w2.heap.size = bh at *
  have Hbh := Lib.hid hH
  have Hbo := Lib.hid hO
  have HB3 := Lib.hid hb3
  clear hH hO hb3 HB2
  refine (c_total _).mono ?_
  rintro e w' ⟨rfl, rfl⟩
  go_wp2_with (refine wpList_load_row rfl 39 (.tmp 2) rfl bh rfl 39 rgHigh.arr (0, 0) _ Hbh.out Try.underlying39 rfl (by rw [size39]; rfl) ?_)
  refine (c_count _ _ (rgs_new1 w3 rgHigh)).mono ?_
  rintro e w4 ⟨rfl, hb4⟩
  have hb4' := ((Below.refl w3.heap.size w3).alloc (Nat.le_refl _) (.cells rgHigh.arr 39)).trans (hb4.mono (by simp))
  have hH4 := Hbh.out.later hb4'
  have hO4 := Hbo.out.later hb4'
  have HB4 := Lib.hid (HB3.out.trans (hb4'.mono HB3.out.size))
  clear Hbh Hbo hb4 hb4'
  have Hbh := Lib.hid hH4
  have Hbo := Lib.hid hO4
  clear hH4 hO4
  go_wp2_with (first | refine wpList_load_row rfl 39 (.tmp 3) rfl bo rfl 39 rgOne.arr (0, 0) _ Hbo.out Try.underlying39 rfl (by rw [size39]; rfl) ?_ | refine wpList_load_row rfl 39 (.tmp 2) rfl bh rfl 39 rgHigh.arr (0, 0) _ (Hbh.out.alloc _) Try.underlying39 rfl (by rw [size39]; rfl) ?_)
  have h2 := rgs_two w4 rgOne rgHigh
  have H2 := Lib.hid h2.2.2
  refine (c_given _ _ _ h2.1 h2.2.1).mono ?_
  clear h2
  rintro e w5 ⟨rfl, hb5⟩
  have hb5' := H2.out.trans (hb5.mono H2.out.size)
  clear H2
  have hH5 := Hbh.out.later hb5'
  have hO5 := Hbo.out.later hb5'
  have HB5 := Lib.hid (HB4.out.trans (hb5'.mono HB4.out.size))
  clear Hbh Hbo hb5 hb5'
  have Hbh := Lib.hid hH5
  have Hbo := Lib.hid hO5
  clear hH5 hO5
  go_wp2_with (first | refine wpList_load_row rfl 39 (.tmp 3) rfl bo rfl 39 rgOne.arr (0, 0) _ Hbo.out Try.underlying39 rfl (by rw [size39]; rfl) ?_ | refine wpList_load_row rfl 39 (.tmp 2) rfl bh rfl 39 rgHigh.arr (0, 0) _ (Hbh.out.alloc _) Try.underlying39 rfl (by rw [size39]; rfl) ?_)
  have h2 := rgs_two w5 rgOne rgHigh
  have H2 := Lib.hid h2.2.2
  refine (c_both _ _ _ h2.1 h2.2.1).mono ?_
  clear h2
  rintro e w6 ⟨⟨av, cv, rfl, hR⟩, hb6⟩
  have HR := Lib.hid hR
  have hb6' := H2.out.trans (hb6.mono H2.out.size)
  clear H2
  have HB6 := Lib.hid (HB5.out.trans (hb6'.mono HB5.out.size))
  clear hb6 hb6' hR
  go_wp2_with fail
  refine (c_pack _).mono ?_
  rintro e w' ⟨rfl, rfl⟩
  go_wp2_with fail
  refine (c_points _).mono ?_
  rintro e w' ⟨rfl, rfl⟩
  go_wp2_with fail
  refine (c_fit1 _ cv _ HR.out).mono ?_
  rintro e w7 ⟨rfl, hb7⟩
  have HR7 := Lib.hid (HR.out.below (Nat.le_refl _) hb7)
  have HB7 := Lib.hid (HB6.out.trans (hb7.mono HB6.out.size))
  clear hb7
  go_wp2_with fail
  refine (c_fit2 _ cv _ HR7.out).mono ?_
  rintro e w8 ⟨rfl, hb8⟩
  have HB8 := Lib.hid (HB7.out.trans (hb8.mono HB7.out.size))
  clear hb8
  go_wp2_with fail
  go_ret
  exact ⟨rfl, HB8.out⟩
end Go.Proofs.Ytmkplfndbjcflaa

/- The builtins min and max on two ints, without a split. No function of the program in sight. -/
namespace Go.Proofs.Ytmkplfndbjcflaa
open Go.RowKit

section
variable {P : Program} {w : World} {ops : Array Oper} {rest : List Oper} {o : Oper} {a : Act} {Q : Exit → Act → World → Prop}
theorem run_min2 (ty ta tb : TypeId) (p q : Int) : (Builtin.min_ #[ta, tb] ty #[.int .i64 p, .int .i64 q]).run P w = .ok (.int .i64 (mn p q)) w := by
  unfold Builtin.min_ mn
  simp only [List.foldlM_cons, List.foldlM_nil]
  unfold Builtin.min2
  by_cases h : q < p <;> simp [h]
theorem wpList_min (hg : o.guard = none) (s x : Operand) (ta tb : TypeId) (ho : o.op = .call { callee := .builtin .min, args := #[s, x], argTypes := #[ta, tb] }) (p q : Int) (hs : a.eval s = .int .i64 p) (hx : a.eval x = .int .i64 q)
    (h : wpList P ops Q rest (a.put o.dst (.int .i64 (mn p q))) w) : wpList P ops Q (o :: rest) a w := by
  refine wpList_plain hg fun K hK => ?_
  have hr := run_min2 (P := P) (w := w) o.type ta tb p q
  unfold Oper.wp execOp
  simp only [ho, resolve, invoke, builtin, Sem.run_bind, Sem.run_pure, Result.andThen_ok, List.map_toArray, List.map_cons, List.map_nil, hs, hx, hr]
  exact hK _ _ h
theorem run_max2 (ty ta tb : TypeId) (p q : Int) : (Builtin.max_ #[ta, tb] ty #[.int .i64 p, .int .i64 q]).run P w = .ok (.int .i64 (mx p q)) w := by
  unfold Builtin.max_ mx
  simp only [List.foldlM_cons, List.foldlM_nil]
  unfold Builtin.max2
  by_cases h : p < q <;> simp [h]
theorem wpList_max (hg : o.guard = none) (s x : Operand) (ta tb : TypeId) (ho : o.op = .call { callee := .builtin .max, args := #[s, x], argTypes := #[ta, tb] }) (p q : Int) (hs : a.eval s = .int .i64 p) (hx : a.eval x = .int .i64 q)
    (h : wpList P ops Q rest (a.put o.dst (.int .i64 (mx p q))) w) : wpList P ops Q (o :: rest) a w := by
  refine wpList_plain hg fun K hK => ?_
  have hr := run_max2 (P := P) (w := w) o.type ta tb p q
  unfold Oper.wp execOp
  simp only [ho, resolve, invoke, builtin, Sem.run_bind, Sem.run_pure, Result.andThen_ok, List.map_toArray, List.map_cons, List.map_nil, hs, hx, hr]
  exact hK _ _ h
end
end Go.Proofs.Ytmkplfndbjcflaa
