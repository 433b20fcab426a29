/- Contract of agree.Both over this seat's program. -/
import Derived.Test.YtmkplfndbjcflaaAgT
namespace Go.Proofs.Ytmkplfndbjcflaa
open Go.RowKit Go.Sort Go.Shelf Cnt

theorem ag_Both_no (a b : Option Addr) (la ca lb cb : Nat) (ra rb : List Rg) (w : World) (ha : Rgs w a la ra) (hb : Rgs w b lb rb) (hno : (rightV ra && rightV rb) = false) :
    Calls Try.prog 17 #[.slice a la ca, .slice b lb cb] w fun e w' => e = .returned (.tuple #[.slice none 0 0, .int .i64 2]) ∧ Below w.heap.size w w' := by
  have HA := Lib.hid ha
  have HB := Lib.hid hb
  have HNO := Lib.hid hno
  clear ha hb hno
  go_enter Try.func17, Try.ntmps17
  go_wp2_with fail
  refine (ag_Right a la ca ra _ HA.out).mono ?_
  rintro e w3 ⟨rfl, hb3⟩
  have HB3 := Lib.hid hb3
  clear hb3
  rcases hr : rightV ra with _ | _
  · clear hr
    go_wp2_with fail
    go_ret2
    exact ⟨rfl, HB3.out⟩
  · have HR := Lib.hid hr
    clear hr
    go_wp2_with fail
    refine (ag_Right b lb cb rb _ (HB.out.below (Nat.le_refl _) HB3.out)).mono ?_
    rintro e w4 ⟨rfl, hb4⟩
    have HB4 := Lib.hid (HB3.out.trans (hb4.mono HB3.out.size))
    clear hb4
    have hr2 : rightV rb = false := by
      have := HNO.out
      rw [HR.out] at this
      simpa using this
    rw [hr2]
    clear hr2
    go_wp2_with fail
    go_ret2
    exact ⟨rfl, HB4.out⟩

/-- between two rounds of the inner loop -/
structure BW (w : World) (b8 : Nat) (r : Rg) (v : Value) (l : List Rg) (W : World) : Prop where
  below : Below w.heap.size w W
  own : OwnR W w.heap.size v l
  row : Row W b8 39 r.arr
  ne : ∀ g, v.ownBlock = some g → g ≠ b8
  lo : w.heap.size ≤ b8
theorem BW.later {w : World} {b8 : Nat} {r : Rg} {v : Value} {l : List Rg} {W W' : World} (h : BW w b8 r v l W) (hb : Below W.heap.size W W') : BW w b8 r v l W' :=
  ⟨h.below.trans (hb.mono h.below.size), h.own.later hb, h.row.later hb, h.ne, h.lo⟩
theorem BW.app {w : World} {b8 : Nat} {r : Rg} {v v' : Value} {l l' : List Rg} {W W' : World} (h : BW w b8 r v l W) (h1 : OwnR W' w.heap.size v' l') (hb : Below w.heap.size W W') (hg : W.grownBy W' v.ownBlock) (hl : v'.ownBlock = v.ownBlock ∨ v'.ownBlock = some W.heap.size) : BW w b8 r v' l' W' := by
  refine ⟨h.below.trans hb, h1, h.row.same (hg.block b8 h.row.lt (fun e => h.ne b8 e.symm rfl)), ?_, h.lo⟩
  intro g he
  rcases hl with hl | hl
  · exact h.ne g (hl ▸ he)
  · rw [hl] at he
    have := h.row.lt
    simp at he
    omega

set_option maxHeartbeats 4000000 in
theorem ag_Both_yes (a b : Option Addr) (la ca lb cb : Nat) (ra rb : List Rg) (w : World) (ha : Rgs w a la ra) (hb : Rgs w b lb rb) (oka : rightV ra = true) (okb : rightV rb = true) :
    Calls Try.prog 17 #[.slice a la ca, .slice b lb cb] w fun e w' =>
      (if (bothL ra rb).length ≤ 20 then ∃ v, e = .returned (.tuple #[v, .int .i64 0]) ∧ OwnR w' w.heap.size v (bothL ra rb) else e = .returned (.tuple #[.slice none 0 0, .int .i64 5])) ∧ Below w.heap.size w w' := by
  have hla : la ≤ 20 := by have := ha.length; simp [rightV] at oka; omega
  have hlb : lb ≤ 20 := by have := hb.length; simp [rightV] at okb; omega
  have HA := Lib.hid ha
  have HB := Lib.hid hb
  have HLA := Lib.hid hla
  have HLB := Lib.hid hlb
  have HKA := Lib.hid oka
  have HKB := Lib.hid okb
  clear ha hb oka okb hla hlb
  go_enter Try.func17, Try.ntmps17
  go_wp2_with fail
  refine (ag_Right a la ca ra _ HA.out).mono ?_
  rintro e w3 ⟨rfl, hb3⟩
  have HB3 := Lib.hid hb3
  clear hb3
  rw [HKA.out]
  go_wp2_with fail
  refine (ag_Right b lb cb rb _ (HB.out.below (Nat.le_refl _) HB3.out)).mono ?_
  rintro e w4 ⟨rfl, hb4⟩
  have HB4 := Lib.hid (HB3.out.trans (hb4.mono HB3.out.size))
  clear hb4
  rw [HKB.out]
  go_wp2_with fail
  go_loopw [6, 8, 10, 11, 22, 28] (fun v _ _ _ i _ wr => ∃ (k : Nat), k ≤ la ∧ i = .int .i64 (k : Int) ∧ Below w.heap.size w wr ∧ OwnR wr w.heap.size v (bothL (ra.take k) rb)) (fun _ _ _ _ i _ _ => la - (intOf i).toNat)
  case atStart => exact ⟨0, by omega, rfl, HB4.out, OwnR.nil _ _⟩
  case round =>
    obtain ⟨k, hk, rfl, hB, hO⟩ := hrel
    by_cases hlt : k < la
    · obtain ⟨ba, offa, r, rfl, hbl, hr, c0, c1, c2, c3, c4, c5, c6, c7, c8, c9⟩ := (HA.out.below (Nat.le_refl _) hB).ten hlt
      have hk20 : k < 20 := by have := HLA.out; omega
      have hd : decide ((k : Int) < (la : Int)) = true := by simp; omega
      have HRK := Lib.hid hr
      have HB' := Lib.hid hB
      have HO := Lib.hid hO
      clear hr hB hO
      go_wp2_with fail
      have hI : BW w wr.heap.size r u6 (bothL (ra.take k) rb ++ bothR (rb.take 0) r) (wr.alloc (.cells r.arr 39)) := by
        refine ⟨HB'.out.alloc HB'.out.size _, ?_, Row.new _ _ _, fun g hg => by have := (HO.out.lt g hg).2; omega, HB'.out.size⟩
        have := HO.out.later ((Below.refl _ wr).alloc (Nat.le_refl _) (.cells r.arr 39))
        simpa [bothR] using this
      clear c0 c1 c2 c3 c4 c5 c6 c7 c8 c9 hbl
      generalize wr.heap.size = b8 at *
      generalize wr.alloc (.cells r.arr 39) = W0 at *
      have HI := Lib.hid hI
      clear hI HO
      go_loopw [6, 10, 11, 28] (fun v _ _ i wi => ∃ (j : Nat), j ≤ lb ∧ i = .int .i64 (j : Int) ∧ BW w b8 r v (bothL (ra.take k) rb ++ bothR (rb.take j) r) wi) (fun _ _ _ i _ => lb - (intOf i).toNat)
      case atStart => exact ⟨0, by omega, rfl, HI.out⟩
      case round =>
        obtain ⟨j, hj, rfl, hW⟩ := hrel
        by_cases hjl : j < lb
        · obtain ⟨bb, offb, q, rfl, hbl, hq, c0, c1, c2, c3, c4, c5, c6, c7, c8, c9⟩ := (HB.out.below (Nat.le_refl _) hW.below).ten hjl
          have hj20 : j < 20 := by have := HLB.out; omega
          have hd2 : decide ((j : Int) < (lb : Int)) = true := by simp; omega
          have HQ := Lib.hid hq
          have HW := Lib.hid hW
          clear hq hW
          go_wp2_with (refine wpList_load_row rfl 39 (.tmp 8) rfl b8 rfl 39 r.arr (0, 0) _ (HW.out.row.alloc _) Try.underlying39 rfl (by rw [size39]; rfl) ?_)
          refine (ag_common r q _).mono ?_
          rintro e w5 ⟨rfl, hb5⟩
          have hW5 := (HW.out.later ((Below.refl _ _).alloc (Nat.le_refl _) _)).later hb5
          have HW5 := Lib.hid hW5
          clear hb5 hW5 c0 c1 c2 c3 c4 c5 c6 c7 c8 c9 hbl
          go_wp2_with fail
          refine (ag_right (r.join q) _).mono ?_
          rintro e w6 ⟨rfl, hb6⟩
          have hW6 := (HW5.out.later ((Below.refl _ _).alloc (Nat.le_refl _) _)).later hb6
          have hR6 := (Row.new w5 39 (r.join q).arr).later hb6
          have HW6 := Lib.hid hW6
          have HR6 := Lib.hid hR6
          clear hb6 hW6 hR6
          generalize w5.heap.size = b11 at *
          cases hok : (r.join q).ok
          · have HN := Lib.hid (bothR_take_succ (r := r) HQ.out)
            rw [hok] at HN
            clear hok
            go_wp2_with fail
            go_roundw
            · exact ⟨j + 1, by omega, by simp, by rw [HN.out]; simpa using HW6.out⟩
            · simp [intOf]; omega
          · have HN := Lib.hid (bothR_take_succ (r := r) HQ.out)
            rw [hok] at HN
            clear hok
            generalize hx : r.join q = x at *
            clear hx
            have hl1 : (bothL (ra.take k) rb ++ bothR (rb.take j) r).length + 1 ≤ 100000 := by
              have h1 := bothL_len (ra.take k) rb
              have h2 := bothR_len (rb.take j) r
              have h3 := HB.out.length
              have h4 := HLB.out
              have h5 := HLA.out
              have h6 : (ra.take k).length * rb.length ≤ 20 * 20 := Nat.mul_le_mul (by rw [List.length_take]; omega) (by omega)
              have h7 : (rb.take j).length ≤ 20 := by rw [List.length_take]; omega
              rw [List.length_append]
              omega
            have HL1 := Lib.hid hl1
            clear hl1
            have H7 : ∀ (v' : Value) (w7 : World), OwnR w7 w.heap.size v' ((bothL (ra.take k) rb ++ bothR (rb.take j) r) ++ [x]) → Below w.heap.size (w6.alloc (.cells x.arr 39)) w7 → (w6.alloc (.cells x.arr 39)).grownBy w7 u6.ownBlock → (v'.ownBlock = u6.ownBlock ∨ v'.ownBlock = some (w6.alloc (.cells x.arr 39)).heap.size) → BW w b8 r v' (bothL (ra.take k) rb ++ bothR (rb.take (j + 1)) r) w7 := by
              intro v' w7 h1 h2 h3 h4
              rw [HN.out, if_pos rfl, ← List.append_assoc]
              exact (HW6.out.later ((Below.refl _ _).alloc (Nat.le_refl _) _)).app h1 h2 h3 h4
            have HH7 := Lib.hid H7
            clear H7
            have hown : OwnR (w6.alloc (.cells x.arr 39)) w.heap.size u6 (bothL (ra.take k) rb ++ bothR (rb.take j) r) := HW6.out.own.later ((Below.refl _ _).alloc (Nat.le_refl _) _)
            have HOW := Lib.hid hown
            clear hown
            have hbs : w.heap.size ≤ (w6.alloc (.cells x.arr 39)).heap.size := by have := HW6.out.below.size; simp; omega
            have HBS := Lib.hid hbs
            clear hbs
            go_wp2_with (first
              | refine wpList_load_row rfl 39 (.tmp 11) rfl b11 rfl 39 x.arr (0, 0) _ HR6.out Try.underlying39 rfl (by rw [size39]; rfl) ?_
              | (refine appR rfl (.tmp 37) (.tmp 39) rfl w.heap.size u6 (bothL (ra.take k) rb ++ bothR (rb.take j) r) [x] rfl HOW.out ⟨w6.heap.size, 0, none⟩ 1 1 rfl (rgs_new1 w6 x) HL1.out HBS.out ?_; intro v' w7 h1 h2 h3 h4; have HB7 := Lib.hid (HH7.out v' w7 h1 h2 h3 h4); clear h1 h2 h3 h4))
            go_roundw
            · exact ⟨j + 1, by omega, by simp, HB7.out⟩
            · simp [intOf]; omega
        · obtain rfl : j = lb := by omega
          have HW := Lib.hid hW
          have HN := Lib.hid (bothL_take_succ (rb := rb) HRK.out)
          have hlen := HB.out.length
          clear hW
          go_wp2_with fail
          go_roundw
          · refine ⟨k + 1, by omega, by simp, HW.out.below, ?_⟩
            rw [HN.out]
            have hlen := HB.out.length
            have := HW.out.own
            rwa [List.take_of_length_le (l := rb) (i := j) (by omega)] at this
          · simp [intOf]; omega
    · obtain rfl : k = la := by omega
      have hlen := HA.out.length
      rw [List.take_of_length_le (by omega)] at hO
      obtain ⟨av, cv, rfl, -, -⟩ := hO.rgs (by
        have h1 := bothL_len ra rb
        have h3 := HB.out.length
        have h4 := HLB.out
        have h5 := HLA.out
        have h6 : ra.length * rb.length ≤ 20 * 20 := Nat.mul_le_mul (by omega) (by omega)
        omega)
      have HO := Lib.hid hO
      have HB' := Lib.hid hB
      clear hO hB
      by_cases h20 : (bothL ra rb).length ≤ 20
      · have hdd : decide ((20 : Int) < ((bothL ra rb).length : Int)) = false := by simp; omega
        have H20 := Lib.hid h20
        clear h20
        go_wp2_with fail
        go_ret2
        refine ⟨?_, HB'.out⟩
        exact ⟨_, rfl, HO.out⟩
      · have hdd : decide ((20 : Int) < ((bothL ra rb).length : Int)) = true := by simp; omega
        have H20 := Lib.hid h20
        clear h20
        go_wp2_with fail
        go_ret2
        refine ⟨?_, HB'.out⟩
        rfl
end Go.Proofs.Ytmkplfndbjcflaa
