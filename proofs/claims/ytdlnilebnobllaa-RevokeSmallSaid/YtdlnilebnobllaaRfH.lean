/- The reference of chapter 13 over this seat's program: Winners. -/
import Derived.Test.YtdlnilebnobllaaMRfe
import Derived.BigQuiet
namespace Go.Proofs.Ytdlnilebnobllaa
open Go.RowKit Go.Shelf Go.Sort

/-- the first winners -/
def winsK (r : Rc) (q : Nat) : List Nat := (List.range q).map fun j => ldAt r.t r.ld0 r.zs (j + 1)
theorem winsK_length (r : Rc) (q : Nat) : (winsK r q).length = q := by simp [winsK]
theorem winsK_succ (r : Rc) (q : Nat) : winsK r (q + 1) = winsK r q ++ [ldAt r.t r.ld0 r.zs (q + 1)] := by simp [winsK, List.range_succ]
theorem full_stop {r : Rc} (hd : r.dealt = true) (hE : r.rightV = (-1, 0)) : r.good = r.zs.length ∧ r.stop = -1 := by
  have hg : ¬ r.good < r.zs.length := by
    intro h
    rw [right_of_good hd, if_pos h] at hE
    injection hE with _ h2
    cases h2
  have := good_le r
  refine ⟨by omega, ?_⟩
  unfold Rc.stop
  rw [if_neg hg]
theorem wins_full {r : Rc} (hd : r.dealt = true) (hE : r.rightV = (-1, 0)) : winsTo r.rnds = winsK r (r.zs.length / 4) := by
  rw [wins_flat hd, (full_stop hd hE).1]; rfl
theorem rf_winners_no (r : Rc) (a : Option Addr) (len cap : Nat) (w : World) (hok : r.ok len cap) (hz : Byt w a len r.zs) (h60 : len ≤ 60000) (hE : r.rightV.2 ≠ 0) :
    Calls Try.prog 26 #[r.v a len cap] w fun e w' => e = .returned (.tuple #[.slice none 0 0, .int .i64 (r.rightV.2 : Int)]) ∧ Below w.heap.size w w' := by
  have hB0 := (Below.refl w.heap.size w).alloc (Nat.le_refl _) (.cells (r.cells a len cap) 57)
  have HRR := Lib.hid (rf_right r a len cap _ hok (hz.below (Nat.le_refl _) hB0) h60)
  generalize r.rightV.1 = i at *
  generalize r.rightV.2 = x at *
  have hxB : ((x : Int) != 0) = true := by rw [bne_iff_ne]; omega
  clear hE
  go_enter Try.func26, Try.ntmps26
  go_wp2_with (go_at_call 25; refine HRR.out.mono ?_; rintro e w1 ⟨rfl, hb1⟩)
  go_ret2
  exact ⟨rfl, hB0.trans (hb1.mono (by simp))⟩
set_option maxHeartbeats 2000000 in
set_option maxRecDepth 100000 in
theorem rf_winners (r : Rc) (a : Option Addr) (len cap : Nat) (w : World) (hok : r.ok len cap) (hz : Byt w a len r.zs) (h60 : len ≤ 60000) (hd : r.dealt = true) (hE : r.rightV = (-1, 0)) :
    Calls Try.prog 26 #[r.v a len cap] w fun e w' => ∃ v, e = .returned (.tuple #[v, .int .i64 0]) ∧ OwnU w' w.heap.size v (winsTo r.rnds) ∧ Below w.heap.size w w' := by
  obtain ⟨hg, hst⟩ := full_stop hd hE
  have HLEN := Lib.hid hz.length
  have HWF := Lib.hid (wins_full hd hE)
  have hB0 := (Below.refl w.heap.size w).alloc (Nat.le_refl _) (.cells (r.cells a len cap) 57)
  have hrr := rf_right r a len cap _ hok (hz.below (Nat.le_refl _) hB0) h60
  rw [hE] at hrr
  have HRR := Lib.hid hrr
  have HS := Lib.hid (fun (w1 : World) (hb : Below w.heap.size w w1) => rf_seats r a len cap w1 hok (hz.below (Nat.le_refl _) hb) hd h60)
  rw [hst, hg, HLEN.out] at HS
  have hR0 := Row.new w 57 (r.cells a len cap)
  have HD := Lib.hid hd
  have HG := Lib.hid hg
  clear hrr hE hd hg hst
  go_enter Try.func26, Try.ntmps26
  go_wp2_with fail
  refine HRR.out.mono ?_
  rintro e w1 ⟨rfl, hb1⟩
  have hR1 := hR0.below (by simp) hb1
  have hB1 := hB0.trans (hb1.mono (by simp))
  have c0 := hR1.cell 0
  have c1 := hR1.cell 1
  have c2 := hR1.cell 2
  have c3 := hR1.cell 3
  have c4 := hR1.cell 4
  have c5 := hR1.cell 5
  have c6 := hR1.cell 6
  simp only [List.getElem?_toArray, List.getElem?_cons_zero, List.getElem?_cons_succ] at c0 c1 c2 c3 c4 c5 c6
  clear hb1
  go_wp2_with fail
  refine (HS.out w1 hB1).mono ?_
  rintro e w2 ⟨vs, rfl, hoS, hb2⟩
  have hR2 := hR1.below hR1.lt hb2
  have hB2 := hB1.trans (hb2.mono hB1.size)
  clear c0 c1 c2 c3 c4 c5 c6 hb2
  obtain ⟨al, cl, hv, hnes⟩ := Owns.slice hoS
  rw [seatsTo_length] at hv
  subst hv
  have HNS := Lib.hid hnes
  have hb0 := Below.refl w2.heap.size w2
  have hs2 := hB2.size
  clear hnes
  go_wp2_with fail
  go_loopg [8, 9] (len / 4) (fun gk out i wr => ∃ q : Nat, gk = len / 4 - q ∧ 4 * q ≤ len ∧ i = .int .i64 ((4 * q : Nat) : Int) ∧ OwnU wr w2.heap.size out (winsK r q) ∧ Below w2.heap.size w2 wr)
  case atStart => exact ⟨0, by omega, by omega, rfl, Owns.nil encU_len _ _, hb0⟩
  case round =>
    obtain ⟨q, rfl, hq, rfl, hown, hb⟩ := hrel
    obtain ⟨i0, hi0⟩ : ∃ i0, i0 = 4 * q := ⟨_, rfl⟩
    rw [← hi0] at hq ⊢
    have HI0 := Lib.hid hi0
    have hB := hB2.trans (hb.mono hs2)
    have hR := hR2.below hR2.lt hb
    have hoSb := Owns.below hoS hb
    by_cases hlt : i0 + 4 ≤ len
    · have hltB : decide ((i0 : Int) + 4 ≤ (len : Int)) = true := by rw [decide_eq_true_eq]; omega
      have hsb := seat_best HD.out (j := q) (by rw [HG.out, HLEN.out]; omega)
      rw [← hi0] at hsb
      have HSB := Lib.hid hsb
      obtain ⟨gs, hgs⟩ := HNS.out (by intro e; have := congrArg List.length e; rw [seatsTo_length] at this; simp at this; omega)
      subst hgs
      clear hsb hi0
      have hbw := Below.refl wr.heap.size wr
      obtain ⟨w3, rfl⟩ : ∃ w3 : World, w3 = wr := ⟨_, rfl⟩
      go_wp2_with fail
      go_loopg [10, 11] 3 (fun gm bst i wr => ∃ m : Nat, gm = 3 - m ∧ m ≤ 3 ∧ i = .int .i64 ((i0 + 1 + m : Nat) : Int) ∧ bst = .int .i64 (bestR r.t r.zs i0 m : Int) ∧ Below w3.heap.size w3 wr)
      case atStart => exact ⟨0, by omega, by omega, by go_num, rfl, hbw⟩
      case round =>
        obtain ⟨m, rfl, hm, rfl, rfl, hbm⟩ := hrel
        obtain ⟨wb, rfl⟩ : ∃ wb : World, wb = wr := ⟨_, rfl⟩
        have hBb := hB.trans (hbm.mono hB.size)
        have hRb := hR.below hR.lt hbm
        have hOb := Owns.below hown hbm
        have hoSb2 := Owns.below hoSb hbm
        have hbg := bestR_ge r.t r.zs i0 m
        by_cases hm3 : m < 3
        · have hzm := hz.below (Nat.le_refl _) hBb
          obtain ⟨b, off, hadd, hbb, hcs⟩ := hzm.at (by omega)
          have hcm := hcs (i0 + 1 + m) (by omega)
          have hc0 := hcs i0 (by omega)
          have hcb := hcs (bestR r.t r.zs i0 m) (by omega)
          have by1 := hzm.byte (i0 + 1 + m)
          have by2 := hzm.byte i0
          have by3 := hzm.byte (bestR r.t r.zs i0 m)
          have HBN := Lib.hid (show bestR r.t r.zs i0 (m + 1) = if betR (r.zs.getD (i0 + m + 1) 0) (r.zs.getD (bestR r.t r.zs i0 m) 0) (r.zs.getD i0 0 / 13) r.t then i0 + m + 1 else bestR r.t r.zs i0 m from rfl)
          rw [show i0 + m + 1 = i0 + 1 + m by omega] at HBN
          have hxk : i0 + 1 + m < len := by omega
          have hyk : bestR r.t r.zs i0 m < len := by omega
          have hzk : i0 < len := by omega
          have hxB : decide (((i0 + 1 + m : Nat) : Int) < (i0 : Int) + 4) = true := by rw [decide_eq_true_eq]; omega
          have r4 := hRb.cell 4
          have r6 := hRb.cell 6
          simp only [List.getElem?_toArray, List.getElem?_cons_zero, List.getElem?_cons_succ] at r4 r6
          subst hadd
          clear hcs
          generalize bestR r.t r.zs i0 m = bst at *
          generalize r.zs.getD (i0 + 1 + m) 0 = z1 at *
          generalize r.zs.getD i0 0 = z0 at *
          generalize r.zs.getD bst 0 = z2 at *
          generalize hxE : i0 + 1 + m = x at *
          have HX := Lib.hid hxE
          clear hxE
          obtain ⟨q0, hq0⟩ : ∃ q0, q0 = z0 / 13 := ⟨_, rfl⟩
          rw [← hq0] at HBN
          have hdq : (z0 : Int) / 13 = (q0 : Int) := by omega
          have hq20 : q0 < 20 := by omega
          clear hq0
          have e7 : IntKind.u8.wrap (q0 : Int) = (q0 : Int) := by rw [IntKind.wrap_u8]; omega
          have rcm := fun dd os => cell_regrown hcm dd os
          have rc0 := fun dd os => cell_regrown hc0 dd os
          have rcb := fun dd os => cell_regrown hcb dd os
          have rr4 := fun dd os => cell_regrown r4 dd os
          have rr6 := fun dd os => cell_regrown r6 dd os
          go_wp2
          refine wp_region_quiet_below (by kernel_rfl) (by kernel_rfl) ?_
          repeat (quiet_step ((exact Calls.regrown_of ((rf_better _ _ _ _ _ (by omega) (by omega)).mono fun _ _ ⟨he, hw⟩ => ⟨he, hw ▸ Below.refl _ _⟩))))
          refine wpQuiet_nil ?_
          rintro _ ⟨p, rfl⟩
          clear rcm rc0 rcb rr4 rr6 hdq e7
          have hb9 := below_regrown wb p.d p.os
          generalize grow (redrawn wb p.d) p.os = w9 at *
          have hbm9 := hbm.trans (hb9.mono hbm.size)
          cases hbr : betR z1 z2 q0 r.t
          · have HB := Lib.hid hbr
            clear hbr
            go_wp2
            go_roundg (3 - (m + 1))
            case rel => exact ⟨m + 1, rfl, by omega, by rw [show i0 + 1 + (m + 1) = x + 1 by have := HX.out; omega]; go_num, by rw [HBN.out, HB.out]; rfl, hbm9⟩
            case measure => omega
          · have HB := Lib.hid hbr
            clear hbr
            go_wp2
            go_roundg (3 - (m + 1))
            case rel => exact ⟨m + 1, rfl, by omega, by rw [show i0 + 1 + (m + 1) = x + 1 by have := HX.out; omega]; go_num, by rw [HBN.out, HB.out]; rfl, hbm9⟩
            case measure => omega
        · have hm3' : m = 3 := by omega
          subst hm3'
          obtain ⟨hco, -⟩ := own_at hoSb2 (k := bestR r.t r.zs i0 3) (by rw [seatsTo_length]; omega)
          rw [seatsTo_get r (by omega), HSB.out] at hco
          have hxB : decide (((i0 + 1 + 3 : Nat) : Int) < (i0 : Int) + 4) = false := by rw [decide_eq_false_iff_not]; omega
          have hbl : bestR r.t r.zs i0 3 < len := by omega
          have HQ4 := Lib.hid (show 4 * (q + 1) = i0 + 4 ∧ 4 * (q + 1) ≤ len ∧ len / 4 - (q + 1) < len / 4 - q by have := HI0.out; omega)
          have hxx : i0 + 1 + 3 = i0 + 1 + 3 := rfl
          clear hxx
          generalize i0 + 1 + 3 = x at hxB ⊢
          clear hbg hm hm3
          generalize bestR r.t r.zs i0 3 = bst at *
          have hldn := ldAt_lt r.t r.ld0 r.zs (show r.ld0 < 4 from Nat.mod_lt _ (by omega)) (q + 1)
          have HWS := Lib.hid (winsK_succ r q)
          have HWL := Lib.hid (winsK_length r q)
          generalize ldAt r.t r.ld0 r.zs (q + 1) = st at *
          have hqs : q ≤ 60000 := by have := HI0.out; omega
          go_wp2_with (at_builtin; refine appU rfl (.tmp 61) (.tmp 66) rfl w2.heap.size _ (winsK r q) [st] rfl (Owns.alloc hOb _) ⟨wb.heap.size, 0, none⟩ 1 1 rfl (byt_new1 wb st (by omega)) (by rw [HWL.out]; omega) (by have := (hb.trans (hbm.mono hb.size)).size; simp; omega) ?_; intro v' w10 hown' hB10 _ _)
          go_roundg (len / 4 - (q + 1))
          case rel =>
            refine ⟨q + 1, rfl, HQ4.out.2.1, by rw [HQ4.out.1]; go_num, by rw [HWS.out]; exact hown', ?_⟩
            exact ((hb.trans (hbm.mono hb.size)).alloc (hb.trans (hbm.mono hb.size)).size _).trans hB10
          case measure => exact HQ4.out.2.2
    · have hltB : decide ((i0 : Int) + 4 ≤ (len : Int)) = false := by rw [decide_eq_false_iff_not]; omega
      have hqe : q = len / 4 := by omega
      have HQ := Lib.hid (show winsTo r.rnds = winsK r q by rw [HWF.out, HLEN.out, hqe])
      clear hqe
      go_wp2
      go_ret2
      exact ⟨_, rfl, by rw [HQ.out]; exact hown.mono (by omega), hB⟩
end Go.Proofs.Ytdlnilebnobllaa
