/- finesselaw13.awake over this seat's program. -/
import Derived.Test.YtdlnilebnobllaaRvMt
import Derived.Test.YtdlnilebnobllaaRvEx
import Derived.Test.YtdlnilebnobllaaRvPlP
namespace Go.Proofs.Ytdlnilebnobllaa
open Go.RowKit Go.Shelf Go.Sort

theorem ex_find_0 : findAll (exRc 0).rnds = [] := by decide +kernel
theorem ex_find_1 : findAll (exRc 1).rnds = [⟨0, 3, 3, 0, true⟩] := by decide +kernel
theorem ex_find_2 : findAll (exRc 2).rnds = [⟨0, 2, 3, 27, true⟩] := by decide +kernel
theorem ex_right_0 : (exRc 0).rightV = (-1, 0) := by decide +kernel
theorem ex_right_1 : (exRc 1).rightV = (-1, 0) := by decide +kernel
theorem ex_right_2 : (exRc 2).rightV = (-1, 0) := by decide +kernel
theorem ex_moved_0 : (exRc 0).movedV = (0, 0, 0) := by decide +kernel
theorem ex_moved_1 : (exRc 1).movedV = (0, 0, 0) := by decide +kernel
theorem ex_moved_2 : (exRc 2).movedV = (0, 2, 0) := by decide +kernel
theorem ex_tricks_0 : (exRc 0).tricksV = (0, 2, 0) := by decide +kernel
theorem ex_tricks_1 : (exRc 1).tricksV = (0, 2, 0) := by decide +kernel
theorem ex_tricks_2 : (exRc 2).tricksV = (2, 0, 0) := by decide +kernel
theorem ex_wins_2 : winsTo (exRc 2).rnds = [2, 0] := by decide +kernel

theorem ex_ok (n : Nat) (cap : Nat) (hc : 8 ≤ cap) (hm : cap ≤ 9223372036854775807) (hw : ∀ j, W64 ((exRc n).h j)) (ht : (exRc n).t < 256) (hd : (exRc n).d < 256) : (exRc n).ok 8 cap := ⟨hw, ht, hd, hc, hm⟩
theorem hOf_w64 (l : List Nat) (h : ∀ m ∈ l, W64 m) : ∀ j, W64 (hOf l j) := by
  intro j
  unfold hOf
  by_cases hj : j < l.length
  · exact h _ (getD_mem_of_lt hj)
  · rw [List.getD_eq_getElem?_getD, List.getElem?_eq_none (by omega)]; exact W64.zero
theorem ex_w64 (n : Nat) : ∀ j, W64 ((exRc n).h j) := by
  have hm : ∀ zs, W64 (maskV zs) := fun zs => maskTo_w64 zs _
  match n with
  | 0 => exact hOf_w64 _ (fun m h => by simp at h; rcases h with rfl | rfl | rfl | rfl <;> exact hm _)
  | 1 => exact hOf_w64 _ (fun m h => by simp at h; rcases h with rfl | rfl | rfl | rfl <;> exact hm _)
  | n + 2 => exact hOf_w64 _ (fun m h => by simp at h; rcases h with rfl | rfl | rfl | rfl <;> exact hm _)
theorem ex_td (n : Nat) : (exRc n).t < 256 ∧ (exRc n).d < 256 := by
  match n with
  | 0 => decide
  | 1 => decide
  | n + 2 => exact ⟨by show 2 < 256; omega, by show 3 < 256; omega⟩
/-- the calls of one round of awake -/
theorem ex_calls (n : Nat) (w : World) (b : Nat) (hz : Byt w (some ⟨b, 0, none⟩) 8 (exRc n).zs) (hb : b < w.heap.size) (hr : (exRc n).rightV = (-1, 0)) :
    (∀ w1, Below w.heap.size w w1 → Calls Try.prog 21 #[(exRc n).v (some ⟨b, 0, none⟩) 8 8] w1 fun e w' => ∃ v, e = .returned (.tuple #[v, .int .i64 0]) ∧ OwnV w' w1.heap.size v (findAll (exRc n).rnds) ∧ Below w1.heap.size w1 w') ∧
    (∀ w1, Below w.heap.size w w1 → Calls Try.prog 19 #[(exRc n).v (some ⟨b, 0, none⟩) 8 8] w1 fun e w' => e = .returned (.tuple #[.int .i64 ((exRc n).movedV.1 : Int), .int .i64 ((exRc n).movedV.2.1 : Int), .int .i64 ((exRc n).movedV.2.2 : Int)]) ∧ Below w1.heap.size w1 w') ∧
    (∀ w1, Below w.heap.size w w1 → Calls Try.prog 20 #[(exRc n).v (some ⟨b, 0, none⟩) 8 8] w1 fun e w' => e = .returned (.tuple #[.int .i64 (exRc n).tricksV.1, .int .i64 (exRc n).tricksV.2.1, .int .i64 ((exRc n).tricksV.2.2 : Int)]) ∧ Below w1.heap.size w1 w') ∧
    (∀ w1, Below w.heap.size w w1 → Calls Try.prog 18 #[(exRc n).v (some ⟨b, 0, none⟩) 8 8] w1 fun e w' => ∃ v, e = .returned (.tuple #[v, .int .i64 0]) ∧ OwnU w' w1.heap.size v (winsTo (exRc n).rnds) ∧ Below w1.heap.size w1 w') := by
  have hok : (exRc n).ok 8 8 := ⟨ex_w64 n, (ex_td n).1, (ex_td n).2, by omega, by omega⟩
  have hd := (right_zero (r := exRc n) (by rw [hr])).1
  have hB : ∀ w1, Below w.heap.size w w1 → Byt w1 (some ⟨b, 0, none⟩) 8 (exRc n).zs ∧ ∀ ad, (some (⟨b, 0, none⟩ : Addr)) = some ad → ad.block < w1.heap.size := fun w1 hb1 => ⟨hz.below (Nat.le_refl _) hb1, fun ad h => by injection h with h; subst h; exact Nat.lt_of_lt_of_le hb hb1.size⟩
  exact ⟨fun w1 h => rev_find_ok _ _ _ _ w1 hok (hB w1 h).1 (hB w1 h).2 hd hr (by omega), fun w1 h => rev_moved _ _ _ _ w1 hok (hB w1 h).1 (hB w1 h).2 (by omega), fun w1 h => rev_tricks _ _ _ _ w1 hok (hB w1 h).1 (hB w1 h).2 (by omega), fun w1 h => rev_winners_ok _ _ _ _ w1 hok (hB w1 h).1 (hB w1 h).2 hd hr⟩
/-- finessekit.SameBytes of the same bytes -/
theorem same_true (a a2 : Option Addr) (len c c2 : Nat) (zs : List Nat) (w : World) (h1 : Byt w a len zs) (h2 : Byt w a2 len zs) :
    Calls Try.prog 30 #[.slice a len c, .slice a2 len c2] w fun e w' => e = .returned (.bool true) ∧ Below w.heap.size w w' := by
  have hsm := h1.small
  go_enter Try.func30, Try.ntmps30
  go_wp2
  go_loopw [5] (fun i wr => ∃ k : Nat, k ≤ len ∧ i = .int .i64 (k : Int) ∧ Below w.heap.size w wr) (fun i _ => len - (intOf i).toNat)
  case atStart => exact ⟨0, by omega, rfl, Below.refl _ _⟩
  case round =>
    obtain ⟨k, hk, rfl, hB⟩ := hrel
    by_cases hlt : k < len
    · obtain ⟨b, off, rfl, hb, hcs⟩ := (h1.below (Nat.le_refl _) hB).at (by omega)
      obtain ⟨b2, off2, rfl, hb2, hcs2⟩ := (h2.below (Nat.le_refl _) hB).at (by omega)
      have hc := hcs k hlt
      have hc2 := hcs2 k hlt
      have hBd := hB.drew
      clear hcs hcs2
      generalize zs.getD k 0 = z at *
      go_wp2
      go_region
      go_wp2
      go_roundw
      case rel => exact ⟨k + 1, by omega, by go_num, hBd⟩
      case measure => simp [intOf]; omega
    · obtain rfl : k = len := by omega
      go_wp2
      go_ret
      exact ⟨rfl, hB⟩
set_option maxHeartbeats 4000000 in
set_option maxRecDepth 100000 in
theorem awake_true (w : World) : Calls Try.prog 12 #[] w fun e w' => e = .returned (.bool true) ∧ Below w.heap.size w w' := by
  have hTab0 := Row.new w 72 #[.int .i64 0, .int .i64 0, .int .i64 0, .int .i64 2, .int .i64 0, .int .i64 0, .int .i64 0, .int .i64 2, .int .i64 0, .int .i64 2, .int .i64 2, .int .i64 0]
  have hU0 := (Below.refl w.heap.size w).alloc (Nat.le_refl _) (.cells #[.int .i64 0, .int .i64 0, .int .i64 0, .int .i64 2, .int .i64 0, .int .i64 0, .int .i64 0, .int .i64 2, .int .i64 0, .int .i64 2, .int .i64 2, .int .i64 0] 72)
  have hs0 : w.heap.size + 1 ≤ (w.alloc (.cells #[.int .i64 0, .int .i64 0, .int .i64 0, .int .i64 2, .int .i64 0, .int .i64 0, .int .i64 0, .int .i64 2, .int .i64 0, .int .i64 2, .int .i64 2, .int .i64 0] 72)).heap.size := by simp
  have hq0 : ∀ wx, Sem.run Try.prog (Op.equalIn 10000 72 (.agg #[.int .i64 0, .int .i64 0, .int .i64 0, .int .i64 2]) (.agg #[.int .i64 0, .int .i64 0, .int .i64 0, .int .i64 2])) wx = .ok true wx := by intro wx; kernel_rfl
  have hq2 : ∀ wx, Sem.run Try.prog (Op.equalIn 10000 72 (.agg #[.int .i64 0, .int .i64 2, .int .i64 2, .int .i64 0]) (.agg #[.int .i64 0, .int .i64 2, .int .i64 2, .int .i64 0])) wx = .ok true wx := by intro wx; kernel_rfl
  go_enter Try.func12, Try.ntmps12
  go_wp2_with fail
  generalize hU : w.alloc (.cells #[.int .i64 0, .int .i64 0, .int .i64 0, .int .i64 2, .int .i64 0, .int .i64 0, .int .i64 0, .int .i64 2, .int .i64 0, .int .i64 2, .int .i64 2, .int .i64 0] 72) = U0 at *
  clear hU
  refine wp_loop_rounds 4 ?_
  -- round 0
  have t00 := hTab0.cell (4 * 0)
  have t01 := hTab0.cell (4 * 0 + 1)
  have t02 := hTab0.cell (4 * 0 + 2)
  have t03 := hTab0.cell (4 * 0 + 3)
  simp at t00 t01 t02 t03
  rw [rounds_succ]
  go_wp2_with fail
  have hWa0 := Row.new U0 72 #[.int .i64 0, .int .i64 0, .int .i64 0, .int .i64 2]
  have hTa0 := hTab0.alloc (.cells #[.int .i64 0, .int .i64 0, .int .i64 0, .int .i64 2] 72)
  have hUa0 := hU0.alloc (Nat.le_trans (Nat.le_succ _) hs0) (.cells #[.int .i64 0, .int .i64 0, .int .i64 0, .int .i64 2] 72)
  clear t00 t01 t02 t03 hTab0 hU0
  refine (ex_0 _).mono ?_
  rintro e x0 ⟨b0, rfl, hb00, hb01, hz0, hB0⟩
  have hWb0 := hWa0.below (by simp) hB0
  have hTb0 := hTa0.below hTa0.lt hB0
  have hUb0 := hUa0.trans (hB0.mono hUa0.size)
  have hs01 := hB0.size
  simp only [World.size_alloc] at hs01
  clear hWa0 hTa0 hUa0 hB0 hb00
  obtain ⟨HF0, HM0, HT0, -⟩ := ex_calls 0 x0 b0 hz0 hb01 ex_right_0
  rw [ex_find_0] at HF0
  rw [ex_moved_0] at HM0
  rw [ex_tricks_0] at HT0
  have HFH0 := Lib.hid HF0
  have HMH0 := Lib.hid HM0
  have HTH0 := Lib.hid HT0
  clear HF0 HM0 HT0 hz0
  have hR0 := Row.new x0 27 ((exRc 0).cells (some ⟨b0, 0, none⟩) 8 8)
  have bx0 : Below x0.heap.size x0 (x0.alloc (.cells ((exRc 0).cells (some ⟨b0, 0, none⟩) 8 8) 27)) := (Below.refl _ _).alloc (Nat.le_refl _) _
  go_wp2_with fail
  refine (HFH0.out _ bx0).mono ?_
  rintro e y0 ⟨v0, rfl, ho0, hC0⟩
  obtain ⟨a0, c0, rfl, hal0⟩ := ho0.slice
  have hRy0 := hR0.below (by simp) hC0
  have hWy0 := (hWb0.alloc _).below (by rw [World.size_alloc]; exact Nat.lt_succ_of_lt hWb0.lt) hC0
  have hTy0 := (hTb0.alloc _).below (by rw [World.size_alloc]; exact Nat.lt_succ_of_lt hTb0.lt) hC0
  have bxy0 := bx0.trans (hC0.mono (by simp))
  have hUy0 := hUb0.trans (bxy0.mono hUb0.size)
  have hs02 := bxy0.size
  clear hR0 hWb0 hTb0 bx0 hUb0 hC0
  have r00 := hRy0.cell 0
  have r01 := hRy0.cell 1
  have r02 := hRy0.cell 2
  have r03 := hRy0.cell 3
  have r04 := hRy0.cell 4
  have r05 := hRy0.cell 5
  have r06 := hRy0.cell 6
  simp only [List.getElem?_toArray, List.getElem?_cons_zero, List.getElem?_cons_succ] at r00 r01 r02 r03 r04 r05 r06
  go_wp2_with fail
  refine (HMH0.out _ bxy0).mono ?_
  rintro e z0 ⟨rfl, hD0⟩
  have hRz0 := hRy0.below hRy0.lt hD0
  clear r00 r01 r02 r03 r04 r05 r06
  have r00 := hRz0.cell 0
  have r01 := hRz0.cell 1
  have r02 := hRz0.cell 2
  have r03 := hRz0.cell 3
  have r04 := hRz0.cell 4
  have r05 := hRz0.cell 5
  have r06 := hRz0.cell 6
  simp only [List.getElem?_toArray, List.getElem?_cons_zero, List.getElem?_cons_succ] at r00 r01 r02 r03 r04 r05 r06
  have bxz0 := bxy0.trans (hD0.mono (by omega))
  go_wp2_with fail
  refine (HTH0.out _ bxz0).mono ?_
  rintro e u0 ⟨rfl, hE0⟩
  have hDE0 := hD0.trans (hE0.mono hD0.size)
  have hWu0 := hWy0.below hWy0.lt hDE0
  have hTab1 := hTy0.below hTy0.lt hDE0
  have hU1 := hUy0.trans (hDE0.mono hUy0.size)
  have hs1 : w.heap.size + 1 ≤ u0.heap.size := hTab1.lt
  have w00 := hWu0.cell 0
  have w01 := hWu0.cell 1
  have w02 := hWu0.cell 2
  have w03 := hWu0.cell 3
  simp at w00 w01 w02 w03
  
  clear r00 r01 r02 r03 r04 r05 r06 hRy0 hWy0 hTy0 bxy0 hUy0 hD0 hRz0 bxz0 hE0 hDE0 hWu0 HFH0 HMH0 HTH0
  go_wp2_with fail
  clear w00 w01 w02 w03 
  generalize u0 = U1 at *
  -- round 1
  have t10 := hTab1.cell (4 * 1)
  have t11 := hTab1.cell (4 * 1 + 1)
  have t12 := hTab1.cell (4 * 1 + 2)
  have t13 := hTab1.cell (4 * 1 + 3)
  simp at t10 t11 t12 t13
  rw [rounds_succ]
  go_wp2_with fail
  have hWa1 := Row.new U1 72 #[.int .i64 0, .int .i64 0, .int .i64 0, .int .i64 2]
  have hTa1 := hTab1.alloc (.cells #[.int .i64 0, .int .i64 0, .int .i64 0, .int .i64 2] 72)
  have hUa1 := hU1.alloc (Nat.le_trans (Nat.le_succ _) hs1) (.cells #[.int .i64 0, .int .i64 0, .int .i64 0, .int .i64 2] 72)
  clear t10 t11 t12 t13 hTab1 hU1
  refine (ex_1 _).mono ?_
  rintro e x1 ⟨b1, rfl, hb10, hb11, hz1, hB1⟩
  have hWb1 := hWa1.below (by simp) hB1
  have hTb1 := hTa1.below hTa1.lt hB1
  have hUb1 := hUa1.trans (hB1.mono hUa1.size)
  have hs11 := hB1.size
  simp only [World.size_alloc] at hs11
  clear hWa1 hTa1 hUa1 hB1 hb10
  obtain ⟨HF1, HM1, HT1, -⟩ := ex_calls 1 x1 b1 hz1 hb11 ex_right_1
  rw [ex_find_1] at HF1
  rw [ex_moved_1] at HM1
  rw [ex_tricks_1] at HT1
  have HFH1 := Lib.hid HF1
  have HMH1 := Lib.hid HM1
  have HTH1 := Lib.hid HT1
  clear HF1 HM1 HT1 hz1
  have hR1 := Row.new x1 27 ((exRc 1).cells (some ⟨b1, 0, none⟩) 8 8)
  have bx1 : Below x1.heap.size x1 (x1.alloc (.cells ((exRc 1).cells (some ⟨b1, 0, none⟩) 8 8) 27)) := (Below.refl _ _).alloc (Nat.le_refl _) _
  go_wp2_with fail
  refine (HFH1.out _ bx1).mono ?_
  rintro e y1 ⟨v1, rfl, ho1, hC1⟩
  obtain ⟨a1, c1, rfl, hal1⟩ := ho1.slice
  have hRy1 := hR1.below (by simp) hC1
  have hWy1 := (hWb1.alloc _).below (by rw [World.size_alloc]; exact Nat.lt_succ_of_lt hWb1.lt) hC1
  have hTy1 := (hTb1.alloc _).below (by rw [World.size_alloc]; exact Nat.lt_succ_of_lt hTb1.lt) hC1
  have bxy1 := bx1.trans (hC1.mono (by simp))
  have hUy1 := hUb1.trans (bxy1.mono hUb1.size)
  have hs12 := bxy1.size
  clear hR1 hWb1 hTb1 bx1 hUb1 hC1
  have r10 := hRy1.cell 0
  have r11 := hRy1.cell 1
  have r12 := hRy1.cell 2
  have r13 := hRy1.cell 3
  have r14 := hRy1.cell 4
  have r15 := hRy1.cell 5
  have r16 := hRy1.cell 6
  simp only [List.getElem?_toArray, List.getElem?_cons_zero, List.getElem?_cons_succ] at r10 r11 r12 r13 r14 r15 r16
  go_wp2_with fail
  refine (HMH1.out _ bxy1).mono ?_
  rintro e z1 ⟨rfl, hD1⟩
  have hRz1 := hRy1.below hRy1.lt hD1
  clear r10 r11 r12 r13 r14 r15 r16
  have r10 := hRz1.cell 0
  have r11 := hRz1.cell 1
  have r12 := hRz1.cell 2
  have r13 := hRz1.cell 3
  have r14 := hRz1.cell 4
  have r15 := hRz1.cell 5
  have r16 := hRz1.cell 6
  simp only [List.getElem?_toArray, List.getElem?_cons_zero, List.getElem?_cons_succ] at r10 r11 r12 r13 r14 r15 r16
  have bxz1 := bxy1.trans (hD1.mono (by omega))
  go_wp2_with fail
  refine (HTH1.out _ bxz1).mono ?_
  rintro e u1 ⟨rfl, hE1⟩
  have hDE1 := hD1.trans (hE1.mono hD1.size)
  have hWu1 := hWy1.below hWy1.lt hDE1
  have hTab2 := hTy1.below hTy1.lt hDE1
  have hU2 := hUy1.trans (hDE1.mono hUy1.size)
  have hs2 : w.heap.size + 1 ≤ u1.heap.size := hTab2.lt
  have w10 := hWu1.cell 0
  have w11 := hWu1.cell 1
  have w12 := hWu1.cell 2
  have w13 := hWu1.cell 3
  simp at w10 w11 w12 w13
  obtain ⟨g1, rfl⟩ := hal1 (by simp)
  obtain ⟨g01, g11, g21, g31, g41⟩ := ownV_cells (ho1.below hDE1) 0 rfl
  simp at g01 g11 g21 g31 g41
  clear r10 r11 r12 r13 r14 r15 r16 hRy1 hWy1 hTy1 bxy1 hUy1 hD1 hRz1 bxz1 hE1 hDE1 hWu1 HFH1 HMH1 HTH1
  go_wp2_with fail
  clear w10 w11 w12 w13 g01 g11 g21 g31 g41
  generalize u1 = U2 at *
  -- round 2
  have t20 := hTab2.cell (4 * 2)
  have t21 := hTab2.cell (4 * 2 + 1)
  have t22 := hTab2.cell (4 * 2 + 2)
  have t23 := hTab2.cell (4 * 2 + 3)
  simp at t20 t21 t22 t23
  rw [rounds_succ]
  go_wp2_with fail
  have hWa2 := Row.new U2 72 #[.int .i64 0, .int .i64 2, .int .i64 2, .int .i64 0]
  have hTa2 := hTab2.alloc (.cells #[.int .i64 0, .int .i64 2, .int .i64 2, .int .i64 0] 72)
  have hUa2 := hU2.alloc (Nat.le_trans (Nat.le_succ _) hs2) (.cells #[.int .i64 0, .int .i64 2, .int .i64 2, .int .i64 0] 72)
  clear t20 t21 t22 t23 hTab2 hU2
  refine (ex_2 _).mono ?_
  rintro e x2 ⟨b2, rfl, hb20, hb21, hz2, hB2⟩
  have hWb2 := hWa2.below (by simp) hB2
  have hTb2 := hTa2.below hTa2.lt hB2
  have hUb2 := hUa2.trans (hB2.mono hUa2.size)
  have hs21 := hB2.size
  simp only [World.size_alloc] at hs21
  clear hWa2 hTa2 hUa2 hB2 hb20
  obtain ⟨HF2, HM2, HT2, -⟩ := ex_calls 2 x2 b2 hz2 hb21 ex_right_2
  rw [ex_find_2] at HF2
  rw [ex_moved_2] at HM2
  rw [ex_tricks_2] at HT2
  have HFH2 := Lib.hid HF2
  have HMH2 := Lib.hid HM2
  have HTH2 := Lib.hid HT2
  clear HF2 HM2 HT2 hz2
  have hR2 := Row.new x2 27 ((exRc 2).cells (some ⟨b2, 0, none⟩) 8 8)
  have bx2 : Below x2.heap.size x2 (x2.alloc (.cells ((exRc 2).cells (some ⟨b2, 0, none⟩) 8 8) 27)) := (Below.refl _ _).alloc (Nat.le_refl _) _
  go_wp2_with fail
  refine (HFH2.out _ bx2).mono ?_
  rintro e y2 ⟨v2, rfl, ho2, hC2⟩
  obtain ⟨a2, c2, rfl, hal2⟩ := ho2.slice
  have hRy2 := hR2.below (by simp) hC2
  have hWy2 := (hWb2.alloc _).below (by rw [World.size_alloc]; exact Nat.lt_succ_of_lt hWb2.lt) hC2
  have hTy2 := (hTb2.alloc _).below (by rw [World.size_alloc]; exact Nat.lt_succ_of_lt hTb2.lt) hC2
  have bxy2 := bx2.trans (hC2.mono (by simp))
  have hUy2 := hUb2.trans (bxy2.mono hUb2.size)
  have hs22 := bxy2.size
  clear hR2 hWb2 hTb2 bx2 hUb2 hC2
  have r20 := hRy2.cell 0
  have r21 := hRy2.cell 1
  have r22 := hRy2.cell 2
  have r23 := hRy2.cell 3
  have r24 := hRy2.cell 4
  have r25 := hRy2.cell 5
  have r26 := hRy2.cell 6
  simp only [List.getElem?_toArray, List.getElem?_cons_zero, List.getElem?_cons_succ] at r20 r21 r22 r23 r24 r25 r26
  go_wp2_with fail
  refine (HMH2.out _ bxy2).mono ?_
  rintro e z2 ⟨rfl, hD2⟩
  have hRz2 := hRy2.below hRy2.lt hD2
  clear r20 r21 r22 r23 r24 r25 r26
  have r20 := hRz2.cell 0
  have r21 := hRz2.cell 1
  have r22 := hRz2.cell 2
  have r23 := hRz2.cell 3
  have r24 := hRz2.cell 4
  have r25 := hRz2.cell 5
  have r26 := hRz2.cell 6
  simp only [List.getElem?_toArray, List.getElem?_cons_zero, List.getElem?_cons_succ] at r20 r21 r22 r23 r24 r25 r26
  have bxz2 := bxy2.trans (hD2.mono (by omega))
  go_wp2_with fail
  refine (HTH2.out _ bxz2).mono ?_
  rintro e u2 ⟨rfl, hE2⟩
  have hDE2 := hD2.trans (hE2.mono hD2.size)
  have hWu2 := hWy2.below hWy2.lt hDE2
  have hTab3 := hTy2.below hTy2.lt hDE2
  have hU3 := hUy2.trans (hDE2.mono hUy2.size)
  have hs3 : w.heap.size + 1 ≤ u2.heap.size := hTab3.lt
  have w20 := hWu2.cell 0
  have w21 := hWu2.cell 1
  have w22 := hWu2.cell 2
  have w23 := hWu2.cell 3
  simp at w20 w21 w22 w23
  obtain ⟨g2, rfl⟩ := hal2 (by simp)
  obtain ⟨g02, g12, g22, g32, g42⟩ := ownV_cells (ho2.below hDE2) 0 rfl
  simp at g02 g12 g22 g32 g42
  clear r20 r21 r22 r23 r24 r25 r26 hRy2 hWy2 hTy2 bxy2 hUy2 hD2 hRz2 bxz2 hE2 hDE2 hWu2 HFH2 HMH2 HTH2
  go_wp2_with fail
  clear w20 w21 w22 w23 g02 g12 g22 g32 g42
  generalize u2 = U3 at *
  rw [rounds_succ]
  go_wp2_with fail
  refine (ex_2 U3).mono ?_
  rintro e x3 ⟨b3, rfl, hb30, hb31, hz3, hB3⟩
  obtain ⟨-, -, -, HW3⟩ := ex_calls 2 x3 b3 hz3 hb31 ex_right_2
  rw [ex_wins_2] at HW3
  have HWH := Lib.hid HW3
  clear HW3
  go_wp2_with fail
  refine (HWH.out x3 (Below.refl _ _)).mono ?_
  rintro e y3 ⟨v3, rfl, ho3, hC3⟩
  obtain ⟨a3, c3, he3, -, -, -, -, hby3⟩ := ho3.byt (by simp) (byte_lit _ (by decide))
  have he3' : v3 = .slice a3 2 c3 := he3
  subst he3'
  have hs := same_true a3 (some ⟨y3.heap.size, 0, none⟩) 2 c3 2 [2, 0] (y3.alloc (.cells #[.int .u8 2, .int .u8 0] 5)) (hby3.below (Nat.le_refl _) ((Below.refl _ _).alloc (Nat.le_refl _) _)) (byt_new _ _ rfl [2, 0] _ _ (by decide) (byte_lit _ (by decide)) rfl)
  have hsz3 := hB3.size
  have hsz4 := hC3.size
  have hF := Lib.hid ((hU3.trans (hB3.mono hU3.size)).trans (hC3.mono (by omega)))
  have HS := Lib.hid hs
  clear hs
  go_wp2_with fail
  refine HS.out.mono ?_
  rintro e w' ⟨rfl, hG⟩
  have hG2 := Lib.hid ((hF.out.alloc hF.out.size (.cells #[.int .u8 2, .int .u8 0] 5)).trans (hG.mono (by simp; omega)))
  go_wp2
  go_ret
  exact ⟨rfl, hG2.out⟩
end Go.Proofs.Ytdlnilebnobllaa
