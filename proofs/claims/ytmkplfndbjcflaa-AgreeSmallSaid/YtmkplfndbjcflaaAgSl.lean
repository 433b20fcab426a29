/- The body of AgreeSmall over this seat's program. -/
import Derived.Test.YtmkplfndbjcflaaAgTl
import Derived.Test.YtmkplfndbjcflaaRgK
import Derived.Test.YtmkplfndbjcflaaRely
namespace Go.Proofs.Ytmkplfndbjcflaa
open Go.RowKit Go.Sort Go.Shelf Cnt

/-- the seven masks -/
def mk7 : Nat → Nat
  | 0 => 0 | 1 => 4503599627370495 | 2 => 8191 | 3 => 2251799813685248 | 4 => 4503599627370496 | 5 => 18446744073709551615 | _ => 281509340647936
abbrev mrow : Array Value := #[.int .u64 0, .int .u64 4503599627370495, .int .u64 8191, .int .u64 2251799813685248, .int .u64 4503599627370496, .int .u64 18446744073709551615, .int .u64 281509340647936]
theorem mrow_get (k : Nat) (h : k < 7) : mrow[k]? = some (.int .u64 ((mk7 k : Nat) : Int)) := by
  rcases (show k = 0 ∨ k = 1 ∨ k = 2 ∨ k = 3 ∨ k = 4 ∨ k = 5 ∨ k = 6 by omega) with rfl | rfl | rfl | rfl | rfl | rfl | rfl <;> rfl
theorem mk7_w64 (k : Nat) : W64 (mk7 k) := by
  unfold mk7 W64
  split <;> decide
/-- the nine numbers -/
def xs9 : Nat → Int
  | 0 => -1 | 1 => 0 | 2 => 1 | 3 => 12 | 4 => 13 | 5 => 14 | 6 => 39 | 7 => 40 | _ => 41
abbrev xrow : Array Value := #[.int .i64 (-1), .int .i64 0, .int .i64 1, .int .i64 12, .int .i64 13, .int .i64 14, .int .i64 39, .int .i64 40, .int .i64 41]
theorem xrow_get (k : Nat) (h : k < 9) : xrow[k]? = some (.int .i64 (xs9 k)) := by
  rcases (show k = 0 ∨ k = 1 ∨ k = 2 ∨ k = 3 ∨ k = 4 ∨ k = 5 ∨ k = 6 ∨ k = 7 ∨ k = 8 by omega) with rfl | rfl | rfl | rfl | rfl | rfl | rfl | rfl | rfl <;> rfl
def rgOf (f : Nat → Int) : Rg := ⟨f 0, f 1, f 2, f 3, f 4, f 5, f 6, f 7, f 8, f 9⟩
theorem rgOf_arr (f : Nat → Int) : (rgOf f).arr = tabI 10 f := rfl
/-- a list that is not empty lies in a block -/
theorem own21 {w : World} {base : Nat} {v : Value} (h : OwnR w base v (List.replicate 21 rgAll)) : ∃ g cap, v = .slice (some ⟨g, 0, none⟩) 21 cap ∧ 21 ≤ cap ∧ ∀ k, k ≤ 21 → Rgs w (some ⟨g, 0, none⟩) k (List.replicate k rgAll) := by
  rcases h.2 with ⟨_, h0⟩ | ⟨g, cap, cur, hv, hb, hg, hn, -, hsz, htk⟩
  · rw [List.length_replicate] at h0; omega
  · rw [List.length_replicate] at hv hn
    obtain ⟨a, c, e, hr, -, -⟩ := h.rgs (by rw [List.length_replicate]; omega)
    rw [List.length_replicate] at e hr
    rw [hv] at e
    simp only [Value.slice.injEq, true_and] at e
    obtain ⟨rfl, rfl⟩ := e
    refine ⟨g, cap, hv, hn, fun k hk => ⟨List.length_replicate, by omega, ?_⟩⟩
    rcases hr.cells with h0 | ⟨b, off, e, hl, hc⟩
    · omega
    · refine .inr ⟨b, off, e, hl, fun i r hi j hj => hc i r ?_ j hj⟩
      have hik : i < k := by have := (List.getElem?_eq_some_iff.1 hi).1; rwa [List.length_replicate] at this
      rw [List.getElem?_replicate, if_pos hik] at hi
      rw [List.getElem?_replicate, if_pos (by omega)]
      exact hi
set_option maxHeartbeats 4000000 in
set_option maxRecDepth 20000 in
theorem law_AgreeSmall (w : World) :
    Calls Try.prog 6 #[] w fun e w' => e = .returned (.bool true) ∧ Below w.heap.size w w' := by
  go_enter Try.func6, Try.ntmps6
  go_wp2_with fail
  have hb0 : Below w.heap.size w (w.alloc (.cells mrow 22)) := (Below.refl _ _).alloc (Nat.le_refl _) _
  have hm0 : Row (w.alloc (.cells mrow 22)) w.heap.size 22 mrow := Row.new _ _ _
  go_loopw [24] (fun i wr => ∃ (k : Nat), k ≤ 10 ∧ i = .int .i64 (k : Int) ∧ Below w.heap.size w wr ∧ Row wr w.heap.size 22 mrow) (fun i _ => 10 - (intOf i).toNat)
  case atStart => exact ⟨0, by omega, rfl, hb0, hm0⟩
  case round =>
    clear hb0 hm0
    obtain ⟨i, hi, rfl, hB, hM⟩ := hrel
    have HB := Lib.hid hB
    have HM := Lib.hid hM
    clear hB hM
    by_cases hlt : i < 10
    · have hd : decide ((i : Int) < 10) = true := by simp; omega
      go_wp2_with fail
      have hb1 : Below w.heap.size w (wr.alloc (.cells xrow 3)) := HB.out.alloc HB.out.size _
      have hm1 : Row (wr.alloc (.cells xrow 3)) w.heap.size 22 mrow := HM.out.alloc _
      have hx1 : Row (wr.alloc (.cells xrow 3)) wr.heap.size 3 xrow := Row.new _ _ _
      generalize wr.heap.size = bx at *
      clear HB HM
      go_loopw [29] (fun j wr => ∃ (k : Nat), k ≤ 9 ∧ j = .int .i64 (k : Int) ∧ Below w.heap.size w wr ∧ Row wr w.heap.size 22 mrow ∧ Row wr bx 3 xrow) (fun j _ => 9 - (intOf j).toNat)
      case atStart => exact ⟨0, by omega, rfl, hb1, hm1, hx1⟩
      case round =>
        clear hb1 hm1 hx1
        obtain ⟨j, hj, rfl, hB, hM, hX⟩ := hrel
        have c0 := hX.cell j
        have HB := Lib.hid hB
        have HM := Lib.hid hM
        have HX := Lib.hid hX
        clear hB hM hX
        by_cases hlj : j < 9
        · have hdj : decide ((j : Int) < 9) = true := by simp; omega
          have hji : (j : Int) < 9 := by omega
          rw [xrow_get j hlj] at c0
          generalize xs9 j = x at *
          go_wp2_with fail
          refine (law_all _).mono ?_
          rintro e w1 ⟨rfl, hb1⟩
          have HB1 := Lib.hid (HB.out.trans (hb1.mono HB.out.size))
          have HM1 := Lib.hid (HM.out.later hb1)
          have HX1 := Lib.hid (HX.out.later hb1)
          clear hb1 HB HM HX c0
          go_upto_if 36 with fail
          have hb5 : Below w.heap.size w (w1.alloc (.cells rgAll.arr 39)) := HB1.out.alloc HB1.out.size _
          have hm5 : Row (w1.alloc (.cells rgAll.arr 39)) w.heap.size 22 mrow := HM1.out.alloc _
          have hx5 : Row (w1.alloc (.cells rgAll.arr 39)) bx 3 xrow := HX1.out.alloc _
          have hr5 : Row (w1.alloc (.cells rgAll.arr 39)) w1.heap.size 39 (tabI 10 rgAll.cell) := Row.new _ _ _
          have hn5 : w.heap.size < w1.heap.size ∧ bx < w1.heap.size := ⟨HM1.out.lt, HX1.out.lt⟩
          have hw5 : w.heap.size ≤ w1.heap.size := HB1.out.size
          generalize w1.heap.size = b5 at *
          generalize w1.alloc (.cells rgAll.arr 39) = W5 at *
          have HS : Hid (∀ i, i < 10 → Below w.heap.size w (W5.setCell ⟨b5, i, none⟩ (.int .i64 x)) ∧ Row (W5.setCell ⟨b5, i, none⟩ (.int .i64 x)) w.heap.size 22 mrow ∧ Row (W5.setCell ⟨b5, i, none⟩ (.int .i64 x)) bx 3 xrow ∧ Row (W5.setCell ⟨b5, i, none⟩ (.int .i64 x)) b5 39 (tabI 10 (putF rgAll.cell i x))) := Lib.hid fun i hi => by
            refine ⟨hb5.setCell (p := ⟨b5, i, none⟩) hw5 _, hm5.other (by omega), hx5.other (by omega), ?_⟩
            have := hr5.set i (.int .i64 x)
            rwa [tabI_set] at this
          have HR5 := Lib.hid hr5
          have HN5 := Lib.hid (And.intro hw5 hn5)
          clear hb5 hm5 hx5 hr5 hn5 hw5 HB1 HM1 HX1
          go_cut [29] from 29 to 78 (fun v wx => v = .int .i64 (j : Int) ∧ Below w.heap.size w wx ∧ Row wx w.heap.size 22 mrow ∧ Row wx bx 3 xrow ∧ Row wx b5 39 (tabI 10 (putF rgAll.cell i x)))
          case first =>
            clear hd hdj
            have hfz := fun k => HR5.out.frozen k
            have hcl := fun k hk => (HR5.out.cell k).trans (tabI_get 10 rgAll.cell k hk)
            have hi10 : i = 0 ∨ i = 1 ∨ i = 2 ∨ i = 3 ∨ i = 4 ∨ i = 5 ∨ i = 6 ∨ i = 7 ∨ i = 8 ∨ i = 9 := by omega
            have hj9 := Lib.hid hlj
            clear hi hlt hj hlj
            rcases hi10 with rfl | rfl | rfl | rfl | rfl | rfl | rfl | rfl | rfl | rfl
            · have f0 := hfz 0
              have f1 := hcl 0 (by decide)
              have HT := Lib.hid (HS.out 0 (by decide))
              clear hfz hcl
              go_wp2_with fail
              go_meet
              exact ⟨rfl, HT.out⟩
            · have f0 := hfz 1
              have f1 := hcl 1 (by decide)
              have HT := Lib.hid (HS.out 1 (by decide))
              clear hfz hcl
              go_wp2_with fail
              go_meet
              exact ⟨rfl, HT.out⟩
            · have f0 := hfz 2
              have f1 := hcl 2 (by decide)
              have HT := Lib.hid (HS.out 2 (by decide))
              clear hfz hcl
              go_wp2_with fail
              go_meet
              exact ⟨rfl, HT.out⟩
            · have f0 := hfz 3
              have f1 := hcl 3 (by decide)
              have HT := Lib.hid (HS.out 3 (by decide))
              clear hfz hcl
              go_wp2_with fail
              go_meet
              exact ⟨rfl, HT.out⟩
            · have f0 := hfz 4
              have f1 := hcl 4 (by decide)
              have HT := Lib.hid (HS.out 4 (by decide))
              clear hfz hcl
              go_wp2_with fail
              go_meet
              exact ⟨rfl, HT.out⟩
            · have f0 := hfz 5
              have f1 := hcl 5 (by decide)
              have HT := Lib.hid (HS.out 5 (by decide))
              clear hfz hcl
              go_wp2_with fail
              go_meet
              exact ⟨rfl, HT.out⟩
            · have f0 := hfz 6
              have f1 := hcl 6 (by decide)
              have HT := Lib.hid (HS.out 6 (by decide))
              clear hfz hcl
              go_wp2_with fail
              go_meet
              exact ⟨rfl, HT.out⟩
            · have f0 := hfz 7
              have f1 := hcl 7 (by decide)
              have HT := Lib.hid (HS.out 7 (by decide))
              clear hfz hcl
              go_wp2_with fail
              go_meet
              exact ⟨rfl, HT.out⟩
            · have f0 := hfz 8
              have f1 := hcl 8 (by decide)
              have HT := Lib.hid (HS.out 8 (by decide))
              clear hfz hcl
              go_wp2_with fail
              go_meet
              exact ⟨rfl, HT.out⟩
            · have f0 := hfz 9
              have f1 := hcl 9 (by decide)
              have HT := Lib.hid (HS.out 9 (by decide))
              clear hfz hcl
              go_wp2_with fail
              go_meet
              exact ⟨rfl, HT.out⟩
          obtain ⟨rfl, hB7, hM7, hX7, hR7⟩ := hcut
          obtain ⟨f, HF⟩ : ∃ f, Hid (putF rgAll.cell i x = f) := ⟨_, Lib.hid rfl⟩
          rw [HF.out, ← rgOf_arr] at hR7
          have HB7 := Lib.hid hB7
          have HM7 := Lib.hid hM7
          have HX7 := Lib.hid hX7
          have HR7 := Lib.hid hR7
          clear hB7 hM7 hX7 hR7 HS HR5
          go_upto_region 12 with fail
          obtain ⟨a7, HA7⟩ : ∃ x, Hid ((i + j) % 7 = x) := ⟨_, Lib.hid rfl⟩
          obtain ⟨j7, HJ7⟩ : ∃ x, Hid (j % 7 = x) := ⟨_, Lib.hid rfl⟩
          -- REGION12
          refine wp_region_relies (fun w1 => Below w.heap.size w w1 ∧ Row w1 w.heap.size 22 mrow ∧ Row w1 bx 3 xrow ∧ Row w1 b5 39 (rgOf f).arr)
            (fun ix v w1 => match ix with
              | 0 => v = .slice (some ⟨w.heap.size, 0, none⟩) 7 7
              | 1 => v = .int .i64 ((i : Nat) : Int)
              | 2 => v = .int .i64 ((j : Nat) : Int)
              | 3 => v = .int .i64 ((i + j : Nat) : Int)
              | 4 => v = .slice (some ⟨w.heap.size, 0, none⟩) 7 7
              | 5 => v = .int .i64 ((7 : Nat) : Int)
              | 6 => v = .int .i64 ((a7 : Nat) : Int)
              | 7 => v = .pointer (some ⟨w.heap.size, a7, none⟩)
              | 8 => v = .int .u64 ((mk7 a7 : Nat) : Int)
              | 9 => v = .slice (some ⟨w.heap.size, 0, none⟩) 7 7
              | 10 => v = .int .i64 ((j : Nat) : Int)
              | 11 => v = .slice (some ⟨w.heap.size, 0, none⟩) 7 7
              | 12 => v = .int .i64 ((7 : Nat) : Int)
              | 13 => v = .int .i64 ((j7 : Nat) : Int)
              | 14 => v = .pointer (some ⟨w.heap.size, j7, none⟩)
              | 15 => v = .int .u64 ((mk7 j7 : Nat) : Int)
              | 16 => v = .int .i64 ((i : Nat) : Int)
              | 17 => v = .int .i64 ((3 * i : Nat) : Int)
              | 18 => v = .int .i64 ((j : Nat) : Int)
              | 19 => v = .int .i64 ((3 * i + j : Nat) : Int)
              | 20 => v = .int .i64 (((3 * i + j) % 16 : Nat) : Int)
              | 21 => v = .int .i64 (((((3 * i + j) % 16 : Nat)) : Int) - 1)
              | 22 => v = (rgOf f).v
              | 23 => ∃ g, v = .slice (some ⟨g, 0, none⟩) 1 1 ∧ Rgs w1 (some ⟨g, 0, none⟩) 1 [rgOf f]
              | 24 => v = rgAll.v
              | 25 => ∃ g, v = .slice (some ⟨g, 0, none⟩) 1 1 ∧ Rgs w1 (some ⟨g, 0, none⟩) 1 [rgAll]
              | 26 => v = .bool true
              | 27 => v = .bool false
              | _ => True) (by kernel_rfl) (by kernel_rfl) (by kernel_rfl) (by kernel_rfl) ?_ ?_ ?obls ?fini
          · intro i v w1 w2 h hb
            rcases i with _ | _ | _ | _ | _ | _ | _ | _ | _ | _ | _ | _ | _ | _ | _ | _ | _ | _ | _ | _ | _ | _ | _ | _ | _ | _ | _ | _ | i
            · exact h
            · exact h
            · exact h
            · exact h
            · exact h
            · exact h
            · exact h
            · exact h
            · exact h
            · exact h
            · exact h
            · exact h
            · exact h
            · exact h
            · exact h
            · exact h
            · exact h
            · exact h
            · exact h
            · exact h
            · exact h
            · exact h
            · exact h
            · obtain ⟨g, h1, h2⟩ := h; exact ⟨g, h1, h2.below (Nat.le_refl _) hb⟩
            · exact h
            · obtain ⟨g, h1, h2⟩ := h; exact ⟨g, h1, h2.below (Nat.le_refl _) hb⟩
            · exact h
            · exact h
            · trivial
          · exact ⟨HB7.out.drew, HM7.out.later (Below.refl _ _).drew, HX7.out.later (Below.refl _ _).drew, HR7.out.later (Below.refl _ _).drew⟩
          case obls =>
            refine ⟨?_, ?_, ?_, ?_, ?_, ?_, ?_, ?_, ?_, ?_, ?_, ?_, ?_, ?_, ?_, ?_, ?_, ?_, ?_, ?_, ?_, ?_, ?_, ?_, ?_, ?_, ?_, ?_, trivial⟩
            · -- 0: 50 := Op.move t1
              intro ρ w1 hC hf
              show OpOk _ _ _ _ _
              have f1 : ρ (.tmp 1) = .slice (some ⟨w.heap.size, 0, none⟩) 7 7 := hf.1 1 (by simp [Op.operands])
              refine ok_value (v := .slice (some ⟨w.heap.size, 0, none⟩) 7 7) (w' := w1) ?_ ⟨Below.refl _ _, hC, rfl⟩
              simp [execOp, f1]
            · -- 1: 51 := Op.move t2
              intro ρ w1 hC hf
              show OpOk _ _ _ _ _
              have f2 : ρ (.tmp 2) = .int .i64 (i : Int) := hf.1 2 (by simp [Op.operands])
              refine ok_value (v := .int .i64 ((i : Nat) : Int)) (w' := w1) ?_ ⟨Below.refl _ _, hC, rfl⟩
              simp [execOp, f2]
            · -- 2: 52 := Op.move t3
              intro ρ w1 hC hf
              show OpOk _ _ _ _ _
              have f3 : ρ (.tmp 3) = .int .i64 (j : Int) := hf.1 3 (by simp [Op.operands])
              refine ok_value (v := .int .i64 ((j : Nat) : Int)) (w' := w1) ?_ ⟨Below.refl _ _, hC, rfl⟩
              simp [execOp, f3]
            · -- 3: 53 := Op.binOp BinOp.add 3 t51 t52 3
              intro ρ w1 hC hf
              show OpOk _ _ _ _ _
              have f51 : ρ (.tmp 51) = .int .i64 ((i : Nat) : Int) := hf.1 51 (by simp [Op.operands])
              have f52 : ρ (.tmp 52) = .int .i64 ((j : Nat) : Int) := hf.1 52 (by simp [Op.operands])
              refine ok_value (v := .int .i64 ((i + j : Nat) : Int)) (w' := w1) ?_ ⟨Below.refl _ _, hC, rfl⟩
              simp [execOp, f51, f52, go_sem]
              exact IntWalk.i64_in _ (by omega)
            · -- 4: 54 := Op.move t1
              intro ρ w1 hC hf
              show OpOk _ _ _ _ _
              have f1 : ρ (.tmp 1) = .slice (some ⟨w.heap.size, 0, none⟩) 7 7 := hf.1 1 (by simp [Op.operands])
              refine ok_value (v := .slice (some ⟨w.heap.size, 0, none⟩) 7 7) (w' := w1) ?_ ⟨Below.refl _ _, hC, rfl⟩
              simp [execOp, f1]
            · -- 5: 55 := Op.call ( builtin len, args := #[t54], argTypes :=
              intro ρ w1 hC hf
              show OpOk _ _ _ _ _
              have f54 : ρ (.tmp 54) = .slice (some ⟨w.heap.size, 0, none⟩) 7 7 := hf.1 54 (by simp [Op.operands, Call.operands])
              refine ok_value (v := .int .i64 ((7 : Nat) : Int)) (w' := w1) ?_ ⟨Below.refl _ _, hC, rfl⟩
              simp [f54, go_sem]
            · -- 6: 56 := Op.binOp BinOp.rem 3 t53 t55 3
              intro ρ w1 hC hf
              show OpOk _ _ _ _ _
              have f53 : ρ (.tmp 53) = .int .i64 ((i + j : Nat) : Int) := hf.1 53 (by simp [Op.operands])
              have f55 : ρ (.tmp 55) = .int .i64 ((7 : Nat) : Int) := hf.1 55 (by simp [Op.operands])
              refine ok_value (v := .int .i64 ((a7 : Nat) : Int)) (w' := w1) ?_ ⟨Below.refl _ _, hC, rfl⟩
              simp [execOp, f53, f55, go_sem]
              rw [Int.tmod_eq_emod_of_nonneg (by omega)]; have := HA7.out; omega
            · -- 7: 57 := Op.indexAddr 42 t50 t56
              intro ρ w1 hC hf
              show OpOk _ _ _ _ _
              have f50 : ρ (.tmp 50) = .slice (some ⟨w.heap.size, 0, none⟩) 7 7 := hf.1 50 (by simp [Op.operands])
              have f56 : ρ (.tmp 56) = .int .i64 ((a7 : Nat) : Int) := hf.1 56 (by simp [Op.operands])
              have hq : a7 < 7 := by have := HA7.out; omega
              have hqi : (a7 : Int) < 7 := by omega
              refine ok_value (v := .pointer (some ⟨w.heap.size, a7, none⟩)) (w' := w1) ?_ ⟨Below.refl _ _, hC, rfl⟩
              simp [execOp, f50, f56, go_sem, hqi]
            · -- 8: 58 := Op.load 22 t57
              intro ρ w1 hC hf
              show OpOk _ _ _ _ _
              have f57 : ρ (.tmp 57) = .pointer (some ⟨w.heap.size, a7, none⟩) := hf.1 57 (by simp [Op.operands])
              have hq : w1.cell? ⟨w.heap.size, a7, none⟩ = some (.int .u64 ((mk7 a7 : Nat) : Int)) := (hC.2.1.cell _).trans (mrow_get _ (by have := HA7.out; omega))
              refine ok_value (v := .int .u64 ((mk7 a7 : Nat) : Int)) (w' := w1) ?_ ⟨Below.refl _ _, hC, rfl⟩
              simp [execOp, f57, go_sem, hq]
            · -- 9: 59 := Op.move t1
              intro ρ w1 hC hf
              show OpOk _ _ _ _ _
              have f1 : ρ (.tmp 1) = .slice (some ⟨w.heap.size, 0, none⟩) 7 7 := hf.1 1 (by simp [Op.operands])
              refine ok_value (v := .slice (some ⟨w.heap.size, 0, none⟩) 7 7) (w' := w1) ?_ ⟨Below.refl _ _, hC, rfl⟩
              simp [execOp, f1]
            · -- 10: 60 := Op.move t3
              intro ρ w1 hC hf
              show OpOk _ _ _ _ _
              have f3 : ρ (.tmp 3) = .int .i64 (j : Int) := hf.1 3 (by simp [Op.operands])
              refine ok_value (v := .int .i64 ((j : Nat) : Int)) (w' := w1) ?_ ⟨Below.refl _ _, hC, rfl⟩
              simp [execOp, f3]
            · -- 11: 61 := Op.move t1
              intro ρ w1 hC hf
              show OpOk _ _ _ _ _
              have f1 : ρ (.tmp 1) = .slice (some ⟨w.heap.size, 0, none⟩) 7 7 := hf.1 1 (by simp [Op.operands])
              refine ok_value (v := .slice (some ⟨w.heap.size, 0, none⟩) 7 7) (w' := w1) ?_ ⟨Below.refl _ _, hC, rfl⟩
              simp [execOp, f1]
            · -- 12: 62 := Op.call ( builtin len, args := #[t61], argTypes :=
              intro ρ w1 hC hf
              show OpOk _ _ _ _ _
              have f61 : ρ (.tmp 61) = .slice (some ⟨w.heap.size, 0, none⟩) 7 7 := hf.1 61 (by simp [Op.operands, Call.operands])
              refine ok_value (v := .int .i64 ((7 : Nat) : Int)) (w' := w1) ?_ ⟨Below.refl _ _, hC, rfl⟩
              simp [f61, go_sem]
            · -- 13: 63 := Op.binOp BinOp.rem 3 t60 t62 3
              intro ρ w1 hC hf
              show OpOk _ _ _ _ _
              have f60 : ρ (.tmp 60) = .int .i64 ((j : Nat) : Int) := hf.1 60 (by simp [Op.operands])
              have f62 : ρ (.tmp 62) = .int .i64 ((7 : Nat) : Int) := hf.1 62 (by simp [Op.operands])
              refine ok_value (v := .int .i64 ((j7 : Nat) : Int)) (w' := w1) ?_ ⟨Below.refl _ _, hC, rfl⟩
              simp [execOp, f60, f62, go_sem]
              rw [Int.tmod_eq_emod_of_nonneg (by omega)]; have := HJ7.out; omega
            · -- 14: 64 := Op.indexAddr 42 t59 t63
              intro ρ w1 hC hf
              show OpOk _ _ _ _ _
              have f59 : ρ (.tmp 59) = .slice (some ⟨w.heap.size, 0, none⟩) 7 7 := hf.1 59 (by simp [Op.operands])
              have f63 : ρ (.tmp 63) = .int .i64 ((j7 : Nat) : Int) := hf.1 63 (by simp [Op.operands])
              have hq : j7 < 7 := by have := HJ7.out; omega
              have hqi : (j7 : Int) < 7 := by omega
              refine ok_value (v := .pointer (some ⟨w.heap.size, j7, none⟩)) (w' := w1) ?_ ⟨Below.refl _ _, hC, rfl⟩
              simp [execOp, f59, f63, go_sem, hqi]
            · -- 15: 65 := Op.load 22 t64
              intro ρ w1 hC hf
              show OpOk _ _ _ _ _
              have f64 : ρ (.tmp 64) = .pointer (some ⟨w.heap.size, j7, none⟩) := hf.1 64 (by simp [Op.operands])
              have hq : w1.cell? ⟨w.heap.size, j7, none⟩ = some (.int .u64 ((mk7 j7 : Nat) : Int)) := (hC.2.1.cell _).trans (mrow_get _ (by have := HJ7.out; omega))
              refine ok_value (v := .int .u64 ((mk7 j7 : Nat) : Int)) (w' := w1) ?_ ⟨Below.refl _ _, hC, rfl⟩
              simp [execOp, f64, go_sem, hq]
            · -- 16: 66 := Op.move t2
              intro ρ w1 hC hf
              show OpOk _ _ _ _ _
              have f2 : ρ (.tmp 2) = .int .i64 (i : Int) := hf.1 2 (by simp [Op.operands])
              refine ok_value (v := .int .i64 ((i : Nat) : Int)) (w' := w1) ?_ ⟨Below.refl _ _, hC, rfl⟩
              simp [execOp, f2]
            · -- 17: 67 := Op.binOp BinOp.mul 3 (const (3:i64)) t66 3
              intro ρ w1 hC hf
              show OpOk _ _ _ _ _
              have f66 : ρ (.tmp 66) = .int .i64 ((i : Nat) : Int) := hf.1 66 (by simp [Op.operands])
              refine ok_value (v := .int .i64 ((3 * i : Nat) : Int)) (w' := w1) ?_ ⟨Below.refl _ _, hC, rfl⟩
              simp [execOp, f66, hf.2.1, go_sem]
              exact IntWalk.i64_in _ (by omega)
            · -- 18: 68 := Op.move t3
              intro ρ w1 hC hf
              show OpOk _ _ _ _ _
              have f3 : ρ (.tmp 3) = .int .i64 (j : Int) := hf.1 3 (by simp [Op.operands])
              refine ok_value (v := .int .i64 ((j : Nat) : Int)) (w' := w1) ?_ ⟨Below.refl _ _, hC, rfl⟩
              simp [execOp, f3]
            · -- 19: 69 := Op.binOp BinOp.add 3 t67 t68 3
              intro ρ w1 hC hf
              show OpOk _ _ _ _ _
              have f67 : ρ (.tmp 67) = .int .i64 ((3 * i : Nat) : Int) := hf.1 67 (by simp [Op.operands])
              have f68 : ρ (.tmp 68) = .int .i64 ((j : Nat) : Int) := hf.1 68 (by simp [Op.operands])
              refine ok_value (v := .int .i64 ((3 * i + j : Nat) : Int)) (w' := w1) ?_ ⟨Below.refl _ _, hC, rfl⟩
              simp [execOp, f67, f68, go_sem]
              exact IntWalk.i64_in _ (by omega)
            · -- 20: 70 := Op.binOp BinOp.rem 3 t69 (const (16:i64)) 3
              intro ρ w1 hC hf
              show OpOk _ _ _ _ _
              have f69 : ρ (.tmp 69) = .int .i64 ((3 * i + j : Nat) : Int) := hf.1 69 (by simp [Op.operands])
              refine ok_value (v := .int .i64 (((3 * i + j) % 16 : Nat) : Int)) (w' := w1) ?_ ⟨Below.refl _ _, hC, rfl⟩
              simp [execOp, f69, hf.2.1, go_sem]
              exact Int.tmod_eq_emod_of_nonneg (by omega)
            · -- 21: 71 := Op.binOp BinOp.sub 3 t70 (const (1:i64)) 3
              intro ρ w1 hC hf
              show OpOk _ _ _ _ _
              have f70 : ρ (.tmp 70) = .int .i64 (((3 * i + j) % 16 : Nat) : Int) := hf.1 70 (by simp [Op.operands])
              refine ok_value (v := .int .i64 (((((3 * i + j) % 16 : Nat)) : Int) - 1)) (w' := w1) ?_ ⟨Below.refl _ _, hC, rfl⟩
              simp [execOp, f70, hf.2.1, go_sem]
              exact IntWalk.i64_in _ (by omega)
            · -- 22: 72 := Op.load 39 t5
              intro ρ w1 hC hf
              show OpOk _ _ _ _ _
              have f5 : ρ (.tmp 5) = .pointer (some ⟨b5, 0, none⟩) := hf.1 5 (by simp [Op.operands])
              refine ok_value (v := (rgOf f).v) (w' := w1) ?_ ⟨Below.refl _ _, hC, rfl⟩
              have hR : Row w1 b5 39 (tabI 10 f) := hC.2.2.2
              have hq := fun k hk => (hR.cell k).trans (tabI_get 10 f k hk)
              have q0 := hq 0 (by decide)
              have q1 := hq 1 (by decide)
              have q2 := hq 2 (by decide)
              have q3 := hq 3 (by decide)
              have q4 := hq 4 (by decide)
              have q5 := hq 5 (by decide)
              have q6 := hq 6 (by decide)
              have q7 := hq 7 (by decide)
              have q8 := hq 8 (by decide)
              have q9 := hq 9 (by decide)
              simp [execOp, f5, go_sem, q0, q1, q2, q3, q4, q5, q6, q7, q8, q9, rgOf]
            · -- 23: 73 := Op.buildSlice 23 1 #[(0, t72)]
              intro ρ w1 hC hf
              show OpOk _ _ _ _ _
              have f72 : (ρ (.tmp 72)) = (rgOf f).v := hf.1 72 (by simp [Op.operands])
              have hb2 : Below w1.heap.size w1 (w1.alloc (.cells (rgOf f).arr 39)) := (Below.refl _ _).alloc (Nat.le_refl _) _
              refine ok_value (v := .slice (some ⟨w1.heap.size, 0, none⟩) 1 1) (w' := w1.alloc (.cells (rgOf f).arr 39)) ?_ ⟨hb2, ⟨hC.1.trans (hb2.mono hC.1.size), hC.2.1.later hb2, hC.2.2.1.later hb2, hC.2.2.2.later hb2⟩, ⟨_, rfl, rgs_new1 w1 _⟩⟩
              simp [execOp, f72, go_sem]
            · -- 24: 74 := Op.call ( value (Operand.func 18), args := #[], ar
              intro ρ w1 hC hf
              show OpOk _ _ _ _ _
              refine ok_call (f := 18) (args := #[]) (by simp [execOp, hf.2.2.2, go_sem]) ((law_all _).mono ?_)
              rintro e w2 ⟨rfl, hb2⟩
              exact ⟨_, rfl, hb2, ⟨hC.1.trans (hb2.mono hC.1.size), hC.2.1.later hb2, hC.2.2.1.later hb2, hC.2.2.2.later hb2⟩, rfl⟩
            · -- 25: 75 := Op.buildSlice 23 1 #[(0, t74)]
              intro ρ w1 hC hf
              show OpOk _ _ _ _ _
              have f74 : (ρ (.tmp 74)) = rgAll.v := hf.1 74 (by simp [Op.operands])
              have hb2 : Below w1.heap.size w1 (w1.alloc (.cells (rgAll).arr 39)) := (Below.refl _ _).alloc (Nat.le_refl _) _
              refine ok_value (v := .slice (some ⟨w1.heap.size, 0, none⟩) 1 1) (w' := w1.alloc (.cells (rgAll).arr 39)) ?_ ⟨hb2, ⟨hC.1.trans (hb2.mono hC.1.size), hC.2.1.later hb2, hC.2.2.1.later hb2, hC.2.2.2.later hb2⟩, ⟨_, rfl, rgs_new1 w1 _⟩⟩
              simp [execOp, f74, go_sem]
            · -- 26: 76 := Op.call ( value (Operand.func 12), args := #[t58, 
              intro ρ w1 hC hf
              show OpOk _ _ _ _ _
              have f58 : ρ (.tmp 58) = .int .u64 ((mk7 a7 : Nat) : Int) := hf.1 58 (by simp [Op.operands, Call.operands])
              have f65 : ρ (.tmp 65) = .int .u64 ((mk7 j7 : Nat) : Int) := hf.1 65 (by simp [Op.operands, Call.operands])
              have f71 : ρ (.tmp 71) = .int .i64 (((((3 * i + j) % 16 : Nat)) : Int) - 1) := hf.1 71 (by simp [Op.operands, Call.operands])
              have f73 : (fun (v : Value) (w1 : World) => ∃ g, v = .slice (some ⟨g, 0, none⟩) 1 1 ∧ Rgs w1 (some ⟨g, 0, none⟩) 1 [rgOf f]) (ρ (.tmp 73)) w1 := hf.1 73 (by simp [Op.operands, Call.operands])
              have f75 : (fun (v : Value) (w1 : World) => ∃ g, v = .slice (some ⟨g, 0, none⟩) 1 1 ∧ Rgs w1 (some ⟨g, 0, none⟩) 1 [rgAll]) (ρ (.tmp 75)) w1 := hf.1 75 (by simp [Op.operands, Call.operands])
              obtain ⟨g1, e1, h1⟩ := f73
              obtain ⟨g2, e2, h2⟩ := f75
              refine ok_call (f := 12) (args := #[.int .u64 ((mk7 a7 : Nat) : Int), .int .u64 ((mk7 j7 : Nat) : Int), .int .i64 (((((3 * i + j) % 16 : Nat)) : Int) - 1), .slice (some ⟨g1, 0, none⟩) 1 1, .slice (some ⟨g2, 0, none⟩) 1 1]) (by simp [execOp, hf.2.2.2, go_sem, f58, f65, f71, e1, e2]) ((law40_tells _ _ _ _ _ 1 1 1 1 _ _ _ (mk7_w64 _) (mk7_w64 _) h1 h2 (fun h => by cases h) (fun h => by cases h) (by decide) (by decide)).mono ?_)
              rintro e w2 ⟨rfl, hb2⟩
              exact ⟨_, rfl, hb2, ⟨hC.1.trans (hb2.mono hC.1.size), hC.2.1.later hb2, hC.2.2.1.later hb2, hC.2.2.2.later hb2⟩, rfl⟩
            · -- 27: 77 := Op.unOp UnOp.not 4 t76
              intro ρ w1 hC hf
              show OpOk _ _ _ _ _
              have f76 : (ρ (.tmp 76)) = .bool true := hf.1 76 (by simp [Op.operands])
              refine ok_value (v := .bool false) (w' := w1) ?_ ⟨Below.refl _ _, hC, rfl⟩
              simp [execOp, f76, go_sem]
          -- END12
          case fini =>
            intro vs w2 hvl hvs hC hbl
            obtain ⟨v0, v1, v2, v3, v4, v5, v6, v7, v8, v9, v10, v11, v12, v13, v14, v15, v16, v17, v18, v19, v20, v21, v22, v23, v24, v25, v26, v27, rfl⟩ : ∃ v0 v1 v2 v3 v4 v5 v6 v7 v8 v9 v10 v11 v12 v13 v14 v15 v16 v17 v18 v19 v20 v21 v22 v23 v24 v25 v26 v27, vs = [v0, v1, v2, v3, v4, v5, v6, v7, v8, v9, v10, v11, v12, v13, v14, v15, v16, v17, v18, v19, v20, v21, v22, v23, v24, v25, v26, v27] := by
              match vs, hvl with
              | [v0, v1, v2, v3, v4, v5, v6, v7, v8, v9, v10, v11, v12, v13, v14, v15, v16, v17, v18, v19, v20, v21, v22, v23, v24, v25, v26, v27], _ => exact ⟨v0, v1, v2, v3, v4, v5, v6, v7, v8, v9, v10, v11, v12, v13, v14, v15, v16, v17, v18, v19, v20, v21, v22, v23, v24, v25, v26, v27, rfl⟩
            have e27 : v27 = .bool false := hvs 27 v27 rfl
            subst e27
            have HB8 := Lib.hid hC.1
            have HM8 := Lib.hid hC.2.1
            have HX8 := Lib.hid hC.2.2.1
            clear hvs hC hbl HB7 HM7 HX7 HR7
            simp only [putAll, List.zip_cons_cons, List.zip_nil_left, List.foldl_cons, List.foldl_nil, Act.put, List.setIfInBounds_toArray, List.set]
            go_wp2_with fail
            exact ⟨⟨j + 1, by omega, by simp, HB8.out, HM8.out, HX8.out⟩, by simp [intOf]; omega⟩
        · obtain rfl : j = 9 := by omega
          clear c0
          simp only [show ((9 : Nat) : Int) = 9 from rfl]
          go_wp2_with fail
          exact ⟨⟨i + 1, by omega, by simp, HB.out, HM.out⟩, by simp [intOf]; omega⟩
    · obtain rfl : i = 10 := by omega
      simp only [show ((10 : Nat) : Int) = 10 from rfl]
      go_wp2_with fail
      go_loopw [6] (fun v wr => ∃ (k : Nat), k ≤ 16 ∧ v = .int .i64 ((k : Int) - 1) ∧ Below w.heap.size w wr ∧ Row wr w.heap.size 22 mrow) (fun v _ => 16 - (intOf v + 1).toNat)
      case atStart => exact ⟨0, by omega, rfl, HB.out, HM.out⟩
      case round =>
        clear HB HM
        obtain ⟨n, hn, rfl, hB, hM⟩ := hrel
        have HB := Lib.hid hB
        have HM := Lib.hid hM
        clear hB hM
        by_cases hln : n < 16
        · have hdn : decide ((n : Int) - 1 ≤ 14) = true := by simp; omega
          go_wp2_with fail
          go_loopw [86] (fun v wr => ∃ (k : Nat), k ≤ 7 ∧ v = .int .i64 (k : Int) ∧ Below w.heap.size w wr ∧ Row wr w.heap.size 22 mrow) (fun v _ => 7 - (intOf v).toNat)
          case atStart => exact ⟨0, by omega, rfl, HB.out, HM.out⟩
          case round =>
            clear HB HM
            obtain ⟨k, hk, rfl, hB, hM⟩ := hrel
            by_cases hlk : k < 7
            · have hdk : decide ((k : Int) < 7) = true := by simp; omega
              have hki : (k : Int) < 7 := by omega
              have c0 := (hM.cell k).trans (mrow_get k hlk)
              have HMW := Lib.hid (mk7_w64 k)
              generalize mk7 k = m at *
              have HB := Lib.hid hB
              have HM := Lib.hid hM
              clear hB hM
              go_wp2_with fail
              refine (law_all _).mono ?_
              rintro e w1 ⟨rfl, hb1⟩
              have HB1 := Lib.hid (HB.out.trans (hb1.mono HB.out.size))
              have HM1 := Lib.hid (HM.out.later hb1)
              clear hb1 HB HM c0
              have HN1 := Lib.hid (rgs_new1 w1 rgAll)
              have hb2 : Below w1.heap.size w1 (w1.alloc (.cells rgAll.arr 39)) := (Below.refl _ _).alloc (Nat.le_refl _) _
              have HB2 := Lib.hid (HB1.out.trans (hb2.mono HB1.out.size))
              have HM2 := Lib.hid (HM1.out.later hb2)
              clear hb2 HB1 HM1
              go_wp2_with fail
              refine (law40_tells m m ((n : Int) - 1) _ none 1 1 0 0 [rgAll] [] _ HMW.out HMW.out HN1.out (Rgs.nil _) (fun h => by cases h) (fun _ => rfl) (by decide) (by decide)).mono ?_
              rintro e w3 ⟨rfl, hb3⟩
              have HB3 := Lib.hid (HB2.out.trans (hb3.mono HB2.out.size))
              have HM3 := Lib.hid (HM2.out.later hb3)
              clear hb3 HB2 HM2
              go_wp2_with fail
              exact ⟨⟨k + 1, by omega, by simp, HB3.out, HM3.out⟩, by simp [intOf]; omega⟩
            · obtain rfl : k = 7 := by omega
              have HB := Lib.hid hB
              have HM := Lib.hid hM
              clear hB hM
              simp only [show ((7 : Nat) : Int) = 7 from rfl]
              go_wp2_with fail
              exact ⟨⟨n + 1, by omega, by simp, HB.out, HM.out⟩, by simp [intOf]; omega⟩
        · obtain rfl : n = 16 := by omega
          simp only [show ((16 : Nat) : Int) - 1 = 15 from rfl]
          go_wp2_with fail
          have hO0 : OwnR wr w.heap.size (.slice none 0 0) (List.replicate 0 rgAll) := OwnR.nil _ _
          go_loopw [9, 98] (fun v i wr => ∃ (k : Nat), k ≤ 21 ∧ i = .int .i64 (k : Int) ∧ Below w.heap.size w wr ∧ OwnR wr w.heap.size v (List.replicate k rgAll)) (fun _ i _ => 21 - (intOf i).toNat)
          case atStart => exact ⟨0, by omega, rfl, HB.out, hO0⟩
          case round =>
            clear HB HM hO0
            obtain ⟨k, hk, rfl, hB, hO⟩ := hrel
            have HB := Lib.hid hB
            have HO := Lib.hid hO
            clear hB hO
            by_cases hlk : k < 21
            · have hdk : decide ((k : Int) < 21) = true := by simp; omega
              go_wp2_with fail
              refine (law_all _).mono ?_
              rintro e w1 ⟨rfl, hb1⟩
              have HB1 := Lib.hid (HB.out.trans (hb1.mono HB.out.size))
              have HO1 := Lib.hid (HO.out.later hb1)
              clear hb1 HB HO
              have HN1 := Lib.hid (rgs_new1 w1 rgAll)
              have hb2 : Below w1.heap.size w1 (w1.alloc (.cells rgAll.arr 39)) := (Below.refl _ _).alloc (Nat.le_refl _) _
              have HB2 := Lib.hid (HB1.out.trans (hb2.mono HB1.out.size))
              have HO2 := Lib.hid (HO1.out.later hb2)
              clear hb2 HB1 HO1
              have HRP : Hid (List.replicate (k + 1) rgAll = List.replicate k rgAll ++ [rgAll]) := Lib.hid List.replicate_succ'
              go_wp2_with (refine appR rfl (.tmp 100) (.tmp 102) rfl w.heap.size u9 (List.replicate k rgAll) [rgAll] rfl HO2.out ⟨w1.heap.size, 0, none⟩ 1 1 rfl HN1.out (by rw [List.length_replicate]; omega) HB2.out.size ?_; intro v' w7 h1 h2 h3 h4; have HB7 := Lib.hid (HB2.out.trans h2); have HO7 := Lib.hid h1; clear h1 h2 h3 h4)
              exact ⟨⟨k + 1, by omega, by simp, HB7.out, by rw [HRP.out]; exact HO7.out⟩, by simp [intOf]; omega⟩
            · obtain rfl : k = 21 := by omega
              simp only [show ((21 : Nat) : Int) = 21 from rfl]
              obtain ⟨g, cap, rfl, hle, hg⟩ := own21 HO.out
              have HLE := Lib.hid hle
              have HG := Lib.hid hg
              go_wp2_with fail
              refine (ag_Both_yes (some ⟨g, 0, none⟩) (some ⟨g, 0, none⟩) 4 cap 5 cap (List.replicate 4 rgAll) (List.replicate 5 rgAll) _ (HG.out 4 (by decide)) (HG.out 5 (by decide)) (by decide +kernel) (by decide +kernel)).mono ?_
              rintro e w1 ⟨h1, hb1⟩
              have hl20 : (bothL (List.replicate 4 rgAll) (List.replicate 5 rgAll)).length = 20 := by decide +kernel
              rw [if_pos (by omega)] at h1
              obtain ⟨v1, rfl, hv1⟩ := h1
              obtain ⟨a1, c1, rfl, -, -, -⟩ := hv1.rgs (by omega)
              rw [hl20]
              have HB1 := Lib.hid (HB.out.trans (hb1.mono HB.out.size))
              have HG1 : Hid (∀ k, k ≤ 21 → Rgs w1 (some ⟨g, 0, none⟩) k (List.replicate k rgAll)) := Lib.hid fun k hk => (HG.out k hk).below (Nat.le_refl _) hb1
              clear hb1 hv1 HB HG HO hg hl20
              have H32 : Hid (∀ d os, Calls Try.prog 17 #[.slice (some ⟨g, 0, none⟩) 3 cap, .slice (some ⟨g, 0, none⟩) 7 cap] (grow (redrawn w1 d) os) fun e w' => e = .returned (.tuple #[.slice none 0 0, .int .i64 5]) ∧ Below (grow (redrawn w1 d) os).heap.size (grow (redrawn w1 d) os) w') := Lib.hid fun d os => by
                refine (ag_Both_yes (some ⟨g, 0, none⟩) (some ⟨g, 0, none⟩) 3 cap 7 cap (List.replicate 3 rgAll) (List.replicate 7 rgAll) _ ((HG1.out 3 (by decide)).regrown _ _) ((HG1.out 7 (by decide)).regrown _ _) (by decide +kernel) (by decide +kernel)).mono ?_
                rintro e w2 ⟨h2, hb2⟩
                have hl21 : (bothL (List.replicate 3 rgAll) (List.replicate 7 rgAll)).length = 21 := by decide +kernel
                rw [if_neg (by omega)] at h2
                exact ⟨h2, hb2⟩
              go_upto_region 32 with fail
              refine wp_region_quiet_below (by kernel_rfl) (by kernel_rfl) ?_
              repeat (first | go_big_quiet_step (fail) | quiet_step (with_reducible exact Calls.regrown_of (H32.out _ _)))
              refine wpQuiet_nil ?_
              rintro _ ⟨q, rfl⟩
              have hb2 := below_regrown w1 q.d q.os
              generalize grow (redrawn w1 q.d) q.os = w2 at *
              clear H32
              have HB2 := Lib.hid (HB1.out.trans (hb2.mono HB1.out.size))
              have HG2 : Hid (∀ k, k ≤ 21 → Rgs w2 (some ⟨g, 0, none⟩) k (List.replicate k rgAll)) := Lib.hid fun k hk => (HG1.out k hk).below (Nat.le_refl _) hb2
              clear hb2 HB1 HG1
              go_wp2_with fail
              refine (ag_Both_no (some ⟨g, 0, none⟩) none 21 cap 0 0 (List.replicate 21 rgAll) [] _ (HG2.out 21 (by decide)) (Rgs.nil _) (by decide +kernel)).mono ?_
              rintro e w3 ⟨rfl, hb3⟩
              have HB3 := Lib.hid (HB2.out.trans (hb3.mono HB2.out.size))
              have HG3 : Hid (∀ k, k ≤ 21 → Rgs w3 (some ⟨g, 0, none⟩) k (List.replicate k rgAll)) := Lib.hid fun k hk => (HG2.out k hk).below (Nat.le_refl _) hb3
              clear hb3 HB2 HG2
              go_wp2_with fail
              refine (ag_Both_yes none (some ⟨g, 0, none⟩) 0 0 4 cap [] (List.replicate 4 rgAll) _ (Rgs.nil _) (HG3.out 4 (by decide)) (by decide +kernel) (by decide +kernel)).mono ?_
              rintro e w4 ⟨h4, hb4⟩
              rw [if_pos (by decide +kernel)] at h4
              obtain ⟨v4, rfl, hv4⟩ := h4
              obtain ⟨a4, c4, rfl, -, -, -⟩ := hv4.rgs (by decide +kernel)
              clear hv4
              rw [show (bothL [] (List.replicate 4 rgAll)).length = 0 from by decide +kernel]
              have HB4 := Lib.hid (HB3.out.trans (hb4.mono HB3.out.size))
              have HG4 : Hid (∀ k, k ≤ 21 → Rgs w4 (some ⟨g, 0, none⟩) k (List.replicate k rgAll)) := Lib.hid fun k hk => (HG3.out k hk).below (Nat.le_refl _) hb4
              clear hb4 HB3 HG3
              go_wp2_with fail
              refine (ag_Lengths_no 7 2 (some ⟨g, 0, none⟩) 4 cap (List.replicate 4 rgAll) 4 _ (HG4.out 4 (by decide)) (by decide +kernel)).mono ?_
              rintro e w5 ⟨rfl, hb5⟩
              have HB5 := Lib.hid (HB4.out.trans (hb5.mono HB4.out.size))
              have HG5 : Hid (∀ k, k ≤ 21 → Rgs w5 (some ⟨g, 0, none⟩) k (List.replicate k rgAll)) := Lib.hid fun k hk => (HG4.out k hk).below (Nat.le_refl _) hb5
              clear hb5 HB4 HG4
              go_wp2_with fail
              refine (ag_Lengths_no 7 2 (some ⟨g, 0, none⟩) 4 cap (List.replicate 4 rgAll) (-1) _ (HG5.out 4 (by decide)) (by decide +kernel)).mono ?_
              rintro e w6 ⟨rfl, hb6⟩
              have HB6 := Lib.hid (HB5.out.trans (hb6.mono HB5.out.size))
              have HG6 : Hid (∀ k, k ≤ 21 → Rgs w6 (some ⟨g, 0, none⟩) k (List.replicate k rgAll)) := Lib.hid fun k hk => (HG5.out k hk).below (Nat.le_refl _) hb6
              clear hb6 HB5 HG5
              go_wp2_with fail
              refine (ag_Right (some ⟨g, 0, none⟩) 20 cap (List.replicate 20 rgAll) _ (HG6.out 20 (by decide))).mono ?_
              rw [show rightV (List.replicate 20 rgAll) = true from by decide +kernel]
              rintro e w7 ⟨rfl, hb7⟩
              have HB7 := Lib.hid (HB6.out.trans (hb7.mono HB6.out.size))
              have HG7 : Hid (∀ k, k ≤ 21 → Rgs w7 (some ⟨g, 0, none⟩) k (List.replicate k rgAll)) := Lib.hid fun k hk => (HG6.out k hk).below (Nat.le_refl _) hb7
              clear hb7 HB6 HG6
              go_wp2_with fail
              refine (ag_Right (some ⟨g, 0, none⟩) 21 cap (List.replicate 21 rgAll) _ (HG7.out 21 (by decide))).mono ?_
              rw [show rightV (List.replicate 21 rgAll) = false from by decide +kernel]
              rintro e w8 ⟨rfl, hb8⟩
              have HB8 := Lib.hid (HB7.out.trans (hb8.mono HB7.out.size))
              have HG8 : Hid (∀ k, k ≤ 21 → Rgs w8 (some ⟨g, 0, none⟩) k (List.replicate k rgAll)) := Lib.hid fun k hk => (HG7.out k hk).below (Nat.le_refl _) hb8
              clear hb8 HB7 HG7
              go_wp2_with fail
              refine (law40_awake _).mono ?_
              rintro e w9 ⟨rfl, hb9⟩
              have HB9 := Lib.hid (HB8.out.trans (hb9.mono HB8.out.size))
              clear hb9 HB8 HG8
              go_wp2_with fail
              go_ret
              exact ⟨rfl, HB9.out⟩
end Go.Proofs.Ytmkplfndbjcflaa
