/- The contract of Choices, over this seat's program. -/
import Derived.Test.YtgnlmodaekfhfaaDoorLdK
namespace Go.Proofs.YtgnlmodaekfhfaaDoor
open Go.RowKit Go.Shelf Go.Sort

theorem opt_at0 (w : World) : (Instr.index 73 (.agg optA) (.int .i64 0)).run Tryd.prog w = .ok (.agg #[.int .u8 1, .func (Fn.func 41) #[] #[], .func (Fn.func 42) #[] #[]]) w := by kernel_rfl
theorem opt_at1 (w : World) : (Instr.index 73 (.agg optA) (.int .i64 1)).run Tryd.prog w = .ok (.agg #[.int .u8 2, .func (Fn.func 43) #[] #[], .func (Fn.func 44) #[] #[]]) w := by kernel_rfl
theorem opt_at2 (w : World) : (Instr.index 73 (.agg optA) (.int .i64 2)).run Tryd.prog w = .ok (.agg #[.int .u8 4, .func (Fn.func 45) #[] #[], .func (Fn.func 46) #[] #[]]) w := by kernel_rfl
theorem opt_at3 (w : World) : (Instr.index 73 (.agg optA) (.int .i64 3)).run Tryd.prog w = .ok (.agg #[.int .u8 8, .func (Fn.func 47) #[] #[], .func (Fn.func 48) #[] #[]]) w := by kernel_rfl
theorem opt_at4 (w : World) : (Instr.index 73 (.agg optA) (.int .i64 4)).run Tryd.prog w = .ok (.agg #[.int .u8 16, .func (Fn.func 47) #[] #[], .func (Fn.func 49) #[] #[]]) w := by kernel_rfl
theorem opt_at5 (w : World) : (Instr.index 73 (.agg optA) (.int .i64 5)).run Tryd.prog w = .ok (.agg #[.int .u8 32, .func (Fn.func 50) #[] #[], .func (Fn.func 51) #[] #[]]) w := by kernel_rfl
theorem size_op : (Tryd.prog.info? 72).map (·.size) = some 3 := by kernel_rfl
theorem sumTo_lt (s : St) : ∀ k, s.sumTo k < 2 ^ k
  | 0 => by show 0 < 1; decide
  | k + 1 => by
    have ih := sumTo_lt s k
    rw [St.sumTo, Nat.pow_succ]
    split <;> omega
set_option maxHeartbeats 1000000 in
set_option maxRecDepth 10000 in
theorem ld_Choices {w : World} {B : Nat} {s : St} (hs : s.ok) (hm : s.md) (hA : TblAt w B s) :
    Calls Tryd.prog 22 #[.pointer (some ⟨B, 0, none⟩)] w fun e w' => e = .returned (.int .u8 (s.choicesV : Int)) ∧ Below w.heap.size w w' := by
  have HM := Lib.hid (ld_madeT hm hA)
  have HA := Lib.hid hA
  have HO := Lib.hid (fun W => ld_options (w := W))
  obtain ⟨OA, hOA⟩ : ∃ OA, OA = optA := ⟨_, rfl⟩
  have o0 := opt_at0
  have o1 := opt_at1
  have o2 := opt_at2
  have o3 := opt_at3
  have o4 := opt_at4
  have o5 := opt_at5
  rw [← hOA] at HO o0 o1 o2 o3 o4 o5
  clear hOA hA
  go_enter Tryd.func22, Tryd.ntmps22
  go_wp2_with (first
    | (go_at_call 29; refine HM.out.mono ?_; rintro e w' ⟨rfl, rfl⟩)
    | (go_at_call 32; refine (HO.out _).mono ?_; rintro e w1 ⟨rfl, hb1⟩))
  go_loopw [3, 9] (fun m i wr => ∃ k : Nat, k ≤ 6 ∧ i = .int .i64 (k : Int) ∧ m = .int .u8 (s.sumTo k : Int) ∧ Below w.heap.size w wr) (fun _ i _ => 6 - (intOf i).toNat)
  case atStart => exact ⟨0, by omega, rfl, rfl, hb1⟩
  case round =>
    obtain ⟨k, hk, rfl, rfl, hB⟩ := hrel
    by_cases hlt : k < 6
    · rcases (show k = 0 ∨ k = 1 ∨ k = 2 ∨ k = 3 ∨ k = 4 ∨ k = 5 by omega) with rfl | rfl | rfl | rfl | rfl | rfl
      · have HC := Lib.hid (fun (w1 : World) (hb : Below w.heap.size w w1) => ld_pendingB (HA.out.below HA.out.lt hb))
        have hsl := sumTo_lt s 0
        have hn : s.sumTo 1 = s.sumTo 0 + if s.pend then 1 else 0 := rfl
        have HN := Lib.hid hn
        clear hn
        generalize s.sumTo 0 = x at *
        go_upto_region 6 with (refine wpList_store_row rfl 72 (.tmp 5) (.tmp 11) rfl wr.heap.size #[.int .u8 1, .func (Fn.func 41) #[] #[], .func (Fn.func 42) #[] #[]] rfl rfl 72 _ (Row.new _ _ _) size_op rfl (by simp [Value.oneCell']) ?_)
        have hR4 : Row (World.setRow (wr.alloc (.cells #[.int .u8 0, Value.nilFunc, Value.nilFunc] 72)) wr.heap.size #[.int .u8 1, .func (Fn.func 41) #[] #[], .func (Fn.func 42) #[] #[]]) wr.heap.size 72 #[.int .u8 1, .func (Fn.func 41) #[] #[], .func (Fn.func 42) #[] #[]] := setRow_heap _ _ _ _ _ _ (Row.new _ _ _)
        have hB4 : Below w.heap.size w (World.setRow (wr.alloc (.cells #[.int .u8 0, Value.nilFunc, Value.nilFunc] 72)) wr.heap.size #[.int .u8 1, .func (Fn.func 41) #[] #[], .func (Fn.func 42) #[] #[]]) := below_setRow (hB.alloc hB.size _) hB.size _
        generalize World.setRow (wr.alloc (.cells #[.int .u8 0, Value.nilFunc, Value.nilFunc] 72)) wr.heap.size #[.int .u8 1, .func (Fn.func 41) #[] #[], .func (Fn.func 42) #[] #[]] = w4 at *
        have d1 := hR4.cell 1
        simp only [List.getElem?_toArray, List.getElem?_cons_zero, List.getElem?_cons_succ] at d1
        have ew : IntKind.u8.wrap ((x : Int) + 1) = (x : Int) + 1 := by rw [IntKind.wrap_u8]; omega
        cases hmay : s.pend
        all_goals
          rw [hmay] at HC HN
          go_wp2_with (go_at_call 41; refine (HC.out _ hB4).mono ?_; rintro e w5 ⟨rfl, hb5⟩; have d0 := (hR4.below hR4.lt hb5).cell 0; simp only [List.getElem?_toArray, List.getElem?_cons_zero] at d0)
          go_roundw
          case rel => exact ⟨1, by omega, by go_num, by rw [HN.out]; rfl, hB4.trans (hb5.mono hB4.size)⟩
          case measure => simp [intOf]
      · have HC := Lib.hid (fun (w1 : World) (hb : Below w.heap.size w w1) => ld_byDeclarer (HA.out.below HA.out.lt hb))
        have hsl := sumTo_lt s 1
        have hn : s.sumTo 2 = s.sumTo 1 + if s.byDeclarer then 2 else 0 := rfl
        have HN := Lib.hid hn
        clear hn
        generalize s.sumTo 1 = x at *
        go_upto_region 6 with (refine wpList_store_row rfl 72 (.tmp 5) (.tmp 11) rfl wr.heap.size #[.int .u8 2, .func (Fn.func 43) #[] #[], .func (Fn.func 44) #[] #[]] rfl rfl 72 _ (Row.new _ _ _) size_op rfl (by simp [Value.oneCell']) ?_)
        have hR4 : Row (World.setRow (wr.alloc (.cells #[.int .u8 0, Value.nilFunc, Value.nilFunc] 72)) wr.heap.size #[.int .u8 2, .func (Fn.func 43) #[] #[], .func (Fn.func 44) #[] #[]]) wr.heap.size 72 #[.int .u8 2, .func (Fn.func 43) #[] #[], .func (Fn.func 44) #[] #[]] := setRow_heap _ _ _ _ _ _ (Row.new _ _ _)
        have hB4 : Below w.heap.size w (World.setRow (wr.alloc (.cells #[.int .u8 0, Value.nilFunc, Value.nilFunc] 72)) wr.heap.size #[.int .u8 2, .func (Fn.func 43) #[] #[], .func (Fn.func 44) #[] #[]]) := below_setRow (hB.alloc hB.size _) hB.size _
        generalize World.setRow (wr.alloc (.cells #[.int .u8 0, Value.nilFunc, Value.nilFunc] 72)) wr.heap.size #[.int .u8 2, .func (Fn.func 43) #[] #[], .func (Fn.func 44) #[] #[]] = w4 at *
        have d1 := hR4.cell 1
        simp only [List.getElem?_toArray, List.getElem?_cons_zero, List.getElem?_cons_succ] at d1
        have ew : IntKind.u8.wrap ((x : Int) + 2) = (x : Int) + 2 := by rw [IntKind.wrap_u8]; omega
        cases hmay : s.byDeclarer
        all_goals
          rw [hmay] at HC HN
          go_wp2_with (go_at_call 43; refine (HC.out _ hB4).mono ?_; rintro e w5 ⟨rfl, hb5⟩; have d0 := (hR4.below hR4.lt hb5).cell 0; simp only [List.getElem?_toArray, List.getElem?_cons_zero] at d0)
          go_roundw
          case rel => exact ⟨2, by omega, by go_num, by rw [HN.out]; rfl, hB4.trans (hb5.mono hB4.size)⟩
          case measure => simp [intOf]
      · have HC := Lib.hid (fun (w1 : World) (hb : Below w.heap.size w w1) => ld_byDefender (HA.out.below HA.out.lt hb))
        have hsl := sumTo_lt s 2
        have hn : s.sumTo 3 = s.sumTo 2 + if s.byDefender then 4 else 0 := rfl
        have HN := Lib.hid hn
        clear hn
        generalize s.sumTo 2 = x at *
        go_upto_region 6 with (refine wpList_store_row rfl 72 (.tmp 5) (.tmp 11) rfl wr.heap.size #[.int .u8 4, .func (Fn.func 45) #[] #[], .func (Fn.func 46) #[] #[]] rfl rfl 72 _ (Row.new _ _ _) size_op rfl (by simp [Value.oneCell']) ?_)
        have hR4 : Row (World.setRow (wr.alloc (.cells #[.int .u8 0, Value.nilFunc, Value.nilFunc] 72)) wr.heap.size #[.int .u8 4, .func (Fn.func 45) #[] #[], .func (Fn.func 46) #[] #[]]) wr.heap.size 72 #[.int .u8 4, .func (Fn.func 45) #[] #[], .func (Fn.func 46) #[] #[]] := setRow_heap _ _ _ _ _ _ (Row.new _ _ _)
        have hB4 : Below w.heap.size w (World.setRow (wr.alloc (.cells #[.int .u8 0, Value.nilFunc, Value.nilFunc] 72)) wr.heap.size #[.int .u8 4, .func (Fn.func 45) #[] #[], .func (Fn.func 46) #[] #[]]) := below_setRow (hB.alloc hB.size _) hB.size _
        generalize World.setRow (wr.alloc (.cells #[.int .u8 0, Value.nilFunc, Value.nilFunc] 72)) wr.heap.size #[.int .u8 4, .func (Fn.func 45) #[] #[], .func (Fn.func 46) #[] #[]] = w4 at *
        have d1 := hR4.cell 1
        simp only [List.getElem?_toArray, List.getElem?_cons_zero, List.getElem?_cons_succ] at d1
        have ew : IntKind.u8.wrap ((x : Int) + 4) = (x : Int) + 4 := by rw [IntKind.wrap_u8]; omega
        cases hmay : s.byDefender
        all_goals
          rw [hmay] at HC HN
          go_wp2_with (go_at_call 45; refine (HC.out _ hB4).mono ?_; rintro e w5 ⟨rfl, hb5⟩; have d0 := (hR4.below hR4.lt hb5).cell 0; simp only [List.getElem?_toArray, List.getElem?_cons_zero] at d0)
          go_roundw
          case rel => exact ⟨3, by omega, by go_num, by rw [HN.out]; rfl, hB4.trans (hb5.mono hB4.size)⟩
          case measure => simp [intOf]
      · have HC := Lib.hid (fun (w1 : World) (hb : Below w.heap.size w w1) => ld_beforePartner hs (HA.out.below HA.out.lt hb))
        have hsl := sumTo_lt s 3
        have hn : s.sumTo 4 = s.sumTo 3 + if s.beforePartner then 8 else 0 := rfl
        have HN := Lib.hid hn
        clear hn
        generalize s.sumTo 3 = x at *
        go_upto_region 6 with (refine wpList_store_row rfl 72 (.tmp 5) (.tmp 11) rfl wr.heap.size #[.int .u8 8, .func (Fn.func 47) #[] #[], .func (Fn.func 48) #[] #[]] rfl rfl 72 _ (Row.new _ _ _) size_op rfl (by simp [Value.oneCell']) ?_)
        have hR4 : Row (World.setRow (wr.alloc (.cells #[.int .u8 0, Value.nilFunc, Value.nilFunc] 72)) wr.heap.size #[.int .u8 8, .func (Fn.func 47) #[] #[], .func (Fn.func 48) #[] #[]]) wr.heap.size 72 #[.int .u8 8, .func (Fn.func 47) #[] #[], .func (Fn.func 48) #[] #[]] := setRow_heap _ _ _ _ _ _ (Row.new _ _ _)
        have hB4 : Below w.heap.size w (World.setRow (wr.alloc (.cells #[.int .u8 0, Value.nilFunc, Value.nilFunc] 72)) wr.heap.size #[.int .u8 8, .func (Fn.func 47) #[] #[], .func (Fn.func 48) #[] #[]]) := below_setRow (hB.alloc hB.size _) hB.size _
        generalize World.setRow (wr.alloc (.cells #[.int .u8 0, Value.nilFunc, Value.nilFunc] 72)) wr.heap.size #[.int .u8 8, .func (Fn.func 47) #[] #[], .func (Fn.func 48) #[] #[]] = w4 at *
        have d1 := hR4.cell 1
        simp only [List.getElem?_toArray, List.getElem?_cons_zero, List.getElem?_cons_succ] at d1
        have ew : IntKind.u8.wrap ((x : Int) + 8) = (x : Int) + 8 := by rw [IntKind.wrap_u8]; omega
        cases hmay : s.beforePartner
        all_goals
          rw [hmay] at HC HN
          go_wp2_with (go_at_call 47; refine (HC.out _ hB4).mono ?_; rintro e w5 ⟨rfl, hb5⟩; have d0 := (hR4.below hR4.lt hb5).cell 0; simp only [List.getElem?_toArray, List.getElem?_cons_zero] at d0)
          go_roundw
          case rel => exact ⟨4, by omega, by go_num, by rw [HN.out]; rfl, hB4.trans (hb5.mono hB4.size)⟩
          case measure => simp [intOf]
      · have HC := Lib.hid (fun (w1 : World) (hb : Below w.heap.size w w1) => ld_beforePartner hs (HA.out.below HA.out.lt hb))
        have hsl := sumTo_lt s 4
        have hn : s.sumTo 5 = s.sumTo 4 + if s.beforePartner then 16 else 0 := rfl
        have HN := Lib.hid hn
        clear hn
        generalize s.sumTo 4 = x at *
        go_upto_region 6 with (refine wpList_store_row rfl 72 (.tmp 5) (.tmp 11) rfl wr.heap.size #[.int .u8 16, .func (Fn.func 47) #[] #[], .func (Fn.func 49) #[] #[]] rfl rfl 72 _ (Row.new _ _ _) size_op rfl (by simp [Value.oneCell']) ?_)
        have hR4 : Row (World.setRow (wr.alloc (.cells #[.int .u8 0, Value.nilFunc, Value.nilFunc] 72)) wr.heap.size #[.int .u8 16, .func (Fn.func 47) #[] #[], .func (Fn.func 49) #[] #[]]) wr.heap.size 72 #[.int .u8 16, .func (Fn.func 47) #[] #[], .func (Fn.func 49) #[] #[]] := setRow_heap _ _ _ _ _ _ (Row.new _ _ _)
        have hB4 : Below w.heap.size w (World.setRow (wr.alloc (.cells #[.int .u8 0, Value.nilFunc, Value.nilFunc] 72)) wr.heap.size #[.int .u8 16, .func (Fn.func 47) #[] #[], .func (Fn.func 49) #[] #[]]) := below_setRow (hB.alloc hB.size _) hB.size _
        generalize World.setRow (wr.alloc (.cells #[.int .u8 0, Value.nilFunc, Value.nilFunc] 72)) wr.heap.size #[.int .u8 16, .func (Fn.func 47) #[] #[], .func (Fn.func 49) #[] #[]] = w4 at *
        have d1 := hR4.cell 1
        simp only [List.getElem?_toArray, List.getElem?_cons_zero, List.getElem?_cons_succ] at d1
        have ew : IntKind.u8.wrap ((x : Int) + 16) = (x : Int) + 16 := by rw [IntKind.wrap_u8]; omega
        cases hmay : s.beforePartner
        all_goals
          rw [hmay] at HC HN
          go_wp2_with (go_at_call 47; refine (HC.out _ hB4).mono ?_; rintro e w5 ⟨rfl, hb5⟩; have d0 := (hR4.below hR4.lt hb5).cell 0; simp only [List.getElem?_toArray, List.getElem?_cons_zero] at d0)
          go_roundw
          case rel => exact ⟨5, by omega, by go_num, by rw [HN.out]; rfl, hB4.trans (hb5.mono hB4.size)⟩
          case measure => simp [intOf]
      · have HC := Lib.hid (fun (w1 : World) (hb : Below w.heap.size w w1) => ld_atOpening (HA.out.below HA.out.lt hb))
        have hsl := sumTo_lt s 5
        have hn : s.sumTo 6 = s.sumTo 5 + if s.atOpening then 32 else 0 := rfl
        have HN := Lib.hid hn
        clear hn
        generalize s.sumTo 5 = x at *
        go_upto_region 6 with (refine wpList_store_row rfl 72 (.tmp 5) (.tmp 11) rfl wr.heap.size #[.int .u8 32, .func (Fn.func 50) #[] #[], .func (Fn.func 51) #[] #[]] rfl rfl 72 _ (Row.new _ _ _) size_op rfl (by simp [Value.oneCell']) ?_)
        have hR4 : Row (World.setRow (wr.alloc (.cells #[.int .u8 0, Value.nilFunc, Value.nilFunc] 72)) wr.heap.size #[.int .u8 32, .func (Fn.func 50) #[] #[], .func (Fn.func 51) #[] #[]]) wr.heap.size 72 #[.int .u8 32, .func (Fn.func 50) #[] #[], .func (Fn.func 51) #[] #[]] := setRow_heap _ _ _ _ _ _ (Row.new _ _ _)
        have hB4 : Below w.heap.size w (World.setRow (wr.alloc (.cells #[.int .u8 0, Value.nilFunc, Value.nilFunc] 72)) wr.heap.size #[.int .u8 32, .func (Fn.func 50) #[] #[], .func (Fn.func 51) #[] #[]]) := below_setRow (hB.alloc hB.size _) hB.size _
        generalize World.setRow (wr.alloc (.cells #[.int .u8 0, Value.nilFunc, Value.nilFunc] 72)) wr.heap.size #[.int .u8 32, .func (Fn.func 50) #[] #[], .func (Fn.func 51) #[] #[]] = w4 at *
        have d1 := hR4.cell 1
        simp only [List.getElem?_toArray, List.getElem?_cons_zero, List.getElem?_cons_succ] at d1
        have ew : IntKind.u8.wrap ((x : Int) + 32) = (x : Int) + 32 := by rw [IntKind.wrap_u8]; omega
        cases hmay : s.atOpening
        all_goals
          rw [hmay] at HC HN
          go_wp2_with (go_at_call 50; refine (HC.out _ hB4).mono ?_; rintro e w5 ⟨rfl, hb5⟩; have d0 := (hR4.below hR4.lt hb5).cell 0; simp only [List.getElem?_toArray, List.getElem?_cons_zero] at d0)
          go_roundw
          case rel => exact ⟨6, by omega, by go_num, by rw [HN.out]; rfl, hB4.trans (hb5.mono hB4.size)⟩
          case measure => simp [intOf]
    · have hk6 : k = 6 := by omega
      subst hk6
      go_wp2_with fail
      go_ret
      exact ⟨rfl, hB⟩
end Go.Proofs.YtgnlmodaekfhfaaDoor
