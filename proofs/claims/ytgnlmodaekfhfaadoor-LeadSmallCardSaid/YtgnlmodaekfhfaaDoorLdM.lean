/- The contract of Choose, over this seat's program. -/
import Derived.Test.YtgnlmodaekfhfaaDoorLdL
namespace Go.Proofs.YtgnlmodaekfhfaaDoor
open Go.RowKit Go.Shelf Go.Sort

theorem chooseTo_all (s : St) (choice k : Nat) (hk : k ≤ 6) (h : ∀ q, q < k → ¬ (2 ^ q = choice ∧ s.may q = true)) : s.chooseTo choice 6 = s.chooseTo choice (6 - k) := by
  induction k with
  | zero => rfl
  | succ k ih =>
    rw [ih (by omega) (fun q hq => h q (by omega))]
    obtain ⟨j, hj⟩ : ∃ j, 6 - k = j + 1 := ⟨5 - k, by omega⟩
    have h1 := h k (by omega)
    rw [hj, show 6 - (k + 1) = j by omega]
    rw [St.chooseTo, show 5 - j = k by omega, if_neg h1]
theorem chooseTo_hit (s : St) (choice k : Nat) (hk : k < 6) (h : ∀ q, q < k → ¬ (2 ^ q = choice ∧ s.may q = true)) (hc : 2 ^ k = choice) (hm : s.may k = true) : s.chooseTo choice 6 = ((s.act k).done, 0) := by
  rw [chooseTo_all s choice k (by omega) h]
  obtain ⟨j, hj⟩ : ∃ j, 6 - k = j + 1 := ⟨5 - k, by omega⟩
  rw [hj, St.chooseTo, show 5 - j = k by omega, if_pos ⟨hc, hm⟩]
theorem choose_next {s : St} {choice k : Nat} (h : ∀ q, q < k → ¬ (2 ^ q = choice ∧ s.may q = true)) (hk : ¬ (2 ^ k = choice ∧ s.may k = true)) : ∀ q, q < k + 1 → ¬ (2 ^ q = choice ∧ s.may q = true) := by
  intro q hq
  rcases Nat.lt_succ_iff_lt_or_eq.1 hq with h1 | rfl
  · exact h q h1
  · exact hk
theorem LMid.done {w0 w : World} {B : Nat} {s : St} (h : LMid w0 w B s) : LMid w0 (((w.setCell ⟨B, 18, none⟩ (.bool false)).setCell ⟨B, 16, none⟩ (.int .u8 0)).setCell ⟨B, 17, none⟩ (.int .u8 0)) B s.done :=
  ((h.set (s' := { s with pend := false }) rfl).set (s' := { s with pend := false, seat := 0 }) rfl).set rfl
set_option maxHeartbeats 2000000 in
set_option maxRecDepth 10000 in
theorem ld_Choose {w : World} {B choice : Nat} {s : St} (hs : s.ok) (hm : s.md) (hA : TblAt w B s) :
    Calls Tryd.prog 17 #[.pointer (some ⟨B, 0, none⟩), .int .u8 (choice : Int)] w fun e w' => e = .returned (.int .i64 ((s.chooseV choice).2 : Int)) ∧ TblAt w' B (s.chooseV choice).1 ∧ Kept (fun k => k ≠ B) w w' := by
  have HM := Lib.hid (ld_madeT hm hA)
  have HA := Lib.hid hA
  have HO := Lib.hid (fun W => ld_options (w := W))
  have c18 := hA.cell 18
  simp only [List.getElem?_toArray, List.getElem?_cons_zero, List.getElem?_cons_succ] at c18
  have hlt := hA.lt
  obtain ⟨OA, hOA⟩ : ∃ OA, OA = optA := ⟨_, rfl⟩
  have o0 := opt_at0
  have o1 := opt_at1
  have o2 := opt_at2
  have o3 := opt_at3
  have o4 := opt_at4
  have o5 := opt_at5
  rw [← hOA] at HO o0 o1 o2 o3 o4 o5
  clear hOA hA
  unfold St.chooseV
  cases hp : s.pend
  · rw [if_neg (by decide)]
    rw [hp] at c18
    go_enter Tryd.func17, Tryd.ntmps17
    go_wp2_with (go_at_call 29; refine HM.out.mono ?_; rintro e w' ⟨rfl, rfl⟩)
    go_ret
    exact ⟨rfl, HA.out, Kept.refl _ _⟩
  rw [if_pos rfl]
  rw [hp] at c18
  have HP := Lib.hid hp
  clear hp
  go_enter Tryd.func17, Tryd.ntmps17
  go_wp2_with (first
    | (go_at_call 29; refine HM.out.mono ?_; rintro e w' ⟨rfl, rfl⟩)
    | (go_at_call 32; refine (HO.out _).mono ?_; rintro e w1 ⟨rfl, hb1⟩))
  clear c18
  go_loopw [17] (fun i wr => ∃ k : Nat, k ≤ 6 ∧ i = .int .i64 (k : Int) ∧ (∀ q, q < k → ¬ (2 ^ q = choice ∧ s.may q = true)) ∧ Below w.heap.size w wr) (fun i _ => 6 - (intOf i).toNat)
  case atStart => exact ⟨0, by omega, rfl, fun q hq => absurd hq (Nat.not_lt_zero _), hb1⟩
  case round =>
    obtain ⟨k, hk, rfl, hno, hB⟩ := hrel
    by_cases hlt : k < 6
    · rcases (show k = 0 ∨ k = 1 ∨ k = 2 ∨ k = 3 ∨ k = 4 ∨ k = 5 by omega) with rfl | rfl | rfl | rfl | rfl | rfl
      · have HC := Lib.hid (fun (w1 : World) (hb : Below w.heap.size w w1) => ld_pendingB (HA.out.below HA.out.lt hb))
        have HNO := Lib.hid hno
        clear hno
        go_upto_region 8 with (refine wpList_store_row rfl 72 (.tmp 6) (.tmp 19) rfl wr.heap.size #[.int .u8 1, .func (Fn.func 41) #[] #[], .func (Fn.func 42) #[] #[]] rfl rfl 72 _ (Row.new _ _ _) size_op rfl (by simp [Value.oneCell']) ?_)
        have hR4 : Row (World.setRow (wr.alloc (.cells #[.int .u8 0, Value.nilFunc, Value.nilFunc] 72)) wr.heap.size #[.int .u8 1, .func (Fn.func 41) #[] #[], .func (Fn.func 42) #[] #[]]) wr.heap.size 72 #[.int .u8 1, .func (Fn.func 41) #[] #[], .func (Fn.func 42) #[] #[]] := setRow_heap _ _ _ _ _ _ (Row.new _ _ _)
        have hB4 : Below w.heap.size w (World.setRow (wr.alloc (.cells #[.int .u8 0, Value.nilFunc, Value.nilFunc] 72)) wr.heap.size #[.int .u8 1, .func (Fn.func 41) #[] #[], .func (Fn.func 42) #[] #[]]) := below_setRow (hB.alloc hB.size _) hB.size _
        generalize World.setRow (wr.alloc (.cells #[.int .u8 0, Value.nilFunc, Value.nilFunc] 72)) wr.heap.size #[.int .u8 1, .func (Fn.func 41) #[] #[], .func (Fn.func 42) #[] #[]] = w4 at *
        have d0 := hR4.cell 0
        have d1 := hR4.cell 1
        simp only [List.getElem?_toArray, List.getElem?_cons_zero, List.getElem?_cons_succ] at d0 d1
        by_cases hq : 1 = choice
        · have he : ((1 : Int) == (choice : Int)) = true := by rw [beq_iff_eq]; omega
          have HQ := Lib.hid hq
          clear hq
          cases hmay : s.pend
          · rw [hmay] at HC
            go_wp2_with (go_at_call 41; refine (HC.out _ hB4).mono ?_; rintro e w5 ⟨rfl, hb5⟩)
            go_roundw
            case rel => exact ⟨1, by omega, by go_num, choose_next HNO.out (by rintro ⟨-, h⟩; rw [show s.may 0 = s.pend from rfl, hmay] at h; exact absurd h (by decide)), hB4.trans (hb5.mono hB4.size)⟩
            case measure => simp [intOf]
          · rw [hmay] at HC
            have hr := chooseTo_hit s choice 0 (by omega) HNO.out HQ.out hmay
            have HR := Lib.hid hr
            clear hr
            go_wp2_with (first
              | (go_at_call 41; refine (HC.out _ hB4).mono ?_; rintro e w5 ⟨rfl, hb5⟩; have d2 := (hR4.below hR4.lt hb5).cell 2; simp only [List.getElem?_toArray, List.getElem?_cons_zero, List.getElem?_cons_succ] at d2; have HB5 := Lib.hid (hB4.trans (hb5.mono hB4.size)); clear hb5)
              | (go_at_call 42; refine (ld_accept hs (HA.out.below HA.out.lt HB5.out)).mono ?_; rintro e w6 ⟨rfl, hr6, hk6⟩; have HM6 := Lib.hid (LMid.done (w0 := w) ⟨hr6, (Kept.of_below HB5.out).trans hk6⟩); have f18 := hr6.frozen 18; have f16 := hr6.frozen 16; have f17 := hr6.frozen 17; have e18 := hr6.cell 18; have e16 := hr6.cell 16; have e17 := hr6.cell 17; simp only [List.getElem?_toArray, List.getElem?_cons_zero, List.getElem?_cons_succ] at e18 e16 e17))
            go_ret
            rw [HR.out]
            exact ⟨rfl, HM6.out.row, HM6.out.kp⟩
        · have he : ((1 : Int) == (choice : Int)) = false := by rw [beq_eq_false_iff_ne]; omega
          have HQ := Lib.hid hq
          clear hq
          go_wp2_with fail
          go_roundw
          case rel => exact ⟨1, by omega, by go_num, choose_next HNO.out (fun h => HQ.out h.1), hB4⟩
          case measure => simp [intOf]
      · have HC := Lib.hid (fun (w1 : World) (hb : Below w.heap.size w w1) => ld_byDeclarer (HA.out.below HA.out.lt hb))
        have HNO := Lib.hid hno
        clear hno
        go_upto_region 8 with (refine wpList_store_row rfl 72 (.tmp 6) (.tmp 19) rfl wr.heap.size #[.int .u8 2, .func (Fn.func 43) #[] #[], .func (Fn.func 44) #[] #[]] rfl rfl 72 _ (Row.new _ _ _) size_op rfl (by simp [Value.oneCell']) ?_)
        have hR4 : Row (World.setRow (wr.alloc (.cells #[.int .u8 0, Value.nilFunc, Value.nilFunc] 72)) wr.heap.size #[.int .u8 2, .func (Fn.func 43) #[] #[], .func (Fn.func 44) #[] #[]]) wr.heap.size 72 #[.int .u8 2, .func (Fn.func 43) #[] #[], .func (Fn.func 44) #[] #[]] := setRow_heap _ _ _ _ _ _ (Row.new _ _ _)
        have hB4 : Below w.heap.size w (World.setRow (wr.alloc (.cells #[.int .u8 0, Value.nilFunc, Value.nilFunc] 72)) wr.heap.size #[.int .u8 2, .func (Fn.func 43) #[] #[], .func (Fn.func 44) #[] #[]]) := below_setRow (hB.alloc hB.size _) hB.size _
        generalize World.setRow (wr.alloc (.cells #[.int .u8 0, Value.nilFunc, Value.nilFunc] 72)) wr.heap.size #[.int .u8 2, .func (Fn.func 43) #[] #[], .func (Fn.func 44) #[] #[]] = w4 at *
        have d0 := hR4.cell 0
        have d1 := hR4.cell 1
        simp only [List.getElem?_toArray, List.getElem?_cons_zero, List.getElem?_cons_succ] at d0 d1
        by_cases hq : 2 = choice
        · have he : ((2 : Int) == (choice : Int)) = true := by rw [beq_iff_eq]; omega
          have HQ := Lib.hid hq
          clear hq
          cases hmay : s.byDeclarer
          · rw [hmay] at HC
            go_wp2_with (go_at_call 43; refine (HC.out _ hB4).mono ?_; rintro e w5 ⟨rfl, hb5⟩)
            go_roundw
            case rel => exact ⟨2, by omega, by go_num, choose_next HNO.out (by rintro ⟨-, h⟩; rw [show s.may 1 = s.byDeclarer from rfl, hmay] at h; exact absurd h (by decide)), hB4.trans (hb5.mono hB4.size)⟩
            case measure => simp [intOf]
          · rw [hmay] at HC
            have hr := chooseTo_hit s choice 1 (by omega) HNO.out HQ.out hmay
            have HR := Lib.hid hr
            clear hr
            go_wp2_with (first
              | (go_at_call 43; refine (HC.out _ hB4).mono ?_; rintro e w5 ⟨rfl, hb5⟩; have d2 := (hR4.below hR4.lt hb5).cell 2; simp only [List.getElem?_toArray, List.getElem?_cons_zero, List.getElem?_cons_succ] at d2; have HB5 := Lib.hid (hB4.trans (hb5.mono hB4.size)); clear hb5)
              | (go_at_call 44; refine (ld_back (w := w5)).mono ?_; rintro e w6 ⟨rfl, rfl⟩; have hr6 := HA.out.below HA.out.lt HB5.out; have hk6 := Kept.refl (fun k => k ≠ B) w5; have HM6 := Lib.hid (LMid.done (w0 := w) ⟨hr6, (Kept.of_below HB5.out).trans hk6⟩); have f18 := hr6.frozen 18; have f16 := hr6.frozen 16; have f17 := hr6.frozen 17; have e18 := hr6.cell 18; have e16 := hr6.cell 16; have e17 := hr6.cell 17; simp only [List.getElem?_toArray, List.getElem?_cons_zero, List.getElem?_cons_succ] at e18 e16 e17))
            go_ret
            rw [HR.out]
            exact ⟨rfl, HM6.out.row, HM6.out.kp⟩
        · have he : ((2 : Int) == (choice : Int)) = false := by rw [beq_eq_false_iff_ne]; omega
          have HQ := Lib.hid hq
          clear hq
          go_wp2_with fail
          go_roundw
          case rel => exact ⟨2, by omega, by go_num, choose_next HNO.out (fun h => HQ.out h.1), hB4⟩
          case measure => simp [intOf]
      · have HC := Lib.hid (fun (w1 : World) (hb : Below w.heap.size w w1) => ld_byDefender (HA.out.below HA.out.lt hb))
        have HNO := Lib.hid hno
        clear hno
        go_upto_region 8 with (refine wpList_store_row rfl 72 (.tmp 6) (.tmp 19) rfl wr.heap.size #[.int .u8 4, .func (Fn.func 45) #[] #[], .func (Fn.func 46) #[] #[]] rfl rfl 72 _ (Row.new _ _ _) size_op rfl (by simp [Value.oneCell']) ?_)
        have hR4 : Row (World.setRow (wr.alloc (.cells #[.int .u8 0, Value.nilFunc, Value.nilFunc] 72)) wr.heap.size #[.int .u8 4, .func (Fn.func 45) #[] #[], .func (Fn.func 46) #[] #[]]) wr.heap.size 72 #[.int .u8 4, .func (Fn.func 45) #[] #[], .func (Fn.func 46) #[] #[]] := setRow_heap _ _ _ _ _ _ (Row.new _ _ _)
        have hB4 : Below w.heap.size w (World.setRow (wr.alloc (.cells #[.int .u8 0, Value.nilFunc, Value.nilFunc] 72)) wr.heap.size #[.int .u8 4, .func (Fn.func 45) #[] #[], .func (Fn.func 46) #[] #[]]) := below_setRow (hB.alloc hB.size _) hB.size _
        generalize World.setRow (wr.alloc (.cells #[.int .u8 0, Value.nilFunc, Value.nilFunc] 72)) wr.heap.size #[.int .u8 4, .func (Fn.func 45) #[] #[], .func (Fn.func 46) #[] #[]] = w4 at *
        have d0 := hR4.cell 0
        have d1 := hR4.cell 1
        simp only [List.getElem?_toArray, List.getElem?_cons_zero, List.getElem?_cons_succ] at d0 d1
        by_cases hq : 4 = choice
        · have he : ((4 : Int) == (choice : Int)) = true := by rw [beq_iff_eq]; omega
          have HQ := Lib.hid hq
          clear hq
          cases hmay : s.byDefender
          · rw [hmay] at HC
            go_wp2_with (go_at_call 45; refine (HC.out _ hB4).mono ?_; rintro e w5 ⟨rfl, hb5⟩)
            go_roundw
            case rel => exact ⟨3, by omega, by go_num, choose_next HNO.out (by rintro ⟨-, h⟩; rw [show s.may 2 = s.byDefender from rfl, hmay] at h; exact absurd h (by decide)), hB4.trans (hb5.mono hB4.size)⟩
            case measure => simp [intOf]
          · rw [hmay] at HC
            have hr := chooseTo_hit s choice 2 (by omega) HNO.out HQ.out hmay
            have HR := Lib.hid hr
            clear hr
            go_wp2_with (first
              | (go_at_call 45; refine (HC.out _ hB4).mono ?_; rintro e w5 ⟨rfl, hb5⟩; have d2 := (hR4.below hR4.lt hb5).cell 2; simp only [List.getElem?_toArray, List.getElem?_cons_zero, List.getElem?_cons_succ] at d2; have HB5 := Lib.hid (hB4.trans (hb5.mono hB4.size)); clear hb5)
              | (go_at_call 46; refine (ld_penalty hs (HA.out.below HA.out.lt HB5.out)).mono ?_; rintro e w6 ⟨rfl, hr6, hk6⟩; have HM6 := Lib.hid (LMid.done (w0 := w) ⟨hr6, (Kept.of_below HB5.out).trans hk6⟩); have f18 := hr6.frozen 18; have f16 := hr6.frozen 16; have f17 := hr6.frozen 17; have e18 := hr6.cell 18; have e16 := hr6.cell 16; have e17 := hr6.cell 17; simp only [List.getElem?_toArray, List.getElem?_cons_zero, List.getElem?_cons_succ] at e18 e16 e17))
            go_ret
            rw [HR.out]
            exact ⟨rfl, HM6.out.row, HM6.out.kp⟩
        · have he : ((4 : Int) == (choice : Int)) = false := by rw [beq_eq_false_iff_ne]; omega
          have HQ := Lib.hid hq
          clear hq
          go_wp2_with fail
          go_roundw
          case rel => exact ⟨3, by omega, by go_num, choose_next HNO.out (fun h => HQ.out h.1), hB4⟩
          case measure => simp [intOf]
      · have HC := Lib.hid (fun (w1 : World) (hb : Below w.heap.size w w1) => ld_beforePartner hs (HA.out.below HA.out.lt hb))
        have HNO := Lib.hid hno
        clear hno
        go_upto_region 8 with (refine wpList_store_row rfl 72 (.tmp 6) (.tmp 19) rfl wr.heap.size #[.int .u8 8, .func (Fn.func 47) #[] #[], .func (Fn.func 48) #[] #[]] rfl rfl 72 _ (Row.new _ _ _) size_op rfl (by simp [Value.oneCell']) ?_)
        have hR4 : Row (World.setRow (wr.alloc (.cells #[.int .u8 0, Value.nilFunc, Value.nilFunc] 72)) wr.heap.size #[.int .u8 8, .func (Fn.func 47) #[] #[], .func (Fn.func 48) #[] #[]]) wr.heap.size 72 #[.int .u8 8, .func (Fn.func 47) #[] #[], .func (Fn.func 48) #[] #[]] := setRow_heap _ _ _ _ _ _ (Row.new _ _ _)
        have hB4 : Below w.heap.size w (World.setRow (wr.alloc (.cells #[.int .u8 0, Value.nilFunc, Value.nilFunc] 72)) wr.heap.size #[.int .u8 8, .func (Fn.func 47) #[] #[], .func (Fn.func 48) #[] #[]]) := below_setRow (hB.alloc hB.size _) hB.size _
        generalize World.setRow (wr.alloc (.cells #[.int .u8 0, Value.nilFunc, Value.nilFunc] 72)) wr.heap.size #[.int .u8 8, .func (Fn.func 47) #[] #[], .func (Fn.func 48) #[] #[]] = w4 at *
        have d0 := hR4.cell 0
        have d1 := hR4.cell 1
        simp only [List.getElem?_toArray, List.getElem?_cons_zero, List.getElem?_cons_succ] at d0 d1
        by_cases hq : 8 = choice
        · have he : ((8 : Int) == (choice : Int)) = true := by rw [beq_iff_eq]; omega
          have HQ := Lib.hid hq
          clear hq
          cases hmay : s.beforePartner
          · rw [hmay] at HC
            go_wp2_with (go_at_call 47; refine (HC.out _ hB4).mono ?_; rintro e w5 ⟨rfl, hb5⟩)
            go_roundw
            case rel => exact ⟨4, by omega, by go_num, choose_next HNO.out (by rintro ⟨-, h⟩; rw [show s.may 3 = s.beforePartner from rfl, hmay] at h; exact absurd h (by decide)), hB4.trans (hb5.mono hB4.size)⟩
            case measure => simp [intOf]
          · rw [hmay] at HC
            have hr := chooseTo_hit s choice 3 (by omega) HNO.out HQ.out hmay
            have HR := Lib.hid hr
            clear hr
            go_wp2_with (first
              | (go_at_call 47; refine (HC.out _ hB4).mono ?_; rintro e w5 ⟨rfl, hb5⟩; have d2 := (hR4.below hR4.lt hb5).cell 2; simp only [List.getElem?_toArray, List.getElem?_cons_zero, List.getElem?_cons_succ] at d2; have HB5 := Lib.hid (hB4.trans (hb5.mono hB4.size)); clear hb5)
              | (go_at_call 48; refine (ld_require hs (HA.out.below HA.out.lt HB5.out)).mono ?_; rintro e w6 ⟨rfl, hr6, hk6⟩; have HM6 := Lib.hid (LMid.done (w0 := w) ⟨hr6, (Kept.of_below HB5.out).trans hk6⟩); have f18 := hr6.frozen 18; have f16 := hr6.frozen 16; have f17 := hr6.frozen 17; have e18 := hr6.cell 18; have e16 := hr6.cell 16; have e17 := hr6.cell 17; simp only [List.getElem?_toArray, List.getElem?_cons_zero, List.getElem?_cons_succ] at e18 e16 e17))
            go_ret
            rw [HR.out]
            exact ⟨rfl, HM6.out.row, HM6.out.kp⟩
        · have he : ((8 : Int) == (choice : Int)) = false := by rw [beq_eq_false_iff_ne]; omega
          have HQ := Lib.hid hq
          clear hq
          go_wp2_with fail
          go_roundw
          case rel => exact ⟨4, by omega, by go_num, choose_next HNO.out (fun h => HQ.out h.1), hB4⟩
          case measure => simp [intOf]
      · have HC := Lib.hid (fun (w1 : World) (hb : Below w.heap.size w w1) => ld_beforePartner hs (HA.out.below HA.out.lt hb))
        have HNO := Lib.hid hno
        clear hno
        go_upto_region 8 with (refine wpList_store_row rfl 72 (.tmp 6) (.tmp 19) rfl wr.heap.size #[.int .u8 16, .func (Fn.func 47) #[] #[], .func (Fn.func 49) #[] #[]] rfl rfl 72 _ (Row.new _ _ _) size_op rfl (by simp [Value.oneCell']) ?_)
        have hR4 : Row (World.setRow (wr.alloc (.cells #[.int .u8 0, Value.nilFunc, Value.nilFunc] 72)) wr.heap.size #[.int .u8 16, .func (Fn.func 47) #[] #[], .func (Fn.func 49) #[] #[]]) wr.heap.size 72 #[.int .u8 16, .func (Fn.func 47) #[] #[], .func (Fn.func 49) #[] #[]] := setRow_heap _ _ _ _ _ _ (Row.new _ _ _)
        have hB4 : Below w.heap.size w (World.setRow (wr.alloc (.cells #[.int .u8 0, Value.nilFunc, Value.nilFunc] 72)) wr.heap.size #[.int .u8 16, .func (Fn.func 47) #[] #[], .func (Fn.func 49) #[] #[]]) := below_setRow (hB.alloc hB.size _) hB.size _
        generalize World.setRow (wr.alloc (.cells #[.int .u8 0, Value.nilFunc, Value.nilFunc] 72)) wr.heap.size #[.int .u8 16, .func (Fn.func 47) #[] #[], .func (Fn.func 49) #[] #[]] = w4 at *
        have d0 := hR4.cell 0
        have d1 := hR4.cell 1
        simp only [List.getElem?_toArray, List.getElem?_cons_zero, List.getElem?_cons_succ] at d0 d1
        by_cases hq : 16 = choice
        · have he : ((16 : Int) == (choice : Int)) = true := by rw [beq_iff_eq]; omega
          have HQ := Lib.hid hq
          clear hq
          cases hmay : s.beforePartner
          · rw [hmay] at HC
            go_wp2_with (go_at_call 47; refine (HC.out _ hB4).mono ?_; rintro e w5 ⟨rfl, hb5⟩)
            go_roundw
            case rel => exact ⟨5, by omega, by go_num, choose_next HNO.out (by rintro ⟨-, h⟩; rw [show s.may 4 = s.beforePartner from rfl, hmay] at h; exact absurd h (by decide)), hB4.trans (hb5.mono hB4.size)⟩
            case measure => simp [intOf]
          · rw [hmay] at HC
            have hr := chooseTo_hit s choice 4 (by omega) HNO.out HQ.out hmay
            have HR := Lib.hid hr
            clear hr
            go_wp2_with (first
              | (go_at_call 47; refine (HC.out _ hB4).mono ?_; rintro e w5 ⟨rfl, hb5⟩; have d2 := (hR4.below hR4.lt hb5).cell 2; simp only [List.getElem?_toArray, List.getElem?_cons_zero, List.getElem?_cons_succ] at d2; have HB5 := Lib.hid (hB4.trans (hb5.mono hB4.size)); clear hb5)
              | (go_at_call 49; refine (ld_forbid hs (HA.out.below HA.out.lt HB5.out)).mono ?_; rintro e w6 ⟨rfl, hr6, hk6⟩; have HM6 := Lib.hid (LMid.done (w0 := w) ⟨hr6, (Kept.of_below HB5.out).trans hk6⟩); have f18 := hr6.frozen 18; have f16 := hr6.frozen 16; have f17 := hr6.frozen 17; have e18 := hr6.cell 18; have e16 := hr6.cell 16; have e17 := hr6.cell 17; simp only [List.getElem?_toArray, List.getElem?_cons_zero, List.getElem?_cons_succ] at e18 e16 e17))
            go_ret
            rw [HR.out]
            exact ⟨rfl, HM6.out.row, HM6.out.kp⟩
        · have he : ((16 : Int) == (choice : Int)) = false := by rw [beq_eq_false_iff_ne]; omega
          have HQ := Lib.hid hq
          clear hq
          go_wp2_with fail
          go_roundw
          case rel => exact ⟨5, by omega, by go_num, choose_next HNO.out (fun h => HQ.out h.1), hB4⟩
          case measure => simp [intOf]
      · have HC := Lib.hid (fun (w1 : World) (hb : Below w.heap.size w w1) => ld_atOpening (HA.out.below HA.out.lt hb))
        have HNO := Lib.hid hno
        clear hno
        go_upto_region 8 with (refine wpList_store_row rfl 72 (.tmp 6) (.tmp 19) rfl wr.heap.size #[.int .u8 32, .func (Fn.func 50) #[] #[], .func (Fn.func 51) #[] #[]] rfl rfl 72 _ (Row.new _ _ _) size_op rfl (by simp [Value.oneCell']) ?_)
        have hR4 : Row (World.setRow (wr.alloc (.cells #[.int .u8 0, Value.nilFunc, Value.nilFunc] 72)) wr.heap.size #[.int .u8 32, .func (Fn.func 50) #[] #[], .func (Fn.func 51) #[] #[]]) wr.heap.size 72 #[.int .u8 32, .func (Fn.func 50) #[] #[], .func (Fn.func 51) #[] #[]] := setRow_heap _ _ _ _ _ _ (Row.new _ _ _)
        have hB4 : Below w.heap.size w (World.setRow (wr.alloc (.cells #[.int .u8 0, Value.nilFunc, Value.nilFunc] 72)) wr.heap.size #[.int .u8 32, .func (Fn.func 50) #[] #[], .func (Fn.func 51) #[] #[]]) := below_setRow (hB.alloc hB.size _) hB.size _
        generalize World.setRow (wr.alloc (.cells #[.int .u8 0, Value.nilFunc, Value.nilFunc] 72)) wr.heap.size #[.int .u8 32, .func (Fn.func 50) #[] #[], .func (Fn.func 51) #[] #[]] = w4 at *
        have d0 := hR4.cell 0
        have d1 := hR4.cell 1
        simp only [List.getElem?_toArray, List.getElem?_cons_zero, List.getElem?_cons_succ] at d0 d1
        by_cases hq : 32 = choice
        · have he : ((32 : Int) == (choice : Int)) = true := by rw [beq_iff_eq]; omega
          have HQ := Lib.hid hq
          clear hq
          cases hmay : s.atOpening
          · rw [hmay] at HC
            go_wp2_with (go_at_call 50; refine (HC.out _ hB4).mono ?_; rintro e w5 ⟨rfl, hb5⟩)
            go_roundw
            case rel => exact ⟨6, by omega, by go_num, choose_next HNO.out (by rintro ⟨-, h⟩; rw [show s.may 5 = s.atOpening from rfl, hmay] at h; exact absurd h (by decide)), hB4.trans (hb5.mono hB4.size)⟩
            case measure => simp [intOf]
          · rw [hmay] at HC
            have hr := chooseTo_hit s choice 5 (by omega) HNO.out HQ.out hmay
            have HR := Lib.hid hr
            clear hr
            go_wp2_with (first
              | (go_at_call 50; refine (HC.out _ hB4).mono ?_; rintro e w5 ⟨rfl, hb5⟩; have d2 := (hR4.below hR4.lt hb5).cell 2; simp only [List.getElem?_toArray, List.getElem?_cons_zero, List.getElem?_cons_succ] at d2; have HB5 := Lib.hid (hB4.trans (hb5.mono hB4.size)); clear hb5)
              | (go_at_call 51; refine (ld_spread hs (HA.out.below HA.out.lt HB5.out)).mono ?_; rintro e w6 ⟨rfl, hr6, hk6⟩; have HM6 := Lib.hid (LMid.done (w0 := w) ⟨hr6, (Kept.of_below HB5.out).trans hk6⟩); have f18 := hr6.frozen 18; have f16 := hr6.frozen 16; have f17 := hr6.frozen 17; have e18 := hr6.cell 18; have e16 := hr6.cell 16; have e17 := hr6.cell 17; simp only [List.getElem?_toArray, List.getElem?_cons_zero, List.getElem?_cons_succ] at e18 e16 e17))
            go_ret
            rw [HR.out]
            exact ⟨rfl, HM6.out.row, HM6.out.kp⟩
        · have he : ((32 : Int) == (choice : Int)) = false := by rw [beq_eq_false_iff_ne]; omega
          have HQ := Lib.hid hq
          clear hq
          go_wp2_with fail
          go_roundw
          case rel => exact ⟨6, by omega, by go_num, choose_next HNO.out (fun h => HQ.out h.1), hB4⟩
          case measure => simp [intOf]
    · have hk6 : k = 6 := by omega
      subst hk6
      have hr := chooseTo_all s choice 6 (Nat.le_refl 6) hno
      have HR := Lib.hid hr
      clear hr hno
      go_wp2_with fail
      go_ret
      rw [HR.out]
      exact ⟨rfl, HA.out.below HA.out.lt hB, Kept.of_below hB⟩
end Go.Proofs.YtgnlmodaekfhfaaDoor
