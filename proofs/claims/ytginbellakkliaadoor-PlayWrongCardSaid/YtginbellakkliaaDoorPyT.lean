/- finesselaw12.PlayWrong walked over this seat's program. -/
import Derived.Test.YtginbellakkliaaDoorPyS
import Derived.Test.YtginbellakkliaaDoorPyO
import Derived.Deep.Cut
namespace Go.Proofs.YtginbellakkliaaDoor
open Go.RowKit Go.Shelf Go.Sort
attribute [local go_sem] Oper.semAt_some

theorem drop1_run {m : Nat} (h0 : m ≠ 0) (h : W64 m) : bits BinOp.and IntKind.u64 (m : Int) (IntKind.u64.wrap ((m : Int) - 1)) = ((drop1 m : Nat) : Int) := by
  have e : IntKind.u64.wrap ((m : Int) - 1) = ((m - 1 : Nat) : Int) := by
    unfold W64 at h; rw [IntKind.wrap_u64]; omega
  rw [e, bits_and_nat m _ h (by unfold W64 at *; omega)]; rfl
theorem made_setH (x : Mn) (i v : Nat) (h : W64 v) : ∀ j, j < 4 → W64 (setH x.d i v j) := fun j _ => W64.setH (made_w64 x) i v h j

set_option maxHeartbeats 1000000 in
set_option maxRecDepth 100000 in
theorem law_PlayWrong0 (x : Mn) (a : Option Addr) (len cap way wh : Nat) (w : World) (hz : Byt w a len x.zs) (hn : x.n < 256) (hc : x.c < 256) (hway : way < 256) (hwh : wh < 256) (hwc : way % 7 = 0) (hT : Tab w) :
    Calls Tryd.prog 4 #[.slice a len cap, .int .u8 (x.n : Int), .int .u8 (x.c : Int), .int .u8 (way : Int), .int .u8 (wh : Int)] w fun e w' => e = .returned (.bool true) ∧ Below w.heap.size w w' := by
  have HA := Lib.hid (fun (w1 : World) (h : Below w.heap.size w w1) => law12_awake w1 (hT.below hT.pos h))
  have HM := Lib.hid (fun (w1 : World) (h : Below w.heap.size w w1) => law12_made x a len cap w1 (hz.below (Nat.le_refl _) h) hn hc)
  have hwi : (way : Int) % 7 = 0 := by omega
  obtain ⟨i, hi⟩ : ∃ i, i = wh % 4 := ⟨_, rfl⟩
  have hi4 : i < 4 := by omega
  have hii : (wh : Int) % 4 = (i : Int) := by omega
  have HI := Lib.hid hi
  clear hwc hi
  have HNEW : Hid (∀ w', Calls Tryd.prog 13 #[.agg #[.int .u64 ((setH x.d i (drop1 (x.d i))) 0 : Int), .int .u64 ((setH x.d i (drop1 (x.d i))) 1 : Int), .int .u64 ((setH x.d i (drop1 (x.d i))) 2 : Int), .int .u64 ((setH x.d i (drop1 (x.d i))) 3 : Int)], .agg #[.int .u8 ((x.lv : Nat) : Int), .int .u8 ((x.dn : Nat) : Int), .int .u8 (x.rk : Int), .int .u8 ((x.dc : Nat) : Int)]] w' fun e w'' => e = .returned (.tuple #[.pointer none, .int .i64 120]) ∧ Below w'.heap.size w' w'') := by
    have hq : newE (setH x.d i (drop1 (x.d i))) (x.lv) (x.dn) x.rk (x.dc) = 120 := newE_deal x (wrong0 x i hi4)
    refine Lib.hid fun w' => ?_
    have hp := play_new_no (setH x.d i (drop1 (x.d i))) (x.lv) (x.dn) x.rk (x.dc) (made_setH x i _ (drop1_w64 (made_w64 x i))) (by rw [hq]; decide) w'
    rw [hq] at hp
    exact hp
  go_enter Tryd.func4, Tryd.ntmps4
  go_upto_region 6 with (first
    | (go_at_call 11; refine (HA.out _ (Below.refl _ _)).mono ?_; rintro e w1 ⟨rfl, hb1⟩)
    | (go_at_call 12; refine (HM.out _ hb1).mono ?_; rintro e w2 ⟨rfl, hb2⟩))
  clear HA HM
  obtain ⟨hR0, hR1⟩ := newW_rows x.d x.lv x.dn x.rk x.dc w2
  have hB3 := (hb1.trans (hb2.mono hb1.size)).trans ((newW_below x.d x.lv x.dn x.rk x.dc w2).mono (Nat.le_trans hb1.size hb2.size))
  have hN : w.heap.size ≤ w2.heap.size := Nat.le_trans hb1.size hb2.size
  dsimp only [newW] at hR0 hR1 hB3
  generalize (w2.alloc (.cells #[.int .u64 (x.d 0 : Int), .int .u64 (x.d 1 : Int), .int .u64 (x.d 2 : Int), .int .u64 (x.d 3 : Int)] 26)).alloc (.cells #[.int .u8 (x.lv : Int), .int .u8 (x.dn : Int), .int .u8 (x.rk : Int), .int .u8 (x.dc : Int)] 28) = w3 at *
  generalize w2.heap.size = N at *
  clear hb1 hb2
  rw [hii]
  have hm := (hR0.cell i).trans (arr4_get x.d i hi4)
  have hf := hR0.frozen i
  have hdr := drop1_run (made_ne x i hi4) (made_w64 x i)
  have hwi64 := made_w64 x i
  go_upto_region 9 with fail
  go_region
  have hD0 := hR0.set i (.int .u64 ((drop1 (x.d i) : Nat) : Int))
  have hD : Row (w3.setCell ⟨N, i, none⟩ (.int .u64 ((drop1 (x.d i) : Nat) : Int))) N 26 (arr4 (setH x.d i (drop1 (x.d i)))) := by rw [arr4_set _ _ _ hi4] at hD0; exact hD0
  have hC : Row (w3.setCell ⟨N, i, none⟩ (.int .u64 ((drop1 (x.d i) : Nat) : Int))) (N + 1) 28 #[.int .u8 (x.lv : Int), .int .u8 (x.dn : Int), .int .u8 (x.rk : Int), .int .u8 (x.dc : Int)] := hR1.other (by omega)
  have hB4 := hB3.setCell (p := ⟨N, i, none⟩) hN (.int .u64 ((drop1 (x.d i) : Nat) : Int))
  generalize w3.setCell ⟨N, i, none⟩ (.int .u64 ((drop1 (x.d i) : Nat) : Int)) = w4 at *
  generalize setH x.d i (drop1 (x.d i)) = D at *
  clear hD0 hR0 hR1 hB3 hm hf hdr
  have q0 := hD.cell 0
  have q1 := hD.cell 1
  have q2 := hD.cell 2
  have q3 := hD.cell 3
  simp only [List.getElem?_toArray, List.getElem?_cons_zero, List.getElem?_cons_succ] at q0 q1 q2 q3
  have p0 := hC.cell 0
  have p1 := hC.cell 1
  have p2 := hC.cell 2
  have p3 := hC.cell 3
  simp only [List.getElem?_toArray, List.getElem?_cons_zero, List.getElem?_cons_succ] at p0 p1 p2 p3
  have HB := Lib.hid hB4
  clear hD hC hB4
  go_wp2_with (go_at_call 13; refine (HNEW.out _).mono ?_; rintro e w5 ⟨rfl, hb5⟩)
  go_ret
  first
    | exact ⟨rfl, HB.out.trans (hb5.mono HB.out.size)⟩
    | exact ⟨rfl, HB.out.drew.trans (hb5.mono HB.out.size)⟩

set_option maxHeartbeats 1000000 in
set_option maxRecDepth 100000 in
theorem law_PlayWrong1 (x : Mn) (a : Option Addr) (len cap way wh : Nat) (w : World) (hz : Byt w a len x.zs) (hn : x.n < 256) (hc : x.c < 256) (hway : way < 256) (hwh : wh < 256) (hwc : way % 7 = 1) (hT : Tab w) :
    Calls Tryd.prog 4 #[.slice a len cap, .int .u8 (x.n : Int), .int .u8 (x.c : Int), .int .u8 (way : Int), .int .u8 (wh : Int)] w fun e w' => e = .returned (.bool true) ∧ Below w.heap.size w w' := by
  have HA := Lib.hid (fun (w1 : World) (h : Below w.heap.size w w1) => law12_awake w1 (hT.below hT.pos h))
  have HM := Lib.hid (fun (w1 : World) (h : Below w.heap.size w w1) => law12_made x a len cap w1 (hz.below (Nat.le_refl _) h) hn hc)
  have hwi : (way : Int) % 7 = 1 := by omega
  obtain ⟨i, hi⟩ : ∃ i, i = wh % 4 := ⟨_, rfl⟩
  have hi4 : i < 4 := by omega
  have hii : (wh : Int) % 4 = (i : Int) := by omega
  have HI := Lib.hid hi
  clear hwc hi
  have HNEW : Hid (∀ w', Calls Tryd.prog 13 #[.agg #[.int .u64 ((setH x.d i (x.d ((i + 1) % 4))) 0 : Int), .int .u64 ((setH x.d i (x.d ((i + 1) % 4))) 1 : Int), .int .u64 ((setH x.d i (x.d ((i + 1) % 4))) 2 : Int), .int .u64 ((setH x.d i (x.d ((i + 1) % 4))) 3 : Int)], .agg #[.int .u8 ((x.lv : Nat) : Int), .int .u8 ((x.dn : Nat) : Int), .int .u8 (x.rk : Int), .int .u8 ((x.dc : Nat) : Int)]] w' fun e w'' => e = .returned (.tuple #[.pointer none, .int .i64 120]) ∧ Below w'.heap.size w' w'') := by
    have hq : newE (setH x.d i (x.d ((i + 1) % 4))) (x.lv) (x.dn) x.rk (x.dc) = 120 := newE_deal x (wrong1 x i hi4)
    refine Lib.hid fun w' => ?_
    have hp := play_new_no (setH x.d i (x.d ((i + 1) % 4))) (x.lv) (x.dn) x.rk (x.dc) (made_setH x i _ (made_w64 x _)) (by rw [hq]; decide) w'
    rw [hq] at hp
    exact hp
  go_enter Tryd.func4, Tryd.ntmps4
  go_upto_region 6 with (first
    | (go_at_call 11; refine (HA.out _ (Below.refl _ _)).mono ?_; rintro e w1 ⟨rfl, hb1⟩)
    | (go_at_call 12; refine (HM.out _ hb1).mono ?_; rintro e w2 ⟨rfl, hb2⟩))
  clear HA HM
  obtain ⟨hR0, hR1⟩ := newW_rows x.d x.lv x.dn x.rk x.dc w2
  have hB3 := (hb1.trans (hb2.mono hb1.size)).trans ((newW_below x.d x.lv x.dn x.rk x.dc w2).mono (Nat.le_trans hb1.size hb2.size))
  have hN : w.heap.size ≤ w2.heap.size := Nat.le_trans hb1.size hb2.size
  dsimp only [newW] at hR0 hR1 hB3
  generalize (w2.alloc (.cells #[.int .u64 (x.d 0 : Int), .int .u64 (x.d 1 : Int), .int .u64 (x.d 2 : Int), .int .u64 (x.d 3 : Int)] 26)).alloc (.cells #[.int .u8 (x.lv : Int), .int .u8 (x.dn : Int), .int .u8 (x.rk : Int), .int .u8 (x.dc : Int)] 28) = w3 at *
  generalize w2.heap.size = N at *
  clear hb1 hb2
  rw [hii]
  have hj4 : (i + 1) % 4 < 4 := Nat.mod_lt _ (by decide)
  have hm := (hR0.cell ((i + 1) % 4)).trans (arr4_get x.d _ hj4)
  have hf := hR0.frozen i
  have hmi := (hR0.cell i).trans (arr4_get x.d i hi4)
  have hjj : ((i : Int) + 1) % 4 = (((i + 1) % 4 : Nat) : Int) := by omega
  have HD : Hid (∀ v w', Row w' N 26 ((arr4 x.d).setIfInBounds i (.int .u64 ((x.d ((i + 1) % 4) : Nat) : Int))) → Row w' N 26 (arr4 (setH x.d i (x.d ((i + 1) % 4)))) ∨ v = 0) := Lib.hid fun _ w' h => .inl (by rw [arr4_set _ _ _ hi4] at h; exact h)
  generalize (i + 1) % 4 = j at *
  have hD0 := hR0.set i (.int .u64 ((x.d j : Nat) : Int))
  have hD : Row (w3.setCell ⟨N, i, none⟩ (.int .u64 ((x.d j : Nat) : Int))) N 26 (arr4 (setH x.d i (x.d j))) := by rw [arr4_set _ _ _ hi4] at hD0; exact hD0
  have hC : Row (w3.setCell ⟨N, i, none⟩ (.int .u64 ((x.d j : Nat) : Int))) (N + 1) 28 #[.int .u8 (x.lv : Int), .int .u8 (x.dn : Int), .int .u8 (x.rk : Int), .int .u8 (x.dc : Int)] := hR1.other (by omega)
  have hB4 := hB3.setCell (p := ⟨N, i, none⟩) hN (.int .u64 ((x.d j : Nat) : Int))
  generalize setH x.d i (x.d j) = D at *
  clear hD0 hR0 hR1 hB3 HD
  have q0 := hD.cell 0
  have q1 := hD.cell 1
  have q2 := hD.cell 2
  have q3 := hD.cell 3
  simp only [List.getElem?_toArray, List.getElem?_cons_zero, List.getElem?_cons_succ] at q0 q1 q2 q3
  have p0 := hC.cell 0
  have p1 := hC.cell 1
  have p2 := hC.cell 2
  have p3 := hC.cell 3
  simp only [List.getElem?_toArray, List.getElem?_cons_zero, List.getElem?_cons_succ] at p0 p1 p2 p3
  have HB := Lib.hid hB4
  clear hD hC hB4
  go_wp2_with (go_at_call 13; refine (HNEW.out _).mono ?_; rintro e w5 ⟨rfl, hb5⟩)
  go_ret
  first
    | exact ⟨rfl, HB.out.trans (hb5.mono HB.out.size)⟩
    | exact ⟨rfl, HB.out.drew.trans (hb5.mono HB.out.size)⟩

set_option maxHeartbeats 1000000 in
set_option maxRecDepth 100000 in
theorem law_PlayWrong2 (x : Mn) (a : Option Addr) (len cap way wh : Nat) (w : World) (hz : Byt w a len x.zs) (hn : x.n < 256) (hc : x.c < 256) (hway : way < 256) (hwh : wh < 256) (hwc : way % 7 = 2) (hT : Tab w) :
    Calls Tryd.prog 4 #[.slice a len cap, .int .u8 (x.n : Int), .int .u8 (x.c : Int), .int .u8 (way : Int), .int .u8 (wh : Int)] w fun e w' => e = .returned (.bool true) ∧ Below w.heap.size w w' := by
  have HA := Lib.hid (fun (w1 : World) (h : Below w.heap.size w w1) => law12_awake w1 (hT.below hT.pos h))
  have HM := Lib.hid (fun (w1 : World) (h : Below w.heap.size w w1) => law12_made x a len cap w1 (hz.below (Nat.le_refl _) h) hn hc)
  have hwi : (way : Int) % 7 = 2 := by omega
  obtain ⟨i, hi⟩ : ∃ i, i = wh % 4 := ⟨_, rfl⟩
  have hi4 : i < 4 := by omega
  have hii : (wh : Int) % 4 = (i : Int) := by omega
  have HI := Lib.hid hi
  clear hwc hi
  have HNEW : Hid (∀ w', Calls Tryd.prog 13 #[.agg #[.int .u64 ((setH x.d i (lor (drop1 (x.d i)) (shl1 (52 + wh % 12)))) 0 : Int), .int .u64 ((setH x.d i (lor (drop1 (x.d i)) (shl1 (52 + wh % 12)))) 1 : Int), .int .u64 ((setH x.d i (lor (drop1 (x.d i)) (shl1 (52 + wh % 12)))) 2 : Int), .int .u64 ((setH x.d i (lor (drop1 (x.d i)) (shl1 (52 + wh % 12)))) 3 : Int)], .agg #[.int .u8 ((x.lv : Nat) : Int), .int .u8 ((x.dn : Nat) : Int), .int .u8 (x.rk : Int), .int .u8 ((x.dc : Nat) : Int)]] w' fun e w'' => e = .returned (.tuple #[.pointer none, .int .i64 120]) ∧ Below w'.heap.size w' w'') := by
    have hq : newE (setH x.d i (lor (drop1 (x.d i)) (shl1 (52 + wh % 12)))) (x.lv) (x.dn) x.rk (x.dc) = 120 := newE_deal x (wrong2 x i (wh % 12) hi4 (Nat.mod_lt _ (by decide)))
    refine Lib.hid fun w' => ?_
    have hp := play_new_no (setH x.d i (lor (drop1 (x.d i)) (shl1 (52 + wh % 12)))) (x.lv) (x.dn) x.rk (x.dc) (made_setH x i _ ((drop1_w64 (made_w64 x i)).lor (W64.shl1 _))) (by rw [hq]; decide) w'
    rw [hq] at hp
    exact hp
  go_enter Tryd.func4, Tryd.ntmps4
  go_upto_region 6 with (first
    | (go_at_call 11; refine (HA.out _ (Below.refl _ _)).mono ?_; rintro e w1 ⟨rfl, hb1⟩)
    | (go_at_call 12; refine (HM.out _ hb1).mono ?_; rintro e w2 ⟨rfl, hb2⟩))
  clear HA HM
  obtain ⟨hR0, hR1⟩ := newW_rows x.d x.lv x.dn x.rk x.dc w2
  have hB3 := (hb1.trans (hb2.mono hb1.size)).trans ((newW_below x.d x.lv x.dn x.rk x.dc w2).mono (Nat.le_trans hb1.size hb2.size))
  have hN : w.heap.size ≤ w2.heap.size := Nat.le_trans hb1.size hb2.size
  dsimp only [newW] at hR0 hR1 hB3
  generalize (w2.alloc (.cells #[.int .u64 (x.d 0 : Int), .int .u64 (x.d 1 : Int), .int .u64 (x.d 2 : Int), .int .u64 (x.d 3 : Int)] 26)).alloc (.cells #[.int .u8 (x.lv : Int), .int .u8 (x.dn : Int), .int .u8 (x.rk : Int), .int .u8 (x.dc : Int)] 28) = w3 at *
  generalize w2.heap.size = N at *
  clear hb1 hb2
  rw [hii]
  have hm := (hR0.cell i).trans (arr4_get x.d i hi4)
  have hf := hR0.frozen i
  have hdr := drop1_run (made_ne x i hi4) (made_w64 x i)
  have hwi64 := made_w64 x i
  have hdw := drop1_w64 hwi64
  have hk12 : 52 + wh % 12 < 64 := by omega
  have hkk : 52 + (wh : Int) % 12 = ((52 + wh % 12 : Nat) : Int) := by omega
  generalize 52 + wh % 12 = k at *
  have hor := run_or64 (drop1 (x.d i)) (shl1 k) hdw (W64.shl1 k)
  go_upto_region 13 with fail
  go_region
  have hD0 := hR0.set i (.int .u64 ((lor (drop1 (x.d i)) (shl1 k) : Nat) : Int))
  have hD : Row (w3.setCell ⟨N, i, none⟩ (.int .u64 ((lor (drop1 (x.d i)) (shl1 k) : Nat) : Int))) N 26 (arr4 (setH x.d i (lor (drop1 (x.d i)) (shl1 k)))) := by rw [arr4_set _ _ _ hi4] at hD0; exact hD0
  have hC : Row (w3.setCell ⟨N, i, none⟩ (.int .u64 ((lor (drop1 (x.d i)) (shl1 k) : Nat) : Int))) (N + 1) 28 #[.int .u8 (x.lv : Int), .int .u8 (x.dn : Int), .int .u8 (x.rk : Int), .int .u8 (x.dc : Int)] := hR1.other (by omega)
  have hB4 := hB3.setCell (p := ⟨N, i, none⟩) hN (.int .u64 ((lor (drop1 (x.d i)) (shl1 k) : Nat) : Int))
  generalize w3.setCell ⟨N, i, none⟩ (.int .u64 ((lor (drop1 (x.d i)) (shl1 k) : Nat) : Int)) = w4 at *
  generalize setH x.d i (lor (drop1 (x.d i)) (shl1 k)) = D at *
  clear hD0 hR0 hR1 hB3 hm hf hdr hor
  have q0 := hD.cell 0
  have q1 := hD.cell 1
  have q2 := hD.cell 2
  have q3 := hD.cell 3
  simp only [List.getElem?_toArray, List.getElem?_cons_zero, List.getElem?_cons_succ] at q0 q1 q2 q3
  have p0 := hC.cell 0
  have p1 := hC.cell 1
  have p2 := hC.cell 2
  have p3 := hC.cell 3
  simp only [List.getElem?_toArray, List.getElem?_cons_zero, List.getElem?_cons_succ] at p0 p1 p2 p3
  have HB := Lib.hid hB4
  clear hD hC hB4
  go_wp2_with (go_at_call 13; refine (HNEW.out _).mono ?_; rintro e w5 ⟨rfl, hb5⟩)
  go_ret
  first
    | exact ⟨rfl, HB.out.trans (hb5.mono HB.out.size)⟩
    | exact ⟨rfl, HB.out.drew.trans (hb5.mono HB.out.size)⟩

set_option maxHeartbeats 1000000 in
set_option maxRecDepth 100000 in
theorem law_PlayWrong3 (x : Mn) (a : Option Addr) (len cap way wh : Nat) (w : World) (hz : Byt w a len x.zs) (hn : x.n < 256) (hc : x.c < 256) (hway : way < 256) (hwh : wh < 256) (hwc : way % 7 = 3) (hT : Tab w) :
    Calls Tryd.prog 4 #[.slice a len cap, .int .u8 (x.n : Int), .int .u8 (x.c : Int), .int .u8 (way : Int), .int .u8 (wh : Int)] w fun e w' => e = .returned (.bool true) ∧ Below w.heap.size w w' := by
  have HA := Lib.hid (fun (w1 : World) (h : Below w.heap.size w w1) => law12_awake w1 (hT.below hT.pos h))
  have HM := Lib.hid (fun (w1 : World) (h : Below w.heap.size w w1) => law12_made x a len cap w1 (hz.below (Nat.le_refl _) h) hn hc)
  have hwi : (way : Int) % 7 = 3 := by omega
  obtain ⟨i, hi⟩ : ∃ i, i = wh % 4 := ⟨_, rfl⟩
  have hi4 : i < 4 := by omega
  have hii : (wh : Int) % 4 = (i : Int) := by omega
  have HI := Lib.hid hi
  clear hwc hi
  have HNEW : Hid (∀ w', Calls Tryd.prog 13 #[.agg #[.int .u64 ((x.d) 0 : Int), .int .u64 ((x.d) 1 : Int), .int .u64 ((x.d) 2 : Int), .int .u64 ((x.d) 3 : Int)], .agg #[.int .u8 0, .int .u8 ((x.dn : Nat) : Int), .int .u8 (x.rk : Int), .int .u8 ((x.dc : Nat) : Int)]] w' fun e w'' => e = .returned (.tuple #[.pointer none, .int .i64 6]) ∧ Below w'.heap.size w' w'') := by
    have hq : newE (x.d) (0) (x.dn) x.rk (x.dc) = 6 := newE_lead (by unfold leadV; rfl) (by decide)
    refine Lib.hid fun w' => ?_
    have hp := play_new_no (x.d) (0) (x.dn) x.rk (x.dc) (fun j _ => made_w64 x j) (by rw [hq]; decide) w'
    rw [hq] at hp
    exact hp
  go_enter Tryd.func4, Tryd.ntmps4
  go_upto_region 6 with (first
    | (go_at_call 11; refine (HA.out _ (Below.refl _ _)).mono ?_; rintro e w1 ⟨rfl, hb1⟩)
    | (go_at_call 12; refine (HM.out _ hb1).mono ?_; rintro e w2 ⟨rfl, hb2⟩))
  clear HA HM
  obtain ⟨hR0, hR1⟩ := newW_rows x.d x.lv x.dn x.rk x.dc w2
  have hB3 := (hb1.trans (hb2.mono hb1.size)).trans ((newW_below x.d x.lv x.dn x.rk x.dc w2).mono (Nat.le_trans hb1.size hb2.size))
  have hN : w.heap.size ≤ w2.heap.size := Nat.le_trans hb1.size hb2.size
  dsimp only [newW] at hR0 hR1 hB3
  generalize (w2.alloc (.cells #[.int .u64 (x.d 0 : Int), .int .u64 (x.d 1 : Int), .int .u64 (x.d 2 : Int), .int .u64 (x.d 3 : Int)] 26)).alloc (.cells #[.int .u8 (x.lv : Int), .int .u8 (x.dn : Int), .int .u8 (x.rk : Int), .int .u8 (x.dc : Int)] 28) = w3 at *
  generalize w2.heap.size = N at *
  clear hb1 hb2
  rw [hii]
  have hf := hR1.frozen 0
  have g0 : w3.cell? ⟨N + 1, 0, none⟩ = some (.int .u8 (x.lv : Int)) := hR1.cell 0
  have hC : Row (w3.setCell ⟨N + 1, 0, none⟩ (.int .u8 0)) (N + 1) 28 #[.int .u8 0, .int .u8 ((x.dn : Nat) : Int), .int .u8 ((x.rk : Nat) : Int), .int .u8 ((x.dc : Nat) : Int)] := hR1.set 0 (.int .u8 0)
  have hD : Row (w3.setCell ⟨N + 1, 0, none⟩ (.int .u8 0)) N 26 (arr4 x.d) := hR0.other (by omega)
  have hB4 := hB3.setCell (p := ⟨N + 1, 0, none⟩) (by show w.heap.size ≤ N + 1; omega) (.int .u8 0)
  clear hR0 hR1 hB3
  have q0 := hD.cell 0
  have q1 := hD.cell 1
  have q2 := hD.cell 2
  have q3 := hD.cell 3
  simp only [List.getElem?_toArray, List.getElem?_cons_zero, List.getElem?_cons_succ] at q0 q1 q2 q3
  have p0 := hC.cell 0
  have p1 := hC.cell 1
  have p2 := hC.cell 2
  have p3 := hC.cell 3
  simp only [List.getElem?_toArray, List.getElem?_cons_zero, List.getElem?_cons_succ] at p0 p1 p2 p3
  have HB := Lib.hid hB4
  clear hD hC hB4
  go_wp2_with (go_at_call 13; refine (HNEW.out _).mono ?_; rintro e w5 ⟨rfl, hb5⟩)
  go_ret
  first
    | exact ⟨rfl, HB.out.trans (hb5.mono HB.out.size)⟩
    | exact ⟨rfl, HB.out.drew.trans (hb5.mono HB.out.size)⟩

set_option maxHeartbeats 1000000 in
set_option maxRecDepth 100000 in
theorem law_PlayWrong4 (x : Mn) (a : Option Addr) (len cap way wh : Nat) (w : World) (hz : Byt w a len x.zs) (hn : x.n < 256) (hc : x.c < 256) (hway : way < 256) (hwh : wh < 256) (hwc : way % 7 = 4) (hT : Tab w) :
    Calls Tryd.prog 4 #[.slice a len cap, .int .u8 (x.n : Int), .int .u8 (x.c : Int), .int .u8 (way : Int), .int .u8 (wh : Int)] w fun e w' => e = .returned (.bool true) ∧ Below w.heap.size w w' := by
  have HA := Lib.hid (fun (w1 : World) (h : Below w.heap.size w w1) => law12_awake w1 (hT.below hT.pos h))
  have HM := Lib.hid (fun (w1 : World) (h : Below w.heap.size w w1) => law12_made x a len cap w1 (hz.below (Nat.le_refl _) h) hn hc)
  have hwi : (way : Int) % 7 = 4 := by omega
  obtain ⟨i, hi⟩ : ∃ i, i = wh % 4 := ⟨_, rfl⟩
  have hi4 : i < 4 := by omega
  have hii : (wh : Int) % 4 = (i : Int) := by omega
  have HI := Lib.hid hi
  clear hwc hi
  have HNEW : Hid (∀ w', Calls Tryd.prog 13 #[.agg #[.int .u64 ((x.d) 0 : Int), .int .u64 ((x.d) 1 : Int), .int .u64 ((x.d) 2 : Int), .int .u64 ((x.d) 3 : Int)], .agg #[.int .u8 ((8 + wh % 248 : Nat) : Int), .int .u8 ((x.dn : Nat) : Int), .int .u8 (x.rk : Int), .int .u8 ((x.dc : Nat) : Int)]] w' fun e w'' => e = .returned (.tuple #[.pointer none, .int .i64 2]) ∧ Below w'.heap.size w' w'') := by
    have hq : newE (x.d) (8 + wh % 248) (x.dn) x.rk (x.dc) = 2 := newE_lead (by unfold leadV; rw [if_neg (by omega), if_neg (by omega)]) (by decide)
    refine Lib.hid fun w' => ?_
    have hp := play_new_no (x.d) (8 + wh % 248) (x.dn) x.rk (x.dc) (fun j _ => made_w64 x j) (by rw [hq]; decide) w'
    rw [hq] at hp
    exact hp
  obtain ⟨k, hk⟩ : ∃ k, k = 8 + wh % 248 := ⟨_, rfl⟩
  have hkk : 8 + (wh : Int) % 248 = (k : Int) := by omega
  have hk256 : k < 256 := by omega
  rw [← hk] at HNEW
  clear hk
  go_enter Tryd.func4, Tryd.ntmps4
  go_upto_region 6 with (first
    | (go_at_call 11; refine (HA.out _ (Below.refl _ _)).mono ?_; rintro e w1 ⟨rfl, hb1⟩)
    | (go_at_call 12; refine (HM.out _ hb1).mono ?_; rintro e w2 ⟨rfl, hb2⟩))
  clear HA HM
  obtain ⟨hR0, hR1⟩ := newW_rows x.d x.lv x.dn x.rk x.dc w2
  have hB3 := (hb1.trans (hb2.mono hb1.size)).trans ((newW_below x.d x.lv x.dn x.rk x.dc w2).mono (Nat.le_trans hb1.size hb2.size))
  have hN : w.heap.size ≤ w2.heap.size := Nat.le_trans hb1.size hb2.size
  dsimp only [newW] at hR0 hR1 hB3
  generalize (w2.alloc (.cells #[.int .u64 (x.d 0 : Int), .int .u64 (x.d 1 : Int), .int .u64 (x.d 2 : Int), .int .u64 (x.d 3 : Int)] 26)).alloc (.cells #[.int .u8 (x.lv : Int), .int .u8 (x.dn : Int), .int .u8 (x.rk : Int), .int .u8 (x.dc : Int)] 28) = w3 at *
  generalize w2.heap.size = N at *
  clear hb1 hb2
  rw [hii]
  have hf := hR1.frozen 0
  have g0 : w3.cell? ⟨N + 1, 0, none⟩ = some (.int .u8 (x.lv : Int)) := hR1.cell 0
  have hC : Row (w3.setCell ⟨N + 1, 0, none⟩ (.int .u8 ((k : Nat) : Int))) (N + 1) 28 #[.int .u8 ((k : Nat) : Int), .int .u8 ((x.dn : Nat) : Int), .int .u8 ((x.rk : Nat) : Int), .int .u8 ((x.dc : Nat) : Int)] := hR1.set 0 (.int .u8 ((k : Nat) : Int))
  have hD : Row (w3.setCell ⟨N + 1, 0, none⟩ (.int .u8 ((k : Nat) : Int))) N 26 (arr4 x.d) := hR0.other (by omega)
  have hB4 := hB3.setCell (p := ⟨N + 1, 0, none⟩) (by show w.heap.size ≤ N + 1; omega) (.int .u8 ((k : Nat) : Int))
  clear hR0 hR1 hB3
  have q0 := hD.cell 0
  have q1 := hD.cell 1
  have q2 := hD.cell 2
  have q3 := hD.cell 3
  simp only [List.getElem?_toArray, List.getElem?_cons_zero, List.getElem?_cons_succ] at q0 q1 q2 q3
  have p0 := hC.cell 0
  have p1 := hC.cell 1
  have p2 := hC.cell 2
  have p3 := hC.cell 3
  simp only [List.getElem?_toArray, List.getElem?_cons_zero, List.getElem?_cons_succ] at p0 p1 p2 p3
  have HB := Lib.hid hB4
  clear hD hC hB4
  go_wp2_with (go_at_call 13; refine (HNEW.out _).mono ?_; rintro e w5 ⟨rfl, hb5⟩)
  go_ret
  first
    | exact ⟨rfl, HB.out.trans (hb5.mono HB.out.size)⟩
    | exact ⟨rfl, HB.out.drew.trans (hb5.mono HB.out.size)⟩

set_option maxHeartbeats 1000000 in
set_option maxRecDepth 100000 in
theorem law_PlayWrong5 (x : Mn) (a : Option Addr) (len cap way wh : Nat) (w : World) (hz : Byt w a len x.zs) (hn : x.n < 256) (hc : x.c < 256) (hway : way < 256) (hwh : wh < 256) (hwc : way % 7 = 5) (hT : Tab w) :
    Calls Tryd.prog 4 #[.slice a len cap, .int .u8 (x.n : Int), .int .u8 (x.c : Int), .int .u8 (way : Int), .int .u8 (wh : Int)] w fun e w' => e = .returned (.bool true) ∧ Below w.heap.size w w' := by
  have HA := Lib.hid (fun (w1 : World) (h : Below w.heap.size w w1) => law12_awake w1 (hT.below hT.pos h))
  have HM := Lib.hid (fun (w1 : World) (h : Below w.heap.size w w1) => law12_made x a len cap w1 (hz.below (Nat.le_refl _) h) hn hc)
  have hwi : (way : Int) % 7 = 5 := by omega
  obtain ⟨i, hi⟩ : ∃ i, i = wh % 4 := ⟨_, rfl⟩
  have hi4 : i < 4 := by omega
  have hii : (wh : Int) % 4 = (i : Int) := by omega
  have HI := Lib.hid hi
  clear hwc hi
  have HNEW : Hid (∀ w', Calls Tryd.prog 13 #[.agg #[.int .u64 ((setH x.d 0 0) 0 : Int), .int .u64 ((setH x.d 0 0) 1 : Int), .int .u64 ((setH x.d 0 0) 2 : Int), .int .u64 ((setH x.d 0 0) 3 : Int)], .agg #[.int .u8 ((x.lv : Nat) : Int), .int .u8 ((5 + wh % 251 : Nat) : Int), .int .u8 (x.rk : Int), .int .u8 ((x.dc : Nat) : Int)]] w' fun e w'' => e = .returned (.tuple #[.pointer none, .int .i64 2]) ∧ Below w'.heap.size w' w'') := by
    have hq : newE (setH x.d 0 0) (x.lv) (5 + wh % 251) x.rk (x.dc) = 2 := newE_lead (by unfold leadV; rw [if_neg (by unfold Mn.lv; omega), if_neg (by omega)]) (by decide)
    refine Lib.hid fun w' => ?_
    have hp := play_new_no (setH x.d 0 0) (x.lv) (5 + wh % 251) x.rk (x.dc) (made_setH x 0 0 W64.zero) (by rw [hq]; decide) w'
    rw [hq] at hp
    exact hp
  obtain ⟨k, hk⟩ : ∃ k, k = 5 + wh % 251 := ⟨_, rfl⟩
  have hkk : 5 + (wh : Int) % 251 = (k : Int) := by omega
  have hk256 : k < 256 := by omega
  rw [← hk] at HNEW
  clear hk
  go_enter Tryd.func4, Tryd.ntmps4
  go_upto_region 6 with (first
    | (go_at_call 11; refine (HA.out _ (Below.refl _ _)).mono ?_; rintro e w1 ⟨rfl, hb1⟩)
    | (go_at_call 12; refine (HM.out _ hb1).mono ?_; rintro e w2 ⟨rfl, hb2⟩))
  clear HA HM
  obtain ⟨hR0, hR1⟩ := newW_rows x.d x.lv x.dn x.rk x.dc w2
  have hB3 := (hb1.trans (hb2.mono hb1.size)).trans ((newW_below x.d x.lv x.dn x.rk x.dc w2).mono (Nat.le_trans hb1.size hb2.size))
  have hN : w.heap.size ≤ w2.heap.size := Nat.le_trans hb1.size hb2.size
  dsimp only [newW] at hR0 hR1 hB3
  generalize (w2.alloc (.cells #[.int .u64 (x.d 0 : Int), .int .u64 (x.d 1 : Int), .int .u64 (x.d 2 : Int), .int .u64 (x.d 3 : Int)] 26)).alloc (.cells #[.int .u8 (x.lv : Int), .int .u8 (x.dn : Int), .int .u8 (x.rk : Int), .int .u8 (x.dc : Int)] 28) = w3 at *
  generalize w2.heap.size = N at *
  clear hb1 hb2
  rw [hii]
  have hf := hR1.frozen 1
  have hf0 : (w3.setCell ⟨N + 1, 1, none⟩ (.int .u8 ((k : Nat) : Int))).frozen? ⟨N, 0, none⟩ = false := (hR0.other (i := 1) (v := (.int .u8 ((k : Nat) : Int))) (show N ≠ N + 1 by omega)).frozen 0
  have hg0 : (w3.setCell ⟨N + 1, 1, none⟩ (.int .u8 ((k : Nat) : Int))).cell? ⟨N, 0, none⟩ = some (.int .u64 (x.d 0 : Int)) := (hR0.other (i := 1) (v := (.int .u8 ((k : Nat) : Int))) (show N ≠ N + 1 by omega)).cell 0
  have g0 : w3.cell? ⟨N + 1, 1, none⟩ = some (.int .u8 (x.dn : Int)) := hR1.cell 1
  have hC : Row ((w3.setCell ⟨N + 1, 1, none⟩ (.int .u8 ((k : Nat) : Int))).setCell ⟨N, 0, none⟩ (.int .u64 0)) (N + 1) 28 #[.int .u8 (x.lv : Int), .int .u8 (k : Int), .int .u8 (x.rk : Int), .int .u8 (x.dc : Int)] := (hR1.set 1 (.int .u8 ((k : Nat) : Int))).other (by omega)
  have hD : Row ((w3.setCell ⟨N + 1, 1, none⟩ (.int .u8 ((k : Nat) : Int))).setCell ⟨N, 0, none⟩ (.int .u64 0)) N 26 (arr4 (setH x.d 0 0)) := (hR0.other (i := 1) (v := (.int .u8 ((k : Nat) : Int))) (show N ≠ N + 1 by omega)).set 0 (.int .u64 0)
  have hB4 := (hB3.setCell (p := ⟨N + 1, 1, none⟩) (by show w.heap.size ≤ N + 1; omega) (.int .u8 ((k : Nat) : Int))).setCell (p := ⟨N, 0, none⟩) hN (.int .u64 0)
  generalize setH x.d 0 0 = D at *
  clear hR0 hR1 hB3
  have q0 := hD.cell 0
  have q1 := hD.cell 1
  have q2 := hD.cell 2
  have q3 := hD.cell 3
  simp only [List.getElem?_toArray, List.getElem?_cons_zero, List.getElem?_cons_succ] at q0 q1 q2 q3
  have p0 := hC.cell 0
  have p1 := hC.cell 1
  have p2 := hC.cell 2
  have p3 := hC.cell 3
  simp only [List.getElem?_toArray, List.getElem?_cons_zero, List.getElem?_cons_succ] at p0 p1 p2 p3
  have HB := Lib.hid hB4
  clear hD hC hB4
  go_wp2_with (go_at_call 13; refine (HNEW.out _).mono ?_; rintro e w5 ⟨rfl, hb5⟩)
  go_ret
  first
    | exact ⟨rfl, HB.out.trans (hb5.mono HB.out.size)⟩
    | exact ⟨rfl, HB.out.drew.trans (hb5.mono HB.out.size)⟩

set_option maxHeartbeats 1000000 in
set_option maxRecDepth 100000 in
theorem law_PlayWrong6 (x : Mn) (a : Option Addr) (len cap way wh : Nat) (w : World) (hz : Byt w a len x.zs) (hn : x.n < 256) (hc : x.c < 256) (hway : way < 256) (hwh : wh < 256) (hwc : way % 7 = 6) (hT : Tab w) :
    Calls Tryd.prog 4 #[.slice a len cap, .int .u8 (x.n : Int), .int .u8 (x.c : Int), .int .u8 (way : Int), .int .u8 (wh : Int)] w fun e w' => e = .returned (.bool true) ∧ Below w.heap.size w w' := by
  have HA := Lib.hid (fun (w1 : World) (h : Below w.heap.size w w1) => law12_awake w1 (hT.below hT.pos h))
  have HM := Lib.hid (fun (w1 : World) (h : Below w.heap.size w w1) => law12_made x a len cap w1 (hz.below (Nat.le_refl _) h) hn hc)
  have hwi : (way : Int) % 7 = 6 := by omega
  obtain ⟨i, hi⟩ : ∃ i, i = wh % 4 := ⟨_, rfl⟩
  have hi4 : i < 4 := by omega
  have hii : (wh : Int) % 4 = (i : Int) := by omega
  have HI := Lib.hid hi
  clear hwc hi
  have HNEW : Hid (∀ w', Calls Tryd.prog 13 #[.agg #[.int .u64 ((x.d) 0 : Int), .int .u64 ((x.d) 1 : Int), .int .u64 ((x.d) 2 : Int), .int .u64 ((x.d) 3 : Int)], .agg #[.int .u8 ((x.lv : Nat) : Int), .int .u8 ((x.dn : Nat) : Int), .int .u8 (x.rk : Int), .int .u8 ((4 + wh % 252 : Nat) : Int)]] w' fun e w'' => e = .returned (.tuple #[.pointer none, .int .i64 2]) ∧ Below w'.heap.size w' w'') := by
    have hq : newE (x.d) (x.lv) (x.dn) x.rk (4 + wh % 252) = 2 := newE_lead (by unfold leadV; rw [if_neg (by unfold Mn.lv; omega), if_neg (by omega)]) (by decide)
    refine Lib.hid fun w' => ?_
    have hp := play_new_no (x.d) (x.lv) (x.dn) x.rk (4 + wh % 252) (fun j _ => made_w64 x j) (by rw [hq]; decide) w'
    rw [hq] at hp
    exact hp
  obtain ⟨k, hk⟩ : ∃ k, k = 4 + wh % 252 := ⟨_, rfl⟩
  have hkk : 4 + (wh : Int) % 252 = (k : Int) := by omega
  have hk256 : k < 256 := by omega
  rw [← hk] at HNEW
  clear hk
  go_enter Tryd.func4, Tryd.ntmps4
  go_upto_region 6 with (first
    | (go_at_call 11; refine (HA.out _ (Below.refl _ _)).mono ?_; rintro e w1 ⟨rfl, hb1⟩)
    | (go_at_call 12; refine (HM.out _ hb1).mono ?_; rintro e w2 ⟨rfl, hb2⟩))
  clear HA HM
  obtain ⟨hR0, hR1⟩ := newW_rows x.d x.lv x.dn x.rk x.dc w2
  have hB3 := (hb1.trans (hb2.mono hb1.size)).trans ((newW_below x.d x.lv x.dn x.rk x.dc w2).mono (Nat.le_trans hb1.size hb2.size))
  have hN : w.heap.size ≤ w2.heap.size := Nat.le_trans hb1.size hb2.size
  dsimp only [newW] at hR0 hR1 hB3
  generalize (w2.alloc (.cells #[.int .u64 (x.d 0 : Int), .int .u64 (x.d 1 : Int), .int .u64 (x.d 2 : Int), .int .u64 (x.d 3 : Int)] 26)).alloc (.cells #[.int .u8 (x.lv : Int), .int .u8 (x.dn : Int), .int .u8 (x.rk : Int), .int .u8 (x.dc : Int)] 28) = w3 at *
  generalize w2.heap.size = N at *
  clear hb1 hb2
  rw [hii]
  have hf := hR1.frozen 3
  have g0 : w3.cell? ⟨N + 1, 3, none⟩ = some (.int .u8 (x.dc : Int)) := hR1.cell 3
  have hC : Row (w3.setCell ⟨N + 1, 3, none⟩ (.int .u8 ((k : Nat) : Int))) (N + 1) 28 #[.int .u8 ((x.lv : Nat) : Int), .int .u8 ((x.dn : Nat) : Int), .int .u8 ((x.rk : Nat) : Int), .int .u8 ((k : Nat) : Int)] := hR1.set 3 (.int .u8 ((k : Nat) : Int))
  have hD : Row (w3.setCell ⟨N + 1, 3, none⟩ (.int .u8 ((k : Nat) : Int))) N 26 (arr4 x.d) := hR0.other (by omega)
  have hB4 := hB3.setCell (p := ⟨N + 1, 3, none⟩) (by show w.heap.size ≤ N + 1; omega) (.int .u8 ((k : Nat) : Int))
  clear hR0 hR1 hB3
  have q0 := hD.cell 0
  have q1 := hD.cell 1
  have q2 := hD.cell 2
  have q3 := hD.cell 3
  simp only [List.getElem?_toArray, List.getElem?_cons_zero, List.getElem?_cons_succ] at q0 q1 q2 q3
  have p0 := hC.cell 0
  have p1 := hC.cell 1
  have p2 := hC.cell 2
  have p3 := hC.cell 3
  simp only [List.getElem?_toArray, List.getElem?_cons_zero, List.getElem?_cons_succ] at p0 p1 p2 p3
  have HB := Lib.hid hB4
  clear hD hC hB4
  go_wp2_with (go_at_call 13; refine (HNEW.out _).mono ?_; rintro e w5 ⟨rfl, hb5⟩)
  go_ret
  first
    | exact ⟨rfl, HB.out.trans (hb5.mono HB.out.size)⟩
    | exact ⟨rfl, HB.out.drew.trans (hb5.mono HB.out.size)⟩
theorem pw_all (x : Mn) (a : Option Addr) (len cap way wh : Nat) (w : World) (hz : Byt w a len x.zs) (hn : x.n < 256) (hc : x.c < 256) (hway : way < 256) (hwh : wh < 256) (hT : Tab w) :
    Calls Tryd.prog 4 #[.slice a len cap, .int .u8 (x.n : Int), .int .u8 (x.c : Int), .int .u8 (way : Int), .int .u8 (wh : Int)] w fun e w' => e = .returned (.bool true) ∧ Below w.heap.size w w' := by
  rcases (show way % 7 = 0 ∨ way % 7 = 1 ∨ way % 7 = 2 ∨ way % 7 = 3 ∨ way % 7 = 4 ∨ way % 7 = 5 ∨ way % 7 = 6 by omega) with h | h | h | h | h | h | h
  · exact law_PlayWrong0 x a len cap way wh w hz hn hc hway hwh h hT
  · exact law_PlayWrong1 x a len cap way wh w hz hn hc hway hwh h hT
  · exact law_PlayWrong2 x a len cap way wh w hz hn hc hway hwh h hT
  · exact law_PlayWrong3 x a len cap way wh w hz hn hc hway hwh h hT
  · exact law_PlayWrong4 x a len cap way wh w hz hn hc hway hwh h hT
  · exact law_PlayWrong5 x a len cap way wh w hz hn hc hway hwh h hT
  · exact law_PlayWrong6 x a len cap way wh w hz hn hc hway hwh h hT
end Go.Proofs.YtginbellakkliaaDoor
