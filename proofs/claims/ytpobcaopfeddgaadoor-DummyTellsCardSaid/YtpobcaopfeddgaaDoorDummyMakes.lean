/- DummyMakes over this seat's program. -/
import Derived.Test.YtpobcaopfeddgaaDoorMDre
import Derived.Test.YtpobcaopfeddgaaDoorDmWp
namespace Go.Proofs.YtpobcaopfeddgaaDoor
open Go.RowKit Go.Sort Go.Shelf Go.Maps Go.WideMaps

theorem law15_bits (h : Nat) (hw : W64 h) (w : World) :
    Calls Tryd.prog 21 #[.int .u64 (h : Int)] w fun e w' => e = .returned (.int .i64 (pop h : Int)) ∧ w = w' := by
  have HW := Lib.hid hw
  have hp64 : pop h ≤ 64 := cntLe _ _
  obtain ⟨P, hP⟩ : ∃ P, pop h = P := ⟨_, rfl⟩
  have HP := Lib.hid hP
  rw [hP] at hp64 ⊢
  clear hw hP
  go_enter Tryd.func21, Tryd.ntmps21
  go_wp2
  go_loopg [0, 3] P (fun g x n wr => ∃ (m k : Nat), g = P - k ∧ x = .int .u64 (m : Int) ∧ n = .int .i64 (k : Int) ∧ W64 m ∧ pop m + k = P ∧ wr = w)
  case atStart => exact ⟨h, 0, rfl, rfl, rfl, HW.out, HP.out, rfl⟩
  case round =>
    obtain ⟨m, k, rfl, rfl, rfl, hm, hpk, hwr⟩ := hrel
    rw [hwr]
    clear hwr
    have HM := Lib.hid (And.intro hm hpk)
    by_cases h0 : m = 0
    · have hk : k = P := by rw [h0] at hpk; have : pop 0 = 0 := by decide
                            omega
      subst h0 hk
      clear hm hpk
      go_wp2
      go_ret
      exact ⟨rfl, rfl⟩
    · have hmi : (0 : Int) < (m : Int) := by omega
      have hpp : 0 < pop m := by
        rw [pop_len]
        have : ∃ c, m.testBit c = true := by
          refine Classical.byContradiction fun hn => h0 (Nat.eq_of_testBit_eq fun i => ?_)
          rw [Nat.zero_testBit]
          cases hb : m.testBit i
          · rfl
          · exact (hn ⟨i, hb⟩).elim
        obtain ⟨c, hc⟩ := this
        exact List.length_pos_of_mem ((mem_bits hm).2 hc)
      have hpd := pop_drop hm hpp
      have hdr : bits BinOp.and IntKind.u64 (m : Int) (IntKind.u64.wrap ((m : Int) - 1)) = ((land m (m - 1) : Nat) : Int) := by
        have e : IntKind.u64.wrap ((m : Int) - 1) = ((m - 1 : Nat) : Int) := by
          unfold W64 at hm
          rw [IntKind.wrap_u64]; omega
        rw [e]; exact bits_and_nat _ _ hm (by unfold W64 at hm ⊢; omega)
      have hk64 : k < 64 := by omega
      have HD : Hid (W64 (land m (m - 1)) ∧ pop (land m (m - 1)) + (k + 1) = P ∧ k < P) := Lib.hid ⟨W64.land hm, by omega, by omega⟩
      obtain ⟨m2, hm2⟩ : ∃ m2, land m (m - 1) = m2 := ⟨_, rfl⟩
      rw [hm2] at HD hdr
      clear hm hpk h0 hpp hpd hm2
      go_wp2
      go_roundg (P - (k + 1))
      case measure => have := HD.out; omega
      case rel => exact ⟨m2, k + 1, rfl, rfl, by simp, HD.out.1, HD.out.2.1, rfl⟩
abbrev Z20 : Array Value := #[.int .i64 0, .int .i64 0, .int .i64 0, .int .i64 0, .int .i64 0, .int .i64 0, .int .i64 0, .int .i64 0, .int .i64 0, .int .i64 0, .int .i64 0, .int .i64 0, .int .i64 0, .int .i64 0, .int .i64 0, .int .i64 0, .int .i64 0, .int .i64 0, .int .i64 0, .int .i64 0]
theorem both_makes (h : Nat → Nat) (hw : ∀ s, W64 (h s)) (hq : rightB h 0 0 [] = true → pop (h 0) ≤ 4) : ∃ (F : Nat → Nat) (er : Nat),
    (∀ W, Tab W → Calls Tryd.prog 23 #[.agg (deA h)] W fun e w' => e = .returned (.tuple #[.agg (tab 20 F), .int .i64 (er : Int)]) ∧ Below W.heap.size W w') ∧
    ∀ W, Calls Tryd.prog 24 #[.agg (deA h)] W fun e w' => e = .returned (.tuple #[.agg (tab 20 F), .int .i64 (er : Int)]) ∧ Below W.heap.size W w' := by
  cases hr : rightB h 0 0 []
  · exact ⟨fun _ => 0, 2, fun W _ => dm_Makes_no h hw W hr, fun W => dr_Makes_no h hw W hr⟩
  · exact ⟨mkF h (pop (h 0)), 0, fun W hT => dm_Makes_ok h _ hw W hT hr rfl (hq hr), fun W => dr_Makes_ok h _ hw W hr rfl⟩
set_option maxHeartbeats 4000000 in
set_option maxRecDepth 10000 in
theorem law_DummyMakes (h : Nat → Nat) (w : World) (hw : ∀ s, W64 (h s)) (hT : Tab w) :
    Calls Tryd.prog 8 #[.agg (deA h)] w fun e w' => e = .returned (.bool true) ∧ Below w.heap.size w w' := by
  have HT := Lib.hid hT
  have HW := Lib.hid hw
  have HRI := Lib.hid (fun W => dr_Right h 0 0 [] none 0 hw (by decide) (by decide) W (byt_nil W))
  have HBI := Lib.hid (fun s W => law15_bits (h s) (hw s) W)
  have HPL : Hid (∀ s, pop (h s) ≤ 64) := Lib.hid fun s => cntLe _ _
  have HIX := Lib.hid (fun (j : Nat) (hj : j < 4) => deA_ix h hj)
  unfold posA at HRI
  simp only [List.length_nil, show ((0 : Nat) : Int) = 0 from rfl] at HRI
  have hr1 := Row.new w 24 (deA h)
  have HB1 := Lib.hid ((Below.refl w.heap.size w).alloc (Nat.le_refl _) (.cells (deA h) 24))
  have HR1 := Lib.hid hr1
  clear hr1 hT hw
  obtain ⟨R, hR⟩ : ∃ R, rightB h 0 0 [] = R := ⟨_, rfl⟩
  have HRB := Lib.hid hR
  rw [hR] at HRI
  clear hR
  simp only [deA] at HR1 HB1 ⊢
  go_enter Tryd.func8, Tryd.ntmps8
  go_upto_region 2 with fail
  generalize w.alloc (.cells #[.int .u64 (h 0 : Int), .int .u64 (h 1 : Int), .int .u64 (h 2 : Int), .int .u64 (h 3 : Int)] 24) = w1 at *
  obtain ⟨b1, hb1⟩ : ∃ b, w.heap.size = b := ⟨_, rfl⟩
  rw [hb1] at HR1 ⊢
  clear hb1
  go_loopg [4, 10] 4 (fun g _ i wr => ∃ k : Nat, g = 4 - k ∧ k ≤ 4 ∧ i = .int .i64 (k : Int) ∧ (R = true → ∀ s, s < k → pop (h s) ≤ 2) ∧ Row wr b1 24 #[.int .u64 (h 0 : Int), .int .u64 (h 1 : Int), .int .u64 (h 2 : Int), .int .u64 (h 3 : Int)] ∧ Below w.heap.size w wr)
  case atStart => exact ⟨0, rfl, by omega, rfl, fun _ s hs => by omega, HR1.out, HB1.out⟩
  case round =>
    obtain ⟨k, rfl, hk, rfl, hpre, hrow, hbl⟩ := hrel
    have HPR := Lib.hid hpre
    have HRW := Lib.hid hrow
    have HBL := Lib.hid hbl
    have HTW := Lib.hid (HT.out.below HT.out.pos hbl)
    clear hpre hrow hbl
    by_cases hk4 : k < 4
    · have hki : (k : Int) < 4 := by omega
      have hidx := HIX.out k hk4
      obtain ⟨p, hp⟩ : ∃ p, pop (h k) = p := ⟨_, rfl⟩
      have hp64 : p ≤ 64 := by rw [← hp]; exact HPL.out k
      have HBK := Lib.hid (HBI.out k)
      rw [hp] at HBK
      by_cases hp2 : 2 < p
      · have hp2d : decide ((2 : Int) < (p : Int)) = true := by simp; omega
        have c0 : _ = some (Value.int .u64 (h 0 : Int)) := HRW.out.cell 0
        have c1 : _ = some (Value.int .u64 (h 1 : Int)) := HRW.out.cell 1
        have c2 : _ = some (Value.int .u64 (h 2 : Int)) := HRW.out.cell 2
        have c3 : _ = some (Value.int .u64 (h 3 : Int)) := HRW.out.cell 3
        clear hp2 hp
        go_wp2_with (go_at_call 21; (with_reducible refine (HBK.out _).mono ?_); rintro e w' ⟨rfl, rfl⟩)
        refine (HRI.out _).mono ?_
        rintro e w2 ⟨rfl, hb2⟩
        have HR2 := Lib.hid (HRW.out.later hb2)
        have HB2 := Lib.hid (HBL.out.trans (hb2.mono HBL.out.size))
        have HT2 := Lib.hid (HTW.out.below HTW.out.pos hb2)
        clear hb2 c0 c1 c2 c3
        rcases Bool.eq_false_or_eq_true R with hR | hR
        · have HRT := Lib.hid hR
          clear hR
          rw [HRT.out]
          go_wp2_with fail
          refine (dm_awake _ HT2.out).mono ?_
          rintro e w6 ⟨rfl, hb6⟩
          have HB6 := Lib.hid (HB2.out.trans (hb6.mono HB2.out.size))
          clear hb6
          go_wp2_with fail
          go_ret
          exact ⟨rfl, HB6.out⟩
        · have HRF := Lib.hid hR
          clear hR
          rw [HRF.out]
          go_wp2_with fail
          go_roundg (4 - (k + 1))
          case measure => omega
          case rel => exact ⟨k + 1, rfl, by omega, by simp, (fun e => by have := HRF.out; rw [e] at this; cases this), HR2.out, HB2.out⟩
      · have hp2d : decide ((2 : Int) < (p : Int)) = false := by simp; omega
        have HPN : Hid (R = true → ∀ s, s < k + 1 → pop (h s) ≤ 2) := Lib.hid (fun e s hs => by
          rcases Nat.lt_or_ge s k with h1 | h1
          · exact HPR.out e s h1
          · obtain rfl : s = k := by omega
            rw [hp]; omega)
        clear hp2 hp
        go_wp2_with (go_at_call 21; (with_reducible refine (HBK.out _).mono ?_); rintro e w' ⟨rfl, rfl⟩)
        go_roundg (4 - (k + 1))
        case measure => omega
        case rel => exact ⟨k + 1, rfl, by omega, by simp, HPN.out, HRW.out, HBL.out⟩
    · obtain rfl : k = 4 := by omega
      simp only [show ((4 : Nat) : Int) = 4 from rfl]
      obtain ⟨F, er, hma, hmb⟩ := both_makes h HW.out (fun e => by have := HPR.out (HRB.out.symm.trans e) 0 (by decide); omega)
      have HMA := Lib.hid hma
      have HMB := Lib.hid hmb
      have HEQ := Lib.hid (eq_tab20 F)
      simp only [deA] at HMA HMB
      clear hma hmb
      have HTZ : Hid ((tab 20 F).size = 20 ∧ (tab 20 F).all (·.oneCell') = true) := Lib.hid ⟨tab_size _ _, tab_one _ _⟩
      obtain ⟨TZ, hTZ⟩ : ∃ x, tab 20 F = x := ⟨_, rfl⟩
      rw [hTZ] at HMA HMB HEQ HTZ
      clear hTZ
      have c0 : _ = some (Value.int .u64 (h 0 : Int)) := HRW.out.cell 0
      have c1 : _ = some (Value.int .u64 (h 1 : Int)) := HRW.out.cell 1
      have c2 : _ = some (Value.int .u64 (h 2 : Int)) := HRW.out.cell 2
      have c3 : _ = some (Value.int .u64 (h 3 : Int)) := HRW.out.cell 3
      go_wp2_with fail
      refine (HMA.out _ HTW.out).mono ?_
      rintro e w2 ⟨rfl, hb2⟩
      have HR2 := Lib.hid (HRW.out.later hb2)
      have HB2 := Lib.hid (HBL.out.trans (hb2.mono HBL.out.size))
      clear hb2 c0 c1 c2 c3
      have HN2 := Lib.hid (Row.new w2 52 Z20)
      have ha := below_setRow ((Below.refl w2.heap.size w2).alloc (Nat.le_refl _) (.cells Z20 52)) (Nat.le_refl _) TZ
      have hr : Row ((w2.alloc (.cells Z20 52)).setRow w2.heap.size TZ) w2.heap.size 52 TZ := setRow_heap _ _ _ _ _ _ HN2.out
      have HRA := Lib.hid hr
      have HR3 := Lib.hid (HR2.out.later ha)
      have HB3 := Lib.hid (HB2.out.trans (ha.mono HB2.out.size))
      clear ha hr
      go_upto_region 8 with (refine wpList_store_row rfl 52 (.tmp 5) (.tmp 26) rfl w2.heap.size TZ rfl rfl 52 _ HN2.out (by rw [HTZ.out.1]; exact size_mk) (by rw [HTZ.out.1]; rfl) HTZ.out.2 ?_)
      try dsimp only [Act.put]
      generalize (w2.alloc (.cells Z20 52)).setRow w2.heap.size TZ = w3 at *
      obtain ⟨b5, hb5⟩ : ∃ b, w2.heap.size = b := ⟨_, rfl⟩
      rw [hb5] at HRA ⊢
      clear hb5
      have c0 : _ = some (Value.int .u64 (h 0 : Int)) := HR3.out.cell 0
      have c1 : _ = some (Value.int .u64 (h 1 : Int)) := HR3.out.cell 1
      have c2 : _ = some (Value.int .u64 (h 2 : Int)) := HR3.out.cell 2
      have c3 : _ = some (Value.int .u64 (h 3 : Int)) := HR3.out.cell 3
      go_wp2_with fail
      refine (HMB.out _).mono ?_
      rintro e w4 ⟨rfl, hb4⟩
      have HRA4 := Lib.hid (HRA.out.later hb4)
      have HB4 := Lib.hid (HB3.out.trans (hb4.mono HB3.out.size))
      clear hb4 c0 c1 c2 c3
      have HN4 := Lib.hid (Row.new w4 52 Z20)
      have ha := below_setRow ((Below.refl w4.heap.size w4).alloc (Nat.le_refl _) (.cells Z20 52)) (Nat.le_refl _) TZ
      have hr : Row ((w4.alloc (.cells Z20 52)).setRow w4.heap.size TZ) w4.heap.size 52 TZ := setRow_heap _ _ _ _ _ _ HN4.out
      have HRB5 := Lib.hid hr
      have HRA5 := Lib.hid (HRA4.out.later ha)
      have HB5 := Lib.hid (HB4.out.trans (ha.mono HB4.out.size))
      have HT5 := Lib.hid (HT.out.below HT.out.pos HB5.out)
      clear ha hr
      go_upto_region 9 with (refine wpList_store_row rfl 52 (.tmp 7) (.tmp 31) rfl w4.heap.size TZ rfl rfl 52 _ HN4.out (by rw [HTZ.out.1]; exact size_mk) (by rw [HTZ.out.1]; rfl) HTZ.out.2 ?_)
      try dsimp only [Act.put]
      generalize (w4.alloc (.cells Z20 52)).setRow w4.heap.size TZ = w5 at *
      obtain ⟨b7, hb7⟩ : ∃ b, w4.heap.size = b := ⟨_, rfl⟩
      rw [hb7] at HRB5 ⊢
      clear hb7
      have heq := HEQ.out
      go_wp2_with (first
        | refine wpList_load_row rfl 52 (.tmp 5) rfl b5 rfl 52 TZ (0, 0) _ HRA5.out Tryd.underlying52 rfl (by rw [HTZ.out.1]; exact size_mk) ?_
        | refine wpList_load_row rfl 52 (.tmp 7) rfl b7 rfl 52 TZ (0, 0) _ HRB5.out Tryd.underlying52 rfl (by rw [HTZ.out.1]; exact size_mk) ?_)
      refine (dm_awake _ HT5.out).mono ?_
      rintro e w6 ⟨rfl, hb6⟩
      have HB6 := Lib.hid (HB5.out.trans (hb6.mono HB5.out.size))
      clear hb6
      go_wp2_with fail
      go_ret
      exact ⟨rfl, HB6.out⟩
end Go.Proofs.YtpobcaopfeddgaaDoor
