/- RrD, RrE, RrF in one text. -/
import Derived.Test.YtginbellakkliaaDoorMRra

/- finesseref12.playable and New over this seat's program. -/
namespace Go.Proofs.YtginbellakkliaaDoor
open Go.RowKit Go.Shelf Go.Sort Go.Maps Go.WideMaps
attribute [local go_sem] Oper.semAt_some

theorem len_pop {m : Nat} (h : W64 m) : (downL m).length = pop m := downL_pop _ _ h rfl
theorem allTo_of (d : Nat → Nat) {c : Nat} : ∀ {i k : Nat}, k < i → (d k).testBit c = true → (allTo d i).testBit c = true
  | 0, _, h, _ => by omega
  | i + 1, k, h, hb => by
    rw [allTo, testBit_lor, Bool.or_eq_true]
    rcases Nat.lt_succ_iff_lt_or_eq.1 h with h1 | h1
    · exact .inl (allTo_of d h1 hb)
    · subst h1; exact .inr hb
theorem handOk_iff {d : Nat → Nat} (hd : ∀ i, i < 4 → W64 (d i)) {i : Nat} (hi : i < 4) : handOk d i = true ↔ (d i < 4503599627370496 ∧ 1 ≤ pop (d i) ∧ pop (d i) ≤ 13 ∧ (∀ k, k < i → land (d i) (d k) = 0) ∧ (i = 0 ∨ pop (d i) = pop (d (i - 1)))) := by
  unfold handOk numTo
  rw [len_pop (hd i hi)]
  have h1 : land (allTo d i) (d i) = 0 ↔ ∀ k, k < i → land (d i) (d k) = 0 := by
    constructor
    · intro h k hk
      refine land_zero fun c hc => ?_
      cases hb : (d k).testBit c
      · rfl
      · have h2 : (allTo d i).testBit c = true := allTo_of d hk hb
        have h3 : (land (allTo d i) (d i)).testBit c = true := by rw [testBit_land, h2, hc]; rfl
        rw [h] at h3; simp at h3
    · intro h
      refine land_zero fun c hc => ?_
      obtain ⟨k, hk, hb⟩ := allTo_bit d i c hc
      cases hb2 : (d i).testBit c
      · rfl
      · have h3 : (land (d i) (d k)).testBit c = true := by rw [testBit_land, hb, hb2]; rfl
        rw [h k hk] at h3; simp at h3
  by_cases h0 : i = 0
  · subst h0
    simp only [Bool.and_eq_true, Bool.or_eq_true, decide_eq_true_eq, h1, true_or, and_true]
    constructor
    · rintro ⟨⟨⟨a, b⟩, c⟩, e⟩; exact ⟨a, b, c, e⟩
    · rintro ⟨a, b, c, e⟩; exact ⟨⟨⟨a, b⟩, c⟩, e⟩
  · rw [if_neg h0, len_pop (hd (i - 1) (by omega))]
    simp only [Bool.and_eq_true, Bool.or_eq_true, decide_eq_true_eq, h1]
    constructor
    · rintro ⟨⟨⟨⟨a, b⟩, c⟩, e⟩, f⟩; exact ⟨a, b, c, e, f⟩
    · rintro ⟨a, b, c, e, f⟩; exact ⟨⟨⟨⟨a, b⟩, c⟩, e⟩, f⟩
theorem dealOk_iff {d : Nat → Nat} : dealOk d = true ↔ ∀ i, i < 4 → handOk d i = true := by
  refine ⟨fun h i hi => ?_, dealOk_yes⟩
  simp only [dealOk, Bool.and_eq_true] at h
  rcases (show i = 0 ∨ i = 1 ∨ i = 2 ∨ i = 3 by omega) with rfl | rfl | rfl | rfl
  · exact h.1.1.1
  · exact h.1.1.2
  · exact h.1.2
  · exact h.2
theorem dealOk_refl {d : Nat → Nat} (hd : ∀ i, i < 4 → W64 (d i)) : dealOk d = true ↔ (∀ i, i < 4 → pop (d i) = pop (d 0) ∧ d i < 4503599627370496 ∧ ∀ k, k < i → land (d i) (d k) = 0) ∧ 1 ≤ pop (d 0) ∧ pop (d 0) ≤ 13 := by
  rw [dealOk_iff]
  constructor
  · intro h
    have h' := fun i hi => (handOk_iff hd hi).1 (h i hi)
    have hp : ∀ i, i < 4 → pop (d i) = pop (d 0) := by
      intro i
      induction i with
      | zero => intro _; rfl
      | succ i ih =>
        intro hi
        rcases (h' (i + 1) hi).2.2.2.2 with h2 | h2
        · cases h2
        · rw [h2]; exact ih (by omega)
    exact ⟨fun i hi => ⟨hp i hi, (h' i hi).1, (h' i hi).2.2.2.1⟩, (h' 0 (by omega)).2.1, (h' 0 (by omega)).2.2.1⟩
  · rintro ⟨h1, h2, h3⟩ i hi
    refine (handOk_iff hd hi).2 ⟨(h1 i hi).2.1, by rw [(h1 i hi).1]; exact h2, by rw [(h1 i hi).1]; exact h3, (h1 i hi).2.2, ?_⟩
    rcases Nat.eq_zero_or_pos i with h0 | h0
    · exact .inl h0
    · exact .inr (by rw [(h1 i hi).1, (h1 (i - 1) (by omega)).1])
set_option maxHeartbeats 4000000 in
set_option maxRecDepth 10000 in
theorem rq_playable (d : Nat → Nat) (hd : ∀ i, i < 4 → W64 (d i)) (w : World) :
    Calls Tryd.prog 58 #[.agg #[.int .u64 (d 0 : Int), .int .u64 (d 1 : Int), .int .u64 (d 2 : Int), .int .u64 (d 3 : Int)]] w fun e w' => e = .returned (.bool (dealOk d)) ∧ Below w.heap.size w w' := by
  have HI := Lib.hid (dealOk_refl hd)
  have HPC := Lib.hid (fun (i : Nat) (hi : i < 4) (W : World) => rq_count (d i) (hd i hi) W)
  have hp0 : pop (d 0) ≤ 64 := cnt_leR _ _
  obtain ⟨B, hB⟩ : ∃ B, dealOk d = B := ⟨_, rfl⟩
  rw [hB] at HI ⊢
  clear hB
  have HR := Lib.hid (Row.new w 26 #[.int .u64 (d 0 : Int), .int .u64 (d 1 : Int), .int .u64 (d 2 : Int), .int .u64 (d 3 : Int)])
  have HBW := Lib.hid ((Below.refl w.heap.size w).alloc (Nat.le_refl _) (.cells #[.int .u64 (d 0 : Int), .int .u64 (d 1 : Int), .int .u64 (d 2 : Int), .int .u64 (d 3 : Int)] 26))
  have HD := Lib.hid hd
  clear hd
  go_enter Tryd.func58, Tryd.ntmps58
  go_upto_region 2 with fail
  show Code.wp _ _ _ _ (w.alloc (.cells #[.int .u64 (d 0 : Int), .int .u64 (d 1 : Int), .int .u64 (d 2 : Int), .int .u64 (d 3 : Int)] 26))
  generalize w.alloc (.cells #[.int .u64 (d 0 : Int), .int .u64 (d 1 : Int), .int .u64 (d 2 : Int), .int .u64 (d 3 : Int)] 26) = w1 at *
  obtain ⟨b, hb⟩ : ∃ b, w.heap.size = b := ⟨_, rfl⟩
  rw [hb] at HR
  rw [hb]
  clear hb
  have HC : Hid (∀ i, i < 4 → w1.cell? ⟨b, i, none⟩ = some (.int .u64 (d i : Int))) := Lib.hid fun i hi => (HR.out.cell i).trans (arr4_get d i hi)
  go_loopg [3, 4] 4 (fun g iv _ wr => ∃ (i : Nat), g = 4 - i ∧ i ≤ 4 ∧ iv = .int .i64 (i : Int) ∧ (∀ j, j < i → pop (d j) = pop (d 0) ∧ d j < 4503599627370496 ∧ ∀ k, k < j → land (d j) (d k) = 0) ∧ Below w1.heap.size w1 wr)
  case atStart => exact ⟨0, rfl, by omega, rfl, fun j hj => by omega, Below.refl _ _⟩
  case round =>
    obtain ⟨i, rfl, hi, rfl, hall, hbr⟩ := hrel
    have HALL := Lib.hid hall
    have HBR := Lib.hid hbr
    clear hall hbr
    by_cases hi4 : i < 4
    · have hd : decide (i < 4) = true := by simp; omega
      have hiI : (i : Int) < 4 := by omega
      have ci : wr.cell? ⟨b, i, none⟩ = some (.int .u64 (d i : Int)) := (HBR.out.cell (p := ⟨b, i, none⟩) HR.out.lt).trans (HC.out i hi4)
      have c0 : wr.cell? ⟨b, 0, none⟩ = some (.int .u64 (d 0 : Int)) := (HBR.out.cell (p := ⟨b, 0, none⟩) HR.out.lt).trans (HC.out 0 (by omega))
      have ri := fun dd os => cell_regrown ci dd os
      have r0 := fun dd os => cell_regrown c0 dd os
      have HPI := Lib.hid (HPC.out i hi4)
      have HP0 := Lib.hid (HPC.out 0 (by omega))
      have hpi : pop (d i) ≤ 64 := cnt_leR _ _
      have HF1 : Hid (pop (d i) ≠ pop (d 0) → B = false) := Lib.hid fun h => by
        rw [← Bool.not_eq_true, HI.out]; exact fun h2 => h (h2.1 i hi4).1
      have HF2 : Hid (4503599627370496 ≤ d i → B = false) := Lib.hid fun h => by
        rw [← Bool.not_eq_true, HI.out]; exact fun h2 => by have := (h2.1 i hi4).2.1; omega
      have HP : Hid (∀ P, pop (d i) = P → (pop (d i) = pop (d 0) ↔ P = pop (d 0))) := Lib.hid fun P h => by rw [h]
      obtain ⟨pi, hpi'⟩ : ∃ z, pop (d i) = z := ⟨_, rfl⟩
      obtain ⟨p0, hp0'⟩ : ∃ z, pop (d 0) = z := ⟨_, rfl⟩
      have HPE := Lib.hid (And.intro hpi' hp0')
      rw [hpi'] at HPI HF1 hpi
      rw [hp0'] at HP0 HF1 hp0
      have HDI := Lib.hid (HD.out i hi4)
      obtain ⟨di, hdi⟩ : ∃ z, d i = z := ⟨_, rfl⟩
      have HDE := Lib.hid hdi
      rw [hdi] at ci ri HPI HF2 HDI
      obtain ⟨d0, hd0⟩ : ∃ z, d 0 = z := ⟨_, rfl⟩
      rw [hd0] at c0 r0 HP0
      clear hpi' hp0' hdi hd0 HP
      by_cases hpp : pi = p0
      · have hq1 : ((pi : Int) != (p0 : Int)) = false := by rw [bne_eq_false_iff_eq]; omega
        have HPP := Lib.hid hpp
        clear hpp
        by_cases hbig : 4503599627370496 ≤ di
        · have hq2 : decide ((di : Int) ≥ 4503599627370496) = true := by rw [decide_eq_true_eq]; omega
          have hq2' : decide (4503599627370496 ≤ (di : Int)) = true := by rw [decide_eq_true_eq]; omega
          have HNO := Lib.hid (HF2.out hbig)
          clear hbig
          go_upto_region 4 with fail
          refine wp_region_quiet_below (by kernel_rfl) (by kernel_rfl) ?_
          repeat (first
            | go_big_quiet_step (fail)
            | quiet_step (with_reducible exact Calls.regrown_of ((HPI.out _).mono fun _ _ ⟨he, hw⟩ => ⟨he, hw ▸ Below.refl _ _⟩))
            | quiet_step (with_reducible exact Calls.regrown_of ((HP0.out _).mono fun _ _ ⟨he, hw⟩ => ⟨he, hw ▸ Below.refl _ _⟩))
            | quiet_step (fail))
          refine wpQuiet_nil ?_
          rintro _ ⟨qq, rfl⟩
          have HBQ := Lib.hid ((HBR.out.trans ((below_regrown wr qq.d qq.os).mono HBR.out.size)))
          generalize grow (redrawn wr qq.d) qq.os = w5 at *
          clear ci c0 ri r0
          go_wp2_with fail
          go_ret
          exact ⟨by rw [HNO.out]; rfl, HBW.out.trans (HBQ.out.mono HBW.out.size)⟩
        · have hq2 : decide ((di : Int) ≥ 4503599627370496) = false := by rw [decide_eq_false_iff_not]; omega
          have hq2' : decide (4503599627370496 ≤ (di : Int)) = false := by rw [decide_eq_false_iff_not]; omega
          have HLT : Hid (di < 4503599627370496) := Lib.hid (by omega)
          clear hbig
          go_upto_region 4 with fail
          refine wp_region_quiet_below (by kernel_rfl) (by kernel_rfl) ?_
          repeat (first
            | go_big_quiet_step (fail)
            | quiet_step (with_reducible exact Calls.regrown_of ((HPI.out _).mono fun _ _ ⟨he, hw⟩ => ⟨he, hw ▸ Below.refl _ _⟩))
            | quiet_step (with_reducible exact Calls.regrown_of ((HP0.out _).mono fun _ _ ⟨he, hw⟩ => ⟨he, hw ▸ Below.refl _ _⟩))
            | quiet_step (fail))
          refine wpQuiet_nil ?_
          rintro _ ⟨qq, rfl⟩
          have HBQ := Lib.hid ((HBR.out.trans ((below_regrown wr qq.d qq.os).mono HBR.out.size)))
          generalize grow (redrawn wr qq.d) qq.os = w5 at *
          clear ci c0 ri r0
          go_upto_region 7 with fail
          go_loopg [4] i (fun g kv wr => ∃ (k : Nat), g = i - k ∧ k ≤ i ∧ kv = .int .i64 (k : Int) ∧ (∀ j, j < k → land (d i) (d j) = 0) ∧ Below w1.heap.size w1 wr)
          case atStart => exact ⟨0, rfl, by omega, rfl, fun j hj => by omega, HBQ.out⟩
          case round =>
            obtain ⟨k, rfl, hk, rfl, hal2, hbr2⟩ := hrel
            have HAL2 := Lib.hid hal2
            have HBR2 := Lib.hid hbr2
            clear hal2 hbr2
            by_cases hki : k < i
            · have hd2 : decide (k < i) = true := by simp; omega
              have hkI : (k : Int) < 4 := by omega
              have ci : wr.cell? ⟨b, i, none⟩ = some (.int .u64 (d i : Int)) := (HBR2.out.cell (p := ⟨b, i, none⟩) HR.out.lt).trans (HC.out i hi4)
              have ck : wr.cell? ⟨b, k, none⟩ = some (.int .u64 (d k : Int)) := (HBR2.out.cell (p := ⟨b, k, none⟩) HR.out.lt).trans (HC.out k (by omega))
              have hwk := HD.out k (by omega)
              have hwi := HDI.out
              have HF3 : Hid (land (d i) (d k) ≠ 0 → B = false) := Lib.hid fun h => by
                rw [← Bool.not_eq_true, HI.out]; exact fun h2 => h ((h2.1 i hi4).2.2 k hki)
              have HDK : Hid (∃ z, d k = z) := Lib.hid ⟨_, rfl⟩
              rw [HDE.out] at ci HF3
              obtain ⟨dk, hdk⟩ : ∃ z, d k = z := ⟨_, rfl⟩
              have HDKE := Lib.hid hdk
              rw [hdk] at ck HF3 hwk
              have ri := fun dd os => cell_regrown ci dd os
              have rk := fun dd os => cell_regrown ck dd os
              clear hdk HDK
              by_cases hz : land di dk = 0
              · have hq3 : (((land di dk : Nat) : Int) != 0) = false := by rw [hz]; rfl
                have HZ := Lib.hid hz
                clear hz
                go_upto_region 9 with fail
                refine wp_region_quiet_below (by kernel_rfl) (by kernel_rfl) ?_
                repeat (first | go_big_quiet_step (fail) | quiet_step (fail))
                refine wpQuiet_nil ?_
                rintro _ ⟨qq, rfl⟩
                have HBQ2 := Lib.hid ((HBR2.out.trans ((below_regrown wr qq.d qq.os).mono HBR2.out.size)))
                generalize grow (redrawn wr qq.d) qq.os = w6 at *
                clear ci ck ri rk
                go_wp2_with fail
                go_roundg (i - (k + 1))
                case measure => omega
                case rel =>
                  refine ⟨k + 1, rfl, by omega, by go_num, fun j hj => ?_, HBQ2.out⟩
                  rcases Nat.lt_succ_iff_lt_or_eq.1 hj with h | h
                  · exact HAL2.out j h
                  · subst h; rw [HDE.out, HDKE.out]; exact HZ.out
              · have hq3 : (((land di dk : Nat) : Int) != 0) = true := by rw [bne_iff_ne]; omega
                have HNO := Lib.hid (HF3.out hz)
                clear hz
                go_upto_region 9 with fail
                refine wp_region_quiet_below (by kernel_rfl) (by kernel_rfl) ?_
                repeat (first | go_big_quiet_step (fail) | quiet_step (fail))
                refine wpQuiet_nil ?_
                rintro _ ⟨qq, rfl⟩
                have HBQ2 := Lib.hid ((HBR2.out.trans ((below_regrown wr qq.d qq.os).mono HBR2.out.size)))
                generalize grow (redrawn wr qq.d) qq.os = w6 at *
                clear ci ck ri rk
                go_wp2_with fail
                go_ret
                exact ⟨by rw [HNO.out]; rfl, HBW.out.trans (HBQ2.out.mono HBW.out.size)⟩
            · have hd2 : decide (k < i) = false := by simp; omega
              have HKI : Hid (k = i) := Lib.hid (by omega)
              go_wp2_with fail
              go_roundg (4 - (i + 1))
              case measure => omega
              case rel =>
                refine ⟨i + 1, rfl, by omega, by go_num, fun j hj => ?_, HBR2.out⟩
                rcases Nat.lt_succ_iff_lt_or_eq.1 hj with h | h
                · exact HALL.out j h
                · subst h; exact ⟨by rw [HPE.out.1, HPE.out.2]; exact HPP.out, by rw [HDE.out]; exact HLT.out, fun k2 hk2 => HAL2.out k2 (by rw [HKI.out]; exact hk2)⟩
      · have hq1 : ((pi : Int) != (p0 : Int)) = true := by rw [bne_iff_ne]; omega
        have HNO := Lib.hid (HF1.out hpp)
        clear hpp
        go_upto_region 4 with fail
        refine wp_region_quiet_below (by kernel_rfl) (by kernel_rfl) ?_
        repeat (first
          | go_big_quiet_step (fail)
          | quiet_step (with_reducible exact Calls.regrown_of ((HPI.out _).mono fun _ _ ⟨he, hw⟩ => ⟨he, hw ▸ Below.refl _ _⟩))
          | quiet_step (with_reducible exact Calls.regrown_of ((HP0.out _).mono fun _ _ ⟨he, hw⟩ => ⟨he, hw ▸ Below.refl _ _⟩))
          | quiet_step (fail))
        refine wpQuiet_nil ?_
        rintro _ ⟨qq, rfl⟩
        have HBQ := Lib.hid ((HBR.out.trans ((below_regrown wr qq.d qq.os).mono HBR.out.size)))
        generalize grow (redrawn wr qq.d) qq.os = w5 at *
        clear ci c0 ri r0
        go_wp2_with fail
        go_ret
        exact ⟨by rw [HNO.out]; rfl, HBW.out.trans (HBQ.out.mono HBW.out.size)⟩
    · have hd : decide (i < 4) = false := by simp; omega
      have c0 : wr.cell? ⟨b, 0, none⟩ = some (.int .u64 (d 0 : Int)) := (HBR.out.cell (p := ⟨b, 0, none⟩) HR.out.lt).trans (HC.out 0 (by omega))
      have HP0 := Lib.hid (HPC.out 0 (by omega))
      have HFI : Hid (B = (decide (1 ≤ pop (d 0)) && decide (pop (d 0) ≤ 13))) := Lib.hid (by
        rw [Bool.eq_iff_iff, HI.out, Bool.and_eq_true, decide_eq_true_eq, decide_eq_true_eq]
        exact ⟨fun h => h.2, fun h => ⟨fun j hj => HALL.out j (by omega), h⟩⟩)
      obtain ⟨p0, hp0'⟩ : ∃ z, pop (d 0) = z := ⟨_, rfl⟩
      rw [hp0'] at HP0 HFI hp0
      obtain ⟨d0, hd0⟩ : ∃ z, d 0 = z := ⟨_, rfl⟩
      rw [hd0] at c0 HP0
      clear hp0' hd0
      by_cases h1 : 1 ≤ p0
      · have hq1 : decide ((p0 : Int) ≥ 1) = true := by rw [decide_eq_true_eq]; omega
        have hq1' : decide (1 ≤ (p0 : Int)) = true := by rw [decide_eq_true_eq]; omega
        have HF2 : Hid (B = decide ((p0 : Int) ≤ 13)) := Lib.hid (by rw [HFI.out, decide_eq_true h1, Bool.true_and]; exact decide_eq_decide.2 (by omega))
        go_wp2_with fail
        refine (HP0.out _).mono ?_
        rintro e w2 ⟨rfl, rfl⟩
        go_wp2_with fail
        refine (HP0.out _).mono ?_
        rintro e w2 ⟨rfl, rfl⟩
        go_wp2_with fail
        go_ret
        exact ⟨by rw [HF2.out]; rfl, HBW.out.trans (HBR.out.mono HBW.out.size)⟩
      · have hq1 : decide ((p0 : Int) ≥ 1) = false := by rw [decide_eq_false_iff_not]; omega
        have hq1' : decide (1 ≤ (p0 : Int)) = false := by rw [decide_eq_false_iff_not]; omega
        have HF2 : Hid (B = false) := Lib.hid (by rw [HFI.out, decide_eq_false h1]; rfl)
        go_wp2_with fail
        refine (HP0.out _).mono ?_
        rintro e w2 ⟨rfl, rfl⟩
        go_wp2_with fail
        go_ret
        exact ⟨by rw [HF2.out]; rfl, HBW.out.trans (HBR.out.mono HBW.out.size)⟩
end Go.Proofs.YtginbellakkliaaDoor

/- finesseref12.New over this seat's program. -/
namespace Go.Proofs.YtginbellakkliaaDoor
open Go.RowKit Go.Shelf Go.Sort Go.Maps Go.WideMaps
attribute [local go_sem] Oper.semAt_some
attribute [-go_sem] Instr.build

/-- a play of the reference that begins -/
def newR (d : Nat → Nat) (lv dn rk dc : Nat) : Rp := ⟨d, lv, dn, rk, dc, []⟩
/-- what New of the reference returns -/
def newA (d : Nat → Nat) (lv dn rk dc : Nat) : Array Value := if newE d lv dn rk dc = 0 then (newR d lv dn rk dc).cells (.slice none 0 0) (.slice none 0 0) else zeroRp
theorem newA_in (d : Nat → Nat) (lv dn rk dc : Nat) (h : newE d lv dn rk dc = 0) (G : Nat → Prop) (W : World) : RpIn W (newR d lv dn rk dc) [] (newA d lv dn rk dc) G := by
  unfold newA
  rw [if_pos h]
  exact ⟨none, 0, none, 0, rfl, byt_nilR _, Nat.le_refl _, fun ad e => (by cases e), byt_nilR _, Nat.le_refl _, fun ad e => (by cases e)⟩
theorem size_dealN : (Tryd.prog.info? 26).map (·.size) = some 4 := by kernel_rfl
theorem size_contrN : (Tryd.prog.info? 28).map (·.size) = some 4 := by kernel_rfl
set_option maxHeartbeats 4000000 in
set_option maxRecDepth 10000 in
theorem rq_New (d : Nat → Nat) (lv dn rk dc : Nat) (hd : ∀ i, i < 4 → W64 (d i)) (w : World) :
    Calls Tryd.prog 36 #[.agg #[.int .u64 (d 0 : Int), .int .u64 (d 1 : Int), .int .u64 (d 2 : Int), .int .u64 (d 3 : Int)], .agg #[.int .u8 (lv : Int), .int .u8 (dn : Int), .int .u8 (rk : Int), .int .u8 (dc : Int)]] w fun e w' => e = .returned (.tuple #[.agg (newA d lv dn rk dc), .int .i64 (newE d lv dn rk dc : Int)]) ∧ Below w.heap.size w w' := by
  have HLD := Lib.hid (fun W => rq_Leader lv dn rk dc W)
  have HPL := Lib.hid (fun W => rq_playable d hd W)
  have HE : Hid (newE d lv dn rk dc = if (leadV lv dn rk dc).2 = 0 then (if dealOk d then 0 else 120) else (leadV lv dn rk dc).2) := Lib.hid rfl
  have HA : Hid (newA d lv dn rk dc = if newE d lv dn rk dc = 0 then (newR d lv dn rk dc).cells (.slice none 0 0) (.slice none 0 0) else zeroRp) := Lib.hid rfl
  obtain ⟨NA, hNA⟩ : ∃ z, newA d lv dn rk dc = z := ⟨_, rfl⟩
  obtain ⟨ne, hne⟩ : ∃ z, newE d lv dn rk dc = z := ⟨_, rfl⟩
  rw [hne] at HE HA ⊢
  rw [hNA] at HA ⊢
  obtain ⟨l1, l2, hl⟩ : ∃ l1 l2, leadV lv dn rk dc = (l1, l2) := ⟨_, _, rfl⟩
  rw [hl] at HLD HE
  dsimp only at HLD HE
  obtain ⟨ok, hok⟩ : ∃ z, dealOk d = z := ⟨_, rfl⟩
  rw [hok] at HPL HE
  clear hNA hne hl hok hd
  obtain ⟨DA, hDA⟩ : ∃ z : Array Value, #[.int .u64 (d 0 : Int), .int .u64 (d 1 : Int), .int .u64 (d 2 : Int), .int .u64 (d 3 : Int)] = z := ⟨_, rfl⟩
  obtain ⟨CA, hCA⟩ : ∃ z : Array Value, #[.int .u8 (lv : Int), .int .u8 (dn : Int), .int .u8 (rk : Int), .int .u8 (dc : Int)] = z := ⟨_, rfl⟩
  obtain ⟨ZA, hZA⟩ : ∃ z, zeroRp = z := ⟨_, rfl⟩
  have HZE := Lib.hid hZA
  have HDE := Lib.hid hDA
  have HCE := Lib.hid hCA
  have HDZ : Hid (DA.size = 4) := Lib.hid (by rw [← hDA]; rfl)
  have HCZ : Hid (CA.size = 4) := Lib.hid (by rw [← hCA]; rfl)
  have HZZ : Hid (ZA.size = 10) := Lib.hid (by rw [← hZA]; rfl)
  have HZO : Hid (ZA.all (·.oneCell') = true) := Lib.hid (by rw [← hZA]; simp [Value.oneCell'])
  have hbz : ∀ w, (Instr.build 71 #[]).run Tryd.prog w = .ok (.agg ZA) w := fun w => by rw [← hZA]; exact run_build w 71 _ _ (by kernel_rfl)
  have hbn : ∀ w, (Instr.build 71 #[(0, .agg DA), (1, .agg CA)]).run Tryd.prog w = .ok (.agg ((newR d lv dn rk dc).cells (.slice none 0 0) (.slice none 0 0))) w := fun w => by
    rw [← hDA, ← hCA]; exact run_build w 71 _ _ (by kernel_rfl)
  obtain ⟨PN, hPN⟩ : ∃ z, (newR d lv dn rk dc).cells (.slice none 0 0) (.slice none 0 0) = z := ⟨_, rfl⟩
  have HPZ : Hid (PN.size = 10 ∧ PN.all (·.oneCell') = true) := Lib.hid (by rw [← hPN]; exact ⟨rfl, rp_one _ _ _ _ _ _ _⟩)
  rw [hPN] at hbn HA
  rw [hZA] at HA
  rw [hDA] at HPL
  rw [hCA] at HLD
  rw [hDA, hCA]
  have hz1 := Row.new (w.alloc (.cells DA 26)) 28 CA
  rw [show (w.alloc (.cells DA 26)).heap.size = w.heap.size + 1 by simp] at hz1
  have hz2 := Row.new ((w.alloc (.cells DA 26)).alloc (.cells CA 28)) 71 ZA
  rw [show ((w.alloc (.cells DA 26)).alloc (.cells CA 28)).heap.size = w.heap.size + 1 + 1 by simp] at hz2
  have HRD := Lib.hid (((Row.new w 26 DA).alloc (.cells CA 28)).alloc (.cells ZA 71))
  have HRC := Lib.hid (hz1.alloc (.cells ZA 71))
  have HRZ := Lib.hid hz2
  have HB := Lib.hid ((((Below.refl w.heap.size w).alloc (Nat.le_refl _) (.cells DA 26)).alloc (by simp) (.cells CA 28)).alloc (by simp; omega) (.cells ZA 71))
  clear hz1 hz2 hPN hDA hCA
  go_enter Tryd.func36, Tryd.ntmps36
  go_upto_region 1 with fail
  show Code.wp _ _ _ _ (((w.alloc (.cells DA 26)).alloc (.cells CA 28)).alloc (.cells ZA 71))
  clear hZA
  generalize ((w.alloc (.cells DA 26)).alloc (.cells CA 28)).alloc (.cells ZA 71) = w1 at *
  obtain ⟨b, hb⟩ : ∃ b, w.heap.size = b := ⟨_, rfl⟩
  obtain ⟨b3, hb3⟩ : ∃ x, w.heap.size + 1 = x := ⟨_, rfl⟩
  obtain ⟨b4, hb4⟩ : ∃ x, w.heap.size + 1 + 1 = x := ⟨_, rfl⟩
  have HBS : Hid (w.heap.size = b ∧ b3 = b + 1 ∧ b4 = b + 2) := Lib.hid ⟨hb, by omega, by omega⟩
  rw [hb4] at HRZ ⊢
  rw [hb3] at HRC ⊢
  rw [hb] at HRD ⊢
  clear hb hb3 hb4
  go_wp2_with (refine wpList_load_row rfl 28 (.tmp 3) rfl b3 rfl 28 CA (0, 0) _ HRC.out Tryd.underlying28 rfl (by rw [HCZ.out]; exact size_contrN) ?_)
  refine (HLD.out _).mono ?_
  rintro e w2 ⟨rfl, hb2⟩
  have HRD2 := Lib.hid (HRD.out.later hb2)
  have HRC2 := Lib.hid (HRC.out.later hb2)
  have HRZ2 := Lib.hid (HRZ.out.later hb2)
  have HB2 := Lib.hid (HB.out.trans (hb2.mono HB.out.size))
  clear hb2 HRD HRC HRZ HB HLD
  by_cases h0 : l2 = 0
  · subst h0
    have HE1 := Lib.hid (HE.out.trans (if_pos rfl))
    go_wp2_with (refine wpList_load_row rfl 26 (.tmp 2) rfl b rfl 26 DA (0, 0) _ HRD2.out Tryd.underlying26 rfl (by rw [HDZ.out]; exact size_dealN) ?_)
    refine (HPL.out _).mono ?_
    rintro e w3 ⟨rfl, hb3⟩
    have HRD3 := Lib.hid (HRD2.out.later hb3)
    have HRC3 := Lib.hid (HRC2.out.later hb3)
    have HRZ3 := Lib.hid (HRZ2.out.later hb3)
    have HB3 := Lib.hid (HB2.out.trans (hb3.mono HB2.out.size))
    clear hb3 HRD2 HRC2 HRZ2 HB2 HPL
    cases ok
    · have HN : Hid (ne = 120) := Lib.hid HE1.out
      have HNA : Hid (NA = ZA) := Lib.hid (by rw [HA.out, HN.out]; rfl)
      go_wp2_with (refine wpList_store_row rfl 71 (.tmp 4) (.tmp 20) rfl b4 ZA rfl rfl 71 _ HRZ3.out (by rw [HZZ.out]; exact size_rp) rfl HZO.out ?_)
      refine bodyPost_ret (v := .tuple #[.agg ZA, .int .i64 120]) (results_cellt Tryd.results36 _ _ b4 _ ZA (0, 0) _ rfl (setRow_heap _ _ _ _ _ _ HRZ3.out) Tryd.underlying71 rfl (by rw [HZZ.out]; exact size_rp)) rfl ⟨by rw [HNA.out, HN.out]; rfl, below_setRow HB3.out (by have := HBS.out; omega) _⟩
    · have HN : Hid (ne = 0) := Lib.hid HE1.out
      have HNA : Hid (NA = PN) := Lib.hid (by rw [HA.out, HN.out]; rfl)
      go_wp2_with (first
        | refine wpList_load_row rfl 26 (.tmp 2) rfl b rfl 26 DA (0, 0) _ HRD3.out Tryd.underlying26 rfl (by rw [HDZ.out]; exact size_dealN) ?_
        | refine wpList_load_row rfl 28 (.tmp 3) rfl b3 rfl 28 CA (0, 0) _ HRC3.out Tryd.underlying28 rfl (by rw [HCZ.out]; exact size_contrN) ?_
        | refine wpList_store_row rfl 71 (.tmp 4) (.tmp 23) rfl b4 PN rfl rfl 71 _ HRZ3.out (by rw [HPZ.out.1]; exact size_rp) (by rw [HZZ.out, HPZ.out.1]) HPZ.out.2 ?_)
      refine bodyPost_ret (v := .tuple #[.agg PN, .int .i64 0]) (results_cellt Tryd.results36 _ _ b4 _ PN (0, 0) _ rfl (setRow_heap _ _ _ _ _ _ HRZ3.out) Tryd.underlying71 rfl (by rw [HPZ.out.1]; exact size_rp)) rfl ⟨by rw [HNA.out, HN.out]; rfl, below_setRow HB3.out (by have := HBS.out; omega) _⟩
  · have HE1 := Lib.hid (HE.out.trans (if_neg h0))
    have HNA : Hid (NA = ZA) := Lib.hid (by rw [HA.out, HE1.out]; exact if_neg h0)
    have hb0 : ((l2 : Int) != 0) = true := by rw [bne_iff_ne]; omega
    clear h0
    go_wp2_with (refine wpList_store_row rfl 71 (.tmp 4) (.tmp 15) rfl b4 ZA rfl rfl 71 _ HRZ2.out (by rw [HZZ.out]; exact size_rp) rfl HZO.out ?_)
    refine bodyPost_ret (v := .tuple #[.agg ZA, .int .i64 (l2 : Int)]) (results_cellt Tryd.results36 _ _ b4 _ ZA (0, 0) _ rfl (setRow_heap _ _ _ _ _ _ HRZ2.out) Tryd.underlying71 rfl (by rw [HZZ.out]; exact size_rp)) rfl ⟨by rw [HNA.out, HE1.out], below_setRow HB2.out (by have := HBS.out; omega) _⟩
end Go.Proofs.YtginbellakkliaaDoor

/- A play of the program and one of the reference with the same cards: what their functions compute is the same. No walk. -/
namespace Go.Proofs.YtginbellakkliaaDoor
open Go.RowKit Go.Sort

/-- the cards of a play -/
def Ply.cds (P : Ply) : List Nat := P.steps.map Stp.c
/-- a play of the reference with the same cards -/
def toR (d : Nat → Nat) (P : Ply) : Rp := ⟨d, P.lv, P.dn, P.rk, P.dc, P.cds⟩
theorem cds_len (P : Ply) : P.cds.length = P.steps.length := by simp [Ply.cds]
theorem cds_get {P : Ply} {j : Nat} {x : Stp} (h : P.steps[j]? = some x) : P.cds[j]? = some x.c := by simp [Ply.cds, h]
theorem cds_getD {P : Ply} {j : Nat} {x : Stp} (h : P.steps[j]? = some x) : P.cds.getD j 0 = x.c := by rw [List.getD_eq_getElem?_getD, cds_get h]; rfl
/-- a play that has been played from the beginning -/
structure Tied (d : Nat → Nat) (n : Nat) (P : Ply) : Prop where
  hist : Hist d n P
  ld0 : (P.stAt 0).ld = (P.dc + 1) % 4

theorem add_or : ∀ {a b : Nat}, a &&& b = 0 → a ||| b = a + b := by
  intro a
  induction a using Nat.strongRecOn with
  | _ a ih =>
    intro b h
    by_cases h0 : a = 0
    · subst h0; rw [Nat.zero_or, Nat.zero_add]
    · have h2 : a / 2 &&& b / 2 = 0 := by rw [← Nat.and_div_two, h]
      have h3 := ih (a / 2) (by omega) h2
      have h4 : (a ||| b) / 2 = a / 2 + b / 2 := by rw [Nat.or_div_two]; exact h3
      have h5 : (a ||| b) % 2 = a % 2 + b % 2 := by
        have e1 : (a &&& b).testBit 0 = false := by rw [h]; exact Nat.zero_testBit _
        rw [Nat.testBit_and, Nat.testBit_zero, Nat.testBit_zero] at e1
        have e2 : (a ||| b).testBit 0 = (a.testBit 0 || b.testBit 0) := Nat.testBit_or ..
        rw [Nat.testBit_zero, Nat.testBit_zero, Nat.testBit_zero] at e2
        rcases Nat.mod_two_eq_zero_or_one a with ha | ha <;> rcases Nat.mod_two_eq_zero_or_one b with hb | hb <;> rcases Nat.mod_two_eq_zero_or_one (a ||| b) with hc | hc <;> simp [ha, hb, hc] at e1 e2 ⊢
      omega
theorem takeC_no {m c : Nat} (h : m.testBit c = false) : takeC m c = m := by unfold takeC; rw [h]; rfl
theorem landn_sub {m c : Nat} (hc : c < 64) (h : m.testBit c = true) : landn m (shl1 c) = m - 2 ^ c := by
  have e : m = landn m (shl1 c) + 2 ^ c := by
    have hz : landn m (shl1 c) &&& 2 ^ c = 0 := by
      apply Nat.eq_of_testBit_eq
      intro i
      rw [Nat.testBit_and, testBit_landn, testBit_shl1, Nat.testBit_two_pow, Nat.zero_testBit]
      by_cases e : c = i
      · subst e; simp [hc]
      · simp [e]
    have h1 : landn m (shl1 c) ||| 2 ^ c = m := by
      apply Nat.eq_of_testBit_eq
      intro i
      rw [Nat.testBit_or, testBit_landn, testBit_shl1, Nat.testBit_two_pow]
      by_cases e : c = i
      · subst e; simp [h, hc]
      · simp [e]
    rw [add_or hz] at h1
    exact h1.symm
  omega
theorem takeC_yes {m c : Nat} (hc : c < 64) (h : m.testBit c = true) : takeC m c = landn m (shl1 c) := by rw [landn_sub hc h]; unfold takeC; rw [h]; rfl
theorem take4 (l : List Nat) {k : Nat} (h : k + 4 ≤ l.length) : (l.drop k).take 4 = [l.getD k 0, l.getD (k + 1) 0, l.getD (k + 2) 0, l.getD (k + 3) 0] := by
  apply List.ext_getElem
  · simp; omega
  · intro i h1 h2
    have hi : i < 4 := by simpa using h2
    rw [List.getElem_take, List.getElem_drop]
    have hg : ∀ q, (hq : q < l.length) → l.getD q 0 = l[q] := fun q hq => by rw [List.getD_eq_getElem?_getD, List.getElem?_eq_getElem hq]; rfl
    rcases (show i = 0 ∨ i = 1 ∨ i = 2 ∨ i = 3 by omega) with rfl | rfl | rfl | rfl
    · exact (hg _ _).symm
    · exact (hg _ _).symm
    · exact (hg _ _).symm
    · exact (hg _ _).symm
theorem PInv.count {d : Nat → Nat} {n t j : Nat} {P : Ply} (h : PInv d n (P.at j []) t) (hj : j ≤ P.steps.length) : t = j / 4 ∧ (P.stAt j).ct = j % 4 := by
  have h1 := h.many
  have h2 : (P.stAt j).ct < 4 := h.ok.st.ct
  have h3 : (P.steps.take j).length = 4 * t + (P.stAt j).ct := h1
  rw [List.length_take, Nat.min_eq_left hj] at h3
  omega
variable {d : Nat → Nat} {n : Nat} {P : Ply}
theorem Tied.ct (h : Tied d n P) {j : Nat} (hj : j ≤ P.steps.length) : (P.stAt j).ct = j % 4 := by
  obtain ⟨t, ht⟩ := h.hist.inv j hj; exact (ht.count hj).2
theorem Tied.inv (h : Tied d n P) {j : Nat} (hj : j ≤ P.steps.length) : PInv d n (P.at j []) (j / 4) := by
  obtain ⟨t, ht⟩ := h.hist.inv j hj; rw [← (ht.count hj).1]; exact ht
theorem Tied.h0 (h : Tied d n P) (s : Nat) : (P.stAt 0).h s = d s := by
  have h1 := h.inv (Nat.zero_le _)
  apply Nat.eq_of_testBit_eq
  intro i
  rw [Bool.eq_iff_iff]
  constructor
  · exact h1.bit s i
  · intro hb
    rcases h1.cover s i hb with h2 | ⟨x, hx, -⟩
    · exact h2
    · have : x ∈ P.steps.take 0 := hx
      simp at this
/-- the card of a step was in the hand whose turn it was -/
theorem Tied.had (h : Tied d n P) {j : Nat} {x : Stp} (hx : P.steps[j]? = some x) : (x.st.h x.st.next).testBit x.c = true := by
  have hlt : j < P.steps.length := (List.getElem?_eq_some_iff.1 hx).1
  have i1 := h.inv (j := j) (by omega)
  have i2 := h.inv (j := j + 1) (by omega)
  have hst : P.stAt j = x.st := stAt_lt P hx
  have hs2 : P.stAt (j + 1) = x.st.put P.dn x.c := h.hist.chn j x hx
  have hc1 := h.ct (j := j) (by omega)
  have hc2 := h.ct (j := j + 1) (by omega)
  rw [hst] at hc1
  have hld : x.st.ld < 4 := hst ▸ i1.ok.st.ld
  have hct : x.st.ct < 4 := hst ▸ i1.ok.st.ct
  have hnx : x.st.next < 4 := next_lt _
  have p1 : pop (x.st.h x.st.next) + j / 4 + (if (x.st.next + 4 - x.st.ld) % 4 < x.st.ct then 1 else 0) = n := by
    have := i1.hpop x.st.next hnx
    have e : (P.at j []).st = x.st := hst
    rw [e] at this; exact this
  have hr : (x.st.next + 4 - x.st.ld) % 4 = x.st.ct := by unfold PSt.next; omega
  rw [hr, if_neg (Nat.lt_irrefl _)] at p1
  have p2 := i2.hpop x.st.next hnx
  have e2 : (P.at (j + 1) []).st = x.st.put P.dn x.c := hs2
  rw [e2] at p2
  cases hb : (x.st.h x.st.next).testBit x.c
  · exfalso
    have hsame : landn (x.st.h x.st.next) (shl1 x.c) = x.st.h x.st.next := by
      apply Nat.eq_of_testBit_eq
      intro i
      rw [testBit_landn, testBit_shl1]
      by_cases e : x.c = i
      · subst e; simp [hb]
      · simp [e]
    unfold PSt.put at p2
    by_cases h3 : x.st.ct = 3
    · rw [if_pos h3] at p2
      simp only [setH, if_pos] at p2
      rw [hsame, if_neg (Nat.not_lt_zero _)] at p2
      omega
    · rw [if_neg h3] at p2
      simp only [setH, if_pos] at p2
      rw [hsame, hr, if_pos (Nat.lt_succ_self _)] at p2
      omega
  · rfl
/-- the hands are those of the reference -/
theorem Tied.hands (h : Tied d n P) (hd : Deal4 d n) : ∀ j, j ≤ P.steps.length → ∀ s, s < 4 → (P.stAt j).h s = takeAll (d s) (P.cds.take j)
  | 0, _, s, _ => by rw [h.h0 s, List.take_zero]; rfl
  | j + 1, hj, s, hs => by
    have ih := Tied.hands h hd j (by omega)
    have hlt : j < P.steps.length := by omega
    obtain ⟨x, hx⟩ : ∃ x, P.steps[j]? = some x := ⟨_, List.getElem?_eq_getElem hlt⟩
    have hst : P.stAt j = x.st := stAt_lt P hx
    have hhad := h.had hx
    have hc52 : x.c < 52 := y_bit_lt (n := 52) (hd.lt x.st.next) ((h.inv (j := j) (by omega)).bit x.st.next x.c (by have e : (P.at j []).st = x.st := hst; rw [e]; exact hhad))
    rw [h.hist.chn j x hx]
    have htk : P.cds.take (j + 1) = P.cds.take j ++ [x.c] := by rw [List.take_add_one, cds_get hx]; rfl
    rw [htk, takeAll_app, ← ih s hs, hst]
    have hph : (x.st.put P.dn x.c).h = setH x.st.h x.st.next (landn (x.st.h x.st.next) (shl1 x.c)) := by unfold PSt.put; split <;> rfl
    rw [hph]
    unfold setH
    by_cases e : s = x.st.next
    · subst e
      rw [if_pos rfl, takeC_yes (by omega) hhad]
    · rw [if_neg e, takeC_no]
      have i1 := h.inv (j := j) (by omega)
      have e1 : (P.at j []).st = x.st := hst
      cases hb : (x.st.h s).testBit x.c
      · rfl
      · have h1 := i1.bit s x.c (by rw [e1]; exact hb)
        have h2 := i1.bit x.st.next x.c (by rw [e1]; exact hhad)
        rw [hd.apart _ _ _ e h1] at h2
        cases h2
/-- the trick under way -/
theorem Tied.cs (h : Tied d n P) : ∀ j, j ≤ P.steps.length → ∀ i, i < j % 4 → (P.stAt j).cs i = P.cds.getD (4 * (j / 4) + i) 0
  | 0, _, i, hi => by omega
  | j + 1, hj, i, hi => by
    have hlt : j < P.steps.length := by omega
    obtain ⟨x, hx⟩ : ∃ x, P.steps[j]? = some x := ⟨_, List.getElem?_eq_getElem hlt⟩
    have hst : P.stAt j = x.st := stAt_lt P hx
    have hct := h.ct (j := j) (by omega)
    rw [hst] at hct
    rw [h.hist.chn j x hx]
    unfold PSt.put
    by_cases h3 : x.st.ct = 3
    · omega
    · rw [if_neg h3]
      show setH x.st.cs x.st.ct x.c i = _
      unfold setH
      have hq : 4 * ((j + 1) / 4) = 4 * (j / 4) := by omega
      by_cases e : i = x.st.ct
      · rw [if_pos e, hq, e, hct, show 4 * (j / 4) + j % 4 = j by omega, cds_getD hx]
      · rw [if_neg e, hq, ← hst]
        exact Tied.cs h j (by omega) i (by omega)
/-- the four cards of a complete trick -/
theorem Tied.four (h : Tied d n P) {k : Nat} {x : Stp} (hx : P.steps[4 * k + 3]? = some x) : [x.st.cs 0, x.st.cs 1, x.st.cs 2, x.c] = (P.cds.drop (4 * k)).take 4 := by
  have hlt : 4 * k + 3 < P.steps.length := (List.getElem?_eq_some_iff.1 hx).1
  rw [take4 _ (by rw [cds_len]; omega), cds_getD hx]
  have hst : P.stAt (4 * k + 3) = x.st := stAt_lt P hx
  have hc := h.cs (4 * k + 3) (by omega)
  have e1 : (4 * k + 3) % 4 = 3 := by omega
  have e2 : 4 * ((4 * k + 3) / 4) = 4 * k := by omega
  rw [hst, e1, e2] at hc
  rw [hc 0 (by decide), hc 1 (by decide), hc 2 (by decide)]
  rfl
/-- who leads -/
theorem Tied.ld (h : Tied d n P) : ∀ j, j ≤ P.steps.length → (P.stAt j).ld = (toR d P).ldr (j / 4)
  | 0, _ => h.ld0
  | j + 1, hj => by
    have hlt : j < P.steps.length := by omega
    obtain ⟨x, hx⟩ : ∃ x, P.steps[j]? = some x := ⟨_, List.getElem?_eq_getElem hlt⟩
    have hst : P.stAt j = x.st := stAt_lt P hx
    have hct := h.ct (j := j) (by omega)
    have ih := Tied.ld h j (by omega)
    rw [hst] at hct ih
    rw [h.hist.chn j x hx]
    unfold PSt.put
    by_cases h3 : x.st.ct = 3
    · rw [if_pos h3]
      have e1 : (j + 1) / 4 = j / 4 + 1 := by omega
      have e2 : j = 4 * (j / 4) + 3 := by omega
      rw [e1]
      show (seatV P.dn x.st.ld [x.st.cs 0, x.st.cs 1, x.st.cs 2, x.c]).1 = (seatV P.dn ((toR d P).ldr (j / 4)) ((P.cds.drop (4 * (j / 4))).take 4)).1
      rw [h.four (k := j / 4) (by rw [← e2]; exact hx), ih]
    · rw [if_neg h3]
      show x.st.ld = _
      rw [ih]
      congr 1
      omega
theorem Tied.st_ld (h : Tied d n P) : P.st.ld = (toR d P).ldr (P.steps.length / 4) := by
  have := h.ld _ (Nat.le_refl _); rwa [stAt_full] at this
theorem Tied.st_ct (h : Tied d n P) : P.st.ct = P.steps.length % 4 := by
  have := h.ct (Nat.le_refl _); rwa [stAt_full] at this
theorem Tied.pinv (h : Tied d n P) : PInv d n (P.at P.steps.length []) (P.steps.length / 4) := h.inv (Nat.le_refl _)
theorem Tied.st_at (P : Ply) : (P.at P.steps.length []).st = P.st := by unfold Ply.at; exact stAt_full P
theorem Tied.over (h : Tied d n P) (hd : Deal4 d n) : (toR d P).over = P.st.over := by
  have hi := h.pinv
  have h1 := hi.over_iff
  have h2 := hi.t_le
  have h3 := hi.ct_over
  rw [Tied.st_at] at h1 h3
  have h4 := h.st_ct
  rw [Bool.eq_iff_iff, h1]
  unfold Rp.over
  show (P.cds.length == 4 * pop (d 0)) = true ↔ _
  rw [cds_len, hd.pop 0 (by decide), beq_iff_eq]
  constructor
  · intro e; omega
  · intro e; have := h3 e; omega
theorem Tied.turn (h : Tied d n P) (hd : Deal4 d n) : (toR d P).turn = P.turnV := by
  unfold Rp.turn Ply.turnV
  rw [h.over hd]
  show (if P.st.over = true then (0, 121) else (((toR d P).ldr (P.cds.length / 4) + P.cds.length % 4) % 4, 0)) = _
  rw [cds_len, ← h.st_ld, ← h.st_ct]
  rfl
theorem Tied.chooser (h : Tied d n P) (hd : Deal4 d n) : (toR d P).chooser = P.chooserV := by
  unfold Rp.chooser Ply.chooserV
  rw [h.turn hd]
  unfold Ply.turnV Ply.dummy
  cases P.st.over
  · show (if (0 : Nat) = 0 ∧ P.st.next = (P.dc + 2) % 4 then (P.dc, 0) else (P.st.next, 0)) = (if P.st.next = (P.dc + 2) % 4 then (P.dc, 0) else (P.st.next, 0))
    simp
  · rfl
theorem Tied.hand (h : Tied d n P) (hd : Deal4 d n) (s : Nat) : (toR d P).hand s = P.handV s := by
  unfold Rp.hand Ply.handV
  by_cases hs : s ≤ 3
  · rw [if_pos hs, if_pos hs]
    have := h.hands hd _ (Nat.le_refl _) s (by omega)
    rw [stAt_full, ← cds_len, List.take_length] at this
    exact this.symm
  · rw [if_neg hs, if_neg hs]
theorem Tied.trick (h : Tied d n P) : P.st.trick = P.cds.drop (4 * (P.steps.length / 4)) := by
  have hc := h.cs _ (Nat.le_refl _)
  rw [stAt_full] at hc
  unfold PSt.trick
  rw [h.st_ct]
  apply List.ext_getElem
  · simp [cds_len]; omega
  · intro i h1 h2
    have hi : i < P.steps.length % 4 := by simpa using h1
    rw [List.getElem_map, List.getElem_range, hc i hi, List.getElem_drop, List.getD_eq_getElem?_getD, List.getElem?_eq_getElem (by rw [cds_len]; omega)]
    rfl
theorem Tied.trLd (h : Tied d n P) (hd : Deal4 d n) : (toR d P).trLd = P.st.trLd := by
  unfold Rp.trLd PSt.trLd
  rw [h.over hd]
  show (if P.st.over = true then 0 else (toR d P).ldr (P.cds.length / 4)) = _
  rw [cds_len, ← h.st_ld]
theorem Tied.trCs (h : Tied d n P) (hd : Deal4 d n) : (toR d P).trCs = P.st.trCs := by
  unfold Rp.trCs PSt.trCs
  rw [h.over hd, h.trick]
  show (if P.st.over = true then [] else P.cds.drop (4 * (P.cds.length / 4))) = _
  rw [cds_len]
theorem Tied.legal (h : Tied d n P) (hd : Deal4 d n) : (toR d P).legal = P.st.legal := by
  unfold Rp.legal PSt.legal
  rw [h.turn hd, h.hand hd, h.trCs hd]
  unfold Ply.turnV PSt.trCs Ply.handV
  cases P.st.over
  · show (playableV (if P.st.next ≤ 3 then P.st.h P.st.next else 0) P.st.trick).1 = (playableV (P.st.h P.st.next) P.st.trick).1
    rw [if_pos (by have := next_lt P.st; omega)]
  · rfl
/-- the complete tricks -/
theorem Tied.tks (h : Tied d n P) : ∀ k, 4 * k ≤ P.steps.length → P.tkTo k = (List.range k).map fun i => (⟨(toR d P).ldr i, (toR d P).ldr (i + 1), P.cds.getD (4 * i) 0, P.cds.getD (4 * i + 1) 0, P.cds.getD (4 * i + 2) 0, P.cds.getD (4 * i + 3) 0⟩ : Tk)
  | 0, _ => rfl
  | k + 1, hk => by
    unfold Ply.tkTo
    rw [Tied.tks h k (by omega), List.range_succ, List.map_append]
    have hlt : 4 * k + 3 < P.steps.length := by omega
    obtain ⟨x, hx⟩ : ∃ x, P.steps[4 * k + 3]? = some x := ⟨_, List.getElem?_eq_getElem hlt⟩
    rw [hx]
    have h4 := h.four hx
    have h5 := take4 P.cds (k := 4 * k) (by rw [cds_len]; omega)
    have hst : P.stAt (4 * k + 3) = x.st := stAt_lt P hx
    have hl := h.ld (4 * k + 3) (by omega)
    rw [hst, show (4 * k + 3) / 4 = k by omega] at hl
    have h6 := h4.trans h5
    injection h6 with e0 h6
    injection h6 with e1 h6
    injection h6 with e2 h6
    injection h6 with e3 h6
    have hw : (toR d P).ldr (k + 1) = (seatV P.dn x.st.ld [x.st.cs 0, x.st.cs 1, x.st.cs 2, x.c]).1 := by
      rw [h4, hl]; rfl
    congr 1
    show [x.tk P.dn] = [_]
    unfold Stp.tk
    rw [← hw, hl, e0, e1, e2, e3]
theorem Tied.won (h : Tied d n P) (s : Nat) : ∀ k, 4 * k ≤ P.steps.length → tkWon (P.tkTo k) s = (toR d P).wonTo s k
  | 0, _ => rfl
  | k + 1, hk => by
    rw [h.tks (k + 1) hk, List.range_succ, List.map_append, ← h.tks k (by omega)]
    show tkWon (P.tkTo k ++ [_]) s = _
    rw [tkWon_snoc, Tied.won h s k (by omega)]
    rfl
theorem Tied.tricks (h : Tied d n P) (s : Nat) : (toR d P).wonTo s ((toR d P).cs.length / 4) = tkWon P.tks s := by
  show (toR d P).wonTo s (P.cds.length / 4) = _
  rw [cds_len, ← h.won s _ (by omega)]
  rfl
theorem Tied.result (h : Tied d n P) (hd : Deal4 d n) : (toR d P).result = P.resV := by
  unfold Rp.result Ply.resV
  rw [h.over hd, h.tricks]
  rfl
theorem Tied.last (h : Tied d n P) (h4 : 4 ≤ P.steps.length) : (toR d P).lsLd = (lastTk P.tks).ld ∧ (toR d P).lsCs = [(lastTk P.tks).c0, (lastTk P.tks).c1, (lastTk P.tks).c2, (lastTk P.tks).c3] := by
  obtain ⟨k, hk⟩ : ∃ k, P.steps.length / 4 = k + 1 := ⟨P.steps.length / 4 - 1, by omega⟩
  have ht : P.tks = (P.tkTo k) ++ [(⟨(toR d P).ldr k, (toR d P).ldr (k + 1), P.cds.getD (4 * k) 0, P.cds.getD (4 * k + 1) 0, P.cds.getD (4 * k + 2) 0, P.cds.getD (4 * k + 3) 0⟩ : Tk)] := by
    show P.tkTo (P.steps.length / 4) = _
    rw [hk, h.tks (k + 1) (by omega), List.range_succ, List.map_append, ← h.tks k (by omega)]
    rfl
  rw [ht, lastTk_snoc]
  unfold Rp.lsLd Rp.lsCs
  have hl : (toR d P).cs.length / 4 = k + 1 := by show P.cds.length / 4 = _; rw [cds_len, hk]
  rw [hl, if_neg (by omega), if_neg (by omega)]
  refine ⟨rfl, ?_⟩
  show (P.cds.drop (4 * (k + 1) - 4)).take 4 = _
  rw [show 4 * (k + 1) - 4 = 4 * k by omega, take4 _ (by rw [cds_len]; omega)]
theorem Tied.seen (h : Tied d n P) (hd : Deal4 d n) {s : Nat} (hs : s ≤ 3) (i : Nat) (hi : i < 4) : (toR d P).seenH s i = P.seenH s i := by
  unfold Rp.seenH
  rw [if_neg (by omega), seenH_eq, h.hand hd]
  have e : (toR d P).cs.length ≠ 0 ↔ P.steps ≠ [] := by
    show P.cds.length ≠ 0 ↔ _
    rw [cds_len]
    exact ⟨fun h e => h (by rw [e]; rfl), fun h e => h (List.eq_nil_of_length_eq_zero e)⟩
  have hv : P.handV i = P.st.h i := by unfold Ply.handV; rw [if_pos (show i ≤ 3 by omega)]
  by_cases hc : i = s ∨ (i = P.dummy ∧ P.steps ≠ [])
  · rw [if_pos hc, if_pos (hc.imp id fun h => ⟨h.1, e.2 h.2⟩), hv]
  · rw [if_neg hc, if_neg fun h => hc (h.imp id fun h => ⟨h.1, e.1 h.2⟩)]
/-- hands do not meet -/
theorem PInv.meet {t : Nat} {p : Ply} (h : PInv d n p t) (hd : Deal4 d n) {i j : Nat} (hij : i ≠ j) : p.st.h i &&& p.st.h j = 0 := by
  apply Nat.eq_of_testBit_eq
  intro c
  rw [Nat.testBit_and, Nat.zero_testBit]
  cases h1 : (p.st.h i).testBit c
  · rfl
  · cases h2 : (p.st.h j).testBit c
    · rfl
    · have := hd.apart i j c hij (h.bit i c h1)
      rw [h.bit j c h2] at this
      cases this
theorem sum4 {a b c e : Nat} (h1 : a &&& b = 0) (h2 : a &&& c = 0) (h3 : a &&& e = 0) (h4 : b &&& c = 0) (h5 : b &&& e = 0) (h6 : c &&& e = 0) : lor (lor (lor (lor 0 a) b) c) e = a + b + c + e := by
  have z : ∀ x y : Nat, x &&& y = 0 → ∀ i, x.testBit i = true → y.testBit i = false := fun x y h i hx => by
    have : (x &&& y).testBit i = false := by rw [h]; exact Nat.zero_testBit _
    rw [Nat.testBit_and, hx] at this; simpa using this
  have hab : (a ||| b) &&& c = 0 := by
    apply Nat.eq_of_testBit_eq; intro i
    rw [Nat.testBit_and, Nat.testBit_or, Nat.zero_testBit]
    cases ha : a.testBit i
    · cases hb : b.testBit i
      · rfl
      · rw [z b c h4 i hb]; rfl
    · rw [z a c h2 i ha]; simp
  have habc : (a ||| b ||| c) &&& e = 0 := by
    apply Nat.eq_of_testBit_eq; intro i
    rw [Nat.testBit_and, Nat.testBit_or, Nat.testBit_or, Nat.zero_testBit]
    cases ha : a.testBit i
    · cases hb : b.testBit i
      · cases hc : c.testBit i
        · rfl
        · rw [z c e h6 i hc]; rfl
      · rw [z b e h5 i hb]; simp
    · rw [z a e h3 i ha]; simp
  show 0 ||| a ||| b ||| c ||| e = _
  rw [Nat.zero_or, add_or habc, add_or hab, add_or h1]
theorem landn_self (m : Nat) : landn m m = 0 := by unfold landn; rw [Nat.and_self, Nat.xor_self]
theorem landn_zero (m : Nat) : landn m 0 = m := by unfold landn; rw [Nat.and_zero, Nat.xor_zero]
theorem hidTo_eq (r : Rp) (s k : Nat) : r.hidTo s (k + 1) = r.hidTo s k + (if k = s ∨ (k = (r.dc + 2) % 4 ∧ r.cs.length ≠ 0) then 0 else r.hand k) := by
  show (if k = s ∨ (k = (r.dc + 2) % 4 ∧ r.cs.length ≠ 0) then r.hidTo s k else r.hidTo s k + r.hand k) = _
  split <;> rfl
theorem and_piece {x y a b : Nat} (h : x &&& y = 0) (ha : a = 0 ∨ a = x) (hb : b = 0 ∨ b = y) : a &&& b = 0 := by
  rcases ha with rfl | rfl
  · exact Nat.zero_and _
  · rcases hb with rfl | rfl
    · exact Nat.and_zero _
    · exact h
theorem Tied.hid (h : Tied d n P) (hd : Deal4 d n) {s : Nat} (hs : s ≤ 3) : (toR d P).hid s = hidV P.st.h (P.seenH s) := by
  have hm : ∀ i j, i ≠ j → P.st.h i &&& P.st.h j = 0 := fun i j hij => by
    have := h.pinv.meet hd hij
    rwa [Tied.st_at] at this
  have hp : ∀ i, i < 4 → (if i = s ∨ (i = ((toR d P).dc + 2) % 4 ∧ (toR d P).cs.length ≠ 0) then 0 else (toR d P).hand i) = landn (P.st.h i) (P.seenH s i) := fun i hi => by
    rw [← h.seen hd hs i hi]
    unfold Rp.seenH
    rw [if_neg (show ¬ 3 < s by omega), h.hand hd]
    unfold Ply.handV
    rw [if_pos (show i ≤ 3 by omega)]
    split
    · rw [landn_self]
    · rw [landn_zero]
  have hpc : ∀ i, landn (P.st.h i) (P.seenH s i) = 0 ∨ landn (P.st.h i) (P.seenH s i) = P.st.h i := fun i => by
    rw [seenH_eq]
    split
    · left; exact landn_self _
    · right; exact landn_zero _
  unfold Rp.hid
  rw [if_neg (show ¬ 3 < s by omega), hidTo_eq, hidTo_eq, hidTo_eq, hidTo_eq, hp 0 (by decide), hp 1 (by decide), hp 2 (by decide), hp 3 (by decide)]
  unfold hidV
  rw [sum4 (and_piece (hm 0 1 (by decide)) (hpc 0) (hpc 1)) (and_piece (hm 0 2 (by decide)) (hpc 0) (hpc 2)) (and_piece (hm 0 3 (by decide)) (hpc 0) (hpc 3)) (and_piece (hm 1 2 (by decide)) (hpc 1) (hpc 2)) (and_piece (hm 1 3 (by decide)) (hpc 1) (hpc 3)) (and_piece (hm 2 3 (by decide)) (hpc 2) (hpc 3))]
  show 0 + _ + _ + _ + _ = _
  rw [Nat.zero_add]
theorem Tied.ok (h : Tied d n P) (hd : Deal4 d n) (hp : P.ok) : (toR d P).ok := by
  refine ⟨fun j => Nat.lt_trans (hd.lt j) (by decide), hp.lv, hp.dn, hp.rk, hp.dc, ?_⟩
  show P.cds.length ≤ 52
  rw [cds_len]
  have h1 := h.pinv.t_le
  have h2 := h.pinv.ct_over
  rw [Tied.st_at] at h2
  have h3 := h.st_ct
  have h4 := hd.le
  by_cases e : P.steps.length / 4 = n
  · have := h2 e; omega
  · omega
/-- a play taken back to its first j cards -/
theorem at_at (P : Ply) {i j : Nat} (hi : i ≤ j) (hj : j ≤ P.steps.length) (b c : List Nat) : (P.at j b).at i c = P.at i c := by
  have ht : (P.steps.take j).take i = P.steps.take i := by rw [List.take_take, Nat.min_eq_left hi]
  unfold Ply.at
  show ({ P with st := Ply.stAt { P with st := P.stAt j, steps := P.steps.take j, back := b } i, steps := (P.steps.take j).take i, back := c } : Ply) = _
  rw [ht]
  congr 1
  unfold Ply.stAt
  show (match (P.steps.take j)[i]? with | some x => x.st | none => P.stAt j) = _
  rcases Nat.lt_or_ge i j with h | h
  · rw [List.getElem?_take, if_pos h]
    have hlt : i < P.steps.length := by omega
    rw [List.getElem?_eq_getElem hlt]
  · obtain rfl : i = j := by omega
    rw [List.getElem?_take, if_neg (Nat.lt_irrefl _)]
    rfl
theorem at_len (P : Ply) {j : Nat} (hj : j ≤ P.steps.length) (b : List Nat) : (P.at j b).steps.length = j := by
  show (P.steps.take j).length = j
  rw [List.length_take, Nat.min_eq_left hj]
theorem Tied.at (h : Tied d n P) {j : Nat} (hj : j ≤ P.steps.length) (b : List Nat) : Tied d n (P.at j b) := by
  have hl := at_len P hj b
  refine ⟨⟨fun i x hx => ?_, fun i hi => ?_⟩, ?_⟩
  · have hi : i < j := by rw [← hl]; exact (List.getElem?_eq_some_iff.1 hx).1
    have hx' : P.steps[i]? = some x := by
      have e : (P.steps.take j)[i]? = some x := hx
      rwa [List.getElem?_take, if_pos hi] at e
    have e := congrArg Ply.st (at_at P (show i + 1 ≤ j by omega) hj b [])
    have e2 : (P.at j b).stAt (i + 1) = P.stAt (i + 1) := e
    rw [e2, h.hist.chn i x hx']
    rfl
  · rw [hl] at hi
    rw [at_at P hi hj]
    exact h.hist.inv i (by omega)
  · have e := congrArg Ply.st (at_at P (Nat.zero_le j) hj b [])
    have e2 : (P.at j b).stAt 0 = P.stAt 0 := e
    rw [e2]; exact h.ld0
theorem Tied.back (h : Tied d n P) (b : List Nat) : Tied d n ({ P with back := b } : Ply) := by
  rw [← at_full]; exact h.at (Nat.le_refl _) b
theorem Tied.put (h : Tied d n P) (hd : Deal4 d n) (hp : P.ok) {c : Nat} (hc : P.st.legal.testBit c = true) : Tied d n (({ P with back := [] } : Ply).put c) := by
  have hi := h.pinv
  have hi2 : PInv d n ({ P with back := P.back } : Ply) (P.steps.length / 4) := by
    have h2 := PInv.back hi P.back (by rw [show ({ (P.at P.steps.length []) with back := P.back } : Ply) = P.at P.steps.length P.back from rfl, at_full]; exact hp)
    rwa [show ({ (P.at P.steps.length []) with back := P.back } : Ply) = P.at P.steps.length P.back from rfl, at_full] at h2
  refine ⟨h.hist.put hd hi2 hc, ?_⟩
  have e := congrArg Ply.st (at_put P c (Nat.zero_le _) [])
  have e2 : (({ P with back := [] } : Ply).put c).stAt 0 = P.stAt 0 := e
  rw [e2]; exact h.ld0
theorem Tied.new {lv dn rk dc : Nat} (hd : Deal4 d n) (hok : newE d lv dn rk dc = 0) : Tied d n (newP d lv dn rk dc) := by
  refine ⟨⟨fun j y h => by simp [newP] at h, fun j hj => ⟨0, ?_⟩⟩, rfl⟩
  have h0 : j = 0 := by simpa [newP] using hj
  subst h0
  exact PInv.new4 hd hok
/-- a deal that can be played -/
theorem deal4_of (hw : ∀ j, W64 (d j)) (hf : ∀ j, 4 ≤ j → d j = 0) (h : dealOk d = true) : Deal4 d (pop (d 0)) := by
  obtain ⟨h1, h2, h3⟩ := (dealOk_refl (fun i _ => hw i)).1 h
  have hland : ∀ i j c, i < 4 → j < i → (d i).testBit c = true → (d j).testBit c = true → False := fun i j c hi hj a b => by
    have := (h1 i hi).2.2 j hj
    have e : (land (d i) (d j)).testBit c = true := by rw [testBit_land, a, b]; rfl
    rw [this] at e; simp at e
  refine ⟨fun j => ?_, fun j j' c hne hb => ?_, fun j hj => (h1 j hj).1, h2, h3, hf⟩
  · rcases Nat.lt_or_ge j 4 with hj | hj
    · exact (h1 j hj).2.1
    · rw [hf j hj]; decide
  · cases hb2 : (d j').testBit c
    · rfl
    · exfalso
      have hj : j < 4 := by
        rcases Nat.lt_or_ge j 4 with hj | hj
        · exact hj
        · rw [hf j hj] at hb; simp at hb
      have hj' : j' < 4 := by
        rcases Nat.lt_or_ge j' 4 with hj' | hj'
        · exact hj'
        · rw [hf j' hj'] at hb2; simp at hb2
      rcases Nat.lt_trichotomy j j' with h | h | h
      · exact hland j' j c hj' h hb2 hb
      · exact hne h
      · exact hland j j' c hj h hb hb2
end Go.Proofs.YtginbellakkliaaDoor
