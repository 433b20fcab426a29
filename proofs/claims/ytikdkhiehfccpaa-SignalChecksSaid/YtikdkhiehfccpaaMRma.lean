/- RmA, RmB, RmC in one text. -/
import Derived.Test.YtikdkhiehfccpaaMRgd
import Derived.Test.YtikdkhiehfccpaaMSgd

/- The reference of chapter 41: fits, of. -/
namespace Go.Proofs.Ytikdkhiehfccpaa
open Go.RowKit Go.Sort Go.Shelf Cnt

/-- a cell as a value -/
abbrev ceA (c : Ce) : Array Value := #[.int .i64 (c.p : Int), .int .i64 (c.l 0 : Int), .int .i64 (c.l 1 : Int), .int .i64 (c.l 2 : Int), .int .i64 (c.l 3 : Int), .int .i64 (c.m : Int)]
theorem ceA_l (c : Ce) (k : Nat) (hk : k < 4) : (ceA c)[1 + k]? = some (.int .i64 (c.l k : Int)) := by
  rcases (show k = 0 ∨ k = 1 ∨ k = 2 ∨ k = 3 by omega) with rfl | rfl | rfl | rfl <;> rfl
set_option maxHeartbeats 2000000 in
theorem rm_fits (a : Option Addr) (len cap : Nat) (rs : List Rg) (c : Ce) (w : World) (h : Rgs w a len rs) : Calls Try.prog 58 #[.slice a len cap, .agg (ceA c)] w fun e w' => e = .returned (.bool (fitP rs c.l c.p)) ∧ Below w.heap.size w w' := by
  have hsm := h.small
  have HH := Lib.hid h
  clear h
  obtain ⟨p, hp⟩ : ∃ p, c.p = p := ⟨_, rfl⟩
  obtain ⟨l, hl⟩ : ∃ l, c.l = l := ⟨_, rfl⟩
  obtain ⟨cm, hcm⟩ : ∃ m, c.m = m := ⟨_, rfl⟩
  have hA : ceA c = #[.int .i64 (p : Int), .int .i64 (l 0 : Int), .int .i64 (l 1 : Int), .int .i64 (l 2 : Int), .int .i64 (l 3 : Int), .int .i64 (cm : Int)] := by unfold ceA; rw [hp, hl, hcm]
  have HL : Hid (∀ k, k < 4 → (ceA c)[1 + k]? = some (.int .i64 (l k : Int))) := Lib.hid fun k hk => by rw [ceA_l c k hk, hl]
  rw [hA] at HL
  rw [hA, hp, hl]
  obtain ⟨CA, hCA⟩ : ∃ CA : Array Value, #[.int .i64 (p : Int), .int .i64 (l 0 : Int), .int .i64 (l 1 : Int), .int .i64 (l 2 : Int), .int .i64 (l 3 : Int), .int .i64 (cm : Int)] = CA := ⟨_, rfl⟩
  have HP : Hid (CA[0]? = some (.int .i64 (p : Int))) := Lib.hid (by rw [← hCA]; rfl)
  have HR0 : Hid (Row (w.alloc (.cells CA 126)) w.heap.size 126 CA) := Lib.hid (Row.new _ _ _)
  have HB0 : Hid (Below w.heap.size w (w.alloc (.cells CA 126))) := Lib.hid ((Below.refl _ _).alloc (Nat.le_refl _) _)
  rw [hCA] at HL
  clear hA hp hl hcm
  go_enter Try.func58, Try.ntmps58
  go_wp2
  go_loopw [5] (fun i wr => ∃ (k : Nat), k ≤ len ∧ i = .int .i64 k ∧ fitP (rs.take k) l p = false ∧ Below w.heap.size w wr ∧ Row wr w.heap.size 126 CA) (fun i _ => len - (intOf i).toNat)
  case atStart => exact ⟨0, by omega, rfl, rfl, HB0.out, HR0.out⟩
  case round =>
    obtain ⟨k, hk, rfl, hno, hB, hr⟩ := hrel
    clear hCA HR0 HB0
    by_cases hlt : k < len
    · have hd : decide ((k : Int) < (len : Int)) = true := by simp; omega
      have hki : (k : Int) < (len : Int) := by omega
      rcases (HH.out.below (Nat.le_refl _) hB).cells with h0 | ⟨b, off, rfl, hbl, hc⟩
      · omega
      obtain ⟨r, hrr⟩ : ∃ r, rs[k]? = some r := ⟨_, List.getElem?_eq_getElem (by have := HH.out.length; omega)⟩
      have c0 := hc k r hrr 0 (by decide)
      have c1 := hc k r hrr 1 (by decide)
      have c2 := (hr.cell 0).trans HP.out
      simp only [Rg.cell, Nat.add_zero] at c0 c1
      have f0 := fun dd os => cell_regrown c0 dd os
      have f1 := fun dd os => cell_regrown c1 dd os
      have f2 := fun dd os => cell_regrown c2 dd os
      have HR := Lib.hid hr
      have HB := Lib.hid hB
      have HRR := Lib.hid hrr
      have HNO := Lib.hid hno
      clear hr hB hbl hc hrr hno
      have HT0 : Hid (∀ u v, decide (r.p0 ≤ (p : Int)) = u → decide ((p : Int) ≤ r.p1) = v → inTo r p l 0 = (u && v)) := Lib.hid (by rintro u v rfl rfl; rfl)
      by_cases hp0 : r.p0 ≤ (p : Int) <;> by_cases hp1 : (p : Int) ≤ r.p1
      all_goals
        have HT1 := Lib.hid (HT0.out _ _ (by first | exact decide_eq_true hp0 | exact decide_eq_false hp0) (by first | exact decide_eq_true hp1 | exact decide_eq_false hp1))
        have hq0 : decide (r.p0 ≤ (p : Int)) = _ := (by first | exact decide_eq_true hp0 | exact decide_eq_false hp0)
        have hq1 : decide ((p : Int) ≤ r.p1) = _ := (by first | exact decide_eq_true hp1 | exact decide_eq_false hp1)
        clear HT0
        go_wp2_with fail
        refine wp_region_quiet_below (by kernel_rfl) (by kernel_rfl) ?_
        repeat (first | go_big_quiet_step (fail) | quiet_step (fail))
        refine wpQuiet_nil ?_
        rintro _ ⟨q, rfl⟩
        have hb := below_regrown wr q.d q.os
        have HB1 := Lib.hid (HB.out.trans (hb.mono HB.out.size))
        have HR1 := Lib.hid (HR.out.later hb)
        generalize grow (redrawn wr q.d) q.os = wz at *
        clear hb c0 c1 c2 f0 f1 f2 HB HR
        go_wp2_with fail
        go_loopw [6, 7] (fun v x wr => ∃ (s : Nat), s ≤ 4 ∧ x = .int .i64 (s : Int) ∧ v = .bool (inTo r p l s) ∧ Below w.heap.size w wr ∧ Row wr w.heap.size 126 CA) (fun _ x _ => 4 - (intOf x).toNat)
        case atStart => exact ⟨0, by omega, rfl, by rw [HT1.out]; rfl, HB1.out, HR1.out⟩
        case round =>
          clear HB1 HR1
          obtain ⟨s, hs, rfl, rfl, hB2, hR2⟩ := hrel
          by_cases hlt2 : s < 4
          · have hd2 : decide ((s : Int) < 4) = true := by simp; omega
            have hs4 : (s : Int) < 4 := by omega
            rcases (HH.out.below (Nat.le_refl _) hB2).cells with h0 | ⟨b', off', e, hbl, hc⟩
            · omega
            obtain ⟨rfl, rfl⟩ : b = b' ∧ off = off' := by simpa using e
            have x0 := hc k r HRR.out (2 + s * 2) (by omega)
            have x1 := hc k r HRR.out (2 + s * 2 + 1) (by omega)
            rw [(cell_lo r s hlt2).1, show off + k * 10 + (2 + s * 2) = off + k * 10 + 2 + s * 2 by omega] at x0
            rw [(cell_lo r s hlt2).2, show off + k * 10 + (2 + s * 2 + 1) = off + k * 10 + 2 + s * 2 + 1 by omega] at x1
            have x2 := (hR2.cell (1 + s)).trans (HL.out s hlt2)
            have y0 := fun dd os => cell_regrown x0 dd os
            have y1 := fun dd os => cell_regrown x1 dd os
            have y2 := fun dd os => cell_regrown x2 dd os
            have HB2 := Lib.hid hB2
            have HR2 := Lib.hid hR2
            clear e hbl hc hB2 hR2
            have HS : Hid (inTo r p l (s + 1) = (inTo r p l s && (decide (r.lo s ≤ (l s : Int)) && decide ((l s : Int) ≤ r.hi s)))) := Lib.hid rfl
            cases hv : inTo r p l s
            · rw [hv] at HS
              have HS2 : Hid (inTo r p l (s + 1) = false) := Lib.hid HS.out
              clear HS
              go_wp2_with fail
              refine wp_region_quiet_below (by kernel_rfl) (by kernel_rfl) ?_
              repeat (first | go_big_quiet_step (fail) | quiet_step (fail))
              refine wpQuiet_nil ?_
              rintro _ ⟨q, rfl⟩
              have hb := below_regrown wr q.d q.os
              have HB3 := Lib.hid (HB2.out.trans (hb.mono HB2.out.size))
              have HR3 := Lib.hid (HR2.out.later hb)
              generalize grow (redrawn wr q.d) q.os = wa at *
              clear hb
              go_wp2_with fail
              exact ⟨⟨s + 1, by omega, by simp, by rw [HS2.out], HB3.out, HR3.out⟩, by simp [intOf]; omega⟩
            · rw [hv, Bool.true_and] at HS
              generalize r.lo s = lo at *
              generalize r.hi s = hi at *
              generalize l s = ls at *
              by_cases q1 : lo ≤ (ls : Int) <;> by_cases q2 : (ls : Int) ≤ hi
              all_goals
                have e1 : decide (lo ≤ (ls : Int)) = _ := (by first | exact decide_eq_true q1 | exact decide_eq_false q1)
                have e2 : decide ((ls : Int) ≤ hi) = _ := (by first | exact decide_eq_true q2 | exact decide_eq_false q2)
                rw [e1, e2] at HS
                go_wp2_with fail
                refine wp_region_quiet_below (by kernel_rfl) (by kernel_rfl) ?_
                repeat (first | go_big_quiet_step (fail) | quiet_step (fail))
                refine wpQuiet_nil ?_
                rintro _ ⟨q, rfl⟩
                have hb := below_regrown wr q.d q.os
                have HB3 := Lib.hid (HB2.out.trans (hb.mono HB2.out.size))
                have HR3 := Lib.hid (HR2.out.later hb)
                generalize grow (redrawn wr q.d) q.os = wa at *
                clear hb
                go_wp2_with fail
                exact ⟨⟨s + 1, by omega, by simp, by rw [HS.out]; rfl, HB3.out, HR3.out⟩, by simp [intOf]; omega⟩
          · obtain rfl : s = 4 := by omega
            cases hv : inTo r p l 4
            · have HM := Lib.hid (fitP_miss HRR.out HNO.out hv)
              simp only [show ((4 : Nat) : Int) = 4 from rfl]
              have HB2 := Lib.hid hB2
              have HR2 := Lib.hid hR2
              go_wp2_with fail
              go_roundw
              · exact ⟨k + 1, by omega, by simp, HM.out, HB2.out, HR2.out⟩
              · simp [intOf]; omega
            · have HM := Lib.hid (fitP_hit HRR.out hv)
              have HB2 := Lib.hid hB2
              simp only [show ((4 : Nat) : Int) = 4 from rfl]
              go_wp2_with fail
              go_ret
              exact ⟨by rw [HM.out]; rfl, HB2.out⟩
    · obtain rfl : k = len := by omega
      have HE : Hid (fitP rs l p = false) := Lib.hid (by
        rw [List.take_of_length_le (by have := HH.out.length; omega)] at hno
        exact hno)
      have HB := Lib.hid hB
      go_wp2_with fail
      go_ret
      exact ⟨by rw [HE.out]; rfl, HB.out⟩
theorem sig_at {l : Nat → Nat} {p : Nat} : ∀ {ls : List Rl} {k : Nat} {x : Rl}, ls[k]? = some x → (ls.take k).all (fun y => !fitP y.rs l p) = true → fitP x.rs l p = true → sigP ls l p = x.s
  | [], k, x, h, _, _ => by simp at h
  | y :: ys, 0, x, h, _, hf => by
    simp at h
    subst h
    show (if fitP y.rs l p then y.s else sigP ys l p) = y.s
    rw [hf]; rfl
  | y :: ys, k + 1, x, h, hno, hf => by
    rw [List.take_succ_cons, List.all_cons, Bool.and_eq_true] at hno
    show (if fitP y.rs l p then y.s else sigP ys l p) = x.s
    rw [show fitP y.rs l p = false by simpa using hno.1]
    exact sig_at (by simpa using h) hno.2 hf
theorem sig_no {l : Nat → Nat} {p : Nat} : ∀ {ls : List Rl}, ls.all (fun y => !fitP y.rs l p) = true → sigP ls l p = 0
  | [], _ => rfl
  | y :: ys, hno => by
    rw [List.all_cons, Bool.and_eq_true] at hno
    show (if fitP y.rs l p then y.s else sigP ys l p) = 0
    rw [show fitP y.rs l p = false by simpa using hno.1]
    exact sig_no hno.2
theorem noP_succ {l : Nat → Nat} {p : Nat} {ls : List Rl} {k : Nat} {x : Rl} (hx : ls[k]? = some x) (hno : (ls.take k).all (fun y => !fitP y.rs l p) = true) (hf : fitP x.rs l p = false) : (ls.take (k + 1)).all (fun y => !fitP y.rs l p) = true := by
  rw [take_snoc hx, List.all_append, hno]
  simp [hf]
theorem RgC.regrown {w : World} {a : Option Addr} {c : Nat} {rs : List Rg} (h : RgC w a c rs) (d : Nat) (os : _) : RgC (grow (redrawn w d) os) a c rs := h.below (below_regrown w d os)
set_option maxHeartbeats 2000000 in
theorem rm_of (a : Option Addr) (la ca : Nat) (ls : List Rl) (c : Ce) (w : World) (ha : Rls w a la ls) :
    Calls Try.prog 57 #[.slice a la ca, .agg (ceA c)] w fun e w' => e = .returned (.int .i64 (sigP ls c.l c.p)) ∧ Below w.heap.size w w' := by
  have HA := Lib.hid ha
  have hsm := ha.small
  clear ha
  have HR0 : Hid (Row (w.alloc (.cells (ceA c) 126)) w.heap.size 126 (ceA c)) := Lib.hid (Row.new _ _ _)
  have HB0 : Hid (Below w.heap.size w (w.alloc (.cells (ceA c) 126))) := Lib.hid ((Below.refl _ _).alloc (Nat.le_refl _) _)
  go_enter Try.func57, Try.ntmps57
  go_wp2_with fail
  go_loopw [5] (fun i wr => ∃ (k : Nat), k ≤ la ∧ i = .int .i64 (k : Int) ∧ (ls.take k).all (fun y => !fitP y.rs c.l c.p) = true ∧ Below w.heap.size w wr ∧ Row wr w.heap.size 126 (ceA c)) (fun i _ => la - (intOf i).toNat)
  case atStart => exact ⟨0, by omega, rfl, rfl, HB0.out, HR0.out⟩
  case round =>
    clear HR0 HB0
    obtain ⟨k, hk, rfl, hno, hB, hR⟩ := hrel
    by_cases hlt : k < la
    · obtain ⟨b, off, x, ai, ci, rfl, hx, c0, c1, hRg⟩ := (HA.out.below (Nat.le_refl _) hB).at hlt
      have hd : decide ((k : Int) < (la : Int)) = true := by simp; omega
      have hki : (k : Int) < (la : Int) := by omega
      have HX := Lib.hid hx
      have HNO := Lib.hid hno
      have HB := Lib.hid hB
      have HRg := Lib.hid hRg
      have d0 := hR.cell 0
      have d1 := hR.cell 1
      have d2 := hR.cell 2
      have d3 := hR.cell 3
      have d4 := hR.cell 4
      have d5 := hR.cell 5
      simp only [List.getElem?_toArray, List.getElem?_cons_zero, List.getElem?_cons_succ] at d0 d1 d2 d3 d4 d5
      have f0 := fun dd os => cell_regrown c0 dd os
      have e0 := fun dd os => cell_regrown d0 dd os
      have e1 := fun dd os => cell_regrown d1 dd os
      have e2 := fun dd os => cell_regrown d2 dd os
      have e3 := fun dd os => cell_regrown d3 dd os
      have e4 := fun dd os => cell_regrown d4 dd os
      have e5 := fun dd os => cell_regrown d5 dd os
      have HR := Lib.hid hR
      have HC1 := Lib.hid c1
      clear hx hB hRg hno hR c1
      go_wp2_with fail
      refine wp_region_quiet_below (by kernel_rfl) (by kernel_rfl) ?_
      repeat (first | go_big_quiet_step (fail) | quiet_step (with_reducible exact Calls.regrown_of (rm_fits ai x.rs.length ci x.rs c _ (HRg.out.regrown _ _).rgs)))
      refine wpQuiet_nil ?_
      rintro _ ⟨q, rfl⟩
      have hb := below_regrown wr q.d q.os
      have HB1 := Lib.hid (HB.out.trans (hb.mono HB.out.size))
      have HR1 := Lib.hid (HR.out.later hb)
      have g1 := cell_regrown HC1.out q.d q.os
      generalize grow (redrawn wr q.d) q.os = wz at *
      clear hb c0 d0 d1 d2 d3 d4 d5 f0 e0 e1 e2 e3 e4 e5 HB HR HRg HC1
      cases hf : fitP x.rs c.l c.p
      · have HF := Lib.hid (noP_succ HX.out HNO.out hf)
        clear hf
        go_wp2_with fail
        exact ⟨⟨k + 1, by omega, by simp, HF.out, HB1.out, HR1.out⟩, by simp [intOf]; omega⟩
      · have HF := Lib.hid (sig_at HX.out HNO.out hf)
        clear hf
        go_wp2_with fail
        go_ret
        exact ⟨by rw [HF.out]; rfl, HB1.out⟩
    · obtain rfl : k = la := by omega
      have hd : decide ((k : Int) < (k : Int)) = false := by simp
      have HT : Hid (sigP ls c.l c.p = 0) := Lib.hid (sig_no (by rw [List.take_of_length_le (by have := HA.out.length; omega)] at hno; exact hno))
      have HB := Lib.hid hB
      clear hB hno hR
      go_wp2_with fail
      go_ret
      exact ⟨by rw [HT.out]; rfl, HB.out⟩
end Go.Proofs.Ytikdkhiehfccpaa

/- The reference of chapter 41: Right, right, told. -/
namespace Go.Proofs.Ytikdkhiehfccpaa
open Go.RowKit Go.Sort Go.Shelf Cnt

set_option maxHeartbeats 1000000 in
theorem rm_Right (a : Option Addr) (la ca : Nat) (ls : List Rl) (w : World) (ha : Rls w a la ls) (hla : la ≤ 1000) :
    Calls Try.prog 32 #[.slice a la ca] w fun e w' => e = .returned (.bool (rightS ls)) ∧ Below w.heap.size w w' := by
  have HA := Lib.hid ha
  have hsm := ha.small
  clear ha
  go_enter Try.func32, Try.ntmps32
  go_wp2_with fail
  go_loopw [3, 4] (fun n i wr => ∃ (k : Nat), k ≤ la ∧ i = .int .i64 (k : Int) ∧ n = .int .i64 ((rgN (ls.take k) : Nat) : Int) ∧ rgN (ls.take k) ≤ 20 * k ∧ okTo ls k = true ∧ Below w.heap.size w wr) (fun _ i _ => la - (intOf i).toNat)
  case atStart => exact ⟨0, by omega, rfl, rfl, by simp [rgN, allR], rfl, Below.refl _ _⟩
  case round =>
    obtain ⟨k, hk, rfl, rfl, h20, hok, hB⟩ := hrel
    by_cases hlt : k < la
    · obtain ⟨b, off, x, ai, ci, rfl, hx, c0, c1, hR⟩ := (HA.out.below (Nat.le_refl _) hB).at hlt
      have hd : decide ((k : Int) < (la : Int)) = true := by simp; omega
      have hki : (k : Int) < (la : Int) := by omega
      have HX := Lib.hid hx
      have HN := Lib.hid (rgN_succ hx)
      have HOK := Lib.hid (okTo_succ hx)
      have HB := Lib.hid hB
      have HR := Lib.hid hR
      have HC := Lib.hid fun w' (h : Below wr.heap.size wr w') => ((HA.out.below (Nat.le_refl _) HB.out).below (Nat.le_refl _) h).at hlt
      have HNB : Hid (namedB x.s = (decide (1 ≤ x.s) && decide (x.s ≤ 9))) := Lib.hid rfl
      clear hx hB hR
      generalize rgN (ls.take k) = n at *
      by_cases q1 : x.s < 1
      · have e1 : decide (x.s < 1) = true := decide_eq_true q1
        have HF := Lib.hid (rightS_bad HX.out (by rw [HNB.out, decide_eq_false (show ¬ 1 ≤ x.s by omega)]; rfl))
        go_wp2_with fail
        go_ret
        exact ⟨by rw [HF.out]; rfl, HB.out⟩
      · have e1 : decide (x.s < 1) = false := decide_eq_false q1
        by_cases q2 : 9 < x.s
        · have e2 : decide (9 < x.s) = true := decide_eq_true q2
          have HF := Lib.hid (rightS_bad HX.out (by rw [HNB.out, decide_eq_false (show ¬ x.s ≤ 9 by omega)]; simp))
          go_wp2_with fail
          go_ret
          exact ⟨by rw [HF.out]; rfl, HB.out⟩
        · have e2 : decide (9 < x.s) = false := decide_eq_false q2
          have HNT : Hid (namedB x.s = true) := Lib.hid (by rw [HNB.out, decide_eq_true (show 1 ≤ x.s by omega), decide_eq_true (show x.s ≤ 9 by omega)]; rfl)
          clear q1 q2 HNB
          go_wp2_with fail
          refine (rf_Right ai x.rs.length ci x.rs _ HR.out.rgs).mono ?_
          rintro e w2 ⟨rfl, hb2⟩
          obtain ⟨b', off', x', ai', ci', hb', hx', c0', c1', -⟩ := HC.out w2 hb2
          obtain ⟨rfl, rfl⟩ : b = b' ∧ off = off' := by simpa using hb'
          obtain rfl : x = x' := by rw [HX.out] at hx'; exact Option.some.inj hx'
          have HB2 := Lib.hid (HB.out.trans (hb2.mono HB.out.size))
          clear hb2 HR HC hb' hx' c1' c0 c1 HB
          cases hr : rightV x.rs
          · have HF := Lib.hid (rightS_bad HX.out (by rw [hr, Bool.and_false]))
            go_wp2_with fail
            go_ret
            exact ⟨by rw [HF.out]; rfl, HB2.out⟩
          · have hl20 : x.rs.length ≤ 20 := (right_and _ hr).1
            have HO2 : Hid (okTo ls (k + 1) = true) := Lib.hid (by rw [HOK.out, hok, HNT.out, hr]; rfl)
            clear hr hok
            generalize x.rs.length = lx at *
            go_wp2_with fail
            exact ⟨⟨k + 1, by omega, by simp, by rw [HN.out]; simp, by rw [HN.out]; omega, HO2.out, HB2.out⟩, by simp [intOf]; omega⟩
    · obtain rfl : k = la := by omega
      have hd : decide ((k : Int) < (k : Int)) = false := by simp
      have HT : Hid (rightS ls = decide (rgN (ls.take k) ≤ 20)) := Lib.hid (by
        unfold okTo at hok
        rw [List.take_of_length_le (by have := HA.out.length; omega)] at hok ⊢
        unfold rightS
        rw [hok]; rfl)
      have HB := Lib.hid hB
      clear hB hok
      generalize rgN (ls.take k) = n at *
      by_cases q : n ≤ 20
      · have e1 : decide ((n : Int) ≤ 20) = true := by simp; omega
        rw [decide_eq_true q] at HT
        go_wp2_with fail
        go_ret
        exact ⟨by rw [HT.out]; rfl, HB.out⟩
      · have e1 : decide ((n : Int) ≤ 20) = false := by simp; omega
        rw [decide_eq_false q] at HT
        go_wp2_with fail
        go_ret
        exact ⟨by rw [HT.out]; rfl, HB.out⟩
theorem rm_right (left : Nat) (n : Int) (a : Option Addr) (la ca : Nat) (ls : List Rl) (w : World) (ha : Rls w a la ls) (hla : la ≤ 1000) :
    Calls Try.prog 39 #[.int .u64 (left : Int), .int .i64 n, .slice a la ca] w fun e w' => e = .returned (.bool (lgOk left n ls)) ∧ Below w.heap.size w w' := by
  have HA := Lib.hid ha
  clear ha
  unfold lgOk legalB
  by_cases h1 : 0 ≤ n
  · by_cases h2 : n ≤ 13
    · by_cases h3 : left < 4503599627370496
      · have e3 : decide ((left : Int) < 4503599627370496) = true := by rw [decide_eq_true_eq]; omega
        have e1 : decide (0 ≤ n) = true := decide_eq_true h1
        have e2 : decide (n ≤ 13) = true := decide_eq_true h2
        rw [decide_eq_true h3, e1, e2]
        clear h3
        go_enter Try.func39, Try.ntmps39
        go_wp2_with fail
        refine (rm_Right a la ca ls _ HA.out hla).mono ?_
        rintro e w2 ⟨rfl, hb2⟩
        have HB2 := Lib.hid hb2
        clear hb2
        go_wp2_with fail
        go_ret
        exact ⟨by simp, HB2.out⟩
      · have e3 : decide ((left : Int) < 4503599627370496) = false := by rw [decide_eq_false_iff_not]; omega
        have e1 : decide (0 ≤ n) = true := decide_eq_true h1
        have e2 : decide (n ≤ 13) = true := decide_eq_true h2
        rw [decide_eq_false h3, e1, e2]
        clear h3
        go_enter Try.func39, Try.ntmps39
        go_wp2_with fail
        go_ret
        exact ⟨rfl, Below.refl _ _⟩
    · have e1 : decide (0 ≤ n) = true := decide_eq_true h1
      have e2 : decide (n ≤ 13) = false := decide_eq_false h2
      rw [e1, e2]
      go_enter Try.func39, Try.ntmps39
      go_wp2_with fail
      go_ret
      exact ⟨rfl, Below.refl _ _⟩
  · have e1 : decide (0 ≤ n) = false := decide_eq_false h1
    rw [e1]
    go_enter Try.func39, Try.ntmps39
    go_wp2_with fail
    go_ret
    exact ⟨rfl, Below.refl _ _⟩
/-- the hands of some cells that give a signal, of those that Q holds of -/
def gvQ (ls : List Rl) (s : Int) (Q : (Nat → Nat) → Nat → Bool) (cs : List Ce) : Nat := qC (fun l p => decide (sigP ls l p = s) && Q l p) cs
theorem gvQ_hands (left nn : Nat) (hn : nn ≤ 13) (Q : (Nat → Nat) → Nat → Bool) (ls : List Rl) (s : Int) : gvQ ls s Q (ceOf left nn) = gvC (deck left) nn Q ls s := qC_hands left nn hn _
set_option maxHeartbeats 2000000 in
theorem rm_told (cs : List Ce) (hcl : cs.length ≤ 112504) (hcb : ∀ q k, qC q (cs.take k) ≤ 4503599627370496) (base : Nat) (ao : Option Addr) (cap : Nat) (a : Option Addr) (la ca : Nat) (ls : List Rl) (s : Int) (b : Option Addr) (lb cb : Nat) (rb : List Rg) (w : World) (hO : OwnC w base (.slice ao cs.length cap) cs) (ha : Rls w a la ls) (hb : Rgs w b lb rb) :
    Calls Try.prog 41 #[.slice ao cs.length cap, .slice a la ca, .int .i64 s, .slice b lb cb] w fun e w' =>
      e = .returned (.tuple #[.int .i64 ((gvQ ls s QT cs : Nat) : Int), .int .i64 ((gvQ ls s (fitP rb) cs : Nat) : Int)]) ∧ Below w.heap.size w w' := by
  have HA := Lib.hid ha
  have HBr := Lib.hid hb
  have HO := Lib.hid hO
  have HNE : Hid (cs ≠ [] → ∃ g, ao = some ⟨g, 0, none⟩) := Lib.hid fun h => by
    rcases hO.form with ⟨e, he⟩ | ⟨g, cap', e, _⟩
    · exact absurd he h
    · simp only [Value.slice.injEq] at e
      exact ⟨g, e.1⟩
  have HQ := Lib.hid hcb
  clear ha hb hO hcb
  obtain ⟨m, HM⟩ : ∃ m, Hid (cs.length = m) := ⟨_, Lib.hid rfl⟩
  have hm : m ≤ 112504 := HM.out ▸ hcl
  rw [HM.out] at HO
  rw [HM.out]
  clear hcl
  go_enter Try.func41, Try.ntmps41
  go_wp2_with fail
  go_loopw [10, 11, 12] (fun x y i wr => ∃ (k : Nat), k ≤ m ∧ i = .int .i64 (k : Int) ∧ x = .int .i64 ((gvQ ls s QT (cs.take k) : Nat) : Int) ∧ y = .int .i64 ((gvQ ls s (fitP rb) (cs.take k) : Nat) : Int) ∧ Below w.heap.size w wr) (fun _ _ i _ => m - (intOf i).toNat)
  case atStart => exact ⟨0, by omega, rfl, rfl, rfl, Below.refl _ _⟩
  case round =>
    obtain ⟨k, hk, rfl, rfl, rfl, hB⟩ := hrel
    have HB := Lib.hid hB
    clear hB
    by_cases hlt : k < m
    · have hd : decide ((k : Int) < (m : Int)) = true := by simp; omega
      have hki : (k : Int) < (m : Int) := by omega
      obtain ⟨c, hc⟩ : ∃ c, cs[k]? = some c := ⟨_, List.getElem?_eq_getElem (by have := HM.out; omega)⟩
      obtain ⟨g, rfl⟩ := HNE.out (by intro h; rw [h] at hc; cases hc)
      obtain ⟨c0, c1, c2, c3, c4, c5⟩ := ce_at (HO.out.below HB.out) hc
      have S1 : Hid (gvQ ls s QT (cs.take (k + 1)) = gvQ ls s QT (cs.take k) + if (decide (sigP ls c.l c.p = s) && QT c.l c.p) = true then c.m else 0) := Lib.hid (qC_step _ hc)
      have S2 : Hid (gvQ ls s (fitP rb) (cs.take (k + 1)) = gvQ ls s (fitP rb) (cs.take k) + if (decide (sigP ls c.l c.p = s) && fitP rb c.l c.p) = true then c.m else 0) := Lib.hid (qC_step _ hc)
      have B1 : Hid (gvQ ls s QT (cs.take (k + 1)) ≤ 4503599627370496) := Lib.hid (HQ.out _ (k + 1))
      have B2 : Hid (gvQ ls s (fitP rb) (cs.take (k + 1)) ≤ 4503599627370496) := Lib.hid (HQ.out _ (k + 1))
      generalize gvQ ls s QT (cs.take k) = x at *
      generalize gvQ ls s (fitP rb) (cs.take k) = y at *
      obtain ⟨x1, X1⟩ : ∃ x1, Hid (gvQ ls s QT (cs.take (k + 1)) = x1) := ⟨_, Lib.hid rfl⟩
      obtain ⟨y1, Y1⟩ : ∃ x1, Hid (gvQ ls s (fitP rb) (cs.take (k + 1)) = x1) := ⟨_, Lib.hid rfl⟩
      rw [X1.out] at S1 B1
      rw [Y1.out] at S2 B2
      go_wp2_with fail
      refine (rm_of a la ca ls c _ (HA.out.below (Nat.le_refl _) HB.out)).mono ?_
      rintro e w2 ⟨rfl, hb2⟩
      have HB2 := Lib.hid (HB.out.trans (hb2.mono HB.out.size))
      clear c0 c1 c2 c3 c4 c5 hb2 HB
      obtain ⟨c0, c1, c2, c3, c4, c5⟩ := ce_at (HO.out.below HB2.out) hc
      obtain ⟨sg, hsg⟩ : ∃ t, sigP ls c.l c.p = t := ⟨_, rfl⟩
      rw [hsg] at S1 S2 ⊢
      clear hsg
      by_cases hs : sg = s
      · subst hs
        have E1 : Hid (x1 = x + c.m) := Lib.hid (by have := S1.out; simpa using this)
        have S2' : Hid (∀ u, fitP rb c.l c.p = u → y1 = y + if u then c.m else 0) := Lib.hid (by rintro u rfl; have := S2.out; simpa using this)
        have b1 : x + c.m ≤ 4503599627370496 := E1.out ▸ B1.out
        have he : (sg == sg) = true := by simp
        clear S1 S2
        go_wp2_with fail
        refine (rm_fits b lb cb rb c _ (HBr.out.below (Nat.le_refl _) HB2.out)).mono ?_
        rintro e w3 ⟨rfl, hb3⟩
        have HB3 := Lib.hid (HB2.out.trans (hb3.mono HB2.out.size))
        clear c0 c1 c2 c3 c4 c5 hb3 HB2
        obtain ⟨c0, c1, c2, c3, c4, c5⟩ := ce_at (HO.out.below HB3.out) hc
        clear c0 c1 c2 c3 c4 hc
        cases hf : fitP rb c.l c.p
        · have E2 : Hid (y1 = y) := Lib.hid (by have := S2'.out _ hf; simpa using this)
          clear hf S2'
          go_wp2_with fail
          exact ⟨⟨k + 1, by omega, by simp, by rw [X1.out, E1.out]; simp, by rw [Y1.out, E2.out], HB3.out⟩, by simp [intOf]; omega⟩
        · have E2 : Hid (y1 = y + c.m) := Lib.hid (by have := S2'.out _ hf; simpa using this)
          have b2 : y + c.m ≤ 4503599627370496 := E2.out ▸ B2.out
          clear hf S2'
          go_wp2_with fail
          exact ⟨⟨k + 1, by omega, by simp, by rw [X1.out, E1.out]; simp, by rw [Y1.out, E2.out]; simp, HB3.out⟩, by simp [intOf]; omega⟩
      · have E1 : Hid (x1 = x) := Lib.hid (by have := S1.out; rw [decide_eq_false hs] at this; simpa using this)
        have E2 : Hid (y1 = y) := Lib.hid (by have := S2.out; rw [decide_eq_false hs] at this; simpa using this)
        have he : (sg == s) = false := by simpa using hs
        clear hs S1 S2 hc c0 c1 c2 c3 c4 c5
        go_wp2_with fail
        exact ⟨⟨k + 1, by omega, by simp, by rw [X1.out, E1.out], by rw [Y1.out, E2.out], HB2.out⟩, by simp [intOf]; omega⟩
    · obtain rfl : k = m := by omega
      rw [List.take_of_length_le (by have := HM.out; omega)]
      have hd : decide ((k : Int) < (k : Int)) = false := by simp
      go_wp2_with fail
      go_ret2
      exact ⟨rfl, HB.out⟩
end Go.Proofs.Ytikdkhiehfccpaa

/- The reference of chapter 41: Counts, Told. -/
namespace Go.Proofs.Ytikdkhiehfccpaa
open Go.RowKit Go.Sort Go.Shelf Cnt

theorem rm_Counts_no (left : Nat) (n : Int) (a : Option Addr) (la ca : Nat) (ls : List Rl) (w : World) (ha : Rls w a la ls) (hla : la ≤ 1000) (hno : lgOk left n ls = false) :
    Calls Try.prog 27 #[.int .u64 (left : Int), .int .i64 n, .slice a la ca] w fun e w' => e = .returned (.tuple #[.slice none 0 0, .int .i64 2]) ∧ Below w.heap.size w w' := by
  have HA := Lib.hid ha
  clear ha
  go_enter Try.func27, Try.ntmps27
  go_wp2_with fail
  refine (rm_right left n a la ca ls _ HA.out hla).mono ?_
  rintro e w1 ⟨rfl, hb1⟩
  rw [hno]
  have HB1 := Lib.hid hb1
  clear hb1
  go_wp2_with fail
  go_ret2
  exact ⟨rfl, HB1.out⟩
set_option maxHeartbeats 1000000 in
theorem rm_Counts_yes (left nn : Nat) (hl : left < 4503599627370496) (hn : nn ≤ 13) (a : Option Addr) (la ca : Nat) (ls : List Rl) (w : World) (ha : Rls w a la ls) (hla : la ≤ 1000) (hok : lgOk left (nn : Int) ls = true) :
    Calls Try.prog 27 #[.int .u64 (left : Int), .int .i64 (nn : Int), .slice a la ca] w fun e w' =>
      (∃ b, e = .returned (.tuple #[.slice (some ⟨b, 0, none⟩) 10 10, .int .i64 0]) ∧ Row w' b 3 (tab 10 (cnV left (nn : Int) ls))) ∧ Below w.heap.size w w' := by
  have HA := Lib.hid ha
  have HL := Lib.hid hl
  have HN := Lib.hid hn
  have HOK := Lib.hid hok
  clear ha hl hn hok
  go_enter Try.func27, Try.ntmps27
  go_wp2_with fail
  refine (rm_right left (nn : Int) a la ca ls _ HA.out hla).mono ?_
  rintro e w1 ⟨rfl, hb1⟩
  rw [HOK.out]
  have HB1 := Lib.hid hb1
  have HA1 := Lib.hid (HA.out.below (Nat.le_refl _) hb1)
  clear hb1 HA
  go_wp2_with fail
  refine (rf_Cells left nn HL.out HN.out _).mono ?_
  rintro e w2 ⟨⟨v, rfl, hO⟩, hb2⟩
  have HQ : Hid (∀ q k, qC q ((ceOf left nn).take k) ≤ 4503599627370496) := Lib.hid fun q k => qC_bound left nn HN.out q k
  have HLN : Hid ((ceOf left nn).length ≤ 112504) := Lib.hid (ce_len left nn HN.out)
  have HG : Hid (∀ k : Nat, gvQ ls (k : Int) QT (ceOf left nn) = cnV left (nn : Int) ls k) := Lib.hid fun k => gvQ_hands left nn HN.out QT ls (k : Int)
  obtain ⟨cs, HCS⟩ : ∃ cs, Hid (ceOf left nn = cs) := ⟨_, Lib.hid rfl⟩
  rw [HCS.out] at hO HLN HQ HG
  obtain ⟨ao, cap, rfl, -⟩ := hO.slice
  have HB2 := Lib.hid (HB1.out.trans (hb2.mono HB1.out.size))
  have HA2 := Lib.hid (HA1.out.below (Nat.le_refl _) hb2)
  have HO := Lib.hid hO
  clear hb2 hO HA1 HB1
  have hmk : ∀ w1 : World, (Instr.makeSlice 64 (.int .i64 10) (.int .i64 10)).run Try.prog w1 = .ok (.slice (some ⟨w1.heap.size, 0, none⟩) 10 10) (w1.alloc (.cells (tab 10 fun _ => 0) 3)) := make_ints 10 (by decide)
  go_wp2_with fail
  have HB3 : Hid (Below w2.heap.size w2 (w2.alloc (.cells (tab 10 fun _ => 0) 3))) := Lib.hid ((Below.refl _ _).alloc (Nat.le_refl _) _)
  have HR3 : Hid (Row (w2.alloc (.cells (tab 10 fun _ => 0) 3)) w2.heap.size 3 (tab 10 (cnK (cnV left (nn : Int) ls) 0))) := Lib.hid (by rw [← cnK_zero]; exact Row.new _ _ _)
  clear hmk
  generalize (w2.alloc (.cells (tab 10 fun _ => 0) 3)) = W3 at *
  obtain ⟨b2, hb2⟩ : ∃ b, w2.heap.size = b := ⟨_, rfl⟩
  have HSZ := Lib.hid hb2
  rw [hb2] at HB3 HR3 ⊢
  clear hb2
  go_loopw [10, 24] (fun i _ wr => ∃ (k : Nat), k ≤ 10 ∧ i = .int .i64 (k : Int) ∧ Below b2 w2 wr ∧ Row wr b2 3 (tab 10 (cnK (cnV left (nn : Int) ls) k))) (fun i _ _ => 10 - (intOf i).toNat)
  case atStart => exact ⟨0, by omega, rfl, HB3.out, HR3.out⟩
  case round =>
    clear HB3 HR3
    obtain ⟨k, hk, rfl, hB, hR⟩ := hrel
    have HB := Lib.hid hB
    by_cases hlt : k < 10
    · have hd : decide ((k : Int) < 10) = true := by simp; omega
      have hki : (k : Int) < 10 := by omega
      have HR := Lib.hid hR
      have HPUT := Lib.hid (cnK_put (cnV left (nn : Int) ls) 10 k)
      have HGK := Lib.hid (HG.out k)
      have HB' := Lib.hid (by have := HB.out; rw [← HSZ.out] at this; exact this)
      clear hB hR
      go_wp2_with fail
      refine (rm_told cs HLN.out HQ.out w1.heap.size ao cap a la ca ls (k : Int) none 0 0 [] _ (HO.out.below HB'.out) (HA2.out.below (Nat.le_refl _) HB'.out) (Rgs.nil _)).mono ?_
      rintro e w3 ⟨rfl, hb3⟩
      rw [HGK.out]
      have hle : b2 ≤ wr.heap.size := by have := HB'.out.size; rw [HSZ.out] at this; exact this
      have hr3 := HR.out.later hb3
      have hf3 := hr3.frozen k
      have HB4 := Lib.hid ((HB.out.trans (hb3.mono hle)).setCell (p := ⟨b2, k, none⟩) (Nat.le_refl _) (.int .i64 ((cnV left (nn : Int) ls k : Nat) : Int)))
      have HRS : Hid (Row (w3.setCell ⟨b2, k, none⟩ (.int .i64 ((cnV left (nn : Int) ls k : Nat) : Int))) b2 3 (tab 10 (cnK (cnV left (nn : Int) ls) (k + 1)))) := Lib.hid (by rw [← HPUT.out]; exact hr3.set k _)
      have hc3 := (hr3.cell k).trans (tab_get 10 _ k hlt)
      generalize cnV left (nn : Int) ls k = vk at *
      clear hb3 HB HB' HR hr3
      go_wp2_with fail
      exact ⟨⟨k + 1, by omega, by simp, HB4.out, HRS.out⟩, by simp [intOf]; omega⟩
    · obtain rfl : k = 10 := by omega
      simp only [show ((10 : Nat) : Int) = 10 from rfl]
      have HR : Hid (Row wr b2 3 (tab 10 (cnV left (nn : Int) ls))) := Lib.hid (by rw [← cnK_all]; exact hR)
      have HB' := Lib.hid (by have := HB.out; rw [← HSZ.out] at this; exact this)
      clear hB hR
      go_wp2_with fail
      go_ret2
      exact ⟨⟨b2, rfl, HR.out⟩, HB2.out.trans (HB'.out.mono HB2.out.size)⟩
theorem rm_CountsV (left : Nat) (n : Int) (a : Option Addr) (la ca : Nat) (ls : List Rl) (w : World) (ha : Rls w a la ls) (hla : la ≤ 1000) :
    Calls Try.prog 27 #[.int .u64 (left : Int), .int .i64 n, .slice a la ca] w fun e w' =>
      (∃ a1 c1, e = .returned (.tuple #[.slice a1 (resN 10 (lgOk left n ls)) c1, .int .i64 (okE (lgOk left n ls))]) ∧ Ins w' a1 (resN 10 (lgOk left n ls)) (cnV left n ls)) ∧ Below w.heap.size w w' := by
  cases h : lgOk left n ls
  · refine (rm_Counts_no left n a la ca ls w ha hla h).mono ?_
    rintro e w' ⟨rfl, hb⟩
    exact ⟨⟨none, 0, rfl, Ins.none _ _⟩, hb⟩
  · obtain ⟨nn, rfl, h1, h2, h3⟩ := lg_parts h
    refine (rm_Counts_yes left nn h2 h1 a la ca ls w ha hla h).mono ?_
    rintro e w' ⟨⟨b, rfl, hr⟩, hb⟩
    exact ⟨⟨_, 10, rfl, Ins.row hr (by decide)⟩, hb⟩
theorem rm_Told_no (left : Nat) (n : Int) (a : Option Addr) (la ca : Nat) (ls : List Rl) (s : Int) (b : Option Addr) (lb cb : Nat) (rb : List Rg) (w : World) (ha : Rls w a la ls) (hla : la ≤ 1000) (hb : Rgs w b lb rb) (hno : tdOk left n ls s rb = false) :
    Calls Try.prog 29 #[.int .u64 (left : Int), .int .i64 n, .slice a la ca, .int .i64 s, .slice b lb cb] w fun e w' => e = .returned (.tuple #[.int .i64 0, .int .i64 0, .int .i64 2]) ∧ Below w.heap.size w w' := by
  have HA := Lib.hid ha
  have HBr := Lib.hid hb
  clear ha hb
  have HNO : Hid (lgOk left n ls = true → 0 ≤ s → s ≤ 9 → rightV rb = false) := Lib.hid fun h h1 h2 => by
    unfold tdOk namedB at hno
    rw [h] at hno
    by_cases h0 : s = 0
    · rw [decide_eq_true h0] at hno; simpa using hno
    · rw [decide_eq_true (show 1 ≤ s by omega), decide_eq_true h2] at hno; simpa using hno
  clear hno
  go_enter Try.func29, Try.ntmps29
  go_wp2_with fail
  refine (rm_right left n a la ca ls _ HA.out hla).mono ?_
  rintro e w1 ⟨rfl, hb1⟩
  have HB1 := Lib.hid hb1
  clear hb1
  cases hl : lgOk left n ls
  · go_wp2_with fail
    go_ret3
    exact ⟨rfl, HB1.out⟩
  · by_cases h1 : s < 0
    · have e1 : decide (s < 0) = true := decide_eq_true h1
      go_wp2_with fail
      go_ret3
      exact ⟨rfl, HB1.out⟩
    · have e1 : decide (s < 0) = false := decide_eq_false h1
      by_cases h2 : 9 < s
      · have e2 : decide (9 < s) = true := decide_eq_true h2
        go_wp2_with fail
        go_ret3
        exact ⟨rfl, HB1.out⟩
      · have e2 : decide (9 < s) = false := decide_eq_false h2
        have HR := Lib.hid (HNO.out hl (by omega) (by omega))
        clear HNO h1 h2 hl
        go_wp2_with fail
        refine (rf_Right b lb cb rb _ (HBr.out.below (Nat.le_refl _) HB1.out)).mono ?_
        rintro e w2 ⟨rfl, hb2⟩
        rw [HR.out]
        have HB2 := Lib.hid (HB1.out.trans (hb2.mono HB1.out.size))
        clear hb2
        go_wp2_with fail
        go_ret3
        exact ⟨rfl, HB2.out⟩
set_option maxHeartbeats 1000000 in
theorem rm_Told_yes (left nn : Nat) (hl : left < 4503599627370496) (hn : nn ≤ 13) (a : Option Addr) (la ca : Nat) (ls : List Rl) (s : Int) (b : Option Addr) (lb cb : Nat) (rb : List Rg) (w : World) (ha : Rls w a la ls) (hla : la ≤ 1000) (hb : Rgs w b lb rb) (hok : tdOk left (nn : Int) ls s rb = true) :
    Calls Try.prog 29 #[.int .u64 (left : Int), .int .i64 (nn : Int), .slice a la ca, .int .i64 s, .slice b lb cb] w fun e w' => e = .returned (.tuple #[.int .i64 ((gvC (deck left) nn QT ls s : Nat) : Int), .int .i64 ((gvC (deck left) nn (fitP rb) ls s : Nat) : Int), .int .i64 0]) ∧ Below w.heap.size w w' := by
  have HA := Lib.hid ha
  have HBr := Lib.hid hb
  have HL := Lib.hid hl
  have HN := Lib.hid hn
  have h1 := (Bool.and_eq_true_iff.1 hok).1
  have HR := Lib.hid (Bool.and_eq_true_iff.1 hok).2
  have HLG := Lib.hid (Bool.and_eq_true_iff.1 h1).1
  have hs : 0 ≤ s ∧ s ≤ 9 := by
    have := (Bool.and_eq_true_iff.1 h1).2
    unfold namedB at this
    simp only [Bool.or_eq_true, Bool.and_eq_true, decide_eq_true_eq] at this
    omega
  have e1 : decide (s < 0) = false := decide_eq_false (by omega)
  have e2 : decide (9 < s) = false := decide_eq_false (by omega)
  clear ha hb hok h1 hs hl hn
  go_enter Try.func29, Try.ntmps29
  go_wp2_with fail
  refine (rm_right left (nn : Int) a la ca ls _ HA.out hla).mono ?_
  rintro e w1 ⟨rfl, hb1⟩
  rw [HLG.out]
  have HB1 := Lib.hid hb1
  have HA1 := Lib.hid (HA.out.below (Nat.le_refl _) hb1)
  have HC1 := Lib.hid (HBr.out.below (Nat.le_refl _) hb1)
  clear hb1 HA HBr
  go_wp2_with fail
  refine (rf_Right b lb cb rb _ HC1.out).mono ?_
  rintro e w2 ⟨rfl, hb2⟩
  rw [HR.out]
  have HB2 := Lib.hid (HB1.out.trans (hb2.mono HB1.out.size))
  have HA2 := Lib.hid (HA1.out.below (Nat.le_refl _) hb2)
  have HC2 := Lib.hid (HC1.out.below (Nat.le_refl _) hb2)
  clear hb2 HA1 HC1 HB1
  go_wp2_with fail
  refine (rf_Cells left nn HL.out HN.out _).mono ?_
  rintro e w3 ⟨⟨v, rfl, hO⟩, hb3⟩
  have HQ : Hid (∀ q k, qC q ((ceOf left nn).take k) ≤ 4503599627370496) := Lib.hid fun q k => qC_bound left nn HN.out q k
  have HLN : Hid ((ceOf left nn).length ≤ 112504) := Lib.hid (ce_len left nn HN.out)
  have HG1 := Lib.hid (gvQ_hands left nn HN.out QT ls s)
  have HG2 := Lib.hid (gvQ_hands left nn HN.out (fitP rb) ls s)
  obtain ⟨cs, HCS⟩ : ∃ cs, Hid (ceOf left nn = cs) := ⟨_, Lib.hid rfl⟩
  rw [HCS.out] at hO HLN HQ HG1 HG2
  obtain ⟨ao, cap, rfl, -⟩ := hO.slice
  have HB3 := Lib.hid (HB2.out.trans (hb3.mono HB2.out.size))
  have HA3 := Lib.hid (HA2.out.below (Nat.le_refl _) hb3)
  have HC3 := Lib.hid (HC2.out.below (Nat.le_refl _) hb3)
  have HO := Lib.hid hO
  clear hb3 hO HA2 HC2 HB2
  go_wp2_with fail
  refine (rm_told cs HLN.out HQ.out w2.heap.size ao cap a la ca ls s b lb cb rb _ HO.out HA3.out HC3.out).mono ?_
  rintro e w4 ⟨rfl, hb4⟩
  rw [HG1.out, HG2.out]
  have HB4 := Lib.hid (HB3.out.trans (hb4.mono HB3.out.size))
  clear hb4
  go_wp2_with fail
  go_ret3
  exact ⟨rfl, HB4.out⟩
theorem rm_ToldV (left : Nat) (n : Int) (a : Option Addr) (la ca : Nat) (ls : List Rl) (s : Int) (b : Option Addr) (lb cb : Nat) (rb : List Rg) (w : World) (ha : Rls w a la ls) (hla : la ≤ 1000) (hb : Rgs w b lb rb) :
    Calls Try.prog 29 #[.int .u64 (left : Int), .int .i64 n, .slice a la ca, .int .i64 s, .slice b lb cb] w fun e w' =>
      e = .returned (.tuple #[.int .i64 ((tdV left n ls s rb).1 : Int), .int .i64 ((tdV left n ls s rb).2.1 : Int), .int .i64 (tdV left n ls s rb).2.2]) ∧ Below w.heap.size w w' := by
  unfold tdV
  cases h : tdOk left n ls s rb
  · exact rm_Told_no left n a la ca ls s b lb cb rb w ha hla hb h
  · have h1 := (Bool.and_eq_true_iff.1 h).1
    obtain ⟨nn, rfl, q1, q2, q3⟩ := lg_parts (Bool.and_eq_true_iff.1 h1).1
    exact rm_Told_yes left nn q2 q1 a la ca ls s b lb cb rb w ha hla hb h
end Go.Proofs.Ytikdkhiehfccpaa
