/- The reference of chapter 40: Given, Count, Total. -/
import Derived.Test.YtmkplfndbjcflaaRgD
import Derived.Test.YtmkplfndbjcflaaPlI
namespace Go.Proofs.Ytmkplfndbjcflaa
open Go.RowKit Go.Sort Go.Shelf Cnt

theorem Rgs.regrown {w : World} {a : Option Addr} {len : Nat} {rs : List Rg} (h : Rgs w a len rs) (d : Nat) (os : _) : Rgs (grow (redrawn w d) os) a len rs := h.below (Nat.le_refl _) (below_regrown w d os)
/-- what is read of a cell -/
structure CeAt (w : World) (g k : Nat) (c : Ce) : Prop where
  p : w.cell? ⟨g, k * 6, none⟩ = some (.int .i64 (c.p : Int))
  l0 : w.cell? ⟨g, k * 6 + 1, none⟩ = some (.int .i64 (c.l 0 : Int))
  l1 : w.cell? ⟨g, k * 6 + 2, none⟩ = some (.int .i64 (c.l 1 : Int))
  l2 : w.cell? ⟨g, k * 6 + 3, none⟩ = some (.int .i64 (c.l 2 : Int))
  l3 : w.cell? ⟨g, k * 6 + 4, none⟩ = some (.int .i64 (c.l 3 : Int))
  m : w.cell? ⟨g, k * 6 + 5, none⟩ = some (.int .i64 (c.m : Int))
theorem ce_at {w : World} {base g n cap : Nat} {cs : List Ce} (h : OwnC w base (.slice (some ⟨g, 0, none⟩) n cap) cs) {k : Nat} {c : Ce} (hc : cs[k]? = some c) : CeAt w g k c :=
  ⟨h.cell k 0 (by decide) hc, h.cell k 1 (by decide) hc, h.cell k 2 (by decide) hc, h.cell k 3 (by decide) hc, h.cell k 4 (by decide) hc, h.cell k 5 (by decide) hc⟩

set_option maxHeartbeats 2000000 in
theorem rf_Given_yes (left nn : Nat) (hl : left < 4503599627370496) (hn : nn ≤ 13) (a b : Option Addr) (la ca lb cb : Nat) (ra rb : List Rg) (w : World) (ha : Rgs w a la ra) (hb : Rgs w b lb rb) (oka : rightV ra = true) (okb : rightV rb = true) :
    Calls Try.prog 39 #[.int .u64 (left : Int), .int .i64 (nn : Int), .slice a la ca, .slice b lb cb] w fun e w' =>
      e = .returned (.tuple #[.int .i64 ((qC (fitP ra) (ceOf left nn) : Nat) : Int), .int .i64 ((qC (fun l p => fitP ra l p && fitP rb l p) (ceOf left nn) : Nat) : Int), .int .i64 0]) ∧ Below w.heap.size w w' := by
  have HA := Lib.hid ha
  have HBr := Lib.hid hb
  have KA := Lib.hid oka
  have KB := Lib.hid okb
  have hleg : legalB left (nn : Int) = true := by simp [legalB]; omega
  have HLG := Lib.hid hleg
  have HL := Lib.hid hl
  have HN := Lib.hid hn
  clear ha hb oka okb hleg hl hn
  go_enter Try.func39, Try.ntmps39
  go_wp2_with (go_at_call 46; refine (rf_counted left (nn : Int) _).mono ?_; rintro e w' ⟨rfl, rfl⟩; rw [HLG.out])
  refine (rf_Right a la ca ra _ HA.out).mono ?_
  rintro e w1 ⟨rfl, hb1⟩
  rw [KA.out]
  have HB1 := Lib.hid hb1
  have HA1 := Lib.hid (HA.out.below (Nat.le_refl _) hb1)
  have HC1 := Lib.hid (HBr.out.below (Nat.le_refl _) hb1)
  clear hb1 HA HBr
  go_wp2_with fail
  refine (rf_Right b lb cb rb _ HC1.out).mono ?_
  rintro e w2 ⟨rfl, hb2⟩
  rw [KB.out]
  have HB2 := Lib.hid (HB1.out.trans (hb2.mono HB1.out.size))
  have HA2 := Lib.hid (HA1.out.below (Nat.le_refl _) hb2)
  have HC2 := Lib.hid (HC1.out.below (Nat.le_refl _) hb2)
  clear hb2 HA1 HC1 HB1
  go_wp2_with fail
  refine (rf_Cells left nn HL.out HN.out _).mono ?_
  rintro e w3 ⟨⟨v, rfl, hO⟩, hb3⟩
  have HQ : Hid (∀ q k, qC q ((ceOf left nn).take k) ≤ 4503599627370496) := Lib.hid fun q k => qC_bound left nn HN.out q k
  have HLN : Hid ((ceOf left nn).length ≤ 112504) := Lib.hid (ce_len left nn HN.out)
  obtain ⟨cs, HCS⟩ : ∃ cs, Hid (ceOf left nn = cs) := ⟨_, Lib.hid rfl⟩
  rw [HCS.out] at hO HLN HQ
  obtain ⟨ao, cap, rfl, hne⟩ := hO.slice
  have HB3 := Lib.hid (HB2.out.trans (hb3.mono HB2.out.size))
  have HA3 := Lib.hid (HA2.out.below (Nat.le_refl _) hb3)
  have HC3 := Lib.hid (HC2.out.below (Nat.le_refl _) hb3)
  have HO := Lib.hid hO
  have HNE := Lib.hid hne
  have HBS := Lib.hid hb3.size
  clear hb3 hO hne HA2 HC2 HB2
  obtain ⟨m, HM⟩ : ∃ m, Hid (cs.length = m) := ⟨_, Lib.hid rfl⟩
  have hm : m ≤ 112504 := HM.out ▸ HLN.out
  rw [HM.out] at HO
  rw [HM.out]
  go_wp2_with fail
  go_loopw [11, 12, 14] (fun x y i wr => ∃ (k : Nat), k ≤ m ∧ i = .int .i64 (k : Int) ∧ x = .int .i64 ((qC (fitP ra) (cs.take k) : Nat) : Int) ∧ y = .int .i64 ((qC (fun l p => fitP ra l p && fitP rb l p) (cs.take k) : Nat) : Int) ∧ Below w3.heap.size w3 wr) (fun _ _ i _ => m - (intOf i).toNat)
  case atStart => exact ⟨0, by omega, rfl, rfl, rfl, Below.refl _ _⟩
  case round =>
    obtain ⟨k, hk, rfl, rfl, rfl, hB⟩ := hrel
    have HB := Lib.hid hB
    clear hB
    by_cases hlt : k < m
    · have hd : decide ((k : Int) < (m : Int)) = true := by simp; omega
      have hki : (k : Int) < (m : Int) := by omega
      obtain ⟨c, hc⟩ : ∃ c, cs[k]? = some c := ⟨_, List.getElem?_eq_getElem (by have := HM.out; omega)⟩
      obtain ⟨g, rfl⟩ := HNE.out (by intro h; rw [h] at hc; cases hc)
      obtain ⟨c0, c1, c2, c3, c4, c5⟩ := ce_at (HO.out.below HB.out) hc
      have r0 := fun dd os => cell_regrown c0 dd os
      have r1 := fun dd os => cell_regrown c1 dd os
      have r2 := fun dd os => cell_regrown c2 dd os
      have r3 := fun dd os => cell_regrown c3 dd os
      have r4 := fun dd os => cell_regrown c4 dd os
      have HAr := Lib.hid (HA3.out.below (Nat.le_refl _) HB.out)
      have HCr := Lib.hid (HC3.out.below (Nat.le_refl _) HB.out)
      have S1 := Lib.hid (qC_step (fitP ra) hc)
      have S2 := Lib.hid (qC_step (fun l p => fitP ra l p && fitP rb l p) hc)
      have B1 := Lib.hid (HQ.out (fitP ra) (k + 1))
      have B2 := Lib.hid (HQ.out (fun l p => fitP ra l p && fitP rb l p) (k + 1))
      generalize qC (fitP ra) (cs.take k) = x at *
      generalize qC (fun l p => fitP ra l p && fitP rb l p) (cs.take k) = y at *
      obtain ⟨x1, X1⟩ : ∃ x1, Hid (qC (fitP ra) (cs.take (k + 1)) = x1) := ⟨_, Lib.hid rfl⟩
      obtain ⟨y1, Y1⟩ : ∃ x1, Hid (qC (fun l p => fitP ra l p && fitP rb l p) (cs.take (k + 1)) = x1) := ⟨_, Lib.hid rfl⟩
      rw [X1.out] at S1 B1
      rw [Y1.out] at S2 B2
      go_wp2_with fail
      refine wp_region_quiet_below (by kernel_rfl) (by kernel_rfl) ?_
      repeat (first | go_big_quiet_step (fail) | quiet_step (with_reducible exact Calls.regrown_of (rf_in a la ca ra c.p c.l _ (HAr.out.regrown _ _))))
      refine wpQuiet_nil ?_
      rintro _ ⟨q, rfl⟩
      have hb := below_regrown wr q.d q.os
      have HB4 := Lib.hid (HB.out.trans (hb.mono HB.out.size))
      obtain ⟨d0, d1, d2, d3, d4, d5⟩ := ce_at (HO.out.below HB4.out) hc
      have HA4 := Lib.hid (HA3.out.below (Nat.le_refl _) HB4.out)
      have HC4 := Lib.hid (HC3.out.below (Nat.le_refl _) HB4.out)
      clear c0 c1 c2 c3 c4 c5 r0 r1 r2 r3 r4 HAr HCr hb HB
      generalize grow (redrawn wr q.d) q.os = wa at *
      cases hf : fitP ra c.l c.p
      · have E1 : Hid (x1 = x) := Lib.hid (by have := S1.out; rw [hf] at this; simpa using this)
        have E2 : Hid (y1 = y) := Lib.hid (by have := S2.out; simp only [hf, Bool.false_and] at this; simpa using this)
        clear hf S1 S2 hc d0 d1 d2 d3 d4 d5
        go_wp2_with fail
        exact ⟨⟨k + 1, by omega, by simp, by rw [X1.out, E1.out], by rw [Y1.out, E2.out], HB4.out⟩, by simp [intOf]; omega⟩
      · have E1 : Hid (x1 = x + c.m) := Lib.hid (by have := S1.out; rw [hf] at this; simpa using this)
        have b1 : x + c.m ≤ 4503599627370496 := E1.out ▸ B1.out
        have e0 := fun dd os => cell_regrown d0 dd os
        have e1 := fun dd os => cell_regrown d1 dd os
        have e2 := fun dd os => cell_regrown d2 dd os
        have e3 := fun dd os => cell_regrown d3 dd os
        have e4 := fun dd os => cell_regrown d4 dd os
        clear S1
        have S2' : Hid (∀ u, fitP rb c.l c.p = u → y1 = y + if u then c.m else 0) := Lib.hid (by rintro u rfl; have := S2.out; simp only [hf, Bool.true_and] at this; exact this)
        clear hf S2
        go_wp2_with fail
        refine wp_region_quiet_below (by kernel_rfl) (by kernel_rfl) ?_
        repeat (first | go_big_quiet_step (fail) | quiet_step (with_reducible exact Calls.regrown_of (rf_in b lb cb rb c.p c.l _ (HC4.out.regrown _ _))))
        refine wpQuiet_nil ?_
        rintro _ ⟨q2, rfl⟩
        have hb := below_regrown wa q2.d q2.os
        have HB5 := Lib.hid (HB4.out.trans (hb.mono HB4.out.size))
        clear d0 d1 d2 d3 d4 d5 e0 e1 e2 e3 e4
        obtain ⟨d0, d1, d2, d3, d4, d5⟩ := ce_at (HO.out.below HB5.out) hc
        clear hb HB4 hc d0 d1 d2 d3 d4
        generalize grow (redrawn wa q2.d) q2.os = wb at *
        cases hf : fitP rb c.l c.p
        · have E2 : Hid (y1 = y) := Lib.hid (by have := S2'.out _ hf; simpa using this)
          clear hf S2'
          go_wp2_with fail
          exact ⟨⟨k + 1, by omega, by simp, by rw [X1.out, E1.out]; simp, by rw [Y1.out, E2.out], HB5.out⟩, by simp [intOf]; omega⟩
        · have E2 : Hid (y1 = y + c.m) := Lib.hid (by have := S2'.out _ hf; simpa using this)
          have b2 : y + c.m ≤ 4503599627370496 := E2.out ▸ B2.out
          clear hf S2'
          go_wp2_with fail
          exact ⟨⟨k + 1, by omega, by simp, by rw [X1.out, E1.out]; simp, by rw [Y1.out, E2.out]; simp, HB5.out⟩, by simp [intOf]; omega⟩
    · obtain rfl : k = m := by omega
      rw [List.take_of_length_le (by have := HM.out; omega)]
      have hd : decide ((k : Int) < (k : Int)) = false := by simp
      go_wp2_with fail
      go_ret3
      exact ⟨by rw [HCS.out]; rfl, HB3.out.trans (HB.out.mono HB3.out.size)⟩
theorem rf_Given_no (left : Nat) (n : Int) (a b : Option Addr) (la ca lb cb : Nat) (ra rb : List Rg) (w : World) (ha : Rgs w a la ra) (hb : Rgs w b lb rb) (hno : (legalB left n && rightV ra && rightV rb) = false) :
    Calls Try.prog 39 #[.int .u64 (left : Int), .int .i64 n, .slice a la ca, .slice b lb cb] w fun e w' =>
      e = .returned (.tuple #[.int .i64 0, .int .i64 0, .int .i64 2]) ∧ Below w.heap.size w w' := by
  have HA := Lib.hid ha
  have HBr := Lib.hid hb
  clear ha hb
  rcases hl : legalB left n with _ | _
  · go_enter Try.func39, Try.ntmps39
    go_wp2_with (go_at_call 46; refine (rf_counted left n _).mono ?_; rintro e w' ⟨rfl, rfl⟩; rw [hl])
    go_ret3
    exact ⟨rfl, Below.refl _ _⟩
  · go_enter Try.func39, Try.ntmps39
    go_wp2_with (go_at_call 46; refine (rf_counted left n _).mono ?_; rintro e w' ⟨rfl, rfl⟩; rw [hl])
    refine (rf_Right a la ca ra _ HA.out).mono ?_
    rintro e w1 ⟨rfl, hb1⟩
    have HC1 := Lib.hid (HBr.out.below (Nat.le_refl _) hb1)
    have HB1 := Lib.hid hb1
    clear hb1
    rcases hr : rightV ra with _ | _
    · go_wp2_with fail
      go_ret3
      exact ⟨rfl, HB1.out⟩
    · have hr2 : rightV rb = false := by rw [hl, hr] at hno; simpa using hno
      have HR2 := Lib.hid hr2
      clear hno hr2 hr hl
      go_wp2_with fail
      refine (rf_Right b lb cb rb _ HC1.out).mono ?_
      rintro e w2 ⟨rfl, hb2⟩
      rw [HR2.out]
      have HB2 := Lib.hid (HB1.out.trans (hb2.mono HB1.out.size))
      clear hb2
      go_wp2_with fail
      go_ret3
      exact ⟨rfl, HB2.out⟩
theorem rf_Given (left : Nat) (n : Int) (a b : Option Addr) (la ca lb cb : Nat) (ra rb : List Rg) (w : World) (ha : Rgs w a la ra) (hb : Rgs w b lb rb) :
    Calls Try.prog 39 #[.int .u64 (left : Int), .int .i64 n, .slice a la ca, .slice b lb cb] w fun e w' =>
      e = .returned (.tuple #[.int .i64 ((givenV left n ra rb).1 : Int), .int .i64 ((givenV left n ra rb).2.1 : Int), .int .i64 (givenV left n ra rb).2.2]) ∧ Below w.heap.size w w' := by
  unfold givenV
  cases h : (legalB left n && rightV ra && rightV rb)
  · simp only [Bool.false_eq_true, if_false]
    exact rf_Given_no left n a b la ca lb cb ra rb w ha hb h
  · simp only [if_true]
    simp only [Bool.and_eq_true, legalB, decide_eq_true_eq] at h
    obtain ⟨⟨⟨⟨h1, h2⟩, h3⟩, h4⟩, h5⟩ := h
    obtain ⟨nn, rfl⟩ : ∃ nn : Nat, n = (nn : Int) := ⟨n.toNat, by omega⟩
    rw [Int.toNat_natCast, ← qC_hands left nn (by omega), ← qC_hands left nn (by omega)]
    exact rf_Given_yes left nn h3 (by omega) a b la ca lb cb ra rb w ha hb h4 h5
theorem rf_Count (left : Nat) (n : Int) (a : Option Addr) (la ca : Nat) (ra : List Rg) (w : World) (ha : Rgs w a la ra) :
    Calls Try.prog 38 #[.int .u64 (left : Int), .int .i64 n, .slice a la ca] w fun e w' =>
      e = .returned (.tuple #[.int .i64 ((givenV left n ra []).1 : Int), .int .i64 (givenV left n ra []).2.2]) ∧ Below w.heap.size w w' := by
  have H := Lib.hid fun w' h => rf_Given left n a none la ca 0 0 ra [] w' h (Rgs.nil w')
  have HA := Lib.hid ha
  clear ha
  go_enter Try.func38, Try.ntmps38
  go_wp2_with fail
  refine (H.out _ HA.out).mono ?_
  rintro _ w1 ⟨rfl, hb⟩
  have HB := Lib.hid hb
  clear hb
  go_wp2
  go_ret2
  exact ⟨rfl, HB.out⟩
theorem rgs_newT (w : World) (r : Rg) (T : TypeId) : Rgs (w.alloc (.cells r.arr T)) (some ⟨w.heap.size, 0, none⟩) 1 [r] :=
  ⟨rfl, by decide, .inr ⟨w.heap.size, 0, rfl, by simp, fun i r' hr j hj => by
    obtain ⟨rfl, rfl⟩ : i = 0 ∧ r' = r := by
      rcases i with _ | i
      · simp at hr; exact ⟨rfl, hr.symm⟩
      · simp at hr
    simp only [World.cell?, World.alloc_heap_new]
    have := encR_get r' j hj
    simpa [encR] using this⟩⟩
/-- the range of all, made by the reference -/
theorem rf_Total (left : Nat) (n : Int) (w : World) :
    Calls Try.prog 37 #[.int .u64 (left : Int), .int .i64 n] w fun e w' =>
      e = .returned (.tuple #[.int .i64 ((totalV left n).1 : Int), .int .i64 (totalV left n).2]) ∧ Below w.heap.size w w' := by
  have HE : Hid ((givenV left n [rgAll] []).1 = (totalV left n).1 ∧ (givenV left n [rgAll] []).2.2 = (totalV left n).2) := Lib.hid (by
    unfold givenV totalV
    cases h : legalB left n
    · simp
    · have e : (true && rightV [rgAll] && rightV []) = true := by decide
      rw [e, if_pos rfl, if_pos rfl]
      simp only [legalB, Bool.and_eq_true, decide_eq_true_eq] at h
      exact ⟨by rw [cnt_all, deck_pop h.2], rfl⟩)
  rw [← HE.out.1, ← HE.out.2]
  have H := Lib.hid fun w' a la ca h => rf_Count left n a la ca [rgAll] w' h
  go_enter Try.func37, Try.ntmps37
  go_wp2_with fail
  refine (H.out _ _ _ _ (rgs_newT w rgAll 56)).mono ?_
  rintro _ w1 ⟨rfl, hb⟩
  have HB := Lib.hid (((Below.refl w.heap.size w).alloc (Nat.le_refl _) (.cells rgAll.arr 56)).trans (hb.mono (by simp)))
  clear hb
  go_wp2
  go_ret2
  exact ⟨rfl, HB.out⟩
end Go.Proofs.Ytmkplfndbjcflaa
