/- LdH, LdJ in one text. -/
import Derived.Test.YtgnlmodaekfhfaaDoorLdG

/- The contracts of Play and Lead, over this seat's program. -/
namespace Go.Proofs.YtgnlmodaekfhfaaDoor
open Go.RowKit Go.Shelf Go.Sort

theorem pick_lt {l p : Nat} (h : W64 l) : W64 (pick l p) := by
  unfold pick
  split
  · exact W64.land h
  · exact h
theorem can_w64 {s : St} (hs : s.ok) : W64 s.can := by
  unfold St.can
  split
  · exact w64_52 (leadsV_lt (hs.h _ s.turn_lt))
  · exact playableV_w64 _ _ (w64_52 (hs.h _ s.turn_lt))
theorem legal_w64 {s : St} (hs : s.ok) : W64 s.legal := by
  unfold St.legal
  split
  · exact W64.zero
  · exact pick_lt (can_w64 hs)
theorem ld_Play {w : World} {B c : Nat} {s : St} (hs : s.ok) (hm : s.md) (hA : TblAt w B s) (hT : Tab w) (hc : s.legal.testBit c = true → c < 52) :
    Calls Tryd.prog 16 #[.pointer (some ⟨B, 0, none⟩), .int .u8 (c : Int)] w fun e w' => e = .returned (.int .i64 ((s.playV c).2 : Int)) ∧ TblAt w' B (s.playV c).1 ∧ Kept (fun k => k ≠ B) w w' := by
  have HM := Lib.hid (ld_madeT hm hA)
  have HLG := Lib.hid (ld_Legal hs hm hA hT)
  have hlw := legal_w64 hs
  have c18 := hA.cell 18
  simp only [List.getElem?_toArray, List.getElem?_cons_zero, List.getElem?_cons_succ] at c18
  unfold St.playV
  cases hp : s.pend
  · rw [hp] at c18
    obtain ⟨l, hl⟩ : ∃ l, l = s.legal := ⟨_, rfl⟩
    rw [← hl] at HLG hlw hc
    have HL := Lib.hid hl
    rw [← hl]
    clear hl
    have t1 := bitAt_zero l c
    cases hb : l.testBit c
    · rw [hb] at t1
      go_enter Tryd.func16, Tryd.ntmps16
      go_wp2_with (first
        | (go_at_call 29; refine HM.out.mono ?_; rintro e w' ⟨rfl, rfl⟩)
        | (go_at_call 18; refine HLG.out.mono ?_; rintro e w1 ⟨rfl, hb1⟩))
      go_ret
      exact ⟨rfl, hA.below hA.lt hb1, Kept.of_below hb1⟩
    · rw [hb] at t1
      have h52 := hc hb
      go_enter Tryd.func16, Tryd.ntmps16
      go_wp2_with (first
        | (go_at_call 29; refine HM.out.mono ?_; rintro e w' ⟨rfl, rfl⟩)
        | (go_at_call 18; refine HLG.out.mono ?_; rintro e w1 ⟨rfl, hb1⟩)
        | (go_at_call 31; refine (ld_put hs (hA.below hA.lt hb1) h52).mono ?_; rintro e w2 ⟨rfl, hr2, hk2⟩))
      go_ret
      exact ⟨rfl, hr2, (Kept.of_below hb1).trans hk2⟩
  · rw [hp] at c18
    go_enter Tryd.func16, Tryd.ntmps16
    go_wp2_with (go_at_call 29; refine HM.out.mono ?_; rintro e w' ⟨rfl, rfl⟩)
    go_ret
    exact ⟨rfl, hA, Kept.refl _ _⟩
set_option maxHeartbeats 1000000 in
theorem ld_Lead {w : World} {B seat c : Nat} {s : St} (hs : s.ok) (hm : s.md) (hA : TblAt w B s) (hT : Tab w) (hse : seat < 256) (hc : s.legal.testBit c = true → c < 52) :
    Calls Tryd.prog 15 #[.pointer (some ⟨B, 0, none⟩), .int .u8 (seat : Int), .int .u8 (c : Int)] w fun e w' => e = .returned (.int .i64 ((s.leadV seat c).2 : Int)) ∧ TblAt w' B (s.leadV seat c).1 ∧ Kept (fun k => k ≠ B) w w' := by
  have HM := Lib.hid (ld_madeT hm hA)
  have HTU := Lib.hid (fun (w1 : World) (hb : Below w.heap.size w w1) => ld_turn hs (hA.below hA.lt hb))
  have HPL := Lib.hid (fun (w1 : World) (hb : Below w.heap.size w w1) => ld_Play hs hm (hA.below hA.lt hb) (hT.below hT.pos hb) hc)
  have c18 := hA.cell 18
  have c11 := hA.cell 11
  simp only [List.getElem?_toArray, List.getElem?_cons_zero, List.getElem?_cons_succ] at c18 c11
  have rc18 := fun dd os => cell_regrown c18 dd os
  have rc11 := fun dd os => cell_regrown c11 dd os
  unfold St.leadV
  by_cases hpc : (s.pend || s.ct != 0) = true
  · rw [if_pos hpc]
    have hpc2 : (s.pend || ((s.ct : Int) != 0)) = true := by rw [ne_zero_cast]; exact hpc
    cases hp : s.pend
    all_goals
      rw [hp] at c18 hpc2
      simp only [Bool.false_or, Bool.true_or] at hpc2
      go_enter Tryd.func15, Tryd.ntmps15
      go_wp2_with (go_at_call 29; refine HM.out.mono ?_; rintro e w' ⟨rfl, rfl⟩)
      go_ret
      exact ⟨rfl, hA, Kept.refl _ _⟩
  · rw [if_neg hpc]
    have hp : s.pend = false := by cases h : s.pend <;> simp_all
    have hct : s.ct = 0 := by cases h : s.pend <;> simp_all
    clear hpc
    rw [hp] at c18
    rw [hct] at c11
    by_cases h3 : 3 < seat
    · rw [if_pos (.inl h3)]
      have h3I : decide ((3 : Int) < (seat : Int)) = true := by rw [decide_eq_true_eq]; omega
      go_enter Tryd.func15, Tryd.ntmps15
      go_wp2_with (go_at_call 29; refine HM.out.mono ?_; rintro e w' ⟨rfl, rfl⟩)
      go_ret
      exact ⟨rfl, hA, Kept.refl _ _⟩
    · have h3I : decide ((3 : Int) < (seat : Int)) = false := by rw [decide_eq_false_iff_not]; omega
      have hs4 : seat < 4 := by omega
      have hs4I : (seat : Int) < 4 := by omega
      obtain ⟨m, hme, hmw⟩ : ∃ m, m = s.h seat ∧ W64 m := ⟨_, rfl, w64_52 (hs.h _ hs4)⟩
      have cm : w.cell? ⟨B, seat, none⟩ = some (.int .u64 (m : Int)) := by
        rw [hA.cell, hme]
        rcases (show seat = 0 ∨ seat = 1 ∨ seat = 2 ∨ seat = 3 by omega) with h | h | h | h <;> rw [h] <;> rfl
      have t1 := bitAt_zero m c
      rw [← hme]
      clear hme
      cases hb : m.testBit c
      · rw [if_pos (.inr rfl)]
        rw [hb] at t1
        go_enter Tryd.func15, Tryd.ntmps15
        go_wp2_with (go_at_call 29; refine HM.out.mono ?_; rintro e w' ⟨rfl, rfl⟩)
        go_ret
        exact ⟨rfl, hA, Kept.refl _ _⟩
      · rw [if_neg (by rintro (h | h); exact h3 h; cases h)]
        rw [hb] at t1
        have t2 := beq_cast seat s.turn
        by_cases hst : seat = s.turn
        · rw [if_pos hst]
          have e : (seat == s.turn) = true := by rw [beq_iff_eq]; exact hst
          rw [e] at t2
          clear e hst h3
          go_enter Tryd.func15, Tryd.ntmps15
          go_wp2_with (first
            | (go_at_call 29; refine HM.out.mono ?_; rintro e w' ⟨rfl, rfl⟩)
            | (go_at_call 30; refine (HTU.out _ (Below.refl _ _)).mono ?_; rintro e w1 ⟨rfl, hb1⟩)
            | (go_at_call 16; refine (HPL.out _ hb1).mono ?_; rintro e w2 ⟨rfl, hr2, hk2⟩))
          go_ret
          exact ⟨rfl, hr2, (Kept.of_below hb1).trans hk2⟩
        · rw [if_neg hst]
          have e : (seat == s.turn) = false := by rw [beq_eq_false_iff_ne]; exact hst
          rw [e] at t2
          clear e hst h3
          go_enter Tryd.func15, Tryd.ntmps15
          go_upto_region 9 with (first
            | (go_at_call 29; refine HM.out.mono ?_; rintro e w' ⟨rfl, rfl⟩)
            | (go_at_call 30; refine (HTU.out _ (Below.refl _ _)).mono ?_; rintro e w1 ⟨rfl, hb1⟩))
          have HM1 : LMid w w1 B s := ⟨hA.below hA.lt hb1, Kept.of_below hb1⟩
          have g16 := HM1.row.frozen 16
          have g17 := HM1.row.frozen 17
          have g18 := HM1.row.frozen 18
          have hR1 := HM1.row
          have d16 := hR1.cell 16
          have d17 := hR1.cell 17
          have d18 := hR1.cell 18
          simp only [List.getElem?_toArray, List.getElem?_cons_zero, List.getElem?_cons_succ] at d16 d17 d18
          have HM4 := ((HM1.set (s' := { s with seat := seat }) (i := 16) (v := .int .u8 (seat : Int)) rfl).set (s' := { s with seat := seat, card := c }) (i := 17) (v := .int .u8 (c : Int)) rfl).set (s' := { s with seat := seat, card := c, pend := true }) (i := 18) (v := .bool true) rfl
          go_wp2_with fail
          go_ret
          exact ⟨rfl, HM4.row, HM4.kp⟩
end Go.Proofs.YtgnlmodaekfhfaaDoor

/- The contract of Demand, over this seat's program. -/
namespace Go.Proofs.YtgnlmodaekfhfaaDoor
open Go.RowKit Go.Shelf Go.Sort

set_option maxHeartbeats 1000000 in
theorem ld_Demand {w : World} {B suit : Nat} {s : St} (req : Bool) (hs : s.ok) (hm : s.md) (hA : TblAt w B s) (hsu : suit < 256) :
    Calls Tryd.prog 23 #[.pointer (some ⟨B, 0, none⟩), .int .u8 (suit : Int), .bool req] w fun e w' => e = .returned (.int .i64 ((s.demandV suit req).2 : Int)) ∧ TblAt w' B (s.demandV suit req).1 ∧ Kept (fun k => k ≠ B) w w' := by
  have HM := Lib.hid (ld_madeT hm hA)
  have c18 := hA.cell 18
  have c10 := hA.cell 10
  have c11 := hA.cell 11
  have c20 := hA.cell 20
  have c9 := hA.cell 9
  simp only [List.getElem?_toArray, List.getElem?_cons_zero, List.getElem?_cons_succ] at c18 c10 c11 c20 c9
  have hld := hs.ld
  obtain ⟨pt, hpt⟩ : ∃ x, x = (s.ld + 2) % 4 := ⟨_, rfl⟩
  have ew : IntKind.u8.wrap ((s.ld : Int) + 2) = (s.ld : Int) + 2 := by rw [IntKind.wrap_u8]; omega
  have et : ((s.ld : Int) + 2).tmod 4 = (pt : Int) := by rw [Int.tmod_eq_emod_of_nonneg (by omega)]; omega
  have ew2 : IntKind.u8.wrap (pt : Int) = (pt : Int) := by rw [IntKind.wrap_u8]; omega
  obtain ⟨pa, hpa⟩ : ∃ x, x = pt % 2 := ⟨_, rfl⟩
  obtain ⟨pb, hpb⟩ : ∃ x, x = s.dc % 2 := ⟨_, rfl⟩
  have ea : ((pt : Int)).tmod 2 = (pa : Int) := by rw [Int.tmod_eq_emod_of_nonneg (by omega)]; omega
  have eb : ((s.dc : Int)).tmod 2 = (pb : Int) := by rw [Int.tmod_eq_emod_of_nonneg (by omega)]; omega
  have ea2 : IntKind.u8.wrap (pa : Int) = (pa : Int) := by rw [IntKind.wrap_u8]; omega
  have eb2 : IntKind.u8.wrap (pb : Int) = (pb : Int) := by rw [IntKind.wrap_u8]; omega
  unfold St.demandV
  rw [← hpt, ← hpa, ← hpb]
  have hp4 : pt < 4 := by omega
  have hp4I : (pt : Int) < 4 := by omega
  clear hpt hpa hpb
  cases hp : s.pend
  · rw [hp] at c18
    by_cases hbad : 3 < suit ∨ s.ct ≠ 0 ∨ s.must ≠ 0 ∨ pa = pb
    · rw [if_neg (by decide), if_pos hbad]
      have t1 := ne_zero_cast s.ct
      have t2 := ne_zero_cast s.must
      have t3 := beq_cast pa pb
      obtain ⟨b1, h1⟩ : ∃ b, b = decide ((3 : Int) < (suit : Int)) := ⟨_, rfl⟩
      have hb : (b1 || (s.ct != 0) || (s.must != 0) || (pa == pb)) = true := by
        simp only [h1, Bool.or_eq_true, decide_eq_true_eq, bne_iff_ne, beq_iff_eq]
        rcases hbad with h | h | h | h
        · exact .inl (.inl (.inl (by omega)))
        · exact .inl (.inl (.inr h))
        · exact .inl (.inr h)
        · exact .inr h
      have h1' := h1.symm
      clear hbad h1
      generalize (s.ct != 0) = b2 at *
      generalize (s.must != 0) = b3 at *
      generalize (pa == pb) = b4 at *
      cases b1 <;> cases b2 <;> cases b3 <;> cases b4
      all_goals first | (exact absurd hb (by decide)) | skip
      all_goals
        clear hb
        go_enter Tryd.func23, Tryd.ntmps23
        go_wp2_with (go_at_call 29; refine HM.out.mono ?_; rintro e w' ⟨rfl, rfl⟩)
        go_ret
        exact ⟨rfl, hA, Kept.refl _ _⟩
    · rw [if_neg (by decide), if_neg hbad]
      have h3 : suit < 4 := by omega
      have h3I : decide ((3 : Int) < (suit : Int)) = false := by rw [decide_eq_false_iff_not]; omega
      have t1 : ((s.ct : Int) != 0) = false := by rw [ne_zero_cast]; simp; omega
      have t2 : ((s.must : Int) != 0) = false := by rw [ne_zero_cast]; simp; omega
      have t3 : ((pa : Int) == (pb : Int)) = false := by rw [beq_cast, beq_eq_false_iff_ne]; omega
      obtain ⟨sb, hsb⟩ : ∃ x, x = 2 ^ suit := ⟨_, rfl⟩
      have hsb8 : sb < 256 := by rw [hsb]; exact Nat.pow_lt_pow_right (a := 2) (n := 8) (by decide) (by omega)
      have t4 : ((2 : Int) ^ suit) % 256 = (sb : Int) := pow_u8 hsb (by omega)
      have HSU := Lib.hid (fun W => ld_suits sb hsb8 W)
      have hmw := w64_52 (suitsM_lt sb)
      rw [← hsb]
      obtain ⟨a, ha⟩ : ∃ a, a = suitsM sb := ⟨_, rfl⟩
      rw [← ha] at HSU hmw ⊢
      clear ha hsb hbad
      obtain ⟨m, hme, hw⟩ : ∃ m, m = s.pn pt ∧ W64 m := ⟨_, rfl, w64_52 (hs.pn _ hp4)⟩
      have c4 : w.cell? ⟨B, 4 + pt, none⟩ = some (.int .u64 (m : Int)) := by
        rw [hA.cell, hme]
        rcases (show pt = 0 ∨ pt = 1 ∨ pt = 2 ∨ pt = 3 by omega) with h | h | h | h <;> rw [h] <;> rfl
      have rc4 := fun dd os => cell_regrown c4 dd os
      rw [← hme]
      have HME := Lib.hid hme
      clear hme
      have t5 := beq_cast (land m a) 0
      by_cases h0 : land m a = 0
      · rw [if_pos h0]
        have e : ((land m a : Int) == 0) = true := by rw [h0]; rfl
        clear h0 t5
        go_enter Tryd.func23, Tryd.ntmps23
        go_wp2_with (first
          | (go_at_call 29; refine HM.out.mono ?_; rintro e w' ⟨rfl, rfl⟩)
          | (rw [t4]; go_at_call 35; refine (HSU.out _).mono ?_; rintro e w' ⟨rfl, rfl⟩)
          | (go_at_call 35; refine (HSU.out _).mono ?_; rintro e w' ⟨rfl, rfl⟩))
        go_ret
        exact ⟨rfl, hA, Kept.refl _ _⟩
      · rw [if_neg h0]
        have e : ((land m a : Int) == 0) = false := by rw [beq_eq_false_iff_ne]; omega
        clear h0 t5
        have HM0 : LMid w w B s := ⟨hA, Kept.refl _ _⟩
        obtain ⟨mu, hmu⟩ : ∃ mu, mu = if req = true then sb else s.must := ⟨_, rfl⟩
        obtain ⟨nu, hnu⟩ : ∃ nu, nu = if req = true then 0 else s.nt ||| sb := ⟨_, rfl⟩
        rw [← hmu, ← hnu]
        have HMU := Lib.hid hmu
        have HNU := Lib.hid hnu
        clear hmu hnu
        go_enter Tryd.func23, Tryd.ntmps23
        go_upto_region 12 with (first
          | (go_at_call 29; refine HM.out.mono ?_; rintro e w' ⟨rfl, rfl⟩)
          | (rw [t4]; go_at_call 35; refine (HSU.out _).mono ?_; rintro e w' ⟨rfl, rfl⟩)
          | (go_at_call 35; refine (HSU.out _).mono ?_; rintro e w' ⟨rfl, rfl⟩))
        refine wp_region_below_tail 11 (by kernel_rfl) (by kernel_rfl) ?_
        simp only [List.take_succ_cons, List.take_zero, List.drop_succ_cons, List.drop_zero]
        repeat (quiet_step (fail))
        refine wpQuiet_nil ?_
        rintro _ ⟨q, rfl⟩
        have hb2 := below_regrown w q.d q.os
        have c2 := rc4 q.d q.os
        generalize grow (redrawn w q.d) q.os = w2 at *
        have HM2 := HM0.below hb2
        have f2 := HM2.row.frozen (4 + pt)
        have HM3 := HM2.set (st_pset _ pt (landn m a) hp4)
        clear rc4 c4 hb2 HM0 HM2 c9 c10 c11 c18 c20
        go_upto_region 13 with fail
        clear c2 f2
        generalize w2.setCell ⟨B, 4 + pt, none⟩ (.int .u64 ((landn m a : Nat) : Int)) = w3 at *
        have g20 := HM3.row.frozen 20
        have g21 := HM3.row.frozen 21
        have hR3 := HM3.row
        have d20 := hR3.cell 20
        have d21 := hR3.cell 21
        simp only [List.getElem?_toArray, List.getElem?_cons_zero, List.getElem?_cons_succ] at d20 d21
        cases req
        · have hnt := hs.nt
          have hmu : mu = s.must := HMU.out
          have hnu : nu = s.nt ||| sb := HNU.out
          have t6 : bits .or .u8 (s.nt : Int) (sb : Int) = (nu : Int) := by rw [bits_or8 _ _ (by omega) hsb8, ← hnu]
          have t7 : bits .or .u8 (s.nt : Int) ((2 : Int) ^ suit % 256) = (nu : Int) := by rw [t4, t6]
          have HM4 := HM3.set (s' := { s with pn := setH s.pn pt (landn m a), must := mu, nt := nu }) (i := 21) (v := .int .u8 (nu : Int)) (by rw [hmu]; rfl)
          clear hmu hnu
          go_wp2_with fail
          go_ret
          rw [hp] at HM4
          exact ⟨rfl, HM4.row, HM4.kp⟩
        · have hmu : mu = sb := HMU.out
          have hnu : nu = 0 := HNU.out
          have HM4 := (HM3.set (s' := { s with pn := setH s.pn pt (landn m a), must := mu }) (i := 20) (v := .int .u8 (sb : Int)) (by rw [hmu]; rfl)).set (s' := { s with pn := setH s.pn pt (landn m a), must := mu, nt := nu }) (i := 21) (v := .int .u8 0) (by rw [hnu]; rfl)
          clear hmu hnu
          go_wp2_with fail
          go_ret
          rw [hp] at HM4
          exact ⟨rfl, HM4.row, HM4.kp⟩
  · rw [hp] at c18
    rw [if_pos rfl]
    go_enter Tryd.func23, Tryd.ntmps23
    go_wp2_with (go_at_call 29; refine HM.out.mono ?_; rintro e w' ⟨rfl, rfl⟩)
    go_ret
    exact ⟨rfl, hA, Kept.refl _ _⟩
end Go.Proofs.YtgnlmodaekfhfaaDoor
