/- Positions over this seat's program: Right. -/
import Derived.Test.YtnbillhodbcfbaaDoorMDpa
import Derived.Test.YtnbillhodbcfbaaDoorDmSh
namespace Go.Proofs.YtnbillhodbcfbaaDoor
open Go.RowKit Go.Sort Go.Shelf

theorem orTo_w64 {h : Nat → Nat} (hw : ∀ s, W64 (h s)) : ∀ k, W64 (orTo h k)
  | 0 => W64.zero
  | k + 1 => (orTo_w64 hw k).lor (hw k)
theorem plTo_w64 {h : Nat → Nat} (hw : ∀ s, W64 (h s)) (ps : List Nat) : ∀ k, W64 (plTo h ps k)
  | 0 => orTo_w64 hw 4
  | k + 1 => (plTo_w64 hw ps k).lor (W64.shl1 _)
theorem handsOk_mono {h : Nat → Nat} : ∀ {k n : Nat}, k ≤ n → handsOk h n = true → handsOk h k = true
  | k, 0, hk, hf => by obtain rfl : k = 0 := by omega
                       rfl
  | k, n + 1, hk, hf => by
    by_cases e : k = n + 1
    · subst e; exact hf
    · exact handsOk_mono (by omega) (Bool.and_eq_true_iff.1 (show (handsOk h n && _) = true from hf)).1
theorem playOk_mono {h : Nat → Nat} {ps : List Nat} : ∀ {k n : Nat}, k ≤ n → playOk h ps n = true → playOk h ps k = true
  | k, 0, hk, hf => by obtain rfl : k = 0 := by omega
                       rfl
  | k, n + 1, hk, hf => by
    by_cases e : k = n + 1
    · subst e; exact hf
    · exact playOk_mono (by omega) (Bool.and_eq_true_iff.1 (show (playOk h ps n && _) = true from hf)).1
set_option maxHeartbeats 2000000 in
set_option maxRecDepth 10000 in
theorem dm_Right (h : Nat → Nat) (tr ld : Nat) (ps : List Nat) (a : Option Addr) (cap : Nat) (hw : ∀ s, W64 (h s)) (htr : tr < 256) (hld : ld < 256) (w : World) (hz : Byt w a ps.length ps) :
    Calls Tryd.prog 35 #[.agg (posA h tr ld (.slice a ps.length cap))] w fun e w' => e = .returned (.bool (rightB h tr ld ps)) ∧ Below w.heap.size w w' := by
  have HW := Lib.hid hw
  have HEV := Lib.hid (fun (hl : ld ≤ 3) (hn : ps.length ≤ 3) W => dm_even h tr ld ps.length a cap hw hl hn W)
  have HFO := Lib.hid (fun (hl : ld ≤ 3) (hn : ps.length ≤ 3) hc W hz => dm_follow h tr ld ps a cap hw hl hn hc W hz)
  obtain ⟨rr, hrr⟩ : ∃ r, rightB h tr ld ps = r := ⟨_, rfl⟩
  have HRR : Hid (rr = (decide (tr ≤ 4) && decide (ld ≤ 3) && decide (ps.length ≤ 3) && handsOk h 4 && playOk h ps ps.length && evenB h ld ps.length && followTo h ld ps ps.length)) := Lib.hid hrr.symm
  rw [hrr]
  clear hrr
  obtain ⟨n, hnn⟩ : ∃ n, ps.length = n := ⟨_, rfl⟩
  rw [hnn] at hz HEV HFO HRR ⊢
  obtain ⟨PA, hPA⟩ : ∃ A, posA h tr ld (.slice a n cap) = A := ⟨_, rfl⟩
  have HPA := Lib.hid hPA
  have HPZ : Hid (PA.size = 7) := Lib.hid (by rw [← hPA]; rfl)
  rw [hPA] at HEV HFO ⊢
  have hb1 := (Below.refl w.heap.size w).alloc (Nat.le_refl _) (.cells PA 27)
  have HB := Lib.hid hb1
  have HR := Lib.hid (Row.new w 27 PA)
  have HZ := Lib.hid (hz.below (Nat.le_refl _) hb1)
  have hsm := hz.small
  obtain ⟨b0, hb0⟩ : ∃ b, w.heap.size = b := ⟨_, rfl⟩
  have HB0 := Lib.hid hb0
  rw [hb0] at HR
  clear hw hPA hnn hz hb1
  go_enter Tryd.func35, Tryd.ntmps35
  go_upto_region 1 with fail
  clear hb0
  generalize w.alloc (.cells PA 27) = W1 at *
  have c6 : W1.cell? ⟨b0, 6, none⟩ = some (.slice a n cap) := (HR.out.cell 6).trans (by rw [← HPA.out]; rfl)
  have c5 : W1.cell? ⟨b0, 5, none⟩ = some (.int .u8 (ld : Int)) := (HR.out.cell 5).trans (by rw [← HPA.out]; rfl)
  have c4 : W1.cell? ⟨b0, 4, none⟩ = some (.int .u8 (tr : Int)) := (HR.out.cell 4).trans (by rw [← HPA.out]; rfl)
  have c0 : W1.cell? ⟨b0, 0, none⟩ = some (.int .u64 (h 0 : Int)) := (HR.out.cell 0).trans (by rw [← HPA.out]; rfl)
  have c1 : W1.cell? ⟨b0, 1, none⟩ = some (.int .u64 (h 1 : Int)) := (HR.out.cell 1).trans (by rw [← HPA.out]; rfl)
  have c2 : W1.cell? ⟨b0, 2, none⟩ = some (.int .u64 (h 2 : Int)) := (HR.out.cell 2).trans (by rw [← HPA.out]; rfl)
  have c3 : W1.cell? ⟨b0, 3, none⟩ = some (.int .u64 (h 3 : Int)) := (HR.out.cell 3).trans (by rw [← HPA.out]; rfl)
  by_cases ht : tr ≤ 4
  · have htI : decide ((4 : Int) < (tr : Int)) = false := by simp; omega
    by_cases hl : ld ≤ 3
    · have hlI : decide ((3 : Int) < (ld : Int)) = false := by simp; omega
      by_cases hn : n ≤ 3
      · have hnI : decide ((3 : Int) < (n : Int)) = false := by simp; omega
        have HLN := Lib.hid (And.intro hl hn)
        have HR2 : Hid (rr = (handsOk h 4 && playOk h ps n && evenB h ld n && followTo h ld ps n)) := Lib.hid (by rw [HRR.out, decide_eq_true ht, decide_eq_true hl, decide_eq_true hn]; simp)
        go_wp2_with fail
        clear c0 c1 c2 c3 c4 htI hlI hnI ht
        go_loop [2, 3, 5, 24] (fun _ m _ i => ∃ k : Nat, k ≤ 4 ∧ i = .int .i64 (k : Int) ∧ m = .int .u64 ((orTo h k : Nat) : Int) ∧ handsOk h k = true) (fun _ _ _ i => 4 - (intOf i).toNat)
        case atStart => exact ⟨0, by omega, rfl, rfl, rfl⟩
        case round =>
          obtain ⟨k, hk, rfl, rfl, hek⟩ := hrel
          have HEK := Lib.hid hek
          clear hek
          by_cases hlt : k < 4
          · have hdk : decide ((k : Int) < 4) = true := by simp; omega
            have hki : (k : Int) < 4 := by omega
            have hidx := deA_ix h hlt
            have hmw := HW.out k
            have how := orTo_w64 HW.out k
            have HNX : Hid (orTo h (k + 1) = lor (orTo h k) (h k)) := Lib.hid rfl
            have HST : Hid (handsOk h (k + 1) = (shr (h k) 52 == 0 && land (orTo h k) (h k) == 0)) := Lib.hid (by
              show (handsOk h k && _) = _
              rw [HEK.out]; rfl)
            have HNO : Hid (handsOk h (k + 1) = false → rr = false) := Lib.hid fun e => by
              rw [HR2.out]
              cases hf : handsOk h 4
              · rfl
              · rw [handsOk_mono (by omega) hf] at e; cases e
            obtain ⟨m, hm⟩ : ∃ m, h k = m := ⟨_, rfl⟩
            obtain ⟨o, ho⟩ : ∃ o, orTo h k = o := ⟨_, rfl⟩
            rw [hm] at hidx hmw HNX HST
            rw [ho] at how HNX HST ⊢
            clear hm ho
            have hsh : (m : Int) / 4503599627370496 = ((shr m 52 : Nat) : Int) := by unfold shr; rw [Nat.shiftRight_eq_div_pow]; simp
            obtain ⟨x, hx⟩ : ∃ x, shr m 52 = x := ⟨_, rfl⟩
            rw [hx] at HST hsh
            clear hx
            by_cases hx0 : x = 0
            · have hxb : ((x : Int) != 0) = false := by simp; omega
              by_cases hy0 : land o m = 0
              · have hyb : (((land o m : Nat) : Int) != 0) = false := by rw [hy0]; rfl
                have HT2 : Hid (handsOk h (k + 1) = true) := Lib.hid (by rw [HST.out, hx0, hy0]; rfl)
                clear hx0 hy0
                go_wp2_with fail
                exact ⟨⟨k + 1, by omega, by simp, by rw [HNX.out], HT2.out⟩, by simp [intOf]; omega⟩
              · have hyb : (((land o m : Nat) : Int) != 0) = true := by rw [bne_iff_ne]; omega
                have HT2 : Hid (rr = false) := Lib.hid (HNO.out (by rw [HST.out, hx0, beq_eq_false_iff_ne.2 hy0]; rfl))
                clear hx0 hy0
                go_wp2_with fail
                go_ret
                exact ⟨by rw [HT2.out]; rfl, HB.out⟩
            · have hxb : ((x : Int) != 0) = true := by rw [bne_iff_ne]; omega
              have HT2 : Hid (rr = false) := Lib.hid (HNO.out (by rw [HST.out, beq_eq_false_iff_ne.2 hx0]; rfl))
              clear hx0
              go_wp2_with fail
              go_ret
              exact ⟨by rw [HT2.out]; rfl, HB.out⟩
          · obtain rfl : k = 4 := by omega
            simp only [show ((4 : Nat) : Int) = 4 from rfl]
            have HR3 : Hid (rr = (playOk h ps n && evenB h ld n && followTo h ld ps n)) := Lib.hid (by rw [HR2.out, HEK.out]; rfl)
            have HP0 : Hid (plTo h ps 0 = orTo h 4) := Lib.hid rfl
            rw [← HP0.out]
            go_wp2_with fail
            clear hlt hk
            go_loop [2, 3, 7, 43] (fun _ m _ i => ∃ k : Nat, k ≤ n ∧ i = .int .i64 (k : Int) ∧ m = .int .u64 ((plTo h ps k : Nat) : Int) ∧ playOk h ps k = true) (fun _ _ _ i => n - (intOf i).toNat)
            case atStart => exact ⟨0, by omega, rfl, rfl, rfl⟩
            case round =>
              obtain ⟨k, hk, rfl, rfl, hek⟩ := hrel
              have HEK := Lib.hid hek
              clear hek
              by_cases hlt : k < n
              · have hdk : decide (k < n) = true := by simp; omega
                obtain ⟨bb, off, ha, hbl, hcells⟩ := HZ.out.at (by omega)
                have ek := hcells k hlt
                have hx := HZ.out.byte k
                have hpw := plTo_w64 HW.out ps k
                have HNX : Hid (plTo h ps (k + 1) = lor (plTo h ps k) (shl1 (ps.getD k 0))) := Lib.hid rfl
                have HST : Hid (playOk h ps (k + 1) = (decide (ps.getD k 0 < 52) && !(plTo h ps k).testBit (ps.getD k 0))) := Lib.hid (by
                  show (playOk h ps k && _) = _
                  rw [HEK.out]; rfl)
                have HNO : Hid (playOk h ps (k + 1) = false → rr = false) := Lib.hid fun e => by
                  rw [HR3.out]
                  cases hf : playOk h ps n
                  · rfl
                  · rw [playOk_mono (by omega) hf] at e; cases e
                obtain ⟨c, hc⟩ : ∃ c, ps.getD k 0 = c := ⟨_, rfl⟩
                obtain ⟨m, hm⟩ : ∃ m, plTo h ps k = m := ⟨_, rfl⟩
                rw [hc] at ek hx HNX HST
                rw [hm] at hpw HNX HST ⊢
                clear hc hm hcells hk hbl
                subst ha
                have hsr := run_shr64 m c .u8 hpw
                have hba := run_bit64 m c hpw
                have hsl := run_shl64 c .u8
                have hor := run_or64 m (shl1 c) hpw (W64.shl1 c)
                by_cases hc52 : c < 52
                · have hcb : decide ((52 : Int) ≤ (c : Int)) = false := by simp; omega
                  cases hbt : m.testBit c
                  · have hbi : (((bitAt m c : Nat) : Int) != 0) = false := by rw [bitAt_eq, hbt]; rfl
                    have HT2 : Hid (playOk h ps (k + 1) = true) := Lib.hid (by rw [HST.out, hbt, decide_eq_true hc52]; rfl)
                    clear hbt
                    go_wp2_with fail
                    exact ⟨⟨k + 1, by omega, by simp, by rw [HNX.out], HT2.out⟩, by simp [intOf]; omega⟩
                  · have hbi : (((bitAt m c : Nat) : Int) != 0) = true := by rw [bitAt_eq, hbt]; rfl
                    have HT2 : Hid (rr = false) := Lib.hid (HNO.out (by rw [HST.out, hbt]; simp))
                    clear hbt
                    go_wp2_with fail
                    go_ret
                    exact ⟨by rw [HT2.out]; rfl, HB.out⟩
                · have hcb : decide ((52 : Int) ≤ (c : Int)) = true := by simp; omega
                  have HT2 : Hid (rr = false) := Lib.hid (HNO.out (by rw [HST.out, decide_eq_false hc52]; rfl))
                  clear hc52
                  go_wp2_with fail
                  go_ret
                  exact ⟨by rw [HT2.out]; rfl, HB.out⟩
              · obtain rfl : k = n := by omega
                have hdk : decide (k < k) = false := by simp
                have HR4 : Hid (rr = (evenB h ld k && followTo h ld ps k)) := Lib.hid (by rw [HR3.out, HEK.out]; rfl)
                have HFC := Lib.hid (HFO.out HLN.out.1 HLN.out.2 ((playOk_iff h ps k).1 HEK.out).1)
                clear hlt hk
                go_wp2_with (refine wpList_load_row rfl 27 (.tmp 1) rfl b0 rfl 27 PA (0, 0) _ HR.out Tryd.underlying27 rfl (by rw [HPZ.out]; exact size_pos) ?_)
                refine (HEV.out HLN.out.1 HLN.out.2 _).mono ?_
                rintro e w2 ⟨rfl, hb2⟩
                have HR5 := Lib.hid (HR.out.later hb2)
                have HB5 := Lib.hid (HB.out.trans (hb2.mono HB.out.size))
                have HFD := Lib.hid (HFC.out w2 (HZ.out.below (Nat.le_refl _) hb2))
                clear hb2
                cases hev : evenB h ld k
                · have HT2 : Hid (rr = false) := Lib.hid (by rw [HR4.out, hev]; rfl)
                  clear hev
                  go_wp2_with fail
                  go_ret
                  exact ⟨by rw [HT2.out]; rfl, HB5.out⟩
                · have HT2 : Hid (rr = followTo h ld ps k) := Lib.hid (by rw [HR4.out, hev]; rfl)
                  clear hev
                  have d6 : w2.cell? ⟨b0, 6, none⟩ = some (.slice a k cap) := (HR5.out.cell 6).trans (by rw [← HPA.out]; rfl)
                  have d5 : w2.cell? ⟨b0, 5, none⟩ = some (.int .u8 (ld : Int)) := (HR5.out.cell 5).trans (by rw [← HPA.out]; rfl)
                  have d4 : w2.cell? ⟨b0, 4, none⟩ = some (.int .u8 (tr : Int)) := (HR5.out.cell 4).trans (by rw [← HPA.out]; rfl)
                  have d0 : w2.cell? ⟨b0, 0, none⟩ = some (.int .u64 (h 0 : Int)) := (HR5.out.cell 0).trans (by rw [← HPA.out]; rfl)
                  have d1 : w2.cell? ⟨b0, 1, none⟩ = some (.int .u64 (h 1 : Int)) := (HR5.out.cell 1).trans (by rw [← HPA.out]; rfl)
                  have d2 : w2.cell? ⟨b0, 2, none⟩ = some (.int .u64 (h 2 : Int)) := (HR5.out.cell 2).trans (by rw [← HPA.out]; rfl)
                  have d3 : w2.cell? ⟨b0, 3, none⟩ = some (.int .u64 (h 3 : Int)) := (HR5.out.cell 3).trans (by rw [← HPA.out]; rfl)
                  rw [← HPA.out] at HFD
                  unfold posA at HFD
                  go_wp2_with fail
                  refine HFD.out.mono ?_
                  rintro e w3 ⟨rfl, hb3⟩
                  have HB6 := Lib.hid (HB5.out.trans (hb3.mono HB5.out.size))
                  clear hb3
                  go_wp2_with fail
                  go_ret
                  exact ⟨by rw [HT2.out]; rfl, HB6.out⟩
      · have hnI : decide ((3 : Int) < (n : Int)) = true := by simp; omega
        have HR2 : Hid (rr = false) := Lib.hid (by rw [HRR.out, decide_eq_false hn]; simp)
        clear hn
        go_wp2_with fail
        go_ret
        exact ⟨by rw [HR2.out]; rfl, HB.out⟩
    · have hlI : decide ((3 : Int) < (ld : Int)) = true := by simp; omega
      have HR2 : Hid (rr = false) := Lib.hid (by rw [HRR.out, decide_eq_false hl]; simp)
      clear hl
      go_wp2_with fail
      go_ret
      exact ⟨by rw [HR2.out]; rfl, HB.out⟩
  · have htI : decide ((4 : Int) < (tr : Int)) = true := by simp; omega
    have HR2 : Hid (rr = false) := Lib.hid (by rw [HRR.out, decide_eq_false ht]; simp)
    clear ht
    go_wp2_with fail
    go_ret
    exact ⟨by rw [HR2.out]; rfl, HB.out⟩
end Go.Proofs.YtnbillhodbcfbaaDoor
