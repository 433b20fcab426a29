/- The reference of chapter 40: Spread. -/
import Derived.Test.YtmkplfndbjcflaaRgE
import Derived.Test.YtmkplfndbjcflaaAgZ
namespace Go.Proofs.Ytmkplfndbjcflaa
open Go.RowKit Go.Sort Go.Shelf Cnt

theorem owns_setCell {α : Type} {enc : α → List Value} {m : Nat} {T : TypeId} {w : World} {base B i : Nat} {v u : Value} {l : List α} (h : Owns enc m T w base v l) (hne : B < base) : Owns enc m T (w.setCell ⟨B, i, none⟩ u) base v l := by
  refine h.kept (row := some B) ⟨rfl, rfl, rfl, by simp [World.setCell], fun k _ hk => ?_⟩ (.inl fun e => ?_)
  · unfold World.setCell
    rw [Array.getElem?_modify, if_neg (fun e => hk (congrArg some e.symm))]
  · have := (World.ownsRow.lt h.2 B e.symm).1
    omega

set_option maxHeartbeats 2000000 in
theorem rf_SpreadOk (left nn : Nat) (hl : left < 4503599627370496) (hn : nn ≤ 13) (a : Option Addr) (la ca : Nat) (ra : List Rg) (w : World) (ha : Rgs w a la ra) (oka : rightV ra = true) :
    Calls Try.prog 24 #[.int .u64 (left : Int), .int .i64 (nn : Int), .slice a la ca] w fun e w' =>
      (∃ b, e = .returned (.tuple #[.slice (some ⟨b, 0, none⟩) 41 41, .int .i64 0]) ∧ w.heap.size ≤ b ∧ Row w' b 3 (tab 41 (spV left nn ra))) ∧ Below w.heap.size w w' := by
  have HA := Lib.hid ha
  have KA := Lib.hid oka
  have hleg : legalB left (nn : Int) = true := by simp [legalB]; omega
  have HLG := Lib.hid hleg
  have HL := Lib.hid hl
  have HN := Lib.hid hn
  have HFIN : Hid (tab 41 (fun j => qC (fun l p => fitP ra l p && decide (p = j)) (ceOf left nn)) = tab 41 (spV left nn ra)) := Lib.hid (tab_congr fun j _ => qC_hands left nn hn _)
  clear ha oka hleg hl hn
  go_enter Try.func24, Try.ntmps24
  go_wp2_with (go_at_call 46; refine (rf_counted left (nn : Int) _).mono ?_; rintro e w' ⟨rfl, rfl⟩; rw [HLG.out])
  refine (rf_Right a la ca ra _ HA.out).mono ?_
  rintro e w1 ⟨rfl, hb1⟩
  rw [KA.out]
  have HB1 := Lib.hid hb1
  clear hb1
  have hmk : ∀ w1 : World, (Instr.makeSlice 43 (.int .i64 41) (.int .i64 41)).run Try.prog w1 = .ok (.slice (some ⟨w1.heap.size, 0, none⟩) 41 41) (w1.alloc (.cells (tab 41 fun _ => 0) 3)) := make_ints 41 (by decide)
  go_wp2_with fail
  refine (rf_Cells left nn HL.out HN.out _).mono ?_
  rintro e w3 ⟨⟨v, rfl, hO⟩, hb3⟩
  have hal : Below w1.heap.size w1 (w1.alloc (.cells (tab 41 fun _ => 0) 3)) := (Below.refl _ _).alloc (Nat.le_refl _) _
  have hR3 := (Row.new w1 3 (tab 41 fun _ => 0)).later hb3
  have hb13 := hal.trans (hb3.mono (by simp))
  rw [World.size_alloc] at hO
  have HSM : Hid (∀ c ∈ ceOf left nn, c.p < 41 ∧ ∀ s, s < 4 → c.l s < 14) := Lib.hid (ce_small left nn HN.out)
  have HQ : Hid (∀ q k, qC q ((ceOf left nn).take k) ≤ 4503599627370496) := Lib.hid fun q k => qC_bound left nn HN.out q k
  have HLN : Hid ((ceOf left nn).length ≤ 112504) := Lib.hid (ce_len left nn HN.out)
  obtain ⟨cs, HCS⟩ : ∃ cs, Hid (ceOf left nn = cs) := ⟨_, Lib.hid rfl⟩
  rw [HCS.out] at hO HLN HQ HFIN HSM
  obtain ⟨ao, cap, rfl, hne⟩ := hO.slice
  have HB3 := Lib.hid (HB1.out.trans (hb13.mono HB1.out.size))
  have HR3 := Lib.hid hR3
  have HO := Lib.hid hO
  have HNE := Lib.hid hne
  have HSZ := Lib.hid HB1.out.size
  clear hb3 hO hne HB1 hal hb13 hR3 hmk
  generalize w1.heap.size = b1 at *
  obtain ⟨m, HM⟩ : ∃ m, Hid (cs.length = m) := ⟨_, Lib.hid rfl⟩
  have hm : m ≤ 112504 := HM.out ▸ HLN.out
  rw [HM.out] at HO
  rw [HM.out]
  go_wp2_with fail
  go_loopw [10] (fun i wr => ∃ (k : Nat), k ≤ m ∧ i = .int .i64 (k : Int) ∧ Below w.heap.size w wr ∧ OwnC wr (b1 + 1) (.slice ao m cap) cs ∧ Row wr b1 3 (tab 41 (fun j => qC (fun l p => fitP ra l p && decide (p = j)) (cs.take k)))) (fun i _ => m - (intOf i).toNat)
  case atStart => exact ⟨0, by omega, rfl, HB3.out, HO.out, HR3.out⟩
  case round =>
    obtain ⟨k, hk, rfl, hB, hO, hR⟩ := hrel
    clear HB3 HO HR3
    have HAr := Lib.hid (HA.out.below (Nat.le_refl _) hB)
    have HB := Lib.hid hB
    have HO := Lib.hid hO
    have HR := Lib.hid hR
    clear hB hO hR
    by_cases hlt : k < m
    · have hd : decide ((k : Int) < (m : Int)) = true := by simp; omega
      have hki : (k : Int) < (m : Int) := by omega
      obtain ⟨c, hc⟩ : ∃ c, cs[k]? = some c := ⟨_, List.getElem?_eq_getElem (by have := HM.out; omega)⟩
      have HC := Lib.hid hc
      obtain ⟨hp41, _⟩ := HSM.out c (List.mem_of_getElem? hc)
      obtain ⟨g, rfl⟩ := HNE.out (by intro h; rw [h] at hc; cases hc)
      obtain ⟨c0, c1, c2, c3, c4, c5⟩ := ce_at HO.out hc
      have r0 := fun dd os => cell_regrown c0 dd os
      have r1 := fun dd os => cell_regrown c1 dd os
      have r2 := fun dd os => cell_regrown c2 dd os
      have r3 := fun dd os => cell_regrown c3 dd os
      have r4 := fun dd os => cell_regrown c4 dd os
      clear hc
      go_wp2_with fail
      refine wp_region_quiet_below (by kernel_rfl) (by kernel_rfl) ?_
      repeat (first | go_big_quiet_step (fail) | quiet_step (with_reducible exact Calls.regrown_of (rf_in a la ca ra c.p c.l _ (HAr.out.regrown _ _))))
      refine wpQuiet_nil ?_
      rintro _ ⟨q, rfl⟩
      have hb := below_regrown wr q.d q.os
      have HB4 := Lib.hid (HB.out.trans (hb.mono HB.out.size))
      have HO4 := Lib.hid (HO.out.below hb)
      have HR4 := Lib.hid (HR.out.later hb)
      clear c0 c1 c2 c3 c4 c5 r0 r1 r2 r3 r4 HAr hb HB HO HR
      generalize grow (redrawn wr q.d) q.os = wa at *
      cases hf : fitP ra c.l c.p
      · have HR5 : Hid (Row wa b1 3 (tab 41 (fun j => qC (fun l p => fitP ra l p && decide (p = j)) (cs.take (k + 1))))) := Lib.hid (by rw [← spC_miss ra HC.out hf]; exact HR4.out)
        clear hf
        go_wp2_with fail
        exact ⟨⟨k + 1, by omega, by simp, HB4.out, HO4.out, HR5.out⟩, by simp [intOf]; omega⟩
      · have HST := Lib.hid (spC_step ra HC.out hf)
        have HBD : Hid (qC (fun l p => fitP ra l p && decide (p = c.p)) (cs.take k) + c.m ≤ 4503599627370496) := Lib.hid (by
          have h1 := qC_step (fun l p => fitP ra l p && decide (p = c.p)) HC.out
          have h2 := HQ.out (fun l p => fitP ra l p && decide (p = c.p)) (k + 1)
          rw [hf, Bool.true_and, decide_eq_true rfl, if_pos rfl] at h1
          omega)
        have c6 := (HR4.out.cell c.p).trans (tab_get 41 _ c.p hp41)
        have HSET : Hid (∀ W, Row W b1 3 (tab 41 (fun j => qC (fun l p => fitP ra l p && decide (p = j)) (cs.take k))) → Row (W.setCell ⟨b1, c.p, none⟩ (.int .i64 ((qC (fun l p => fitP ra l p && decide (p = c.p)) (cs.take k) : Int) + (c.m : Int)))) b1 3 (tab 41 (fun j => qC (fun l p => fitP ra l p && decide (p = j)) (cs.take (k + 1))))) := Lib.hid fun W hW => by
          have := hW.set c.p (.int .i64 (((qC (fun l p => fitP ra l p && decide (p = c.p)) (cs.take k) + c.m : Nat)) : Int))
          rw [tab_set 41 (fun j => qC (fun l p => fitP ra l p && decide (p = j)) (cs.take k)) c.p c.m, HST.out, Int.natCast_add] at this
          exact this
        have hbd := HBD.out
        generalize qC (fun l p => fitP ra l p && decide (p = c.p)) (cs.take k) = va at *
        obtain ⟨d0, d1, d2, d3, d4, d5⟩ := ce_at HO4.out HC.out
        generalize hcm : c.m = vm at *
        generalize hcp : c.p = vp at *
        have e0 := fun dd os => cell_regrown d0 dd os
        have e5 := fun dd os => cell_regrown d5 dd os
        have e6 := fun dd os => cell_regrown c6 dd os
        have b2 : (vp : Int) < 41 := by omega
        have hws : IntKind.i64.wrap ((va : Int) + (vm : Int)) = (va : Int) + (vm : Int) := IntWalk.i64_in _ (by omega)
        clear hf d1 d2 d3 d4 hcm hcp
        go_wp2_with fail
        refine wp_region_below_tail 21 (by kernel_rfl) (by kernel_rfl) ?_
        simp only [List.take_succ_cons, List.take_zero, List.drop_succ_cons, List.drop_zero]
        repeat (first | go_big_quiet_step (fail) | quiet_step (fail))
        refine wpQuiet_nil ?_
        rintro _ ⟨pp, rfl⟩
        have hb := below_regrown wa pp.d pp.os
        have hR5 := HR4.out.later hb
        have HB5 := Lib.hid ((HB4.out.trans (hb.mono HB4.out.size)).setCell (p := ⟨b1, vp, none⟩) (show w.heap.size ≤ b1 from HSZ.out) (.int .i64 ((va : Int) + (vm : Int))))
        have HO5 := Lib.hid (owns_setCell (B := b1) (i := vp) (u := .int .i64 ((va : Int) + (vm : Int))) (HO4.out.below hb) (by omega))
        generalize grow (redrawn wa pp.d) pp.os = wb at *
        have f3 := hR5.frozen vp
        have c7 : wb.cell? ⟨b1, vp, none⟩ = some (.int .i64 (va : Int)) := by rw [hR5.cell, ← HR4.out.cell]; exact c6
        have HR6 := Lib.hid (HSET.out wb hR5)
        clear hb e0 e5 e6 c6 d0 d5 hR5
        go_wp2_with fail
        exact ⟨⟨k + 1, by omega, by simp, HB5.out, HO5.out, HR6.out⟩, by simp [intOf]; omega⟩
    · obtain rfl : k = m := by omega
      have hd : decide ((k : Int) < (k : Int)) = false := by simp
      have HR5 : Hid (Row wr b1 3 (tab 41 (spV left nn ra))) := Lib.hid (by
        have h := HR.out
        rw [List.take_of_length_le (by have := HM.out; omega), HFIN.out] at h
        exact h)
      clear HR
      go_wp2_with fail
      go_ret2
      exact ⟨⟨b1, rfl, HSZ.out, HR5.out⟩, HB.out⟩
end Go.Proofs.Ytmkplfndbjcflaa
