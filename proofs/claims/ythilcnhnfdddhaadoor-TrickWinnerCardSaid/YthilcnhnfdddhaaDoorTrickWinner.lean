/- finesselaw11.TrickWinner returns true for every input. -/
import Derived.Test.YthilcnhnfdddhaaDoorWinOne
namespace Go.Proofs.YthilcnhnfdddhaaDoor
open Go.RowKit Go.Shelf Go.Sort

theorem seat_take {t ld : Nat} {l : List Nat} (ht : t ≤ 4) (hld : ld ≤ 3) (hr : rightB l = true) {n : Nat} (h1 : 1 ≤ n) (hn : n ≤ l.length) : seatV t ld (l.take n) = ((ld + atV t l n) % 4, 0) := by
  unfold seatV
  rw [if_neg (by omega), winner_take ht hr h1 hn, if_pos rfl]

theorem OwnB.setOther {w : World} {base : Nat} {v : Value} {zs : List Nat} (h : OwnB w base v zs) (k : Nat) (u : Value) (hk : k < base) : OwnB (w.setCell ⟨k, 0, none⟩ u) base v zs := by
  obtain ⟨h1, ⟨rfl, h2⟩ | ⟨g, cap, cur, rfl, hg, hh, hc, hm, hcs, ht⟩⟩ := h
  · exact ⟨h1, .inl ⟨rfl, h2⟩⟩
  · exact ⟨h1, .inr ⟨g, cap, cur, rfl, hg, (Below.heap_setCell _ _ _ _ (show g ≠ k by omega)).trans hh, hc, hm, hcs, ht⟩⟩
set_option maxHeartbeats 2000000 in
set_option maxRecDepth 100000 in
theorem law_TrickWinner (a : Option Addr) (len cap : Nat) (zs : List Nat) (t ld : Nat) (w : World) (hz : Byt w a len zs ∧ (a = none → cap = 0) ∧ len ≤ cap) (_ht : t < 256) (_hl : ld < 256) (hT : Tab w) :
    Calls Tryd.prog 8 #[.slice a len cap, .int .u8 (t : Int), .int .u8 (ld : Int)] w fun e w' => e = .returned (.bool true) ∧ Below w.heap.size w w' := by
  obtain ⟨hz, -, hcap⟩ := hz
  have hmade := fun w1 (hb : Below w.heap.size w w1) => law_Made a len cap 4 zs w1 (hz.below (Nat.le_refl _) hb) hcap (by decide)
  have hn4 : min len 4 ≤ 4 := by omega
  generalize min len 4 = n at *
  have hml := madeTo_length zs n
  have hmo := (madeTo_ok zs n (by omega)).1
  have hby := made_byte hmo
  have hri := made_right zs n
  generalize madeTo zs n = l at *
  subst hml
  have HM := Lib.hid hmade
  have HBY := Lib.hid hby
  clear hmade hby
  obtain ⟨t5, ht5⟩ : ∃ t5 : Nat, t5 = t % 5 := ⟨_, rfl⟩
  have HTI : Hid ((t : Int) % 5 = (t5 : Int)) := Lib.hid (by omega)
  have ht4 : t5 ≤ 4 := by omega
  clear ht5
  obtain ⟨l4, hl4⟩ : ∃ l4 : Nat, l4 = ld % 4 := ⟨_, rfl⟩
  have HLI : Hid ((ld : Int) % 4 = (l4 : Int)) := Lib.hid (by omega)
  have hl3 : l4 ≤ 3 := by omega
  clear hl4
  obtain ⟨wa, hwa⟩ : ∃ wa, wa = w.alloc (.cells #[.int .u8 (t : Int)] 5) := ⟨_, rfl⟩
  have hBa : Below w.heap.size w wa := by rw [hwa]; exact (Below.refl _ _).alloc (Nat.le_refl _) _
  have hba : Boxed wa w.heap.size 5 (.int .u8 (t : Int)) := by rw [hwa]; exact Boxed.new w 5 _
  have HWA := Lib.hid hwa
  clear hwa
  have hcases : (((l.length : Int) == 0) = true ∧ l = []) ∨ (((l.length : Int) == 0) = false ∧ 1 ≤ l.length) := by
    by_cases h0 : l.length = 0
    · exact .inl ⟨beq_iff_eq.2 (by omega), List.eq_nil_of_length_eq_zero h0⟩
    · exact .inr ⟨beq_eq_false_iff_ne.2 (by omega), by omega⟩
  rcases hcases with ⟨h0, hnil⟩ | ⟨h0, hpos⟩
  · have HNIL := Lib.hid hnil
    clear hnil hmo hri
    go_enter Tryd.func8, Tryd.ntmps8
    go_wp2_with fail
    rw [← HWA.out]
    refine (law_awake _ (hT.below hT.pos hBa)).mono ?_
    rintro e w1 ⟨rfl, hb1⟩
    have hB1 := hBa.trans (hb1.mono hBa.size)
    have hx1 := boxed_below hba hb1
    have hlt1 := hx1.lt
    go_wp2_with fail
    refine (HM.out _ hB1).mono ?_
    rintro e w2 ⟨v, rfl, hv, hb2⟩
    have hv3 := OwnB.setOther hv w.heap.size (.int .u8 ((t : Int) % 5)) hlt1
    obtain ⟨ao, co, rfl, -, hzo⟩ := OwnB.byt hv3 (by omega) HBY.out
    have hB2 := hB1.trans (hb2.mono hB1.size)
    have hx2 := boxed_below hx1 hb2
    have hc2 := hx2.cell
    have hf2 := hx2.frozen
    have hB3 : Below w.heap.size w (w2.setCell ⟨w.heap.size, 0, none⟩ (.int .u8 ((t : Int) % 5))) := hB2.setCell (Nat.le_refl _) _
    have hrf : rightB l = false := by rw [HNIL.out]; rfl
    have HRF := Lib.hid hrf
    clear hv hv3 hrf
    go_wp2_with (go_at_call 23; refine (trick_right _ _ _ l _ hzo).mono ?_; rw [HRF.out]; rintro e w' ⟨rfl, rfl⟩)
    go_ret
    exact ⟨rfl, hB3⟩
  have hr := hri hpos hn4
  have HR := Lib.hid hr
  clear hri hr
  go_enter Tryd.func8, Tryd.ntmps8
  go_wp2_with fail
  rw [← HWA.out]
  refine (law_awake _ (hT.below hT.pos hBa)).mono ?_
  rintro e w1 ⟨rfl, hb1⟩
  have hB1 := hBa.trans (hb1.mono hBa.size)
  have hx1 := boxed_below hba hb1
  have hlt1 := hx1.lt
  go_wp2_with fail
  refine (HM.out _ hB1).mono ?_
  rintro e w2 ⟨v, rfl, hv, hb2⟩
  have hv3 := OwnB.setOther hv w.heap.size (.int .u8 ((t : Int) % 5)) hlt1
  obtain ⟨ao, co, rfl, -, hco, hzo⟩ := OwnB.bytc hv3 (by omega) HBY.out
  have hB2 := hB1.trans (hb2.mono hB1.size)
  have hx2 := boxed_below hx1 hb2
  have hc2 := hx2.cell
  have hf2 := hx2.frozen
  have hB3 : Below w.heap.size w (w2.setCell ⟨w.heap.size, 0, none⟩ (.int .u8 ((t : Int) % 5))) := hB2.setCell (Nat.le_refl _) _
  have hx3 : Boxed (w2.setCell ⟨w.heap.size, 0, none⟩ (.int .u8 ((t : Int) % 5))) w.heap.size 5 (.int .u8 ((t : Int) % 5)) := hx2.set _
  clear hv hv3 hba hx1 hb1 hb2 hB1 hB2 HM
  go_wp2_with fail
  rw [HTI.out, HLI.out] at *
  generalize w2.setCell ⟨w.heap.size, 0, none⟩ (.int .u8 (t5 : Int)) = w3 at *
  clear hc2 hf2 hx2
  obtain ⟨b, off, rfl, hb, hcs⟩ := hzo.at (by omega)
  have HCS := Lib.hid hcs
  clear hcs
  have HBox : Hid (∀ wx, Below w3.heap.size w3 wx → wx.cell? ⟨w.heap.size, 0, none⟩ = some (.int .u8 (t5 : Int))) := Lib.hid fun wx hbx => (boxed_below hx3 hbx).cell
  have HCell : Hid (∀ wx, Below w3.heap.size w3 wx → ∀ i, i < l.length → wx.cell? ⟨b, off + i, none⟩ = some (.int .u8 ((l.getD i 0 : Nat) : Int))) := Lib.hid fun wx hbx i hi => (hbx.cell (p := ⟨b, off + i, none⟩) hb).trans (HCS.out i hi)
  have HByt : Hid (∀ wx, Below w3.heap.size w3 wx → ∀ n, n ≤ l.length → Byt wx (some ⟨b, off, none⟩) n (l.take n)) := Lib.hid fun wx hbx n hn => (hzo.below (Nat.le_refl _) hbx).take n hn
  have H52 : Hid (∀ i, i < l.length → l.getD i 0 < 52) := Lib.hid fun i hi => right_lt HR.out hi
  have hposI : (0 : Int) < (l.length : Int) := by omega
  have hpos2 : 0 < l.length := by omega
  clear hx3 hmo
  go_loopg [8, 9] l.length (fun gk won nn wr => ∃ n : Nat, 1 ≤ n ∧ n ≤ l.length + 1 ∧ gk = l.length + 1 - n ∧ nn = .int .i64 (n : Int) ∧ won = .int .i64 ((atV t5 l (n - 1) : Nat) : Int) ∧ Below w3.heap.size w3 wr)
  case atStart => exact ⟨1, by omega, by omega, by omega, rfl, rfl, Below.refl _ _⟩
  case round =>
    obtain ⟨n, hn1, hn, rfl, rfl, rfl, hB⟩ := hrel
    by_cases hlt : n ≤ l.length
    · have hnco : n ≤ co := by omega
      have hA := atV_lt (t := t5) (l := l) hn1
      have hP : atV t5 l (n - 1) < 4 := by
        rcases Nat.eq_zero_or_pos (n - 1) with h | h
        · rw [h]; show 0 < 4; decide
        · have := atV_lt (t := t5) (l := l) (n := n - 1) h; omega
      have hwin := winner_take ht4 HR.out hn1 hlt
      have hseat := seat_take ht4 hl3 HR.out hn1 hlt
      have hrt := takeR HR.out n hn1 hlt
      obtain ⟨hsu, hmax⟩ := win_suit ht4 HR.out hn1 hlt
      have hbeat := fun (h : 1 ≤ n - 1) => beats_take ht4 HR.out h (show n - 1 + 1 ≤ l.length by omega)
      rw [show n - 1 + 1 = n by omega] at hbeat
      have hW := fun wx (hbx : Below w3.heap.size w3 wx) => trick_Winner t5 (some ⟨b, off, none⟩) n co (l.take n) wx (HByt.out wx hbx n hlt)
      have hS := fun wx (hbx : Below w3.heap.size w3 wx) => trick_Seat t5 l4 (some ⟨b, off, none⟩) n co (l.take n) wx (HByt.out wx hbx n hlt)
      have hRt := fun wx (hbx : Below w3.heap.size w3 wx) => trick_right (some ⟨b, off, none⟩) n co (l.take n) wx (HByt.out wx hbx n hlt)
      have hCF := fun wx (hbx : Below w3.heap.size w3 wx) => contains_func t5 w.heap.size (some ⟨b, off, none⟩) n co (l.take n) wx (HByt.out wx hbx n hlt) (HBox.out wx hbx)
      have hBt := fun wx (hbx : Below w3.heap.size w3 wx) => trick_Beats t5 (l.getD (n - 1) 0) (some ⟨b, off, none⟩) (n - 1) co (l.take (n - 1)) wx (HByt.out wx hbx (n - 1) (by omega)) (by have := H52.out (n - 1) (by omega); omega)
      rw [hwin] at hW
      rw [hseat] at hS
      rw [hrt] at hRt
      have HAN : Hid (atV t5 l (n + 1 - 1) = atV t5 l n) := Lib.hid (by rw [Nat.add_sub_cancel])
      have HWS : Hid (winSuit t5 l n = if (l.take n).any (fun c => decide (c / 13 = t5)) then t5 else l.getD 0 0 / 13) := Lib.hid rfl
      generalize winSuit t5 l n = ws at *
      generalize (l.take n).any (fun c => decide (c / 13 = t5)) = anyt at *
      generalize atV t5 l n = A at *
      generalize atV t5 l (n - 1) = P at *
      have HW := Lib.hid hW
      have HS := Lib.hid hS
      have HRt := Lib.hid hRt
      have HCF := Lib.hid hCF
      have HBt := Lib.hid hBt
      have HSU := Lib.hid hsu
      have HMAX := Lib.hid hmax
      have HBEAT := Lib.hid hbeat
      clear hwin hseat hrt hsu hmax hbeat hW hS hRt hCF hBt
      have hA4 : A < 4 := by omega
      have hcb := HBox.out wr hB
      have hr0 := fun dd os => cell_regrown hcb dd os
      go_wp2
      refine wp_region_quiet_below (by kernel_rfl) (by kernel_rfl) ?_
      repeat (go_big_quiet_step ((exact Calls.regrown_of (HW.out _ (hB.trans ((below_regrown _ _ _).mono hB.size))))))
      refine wpQuiet_nil ?_
      rintro _ ⟨p, rfl⟩
      have hb4 := below_regrown wr p.d p.os
      generalize grow (redrawn wr p.d) p.os = w4 at *
      have hB4 := hB.trans (hb4.mono hB.size)
      clear hr0 hcb hb4
      have hcb4 := HBox.out w4 hB4
      have hr0 := fun dd os => cell_regrown hcb4 dd os
      go_wp2
      refine wp_region_quiet_below (by kernel_rfl) (by kernel_rfl) ?_
      repeat (go_big_quiet_step ((exact Calls.regrown_of (HS.out _ (hB4.trans ((below_regrown _ _ _).mono hB4.size))))))
      refine wpQuiet_nil ?_
      rintro _ ⟨p, rfl⟩
      have hb5 := below_regrown w4 p.d p.os
      generalize grow (redrawn w4 p.d) p.os = w5 at *
      have hB5 := hB4.trans (hb5.mono hB4.size)
      clear hr0 hcb4 hb5
      have hcb5 := HBox.out w5 hB5
      have hc0 := HCell.out w5 hB5 0 hpos2
      have hcA := HCell.out w5 hB5 A (by omega)
      rw [Nat.add_zero] at hc0
      have h52A := H52.out A (by omega)
      have h520 := H52.out 0 hpos2
      generalize hd : l.getD A 0 = d at *
      have HD := Lib.hid hd
      clear hd
      generalize l.getD 0 0 = c0 at *
      have HSD : Hid (d / 13 = ws) := HSU
      cases anyt
      · have HX : Hid ((ws : Int) = (c0 : Int) / 13) := Lib.hid (by have := HWS.out; simp only [Bool.false_eq_true, if_false] at this; omega)
        have hdX : ((d : Int) / 13 != (c0 : Int) / 13) = false := by rw [bne_eq_false_iff_eq, ← HX.out]; have := HSD.out; omega
        have hdX2 : ((d : Int) / 13 == (c0 : Int) / 13) = true := by rw [beq_iff_eq, ← HX.out]; have := HSD.out; omega
        go_wp2_with (first | (go_at_call 23; refine (HRt.out _ hB5).mono ?_; rintro e w' ⟨rfl, rfl⟩) | (go_at_call 25; refine (HCF.out _ hB5).mono ?_; rintro e w' ⟨rfl, rfl⟩))
        go_loopg [16, 90] n (fun gi _ s90 wx => w5 = wx ∧ ∃ i : Nat, i ≤ n ∧ gi = n - i ∧ s90 = .int .i64 (i : Int))
        case atStart => exact ⟨rfl, 0, by omega, rfl, rfl⟩
        case round =>
          obtain ⟨rfl, i, hi, rfl, rfl⟩ := hrel
          by_cases hin : i < n
          · have hci := HCell.out w5 hB5 i (by omega)
            have h52i := H52.out i (by omega)
            have hmi := HMAX.out i hin
            have hil : i < l.length := by omega
            generalize l.getD i 0 = ci at *
            by_cases hcs : ci / 13 = ws
            · have hle := hmi hcs
              have hcX : ((ci : Int) / 13 == (c0 : Int) / 13) = true := by rw [beq_iff_eq, ← HX.out]; omega
              have HCS2 := Lib.hid hcs
              clear hcs hmi
              go_wp2_with fail
              go_roundg (n - (i + 1))
              case rel => exact ⟨rfl, i + 1, by omega, rfl, by go_num⟩
              case measure => omega
            · have hcX : ((ci : Int) / 13 == (c0 : Int) / 13) = false := by rw [beq_eq_false_iff_ne, ← HX.out]; omega
              clear hcs hmi
              go_wp2_with fail
              go_roundg (n - (i + 1))
              case rel => exact ⟨rfl, i + 1, by omega, rfl, by go_num⟩
              case measure => omega
          · obtain rfl : i = n := by omega
            by_cases h1n : 1 < i
            · obtain ⟨hbt1, hbt2⟩ := HBEAT.out (by omega)
              have hBtr := HBt.out
              rw [hbt1] at hBtr
              have hcn := HCell.out w5 hB5 (i - 1) (by omega)
              have hn1l : i - 1 < l.length := by omega
              have hn1c : i - 1 ≤ co := by omega
              have hw1 : IntKind.i64.wrap ((i : Int) - 1) = ((i - 1 : Nat) : Int) := by rw [IntWalk.i64_in _ (by omega)]; omega
              have HPA : Hid ((A = i - 1) ∨ (A ≠ i - 1 ∧ A = P)) := Lib.hid (by rcases Nat.decEq A (i - 1) with h | h; exact .inr ⟨h, hbt2 h⟩; exact .inl h)
              have HI1 : Hid (((i - 1 : Nat) : Int) = (i : Int) - 1) := Lib.hid (by omega)
              clear hbt1 hbt2
              generalize l.getD (i - 1) 0 = cn at *
              generalize l.take (i - 1) = lt at *
              generalize i - 1 = i1 at *
              have HBTR := Lib.hid hBtr
              clear hBtr
              have hr0 := fun dd os => cell_regrown hcb5 dd os
              have hr1 := fun dd os => cell_regrown hcn dd os
              go_wp2_with fail
              refine wp_region_quiet_below (by kernel_rfl) (by kernel_rfl) ?_
              repeat (go_big_quiet_step ((exact Calls.regrown_of (HBTR.out _ (hB5.trans ((below_regrown _ _ _).mono hB5.size))))))
              refine wpQuiet_nil ?_
              rintro _ ⟨p, rfl⟩
              have hb6 := below_regrown w5 p.d p.os
              generalize grow (redrawn w5 p.d) p.os = w6 at *
              have hB6 := hB5.trans (hb6.mono hB5.size)
              clear hr0 hr1 hw1 hcn
              rcases HPA.out with h | ⟨h, h'⟩
              · have g1 : decide (A = i1) = true := decide_eq_true h
                have g2 : ((A : Int) == (i : Int) - 1) = true := by rw [beq_iff_eq, ← HI1.out]; omega
                clear h
                go_wp2_with fail
                go_roundg (l.length + 1 - (i + 1))
                case rel => exact ⟨i + 1, by omega, by omega, rfl, by go_num, by rw [HAN.out], hB6⟩
                case measure => omega
              · have g1 : decide (A = i1) = false := decide_eq_false h
                have g2 : ((A : Int) == (i : Int) - 1) = false := by rw [beq_eq_false_iff_ne, ← HI1.out]; omega
                have g3 : ((A : Int) != (P : Int)) = false := by rw [bne_eq_false_iff_eq]; omega
                clear h h'
                go_wp2_with fail
                go_roundg (l.length + 1 - (i + 1))
                case rel => exact ⟨i + 1, by omega, by omega, rfl, by go_num, by rw [HAN.out], hB6⟩
                case measure => omega
            · go_wp2_with fail
              go_roundg (l.length + 1 - (i + 1))
              case rel => exact ⟨i + 1, by omega, by omega, rfl, by go_num, by rw [HAN.out], hB5⟩
              case measure => omega
      · have HX : Hid ((ws : Int) = (t5 : Int)) := Lib.hid (by have := HWS.out; simp only [if_true] at this; omega)
        have hdX : ((d : Int) / 13 != (t5 : Int)) = false := by rw [bne_eq_false_iff_eq, ← HX.out]; have := HSD.out; omega
        have hdX2 : ((d : Int) / 13 == (t5 : Int)) = true := by rw [beq_iff_eq, ← HX.out]; have := HSD.out; omega
        go_wp2_with (first | (go_at_call 23; refine (HRt.out _ hB5).mono ?_; rintro e w' ⟨rfl, rfl⟩) | (go_at_call 25; refine (HCF.out _ hB5).mono ?_; rintro e w' ⟨rfl, rfl⟩))
        go_loopg [16, 90] n (fun gi _ s90 wx => w5 = wx ∧ ∃ i : Nat, i ≤ n ∧ gi = n - i ∧ s90 = .int .i64 (i : Int))
        case atStart => exact ⟨rfl, 0, by omega, rfl, rfl⟩
        case round =>
          obtain ⟨rfl, i, hi, rfl, rfl⟩ := hrel
          by_cases hin : i < n
          · have hci := HCell.out w5 hB5 i (by omega)
            have h52i := H52.out i (by omega)
            have hmi := HMAX.out i hin
            have hil : i < l.length := by omega
            generalize l.getD i 0 = ci at *
            by_cases hcs : ci / 13 = ws
            · have hle := hmi hcs
              have hcX : ((ci : Int) / 13 == (t5 : Int)) = true := by rw [beq_iff_eq, ← HX.out]; omega
              have HCS2 := Lib.hid hcs
              clear hcs hmi
              go_wp2_with fail
              go_roundg (n - (i + 1))
              case rel => exact ⟨rfl, i + 1, by omega, rfl, by go_num⟩
              case measure => omega
            · have hcX : ((ci : Int) / 13 == (t5 : Int)) = false := by rw [beq_eq_false_iff_ne, ← HX.out]; omega
              clear hcs hmi
              go_wp2_with fail
              go_roundg (n - (i + 1))
              case rel => exact ⟨rfl, i + 1, by omega, rfl, by go_num⟩
              case measure => omega
          · obtain rfl : i = n := by omega
            by_cases h1n : 1 < i
            · obtain ⟨hbt1, hbt2⟩ := HBEAT.out (by omega)
              have hBtr := HBt.out
              rw [hbt1] at hBtr
              have hcn := HCell.out w5 hB5 (i - 1) (by omega)
              have hn1l : i - 1 < l.length := by omega
              have hn1c : i - 1 ≤ co := by omega
              have hw1 : IntKind.i64.wrap ((i : Int) - 1) = ((i - 1 : Nat) : Int) := by rw [IntWalk.i64_in _ (by omega)]; omega
              have HPA : Hid ((A = i - 1) ∨ (A ≠ i - 1 ∧ A = P)) := Lib.hid (by rcases Nat.decEq A (i - 1) with h | h; exact .inr ⟨h, hbt2 h⟩; exact .inl h)
              have HI1 : Hid (((i - 1 : Nat) : Int) = (i : Int) - 1) := Lib.hid (by omega)
              clear hbt1 hbt2
              generalize l.getD (i - 1) 0 = cn at *
              generalize l.take (i - 1) = lt at *
              generalize i - 1 = i1 at *
              have HBTR := Lib.hid hBtr
              clear hBtr
              have hr0 := fun dd os => cell_regrown hcb5 dd os
              have hr1 := fun dd os => cell_regrown hcn dd os
              go_wp2_with fail
              refine wp_region_quiet_below (by kernel_rfl) (by kernel_rfl) ?_
              repeat (go_big_quiet_step ((exact Calls.regrown_of (HBTR.out _ (hB5.trans ((below_regrown _ _ _).mono hB5.size))))))
              refine wpQuiet_nil ?_
              rintro _ ⟨p, rfl⟩
              have hb6 := below_regrown w5 p.d p.os
              generalize grow (redrawn w5 p.d) p.os = w6 at *
              have hB6 := hB5.trans (hb6.mono hB5.size)
              clear hr0 hr1 hw1 hcn
              rcases HPA.out with h | ⟨h, h'⟩
              · have g1 : decide (A = i1) = true := decide_eq_true h
                have g2 : ((A : Int) == (i : Int) - 1) = true := by rw [beq_iff_eq, ← HI1.out]; omega
                clear h
                go_wp2_with fail
                go_roundg (l.length + 1 - (i + 1))
                case rel => exact ⟨i + 1, by omega, by omega, rfl, by go_num, by rw [HAN.out], hB6⟩
                case measure => omega
              · have g1 : decide (A = i1) = false := decide_eq_false h
                have g2 : ((A : Int) == (i : Int) - 1) = false := by rw [beq_eq_false_iff_ne, ← HI1.out]; omega
                have g3 : ((A : Int) != (P : Int)) = false := by rw [bne_eq_false_iff_eq]; omega
                clear h h'
                go_wp2_with fail
                go_roundg (l.length + 1 - (i + 1))
                case rel => exact ⟨i + 1, by omega, by omega, rfl, by go_num, by rw [HAN.out], hB6⟩
                case measure => omega
            · go_wp2_with fail
              go_roundg (l.length + 1 - (i + 1))
              case rel => exact ⟨i + 1, by omega, by omega, rfl, by go_num, by rw [HAN.out], hB5⟩
              case measure => omega
    · have hnn : n = l.length + 1 := by omega
      have hdd : decide (n ≤ l.length) = false := by simp; omega
      clear hnn
      go_wp2_with fail
      go_ret
      exact ⟨rfl, hB3.trans (hB.mono hB3.size)⟩
end Go.Proofs.YthilcnhnfdddhaaDoor
