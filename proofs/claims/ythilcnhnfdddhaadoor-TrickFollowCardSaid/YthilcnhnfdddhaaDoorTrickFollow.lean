/- finesselaw11.TrickFollow returns true for every input. -/
import Derived.Test.YthilcnhnfdddhaaDoorFollow
namespace Go.Proofs.YthilcnhnfdddhaaDoor
open Go.RowKit Go.Shelf Go.Sort

set_option maxRecDepth 100000 in
theorem law_TrickFollow (a : Option Addr) (len cap : Nat) (zs : List Nat) (hand : Nat) (w : World) (hz : Byt w a len zs ∧ (a = none → cap = 0) ∧ len ≤ cap) (hh : W64 hand) (hT : Tab w) :
    Calls Tryd.prog 10 #[.slice a len cap, .int .u64 (hand : Int)] w fun e w' => e = .returned (.bool true) ∧ Below w.heap.size w w' := by
  obtain ⟨hz, -, hcap⟩ := hz
  have hmade := fun w1 (hb : Below w.heap.size w w1) => law_Made a len cap 3 zs w1 (hz.below (Nat.le_refl _) hb) hcap (by decide)
  have hn3 : min len 3 ≤ 3 := by omega
  generalize min len 3 = n at *
  have hml := madeTo_length zs n
  have hmo := madeTo_ok zs n (by omega)
  have hby := made_byte hmo.1
  have hri := made_right zs n
  generalize madeTo zs n = l at *
  have HM := Lib.hid hmade
  have HBY := Lib.hid hby
  clear hmade hby
  by_cases h0 : n = 0
  · subst h0
    obtain rfl : l = [] := List.eq_nil_of_length_eq_zero hml
    clear hml hmo hri
    have HPL : Hid (playableV (lo52 hand) [] = (lo52 hand, 0)) := Lib.hid (by
      unfold playableV; rw [if_neg (Nat.not_le_of_lt (lo52_lt hand)), if_pos List.length_nil])
    go_enter Tryd.func10, Tryd.ntmps10
    go_wp2_with (go_at_call 12; refine (law_awake _ hT).mono ?_; rintro e w1 ⟨rfl, hb1⟩)
    refine (HM.out _ hb1).mono ?_
    rintro e w2 ⟨v, rfl, hv, hb2⟩
    obtain ⟨ao, co, rfl, -, hzo⟩ := OwnB.byt hv (by simp) HBY.out
    have hB2 := hb1.trans (hb2.mono hb1.size)
    have hT2 := hT.below hT.pos hB2
    go_wp2_with (go_at_call 17; refine (trick_Playable (lo52 hand) _ _ _ [] _ hzo (lo52_w64 hand) hT2).mono ?_; rw [HPL.out]; rintro e w3 ⟨rfl, hb3⟩)
    go_ret
    exact ⟨rfl, hB2.trans (hb3.mono hB2.size)⟩
  have hr := hri (by omega) (by omega)
  clear hri
  have hl3 : l.length ≤ 3 := by omega
  have hl1 : 1 ≤ l.length := by omega
  have hpos : 0 < l.length := by omega
  have hposI : (0 : Int) < (l.length : Int) := by omega
  have h0' : ((l.length : Int) == 0) = false := beq_eq_false_iff_ne.2 (by omega)
  have hc52 := right_lt hr hpos
  have hHlt := lo52_lt hand
  have hPL : playableV (lo52 hand) l = (playLate (suit (l.getD 0 0)) (restV (lo52 hand) l), 0) := by
    unfold playableV
    rw [if_neg (Nat.not_le_of_lt hHlt), if_neg (by omega), if_pos hr, if_neg (by omega)]
  have hown := own_eq (lo52 hand) l hr
  have hrl := rest_lt (lo52 hand) l hHlt
  have hfb := fun i => follow_bit (suit (l.getD 0 0)) (restV (lo52 hand) l) i (w64_of_52 hrl)
  have hfl := follow_lt (suit (l.getD 0 0)) (restV (lo52 hand) l) hrl
  have hpv : playLate (suit (l.getD 0 0)) (restV (lo52 hand) l) = if follow (suit (l.getD 0 0)) (bitsList (restV (lo52 hand) l)) ≠ 0 then follow (suit (l.getD 0 0)) (bitsList (restV (lo52 hand) l)) else restV (lo52 hand) l := rfl
  have hsd := suit_div hc52
  have hmw := maskOf_w64 l
  generalize playLate (suit (l.getD 0 0)) (restV (lo52 hand) l) = pv at *
  generalize follow (suit (l.getD 0 0)) (bitsList (restV (lo52 hand) l)) = F at *
  generalize restV (lo52 hand) l = O at *
  generalize suit (l.getD 0 0) = s at *
  have hs3 : s ≤ 3 := by omega
  have hFO : ∀ i, F.testBit i = true → O.testBit i = true := fun i hi => by rw [hfb i, Bool.and_eq_true] at hi; exact hi.1
  have hFs : ∀ i, F.testBit i = true → i < 52 ∧ i / 13 = s := fun i hi => by
    have h52 := bit_lt hfl hi
    rw [hfb i, Bool.and_eq_true, decide_eq_true_eq, suit_div h52] at hi
    exact ⟨h52, hi.2⟩
  have HSM := Lib.hid (suit_mask F s hs3 hFs)
  have HLS := Lib.hid (landn_sub hFO)
  have HCF := Lib.hid (cnt_52 hfl)
  have HCO := Lib.hid (cnt_52 hrl)
  have HO52 := Lib.hid hrl
  have hF64 := w64_of_52 hfl
  have hO64 := w64_of_52 hrl
  have HPOS : Hid (F ≠ 0 → 0 < pop F) := Lib.hid fun h => pop_pos h hF64
  have HFB := Lib.hid hfb
  have HPV := Lib.hid hpv
  have HPL := Lib.hid hPL
  have HOWN := Lib.hid hown
  have HSD := Lib.hid hsd
  have HLen := Lib.hid hml
  clear hfb hpv hPL hown hsd hml hmo hrl hfl hFO hFs hHlt
  generalize hc0 : l.getD 0 0 = c0 at *
  have HC0 := Lib.hid hc0
  clear hc0
  go_enter Tryd.func10, Tryd.ntmps10
  go_wp2_with (go_at_call 12; refine (law_awake _ hT).mono ?_; rintro e w1 ⟨rfl, hb1⟩)
  refine (HM.out _ hb1).mono ?_
  rintro e w2 ⟨v, rfl, hv, hb2⟩
  obtain ⟨ao, co, rfl, -, hzo⟩ := OwnB.byt hv (by omega) HBY.out
  have hB2 := hb1.trans (hb2.mono hb1.size)
  have hT2 := hT.below hT.pos hB2
  clear hv
  go_wp2_with (go_at_call 17; refine (trick_Playable (lo52 hand) _ _ _ l _ hzo (lo52_w64 hand) hT2).mono ?_; rw [HPL.out]; rintro e w3 ⟨rfl, hb3⟩; have hzo3 := hzo.below (Nat.le_refl _) hb3; have hB3 := hB2.trans (hb3.mono hB2.size))
  go_wp2_with (go_at_call 19; refine (law_mask _ _ _ l _ hzo3).mono ?_; rintro e w' ⟨rfl, rfl⟩)
  rw [HOWN.out]
  obtain ⟨b, off, rfl, hb, hcs⟩ := hzo3.at hpos
  have hcell : w3.cell? ⟨b, off, none⟩ = some (.int .u8 (c0 : Int)) := by have := hcs 0 hpos; rw [HC0.out] at this; simpa using this
  clear hcs
  have HD : Hid (landn O F < 2 ^ 52) := Lib.hid (sub_lt (m := O) (by exact HO52.out) (fun i hi => by rw [testBit_landn, Bool.and_eq_true] at hi; exact hi.1))
  go_loop [9, 10, 11, 36] (fun su re _ i => ∃ k : Nat, k ≤ 52 ∧ i = .int .u8 (k : Int) ∧ su = .int .i64 ((cnt F k : Nat) : Int) ∧ re = .int .i64 ((cnt (landn O F) k : Nat) : Int)) (fun _ _ _ i => 52 - (intOf i).toNat)
  case atStart => exact ⟨0, by omega, rfl, rfl, rfl⟩
  case round =>
    obtain ⟨k, hk, rfl, rfl, rfl⟩ := hrel
    by_cases hlt : k < 52
    · have hle1 := cnt_le F k
      have hle2 := cnt_le (landn O F) k
      have HS1 : Hid (cnt F (k + 1) = cnt F k + (F.testBit k).toNat) := Lib.hid rfl
      have HS2 : Hid (cnt (landn O F) (k + 1) = cnt (landn O F) k + (O.testBit k && !F.testBit k).toNat) := Lib.hid (by rw [cnt, testBit_landn])
      have HFk := Lib.hid (HFB.out k)
      generalize cnt F k = x at *
      generalize cnt (landn O F) k = y at *
      cases hbit : O.testBit k
      · go_wp2
        go_round
        case rel => exact ⟨k + 1, by omega, by go_num, by rw [HS1.out, HFk.out, hbit]; simp, by rw [HS2.out, hbit]; simp⟩
        case measure => simp [intOf]; omega
      · by_cases hsu : k / 13 = c0 / 13
        · have hsu' : ((k : Int) / 13 == (c0 : Int) / 13) = true := by simp; omega
          have e2 : F.testBit k = true := by rw [HFk.out, hbit, suit_div hlt, HSD.out]; simp [hsu]
          have HE2 := Lib.hid e2
          clear e2 hsu
          go_wp2
          go_round
          case rel => exact ⟨k + 1, by omega, by go_num, by rw [HS1.out, HE2.out]; go_num, by rw [HS2.out, HE2.out]; simp⟩
          case measure => simp [intOf]; omega
        · have hsu' : ((k : Int) / 13 == (c0 : Int) / 13) = false := by simp; omega
          have e2 : F.testBit k = false := by rw [HFk.out, hbit, suit_div hlt, HSD.out]; simp [hsu]
          have HE2 := Lib.hid e2
          clear e2 hsu
          go_wp2
          go_round
          case rel => exact ⟨k + 1, by omega, by go_num, by rw [HS1.out, HE2.out]; simp, by rw [HS2.out, HE2.out, hbit]; go_num⟩
          case measure => simp [intOf]; omega
    · have hk' : k = 52 := by omega
      subst hk'
      rw [HCF.out]
      by_cases hF0 : F = 0
      · have hp0 : pop F = 0 := by rw [hF0]; exact pop_zero
        have hpv : pv = O := by rw [HPV.out, if_neg (by simp [hF0])]
        have hO : cnt (landn O F) 52 = pop O := by rw [hF0, landn_zero, HCO.out]
        rw [hp0, hpv, hO]
        have hpO : pop O ≤ 64 := cnt_le O 64
        clear hp0 hpv hO hF0
        go_wp2_with (go_at_call 29; refine (bits_ones O hO64 _).mono ?_; rintro e w' ⟨rfl, rfl⟩)
        go_ret
        exact ⟨rfl, hB3⟩
      · have hp0 := HPOS.out hF0
        have hpF : pop F ≤ 64 := cnt_le F 64
        have hpv : pv = F := by rw [HPV.out, if_pos hF0]
        rw [hpv]
        have hps := HSM.out
        have hs13 : 13 * s = 13 * (c0 / 13) := by rw [HSD.out]
        have hq1 : IntKind.u8.wrap ((c0 : Int) / 13) = (c0 : Int) / 13 := IntWalk.u8_in _ (by omega)
        have hq2 : IntKind.u8.wrap (13 * ((c0 : Int) / 13)) = ((13 * s : Nat) : Int) := by rw [IntWalk.u8_in _ (by omega)]; omega
        generalize 13 * s = s13 at *
        clear hs13 hpv hF0
        have hls := HLS.out
        have hr0 := fun dd os => cell_regrown hcell dd os
        go_wp2
        refine wp_region_quiet_below (by kernel_rfl) (by kernel_rfl) ?_
        repeat (go_big_quiet_step ((exact Calls.regrown_of ((bits_ones F hF64 _).mono fun _ _ ⟨he, hw⟩ => ⟨he, hw ▸ Below.refl _ _⟩))))
        refine wpQuiet_nil ?_
        rintro _ ⟨p, rfl⟩
        have hb4 := below_regrown w3 p.d p.os
        generalize grow (redrawn w3 p.d) p.os = w4 at *
        go_wp2
        go_ret
        exact ⟨rfl, hB3.trans (hb4.mono hB3.size)⟩
end Go.Proofs.YthilcnhnfdddhaaDoor
