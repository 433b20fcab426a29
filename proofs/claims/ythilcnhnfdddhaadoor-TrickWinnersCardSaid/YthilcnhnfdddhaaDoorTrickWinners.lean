/- finesselaw11.TrickWinners returns true for every input. -/
import Derived.Test.YthilcnhnfdddhaaDoorWinPlain
import Derived.Test.YthilcnhnfdddhaaDoorClone
namespace Go.Proofs.YthilcnhnfdddhaaDoor
open Go.RowKit Go.Shelf Go.Sort

theorem byte_append2 {l : List Nat} (h : ∀ i, l.getD i 0 < 256) {c : Nat} (hc : c < 256) (i : Nat) : (l ++ [c]).getD i 0 < 256 := by
  rw [List.getD_eq_getElem?_getD, List.getElem?_append]
  split
  · have := h i; rwa [List.getD_eq_getElem?_getD] at this
  · rcases h1 : i - l.length with _ | _ <;> simp; omega
set_option maxHeartbeats 2000000 in
set_option maxRecDepth 100000 in
theorem law_TrickWinners (a : Option Addr) (len cap : Nat) (zs : List Nat) (hand t : Nat) (w : World) (hz : Byt w a len zs ∧ (a = none → cap = 0) ∧ len ≤ cap) (hh : W64 hand) (_ht : t < 256) (hT : Tab w) :
    Calls Tryd.prog 7 #[.slice a len cap, .int .u64 (hand : Int), .int .u8 (t : Int)] w fun e w' => e = .returned (.bool true) ∧ Below w.heap.size w w' := by
  obtain ⟨hz, -, hcap⟩ := hz
  have hmade := fun w1 (hb : Below w.heap.size w w1) => law_Made a len cap 3 zs w1 (hz.below (Nat.le_refl _) hb) hcap (by decide)
  have hn3 : min len 3 ≤ 3 := by omega
  generalize min len 3 = n at *
  have hml := madeTo_length zs n
  have hmo := (madeTo_ok zs n (by omega)).1
  have hby := made_byte hmo
  have hri := made_right zs n
  generalize madeTo zs n = l at *
  subst hml
  have HM := Lib.hid hmade
  have HBY := Lib.hid hby
  clear hmade hby
  obtain ⟨t5, ht5⟩ : ∃ t5 : Nat, t5 = t % 5 := ⟨_, rfl⟩
  have HTI : Hid ((t : Int) % 5 = (t5 : Int)) := Lib.hid (by omega)
  have ht4 : t5 ≤ 4 := by omega
  clear ht5
  obtain ⟨hpe, hwe, hok⟩ := win_ok t5 (lo52 hand) l ht4 (lo52_lt hand) hn3 (fun h => hri (by omega) (by omega))
  clear hri hmo
  have hP := fun a' cap' w' (hz' : Byt w' a' l.length l) (hT' : Tab w') => trick_Playable (lo52 hand) a' l.length cap' l w' hz' (lo52_w64 hand) hT'
  have hW := fun a' cap' w' (hz' : Byt w' a' l.length l) (hT' : Tab w') => trick_Winners t5 (lo52 hand) a' l.length cap' l w' hz' (lo52_w64 hand) hT'
  have hC := fun a' cap' w' (hz' : Byt w' a' l.length l) (hT' : Tab w') => trick_Cover t5 (lo52 hand) a' l.length cap' l w' hz' (lo52_w64 hand) hT'
  rw [hpe] at hP
  rw [hwe] at hW
  have hcan64 := playableV_w64 (lo52 hand) l (lo52_w64 hand)
  have hwin64 := winnersV_w64 t5 (lo52 hand) l (lo52_w64 hand)
  generalize (playableV (lo52 hand) l).1 = can at *
  generalize (winnersV t5 (lo52 hand) l).1 = wins at *
  generalize coverV t5 (lo52 hand) l = cv at *
  obtain ⟨least, is⟩ := cv
  dsimp only at *
  have HP := Lib.hid hP
  have HW := Lib.hid hW
  have HC := Lib.hid hC
  have HOK := Lib.hid hok
  have hsub := landn_sub hok.sub
  have hlst : least < 256 := by
    cases his : is
    · rw [hok.none his]; decide
    · have := bit_lt hok.can52 (hok.sub _ (hok.bit his)); omega
  have hisb : (((wins : Int)) != 0) = is := by
    rw [hok.isw]
    by_cases h0 : wins = 0
    · simp [h0]
    · simp [h0]
  clear hP hW hC hpe hwe
  have HSUB := Lib.hid hsub
  have HISB := Lib.hid hisb
  clear hsub hisb
  have hbitI : is = true → wins.testBit least = true := hok.bit
  have hnoI : is = false → least = 0 := hok.none
  clear hok
  go_enter Tryd.func7, Tryd.ntmps7
  go_wp2_with fail
  refine (law_awake _ hT).mono ?_
  rintro e w1 ⟨rfl, hb1⟩
  go_wp2_with fail
  refine (HM.out _ hb1).mono ?_
  rintro e w2 ⟨v, rfl, hv, hb2⟩
  obtain ⟨ao, co, rfl, hno, hzo⟩ := OwnB.byt hv (by omega) HBY.out
  have hB2 := hb1.trans (hb2.mono hb1.size)
  have hT2 := hT.below hT.pos hB2
  have HNO := Lib.hid hno
  clear hv hno
  go_wp2_with fail
  rw [HTI.out]
  refine (HP.out _ _ _ hzo hT2).mono ?_
  rintro e w3 ⟨rfl, hb3⟩
  have hzo3 := hzo.below (Nat.le_refl _) hb3
  have hT3 := hT2.below hT2.pos hb3
  have hB3 := hB2.trans (hb3.mono hB2.size)
  clear hzo hT2
  go_wp2_with fail
  refine (HW.out _ _ _ hzo3 hT3).mono ?_
  rintro e w4 ⟨rfl, hb4⟩
  have hzo4 := hzo3.below (Nat.le_refl _) hb4
  have hT4 := hT3.below hT3.pos hb4
  have hB4 := hB3.trans (hb4.mono hB3.size)
  clear hzo3 hT3
  go_wp2_with fail
  refine (HC.out _ _ _ hzo4 hT4).mono ?_
  rintro e w5 ⟨rfl, hb5⟩
  have hzo5 := hzo4.below (Nat.le_refl _) hb5
  have hB5 := hB4.trans (hb5.mono hB4.size)
  clear hzo4 hT4 HP HW HC
  have hsub := HSUB.out
  have hisb := HISB.out
  have hstart : Hid (Below w.heap.size w w5 ∧ Byt w5 ao l.length l) := Lib.hid ⟨hB5, hzo5⟩
  have HCAN : Hid (∀ c, can.testBit c = true → c < 52) := Lib.hid fun c hc => bit_lt HOK.out.can52 hc
  clear hb1 hb2 hb3 hb4 hb5 hB2 hB3 hB4 HM
  cases is
  all_goals
    have hl0 : (((least : Int)) != 0) = false ∨ wins.testBit least = true := by
      first
        | exact .inr (hbitI rfl)
        | exact .inl (by rw [hnoI rfl]; rfl)
    have hl1 : ∀ h : Bool, h = true → h = true := fun _ h => h
    clear hl1
    first
      | (have hl2 : wins.testBit least = true := hbitI rfl)
      | (have hl2 : (((least : Int)) != 0) = false := by rw [hnoI rfl]; rfl)
    clear hl0 hbitI hnoI
    go_wp2_with fail
    clear hl2 hisb hsub
    go_loopg [14, 15, 16, 79] 52 (fun gk _ _ _ i wr => ∃ k : Nat, k ≤ 52 ∧ gk = 52 - k ∧ i = .int .u8 (k : Int) ∧ Below w.heap.size w wr ∧ Byt wr ao l.length l)
    case atStart => exact ⟨0, by omega, rfl, rfl, hstart.out.1, hstart.out.2⟩
    case round =>
      obtain ⟨k, hk, rfl, rfl, hB, hzr⟩ := hrel
      by_cases hlt : k < 52
      · cases hbit : can.testBit k
        · go_wp2_with fail
          go_roundg (52 - (k + 1))
          case rel => exact ⟨k + 1, by omega, rfl, by go_num, hB, hzr⟩
          case measure => omega
        · obtain ⟨hx1, hx2⟩ := HOK.out.exact_ k hbit
          have hby2 : ∀ i, (l ++ [k]).getD i 0 < 256 := byte_append2 HBY.out (by omega)
          have hWn := fun a' cap' w' (hz' : Byt w' a' (l.length + 1) (l ++ [k])) => trick_Winner t5 a' (l.length + 1) cap' (l ++ [k]) w' hz'
          rw [hx1] at hWn
          have hx3 : ((((winnerV t5 (l ++ [k])).1 : Nat) : Int) == (l.length : Int)) = wins.testBit k := by
            rw [Bool.eq_iff_iff, ← hx2, beq_iff_eq]; omega
          generalize (winnerV t5 (l ++ [k])).1 = x at *
          have HWN := Lib.hid hWn
          have HBY2 := Lib.hid hby2
          have hlow := HOK.out.low k
          have hled := HOK.out.led k
          clear hx1 hx2 hWn hby2
          cases hwb : wins.testBit k
          · rw [hwb] at hx3
            clear hlow hled
            go_wp2_with (first
              | (go_at_call 22; refine (slices_clone _ _ _ l _ hzr HNO.out).mono ?_; rintro e w6 ⟨v6, rfl, hv6, hb6⟩; have hs6 : wr.heap.size ≤ w6.heap.size := hb6.size)
              | (at_builtin; refine app_any rfl (.tmp 90) (.tmp 92) rfl wr.heap.size _ l [k] rfl (OwnB.alloc hv6 _) _ _ _ rfl (byt_one w6 k (by omega)) (fun h => by cases h) (by omega) (by simp only [World.size_alloc]; omega) ?_; intro v7 w7 hv7 hb7 _; obtain ⟨a7, c7, rfl, -, hz7⟩ := hv7.byt (by simp; omega) HBY2.out; have hz7' : Byt w7 a7 (l.length + 1) (l ++ [k]) := by simpa using hz7)
              | (go_at_call 16; refine (HWN.out _ _ _ hz7').mono ?_; rintro e w8 ⟨rfl, hb8⟩))
            have hB8 : Below wr.heap.size wr w8 := (hb6.alloc hs6 _).trans (hb7.trans (hb8.mono (by have := hb7.size; simp only [World.size_alloc] at this; omega)))
            go_roundg (52 - (k + 1))
            case rel => exact ⟨k + 1, by omega, rfl, by go_num, hB.trans (hB8.mono hB.size), hzr.below (Nat.le_refl _) hB8⟩
            case measure => omega
          · rw [hwb] at hx3
            have hlow' := hlow hwb
            have hled' := hled hwb
            clear hlow hled
            have H1 : Hid ((k / 13 = least / 13 ∨ l.length = 0) → least ≤ k) := Lib.hid hlow'
            have H2 : Hid (0 < l.length → k / 13 ≠ t5 → least / 13 ≠ t5) := Lib.hid hled'
            clear hlow' hled'
            have hcase : ((((l.length : Int) == 0) = true ∧ decide (0 < l.length) = false) ∧ least ≤ k ∧ (((k : Int) / 13 == (least : Int) / 13) = true ∨ ((k : Int) / 13 == (least : Int) / 13) = false)) ∨
                ((((l.length : Int) == 0) = false ∧ decide (0 < l.length) = true) ∧ ((((k : Int) / 13 == (least : Int) / 13) = true ∧ least ≤ k) ∨ ((k : Int) / 13 == (least : Int) / 13) = false) ∧ (((k : Int) / 13 != (t5 : Int)) = false ∨ (((k : Int) / 13 != (t5 : Int)) = true ∧ ((least : Int) / 13 == (t5 : Int)) = false))) := by
              by_cases h0 : l.length = 0
              · exact .inl ⟨⟨beq_iff_eq.2 (by omega), decide_eq_false (by omega)⟩, H1.out (.inr h0), by cases ((k : Int) / 13 == (least : Int) / 13) <;> simp⟩
              · refine .inr ⟨⟨beq_eq_false_iff_ne.2 (by omega), decide_eq_true (by omega)⟩, ?_, ?_⟩
                · by_cases hs : k / 13 = least / 13
                  · exact .inl ⟨beq_iff_eq.2 (by omega), H1.out (.inl hs)⟩
                  · exact .inr (beq_eq_false_iff_ne.2 (by omega))
                · by_cases hs : k / 13 = t5
                  · exact .inl (bne_eq_false_iff_eq.2 (by omega))
                  · exact .inr ⟨bne_iff_ne.2 (by omega), beq_eq_false_iff_ne.2 (by have := H2.out (by omega) hs; omega)⟩
            rcases hcase with ⟨⟨g1, g2⟩, g3, g4 | g4⟩ | ⟨⟨g1, g2⟩, ⟨g3, g4⟩ | g3, g5 | ⟨g5, g6⟩⟩
            all_goals
              go_wp2_with (first
                | (go_at_call 22; refine (slices_clone _ _ _ l _ hzr HNO.out).mono ?_; rintro e w6 ⟨v6, rfl, hv6, hb6⟩; have hs6 : wr.heap.size ≤ w6.heap.size := hb6.size)
                | (at_builtin; refine app_any rfl (.tmp 90) (.tmp 92) rfl wr.heap.size _ l [k] rfl (OwnB.alloc hv6 _) _ _ _ rfl (byt_one w6 k (by omega)) (fun h => by cases h) (by omega) (by simp only [World.size_alloc]; omega) ?_; intro v7 w7 hv7 hb7 _; obtain ⟨a7, c7, rfl, -, hz7⟩ := hv7.byt (by simp; omega) HBY2.out; have hz7' : Byt w7 a7 (l.length + 1) (l ++ [k]) := by simpa using hz7)
                | (go_at_call 16; refine (HWN.out _ _ _ hz7').mono ?_; rintro e w8 ⟨rfl, hb8⟩))
              have hB8 : Below wr.heap.size wr w8 := (hb6.alloc hs6 _).trans (hb7.trans (hb8.mono (by have := hb7.size; simp only [World.size_alloc] at this; omega)))
              go_roundg (52 - (k + 1))
              case rel => exact ⟨k + 1, by omega, rfl, by go_num, hB.trans (hB8.mono hB.size), hzr.below (Nat.le_refl _) hB8⟩
              case measure => omega
      · obtain rfl : k = 52 := by omega
        go_wp2_with fail
        go_ret
        exact ⟨rfl, hB⟩
end Go.Proofs.YthilcnhnfdddhaaDoor
