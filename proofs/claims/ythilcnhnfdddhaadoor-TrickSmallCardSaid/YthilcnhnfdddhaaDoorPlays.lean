/- Contracts of finesselaw11.plays and tells over this seat's program: they return true for every list of at most 60. -/
import Derived.Test.YthilcnhnfdddhaaDoorKit
import Derived.Test.YthilcnhnfdddhaaDoorRefF
namespace Go.Proofs.YthilcnhnfdddhaaDoor
open Go.RowKit Go.Shelf Go.Sort

theorem byt_own {w : World} {g len : Nat} {zs : List Nat} (h : Byt w (some ⟨g, 0, none⟩) (len + 12) (zs ++ marks)) (hl : zs.length = len) : Byt w (some ⟨g, 0, none⟩) len zs := by
  have := h.take len (by omega)
  rwa [List.take_append_of_le_length (by omega), List.take_of_length_le (by omega)] at this

set_option maxRecDepth 100000 in
theorem law_plays (t hand : Nat) (a : Option Addr) (len cap : Nat) (zs : List Nat) (w : World) (hh : W64 hand) (hz : Byt w a len zs) (hn : a = none → cap = 0) (h60 : len ≤ 60) (hT : Tab w) :
    Calls Tryd.prog 11 #[.int .u8 (t : Int), .int .u64 (hand : Int), .slice a len cap] w fun e w' => e = .returned (.bool true) ∧ Below w.heap.size w w' := by
  have HL := Lib.hid hz.length
  have HN := Lib.hid hn
  clear hn
  go_enter Tryd.func11, Tryd.ntmps11
  go_wp2_with fail
  refine (kit_lent a len cap zs w hz HN.out h60).mono ?_
  rintro e w1 ⟨rfl, hown1, hB1⟩
  have hz1 := hz.below (Nat.le_refl _) hB1
  have hT1 := hT.below hT.pos hB1
  go_wp2_with fail
  refine (trick_Playable hand _ _ _ zs _ (byt_own hown1 HL.out) hh hT1).mono ?_
  rintro e w2 ⟨rfl, hb2⟩
  have hown2 := hown1.below (Nat.le_refl _) hb2
  have hz2 := hz1.below (Nat.le_refl _) hb2
  have hT2 := hT1.below hT1.pos hb2
  have hB2 := hB1.trans (hb2.mono hB1.size)
  clear hown1 hz1 hT1 hb2
  go_wp2_with fail
  refine (ref_Playable hand _ _ _ zs _ hz2 hh).mono ?_
  rintro e w3 ⟨rfl, hb3⟩
  have hown3 := hown2.below (Nat.le_refl _) hb3
  have hz3 := hz2.below (Nat.le_refl _) hb3
  have hT3 := hT2.below hT2.pos hb3
  have hB3 := hB2.trans (hb3.mono hB2.size)
  clear hown2 hz2 hT2 hb3
  go_wp2_with fail
  refine (trick_Winners t hand _ _ _ zs _ (byt_own hown3 HL.out) hh hT3).mono ?_
  rintro e w4 ⟨rfl, hb4⟩
  have hown4 := hown3.below (Nat.le_refl _) hb4
  have hz4 := hz3.below (Nat.le_refl _) hb4
  have hT4 := hT3.below hT3.pos hb4
  have hB4 := hB3.trans (hb4.mono hB3.size)
  clear hown3 hz3 hT3 hb4
  go_wp2_with fail
  refine (ref_Winners t hand _ _ _ zs _ hz4 hh).mono ?_
  rintro e w5 ⟨rfl, hb5⟩
  have hown5 := hown4.below (Nat.le_refl _) hb5
  have hz5 := hz4.below (Nat.le_refl _) hb5
  have hT5 := hT4.below hT4.pos hb5
  have hB5 := hB4.trans (hb5.mono hB4.size)
  clear hown4 hz4 hT4 hb5
  go_wp2_with fail
  refine (trick_Cover t hand _ _ _ zs _ (byt_own hown5 HL.out) hh hT5).mono ?_
  rintro e w6 ⟨rfl, hb6⟩
  have hown6 := hown5.below (Nat.le_refl _) hb6
  have hz6 := hz5.below (Nat.le_refl _) hb6
  have hB6 := hB5.trans (hb6.mono hB5.size)
  clear hown5 hz5 hT5 hb6
  go_wp2_with fail
  refine (ref_Cover t hand _ _ _ zs _ hz6 hh).mono ?_
  rintro e w7 ⟨rfl, hb7⟩
  have hown7 := hown6.below (Nat.le_refl _) hb7
  have hz7 := hz6.below (Nat.le_refl _) hb7
  have hB7 := hB6.trans (hb7.mono hB6.size)
  clear hown6 hz6 hb7
  generalize playableV hand zs = p at *
  generalize winnersV t hand zs = q at *
  generalize coverV t hand zs = r at *
  go_wp2_with (go_at_call 34; refine (kit_kept _ a len cap zs _ hz7 h60 hown7).mono ?_; rintro e w8 ⟨rfl, hb8⟩)
  go_ret
  exact ⟨rfl, hB7.trans (hb8.mono hB7.size)⟩

set_option maxRecDepth 100000 in
theorem law_tells (t l c : Nat) (a : Option Addr) (len cap : Nat) (zs : List Nat) (w : World) (hc : c < 256) (hz : Byt w a len zs) (hn : a = none → cap = 0) (h60 : len ≤ 60) :
    Calls Tryd.prog 18 #[.int .u8 (t : Int), .int .u8 (l : Int), .int .u8 (c : Int), .slice a len cap] w fun e w' => e = .returned (.bool true) ∧ Below w.heap.size w w' := by
  have HL := Lib.hid hz.length
  have HN := Lib.hid hn
  clear hn
  go_enter Tryd.func18, Tryd.ntmps18
  go_wp2_with fail
  refine (kit_lent a len cap zs w hz HN.out h60).mono ?_
  rintro e w1 ⟨rfl, hown1, hB1⟩
  have hz1 := hz.below (Nat.le_refl _) hB1
  go_wp2_with fail
  refine (trick_Winner t _ _ _ zs _ (byt_own hown1 HL.out)).mono ?_
  rintro e w2 ⟨rfl, hb2⟩
  have hown2 := hown1.below (Nat.le_refl _) hb2
  have hz2 := hz1.below (Nat.le_refl _) hb2
  have hB2 := hB1.trans (hb2.mono hB1.size)
  clear hown1 hz1 hb2
  go_wp2_with fail
  refine (ref_Winner t _ _ _ zs _ hz2).mono ?_
  rintro e w3 ⟨rfl, hb3⟩
  have hown3 := hown2.below (Nat.le_refl _) hb3
  have hz3 := hz2.below (Nat.le_refl _) hb3
  have hB3 := hB2.trans (hb3.mono hB2.size)
  clear hown2 hz2 hb3
  go_wp2_with fail
  refine (trick_Seat t l _ _ _ zs _ (byt_own hown3 HL.out)).mono ?_
  rintro e w4 ⟨rfl, hb4⟩
  have hown4 := hown3.below (Nat.le_refl _) hb4
  have hz4 := hz3.below (Nat.le_refl _) hb4
  have hB4 := hB3.trans (hb4.mono hB3.size)
  clear hown3 hz3 hb4
  go_wp2_with fail
  refine (ref_Seat t l _ _ _ zs _ hz4).mono ?_
  rintro e w5 ⟨rfl, hb5⟩
  have hown5 := hown4.below (Nat.le_refl _) hb5
  have hz5 := hz4.below (Nat.le_refl _) hb5
  have hB5 := hB4.trans (hb5.mono hB4.size)
  clear hown4 hz4 hb5
  go_wp2_with fail
  refine (trick_Beats t c _ _ _ zs _ (byt_own hown5 HL.out) hc).mono ?_
  rintro e w6 ⟨rfl, hb6⟩
  have hown6 := hown5.below (Nat.le_refl _) hb6
  have hz6 := hz5.below (Nat.le_refl _) hb6
  have hB6 := hB5.trans (hb6.mono hB5.size)
  clear hown5 hz5 hb6
  go_wp2_with fail
  refine (ref_Beats t c _ _ _ zs _ hz6 hc).mono ?_
  rintro e w7 ⟨rfl, hb7⟩
  have hown7 := hown6.below (Nat.le_refl _) hb7
  have hz7 := hz6.below (Nat.le_refl _) hb7
  have hB7 := hB6.trans (hb7.mono hB6.size)
  clear hown6 hz6 hb7
  generalize winnerV t zs = p at *
  generalize seatV t l zs = q at *
  generalize beatsV t zs c = r at *
  go_wp2_with (first
    | (go_at_call 23; refine (trick_right _ _ _ zs _ (byt_own hown7 HL.out)).mono ?_; rintro e w' ⟨rfl, rfl⟩)
    | (go_at_call 44; refine (ref_right _ _ _ zs _ hz7).mono ?_; rintro e w8 ⟨rfl, hb8⟩; have hown8 := hown7.below (Nat.le_refl _) hb8; have hz8 := hz7.below (Nat.le_refl _) hb8; have hB8 := hB7.trans (hb8.mono hB7.size))
    | (go_at_call 28; refine (trick_Strength t l c _).mono ?_; rintro e w9 ⟨rfl, hb9⟩; have hown9 := hown8.below (Nat.le_refl _) hb9; have hz9 := hz8.below (Nat.le_refl _) hb9; have hB9 := hB8.trans (hb9.mono hB8.size))
    | (go_at_call 45; refine (ref_strength t l c _).mono ?_; rintro e w' ⟨rfl, rfl⟩)
    | (go_at_call 34; refine (kit_kept _ a len cap zs _ hz9 h60 hown9).mono ?_; rintro e w10 ⟨rfl, hb10⟩))
  go_ret
  exact ⟨rfl, hB9.trans (hb10.mono hB9.size)⟩
end Go.Proofs.YthilcnhnfdddhaaDoor
