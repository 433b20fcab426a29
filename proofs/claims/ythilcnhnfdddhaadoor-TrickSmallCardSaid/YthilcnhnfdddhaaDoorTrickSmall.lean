/- finesselaw11.TrickSmall returns true. -/
import Derived.Test.YthilcnhnfdddhaaDoorPlays
import Derived.Test.YthilcnhnfdddhaaDoorRely
import Derived.Deep.LoopGhost
namespace Go.Proofs.YthilcnhnfdddhaaDoor
open Go.RowKit Go.Shelf Go.Sort

theorem byt_two (w : World) (c d : Nat) (hc : c < 256) (hd : d < 256) : Byt (w.alloc (.cells #[.int .u8 (c : Int), .int .u8 (d : Int)] 5)) (some ⟨w.heap.size, 0, none⟩) 2 [c, d] :=
  byt_lit w [c, d] #[.int .u8 (c : Int), .int .u8 (d : Int)] rfl (by simp) (by intro i; rcases i with _ | _ | _ <;> simp; exact hc; exact hd)

theorem uncons {α : Type} {vs : List α} {n : Nat} (h : vs.length = n + 1) : ∃ v t, vs = v :: t ∧ t.length = n := by
  cases vs with
  | nil => cases h
  | cons v t => exact ⟨v, t, rfl, by simpa using h⟩
theorem ok_bytes {P : Program} {o : Oper} {ρ : Operand → Value} {w : World} {C : World → Prop} {l : List Spec} {i : Nat} (zs : List Nat) (h : (execOp ρ o).run P w = .ok (.value (.slice (some ⟨w.heap.size, 0, none⟩) zs.length zs.length)) (w.alloc (.cells (u8s zs).toArray 5))) (hl : l[i]? = some (.bytes zs))
    (hC : C w) (hst : ∀ w2, C w → Below w.heap.size w w2 → C w2) : OpOk P o ρ w fun v w' => Below w.heap.size w w' ∧ C w' ∧ spOf l i v w' := by
  have hb : Below w.heap.size w (w.alloc (.cells (u8s zs).toArray 5)) := (Below.refl _ _).alloc (Nat.le_refl _) _
  refine ok_value h ⟨hb, hst _ hC hb, ?_⟩
  unfold spOf
  rw [hl]
  refine ⟨w.heap.size, rfl, by simp, fun j hj => ?_⟩
  simp only [World.cell?, World.alloc_heap_new]
  simp [u8s, hj]
theorem byt_of_holds {w : World} {zs : List Nat} {g : Nat} (hc : ∀ i, i < zs.length → w.cell? ⟨g, i, none⟩ = some (.int .u8 ((zs.getD i 0 : Nat) : Int))) (hg : g < w.heap.size) (hb : ∀ i, zs.getD i 0 < 256) (hs : zs.length ≤ 140737488351232) : Byt w (some ⟨g, 0, none⟩) zs.length zs :=
  ⟨rfl, hs, hb, .inr ⟨g, 0, rfl, hg, fun i hi => by rw [Nat.zero_add]; exact hc i hi⟩⟩
set_option maxHeartbeats 4000000 in
set_option maxRecDepth 100000 in
theorem law_TrickSmall (w : World) (hTab : Tab w) :
    Calls Tryd.prog 6 #[] w fun e w' => e = .returned (.bool true) ∧ Below w.heap.size w w' := by
  go_enter Tryd.func6, Tryd.ntmps6
  go_wp2_with fail
  go_loopg [1, 2, 3, 4] 2809 (fun gk n _ _ _ wr => ∃ k : Nat, k ≤ 2809 ∧ gk = 2809 - k ∧ n = .int .i64 (k : Int) ∧ Below w.heap.size w wr)
  case atStart => exact ⟨0, by omega, rfl, rfl, Below.refl _ _⟩
  case round =>
    obtain ⟨k, hk, rfl, rfl, hB⟩ := hrel
    obtain ⟨wo, rfl⟩ : ∃ wo : World, wo = wr := ⟨_, rfl⟩
    by_cases hlt : k < 2809
    · have hkd : decide ((k : Int) < 2809) = true := by simp; omega
      obtain ⟨A, hA⟩ : ∃ A : Nat, A = k % 53 := ⟨_, rfl⟩
      obtain ⟨B, hBd⟩ : ∃ B : Nat, B = k / 53 := ⟨_, rfl⟩
      have HA : Hid ((k : Int) % 53 = (A : Int)) := Lib.hid (by omega)
      have HBd : Hid ((k : Int) / 53 = (B : Int)) := Lib.hid (by omega)
      have hA53 : A < 53 := by omega
      have hB53 : B < 53 := by omega
      clear hA hBd
      go_wp2_with fail
      rw [HA.out, HBd.out]
      go_loopg [4] 6 (fun gj t wr => ∃ T : Nat, T ≤ 6 ∧ gj = 6 - T ∧ t = .int .u8 (T : Int) ∧ Below w.heap.size w wr)
      case atStart => exact ⟨0, by omega, rfl, rfl, hB⟩
      case round =>
        obtain ⟨T, hT6, rfl, rfl, hB2⟩ := hrel
        by_cases hT : T < 6
        · have HE1 : Hid ((A : Int) % 5 = ((A % 5 : Nat) : Int)) := Lib.hid (by omega)
          have HE2 : Hid (((A : Int) + (B : Int) + (T : Int)) % 53 = (((A + B + T) % 53 : Nat) : Int)) := Lib.hid (by omega)
          obtain ⟨A52, hA52⟩ : ∃ A52 : Nat, (A : Int) % 52 = (A52 : Int) := ⟨A % 52, by omega⟩
          obtain ⟨B2, hB2e, hB2w⟩ : ∃ B2 : Nat, ((shl1 B : Nat) : Int) / 2 = (B2 : Int) ∧ W64 B2 := ⟨shl1 B / 2, by omega, by have := W64.shl1 B; unfold W64 at *; omega⟩
          have hn6 : ((T : Int) == (B : Int) % 6) = true ∨ ((T : Int) == (B : Int) % 6) = false := by cases ((T : Int) == (B : Int) % 6) <;> simp
          have hsz : w.heap.size ≤ wr.heap.size := hB2.size
          rcases hn6 with hn6 | hn6
          · go_wp2_with (first
              | (go_at_call 18; rw [HE1.out, HE2.out]; refine (law_tells T _ _ _ 2 2 [A, B] _ (by omega) (byt_two wr A B (by omega) (by omega)) (fun h => by cases h) (by omega)).mono ?_; rintro e w4 ⟨rfl, hb4⟩; have hB4 : Below w.heap.size w w4 := (hB2.alloc hsz _).trans (hb4.mono (by simp; omega)); have hs4 : w.heap.size ≤ w4.heap.size := hB4.size)
              | (go_at_call 11; refine (law_plays T _ _ 1 1 [B] _ ((W64.shl1 A52).lor hB2w) (byt_one w4 B (by omega)) (fun h => by cases h) (by omega) (hTab.below hTab.pos (hB4.alloc hs4 _))).mono ?_; rintro e w5 ⟨rfl, hb5⟩; have hB5 : Below w.heap.size w w5 := (hB4.alloc hs4 _).trans (hb5.mono (by simp; omega))))
            go_roundg (6 - (T + 1))
            case rel => exact ⟨T + 1, by omega, rfl, by go_num, hB5⟩
            case measure => omega
          · go_wp2_with (first
              | (go_at_call 18; rw [HE1.out, HE2.out]; refine (law_tells T _ _ _ 2 2 [A, B] _ (by omega) (byt_two wr A B (by omega) (by omega)) (fun h => by cases h) (by omega)).mono ?_; rintro e w4 ⟨rfl, hb4⟩; have hB4 : Below w.heap.size w w4 := (hB2.alloc hsz _).trans (hb4.mono (by simp; omega)); have hs4 : w.heap.size ≤ w4.heap.size := hB4.size))
            go_roundg (6 - (T + 1))
            case rel => exact ⟨T + 1, by omega, rfl, by go_num, hB4⟩
            case measure => omega
        · obtain rfl : T = 6 := by omega
          go_wp2_with fail
          go_roundg (2809 - (k + 1))
          case rel => exact ⟨k + 1, by omega, rfl, by go_num, hB2⟩
          case measure => omega
    · obtain rfl : k = 2809 := by omega
      go_wp2_with fail
      go_loopg [5, 7, 8, 64, 69] 4 (fun gk _ _ _ i _ wr => ∃ k : Nat, k ≤ 4 ∧ gk = 4 - k ∧ i = .int .i64 (k : Int) ∧ Below w.heap.size w wr)
      case atStart => exact ⟨0, by omega, rfl, rfl, hB⟩
      case round =>
        obtain ⟨k, hk, rfl, rfl, hB⟩ := hrel
        obtain ⟨wp, rfl⟩ : ∃ wp : World, wp = wr := ⟨_, rfl⟩
        have hszp : w.heap.size ≤ wp.heap.size := hB.size
        by_cases hlt : k < 4
        · have hkd : decide ((k : Int) < 4) = true := by simp; omega
          have hz6 := byt_lit wp [0, 3, 5, 51, 52, 255] #[.int .u8 0, .int .u8 3, .int .u8 5, .int .u8 51, .int .u8 52, .int .u8 255] rfl (by decide) (by intro i; rcases i with _ | _ | _ | _ | _ | _ | _ <;> simp)
          have hB6 : Below w.heap.size w (wp.alloc (.cells #[.int .u8 0, .int .u8 3, .int .u8 5, .int .u8 51, .int .u8 52, .int .u8 255] 5)) := hB.alloc hszp _
          have HZ6 := Lib.hid hz6
          clear hz6
          go_wp2_with fail
          generalize wp.alloc (.cells #[.int .u8 0, .int .u8 3, .int .u8 5, .int .u8 51, .int .u8 52, .int .u8 255] 5) = w6 at *
          go_loopg [7, 8, 69] 6 (fun gj _ _ i wr => ∃ j : Nat, j ≤ 6 ∧ gj = 6 - j ∧ i = .int .i64 (j : Int) ∧ Below w.heap.size w wr ∧ Byt wr (some ⟨wp.heap.size, 0, none⟩) 6 [0, 3, 5, 51, 52, 255])
          case atStart => exact ⟨0, by omega, rfl, rfl, hB6, HZ6.out⟩
          case round =>
            obtain ⟨j, hj, rfl, rfl, hBr, hzr⟩ := hrel
            by_cases hlj : j < 6
            · obtain ⟨bb, off, hbe, hbb, hcs⟩ := hzr.at (by omega)
              injection hbe with hbe
              injection hbe with h1 h2
              subst h1; subst h2
              have hc := hcs j hlj
              have hc256 := hzr.byte j
              clear hcs
              rw [Nat.zero_add] at hc
              generalize [0, 3, 5, 51, 52, 255].getD j 0 = c at *
              have hszr : w.heap.size ≤ wr.heap.size := hBr.size
              have hjd : decide ((j : Int) < 6) = true := by simp; omega
              obtain rfl | rfl | rfl | rfl : k = 0 ∨ k = 1 ∨ k = 2 ∨ k = 3 := by omega
              · have hz4 := byt_lit wr [c, 16, 29, 42] #[.int .u8 (c : Int), .int .u8 16, .int .u8 29, .int .u8 42] rfl (by simp) (by intro i; rcases i with _ | _ | _ | _ | _ <;> simp; exact hc256)
                have hB4 : Below w.heap.size w (wr.alloc (.cells #[.int .u8 (c : Int), .int .u8 16, .int .u8 29, .int .u8 42] 5)) := hBr.alloc hszr _
                have hzr4 := hzr.below (Nat.le_refl _) ((Below.refl _ wr).alloc (Nat.le_refl _) (.cells #[.int .u8 (c : Int), .int .u8 16, .int .u8 29, .int .u8 42] 5))
                have HZ4 := Lib.hid hz4
                clear hz4
                go_wp2_with fail
                generalize wr.alloc (.cells #[.int .u8 (c : Int), .int .u8 16, .int .u8 29, .int .u8 42] 5) = w7 at *
                refine (law_tells 0 3 5 _ 4 4 [c, 16, 29, 42] _ (by decide) HZ4.out (fun h => by cases h) (by decide)).mono ?_
                rintro e w8 ⟨rfl, hb8⟩
                have hz8 := HZ4.out.below (Nat.le_refl _) hb8
                have hzr8 := hzr4.below (Nat.le_refl _) hb8
                have hB8 := hB4.trans (hb8.mono hB4.size)
                clear HZ4 hzr4
                go_wp2_with fail
                refine (law_tells 4 4 c _ 3 4 ([c, 16, 29, 42].take 3) _ hc256 (hz8.take 3 (by simp)) (fun h => by cases h) (by decide)).mono ?_
                rintro e w9 ⟨rfl, hb9⟩
                have hz9 := hz8.below (Nat.le_refl _) hb9
                have hzr9 := hzr8.below (Nat.le_refl _) hb9
                have hB9 := hB8.trans (hb9.mono hB8.size)
                clear hz8 hzr8
                go_wp2_with fail
                refine (law_plays 2 4503599627370495 _ 4 4 [c, 16, 29, 42] _ (by unfold W64; decide) hz9 (fun h => by cases h) (by decide) (hTab.below hTab.pos hB9)).mono ?_
                rintro e w10 ⟨rfl, hb10⟩
                have hz10 := hz9.below (Nat.le_refl _) hb10
                have hzr10 := hzr9.below (Nat.le_refl _) hb10
                have hB10 := hB9.trans (hb10.mono hB9.size)
                clear hz9 hzr9
                go_wp2_with fail
                refine (law_plays 5 4503599627370496 _ 0 4 ([c, 16, 29, 42].take 0) _ (by unfold W64; decide) (hz10.take 0 (by simp)) (fun h => by cases h) (by decide) (hTab.below hTab.pos hB10)).mono ?_
                rintro e w11 ⟨rfl, hb11⟩
                have hzr11 := hzr10.below (Nat.le_refl _) hb11
                have hB11 := hB10.trans (hb11.mono hB10.size)
                clear hz10 hzr10
                go_wp2_with fail
                go_roundg (6 - (j + 1))
                case rel => exact ⟨j + 1, by omega, rfl, by go_num, hB11, hzr11⟩
                case measure => omega
              · have hz4 := byt_lit wr [3, c, 29, 42] #[.int .u8 3, .int .u8 (c : Int), .int .u8 29, .int .u8 42] rfl (by simp) (by intro i; rcases i with _ | _ | _ | _ | _ <;> simp; exact hc256)
                have hB4 : Below w.heap.size w (wr.alloc (.cells #[.int .u8 3, .int .u8 (c : Int), .int .u8 29, .int .u8 42] 5)) := hBr.alloc hszr _
                have hzr4 := hzr.below (Nat.le_refl _) ((Below.refl _ wr).alloc (Nat.le_refl _) (.cells #[.int .u8 3, .int .u8 (c : Int), .int .u8 29, .int .u8 42] 5))
                have HZ4 := Lib.hid hz4
                clear hz4
                go_wp2_with fail
                generalize wr.alloc (.cells #[.int .u8 3, .int .u8 (c : Int), .int .u8 29, .int .u8 42] 5) = w7 at *
                refine (law_tells 1 3 5 _ 4 4 [3, c, 29, 42] _ (by decide) HZ4.out (fun h => by cases h) (by decide)).mono ?_
                rintro e w8 ⟨rfl, hb8⟩
                have hz8 := HZ4.out.below (Nat.le_refl _) hb8
                have hzr8 := hzr4.below (Nat.le_refl _) hb8
                have hB8 := hB4.trans (hb8.mono hB4.size)
                clear HZ4 hzr4
                go_wp2_with fail
                refine (law_tells 4 4 c _ 3 4 ([3, c, 29, 42].take 3) _ hc256 (hz8.take 3 (by simp)) (fun h => by cases h) (by decide)).mono ?_
                rintro e w9 ⟨rfl, hb9⟩
                have hz9 := hz8.below (Nat.le_refl _) hb9
                have hzr9 := hzr8.below (Nat.le_refl _) hb9
                have hB9 := hB8.trans (hb9.mono hB8.size)
                clear hz8 hzr8
                go_wp2_with fail
                refine (law_plays 2 4503599627370495 _ 4 4 [3, c, 29, 42] _ (by unfold W64; decide) hz9 (fun h => by cases h) (by decide) (hTab.below hTab.pos hB9)).mono ?_
                rintro e w10 ⟨rfl, hb10⟩
                have hz10 := hz9.below (Nat.le_refl _) hb10
                have hzr10 := hzr9.below (Nat.le_refl _) hb10
                have hB10 := hB9.trans (hb10.mono hB9.size)
                clear hz9 hzr9
                go_wp2_with fail
                refine (law_plays 5 4503599627370496 _ 1 4 ([3, c, 29, 42].take 1) _ (by unfold W64; decide) (hz10.take 1 (by simp)) (fun h => by cases h) (by decide) (hTab.below hTab.pos hB10)).mono ?_
                rintro e w11 ⟨rfl, hb11⟩
                have hzr11 := hzr10.below (Nat.le_refl _) hb11
                have hB11 := hB10.trans (hb11.mono hB10.size)
                clear hz10 hzr10
                go_wp2_with fail
                go_roundg (6 - (j + 1))
                case rel => exact ⟨j + 1, by omega, rfl, by go_num, hB11, hzr11⟩
                case measure => omega
              · have hz4 := byt_lit wr [3, 16, c, 42] #[.int .u8 3, .int .u8 16, .int .u8 (c : Int), .int .u8 42] rfl (by simp) (by intro i; rcases i with _ | _ | _ | _ | _ <;> simp; exact hc256)
                have hB4 : Below w.heap.size w (wr.alloc (.cells #[.int .u8 3, .int .u8 16, .int .u8 (c : Int), .int .u8 42] 5)) := hBr.alloc hszr _
                have hzr4 := hzr.below (Nat.le_refl _) ((Below.refl _ wr).alloc (Nat.le_refl _) (.cells #[.int .u8 3, .int .u8 16, .int .u8 (c : Int), .int .u8 42] 5))
                have HZ4 := Lib.hid hz4
                clear hz4
                go_wp2_with fail
                generalize wr.alloc (.cells #[.int .u8 3, .int .u8 16, .int .u8 (c : Int), .int .u8 42] 5) = w7 at *
                refine (law_tells 2 3 5 _ 4 4 [3, 16, c, 42] _ (by decide) HZ4.out (fun h => by cases h) (by decide)).mono ?_
                rintro e w8 ⟨rfl, hb8⟩
                have hz8 := HZ4.out.below (Nat.le_refl _) hb8
                have hzr8 := hzr4.below (Nat.le_refl _) hb8
                have hB8 := hB4.trans (hb8.mono hB4.size)
                clear HZ4 hzr4
                go_wp2_with fail
                refine (law_tells 4 4 c _ 3 4 ([3, 16, c, 42].take 3) _ hc256 (hz8.take 3 (by simp)) (fun h => by cases h) (by decide)).mono ?_
                rintro e w9 ⟨rfl, hb9⟩
                have hz9 := hz8.below (Nat.le_refl _) hb9
                have hzr9 := hzr8.below (Nat.le_refl _) hb9
                have hB9 := hB8.trans (hb9.mono hB8.size)
                clear hz8 hzr8
                go_wp2_with fail
                refine (law_plays 2 4503599627370495 _ 4 4 [3, 16, c, 42] _ (by unfold W64; decide) hz9 (fun h => by cases h) (by decide) (hTab.below hTab.pos hB9)).mono ?_
                rintro e w10 ⟨rfl, hb10⟩
                have hz10 := hz9.below (Nat.le_refl _) hb10
                have hzr10 := hzr9.below (Nat.le_refl _) hb10
                have hB10 := hB9.trans (hb10.mono hB9.size)
                clear hz9 hzr9
                go_wp2_with fail
                refine (law_plays 5 4503599627370496 _ 2 4 ([3, 16, c, 42].take 2) _ (by unfold W64; decide) (hz10.take 2 (by simp)) (fun h => by cases h) (by decide) (hTab.below hTab.pos hB10)).mono ?_
                rintro e w11 ⟨rfl, hb11⟩
                have hzr11 := hzr10.below (Nat.le_refl _) hb11
                have hB11 := hB10.trans (hb11.mono hB10.size)
                clear hz10 hzr10
                go_wp2_with fail
                go_roundg (6 - (j + 1))
                case rel => exact ⟨j + 1, by omega, rfl, by go_num, hB11, hzr11⟩
                case measure => omega
              · have hz4 := byt_lit wr [3, 16, 29, c] #[.int .u8 3, .int .u8 16, .int .u8 29, .int .u8 (c : Int)] rfl (by simp) (by intro i; rcases i with _ | _ | _ | _ | _ <;> simp; exact hc256)
                have hB4 : Below w.heap.size w (wr.alloc (.cells #[.int .u8 3, .int .u8 16, .int .u8 29, .int .u8 (c : Int)] 5)) := hBr.alloc hszr _
                have hzr4 := hzr.below (Nat.le_refl _) ((Below.refl _ wr).alloc (Nat.le_refl _) (.cells #[.int .u8 3, .int .u8 16, .int .u8 29, .int .u8 (c : Int)] 5))
                have HZ4 := Lib.hid hz4
                clear hz4
                go_wp2_with fail
                generalize wr.alloc (.cells #[.int .u8 3, .int .u8 16, .int .u8 29, .int .u8 (c : Int)] 5) = w7 at *
                refine (law_tells 3 3 5 _ 4 4 [3, 16, 29, c] _ (by decide) HZ4.out (fun h => by cases h) (by decide)).mono ?_
                rintro e w8 ⟨rfl, hb8⟩
                have hz8 := HZ4.out.below (Nat.le_refl _) hb8
                have hzr8 := hzr4.below (Nat.le_refl _) hb8
                have hB8 := hB4.trans (hb8.mono hB4.size)
                clear HZ4 hzr4
                go_wp2_with fail
                refine (law_tells 4 4 c _ 3 4 ([3, 16, 29, c].take 3) _ hc256 (hz8.take 3 (by simp)) (fun h => by cases h) (by decide)).mono ?_
                rintro e w9 ⟨rfl, hb9⟩
                have hz9 := hz8.below (Nat.le_refl _) hb9
                have hzr9 := hzr8.below (Nat.le_refl _) hb9
                have hB9 := hB8.trans (hb9.mono hB8.size)
                clear hz8 hzr8
                go_wp2_with fail
                refine (law_plays 2 4503599627370495 _ 4 4 [3, 16, 29, c] _ (by unfold W64; decide) hz9 (fun h => by cases h) (by decide) (hTab.below hTab.pos hB9)).mono ?_
                rintro e w10 ⟨rfl, hb10⟩
                have hz10 := hz9.below (Nat.le_refl _) hb10
                have hzr10 := hzr9.below (Nat.le_refl _) hb10
                have hB10 := hB9.trans (hb10.mono hB9.size)
                clear hz9 hzr9
                go_wp2_with fail
                refine (law_plays 5 4503599627370496 _ 3 4 ([3, 16, 29, c].take 3) _ (by unfold W64; decide) (hz10.take 3 (by simp)) (fun h => by cases h) (by decide) (hTab.below hTab.pos hB10)).mono ?_
                rintro e w11 ⟨rfl, hb11⟩
                have hzr11 := hzr10.below (Nat.le_refl _) hb11
                have hB11 := hB10.trans (hb11.mono hB10.size)
                clear hz10 hzr10
                go_wp2_with fail
                go_roundg (6 - (j + 1))
                case rel => exact ⟨j + 1, by omega, rfl, by go_num, hB11, hzr11⟩
                case measure => omega
            · obtain rfl : j = 6 := by omega
              go_wp2_with fail
              go_roundg (4 - (k + 1))
              case rel => exact ⟨k + 1, by omega, rfl, by go_num, hBr⟩
              case measure => omega
        · obtain rfl : k = 4 := by omega
          have hz12 := byt_lit wp [0, 1, 12, 13, 14, 25, 26, 38, 39, 40, 50, 51] #[.int .u8 0, .int .u8 1, .int .u8 12, .int .u8 13, .int .u8 14, .int .u8 25, .int .u8 26, .int .u8 38, .int .u8 39, .int .u8 40, .int .u8 50, .int .u8 51] rfl (by decide) (by intro i; rcases i with _ | _ | _ | _ | _ | _ | _ | _ | _ | _ | _ | _ | _ <;> simp)
          have hB12 : Below w.heap.size w (wp.alloc (.cells #[.int .u8 0, .int .u8 1, .int .u8 12, .int .u8 13, .int .u8 14, .int .u8 25, .int .u8 26, .int .u8 38, .int .u8 39, .int .u8 40, .int .u8 50, .int .u8 51] 5)) := hB.alloc hszp _
          have HZ12 := Lib.hid hz12
          clear hz12
          go_wp2_with fail
          generalize wp.alloc (.cells #[.int .u8 0, .int .u8 1, .int .u8 12, .int .u8 13, .int .u8 14, .int .u8 25, .int .u8 26, .int .u8 38, .int .u8 39, .int .u8 40, .int .u8 50, .int .u8 51] 5) = w12 at *
          obtain ⟨Z, hZ⟩ : ∃ Z : List Nat, Z = [0, 1, 12, 13, 14, 25, 26, 38, 39, 40, 50, 51] := ⟨_, rfl⟩
          have hZb : ∀ i, Z.getD i 0 < 256 := by rw [hZ]; exact HZ12.out.byte
          have HZ : Hid (Byt w12 (some ⟨wp.heap.size, 0, none⟩) 12 Z) := Lib.hid (by rw [hZ]; exact HZ12.out)
          have HZb := Lib.hid hZb
          clear hZ HZ12 hZb
          generalize wp.heap.size = g at *
          go_loopg [10, 11, 12, 13, 14, 15, 107, 114, 121] 12 (fun gk _ _ _ _ _ _ s107 _ _ wr => ∃ i : Nat, i ≤ 12 ∧ gk = 12 - i ∧ s107 = .int .i64 (i : Int) ∧ Below w.heap.size w wr ∧ Byt wr (some ⟨g, 0, none⟩) 12 Z)
          case atStart => exact ⟨0, by omega, rfl, rfl, hB12, HZ.out⟩
          case round =>
            obtain ⟨i, hi, rfl, rfl, hBr, hzr⟩ := hrel
            obtain ⟨wq, rfl⟩ : ∃ wq : World, wq = wr := ⟨_, rfl⟩
            by_cases hli : i < 12
            · have hid1 : decide ((i : Int) < 12) = true := by simp; omega
              obtain ⟨_, _, hbe, hbb, hcs⟩ := hzr.at (by omega)
              injection hbe with hbe
              injection hbe with h1 h2
              subst h1; subst h2
              have hc := hcs i hli
              have ha256 := HZb.out i
              clear hcs
              rw [Nat.zero_add] at hc
              generalize Z.getD i 0 = a at *
              go_wp2_with fail
              clear hc
              go_loopg [12, 13, 14, 15, 114, 121] 12 (fun gk _ _ _ _ s114 _ wr => ∃ k : Nat, k ≤ 12 ∧ gk = 12 - k ∧ s114 = .int .i64 (k : Int) ∧ Below w.heap.size w wr ∧ Byt wr (some ⟨g, 0, none⟩) 12 Z)
              case atStart => exact ⟨0, by omega, rfl, rfl, hBr, hzr⟩
              case round =>
                obtain ⟨k, hk, rfl, rfl, hBs, hzs⟩ := hrel
                obtain ⟨wt, rfl⟩ : ∃ wt : World, wt = wr := ⟨_, rfl⟩
                by_cases hlk : k < 12
                · have hkd1 : decide ((k : Int) < 12) = true := by simp; omega
                  obtain ⟨_, _, hbe, hbb, hcs⟩ := hzs.at (by omega)
                  injection hbe with hbe
                  injection hbe with h1 h2
                  subst h1; subst h2
                  have hc := hcs k hlk
                  have hb256 := HZb.out k
                  clear hcs
                  rw [Nat.zero_add] at hc
                  generalize Z.getD k 0 = b at *
                  go_wp2_with fail
                  clear hc
                  go_loopg [14, 15, 121] 12 (fun gk _ _ s121 wr => ∃ j : Nat, j ≤ 12 ∧ gk = 12 - j ∧ s121 = .int .i64 (j : Int) ∧ Below w.heap.size w wr ∧ Byt wr (some ⟨g, 0, none⟩) 12 Z)
                  case atStart => exact ⟨0, by omega, rfl, rfl, hBs, hzs⟩
                  case round =>
                    obtain ⟨j, hj, rfl, rfl, hBu, hzu⟩ := hrel
                    obtain ⟨wv, rfl⟩ : ∃ wv : World, wv = wr := ⟨_, rfl⟩
                    by_cases hlj : j < 12
                    · have hjd1 : decide ((j : Int) < 12) = true := by simp; omega
                      obtain ⟨_, _, hbe, hbb, hcs⟩ := hzu.at (by omega)
                      injection hbe with hbe
                      injection hbe with h1 h2
                      subst h1; subst h2
                      have hc := hcs j hlj
                      have hc256 := HZb.out j
                      rw [Nat.zero_add] at hc
                      generalize Z.getD j 0 = c at *
                      have HCS := Lib.hid hcs
                      clear hcs
                      go_wp2_with fail
                      obtain ⟨X, hX⟩ : ∃ X : Nat, X = Z.getD ((j + 1 + k) % 12) 0 := ⟨_, rfl⟩
                      have hX256 : X < 256 := by rw [hX]; exact HZb.out _
                      have hCX : ∀ w1, Byt w1 (some ⟨g, 0, none⟩) 12 Z → w1.cell? ⟨g, (j + 1 + k) % 12, none⟩ = some (.int .u8 (X : Int)) := by
                        intro w1 hz1
                        obtain ⟨_, _, hbe, _, hcs⟩ := hz1.at (by omega)
                        injection hbe with hbe
                        injection hbe with h1 h2
                        subst h1; subst h2
                        have := hcs ((j + 1 + k) % 12) (by omega)
                        rwa [Nat.zero_add, ← hX] at this
                      have hab : ∀ i, [a, b].getD i 0 < 256 := by intro i; rcases i with _ | _ | _ <;> simp; exact ha256; exact hb256
                      have hcx : ∀ i, [c, X].getD i 0 < 256 := by intro i; rcases i with _ | _ | _ <;> simp; exact hc256; exact hX256
                      have hcc : ∀ i, [c].getD i 0 < 256 := by intro i; rcases i with _ | _ <;> simp; exact hc256
                      have hCst : ∀ w1 w2, (Tab w1 ∧ Byt w1 (some ⟨g, 0, none⟩) 12 Z) → Below w1.heap.size w1 w2 → (Tab w2 ∧ Byt w2 (some ⟨g, 0, none⟩) 12 Z) := fun w1 w2 h hb => ⟨h.1.below h.1.pos hb, h.2.below (Nat.le_refl _) hb⟩
                      clear hX
                      have hx12 : (j + 1 + k) % 12 < 12 := Nat.mod_lt _ (by decide)
                      by_cases hpar : (i + k + j) % 2 = 0
                      · refine wp_region_relies (fun w1 => Tab w1 ∧ Byt w1 (some ⟨g, 0, none⟩) 12 Z) (spOf [.eq (.int .i64 ((i : Nat) : Int)), .eq (.int .i64 ((k : Nat) : Int)), .eq (.int .i64 ((i + k : Nat) : Int)), .eq (.int .i64 ((j : Nat) : Int)), .eq (.int .i64 ((i + k + j : Nat) : Int)), .eq (.int .i64 (((i + k + j) % 2 : Nat) : Int)), .eq (.bool true), .eq (.bool true), .eq (.int .i64 ((i : Nat) : Int)), .eq (.int .i64 ((i % 5 : Nat) : Int)), .eq (.int .u8 ((i % 5 : Nat) : Int)), .eq (.int .u8 ((a : Nat) : Int)), .eq (.int .u8 ((b : Nat) : Int)), .bytes ([a, b]), .eq (.int .u64 ((maskOf [a, b] : Nat) : Int)), .eq (.int .u8 ((c : Nat) : Int)), .eq (.slice (some ⟨g, 0, none⟩) 12 12), .eq (.int .i64 ((j : Nat) : Int)), .eq (.int .i64 ((j + 1 : Nat) : Int)), .eq (.int .i64 ((k : Nat) : Int)), .eq (.int .i64 ((j + 1 + k : Nat) : Int)), .eq (.int .i64 (((j + 1 + k) % 12 : Nat) : Int)), .eq (.pointer (some ⟨g, (j + 1 + k) % 12, none⟩)), .eq (.int .u8 ((X : Nat) : Int)), .bytes ([c, X]), .eq (.bool true), .eq (.bool false), .eq (.bool false), .eq (.bool false), .eq (.int .u8 ((a : Nat) : Int)), .eq (.int .u8 ((b : Nat) : Int)), .bytes ([a, b]), .eq (.int .u64 ((maskOf [a, b] : Nat) : Int)), .eq (.int .u8 ((c : Nat) : Int)), .bytes ([c]), .eq (.bool true), .eq (.bool false), .eq (.bool false)]) (by kernel_rfl) (by kernel_rfl) (by kernel_rfl) (by kernel_rfl) (spOf_stable _) ⟨hTab.below hTab.pos hBu.drew, hzu.below (Nat.le_refl _) (Below.refl _ _).drew⟩ ?obls ?fini
                        case obls =>
                          refine ⟨?_, ?_, ?_, ?_, ?_, ?_, ?_, ?_, ?_, ?_, ?_, ?_, ?_, ?_, ?_, ?_, ?_, ?_, ?_, ?_, ?_, ?_, ?_, ?_, ?_, ?_, ?_, ?_, ?_, ?_, ?_, ?_, ?_, ?_, ?_, ?_, ?_, ?_, trivial⟩
                          · -- 0: 126 := Op.move t10
                            intro ρ w1 hC hf
                            show OpOk _ _ _ _ _
                            have f10 : ρ (.tmp 10) = .int .i64 ((i : Nat) : Int) := hf.1 10 (by simp [Op.operands])
                            refine ok_value (v := .int .i64 ((i : Nat) : Int)) (w' := w1) ?_ ⟨Below.refl _ _, hC, rfl⟩
                            simp [execOp, f10]
                          · -- 1: 127 := Op.move t12
                            intro ρ w1 hC hf
                            show OpOk _ _ _ _ _
                            have f12 : ρ (.tmp 12) = .int .i64 ((k : Nat) : Int) := hf.1 12 (by simp [Op.operands])
                            refine ok_value (v := .int .i64 ((k : Nat) : Int)) (w' := w1) ?_ ⟨Below.refl _ _, hC, rfl⟩
                            simp [execOp, f12]
                          · -- 2: 128 := Op.binOp BinOp.add 3 t126 t127 3
                            intro ρ w1 hC hf
                            show OpOk _ _ _ _ _
                            have f126 : ρ (.tmp 126) = .int .i64 ((i : Nat) : Int) := hf.1 126 (by simp [Op.operands])
                            have f127 : ρ (.tmp 127) = .int .i64 ((k : Nat) : Int) := hf.1 127 (by simp [Op.operands])
                            refine ok_value (v := .int .i64 ((i + k : Nat) : Int)) (w' := w1) ?_ ⟨Below.refl _ _, hC, rfl⟩
                            simp [execOp, f126, f127, go_sem]
                            exact IntWalk.i64_in _ (by omega)
                          · -- 3: 129 := Op.move t14
                            intro ρ w1 hC hf
                            show OpOk _ _ _ _ _
                            have f14 : ρ (.tmp 14) = .int .i64 ((j : Nat) : Int) := hf.1 14 (by simp [Op.operands])
                            refine ok_value (v := .int .i64 ((j : Nat) : Int)) (w' := w1) ?_ ⟨Below.refl _ _, hC, rfl⟩
                            simp [execOp, f14]
                          · -- 4: 130 := Op.binOp BinOp.add 3 t128 t129 3
                            intro ρ w1 hC hf
                            show OpOk _ _ _ _ _
                            have f128 : ρ (.tmp 128) = .int .i64 ((i + k : Nat) : Int) := hf.1 128 (by simp [Op.operands])
                            have f129 : ρ (.tmp 129) = .int .i64 ((j : Nat) : Int) := hf.1 129 (by simp [Op.operands])
                            refine ok_value (v := .int .i64 ((i + k + j : Nat) : Int)) (w' := w1) ?_ ⟨Below.refl _ _, hC, rfl⟩
                            simp [execOp, f128, f129, go_sem]
                            exact IntWalk.i64_in _ (by omega)
                          · -- 5: 131 := Op.binOp BinOp.rem 3 t130 (const (2:i64)) 3
                            intro ρ w1 hC hf
                            show OpOk _ _ _ _ _
                            have f130 : ρ (.tmp 130) = .int .i64 ((i + k + j : Nat) : Int) := hf.1 130 (by simp [Op.operands])
                            refine ok_value (v := .int .i64 (((i + k + j) % 2 : Nat) : Int)) (w' := w1) ?_ ⟨Below.refl _ _, hC, rfl⟩
                            simp [execOp, f130, hf.2.1, go_sem]
                            exact Int.tmod_eq_emod_of_nonneg (by omega)
                          · -- 6: 132 := Op.binOp BinOp.eql 3 t131 (const (0:i64)) 3
                            intro ρ w1 hC hf
                            show OpOk _ _ _ _ _
                            have f131 : ρ (.tmp 131) = .int .i64 (((i + k + j) % 2 : Nat) : Int) := hf.1 131 (by simp [Op.operands])
                            refine ok_value (v := .bool true) (w' := w1) ?_ ⟨Below.refl _ _, hC, rfl⟩
                            simp [execOp, f131, hf.2.1, go_sem]
                            omega
                          · -- 7: 133 := Op.move t132
                            intro ρ w1 hC hf
                            show OpOk _ _ _ _ _
                            have f132 : ρ (.tmp 132) = .bool true := hf.1 132 (by simp [Op.operands])
                            refine ok_value (v := .bool true) (w' := w1) ?_ ⟨Below.refl _ _, hC, rfl⟩
                            simp [execOp, f132]
                          · -- 8: 134 := Op.move t10
                            intro ρ w1 hC hf
                            intro gv hgv
                            have hgv : gv = .bool true := hgv
                            refine ⟨fun _ => ?_, fun hne => absurd hgv hne⟩
                            have f10 : ρ (.tmp 10) = .int .i64 ((i : Nat) : Int) := hf.1 10 (by simp [Op.operands])
                            refine ok_value (v := .int .i64 ((i : Nat) : Int)) (w' := w1) ?_ ⟨Below.refl _ _, hC, rfl⟩
                            simp [execOp, f10]
                          · -- 9: 135 := Op.binOp BinOp.rem 3 t134 (const (5:i64)) 3
                            intro ρ w1 hC hf
                            intro gv hgv
                            have hgv : gv = .bool true := hgv
                            refine ⟨fun _ => ?_, fun hne => absurd hgv hne⟩
                            have f134 : ρ (.tmp 134) = .int .i64 ((i : Nat) : Int) := hf.1 134 (by simp [Op.operands])
                            refine ok_value (v := .int .i64 ((i % 5 : Nat) : Int)) (w' := w1) ?_ ⟨Below.refl _ _, hC, rfl⟩
                            simp [execOp, f134, hf.2.1, go_sem]
                            exact Int.tmod_eq_emod_of_nonneg (by omega)
                          · -- 10: 136 := Op.convert 3 5 t135
                            intro ρ w1 hC hf
                            intro gv hgv
                            have hgv : gv = .bool true := hgv
                            refine ⟨fun _ => ?_, fun hne => absurd hgv hne⟩
                            have f135 : ρ (.tmp 135) = .int .i64 ((i % 5 : Nat) : Int) := hf.1 135 (by simp [Op.operands])
                            refine ok_value (v := .int .u8 ((i % 5 : Nat) : Int)) (w' := w1) ?_ ⟨Below.refl _ _, hC, rfl⟩
                            simp [execOp, f135, go_sem]
                            exact IntWalk.u8_in _ (by omega)
                          · -- 11: 137 := Op.move t11
                            intro ρ w1 hC hf
                            intro gv hgv
                            have hgv : gv = .bool true := hgv
                            refine ⟨fun _ => ?_, fun hne => absurd hgv hne⟩
                            have f11 : ρ (.tmp 11) = .int .u8 ((a : Nat) : Int) := hf.1 11 (by simp [Op.operands])
                            refine ok_value (v := .int .u8 ((a : Nat) : Int)) (w' := w1) ?_ ⟨Below.refl _ _, hC, rfl⟩
                            simp [execOp, f11]
                          · -- 12: 138 := Op.move t13
                            intro ρ w1 hC hf
                            intro gv hgv
                            have hgv : gv = .bool true := hgv
                            refine ⟨fun _ => ?_, fun hne => absurd hgv hne⟩
                            have f13 : ρ (.tmp 13) = .int .u8 ((b : Nat) : Int) := hf.1 13 (by simp [Op.operands])
                            refine ok_value (v := .int .u8 ((b : Nat) : Int)) (w' := w1) ?_ ⟨Below.refl _ _, hC, rfl⟩
                            simp [execOp, f13]
                          · -- 13: 139 := Op.buildSlice 23 2 #[(0, t137), (1, t138)]
                            intro ρ w1 hC hf
                            intro gv hgv
                            have hgv : gv = .bool true := hgv
                            refine ⟨fun _ => ?_, fun hne => absurd hgv hne⟩
                            have f137 : ρ (.tmp 137) = .int .u8 ((a : Nat) : Int) := hf.1 137 (by simp [Op.operands])
                            have f138 : ρ (.tmp 138) = .int .u8 ((b : Nat) : Int) := hf.1 138 (by simp [Op.operands])
                            exact ok_bytes [a, b] (by simp [execOp, f137, f138, go_sem, u8s]) rfl hC (fun w2 h hb => hCst _ _ h hb)
                          · -- 14: 140 := Op.call ( value (Operand.func 19), args := #[t139], argTypes
                            intro ρ w1 hC hf
                            intro gv hgv
                            have hgv : gv = .bool true := hgv
                            refine ⟨fun _ => ?_, fun hne => absurd hgv hne⟩
                            obtain ⟨g139, f139, l139, c139⟩ : Spec.holds (.bytes [a, b]) (ρ (.tmp 139)) w1 := hf.1 139 (by simp [Op.operands, Call.operands])
                            exact ok_call (f := 19) (args := #[.slice (some ⟨g139, 0, none⟩) 2 2]) (by simp [execOp, f139, hf.2.2.2, go_sem]) ((law_mask _ _ _ [a, b] _ (byt_of_holds c139 l139 hab (by simp))).mono fun e w2 ⟨he, hw⟩ => ⟨_, he, hw ▸ Below.refl _ _, hw ▸ hC, rfl⟩)
                          · -- 15: 141 := Op.move t15
                            intro ρ w1 hC hf
                            intro gv hgv
                            have hgv : gv = .bool true := hgv
                            refine ⟨fun _ => ?_, fun hne => absurd hgv hne⟩
                            have f15 : ρ (.tmp 15) = .int .u8 ((c : Nat) : Int) := hf.1 15 (by simp [Op.operands])
                            refine ok_value (v := .int .u8 ((c : Nat) : Int)) (w' := w1) ?_ ⟨Below.refl _ _, hC, rfl⟩
                            simp [execOp, f15]
                          · -- 16: 142 := Op.move t9
                            intro ρ w1 hC hf
                            intro gv hgv
                            have hgv : gv = .bool true := hgv
                            refine ⟨fun _ => ?_, fun hne => absurd hgv hne⟩
                            have f9 : ρ (.tmp 9) = .slice (some ⟨g, 0, none⟩) 12 12 := hf.1 9 (by simp [Op.operands])
                            refine ok_value (v := .slice (some ⟨g, 0, none⟩) 12 12) (w' := w1) ?_ ⟨Below.refl _ _, hC, rfl⟩
                            simp [execOp, f9]
                          · -- 17: 143 := Op.move t14
                            intro ρ w1 hC hf
                            intro gv hgv
                            have hgv : gv = .bool true := hgv
                            refine ⟨fun _ => ?_, fun hne => absurd hgv hne⟩
                            have f14 : ρ (.tmp 14) = .int .i64 ((j : Nat) : Int) := hf.1 14 (by simp [Op.operands])
                            refine ok_value (v := .int .i64 ((j : Nat) : Int)) (w' := w1) ?_ ⟨Below.refl _ _, hC, rfl⟩
                            simp [execOp, f14]
                          · -- 18: 144 := Op.binOp BinOp.add 3 t143 (const (1:i64)) 3
                            intro ρ w1 hC hf
                            intro gv hgv
                            have hgv : gv = .bool true := hgv
                            refine ⟨fun _ => ?_, fun hne => absurd hgv hne⟩
                            have f143 : ρ (.tmp 143) = .int .i64 ((j : Nat) : Int) := hf.1 143 (by simp [Op.operands])
                            refine ok_value (v := .int .i64 ((j + 1 : Nat) : Int)) (w' := w1) ?_ ⟨Below.refl _ _, hC, rfl⟩
                            simp [execOp, f143, hf.2.1, go_sem]
                            exact IntWalk.i64_in _ (by omega)
                          · -- 19: 145 := Op.move t12
                            intro ρ w1 hC hf
                            intro gv hgv
                            have hgv : gv = .bool true := hgv
                            refine ⟨fun _ => ?_, fun hne => absurd hgv hne⟩
                            have f12 : ρ (.tmp 12) = .int .i64 ((k : Nat) : Int) := hf.1 12 (by simp [Op.operands])
                            refine ok_value (v := .int .i64 ((k : Nat) : Int)) (w' := w1) ?_ ⟨Below.refl _ _, hC, rfl⟩
                            simp [execOp, f12]
                          · -- 20: 146 := Op.binOp BinOp.add 3 t144 t145 3
                            intro ρ w1 hC hf
                            intro gv hgv
                            have hgv : gv = .bool true := hgv
                            refine ⟨fun _ => ?_, fun hne => absurd hgv hne⟩
                            have f144 : ρ (.tmp 144) = .int .i64 ((j + 1 : Nat) : Int) := hf.1 144 (by simp [Op.operands])
                            have f145 : ρ (.tmp 145) = .int .i64 ((k : Nat) : Int) := hf.1 145 (by simp [Op.operands])
                            refine ok_value (v := .int .i64 ((j + 1 + k : Nat) : Int)) (w' := w1) ?_ ⟨Below.refl _ _, hC, rfl⟩
                            simp [execOp, f144, f145, go_sem]
                            exact IntWalk.i64_in _ (by omega)
                          · -- 21: 147 := Op.binOp BinOp.rem 3 t146 (const (12:i64)) 3
                            intro ρ w1 hC hf
                            intro gv hgv
                            have hgv : gv = .bool true := hgv
                            refine ⟨fun _ => ?_, fun hne => absurd hgv hne⟩
                            have f146 : ρ (.tmp 146) = .int .i64 ((j + 1 + k : Nat) : Int) := hf.1 146 (by simp [Op.operands])
                            refine ok_value (v := .int .i64 (((j + 1 + k) % 12 : Nat) : Int)) (w' := w1) ?_ ⟨Below.refl _ _, hC, rfl⟩
                            simp [execOp, f146, hf.2.1, go_sem]
                            exact Int.tmod_eq_emod_of_nonneg (by omega)
                          · -- 22: 148 := Op.indexAddr 23 t142 t147
                            intro ρ w1 hC hf
                            intro gv hgv
                            have hgv : gv = .bool true := hgv
                            refine ⟨fun _ => ?_, fun hne => absurd hgv hne⟩
                            have f142 : ρ (.tmp 142) = .slice (some ⟨g, 0, none⟩) 12 12 := hf.1 142 (by simp [Op.operands])
                            have f147 : ρ (.tmp 147) = .int .i64 (((j + 1 + k) % 12 : Nat) : Int) := hf.1 147 (by simp [Op.operands])
                            refine ok_value (v := .pointer (some ⟨g, (j + 1 + k) % 12, none⟩)) (w' := w1) ?_ ⟨Below.refl _ _, hC, rfl⟩
                            simp [execOp, f142, f147, go_sem]
                            rw [if_pos (by omega), show (((j : Int) + 1 + (k : Int)) % 12).toNat = (j + 1 + k) % 12 by omega]
                          · -- 23: 149 := Op.load 5 t148
                            intro ρ w1 hC hf
                            intro gv hgv
                            have hgv : gv = .bool true := hgv
                            refine ⟨fun _ => ?_, fun hne => absurd hgv hne⟩
                            have f148 : ρ (.tmp 148) = .pointer (some ⟨g, (j + 1 + k) % 12, none⟩) := hf.1 148 (by simp [Op.operands])
                            refine ok_value (v := .int .u8 ((X : Nat) : Int)) (w' := w1) ?_ ⟨Below.refl _ _, hC, rfl⟩
                            simp [execOp, f148, go_sem, hCX w1 hC.2]
                          · -- 24: 150 := Op.buildSlice 23 2 #[(0, t141), (1, t149)]
                            intro ρ w1 hC hf
                            intro gv hgv
                            have hgv : gv = .bool true := hgv
                            refine ⟨fun _ => ?_, fun hne => absurd hgv hne⟩
                            have f141 : ρ (.tmp 141) = .int .u8 ((c : Nat) : Int) := hf.1 141 (by simp [Op.operands])
                            have f149 : ρ (.tmp 149) = .int .u8 ((X : Nat) : Int) := hf.1 149 (by simp [Op.operands])
                            exact ok_bytes [c, X] (by simp [execOp, f141, f149, go_sem, u8s]) rfl hC (fun w2 h hb => hCst _ _ h hb)
                          · -- 25: 151 := Op.call ( value (Operand.func 11), args := #[t136, t140, t15
                            intro ρ w1 hC hf
                            intro gv hgv
                            have hgv : gv = .bool true := hgv
                            refine ⟨fun _ => ?_, fun hne => absurd hgv hne⟩
                            have f136 : ρ (.tmp 136) = .int .u8 ((i % 5 : Nat) : Int) := hf.1 136 (by simp [Op.operands, Call.operands])
                            have f140 : ρ (.tmp 140) = .int .u64 ((maskOf [a, b] : Nat) : Int) := hf.1 140 (by simp [Op.operands, Call.operands])
                            obtain ⟨g150, f150, l150, c150⟩ : Spec.holds (.bytes [c, X]) (ρ (.tmp 150)) w1 := hf.1 150 (by simp [Op.operands, Call.operands])
                            exact ok_call (f := 11) (args := #[.int .u8 ((i % 5 : Nat) : Int), .int .u64 ((maskOf [a, b] : Nat) : Int), .slice (some ⟨g150, 0, none⟩) 2 2]) (by simp [execOp, f136, f140, f150, hf.2.2.2, go_sem]) ((law_plays (i % 5) _ _ _ _ [c, X] _ (maskOf_w64 _) (byt_of_holds c150 l150 hcx (by simp)) (fun h => by cases h) (by simp) hC.1).mono fun e w2 ⟨he, hb⟩ => ⟨_, he, hb, hCst _ _ hC hb, rfl⟩)
                          · -- 26: 152 := Op.unOp UnOp.not 4 t151
                            intro ρ w1 hC hf
                            intro gv hgv
                            have hgv : gv = .bool true := hgv
                            refine ⟨fun _ => ?_, fun hne => absurd hgv hne⟩
                            have f151 : ρ (.tmp 151) = .bool true := hf.1 151 (by simp [Op.operands])
                            refine ok_value (v := .bool false) (w' := w1) ?_ ⟨Below.refl _ _, hC, rfl⟩
                            simp [execOp, f151, go_sem]
                          · -- 27: 153 := Op.pick t133 t152 (const (Value.bool false))
                            intro ρ w1 hC hf
                            show OpOk _ _ _ _ _
                            have f133 : ρ (.tmp 133) = .bool true := hf.1 133 (by simp [Op.operands])
                            have f152 : ρ (.tmp 152) = .bool false := hf.1 152 (by simp [Op.operands])
                            refine ok_value (v := .bool false) (w' := w1) ?_ ⟨Below.refl _ _, hC, rfl⟩
                            simp [execOp, f133, f152, hf.2.1, go_sem]
                          · -- 28: 154 := Op.move t153
                            intro ρ w1 hC hf
                            show OpOk _ _ _ _ _
                            have f153 : ρ (.tmp 153) = .bool false := hf.1 153 (by simp [Op.operands])
                            refine ok_value (v := .bool false) (w' := w1) ?_ ⟨Below.refl _ _, hC, rfl⟩
                            simp [execOp, f153]
                          · -- 29: 155 := Op.move t11
                            intro ρ w1 hC hf
                            intro gv hgv
                            have hgv : gv = .bool false := hgv
                            refine ⟨fun _ => ?_, fun hne => absurd hgv hne⟩
                            have f11 : ρ (.tmp 11) = .int .u8 ((a : Nat) : Int) := hf.1 11 (by simp [Op.operands])
                            refine ok_value (v := .int .u8 ((a : Nat) : Int)) (w' := w1) ?_ ⟨Below.refl _ _, hC, rfl⟩
                            simp [execOp, f11]
                          · -- 30: 156 := Op.move t13
                            intro ρ w1 hC hf
                            intro gv hgv
                            have hgv : gv = .bool false := hgv
                            refine ⟨fun _ => ?_, fun hne => absurd hgv hne⟩
                            have f13 : ρ (.tmp 13) = .int .u8 ((b : Nat) : Int) := hf.1 13 (by simp [Op.operands])
                            refine ok_value (v := .int .u8 ((b : Nat) : Int)) (w' := w1) ?_ ⟨Below.refl _ _, hC, rfl⟩
                            simp [execOp, f13]
                          · -- 31: 157 := Op.buildSlice 23 2 #[(0, t155), (1, t156)]
                            intro ρ w1 hC hf
                            intro gv hgv
                            have hgv : gv = .bool false := hgv
                            refine ⟨fun _ => ?_, fun hne => absurd hgv hne⟩
                            have f155 : ρ (.tmp 155) = .int .u8 ((a : Nat) : Int) := hf.1 155 (by simp [Op.operands])
                            have f156 : ρ (.tmp 156) = .int .u8 ((b : Nat) : Int) := hf.1 156 (by simp [Op.operands])
                            exact ok_bytes [a, b] (by simp [execOp, f155, f156, go_sem, u8s]) rfl hC (fun w2 h hb => hCst _ _ h hb)
                          · -- 32: 158 := Op.call ( value (Operand.func 19), args := #[t157], argTypes
                            intro ρ w1 hC hf
                            intro gv hgv
                            have hgv : gv = .bool false := hgv
                            refine ⟨fun _ => ?_, fun hne => absurd hgv hne⟩
                            obtain ⟨g157, f157, l157, c157⟩ : Spec.holds (.bytes [a, b]) (ρ (.tmp 157)) w1 := hf.1 157 (by simp [Op.operands, Call.operands])
                            exact ok_call (f := 19) (args := #[.slice (some ⟨g157, 0, none⟩) 2 2]) (by simp [execOp, f157, hf.2.2.2, go_sem]) ((law_mask _ _ _ [a, b] _ (byt_of_holds c157 l157 hab (by simp))).mono fun e w2 ⟨he, hw⟩ => ⟨_, he, hw ▸ Below.refl _ _, hw ▸ hC, rfl⟩)
                          · -- 33: 159 := Op.move t15
                            intro ρ w1 hC hf
                            intro gv hgv
                            have hgv : gv = .bool false := hgv
                            refine ⟨fun _ => ?_, fun hne => absurd hgv hne⟩
                            have f15 : ρ (.tmp 15) = .int .u8 ((c : Nat) : Int) := hf.1 15 (by simp [Op.operands])
                            refine ok_value (v := .int .u8 ((c : Nat) : Int)) (w' := w1) ?_ ⟨Below.refl _ _, hC, rfl⟩
                            simp [execOp, f15]
                          · -- 34: 160 := Op.buildSlice 23 1 #[(0, t159)]
                            intro ρ w1 hC hf
                            intro gv hgv
                            have hgv : gv = .bool false := hgv
                            refine ⟨fun _ => ?_, fun hne => absurd hgv hne⟩
                            have f159 : ρ (.tmp 159) = .int .u8 ((c : Nat) : Int) := hf.1 159 (by simp [Op.operands])
                            exact ok_bytes [c] (by simp [execOp, f159, go_sem, u8s]) rfl hC (fun w2 h hb => hCst _ _ h hb)
                          · -- 35: 161 := Op.call ( value (Operand.func 11), args := #[const (4:u8), t
                            intro ρ w1 hC hf
                            intro gv hgv
                            have hgv : gv = .bool false := hgv
                            refine ⟨fun _ => ?_, fun hne => absurd hgv hne⟩
                            have f158 : ρ (.tmp 158) = .int .u64 ((maskOf [a, b] : Nat) : Int) := hf.1 158 (by simp [Op.operands, Call.operands])
                            obtain ⟨g160, f160, l160, c160⟩ : Spec.holds (.bytes [c]) (ρ (.tmp 160)) w1 := hf.1 160 (by simp [Op.operands, Call.operands])
                            exact ok_call (f := 11) (args := #[.int .u8 4, .int .u64 ((maskOf [a, b] : Nat) : Int), .slice (some ⟨g160, 0, none⟩) 1 1]) (by simp [execOp, f158, f160, hf.2.1, hf.2.2.2, go_sem]) ((law_plays 4 _ _ _ _ [c] _ (maskOf_w64 _) (byt_of_holds c160 l160 hcc (by simp)) (fun h => by cases h) (by simp) hC.1).mono fun e w2 ⟨he, hb⟩ => ⟨_, he, hb, hCst _ _ hC hb, rfl⟩)
                          · -- 36: 162 := Op.unOp UnOp.not 4 t161
                            intro ρ w1 hC hf
                            intro gv hgv
                            have hgv : gv = .bool false := hgv
                            refine ⟨fun _ => ?_, fun hne => absurd hgv hne⟩
                            have f161 : ρ (.tmp 161) = .bool true := hf.1 161 (by simp [Op.operands])
                            refine ok_value (v := .bool false) (w' := w1) ?_ ⟨Below.refl _ _, hC, rfl⟩
                            simp [execOp, f161, go_sem]
                          · -- 37: 163 := Op.pick t154 (const (Value.bool true)) t162
                            intro ρ w1 hC hf
                            show OpOk _ _ _ _ _
                            have f154 : ρ (.tmp 154) = .bool false := hf.1 154 (by simp [Op.operands])
                            have f162 : ρ (.tmp 162) = .bool false := hf.1 162 (by simp [Op.operands])
                            refine ok_value (v := .bool false) (w' := w1) ?_ ⟨Below.refl _ _, hC, rfl⟩
                            simp [execOp, f154, f162, hf.2.1, go_sem]
                        case fini =>
                          intro vs w1 hlen hsp hC hb1
                          have hl0 : vs.length = 38 := hlen
                          clear hlen
                          obtain ⟨v0, t0, rfl, hl1⟩ := uncons hl0
                          clear hl0
                          obtain ⟨v1, t1, rfl, hl2⟩ := uncons hl1
                          clear hl1
                          obtain ⟨v2, t2, rfl, hl3⟩ := uncons hl2
                          clear hl2
                          obtain ⟨v3, t3, rfl, hl4⟩ := uncons hl3
                          clear hl3
                          obtain ⟨v4, t4, rfl, hl5⟩ := uncons hl4
                          clear hl4
                          obtain ⟨v5, t5, rfl, hl6⟩ := uncons hl5
                          clear hl5
                          obtain ⟨v6, t6, rfl, hl7⟩ := uncons hl6
                          clear hl6
                          obtain ⟨v7, t7, rfl, hl8⟩ := uncons hl7
                          clear hl7
                          obtain ⟨v8, t8, rfl, hl9⟩ := uncons hl8
                          clear hl8
                          obtain ⟨v9, t9, rfl, hl10⟩ := uncons hl9
                          clear hl9
                          obtain ⟨v10, t10, rfl, hl11⟩ := uncons hl10
                          clear hl10
                          obtain ⟨v11, t11, rfl, hl12⟩ := uncons hl11
                          clear hl11
                          obtain ⟨v12, t12, rfl, hl13⟩ := uncons hl12
                          clear hl12
                          obtain ⟨v13, t13, rfl, hl14⟩ := uncons hl13
                          clear hl13
                          obtain ⟨v14, t14, rfl, hl15⟩ := uncons hl14
                          clear hl14
                          obtain ⟨v15, t15, rfl, hl16⟩ := uncons hl15
                          clear hl15
                          obtain ⟨v16, t16, rfl, hl17⟩ := uncons hl16
                          clear hl16
                          obtain ⟨v17, t17, rfl, hl18⟩ := uncons hl17
                          clear hl17
                          obtain ⟨v18, t18, rfl, hl19⟩ := uncons hl18
                          clear hl18
                          obtain ⟨v19, t19, rfl, hl20⟩ := uncons hl19
                          clear hl19
                          obtain ⟨v20, t20, rfl, hl21⟩ := uncons hl20
                          clear hl20
                          obtain ⟨v21, t21, rfl, hl22⟩ := uncons hl21
                          clear hl21
                          obtain ⟨v22, t22, rfl, hl23⟩ := uncons hl22
                          clear hl22
                          obtain ⟨v23, t23, rfl, hl24⟩ := uncons hl23
                          clear hl23
                          obtain ⟨v24, t24, rfl, hl25⟩ := uncons hl24
                          clear hl24
                          obtain ⟨v25, t25, rfl, hl26⟩ := uncons hl25
                          clear hl25
                          obtain ⟨v26, t26, rfl, hl27⟩ := uncons hl26
                          clear hl26
                          obtain ⟨v27, t27, rfl, hl28⟩ := uncons hl27
                          clear hl27
                          obtain ⟨v28, t28, rfl, hl29⟩ := uncons hl28
                          clear hl28
                          obtain ⟨v29, t29, rfl, hl30⟩ := uncons hl29
                          clear hl29
                          obtain ⟨v30, t30, rfl, hl31⟩ := uncons hl30
                          clear hl30
                          obtain ⟨v31, t31, rfl, hl32⟩ := uncons hl31
                          clear hl31
                          obtain ⟨v32, t32, rfl, hl33⟩ := uncons hl32
                          clear hl32
                          obtain ⟨v33, t33, rfl, hl34⟩ := uncons hl33
                          clear hl33
                          obtain ⟨v34, t34, rfl, hl35⟩ := uncons hl34
                          clear hl34
                          obtain ⟨v35, t35, rfl, hl36⟩ := uncons hl35
                          clear hl35
                          obtain ⟨v36, t36, rfl, hl37⟩ := uncons hl36
                          clear hl36
                          obtain ⟨v37, t37, rfl, hl38⟩ := uncons hl37
                          clear hl37
                          obtain rfl := List.eq_nil_of_length_eq_zero hl38
                          have h37 : v37 = .bool false := hsp 37 v37 rfl
                          have hB1 := hBu.trans (hb1.mono hBu.size)
                          have hz1 := hC.2
                          clear hsp hC
                          subst h37
                          simp only [putAll, List.zip_cons_cons, List.zip_nil_right, List.foldl_cons, List.foldl_nil]
                          simp only [Act.put, List.setIfInBounds_toArray, List.set_cons_succ, List.set_cons_zero]
                          go_wp2_with fail
                          go_roundg (12 - (j + 1))
                          case rel => exact ⟨j + 1, by omega, rfl, by go_num, hB1, hz1⟩
                          case measure => omega
                      · refine wp_region_relies (fun w1 => Tab w1 ∧ Byt w1 (some ⟨g, 0, none⟩) 12 Z) (spOf [.eq (.int .i64 ((i : Nat) : Int)), .eq (.int .i64 ((k : Nat) : Int)), .eq (.int .i64 ((i + k : Nat) : Int)), .eq (.int .i64 ((j : Nat) : Int)), .eq (.int .i64 ((i + k + j : Nat) : Int)), .eq (.int .i64 (((i + k + j) % 2 : Nat) : Int)), .eq (.bool false), .eq (.bool false), .eq (undef), .eq (undef), .eq (undef), .eq (undef), .eq (undef), .eq (undef), .eq (undef), .eq (undef), .eq (undef), .eq (undef), .eq (undef), .eq (undef), .eq (undef), .eq (undef), .eq (undef), .eq (undef), .eq (undef), .eq (undef), .eq (undef), .eq (.bool false), .eq (.bool false), .eq (.int .u8 ((a : Nat) : Int)), .eq (.int .u8 ((b : Nat) : Int)), .bytes ([a, b]), .eq (.int .u64 ((maskOf [a, b] : Nat) : Int)), .eq (.int .u8 ((c : Nat) : Int)), .bytes ([c]), .eq (.bool true), .eq (.bool false), .eq (.bool false)]) (by kernel_rfl) (by kernel_rfl) (by kernel_rfl) (by kernel_rfl) (spOf_stable _) ⟨hTab.below hTab.pos hBu.drew, hzu.below (Nat.le_refl _) (Below.refl _ _).drew⟩ ?obls ?fini
                        case obls =>
                          refine ⟨?_, ?_, ?_, ?_, ?_, ?_, ?_, ?_, ?_, ?_, ?_, ?_, ?_, ?_, ?_, ?_, ?_, ?_, ?_, ?_, ?_, ?_, ?_, ?_, ?_, ?_, ?_, ?_, ?_, ?_, ?_, ?_, ?_, ?_, ?_, ?_, ?_, ?_, trivial⟩
                          · -- 0: 126 := Op.move t10
                            intro ρ w1 hC hf
                            show OpOk _ _ _ _ _
                            have f10 : ρ (.tmp 10) = .int .i64 ((i : Nat) : Int) := hf.1 10 (by simp [Op.operands])
                            refine ok_value (v := .int .i64 ((i : Nat) : Int)) (w' := w1) ?_ ⟨Below.refl _ _, hC, rfl⟩
                            simp [execOp, f10]
                          · -- 1: 127 := Op.move t12
                            intro ρ w1 hC hf
                            show OpOk _ _ _ _ _
                            have f12 : ρ (.tmp 12) = .int .i64 ((k : Nat) : Int) := hf.1 12 (by simp [Op.operands])
                            refine ok_value (v := .int .i64 ((k : Nat) : Int)) (w' := w1) ?_ ⟨Below.refl _ _, hC, rfl⟩
                            simp [execOp, f12]
                          · -- 2: 128 := Op.binOp BinOp.add 3 t126 t127 3
                            intro ρ w1 hC hf
                            show OpOk _ _ _ _ _
                            have f126 : ρ (.tmp 126) = .int .i64 ((i : Nat) : Int) := hf.1 126 (by simp [Op.operands])
                            have f127 : ρ (.tmp 127) = .int .i64 ((k : Nat) : Int) := hf.1 127 (by simp [Op.operands])
                            refine ok_value (v := .int .i64 ((i + k : Nat) : Int)) (w' := w1) ?_ ⟨Below.refl _ _, hC, rfl⟩
                            simp [execOp, f126, f127, go_sem]
                            exact IntWalk.i64_in _ (by omega)
                          · -- 3: 129 := Op.move t14
                            intro ρ w1 hC hf
                            show OpOk _ _ _ _ _
                            have f14 : ρ (.tmp 14) = .int .i64 ((j : Nat) : Int) := hf.1 14 (by simp [Op.operands])
                            refine ok_value (v := .int .i64 ((j : Nat) : Int)) (w' := w1) ?_ ⟨Below.refl _ _, hC, rfl⟩
                            simp [execOp, f14]
                          · -- 4: 130 := Op.binOp BinOp.add 3 t128 t129 3
                            intro ρ w1 hC hf
                            show OpOk _ _ _ _ _
                            have f128 : ρ (.tmp 128) = .int .i64 ((i + k : Nat) : Int) := hf.1 128 (by simp [Op.operands])
                            have f129 : ρ (.tmp 129) = .int .i64 ((j : Nat) : Int) := hf.1 129 (by simp [Op.operands])
                            refine ok_value (v := .int .i64 ((i + k + j : Nat) : Int)) (w' := w1) ?_ ⟨Below.refl _ _, hC, rfl⟩
                            simp [execOp, f128, f129, go_sem]
                            exact IntWalk.i64_in _ (by omega)
                          · -- 5: 131 := Op.binOp BinOp.rem 3 t130 (const (2:i64)) 3
                            intro ρ w1 hC hf
                            show OpOk _ _ _ _ _
                            have f130 : ρ (.tmp 130) = .int .i64 ((i + k + j : Nat) : Int) := hf.1 130 (by simp [Op.operands])
                            refine ok_value (v := .int .i64 (((i + k + j) % 2 : Nat) : Int)) (w' := w1) ?_ ⟨Below.refl _ _, hC, rfl⟩
                            simp [execOp, f130, hf.2.1, go_sem]
                            exact Int.tmod_eq_emod_of_nonneg (by omega)
                          · -- 6: 132 := Op.binOp BinOp.eql 3 t131 (const (0:i64)) 3
                            intro ρ w1 hC hf
                            show OpOk _ _ _ _ _
                            have f131 : ρ (.tmp 131) = .int .i64 (((i + k + j) % 2 : Nat) : Int) := hf.1 131 (by simp [Op.operands])
                            refine ok_value (v := .bool false) (w' := w1) ?_ ⟨Below.refl _ _, hC, rfl⟩
                            simp [execOp, f131, hf.2.1, go_sem]
                            omega
                          · -- 7: 133 := Op.move t132
                            intro ρ w1 hC hf
                            show OpOk _ _ _ _ _
                            have f132 : ρ (.tmp 132) = .bool false := hf.1 132 (by simp [Op.operands])
                            refine ok_value (v := .bool false) (w' := w1) ?_ ⟨Below.refl _ _, hC, rfl⟩
                            simp [execOp, f132]
                          · -- 8: 134 := Op.move t10
                            intro ρ w1 hC hf
                            intro gv hgv
                            have hgv : gv = .bool false := hgv
                            exact ⟨(fun he => by rw [hgv] at he; cases he), fun _ => rfl⟩
                          · -- 9: 135 := Op.binOp BinOp.rem 3 t134 (const (5:i64)) 3
                            intro ρ w1 hC hf
                            intro gv hgv
                            have hgv : gv = .bool false := hgv
                            exact ⟨(fun he => by rw [hgv] at he; cases he), fun _ => rfl⟩
                          · -- 10: 136 := Op.convert 3 5 t135
                            intro ρ w1 hC hf
                            intro gv hgv
                            have hgv : gv = .bool false := hgv
                            exact ⟨(fun he => by rw [hgv] at he; cases he), fun _ => rfl⟩
                          · -- 11: 137 := Op.move t11
                            intro ρ w1 hC hf
                            intro gv hgv
                            have hgv : gv = .bool false := hgv
                            exact ⟨(fun he => by rw [hgv] at he; cases he), fun _ => rfl⟩
                          · -- 12: 138 := Op.move t13
                            intro ρ w1 hC hf
                            intro gv hgv
                            have hgv : gv = .bool false := hgv
                            exact ⟨(fun he => by rw [hgv] at he; cases he), fun _ => rfl⟩
                          · -- 13: 139 := Op.buildSlice 23 2 #[(0, t137), (1, t138)]
                            intro ρ w1 hC hf
                            intro gv hgv
                            have hgv : gv = .bool false := hgv
                            exact ⟨(fun he => by rw [hgv] at he; cases he), fun _ => rfl⟩
                          · -- 14: 140 := Op.call ( value (Operand.func 19), args := #[t139], argTypes
                            intro ρ w1 hC hf
                            intro gv hgv
                            have hgv : gv = .bool false := hgv
                            exact ⟨(fun he => by rw [hgv] at he; cases he), fun _ => rfl⟩
                          · -- 15: 141 := Op.move t15
                            intro ρ w1 hC hf
                            intro gv hgv
                            have hgv : gv = .bool false := hgv
                            exact ⟨(fun he => by rw [hgv] at he; cases he), fun _ => rfl⟩
                          · -- 16: 142 := Op.move t9
                            intro ρ w1 hC hf
                            intro gv hgv
                            have hgv : gv = .bool false := hgv
                            exact ⟨(fun he => by rw [hgv] at he; cases he), fun _ => rfl⟩
                          · -- 17: 143 := Op.move t14
                            intro ρ w1 hC hf
                            intro gv hgv
                            have hgv : gv = .bool false := hgv
                            exact ⟨(fun he => by rw [hgv] at he; cases he), fun _ => rfl⟩
                          · -- 18: 144 := Op.binOp BinOp.add 3 t143 (const (1:i64)) 3
                            intro ρ w1 hC hf
                            intro gv hgv
                            have hgv : gv = .bool false := hgv
                            exact ⟨(fun he => by rw [hgv] at he; cases he), fun _ => rfl⟩
                          · -- 19: 145 := Op.move t12
                            intro ρ w1 hC hf
                            intro gv hgv
                            have hgv : gv = .bool false := hgv
                            exact ⟨(fun he => by rw [hgv] at he; cases he), fun _ => rfl⟩
                          · -- 20: 146 := Op.binOp BinOp.add 3 t144 t145 3
                            intro ρ w1 hC hf
                            intro gv hgv
                            have hgv : gv = .bool false := hgv
                            exact ⟨(fun he => by rw [hgv] at he; cases he), fun _ => rfl⟩
                          · -- 21: 147 := Op.binOp BinOp.rem 3 t146 (const (12:i64)) 3
                            intro ρ w1 hC hf
                            intro gv hgv
                            have hgv : gv = .bool false := hgv
                            exact ⟨(fun he => by rw [hgv] at he; cases he), fun _ => rfl⟩
                          · -- 22: 148 := Op.indexAddr 23 t142 t147
                            intro ρ w1 hC hf
                            intro gv hgv
                            have hgv : gv = .bool false := hgv
                            exact ⟨(fun he => by rw [hgv] at he; cases he), fun _ => rfl⟩
                          · -- 23: 149 := Op.load 5 t148
                            intro ρ w1 hC hf
                            intro gv hgv
                            have hgv : gv = .bool false := hgv
                            exact ⟨(fun he => by rw [hgv] at he; cases he), fun _ => rfl⟩
                          · -- 24: 150 := Op.buildSlice 23 2 #[(0, t141), (1, t149)]
                            intro ρ w1 hC hf
                            intro gv hgv
                            have hgv : gv = .bool false := hgv
                            exact ⟨(fun he => by rw [hgv] at he; cases he), fun _ => rfl⟩
                          · -- 25: 151 := Op.call ( value (Operand.func 11), args := #[t136, t140, t15
                            intro ρ w1 hC hf
                            intro gv hgv
                            have hgv : gv = .bool false := hgv
                            exact ⟨(fun he => by rw [hgv] at he; cases he), fun _ => rfl⟩
                          · -- 26: 152 := Op.unOp UnOp.not 4 t151
                            intro ρ w1 hC hf
                            intro gv hgv
                            have hgv : gv = .bool false := hgv
                            exact ⟨(fun he => by rw [hgv] at he; cases he), fun _ => rfl⟩
                          · -- 27: 153 := Op.pick t133 t152 (const (Value.bool false))
                            intro ρ w1 hC hf
                            show OpOk _ _ _ _ _
                            have f133 : ρ (.tmp 133) = .bool false := hf.1 133 (by simp [Op.operands])
                            have f152 : ρ (.tmp 152) = undef := hf.1 152 (by simp [Op.operands])
                            refine ok_value (v := .bool false) (w' := w1) ?_ ⟨Below.refl _ _, hC, rfl⟩
                            simp [execOp, f133, f152, hf.2.1, go_sem]
                          · -- 28: 154 := Op.move t153
                            intro ρ w1 hC hf
                            show OpOk _ _ _ _ _
                            have f153 : ρ (.tmp 153) = .bool false := hf.1 153 (by simp [Op.operands])
                            refine ok_value (v := .bool false) (w' := w1) ?_ ⟨Below.refl _ _, hC, rfl⟩
                            simp [execOp, f153]
                          · -- 29: 155 := Op.move t11
                            intro ρ w1 hC hf
                            intro gv hgv
                            have hgv : gv = .bool false := hgv
                            refine ⟨fun _ => ?_, fun hne => absurd hgv hne⟩
                            have f11 : ρ (.tmp 11) = .int .u8 ((a : Nat) : Int) := hf.1 11 (by simp [Op.operands])
                            refine ok_value (v := .int .u8 ((a : Nat) : Int)) (w' := w1) ?_ ⟨Below.refl _ _, hC, rfl⟩
                            simp [execOp, f11]
                          · -- 30: 156 := Op.move t13
                            intro ρ w1 hC hf
                            intro gv hgv
                            have hgv : gv = .bool false := hgv
                            refine ⟨fun _ => ?_, fun hne => absurd hgv hne⟩
                            have f13 : ρ (.tmp 13) = .int .u8 ((b : Nat) : Int) := hf.1 13 (by simp [Op.operands])
                            refine ok_value (v := .int .u8 ((b : Nat) : Int)) (w' := w1) ?_ ⟨Below.refl _ _, hC, rfl⟩
                            simp [execOp, f13]
                          · -- 31: 157 := Op.buildSlice 23 2 #[(0, t155), (1, t156)]
                            intro ρ w1 hC hf
                            intro gv hgv
                            have hgv : gv = .bool false := hgv
                            refine ⟨fun _ => ?_, fun hne => absurd hgv hne⟩
                            have f155 : ρ (.tmp 155) = .int .u8 ((a : Nat) : Int) := hf.1 155 (by simp [Op.operands])
                            have f156 : ρ (.tmp 156) = .int .u8 ((b : Nat) : Int) := hf.1 156 (by simp [Op.operands])
                            exact ok_bytes [a, b] (by simp [execOp, f155, f156, go_sem, u8s]) rfl hC (fun w2 h hb => hCst _ _ h hb)
                          · -- 32: 158 := Op.call ( value (Operand.func 19), args := #[t157], argTypes
                            intro ρ w1 hC hf
                            intro gv hgv
                            have hgv : gv = .bool false := hgv
                            refine ⟨fun _ => ?_, fun hne => absurd hgv hne⟩
                            obtain ⟨g157, f157, l157, c157⟩ : Spec.holds (.bytes [a, b]) (ρ (.tmp 157)) w1 := hf.1 157 (by simp [Op.operands, Call.operands])
                            exact ok_call (f := 19) (args := #[.slice (some ⟨g157, 0, none⟩) 2 2]) (by simp [execOp, f157, hf.2.2.2, go_sem]) ((law_mask _ _ _ [a, b] _ (byt_of_holds c157 l157 hab (by simp))).mono fun e w2 ⟨he, hw⟩ => ⟨_, he, hw ▸ Below.refl _ _, hw ▸ hC, rfl⟩)
                          · -- 33: 159 := Op.move t15
                            intro ρ w1 hC hf
                            intro gv hgv
                            have hgv : gv = .bool false := hgv
                            refine ⟨fun _ => ?_, fun hne => absurd hgv hne⟩
                            have f15 : ρ (.tmp 15) = .int .u8 ((c : Nat) : Int) := hf.1 15 (by simp [Op.operands])
                            refine ok_value (v := .int .u8 ((c : Nat) : Int)) (w' := w1) ?_ ⟨Below.refl _ _, hC, rfl⟩
                            simp [execOp, f15]
                          · -- 34: 160 := Op.buildSlice 23 1 #[(0, t159)]
                            intro ρ w1 hC hf
                            intro gv hgv
                            have hgv : gv = .bool false := hgv
                            refine ⟨fun _ => ?_, fun hne => absurd hgv hne⟩
                            have f159 : ρ (.tmp 159) = .int .u8 ((c : Nat) : Int) := hf.1 159 (by simp [Op.operands])
                            exact ok_bytes [c] (by simp [execOp, f159, go_sem, u8s]) rfl hC (fun w2 h hb => hCst _ _ h hb)
                          · -- 35: 161 := Op.call ( value (Operand.func 11), args := #[const (4:u8), t
                            intro ρ w1 hC hf
                            intro gv hgv
                            have hgv : gv = .bool false := hgv
                            refine ⟨fun _ => ?_, fun hne => absurd hgv hne⟩
                            have f158 : ρ (.tmp 158) = .int .u64 ((maskOf [a, b] : Nat) : Int) := hf.1 158 (by simp [Op.operands, Call.operands])
                            obtain ⟨g160, f160, l160, c160⟩ : Spec.holds (.bytes [c]) (ρ (.tmp 160)) w1 := hf.1 160 (by simp [Op.operands, Call.operands])
                            exact ok_call (f := 11) (args := #[.int .u8 4, .int .u64 ((maskOf [a, b] : Nat) : Int), .slice (some ⟨g160, 0, none⟩) 1 1]) (by simp [execOp, f158, f160, hf.2.1, hf.2.2.2, go_sem]) ((law_plays 4 _ _ _ _ [c] _ (maskOf_w64 _) (byt_of_holds c160 l160 hcc (by simp)) (fun h => by cases h) (by simp) hC.1).mono fun e w2 ⟨he, hb⟩ => ⟨_, he, hb, hCst _ _ hC hb, rfl⟩)
                          · -- 36: 162 := Op.unOp UnOp.not 4 t161
                            intro ρ w1 hC hf
                            intro gv hgv
                            have hgv : gv = .bool false := hgv
                            refine ⟨fun _ => ?_, fun hne => absurd hgv hne⟩
                            have f161 : ρ (.tmp 161) = .bool true := hf.1 161 (by simp [Op.operands])
                            refine ok_value (v := .bool false) (w' := w1) ?_ ⟨Below.refl _ _, hC, rfl⟩
                            simp [execOp, f161, go_sem]
                          · -- 37: 163 := Op.pick t154 (const (Value.bool true)) t162
                            intro ρ w1 hC hf
                            show OpOk _ _ _ _ _
                            have f154 : ρ (.tmp 154) = .bool false := hf.1 154 (by simp [Op.operands])
                            have f162 : ρ (.tmp 162) = .bool false := hf.1 162 (by simp [Op.operands])
                            refine ok_value (v := .bool false) (w' := w1) ?_ ⟨Below.refl _ _, hC, rfl⟩
                            simp [execOp, f154, f162, hf.2.1, go_sem]
                        case fini =>
                          intro vs w1 hlen hsp hC hb1
                          have hl0 : vs.length = 38 := hlen
                          clear hlen
                          obtain ⟨v0, t0, rfl, hl1⟩ := uncons hl0
                          clear hl0
                          obtain ⟨v1, t1, rfl, hl2⟩ := uncons hl1
                          clear hl1
                          obtain ⟨v2, t2, rfl, hl3⟩ := uncons hl2
                          clear hl2
                          obtain ⟨v3, t3, rfl, hl4⟩ := uncons hl3
                          clear hl3
                          obtain ⟨v4, t4, rfl, hl5⟩ := uncons hl4
                          clear hl4
                          obtain ⟨v5, t5, rfl, hl6⟩ := uncons hl5
                          clear hl5
                          obtain ⟨v6, t6, rfl, hl7⟩ := uncons hl6
                          clear hl6
                          obtain ⟨v7, t7, rfl, hl8⟩ := uncons hl7
                          clear hl7
                          obtain ⟨v8, t8, rfl, hl9⟩ := uncons hl8
                          clear hl8
                          obtain ⟨v9, t9, rfl, hl10⟩ := uncons hl9
                          clear hl9
                          obtain ⟨v10, t10, rfl, hl11⟩ := uncons hl10
                          clear hl10
                          obtain ⟨v11, t11, rfl, hl12⟩ := uncons hl11
                          clear hl11
                          obtain ⟨v12, t12, rfl, hl13⟩ := uncons hl12
                          clear hl12
                          obtain ⟨v13, t13, rfl, hl14⟩ := uncons hl13
                          clear hl13
                          obtain ⟨v14, t14, rfl, hl15⟩ := uncons hl14
                          clear hl14
                          obtain ⟨v15, t15, rfl, hl16⟩ := uncons hl15
                          clear hl15
                          obtain ⟨v16, t16, rfl, hl17⟩ := uncons hl16
                          clear hl16
                          obtain ⟨v17, t17, rfl, hl18⟩ := uncons hl17
                          clear hl17
                          obtain ⟨v18, t18, rfl, hl19⟩ := uncons hl18
                          clear hl18
                          obtain ⟨v19, t19, rfl, hl20⟩ := uncons hl19
                          clear hl19
                          obtain ⟨v20, t20, rfl, hl21⟩ := uncons hl20
                          clear hl20
                          obtain ⟨v21, t21, rfl, hl22⟩ := uncons hl21
                          clear hl21
                          obtain ⟨v22, t22, rfl, hl23⟩ := uncons hl22
                          clear hl22
                          obtain ⟨v23, t23, rfl, hl24⟩ := uncons hl23
                          clear hl23
                          obtain ⟨v24, t24, rfl, hl25⟩ := uncons hl24
                          clear hl24
                          obtain ⟨v25, t25, rfl, hl26⟩ := uncons hl25
                          clear hl25
                          obtain ⟨v26, t26, rfl, hl27⟩ := uncons hl26
                          clear hl26
                          obtain ⟨v27, t27, rfl, hl28⟩ := uncons hl27
                          clear hl27
                          obtain ⟨v28, t28, rfl, hl29⟩ := uncons hl28
                          clear hl28
                          obtain ⟨v29, t29, rfl, hl30⟩ := uncons hl29
                          clear hl29
                          obtain ⟨v30, t30, rfl, hl31⟩ := uncons hl30
                          clear hl30
                          obtain ⟨v31, t31, rfl, hl32⟩ := uncons hl31
                          clear hl31
                          obtain ⟨v32, t32, rfl, hl33⟩ := uncons hl32
                          clear hl32
                          obtain ⟨v33, t33, rfl, hl34⟩ := uncons hl33
                          clear hl33
                          obtain ⟨v34, t34, rfl, hl35⟩ := uncons hl34
                          clear hl34
                          obtain ⟨v35, t35, rfl, hl36⟩ := uncons hl35
                          clear hl35
                          obtain ⟨v36, t36, rfl, hl37⟩ := uncons hl36
                          clear hl36
                          obtain ⟨v37, t37, rfl, hl38⟩ := uncons hl37
                          clear hl37
                          obtain rfl := List.eq_nil_of_length_eq_zero hl38
                          have h37 : v37 = .bool false := hsp 37 v37 rfl
                          have hB1 := hBu.trans (hb1.mono hBu.size)
                          have hz1 := hC.2
                          clear hsp hC
                          subst h37
                          simp only [putAll, List.zip_cons_cons, List.zip_nil_right, List.foldl_cons, List.foldl_nil]
                          simp only [Act.put, List.setIfInBounds_toArray, List.set_cons_succ, List.set_cons_zero]
                          go_wp2_with fail
                          go_roundg (12 - (j + 1))
                          case rel => exact ⟨j + 1, by omega, rfl, by go_num, hB1, hz1⟩
                          case measure => omega
                    · obtain rfl : j = 12 := by omega
                      go_wp2_with fail
                      go_roundg (12 - (k + 1))
                      case rel => exact ⟨k + 1, by omega, rfl, by go_num, hBu, hzu⟩
                      case measure => omega
                · obtain rfl : k = 12 := by omega
                  go_wp2_with fail
                  go_roundg (12 - (i + 1))
                  case rel => exact ⟨i + 1, by omega, rfl, by go_num, hBs, hzs⟩
                  case measure => omega
            · obtain rfl : i = 12 := by omega
              have hnil : ∀ w1 : World, Byt w1 none 0 [] := fun w1 => ⟨rfl, by simp, fun i => by simp, .inl rfl⟩
              have HNIL := Lib.hid hnil
              have hmk : ∀ w1 : World, (Instr.makeSlice 23 (.int .i64 5) (.int .i64 5)).run Tryd.prog w1 = .ok (.slice (some ⟨w1.heap.size, 0, none⟩) 5 5) (w1.alloc (.cells #[.int .u8 0, .int .u8 0, .int .u8 0, .int .u8 0, .int .u8 0] 5)) := fun _ => by kernel_rfl
              clear hnil
              have hT0 := hTab.below hTab.pos hBr
              go_wp2_with fail
              refine (law_plays 0 0 none 0 0 [] _ W64.zero (HNIL.out _) (fun _ => rfl) (by decide) hT0).mono ?_
              rintro e w1 ⟨rfl, hb1⟩
              have hB1 := hBr.trans (hb1.mono hBr.size)
              have hT1 := hTab.below hTab.pos hB1
              go_wp2_with fail
              refine (law_plays 4 9223372036854775808 none 0 0 [] _ (by unfold W64; decide) (HNIL.out _) (fun _ => rfl) (by decide) hT1).mono ?_
              rintro e w2 ⟨rfl, hb2⟩
              have hB2 := hB1.trans (hb2.mono hB1.size)
              have hT2 := hTab.below hTab.pos hB2
              go_wp2_with fail
              refine (law_plays 5 7 none 0 0 [] _ (by unfold W64; decide) (HNIL.out _) (fun _ => rfl) (by decide) hT2).mono ?_
              rintro e w3 ⟨rfl, hb3⟩
              have hB3 := hB2.trans (hb3.mono hB2.size)
              go_wp2_with fail
              refine (law_tells 0 0 0 none 0 0 [] _ (by decide) (HNIL.out _) (fun _ => rfl) (by decide)).mono ?_
              rintro e w4 ⟨rfl, hb4⟩
              have hB4 := hB3.trans (hb4.mono hB3.size)
              have hs4 : w.heap.size ≤ w4.heap.size := hB4.size
              have hz5 := byt_lit w4 [0, 0, 0, 0, 0] #[.int .u8 0, .int .u8 0, .int .u8 0, .int .u8 0, .int .u8 0] rfl (by decide) (by intro i; rcases i with _ | _ | _ | _ | _ | _ <;> simp)
              have HZ5 := Lib.hid hz5
              clear hz5
              go_wp2_with fail
              refine (law_tells 0 0 0 _ 5 5 [0, 0, 0, 0, 0] _ (by decide) HZ5.out (fun h => by cases h) (by decide)).mono ?_
              rintro e w5 ⟨rfl, hb5⟩
              have hB5 : Below w.heap.size w w5 := (hB4.alloc hs4 _).trans (hb5.mono (by simp; omega))
              go_wp2_with fail
              refine (law_awake _ (hTab.below hTab.pos hB5)).mono ?_
              rintro e w6 ⟨rfl, hb6⟩
              go_wp2_with fail
              go_ret
              exact ⟨rfl, hB5.trans (hb6.mono hB5.size)⟩
end Go.Proofs.YthilcnhnfdddhaaDoor
