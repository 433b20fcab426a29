/- The reference of chapter 13 over this seat's program: seats. -/
import Derived.Test.YtdlnilebnobllaaMRfa
import Derived.Test.YtdlnilebnobllaaMKit
import Derived.Deep.Cut
import Derived.BigQuiet
import Derived.Deep.QuietTactic
namespace Go.Proofs.Ytdlnilebnobllaa
open Go.RowKit Go.Shelf Go.Sort

/-- at the head of a round of the loop of seats -/
def SeatRel (r : Rc) (a : Option Addr) (len cap : Nat) (w : World) (gk : Nat) (out ld i : Value) (wr : World) : Prop :=
  ∃ k : Nat, gk = len - k ∧ k ≤ len ∧ k ≤ r.good ∧ i = .int .i64 (k : Int) ∧ ld = .int .u8 (ldAt r.t r.ld0 r.zs ((k - 1) / 4) : Int) ∧ OwnU wr (w.heap.size + 1) out (seatsTo r k) ∧ Row wr w.heap.size 57 (r.cells a len cap) ∧ Below w.heap.size w wr
/-- none of the first k cards is z -/
def NeTo (zs : List Nat) (z k : Nat) : Prop := ∀ j, j < k → zs.getD j 0 ≠ z
theorem NeTo.zero (zs : List Nat) (z : Nat) : NeTo zs z 0 := fun j hj => by omega
theorem NeTo.next {zs : List Nat} {z k : Nat} (h : NeTo zs z k) (h1 : zs.getD k 0 ≠ z) : NeTo zs z (k + 1) := fun j hj => by
  by_cases e : j = k
  · subst e; exact h1
  · exact h j (by omega)
theorem NeTo.not {zs : List Nat} {z k : Nat} (h : NeTo zs z k) : z ∉ zs.take k := by
  intro hm
  obtain ⟨j, hj, he⟩ := List.mem_take_iff_getElem.1 hm
  refine h j (by omega) ?_
  rw [List.getD_eq_getElem?_getD, List.getElem?_eq_getElem (by omega), he]; rfl
theorem mem_of_getD {zs : List Nat} {z j k : Nat} (hj : j < k) (hl : k ≤ zs.length) (h : zs.getD j 0 = z) : z ∈ zs.take k := by
  refine List.mem_take_iff_getElem.2 ⟨j, by omega, ?_⟩
  rw [List.getD_eq_getElem?_getD, List.getElem?_eq_getElem (by omega)] at h
  exact h
set_option maxHeartbeats 2000000 in
set_option maxRecDepth 100000 in
theorem rf_seats (r : Rc) (a : Option Addr) (len cap : Nat) (w : World) (hok : r.ok len cap) (hz : Byt w a len r.zs) (hd : r.dealt = true) (h60 : len ≤ 60000) :
    Calls Try.prog 41 #[r.v a len cap] w fun e w' => ∃ v, e = .returned (.tuple #[v, .int .i64 r.stop]) ∧ OwnU w' w.heap.size v (seatsTo r r.good) ∧ Below w.heap.size w w' := by
  have HD := Lib.hid hd
  have HW := Lib.hid hok.h
  have hlen := hz.length
  have HLEN := Lib.hid hlen
  have hgl := good_le r
  have hB0 := (Below.refl w.heap.size w).alloc (Nat.le_refl _) (.cells (r.cells a len cap) 57)
  have hR0 := Row.new w 57 (r.cells a len cap)
  have hd3 := (dealt_parts hd).2.1
  have hldI : ((r.d : Int) + 1) % 4 = (r.ld0 : Int) := by unfold Rc.ld0; omega
  clear hd hlen hok
  go_enter Try.func41, Try.ntmps41
  go_wp2_with fail
  rw [hldI]
  clear hldI
  go_loopg [4, 5, 6] len (SeatRel r a len cap w)
  case atStart => exact ⟨0, by omega, by omega, by omega, rfl, rfl, Owns.nil encU_len _ _, hR0, hB0⟩
  case round =>
    obtain ⟨k, rfl, hk, hkg, rfl, rfl, hown, hR, hB⟩ := hrel
    by_cases hlt : k < len
    · have hltB : decide (k < len) = true := by rw [decide_eq_true_eq]; exact hlt
      by_cases h4 : k % 4 = 0 ∧ 0 < k
      · obtain ⟨i0, hi0⟩ : ∃ i0, k = i0 + 4 := ⟨k - 4, by omega⟩
        have hA4 : (k : Int) - 4 = (i0 : Int) := by omega
        have hA3 : (k : Int) - 3 = ((i0 + 1 : Nat) : Int) := by omega
        have h4J : ((k : Int) % 4 == 0) = true := by rw [beq_iff_eq]; omega
        have h4K : decide ((0 : Int) < (k : Int)) = true := by rw [decide_eq_true_eq]; omega
        have h4N : decide (0 < k) = true := by rw [decide_eq_true_eq]; omega
        have hsb := seat_best HD.out (j := i0 / 4) (by omega)
        rw [show 4 * (i0 / 4) = i0 by omega, show i0 / 4 + 1 = k / 4 by omega] at hsb
        obtain ⟨ld, hldE'⟩ : ∃ ld, ld = ldAt r.t r.ld0 r.zs (k / 4) := ⟨_, rfl⟩
        have hld : ld < 4 := by rw [hldE']; exact ldAt_lt r.t r.ld0 r.zs (show r.ld0 < 4 from Nat.mod_lt _ (by omega)) (k / 4)
        rw [← hldE'] at hsb
        have HSB := Lib.hid hsb
        have hldE := Lib.hid hldE'
        have HI0 := Lib.hid hi0
        clear hldE' hsb hi0 h4
        generalize ldAt r.t r.ld0 r.zs ((k - 1) / 4) = ld1 at *
        obtain ⟨ao, co, hv, hneo⟩ := Owns.slice hown
        obtain ⟨go, hgo⟩ := hneo (by intro e; have := congrArg List.length e; rw [seatsTo_length] at this; have h1 := HI0.out; simp at this; omega)
        rw [seatsTo_length] at hv
        subst hv
        subst hgo
        clear hneo
        have q6 := hR.cell 6
        simp only [List.getElem?_toArray, List.getElem?_cons_zero, List.getElem?_cons_succ] at q6
        have hb0 := Below.refl wr.heap.size wr
        obtain ⟨w3, rfl⟩ : ∃ w3 : World, w3 = wr := ⟨_, rfl⟩
        go_wp2_with fail
        clear q6
        go_loopg [8, 9] 3 (fun gm bst i wr => ∃ m : Nat, gm = 3 - m ∧ m ≤ 3 ∧ i = .int .i64 ((i0 + 1 + m : Nat) : Int) ∧ bst = .int .i64 (bestR r.t r.zs i0 m : Int) ∧ Below w3.heap.size w3 wr)
        case atStart => exact ⟨0, by omega, by omega, rfl, rfl, hb0⟩
        case round =>
          obtain ⟨m, rfl, hm, rfl, rfl, hbm⟩ := hrel
          obtain ⟨wb, rfl⟩ : ∃ wb : World, wb = wr := ⟨_, rfl⟩
          have hBb := hB.trans (hbm.mono hB.size)
          have hRb := hR.below hR.lt hbm
          have hOb := Owns.below hown hbm
          have hbg := bestR_ge r.t r.zs i0 m
          by_cases hm3 : m < 3
          · have hzm := hz.below (Nat.le_refl _) hBb
            obtain ⟨b, off, hadd, hbb, hcs⟩ := hzm.at (by omega)
            have hcm := hcs (i0 + 1 + m) (by have h1 := HI0.out; omega)
            have hc0 := hcs i0 (by have h1 := HI0.out; omega)
            have hcb := hcs (bestR r.t r.zs i0 m) (by have h1 := HI0.out; omega)
            have by1 := hzm.byte (i0 + 1 + m)
            have by2 := hzm.byte i0
            have by3 := hzm.byte (bestR r.t r.zs i0 m)
            have HBN := Lib.hid (show bestR r.t r.zs i0 (m + 1) = if betR (r.zs.getD (i0 + m + 1) 0) (r.zs.getD (bestR r.t r.zs i0 m) 0) (r.zs.getD i0 0 / 13) r.t then i0 + m + 1 else bestR r.t r.zs i0 m from rfl)
            rw [show i0 + m + 1 = i0 + 1 + m by omega] at HBN
            have hxk : i0 + 1 + m < len := by have h1 := HI0.out; omega
            have hyk : bestR r.t r.zs i0 m < len := by have h1 := HI0.out; omega
            have hzk : i0 < len := by have h1 := HI0.out; omega
            have hxB : decide (i0 + 1 + m < k) = true := by rw [decide_eq_true_eq, HI0.out]; omega
            have r4 := hRb.cell 4
            have r6 := hRb.cell 6
            simp only [List.getElem?_toArray, List.getElem?_cons_zero, List.getElem?_cons_succ] at r4 r6
            subst hadd
            clear hcs
            generalize bestR r.t r.zs i0 m = bst at *
            generalize r.zs.getD (i0 + 1 + m) 0 = z1 at *
            generalize r.zs.getD i0 0 = z0 at *
            generalize r.zs.getD bst 0 = z2 at *
            generalize hxE : i0 + 1 + m = x at *
            have HX := Lib.hid hxE
            clear hxE
            obtain ⟨q0, hq0⟩ : ∃ q0, q0 = z0 / 13 := ⟨_, rfl⟩
            rw [← hq0] at HBN
            have hdq : (z0 : Int) / 13 = (q0 : Int) := by omega
            have hq20 : q0 < 20 := by omega
            clear hq0
            have e6 : IntKind.i64.wrap (i0 : Int) = (i0 : Int) := by rw [IntKind.wrap_i64] <;> omega
            have e7 : IntKind.u8.wrap (q0 : Int) = (q0 : Int) := by rw [IntKind.wrap_u8]; omega
            have rcm := fun dd os => cell_regrown hcm dd os
            have rc0 := fun dd os => cell_regrown hc0 dd os
            have rcb := fun dd os => cell_regrown hcb dd os
            have rr4 := fun dd os => cell_regrown r4 dd os
            have rr6 := fun dd os => cell_regrown r6 dd os
            go_wp2
            refine wp_region_quiet_below (by kernel_rfl) (by kernel_rfl) ?_
            repeat (quiet_step ((exact Calls.regrown_of ((rf_better _ _ _ _ _ (by omega) (by omega)).mono fun _ _ ⟨he, hw⟩ => ⟨he, hw ▸ Below.refl _ _⟩))))
            refine wpQuiet_nil ?_
            rintro _ ⟨p, rfl⟩
            clear rcm rc0 rcb rr4 rr6 hdq e6 e7
            have hb9 := below_regrown wb p.d p.os
            generalize grow (redrawn wb p.d) p.os = w9 at *
            have hbm9 := hbm.trans (hb9.mono hbm.size)
            cases hbr : betR z1 z2 q0 r.t
            · have HB := Lib.hid hbr
              clear hbr
              go_wp2
              go_roundg (3 - (m + 1))
              case rel => exact ⟨m + 1, rfl, by omega, by rw [show i0 + 1 + (m + 1) = x + 1 by have := HX.out; omega]; go_num, by rw [HBN.out, HB.out]; rfl, hbm9⟩
              case measure => omega
            · have HB := Lib.hid hbr
              clear hbr
              go_wp2
              go_roundg (3 - (m + 1))
              case rel => exact ⟨m + 1, rfl, by omega, by rw [show i0 + 1 + (m + 1) = x + 1 by have := HX.out; omega]; go_num, by rw [HBN.out, HB.out]; rfl, hbm9⟩
              case measure => omega
          · have hm3' : m = 3 := by omega
            subst hm3'
            obtain ⟨hco, -⟩ := own_at hOb (k := bestR r.t r.zs i0 3) (by rw [seatsTo_length]; have h1 := HI0.out; omega)
            rw [seatsTo_get r (by have h1 := HI0.out; omega), HSB.out] at hco
            have hxB : decide (i0 + 1 + 3 < k) = false := by rw [decide_eq_false_iff_not, HI0.out]; omega
            have hbl : bestR r.t r.zs i0 3 < k := by have h1 := HI0.out; omega
            generalize i0 + 1 + 3 = x at *
            clear hbg hm hm3
            generalize bestR r.t r.zs i0 3 = bst at *
            clear hA3 hA4
            have hzb := hz.below (Nat.le_refl _) hBb
            obtain ⟨b, off, hadd, hbb, hcs⟩ := hzb.at (by omega)
            have hck := hcs k hlt
            have hby := hzb.byte k
            obtain ⟨st, hst⟩ : ∃ st, st = seatAt r.t r.ld0 r.zs k := ⟨_, rfl⟩
            have hst4 : st < 4 := by rw [hst]; exact seatAt_lt _ _ _ _
            have hstI : ((ld : Int) + ((k : Int) - ((k : Int) - (k : Int) % 4))) % 4 = (st : Int) := by rw [hst]; unfold seatAt; rw [← hldE.out]; omega
            have hcst : wb.cell? ⟨w.heap.size, st, none⟩ = some (.int .u64 (r.h st : Int)) := by
              rw [hRb.cell st]
              rcases (show st = 0 ∨ st = 1 ∨ st = 2 ∨ st = 3 by omega) with h | h | h | h <;> rw [h] <;> rfl
            have r6 := hRb.cell 6
            simp only [List.getElem?_toArray, List.getElem?_cons_zero, List.getElem?_cons_succ] at r6
            have HOK := Lib.hid (show okAt r.h r.t r.ld0 r.zs k ↔ (r.h st).testBit (r.zs.getD k 0) = true ∧ r.zs.getD k 0 ∉ r.zs.take k from by rw [hst]; exact Iff.rfl)
            have HBAD := Lib.hid (fun (h : ¬ okAt r.h r.t r.ld0 r.zs k) => stop_at HD.out hkg (by rw [HLEN.out]; exact hlt) h)
            have HGO := Lib.hid (fun (h : okAt r.h r.t r.ld0 r.zs k) => go_on HD.out hkg h (by rw [HLEN.out]; exact hlt))
            have HPK := Lib.hid (fun (h : (r.h st).testBit (r.zs.getD k 0) = true) => (dealt_pack HD.out).le st (r.zs.getD k 0) hst4 h)
            have HST := Lib.hid hst
            clear hst hcs
            subst hadd
            generalize hzE : r.zs.getD k 0 = z at *
            have HZE := Lib.hid hzE
            clear hzE
            have rck := fun dd os => cell_regrown hck dd os
            have rcs := fun dd os => cell_regrown hcst dd os
            have rr6 := fun dd os => cell_regrown r6 dd os
            by_cases hz51 : 51 < z
            · have hzB : decide ((51 : Int) < (z : Int)) = true := by rw [decide_eq_true_eq]; omega
              have HS := Lib.hid (HBAD.out (fun h => by have := HPK.out (HOK.out.1 h).1; omega))
              go_upto_region 16 with fail
              rw [hstI]
              clear hstI
              refine wp_region_quiet_below (by kernel_rfl) (by kernel_rfl) ?_
              repeat (first | go_big_quiet_step (fail) | quiet_step (fail))
              refine wpQuiet_nil ?_
              rintro _ ⟨p, rfl⟩
              clear rck rcs rr6
              have hb9 := below_regrown wb p.d p.os
              generalize grow (redrawn wb p.d) p.os = w9 at *
              have hB9 := hBb.trans (hb9.mono hBb.size)
              have hR9 := hRb.below hRb.lt hb9
              have hO9 := Owns.below hOb hb9
              clear hcst hck r6 hb9
              go_wp2
              go_ret2
              exact ⟨_, by rw [HS.out.2]; rfl, by rw [HS.out.1]; exact hO9.mono (by omega), hB9⟩
            · have hzB : decide ((51 : Int) < (z : Int)) = false := by rw [decide_eq_false_iff_not]; omega
              have HHAS := Lib.hid (fun wx => rf_has (r.h st) z (HW.out st) (by omega) wx)
              cases hbit : (r.h st).testBit z
              · have HS := Lib.hid (HBAD.out (fun h => by have := (HOK.out.1 h).1; rw [hbit] at this; cases this))
                rw [hbit] at HHAS
                have HBT := Lib.hid hbit
                clear hbit
                go_upto_region 16 with fail
                rw [hstI]
                clear hstI
                refine wp_region_quiet_below (by kernel_rfl) (by kernel_rfl) ?_
                repeat (first | go_big_quiet_step ((exact Calls.regrown_of ((HHAS.out _).mono fun _ _ ⟨he, hw⟩ => ⟨he, hw ▸ Below.refl _ _⟩))) | quiet_step ((exact Calls.regrown_of ((HHAS.out _).mono fun _ _ ⟨he, hw⟩ => ⟨he, hw ▸ Below.refl _ _⟩))))
                refine wpQuiet_nil ?_
                rintro _ ⟨p, rfl⟩
                clear rck rcs rr6
                have hb9 := below_regrown wb p.d p.os
                generalize grow (redrawn wb p.d) p.os = w9 at *
                have hB9 := hBb.trans (hb9.mono hBb.size)
                have hR9 := hRb.below hRb.lt hb9
                have hO9 := Owns.below hOb hb9
                clear hcst hck r6 hb9
                go_wp2
                go_ret2
                exact ⟨_, by rw [HS.out.2]; rfl, by rw [HS.out.1]; exact hO9.mono (by omega), hB9⟩
              · rw [hbit] at HHAS
                have HBT := Lib.hid hbit
                clear hbit
                go_upto_region 16 with fail
                rw [hstI]
                clear hstI
                refine wp_region_quiet_below (by kernel_rfl) (by kernel_rfl) ?_
                repeat (first | go_big_quiet_step ((exact Calls.regrown_of ((HHAS.out _).mono fun _ _ ⟨he, hw⟩ => ⟨he, hw ▸ Below.refl _ _⟩))) | quiet_step ((exact Calls.regrown_of ((HHAS.out _).mono fun _ _ ⟨he, hw⟩ => ⟨he, hw ▸ Below.refl _ _⟩))))
                refine wpQuiet_nil ?_
                rintro _ ⟨p, rfl⟩
                clear rck rcs rr6
                have hb9 := below_regrown wb p.d p.os
                generalize grow (redrawn wb p.d) p.os = w9 at *
                have hB9 := hBb.trans (hb9.mono hBb.size)
                have hR9 := hRb.below hRb.lt hb9
                have hO9 := Owns.below hOb hb9
                clear hcst hck r6 hb9
                go_wp2_with fail
                have hb0 := Below.refl w9.heap.size w9
                go_loopg [11] k (fun gj i wr => ∃ j : Nat, gj = k - j ∧ j ≤ k ∧ i = .int .i64 (j : Int) ∧ NeTo r.zs z j ∧ Below w9.heap.size w9 wr)
                case atStart => exact ⟨0, by omega, by omega, rfl, NeTo.zero _ _, hb0⟩
                case round =>
                  obtain ⟨j, rfl, hj, rfl, hne, hbi⟩ := hrel
                  obtain ⟨wi, rfl⟩ : ∃ wi : World, wi = wr := ⟨_, rfl⟩
                  have hBi := hB9.trans (hbi.mono hB9.size)
                  have hRi := hR9.below hR9.lt hbi
                  have hOi := Owns.below hO9 hbi
                  have hsi := hBi.size
                  have HBI0 := Lib.hid hbi
                  clear hbi
                  by_cases hjl : j < k
                  · have hzi := hz.below (Nat.le_refl _) hBi
                    obtain ⟨b2, o2, had2, hbb2, hcs2⟩ := hzi.at (by omega)
                    have e1 : b = b2 := by injection had2 with h; injection h
                    have e2 : off = o2 := by injection had2 with h; injection h
                    subst e1 e2
                    have hcj := hcs2 j (by omega)
                    have hck2 := hcs2 k hlt
                    rw [HZE.out] at hck2
                    have r62 := hRi.cell 6
                    simp only [List.getElem?_toArray, List.getElem?_cons_zero, List.getElem?_cons_succ] at r62
                    have HN := Lib.hid (fun h => hne.next (k := j) h)
                    clear hcs2 had2 hne
                    generalize hyE : r.zs.getD j 0 = y at *
                    have HYE := Lib.hid hyE
                    clear hyE
                    have rcj := fun dd os => cell_regrown hcj dd os
                    have rck2 := fun dd os => cell_regrown hck2 dd os
                    have rr62 := fun dd os => cell_regrown r62 dd os
                    have hjlen : j < len := by omega
                    by_cases heq : y = z
                    · have heB : ((y : Int) == (z : Int)) = true := by rw [beq_iff_eq]; omega
                      have HS := Lib.hid (HBAD.out (fun h => (HOK.out.1 h).2 (mem_of_getD hjl (by rw [HLEN.out]; exact hk) (HYE.out.trans heq))))
                      clear heq
                      go_wp2
                      refine wp_region_quiet_below (by kernel_rfl) (by kernel_rfl) ?_
                      repeat (quiet_step (fail))
                      refine wpQuiet_nil ?_
                      rintro _ ⟨p, rfl⟩
                      clear rcj rck2 rr62
                      have hb8 := below_regrown wi p.d p.os
                      generalize grow (redrawn wi p.d) p.os = w8 at *
                      have hB8 := hBi.trans (hb8.mono hsi)
                      have hO8 := Owns.below hOi hb8
                      go_wp2
                      go_ret2
                      exact ⟨_, by rw [HS.out.2]; rfl, by rw [HS.out.1]; exact hO8.mono (by omega), hB8⟩
                    · have heB : ((y : Int) == (z : Int)) = false := by rw [beq_eq_false_iff_ne]; omega
                      have HNE := Lib.hid (HN.out heq)
                      clear heq
                      go_wp2
                      refine wp_region_quiet_below (by kernel_rfl) (by kernel_rfl) ?_
                      repeat (quiet_step (fail))
                      refine wpQuiet_nil ?_
                      rintro _ ⟨p, rfl⟩
                      clear rcj rck2 rr62
                      have hb8 := below_regrown wi p.d p.os
                      generalize grow (redrawn wi p.d) p.os = w8 at *
                      have hBB := Lib.hid hBi
                      go_wp2
                      go_roundg (k - (j + 1))
                      case rel => exact ⟨j + 1, rfl, by omega, by go_num, HNE.out, HBI0.out.trans (hb8.mono HBI0.out.size)⟩
                      case measure => omega
                  · have hje : j = k := by omega
                    subst hje
                    have HGD := Lib.hid (HGO.out (HOK.out.2 ⟨HBT.out, hne.not⟩))
                    have hsl := seatsTo_length r j
                    have HSL := Lib.hid hsl
                    clear hne hsl
                    go_wp2_with (at_builtin; refine appU rfl (.tmp 115) (.tmp 117) rfl (w.heap.size + 1) _ (seatsTo r j) [st] rfl (Owns.alloc hOi _) ⟨wi.heap.size, 0, none⟩ 1 1 rfl (byt_new1 wi st (by omega)) (by rw [HSL.out]; omega) (by have := hRi.lt; simp; omega) ?_; intro v' w10 hown' hB10 _ _)
                    go_roundg (len - (j + 1))
                    case rel =>
                      refine ⟨j + 1, rfl, by omega, HGD.out, by go_num, by rw [Nat.add_sub_cancel, ← hldE.out], by rw [seatsTo_succ, ← HST.out]; exact hown', (hRi.alloc _).below (by omega) hB10, (hBi.alloc hsi _).trans (hB10.mono (by omega))⟩
                    case measure => omega
      · have hl : (k - 1) / 4 = k / 4 := by omega
        rw [hl]
        clear hl
        obtain ⟨ld, hldE'⟩ : ∃ ld, ld = ldAt r.t r.ld0 r.zs (k / 4) := ⟨_, rfl⟩
        have hld : ld < 4 := by rw [hldE']; exact ldAt_lt r.t r.ld0 r.zs (show r.ld0 < 4 from Nat.mod_lt _ (by omega)) (k / 4)
        rw [← hldE']
        have hldE := Lib.hid hldE'
        clear hldE'
        obtain ⟨wb, rfl⟩ : ∃ wb : World, wb = wr := ⟨_, rfl⟩
        have hRb := hR
        have hOb := hown
        have hBb := hB
        have q6 := hRb.cell 6
        simp only [List.getElem?_toArray, List.getElem?_cons_zero, List.getElem?_cons_succ] at q6
        clear hR hown hB
        by_cases h0 : k = 0
        · have h4J : ((k : Int) % 4 == 0) = true := by rw [beq_iff_eq]; omega
          have h4K : decide ((0 : Int) < (k : Int)) = false := by rw [decide_eq_false_iff_not]; omega
          have h4N : decide (0 < k) = false := by rw [decide_eq_false_iff_not]; omega
          clear h0 h4
          have hzb := hz.below (Nat.le_refl _) hBb
          obtain ⟨b, off, hadd, hbb, hcs⟩ := hzb.at (by omega)
          have hck := hcs k hlt
          have hby := hzb.byte k
          obtain ⟨st, hst⟩ : ∃ st, st = seatAt r.t r.ld0 r.zs k := ⟨_, rfl⟩
          have hst4 : st < 4 := by rw [hst]; exact seatAt_lt _ _ _ _
          have hstI : ((ld : Int) + ((k : Int) - ((k : Int) - (k : Int) % 4))) % 4 = (st : Int) := by rw [hst]; unfold seatAt; rw [← hldE.out]; omega
          have hcst : wb.cell? ⟨w.heap.size, st, none⟩ = some (.int .u64 (r.h st : Int)) := by
            rw [hRb.cell st]
            rcases (show st = 0 ∨ st = 1 ∨ st = 2 ∨ st = 3 by omega) with h | h | h | h <;> rw [h] <;> rfl
          have r6 := hRb.cell 6
          simp only [List.getElem?_toArray, List.getElem?_cons_zero, List.getElem?_cons_succ] at r6
          have HOK := Lib.hid (show okAt r.h r.t r.ld0 r.zs k ↔ (r.h st).testBit (r.zs.getD k 0) = true ∧ r.zs.getD k 0 ∉ r.zs.take k from by rw [hst]; exact Iff.rfl)
          have HBAD := Lib.hid (fun (h : ¬ okAt r.h r.t r.ld0 r.zs k) => stop_at HD.out hkg (by rw [HLEN.out]; exact hlt) h)
          have HGO := Lib.hid (fun (h : okAt r.h r.t r.ld0 r.zs k) => go_on HD.out hkg h (by rw [HLEN.out]; exact hlt))
          have HPK := Lib.hid (fun (h : (r.h st).testBit (r.zs.getD k 0) = true) => (dealt_pack HD.out).le st (r.zs.getD k 0) hst4 h)
          have HST := Lib.hid hst
          clear hst hcs
          subst hadd
          generalize hzE : r.zs.getD k 0 = z at *
          have HZE := Lib.hid hzE
          clear hzE
          have rck := fun dd os => cell_regrown hck dd os
          have rcs := fun dd os => cell_regrown hcst dd os
          have rr6 := fun dd os => cell_regrown r6 dd os
          by_cases hz51 : 51 < z
          · have hzB : decide ((51 : Int) < (z : Int)) = true := by rw [decide_eq_true_eq]; omega
            have HS := Lib.hid (HBAD.out (fun h => by have := HPK.out (HOK.out.1 h).1; omega))
            go_upto_region 16 with fail
            rw [hstI]
            clear hstI
            refine wp_region_quiet_below (by kernel_rfl) (by kernel_rfl) ?_
            repeat (first | go_big_quiet_step (fail) | quiet_step (fail))
            refine wpQuiet_nil ?_
            rintro _ ⟨p, rfl⟩
            clear rck rcs rr6
            have hb9 := below_regrown wb p.d p.os
            generalize grow (redrawn wb p.d) p.os = w9 at *
            have hB9 := hBb.trans (hb9.mono hBb.size)
            have hR9 := hRb.below hRb.lt hb9
            have hO9 := Owns.below hOb hb9
            clear hcst hck r6 hb9
            go_wp2
            go_ret2
            exact ⟨_, by rw [HS.out.2]; rfl, by rw [HS.out.1]; exact hO9.mono (by omega), hB9⟩
          · have hzB : decide ((51 : Int) < (z : Int)) = false := by rw [decide_eq_false_iff_not]; omega
            have HHAS := Lib.hid (fun wx => rf_has (r.h st) z (HW.out st) (by omega) wx)
            cases hbit : (r.h st).testBit z
            · have HS := Lib.hid (HBAD.out (fun h => by have := (HOK.out.1 h).1; rw [hbit] at this; cases this))
              rw [hbit] at HHAS
              have HBT := Lib.hid hbit
              clear hbit
              go_upto_region 16 with fail
              rw [hstI]
              clear hstI
              refine wp_region_quiet_below (by kernel_rfl) (by kernel_rfl) ?_
              repeat (first | go_big_quiet_step ((exact Calls.regrown_of ((HHAS.out _).mono fun _ _ ⟨he, hw⟩ => ⟨he, hw ▸ Below.refl _ _⟩))) | quiet_step ((exact Calls.regrown_of ((HHAS.out _).mono fun _ _ ⟨he, hw⟩ => ⟨he, hw ▸ Below.refl _ _⟩))))
              refine wpQuiet_nil ?_
              rintro _ ⟨p, rfl⟩
              clear rck rcs rr6
              have hb9 := below_regrown wb p.d p.os
              generalize grow (redrawn wb p.d) p.os = w9 at *
              have hB9 := hBb.trans (hb9.mono hBb.size)
              have hR9 := hRb.below hRb.lt hb9
              have hO9 := Owns.below hOb hb9
              clear hcst hck r6 hb9
              go_wp2
              go_ret2
              exact ⟨_, by rw [HS.out.2]; rfl, by rw [HS.out.1]; exact hO9.mono (by omega), hB9⟩
            · rw [hbit] at HHAS
              have HBT := Lib.hid hbit
              clear hbit
              go_upto_region 16 with fail
              rw [hstI]
              clear hstI
              refine wp_region_quiet_below (by kernel_rfl) (by kernel_rfl) ?_
              repeat (first | go_big_quiet_step ((exact Calls.regrown_of ((HHAS.out _).mono fun _ _ ⟨he, hw⟩ => ⟨he, hw ▸ Below.refl _ _⟩))) | quiet_step ((exact Calls.regrown_of ((HHAS.out _).mono fun _ _ ⟨he, hw⟩ => ⟨he, hw ▸ Below.refl _ _⟩))))
              refine wpQuiet_nil ?_
              rintro _ ⟨p, rfl⟩
              clear rck rcs rr6
              have hb9 := below_regrown wb p.d p.os
              generalize grow (redrawn wb p.d) p.os = w9 at *
              have hB9 := hBb.trans (hb9.mono hBb.size)
              have hR9 := hRb.below hRb.lt hb9
              have hO9 := Owns.below hOb hb9
              clear hcst hck r6 hb9
              go_wp2_with fail
              have hb0 := Below.refl w9.heap.size w9
              go_loopg [11] k (fun gj i wr => ∃ j : Nat, gj = k - j ∧ j ≤ k ∧ i = .int .i64 (j : Int) ∧ NeTo r.zs z j ∧ Below w9.heap.size w9 wr)
              case atStart => exact ⟨0, by omega, by omega, rfl, NeTo.zero _ _, hb0⟩
              case round =>
                obtain ⟨j, rfl, hj, rfl, hne, hbi⟩ := hrel
                obtain ⟨wi, rfl⟩ : ∃ wi : World, wi = wr := ⟨_, rfl⟩
                have hBi := hB9.trans (hbi.mono hB9.size)
                have hRi := hR9.below hR9.lt hbi
                have hOi := Owns.below hO9 hbi
                have hsi := hBi.size
                have HBI0 := Lib.hid hbi
                clear hbi
                by_cases hjl : j < k
                · have hzi := hz.below (Nat.le_refl _) hBi
                  obtain ⟨b2, o2, had2, hbb2, hcs2⟩ := hzi.at (by omega)
                  have e1 : b = b2 := by injection had2 with h; injection h
                  have e2 : off = o2 := by injection had2 with h; injection h
                  subst e1 e2
                  have hcj := hcs2 j (by omega)
                  have hck2 := hcs2 k hlt
                  rw [HZE.out] at hck2
                  have r62 := hRi.cell 6
                  simp only [List.getElem?_toArray, List.getElem?_cons_zero, List.getElem?_cons_succ] at r62
                  have HN := Lib.hid (fun h => hne.next (k := j) h)
                  clear hcs2 had2 hne
                  generalize hyE : r.zs.getD j 0 = y at *
                  have HYE := Lib.hid hyE
                  clear hyE
                  have rcj := fun dd os => cell_regrown hcj dd os
                  have rck2 := fun dd os => cell_regrown hck2 dd os
                  have rr62 := fun dd os => cell_regrown r62 dd os
                  have hjlen : j < len := by omega
                  by_cases heq : y = z
                  · have heB : ((y : Int) == (z : Int)) = true := by rw [beq_iff_eq]; omega
                    have HS := Lib.hid (HBAD.out (fun h => (HOK.out.1 h).2 (mem_of_getD hjl (by rw [HLEN.out]; exact hk) (HYE.out.trans heq))))
                    clear heq
                    go_wp2
                    refine wp_region_quiet_below (by kernel_rfl) (by kernel_rfl) ?_
                    repeat (quiet_step (fail))
                    refine wpQuiet_nil ?_
                    rintro _ ⟨p, rfl⟩
                    clear rcj rck2 rr62
                    have hb8 := below_regrown wi p.d p.os
                    generalize grow (redrawn wi p.d) p.os = w8 at *
                    have hB8 := hBi.trans (hb8.mono hsi)
                    have hO8 := Owns.below hOi hb8
                    go_wp2
                    go_ret2
                    exact ⟨_, by rw [HS.out.2]; rfl, by rw [HS.out.1]; exact hO8.mono (by omega), hB8⟩
                  · have heB : ((y : Int) == (z : Int)) = false := by rw [beq_eq_false_iff_ne]; omega
                    have HNE := Lib.hid (HN.out heq)
                    clear heq
                    go_wp2
                    refine wp_region_quiet_below (by kernel_rfl) (by kernel_rfl) ?_
                    repeat (quiet_step (fail))
                    refine wpQuiet_nil ?_
                    rintro _ ⟨p, rfl⟩
                    clear rcj rck2 rr62
                    have hb8 := below_regrown wi p.d p.os
                    generalize grow (redrawn wi p.d) p.os = w8 at *
                    have hBB := Lib.hid hBi
                    go_wp2
                    go_roundg (k - (j + 1))
                    case rel => exact ⟨j + 1, rfl, by omega, by go_num, HNE.out, HBI0.out.trans (hb8.mono HBI0.out.size)⟩
                    case measure => omega
                · have hje : j = k := by omega
                  subst hje
                  have HGD := Lib.hid (HGO.out (HOK.out.2 ⟨HBT.out, hne.not⟩))
                  have hsl := seatsTo_length r j
                  have HSL := Lib.hid hsl
                  clear hne hsl
                  go_wp2_with (at_builtin; refine appU rfl (.tmp 115) (.tmp 117) rfl (w.heap.size + 1) _ (seatsTo r j) [st] rfl (Owns.alloc hOi _) ⟨wi.heap.size, 0, none⟩ 1 1 rfl (byt_new1 wi st (by omega)) (by rw [HSL.out]; omega) (by have := hRi.lt; simp; omega) ?_; intro v' w10 hown' hB10 _ _)
                  go_roundg (len - (j + 1))
                  case rel =>
                    refine ⟨j + 1, rfl, by omega, HGD.out, by go_num, by rw [Nat.add_sub_cancel, ← hldE.out], by rw [seatsTo_succ, ← HST.out]; exact hown', (hRi.alloc _).below (by omega) hB10, (hBi.alloc hsi _).trans (hB10.mono (by omega))⟩
                  case measure => omega
        · have h4J : ((k : Int) % 4 == 0) = false := by rw [beq_eq_false_iff_ne]; omega
          clear h0 h4
          have hzb := hz.below (Nat.le_refl _) hBb
          obtain ⟨b, off, hadd, hbb, hcs⟩ := hzb.at (by omega)
          have hck := hcs k hlt
          have hby := hzb.byte k
          obtain ⟨st, hst⟩ : ∃ st, st = seatAt r.t r.ld0 r.zs k := ⟨_, rfl⟩
          have hst4 : st < 4 := by rw [hst]; exact seatAt_lt _ _ _ _
          have hstI : ((ld : Int) + ((k : Int) - ((k : Int) - (k : Int) % 4))) % 4 = (st : Int) := by rw [hst]; unfold seatAt; rw [← hldE.out]; omega
          have hcst : wb.cell? ⟨w.heap.size, st, none⟩ = some (.int .u64 (r.h st : Int)) := by
            rw [hRb.cell st]
            rcases (show st = 0 ∨ st = 1 ∨ st = 2 ∨ st = 3 by omega) with h | h | h | h <;> rw [h] <;> rfl
          have r6 := hRb.cell 6
          simp only [List.getElem?_toArray, List.getElem?_cons_zero, List.getElem?_cons_succ] at r6
          have HOK := Lib.hid (show okAt r.h r.t r.ld0 r.zs k ↔ (r.h st).testBit (r.zs.getD k 0) = true ∧ r.zs.getD k 0 ∉ r.zs.take k from by rw [hst]; exact Iff.rfl)
          have HBAD := Lib.hid (fun (h : ¬ okAt r.h r.t r.ld0 r.zs k) => stop_at HD.out hkg (by rw [HLEN.out]; exact hlt) h)
          have HGO := Lib.hid (fun (h : okAt r.h r.t r.ld0 r.zs k) => go_on HD.out hkg h (by rw [HLEN.out]; exact hlt))
          have HPK := Lib.hid (fun (h : (r.h st).testBit (r.zs.getD k 0) = true) => (dealt_pack HD.out).le st (r.zs.getD k 0) hst4 h)
          have HST := Lib.hid hst
          clear hst hcs
          subst hadd
          generalize hzE : r.zs.getD k 0 = z at *
          have HZE := Lib.hid hzE
          clear hzE
          have rck := fun dd os => cell_regrown hck dd os
          have rcs := fun dd os => cell_regrown hcst dd os
          have rr6 := fun dd os => cell_regrown r6 dd os
          by_cases hz51 : 51 < z
          · have hzB : decide ((51 : Int) < (z : Int)) = true := by rw [decide_eq_true_eq]; omega
            have HS := Lib.hid (HBAD.out (fun h => by have := HPK.out (HOK.out.1 h).1; omega))
            go_upto_region 16 with fail
            rw [hstI]
            clear hstI
            refine wp_region_quiet_below (by kernel_rfl) (by kernel_rfl) ?_
            repeat (first | go_big_quiet_step (fail) | quiet_step (fail))
            refine wpQuiet_nil ?_
            rintro _ ⟨p, rfl⟩
            clear rck rcs rr6
            have hb9 := below_regrown wb p.d p.os
            generalize grow (redrawn wb p.d) p.os = w9 at *
            have hB9 := hBb.trans (hb9.mono hBb.size)
            have hR9 := hRb.below hRb.lt hb9
            have hO9 := Owns.below hOb hb9
            clear hcst hck r6 hb9
            go_wp2
            go_ret2
            exact ⟨_, by rw [HS.out.2]; rfl, by rw [HS.out.1]; exact hO9.mono (by omega), hB9⟩
          · have hzB : decide ((51 : Int) < (z : Int)) = false := by rw [decide_eq_false_iff_not]; omega
            have HHAS := Lib.hid (fun wx => rf_has (r.h st) z (HW.out st) (by omega) wx)
            cases hbit : (r.h st).testBit z
            · have HS := Lib.hid (HBAD.out (fun h => by have := (HOK.out.1 h).1; rw [hbit] at this; cases this))
              rw [hbit] at HHAS
              have HBT := Lib.hid hbit
              clear hbit
              go_upto_region 16 with fail
              rw [hstI]
              clear hstI
              refine wp_region_quiet_below (by kernel_rfl) (by kernel_rfl) ?_
              repeat (first | go_big_quiet_step ((exact Calls.regrown_of ((HHAS.out _).mono fun _ _ ⟨he, hw⟩ => ⟨he, hw ▸ Below.refl _ _⟩))) | quiet_step ((exact Calls.regrown_of ((HHAS.out _).mono fun _ _ ⟨he, hw⟩ => ⟨he, hw ▸ Below.refl _ _⟩))))
              refine wpQuiet_nil ?_
              rintro _ ⟨p, rfl⟩
              clear rck rcs rr6
              have hb9 := below_regrown wb p.d p.os
              generalize grow (redrawn wb p.d) p.os = w9 at *
              have hB9 := hBb.trans (hb9.mono hBb.size)
              have hR9 := hRb.below hRb.lt hb9
              have hO9 := Owns.below hOb hb9
              clear hcst hck r6 hb9
              go_wp2
              go_ret2
              exact ⟨_, by rw [HS.out.2]; rfl, by rw [HS.out.1]; exact hO9.mono (by omega), hB9⟩
            · rw [hbit] at HHAS
              have HBT := Lib.hid hbit
              clear hbit
              go_upto_region 16 with fail
              rw [hstI]
              clear hstI
              refine wp_region_quiet_below (by kernel_rfl) (by kernel_rfl) ?_
              repeat (first | go_big_quiet_step ((exact Calls.regrown_of ((HHAS.out _).mono fun _ _ ⟨he, hw⟩ => ⟨he, hw ▸ Below.refl _ _⟩))) | quiet_step ((exact Calls.regrown_of ((HHAS.out _).mono fun _ _ ⟨he, hw⟩ => ⟨he, hw ▸ Below.refl _ _⟩))))
              refine wpQuiet_nil ?_
              rintro _ ⟨p, rfl⟩
              clear rck rcs rr6
              have hb9 := below_regrown wb p.d p.os
              generalize grow (redrawn wb p.d) p.os = w9 at *
              have hB9 := hBb.trans (hb9.mono hBb.size)
              have hR9 := hRb.below hRb.lt hb9
              have hO9 := Owns.below hOb hb9
              clear hcst hck r6 hb9
              go_wp2_with fail
              have hb0 := Below.refl w9.heap.size w9
              go_loopg [11] k (fun gj i wr => ∃ j : Nat, gj = k - j ∧ j ≤ k ∧ i = .int .i64 (j : Int) ∧ NeTo r.zs z j ∧ Below w9.heap.size w9 wr)
              case atStart => exact ⟨0, by omega, by omega, rfl, NeTo.zero _ _, hb0⟩
              case round =>
                obtain ⟨j, rfl, hj, rfl, hne, hbi⟩ := hrel
                obtain ⟨wi, rfl⟩ : ∃ wi : World, wi = wr := ⟨_, rfl⟩
                have hBi := hB9.trans (hbi.mono hB9.size)
                have hRi := hR9.below hR9.lt hbi
                have hOi := Owns.below hO9 hbi
                have hsi := hBi.size
                have HBI0 := Lib.hid hbi
                clear hbi
                by_cases hjl : j < k
                · have hzi := hz.below (Nat.le_refl _) hBi
                  obtain ⟨b2, o2, had2, hbb2, hcs2⟩ := hzi.at (by omega)
                  have e1 : b = b2 := by injection had2 with h; injection h
                  have e2 : off = o2 := by injection had2 with h; injection h
                  subst e1 e2
                  have hcj := hcs2 j (by omega)
                  have hck2 := hcs2 k hlt
                  rw [HZE.out] at hck2
                  have r62 := hRi.cell 6
                  simp only [List.getElem?_toArray, List.getElem?_cons_zero, List.getElem?_cons_succ] at r62
                  have HN := Lib.hid (fun h => hne.next (k := j) h)
                  clear hcs2 had2 hne
                  generalize hyE : r.zs.getD j 0 = y at *
                  have HYE := Lib.hid hyE
                  clear hyE
                  have rcj := fun dd os => cell_regrown hcj dd os
                  have rck2 := fun dd os => cell_regrown hck2 dd os
                  have rr62 := fun dd os => cell_regrown r62 dd os
                  have hjlen : j < len := by omega
                  by_cases heq : y = z
                  · have heB : ((y : Int) == (z : Int)) = true := by rw [beq_iff_eq]; omega
                    have HS := Lib.hid (HBAD.out (fun h => (HOK.out.1 h).2 (mem_of_getD hjl (by rw [HLEN.out]; exact hk) (HYE.out.trans heq))))
                    clear heq
                    go_wp2
                    refine wp_region_quiet_below (by kernel_rfl) (by kernel_rfl) ?_
                    repeat (quiet_step (fail))
                    refine wpQuiet_nil ?_
                    rintro _ ⟨p, rfl⟩
                    clear rcj rck2 rr62
                    have hb8 := below_regrown wi p.d p.os
                    generalize grow (redrawn wi p.d) p.os = w8 at *
                    have hB8 := hBi.trans (hb8.mono hsi)
                    have hO8 := Owns.below hOi hb8
                    go_wp2
                    go_ret2
                    exact ⟨_, by rw [HS.out.2]; rfl, by rw [HS.out.1]; exact hO8.mono (by omega), hB8⟩
                  · have heB : ((y : Int) == (z : Int)) = false := by rw [beq_eq_false_iff_ne]; omega
                    have HNE := Lib.hid (HN.out heq)
                    clear heq
                    go_wp2
                    refine wp_region_quiet_below (by kernel_rfl) (by kernel_rfl) ?_
                    repeat (quiet_step (fail))
                    refine wpQuiet_nil ?_
                    rintro _ ⟨p, rfl⟩
                    clear rcj rck2 rr62
                    have hb8 := below_regrown wi p.d p.os
                    generalize grow (redrawn wi p.d) p.os = w8 at *
                    have hBB := Lib.hid hBi
                    go_wp2
                    go_roundg (k - (j + 1))
                    case rel => exact ⟨j + 1, rfl, by omega, by go_num, HNE.out, HBI0.out.trans (hb8.mono HBI0.out.size)⟩
                    case measure => omega
                · have hje : j = k := by omega
                  subst hje
                  have HGD := Lib.hid (HGO.out (HOK.out.2 ⟨HBT.out, hne.not⟩))
                  have hsl := seatsTo_length r j
                  have HSL := Lib.hid hsl
                  clear hne hsl
                  go_wp2_with (at_builtin; refine appU rfl (.tmp 115) (.tmp 117) rfl (w.heap.size + 1) _ (seatsTo r j) [st] rfl (Owns.alloc hOi _) ⟨wi.heap.size, 0, none⟩ 1 1 rfl (byt_new1 wi st (by omega)) (by rw [HSL.out]; omega) (by have := hRi.lt; simp; omega) ?_; intro v' w10 hown' hB10 _ _)
                  go_roundg (len - (j + 1))
                  case rel =>
                    refine ⟨j + 1, rfl, by omega, HGD.out, by go_num, by rw [Nat.add_sub_cancel, ← hldE.out], by rw [seatsTo_succ, ← HST.out]; exact hown', (hRi.alloc _).below (by omega) hB10, (hBi.alloc hsi _).trans (hB10.mono (by omega))⟩
                  case measure => omega
    · have hke : k = len := by omega
      have hgk : r.good = k := by have h1 := HLEN.out; omega
      have HS := Lib.hid (show r.stop = -1 by unfold Rc.stop; rw [if_neg (by have h1 := HLEN.out; omega)])
      have HGK := Lib.hid hgk
      clear hke hgk
      have q6 := hR.cell 6
      simp only [List.getElem?_toArray, List.getElem?_cons_zero, List.getElem?_cons_succ] at q6
      have hltB : decide (k < len) = false := by rw [decide_eq_false_iff_not]; exact hlt
      go_wp2
      go_ret2
      exact ⟨_, by rw [HS.out]; rfl, by rw [HGK.out]; exact hown.mono (by omega), hB⟩
end Go.Proofs.Ytdlnilebnobllaa
