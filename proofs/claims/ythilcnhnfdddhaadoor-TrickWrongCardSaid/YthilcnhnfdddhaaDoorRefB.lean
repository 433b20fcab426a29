/- Contracts of finesseref11.Strength, Winner and Seat over this seat's program. -/
import Derived.Test.YthilcnhnfdddhaaDoorRefA
namespace Go.Proofs.YthilcnhnfdddhaaDoor
open Go.RowKit Go.Sort Go.Shelf

theorem ref_strength (t l c : Nat) (w : World) :
    Calls Tryd.prog 45 #[.int .u8 (t : Int), .int .u8 (l : Int), .int .u8 (c : Int)] w fun e w' => e = .returned (.int .i64 ((strengthV t l c : Nat) : Int)) ∧ w = w' := by
  unfold strengthV
  by_cases h1 : 4 < t
  · rw [if_neg (by omega)]
    have h1' : decide ((4 : Int) < (t : Int)) = true := by simp; omega
    go_enter Tryd.func45, Tryd.ntmps45
    go_wp2
    go_ret
    exact ⟨rfl, rfl⟩
  have h1' : decide ((4 : Int) < (t : Int)) = false := by simp; omega
  by_cases h2 : 3 < l
  · rw [if_neg (by omega)]
    have h2' : decide ((3 : Int) < (l : Int)) = true := by simp; omega
    go_enter Tryd.func45, Tryd.ntmps45
    go_wp2
    go_ret
    exact ⟨rfl, rfl⟩
  have h2' : decide ((3 : Int) < (l : Int)) = false := by simp; omega
  by_cases h3 : c < 52
  · have h3' : decide ((51 : Int) < (c : Int)) = false := by simp; omega
    rw [if_pos (by omega)]
    unfold strength suit rank
    rw [if_pos h3, if_pos h3]
    by_cases h4 : c / 13 = t
    · have h4' : ((c : Int) / 13 == (t : Int)) = true := by simp; omega
      rw [if_pos h4]
      have HE : Hid (((14 + c % 13 : Nat) : Int) = 14 + (c : Int) % 13) := Lib.hid (by omega)
      go_enter Tryd.func45, Tryd.ntmps45
      go_wp2
      go_ret
      exact ⟨by rw [HE.out]; rfl, rfl⟩
    have h4' : ((c : Int) / 13 == (t : Int)) = false := by simp; omega
    rw [if_neg h4]
    by_cases h5 : c / 13 = l
    · have h5' : ((c : Int) / 13 == (l : Int)) = true := by simp; omega
      rw [if_pos h5]
      have HE : Hid (((1 + c % 13 : Nat) : Int) = 1 + (c : Int) % 13) := Lib.hid (by omega)
      go_enter Tryd.func45, Tryd.ntmps45
      go_wp2
      go_ret
      exact ⟨by rw [HE.out]; rfl, rfl⟩
    have h5' : ((c : Int) / 13 == (l : Int)) = false := by simp; omega
    rw [if_neg h5]
    go_enter Tryd.func45, Tryd.ntmps45
    go_wp2
    go_ret
    exact ⟨rfl, rfl⟩
  · have h3' : decide ((51 : Int) < (c : Int)) = true := by simp; omega
    rw [if_neg (by omega)]
    go_enter Tryd.func45, Tryd.ntmps45
    go_wp2
    go_ret
    exact ⟨rfl, rfl⟩
theorem ref_strength_led (t c0 c : Nat) (w : World) (ht : t ≤ 4) (h0 : c0 < 52) (hc : c < 52) :
    Calls Tryd.prog 45 #[.int .u8 (t : Int), .int .u8 ((c0 : Int) / 13), .int .u8 (c : Int)] w fun e w' => e = .returned (.int .i64 ((strength t (suit c0) c : Nat) : Int)) ∧ w = w' := by
  have h := ref_strength t (suit c0) c w
  have e : ((suit c0 : Nat) : Int) = (c0 : Int) / 13 := by unfold suit; rw [if_pos h0]; omega
  have hs : suit c0 ≤ 3 := by unfold suit; rw [if_pos h0]; omega
  rw [e] at h
  unfold strengthV at h
  rwa [if_pos ⟨ht, hs, hc⟩] at h

theorem right_lt {zs : List Nat} (h : rightB zs = true) {i : Nat} (hi : i < zs.length) : zs.getD i 0 < 52 := ((rightB_iff zs).1 h).2.2.1 _ (getD_mem hi)

theorem ref_Winner (t : Nat) (a : Option Addr) (len cap : Nat) (zs : List Nat) (w : World) (hz : Byt w a len zs) :
    Calls Tryd.prog 41 #[.int .u8 (t : Int), .slice a len cap] w fun e w' => e = .returned (.tuple #[.int .i64 ((winnerV t zs).1 : Int), .int .i64 ((winnerV t zs).2 : Int)]) ∧ Below w.heap.size w w' := by
  unfold winnerV
  by_cases h1 : 4 < t
  · rw [if_pos h1]
    go_enter Tryd.func41, Tryd.ntmps41
    go_wp2_with fail
    go_ret2
    exact ⟨rfl, Below.refl _ _⟩
  rw [if_neg h1]
  cases h2 : rightB zs
  · go_enter Tryd.func41, Tryd.ntmps41
    go_wp2_with (go_at_call 44; refine (ref_right _ _ _ zs _ hz).mono ?_; rw [h2]; rintro e w' ⟨rfl, hb'⟩)
    go_ret2
    exact ⟨rfl, hb'⟩
  · have hlen := hz.length
    have hr := rightB_length h2
    rw [hlen] at hr
    simp only [if_true]
    rw [hlen]
    have h52 : ∀ i, i < len → zs.getD i 0 < 52 := fun i hi => right_lt h2 (by rw [hlen]; exact hi)
    have H52 := Lib.hid h52
    clear hlen h52
    obtain ⟨b, off, rfl, hb, hcs⟩ := hz.at (by omega)
    have HCS := Lib.hid hcs
    clear hcs
    have hpos : (0 : Int) < (len : Int) := by omega
    have hposN : 0 < len := by omega
    have HC0 : Hid (w.cell? ⟨b, off, none⟩ = some (.int .u8 ((zs.getD 0 0 : Nat) : Int))) := Lib.hid (by have := HCS.out 0 (by omega); rwa [Nat.add_zero] at this)
    have h0 := H52.out 0 (by omega)
    generalize zs.getD 0 0 = c0 at *
    obtain ⟨val, hval⟩ : ∃ v : Nat → Int, v = fun c => (strength t (suit c0) c : Int) := ⟨_, rfl⟩
    rw [← hval]
    have HV := Lib.hid hval
    clear hval
    go_enter Tryd.func41, Tryd.ntmps41
    go_wp2_with (go_at_call 44; refine (ref_right _ _ _ zs _ hz).mono ?_; rw [h2]; rintro e w0 ⟨rfl, hb0⟩)
    go_loopw [6, 7, 8] (fun i _ _ wr => ∃ k : Nat, k ≤ len ∧ i = .int .i64 k ∧ AllBeaten val zs len k ∧ Below w.heap.size w wr) (fun i _ _ _ => len - (intOf i).toNat)
    case atStart => exact ⟨0, Nat.zero_le _, rfl, fun i hi => by omega, hb0⟩
    case round =>
      obtain ⟨k, hk, rfl, hall, hB⟩ := hrel
      obtain ⟨wo, rfl⟩ : ∃ wo : World, wo = wr := ⟨_, rfl⟩
      by_cases hlt : k < len
      · go_wp2
        go_loopw [7, 8] (fun bt j wr => ∃ x : Nat, x ≤ len ∧ j = .int .i64 x ∧ bt = .bool (beatenTo val zs k x) ∧ Below w.heap.size w wr) (fun _ j _ => len - (intOf j).toNat)
        case atStart => exact ⟨0, Nat.zero_le _, rfl, rfl, hB⟩
        case round =>
          obtain ⟨x, hx, rfl, rfl, hB2⟩ := hrel
          by_cases hxk : x < len
          · have hc0 : wr.cell? ⟨b, off, none⟩ = some (.int .u8 (c0 : Int)) := (hB2.cell (p := ⟨b, off, none⟩) hb).trans HC0.out
            have hc1 : wr.cell? ⟨b, off + k, none⟩ = some (.int .u8 ((zs.getD k 0 : Nat) : Int)) := (hB2.cell (p := ⟨b, off + k, none⟩) hb).trans (HCS.out k hlt)
            have hc2 : wr.cell? ⟨b, off + x, none⟩ = some (.int .u8 ((zs.getD x 0 : Nat) : Int)) := (hB2.cell (p := ⟨b, off + x, none⟩) hb).trans (HCS.out x hxk)
            have hk52 := H52.out k hlt
            have hx52 := H52.out x hxk
            have HS : Hid (beatenTo val zs k (x + 1) = if val (zs.getD k 0) < val (zs.getD x 0) then true else beatenTo val zs k x) := Lib.hid rfl
            generalize beatenTo val zs k x = bt at *
            generalize zs.getD k 0 = c at *
            generalize zs.getD x 0 = d at *
            have hr0 := fun dd os => cell_regrown hc0 dd os
            have hr1 := fun dd os => cell_regrown hc1 dd os
            have hr2 := fun dd os => cell_regrown hc2 dd os
            have hq : IntKind.u8.wrap ((c0 : Int) / 13) = (c0 : Int) / 13 := IntWalk.u8_in _ (by omega)
            go_wp2
            refine wp_region_quiet_below (by kernel_rfl) (by kernel_rfl) ?_
            repeat (quiet_step ((exact Calls.regrown_of ((ref_strength_led _ _ _ _ (by omega) (by omega) (by omega)).mono fun _ _ ⟨he, hw⟩ => ⟨he, hw ▸ Below.refl _ _⟩))))
            refine wpQuiet_nil ?_
            rintro _ ⟨p, rfl⟩
            have hb3 := below_regrown wr p.d p.os
            generalize grow (redrawn wr p.d) p.os = w1 at *
            clear hq
            have HV2 : Hid (val c = (strength t (suit c0) c : Int)) := Lib.hid (by rw [HV.out])
            have HV3 : Hid (val d = (strength t (suit c0) d : Int)) := Lib.hid (by rw [HV.out])
            generalize strength t (suit c0) c = sc at *
            generalize strength t (suit c0) d = sd at *
            by_cases hcmp : sc < sd
            all_goals
              go_wp2
              go_roundw
              case rel => exact ⟨x + 1, by omega, by go_num, by rw [HS.out, HV2.out, HV3.out]; simp [hcmp], hB2.trans (hb3.mono hB2.size)⟩
              case measure => simp [intOf]; omega
          · have HX : Hid (x = len) := Lib.hid (by omega)
            generalize hbt : beatenTo val zs k x = bt
            have HBT := Lib.hid hbt
            clear hbt
            cases bt
            · go_wp2
              rw [best_of_not_beaten hlt hall (by rw [← HX.out]; exact HBT.out)]
              go_ret2
              exact ⟨rfl, hB2⟩
            · go_wp2
              go_roundw
              case rel =>
                refine ⟨k + 1, by omega, by go_num, fun y hy => ?_, hB2⟩
                rcases Nat.lt_succ_iff_lt_or_eq.1 hy with h | h
                · exact hall y h
                · subst h; rw [← HX.out]; exact HBT.out
              case measure => simp [intOf]; omega
      · have hk' : k = len := by omega
        subst hk'
        exact (not_all_beaten (by omega) hall).elim

theorem ref_Seat (t l : Nat) (a : Option Addr) (len cap : Nat) (zs : List Nat) (w : World) (hz : Byt w a len zs) :
    Calls Tryd.prog 42 #[.int .u8 (t : Int), .int .u8 (l : Int), .slice a len cap] w fun e w' => e = .returned (.tuple #[.int .u8 ((seatV t l zs).1 : Int), .int .i64 ((seatV t l zs).2 : Int)]) ∧ Below w.heap.size w w' := by
  unfold seatV
  have hw := winnerV_lt t zs
  generalize hx : winnerV t zs = x at *
  have HX := Lib.hid hx
  clear hx
  by_cases h1 : 3 < l
  · rw [if_pos h1]
    go_enter Tryd.func42, Tryd.ntmps42
    go_wp2_with (go_at_call 41; refine (ref_Winner t _ _ _ zs _ hz).mono ?_; rw [HX.out]; rintro e w' ⟨rfl, hb'⟩)
    go_ret2
    exact ⟨rfl, hb'⟩
  rw [if_neg h1]
  obtain ⟨x, y⟩ := x
  dsimp only at hw ⊢
  by_cases h2 : y = 0
  · subst h2
    rw [if_pos rfl]
    go_enter Tryd.func42, Tryd.ntmps42
    go_wp2_with (go_at_call 41; refine (ref_Winner t _ _ _ zs _ hz).mono ?_; rw [HX.out]; rintro e w' ⟨rfl, hb'⟩)
    go_ret2
    refine ⟨?_, hb'⟩
    simp
  · rw [if_neg h2]
    have h2' : ((y : Int) != 0) = true := by rw [bne_iff_ne]; omega
    go_enter Tryd.func42, Tryd.ntmps42
    go_wp2_with (go_at_call 41; refine (ref_Winner t _ _ _ zs _ hz).mono ?_; rw [HX.out]; rintro e w' ⟨rfl, hb'⟩)
    go_ret2
    exact ⟨rfl, hb'⟩
end Go.Proofs.YthilcnhnfdddhaaDoor
