/- Contracts of finesseref11.Right and Strength over this seat's program. -/
import Derived.Test.YthilcnhnfdddhaaDoorPlain
namespace Go.Proofs.YthilcnhnfdddhaaDoor
open Go.RowKit Go.Sort Go.Shelf

theorem ref_right (a : Option Addr) (len cap : Nat) (zs : List Nat) (w : World) (hz : Byt w a len zs) :
    Calls Tryd.prog 44 #[.slice a len cap] w fun e w' => e = .returned (.bool (rightB zs)) ∧ Below w.heap.size w w' := by
  have hl := hz.length
  by_cases h0 : len = 0
  · subst h0
    rw [right_false_len (.inl hl)]
    clear hl
    go_enter Tryd.func44, Tryd.ntmps44
    go_wp2
    go_ret
    exact ⟨rfl, Below.refl _ _⟩
  have h0' : ((len : Int) == 0) = false := by simp; omega
  by_cases h4 : 4 < len
  · rw [right_false_len (.inr (by omega))]
    have h4' : decide ((4 : Int) < (len : Int)) = true := by simp; omega
    clear hl
    go_enter Tryd.func44, Tryd.ntmps44
    go_wp2
    go_ret
    exact ⟨rfl, Below.refl _ _⟩
  have h4' : decide ((4 : Int) < (len : Int)) = false := by simp; omega
  have HL := Lib.hid hl
  clear hl
  obtain ⟨b, off, rfl, hb, hcs⟩ := hz.at (by omega)
  have HCS := Lib.hid hcs
  clear hcs
  go_enter Tryd.func44, Tryd.ntmps44
  go_wp2
  go_loopw [3, 4] (fun i _ wr => ∃ k : Nat, k ≤ len ∧ i = .int .i64 k ∧ OkTo zs k ∧ Below w.heap.size w wr) (fun i _ _ => len - (intOf i).toNat)
  case atStart => exact ⟨0, Nat.zero_le _, rfl, fun i hi => by omega, Below.refl _ _⟩
  case round =>
    obtain ⟨k, hk, rfl, hok, hB⟩ := hrel
    obtain ⟨wo, rfl⟩ : ∃ wo : World, wo = wr := ⟨_, rfl⟩
    by_cases hlt : k < len
    · have hc : wo.cell? ⟨b, off + k, none⟩ = some (.int .u8 ((zs.getD k 0 : Nat) : Int)) := (hB.cell (p := ⟨b, off + k, none⟩) hb).trans (HCS.out k hlt)
      generalize hg : zs.getD k 0 = c at *
      have HG := Lib.hid hg
      clear hg
      by_cases h52 : 51 < c
      · go_wp2
        rw [right_false_big (by rw [HL.out]; exact hlt) (by rw [HG.out]; omega)]
        go_ret
        exact ⟨rfl, hB⟩
      · go_wp2
        go_loopw [4] (fun j wr => ∃ x : Nat, x ≤ k ∧ j = .int .i64 x ∧ NeTo zs k x ∧ Below w.heap.size w wr) (fun j _ => k - (intOf j).toNat)
        case atStart => exact ⟨0, Nat.zero_le _, rfl, fun i hi => by omega, hB⟩
        case round =>
          obtain ⟨x, hx, rfl, hne, hB2⟩ := hrel
          by_cases hxk : x < k
          · have hxl : x < len := by omega
            have hc1 : wr.cell? ⟨b, off + k, none⟩ = some (.int .u8 (c : Int)) := (hB2.cell (p := ⟨b, off + k, none⟩) hb).trans (by rw [HCS.out k hlt, HG.out])
            have hc2 : wr.cell? ⟨b, off + x, none⟩ = some (.int .u8 ((zs.getD x 0 : Nat) : Int)) := (hB2.cell (p := ⟨b, off + x, none⟩) hb).trans (HCS.out x hxl)
            generalize hg2 : zs.getD x 0 = d at *
            have HG2 := Lib.hid hg2
            clear hg2
            have hr1 := fun dd os => cell_regrown hc1 dd os
            have hr2 := fun dd os => cell_regrown hc2 dd os
            go_wp2
            refine wp_region_quiet_below (by kernel_rfl) (by kernel_rfl) ?_
            repeat (quiet_step (fail))
            refine wpQuiet_nil ?_
            rintro _ ⟨p, rfl⟩
            have hb3 := below_regrown wr p.d p.os
            generalize grow (redrawn wr p.d) p.os = w1 at *
            by_cases hcd : d = c
            · have hcd' : ((d : Int) == (c : Int)) = true := by simp; omega
              have HCD := Lib.hid hcd
              clear hcd
              go_wp2
              rw [right_false_twice (by rw [HL.out]; exact hlt) hxk (by rw [HG.out, HG2.out, HCD.out])]
              go_ret
              exact ⟨rfl, hB2.trans (hb3.mono hB2.size)⟩
            · have hcd' : ((d : Int) == (c : Int)) = false := by simp; omega
              go_wp2
              go_roundw
              case rel =>
                refine ⟨x + 1, by omega, by go_num, fun y hy => ?_, hB2.trans (hb3.mono hB2.size)⟩
                rcases Nat.lt_succ_iff_lt_or_eq.1 hy with h | h
                · exact hne y h
                · subst h; rw [HG.out, HG2.out]; exact hcd
              case measure => simp [intOf]; omega
          · have hxe : Hid (x = k) := Lib.hid (by omega)
            go_wp2
            go_roundw
            case rel =>
              refine ⟨k + 1, by omega, by go_num, fun y hy => ?_, hB2⟩
              rcases Nat.lt_succ_iff_lt_or_eq.1 hy with h | h
              · exact hok y h
              · subst h
                refine ⟨by rw [HG.out]; omega, fun z hz => hne z (by rw [hxe.out]; exact hz)⟩
            case measure => simp [intOf]; omega
    · have hk' : k = len := by omega
      have HK := Lib.hid hk'
      clear hk'
      go_wp2
      rw [right_true (by rw [HL.out]; omega) (by rw [HL.out]; omega) (by rw [HL.out, ← HK.out]; exact hok)]
      go_ret
      exact ⟨rfl, hB⟩
end Go.Proofs.YthilcnhnfdddhaaDoor
