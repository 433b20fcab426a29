/- finesselaw12.none over this seat's program: plays that are none. -/
import Derived.Test.YtginbellakkliaaDoorRrN
namespace Go.Proofs.YtginbellakkliaaDoor
open Go.RowKit Go.Shelf Go.Sort Go.Maps Go.WideMaps
attribute [local go_sem] Oper.semAt_some
attribute [-go_sem] run_equalIn_agg

theorem eq_zero4 (w : World) : Sem.run Tryd.prog (Op.equalIn 10000 26 (.agg #[.int .u64 0, .int .u64 0, .int .u64 0, .int .u64 0]) (.agg #[.int .u64 0, .int .u64 0, .int .u64 0, .int .u64 0])) w = .ok true w := eq_deal (fun _ => 0) (fun _ => 0) w
set_option maxHeartbeats 4000000 in
set_option maxRecDepth 10000 in
theorem law12_none (w : World) : Calls Tryd.prog 38 #[] w fun e w' => e = .returned (.bool true) ∧ Below w.heap.size w w' := by
  have heq := eq_zero4
  go_enter Tryd.func38, Tryd.ntmps38
  go_upto_region 2 with fail
  have HR := Lib.hid ((Row.new w 85 zeroPl).alloc (.cells #[.pointer none, .pointer (some ⟨w.heap.size, 0, none⟩)] 31))
  have hr1 := Row.new (w.alloc (.cells zeroPl 85)) 31 #[.pointer none, .pointer (some ⟨w.heap.size, 0, none⟩)]
  rw [show (w.alloc (.cells zeroPl 85)).heap.size = w.heap.size + 1 by simp] at hr1
  have HP := Lib.hid hr1
  have HB := Lib.hid (((Below.refl w.heap.size w).alloc (Nat.le_refl _) (.cells zeroPl 85)).alloc (by simp) (.cells #[.pointer none, .pointer (some ⟨w.heap.size, 0, none⟩)] 31))
  clear hr1
  change Code.wp _ _ _ _ ((w.alloc (.cells zeroPl 85)).alloc (.cells #[.pointer none, .pointer (some ⟨w.heap.size, 0, none⟩)] 31))
  generalize (w.alloc (.cells zeroPl 85)).alloc (.cells #[.pointer none, .pointer (some ⟨w.heap.size, 0, none⟩)] 31) = w1 at *
  obtain ⟨b, hb⟩ : ∃ b, w.heap.size = b := ⟨_, rfl⟩
  obtain ⟨b1, hb1⟩ : ∃ b, w.heap.size + 1 = b := ⟨_, rfl⟩
  rw [hb1] at HP ⊢
  rw [hb] at HR HP ⊢
  clear hb hb1
  go_loopg [22] 2 (fun g iv wr => ∃ (i : Nat), g = 2 - i ∧ i ≤ 2 ∧ iv = .int .i64 (i : Int) ∧ Below w1.heap.size w1 wr)
  case atStart => exact ⟨0, rfl, by omega, rfl, Below.refl _ _⟩
  case round =>
    obtain ⟨i, rfl, hi, rfl, hbr⟩ := hrel
    have HBR := Lib.hid hbr
    clear hbr
    by_cases hlt : i < 2
    · have hd : decide (i < 2) = true := by simp; omega
      have hiI : (i : Int) < 2 := by omega
      obtain ⟨pv, hcell, hno⟩ : ∃ pv, wr.cell? ⟨b1, i, none⟩ = some pv ∧ NoP wr pv := by
        rcases (show i = 0 ∨ i = 1 by omega) with rfl | rfl
        · exact ⟨.pointer none, (HBR.out.cell (p := ⟨b1, 0, none⟩) HP.out.lt).trans (HP.out.cell 0), .inl rfl⟩
        · exact ⟨.pointer (some ⟨b, 0, none⟩), (HBR.out.cell (p := ⟨b1, 1, none⟩) HP.out.lt).trans (HP.out.cell 1), .inr ⟨b, rfl, HR.out.later HBR.out⟩⟩
      have HN := Lib.hid hno
      have hpv : (∃ q, pv = .pointer q) := by
        rcases hno with h | ⟨B, h, -⟩
        · exact ⟨_, h⟩
        · exact ⟨_, h⟩
      obtain ⟨q, rfl⟩ := hpv
      clear hno
      go_wp2_with fail
      refine (no_Turn HN.out).mono ?_
      rintro e w' ⟨rfl, rfl⟩
      go_wp2_with fail
      refine (no_Chooser HN.out).mono ?_
      rintro e w' ⟨rfl, rfl⟩
      go_wp2_with fail
      refine (no_Result HN.out).mono ?_
      rintro e w' ⟨rfl, rfl⟩
      go_wp2_with fail
      refine (no_Trick HN.out).mono ?_
      rintro e w' ⟨rfl, rfl⟩
      go_wp2_with fail
      refine (no_Last HN.out).mono ?_
      rintro e w' ⟨rfl, rfl⟩
      go_wp2_with fail
      refine (no_Tricks HN.out).mono ?_
      rintro e w' ⟨rfl, rfl⟩
      clear hcell
      go_wp2_with fail
      refine (no_Seen 0 HN.out).mono ?_
      rintro e w5 ⟨rfl, hb5⟩
      have HB5 := Lib.hid (HBR.out.trans (hb5.mono HBR.out.size))
      have HN5 := Lib.hid (HN.out.below hb5)
      have hal := (Below.refl w5.heap.size w5).alloc (Nat.le_refl _) (.cells #[.int .u64 0, .int .u64 0, .int .u64 0, .int .u64 0] 26)
      have HN6 := Lib.hid (HN5.out.below hal)
      have HB6 := Lib.hid (HB5.out.trans (hal.mono HB5.out.size))
      have HR6 := Lib.hid (Row.new w5 26 #[.int .u64 0, .int .u64 0, .int .u64 0, .int .u64 0])
      clear hb5 hal HN HN5 HB5
      go_upto_region 11 with fail
      generalize w5.alloc (.cells #[.int .u64 0, .int .u64 0, .int .u64 0, .int .u64 0] 26) = w6 at *
      obtain ⟨y, hy⟩ : ∃ y, w5.heap.size = y := ⟨_, rfl⟩
      rw [hy] at HR6 ⊢
      clear hy
      have c0 : w6.cell? ⟨y, 0, none⟩ = some (.int .u64 0) := HR6.out.cell 0
      have c1 : w6.cell? ⟨y, 1, none⟩ = some (.int .u64 0) := HR6.out.cell 1
      have c2 : w6.cell? ⟨y, 2, none⟩ = some (.int .u64 0) := HR6.out.cell 2
      have c3 : w6.cell? ⟨y, 3, none⟩ = some (.int .u64 0) := HR6.out.cell 3
      go_wp2_with fail
      refine (no_Legal HN6.out).mono ?_
      rintro e w' ⟨rfl, rfl⟩
      go_wp2_with fail
      refine (no_Hand 0 HN6.out).mono ?_
      rintro e w' ⟨rfl, rfl⟩
      go_wp2_with fail
      refine (no_Cards HN6.out).mono ?_
      rintro e w' ⟨rfl, rfl⟩
      go_wp2_with fail
      refine (no_Do 0 HN6.out).mono ?_
      rintro e w' ⟨rfl, rfl⟩
      go_wp2_with fail
      refine (no_Undo HN6.out).mono ?_
      rintro e w' ⟨rfl, rfl⟩
      go_wp2_with fail
      refine (no_Redo HN6.out).mono ?_
      rintro e w' ⟨rfl, rfl⟩
      go_wp2_with fail
      go_roundg (2 - (i + 1))
      case measure => omega
      case rel => exact ⟨i + 1, rfl, by omega, by go_num, HB6.out⟩
    · have hd : decide (i < 2) = false := by simp; omega
      go_wp2_with fail
      go_ret
      exact ⟨rfl, HB.out.trans (HBR.out.mono HB.out.size)⟩
end Go.Proofs.YtginbellakkliaaDoor
