/- The reference of chapter 40: Spread and Lengths of what is not right. -/
import Derived.Test.YtmkplfndbjcflaaRgH
namespace Go.Proofs.Ytmkplfndbjcflaa
open Go.RowKit Go.Sort Go.Shelf Cnt

theorem rf_Spread_no (left : Nat) (n : Int) (a : Option Addr) (la ca : Nat) (ra : List Rg) (w : World) (ha : Rgs w a la ra) (hno : (legalB left n && rightV ra) = false) :
    Calls Try.prog 24 #[.int .u64 (left : Int), .int .i64 n, .slice a la ca] w fun e w' => e = .returned (.tuple #[.slice none 0 0, .int .i64 2]) ∧ Below w.heap.size w w' := by
  have HA := Lib.hid ha
  clear ha
  rcases hl : legalB left n with _ | _
  · go_enter Try.func24, Try.ntmps24
    go_wp2_with (go_at_call 46; refine (rf_counted left n _).mono ?_; rintro e w' ⟨rfl, rfl⟩; rw [hl])
    go_ret2
    exact ⟨rfl, Below.refl _ _⟩
  · have hr : rightV ra = false := by rw [hl] at hno; simpa using hno
    have HR := Lib.hid hr
    clear hno hr
    go_enter Try.func24, Try.ntmps24
    go_wp2_with (go_at_call 46; refine (rf_counted left n _).mono ?_; rintro e w' ⟨rfl, rfl⟩; rw [hl])
    refine (rf_Right a la ca ra _ HA.out).mono ?_
    rintro e w1 ⟨rfl, hb1⟩
    rw [HR.out]
    have HB1 := Lib.hid hb1
    clear hb1
    go_wp2_with fail
    go_ret2
    exact ⟨rfl, HB1.out⟩
theorem rf_Lengths_no (left : Nat) (n : Int) (a : Option Addr) (la ca : Nat) (ra : List Rg) (s : Int) (w : World) (ha : Rgs w a la ra) (hno : (legalB left n && rightV ra && (decide (0 ≤ s) && decide (s < 4))) = false) :
    Calls Try.prog 25 #[.int .u64 (left : Int), .int .i64 n, .slice a la ca, .int .i64 s] w fun e w' => e = .returned (.tuple #[.slice none 0 0, .int .i64 2]) ∧ Below w.heap.size w w' := by
  have HA := Lib.hid ha
  clear ha
  rcases hl : legalB left n with _ | _
  · go_enter Try.func25, Try.ntmps25
    go_wp2_with (go_at_call 46; refine (rf_counted left n _).mono ?_; rintro e w' ⟨rfl, rfl⟩; rw [hl])
    go_ret2
    exact ⟨rfl, Below.refl _ _⟩
  · rcases hr : rightV ra with _ | _
    · go_enter Try.func25, Try.ntmps25
      go_wp2_with (go_at_call 46; refine (rf_counted left n _).mono ?_; rintro e w' ⟨rfl, rfl⟩; rw [hl])
      refine (rf_Right a la ca ra _ HA.out).mono ?_
      rintro e w1 ⟨rfl, hb1⟩
      rw [hr]
      have HB1 := Lib.hid hb1
      clear hb1
      go_wp2_with fail
      go_ret2
      exact ⟨rfl, HB1.out⟩
    · have hs : s < 0 ∨ (0 ≤ s ∧ 3 < s) := by
        rw [hl, hr] at hno
        simp only [Bool.true_and, Bool.and_eq_false_iff, decide_eq_false_iff_not] at hno
        omega
      have HR := Lib.hid hr
      clear hno hr
      rcases hs with hs | ⟨hs0, hs⟩
      · have d0 : decide (s < 0) = true := by simp; omega
        go_enter Try.func25, Try.ntmps25
        go_wp2_with (go_at_call 46; refine (rf_counted left n _).mono ?_; rintro e w' ⟨rfl, rfl⟩; rw [hl])
        refine (rf_Right a la ca ra _ HA.out).mono ?_
        rintro e w1 ⟨rfl, hb1⟩
        rw [HR.out]
        have HB1 := Lib.hid hb1
        clear hb1
        go_wp2_with fail
        go_ret2
        exact ⟨rfl, HB1.out⟩
      · have d0 : decide (s < 0) = false := by simp; omega
        have d3 : decide (3 < s) = true := by simp; omega
        go_enter Try.func25, Try.ntmps25
        go_wp2_with (go_at_call 46; refine (rf_counted left n _).mono ?_; rintro e w' ⟨rfl, rfl⟩; rw [hl])
        refine (rf_Right a la ca ra _ HA.out).mono ?_
        rintro e w1 ⟨rfl, hb1⟩
        rw [HR.out]
        have HB1 := Lib.hid hb1
        clear hb1
        go_wp2_with fail
        go_ret2
        exact ⟨rfl, HB1.out⟩
end Go.Proofs.Ytmkplfndbjcflaa
