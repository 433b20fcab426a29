/- The body of AgreeTells over this seat's program. -/
import Derived.Test.YtmkplfndbjcflaaAgTl
namespace Go.Proofs.Ytmkplfndbjcflaa
open Go.RowKit Go.Sort Go.Shelf Cnt

set_option maxHeartbeats 1000000 in
theorem law_AgreeTells (left h : Nat) (n : Int) (a : Option Addr) (la ca : Nat) (ra : List Rg) (b : Option Addr) (lb cb : Nat) (rb : List Rg) (w : World) (hleft : W64 left) (hh : W64 h) (_ : -9223372036854775808 ≤ n ∧ n ≤ 9223372036854775807) (ha : Rgs w a la ra) (na : la ≤ ca ∧ (a = none → ca = 0)) (hb : Rgs w b lb rb) (nb : lb ≤ cb ∧ (b = none → cb = 0)) :
    Calls Try.prog 3 #[.int .u64 (left : Int), .int .u64 (h : Int), .int .i64 n, .slice a la ca, .slice b lb cb] w fun e w' => e = .returned (.bool true) ∧ Below w.heap.size w w' := by
  have HT := Lib.hid fun la30 lb30 => law40_tells left h n a b la ca lb cb ra rb w hleft hh ha hb na.2 nb.2 la30 lb30
  have sa := ha.small
  have sb := hb.small
  clear ha hb na nb
  by_cases ga : 30 < la
  · have da : decide (30 < (la : Int)) = true := by simp; omega
    clear HT
    go_enter Try.func3, Try.ntmps3
    go_wp2_with fail
    refine (law40_awake _).mono ?_
    rintro e w1 ⟨rfl, hb1⟩
    have HB1 := Lib.hid hb1
    go_wp2_with fail
    go_ret
    exact ⟨rfl, HB1.out⟩
  · have da : decide (30 < (la : Int)) = false := by simp; omega
    by_cases gb : 30 < lb
    · have db : decide (30 < (lb : Int)) = true := by simp; omega
      clear HT
      go_enter Try.func3, Try.ntmps3
      go_wp2_with fail
      refine (law40_awake _).mono ?_
      rintro e w1 ⟨rfl, hb1⟩
      have HB1 := Lib.hid hb1
      go_wp2_with fail
      go_ret
      exact ⟨rfl, HB1.out⟩
    · have db : decide (30 < (lb : Int)) = false := by simp; omega
      have HT2 := Lib.hid (HT.out (by omega) (by omega))
      clear HT ga gb
      go_enter Try.func3, Try.ntmps3
      go_wp2_with fail
      refine HT2.out.mono ?_
      rintro e w1 ⟨rfl, hb1⟩
      have HB1 := Lib.hid hb1
      clear hb1
      go_wp2_with fail
      refine (law40_awake _).mono ?_
      rintro e w2 ⟨rfl, hb2⟩
      have HB2 := Lib.hid (HB1.out.trans (hb2.mono HB1.out.size))
      clear hb2
      go_wp2_with fail
      go_ret
      exact ⟨rfl, HB2.out⟩
end Go.Proofs.Ytmkplfndbjcflaa
