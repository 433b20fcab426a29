/- Lengths for all arguments: what is not right. -/
import Derived.Test.YtmkplfndbjcflaaAgZl
namespace Go.Proofs.Ytmkplfndbjcflaa
open Go.RowKit Go.Sort Go.Shelf Cnt
attribute [local go_sem] Oper.semAt_some

set_option maxRecDepth 5000 in
theorem ag_Lengths_no (left : Nat) (n : Int) (a : Option Addr) (la ca : Nat) (ra : List Rg) (s : Int) (w : World) (ha : Rgs w a la ra) (hno : (legalB left n && rightV ra && (decide (0 ≤ s) && decide (s < 4))) = false) :
    Calls Try.prog 19 #[.int .u64 (left : Int), .int .i64 n, .slice a la ca, .int .i64 s] w fun e w' =>
      e = .returned (.tuple #[.slice none 0 0, .int .i64 2]) ∧ Below w.heap.size w w' := by
  have HA := Lib.hid ha
  have HNO := Lib.hid hno
  clear ha hno
  refine (callsIn_wide (n := 9)).1 ?_
  refine callsIn_of_wp_marks Try.func19 rfl trivial ?_ rfl
  simp only [Try.ntmps19, List.size_toArray, List.length_cons, List.length_nil, Nat.reduceAdd, Nat.reduceSub, Array.replicate_succ, Array.replicate_zero, List.push_toArray, List.append_toArray, List.nil_append, List.cons_append]
  have hW2 : Below w.heap.size w ((w.alloc (.cells #[.slice a la ca] 23)).alloc (.cells #[.int .i64 s] 3)) := ((Below.refl _ _).alloc (Nat.le_refl _) _).alloc (by simp) _
  have hRs : Row ((w.alloc (.cells #[.slice a la ca] 23)).alloc (.cells #[.int .i64 s] 3)) (w.heap.size + 1) 3 #[.int .i64 s] := Row.new1 _ _ _ _
  have HW2 := Lib.hid hW2
  have HRs := Lib.hid hRs
  clear hW2 hRs
  gi_wp2_with fail
  refine (callsIn_wide.2 (ag_legal left n _)).mono ?_
  rintro e w' ⟨rfl, rfl⟩
  rcases hl : legalB left n with _ | _
  · clear hl
    gi_wp2_with fail
    exact ⟨_, results_tmp2 rfl _ _ _, rfl, HW2.out⟩
  · have HL := Lib.hid hl
    clear hl
    gi_wp2_with fail
    refine (callsIn_wide.2 (ag_Right a la ca ra _ (HA.out.below (Nat.le_refl _) HW2.out))).mono ?_
    rintro e w3 ⟨rfl, hb3⟩
    have HB3 := Lib.hid (HW2.out.trans (hb3.mono HW2.out.size))
    have hs3 := (HRs.out.later hb3).cell 0
    clear hb3
    rcases hr : rightV ra with _ | _
    · clear hr
      gi_wp2_with fail
      exact ⟨_, results_tmp2 rfl _ _ _, rfl, HB3.out⟩
    · have HR := Lib.hid hr
      have hs : s < 0 ∨ 4 ≤ s := by
        have := HNO.out
        rw [HL.out, HR.out] at this
        simp at this
        omega
      clear hr
      rcases hs with hs | hs
      · have hd : decide (s < 0) = true := by simp; omega
        gi_wp2_with fail
        exact ⟨_, results_tmp2 rfl _ _ _, rfl, HB3.out⟩
      · have hd : decide (s < 0) = false := by simp; omega
        gi_wp2_with fail
        exact ⟨_, results_tmp2 rfl _ _ _, rfl, HB3.out⟩
/-- what Lengths says for what is right -/
theorem ag_LengthsOk (left : Nat) (n : Int) (hl : left < 4503599627370496) (h0 : 0 ≤ n) (h13 : n ≤ 13) (a : Option Addr) (la ca : Nat) (ra : List Rg) (hr : rightV ra = true) (s : Nat) (hs : s < 4) (w : World) (ha : Rgs w a la ra) :
    Calls Try.prog 19 #[.int .u64 (left : Int), .int .i64 n, .slice a la ca, .int .i64 (s : Int)] w fun e w' =>
      (∃ b, e = .returned (.tuple #[.slice (some ⟨b, 0, none⟩) 14 14, .int .i64 0]) ∧ w.heap.size < b ∧ Row w' b 3 (tab 14 (lnV left n.toNat ra s))) ∧ Below w.heap.size w w' := by
  obtain ⟨nn, rfl⟩ : ∃ nn : Nat, n = (nn : Int) := ⟨n.toNat, by omega⟩
  have h := ag_Lengths left nn hl (by omega) a la ca ra s hs w ha hr (Nat.le_trans (allC_bound left nn (by omega) _) (by decide))
  have e : (fun k => allC (fun l p => fitP ra l p && decide (l s = k)) (cellsOf left nn)) = lnV left nn ra s := funext fun k => allC_hands left nn (by omega) _
  rw [e] at h
  exact h
end Go.Proofs.Ytmkplfndbjcflaa
