/- Contract of agree.Given for all arguments; Count. -/
import Derived.Test.YtmkplfndbjcflaaAgP
namespace Go.Proofs.Ytmkplfndbjcflaa
open Go.RowKit Go.Sort Go.Shelf Cnt
attribute [local go_sem] Oper.semAt_some

set_option maxRecDepth 5000 in
theorem ag_Given_no (left : Nat) (n : Int) (a b : Option Addr) (la ca lb cb : Nat) (ra rb : List Rg) (w : World) (ha : Rgs w a la ra) (hb : Rgs w b lb rb) (hno : (legalB left n && rightV ra && rightV rb) = false) :
    Calls Try.prog 16 #[.int .u64 (left : Int), .int .i64 n, .slice a la ca, .slice b lb cb] w fun e w' =>
      e = .returned (.tuple #[.int .i64 0, .int .i64 0, .int .i64 2]) ∧ Below w.heap.size w w' := by
  have HA := Lib.hid ha
  have HB := Lib.hid hb
  have HNO := Lib.hid hno
  clear ha hb hno
  refine (callsIn_wide (n := 9)).1 ?_
  refine callsIn_of_wp_marks Try.func16 rfl trivial ?_ rfl
  simp only [Try.ntmps16, List.size_toArray, List.length_cons, List.length_nil, Nat.reduceAdd, Nat.reduceSub, Array.replicate_succ, Array.replicate_zero, List.push_toArray, List.append_toArray, List.nil_append, List.cons_append]
  have hW2 : Below w.heap.size w ((w.alloc (.cells #[.slice a la ca] 23)).alloc (.cells #[.slice b lb cb] 23)) := ((Below.refl _ _).alloc (Nat.le_refl _) _).alloc (by simp) _
  have hRb : Row ((w.alloc (.cells #[.slice a la ca] 23)).alloc (.cells #[.slice b lb cb] 23)) (w.heap.size + 1) 23 #[.slice b lb cb] := by
    have := Row.new (w.alloc (.cells #[.slice a la ca] 23)) 23 #[.slice b lb cb]
    rwa [World.size_alloc] at this
  have HW2 := Lib.hid hW2
  have HRb := Lib.hid hRb
  clear hW2 hRb
  gi_wp2_with fail
  refine (callsIn_wide.2 (ag_legal left n _)).mono ?_
  rintro e w' ⟨rfl, rfl⟩
  rcases hl : legalB left n with _ | _
  · clear hl
    gi_wp2_with fail
    exact ⟨_, results_tmp3 rfl _ _ _, rfl, HW2.out⟩
  · have HL := Lib.hid hl
    clear hl
    gi_wp2_with fail
    refine (callsIn_wide.2 (ag_Right a la ca ra _ (HA.out.below (Nat.le_refl _) HW2.out))).mono ?_
    rintro e w3 ⟨rfl, hb3⟩
    have hRb3 := (HRb.out.later hb3).cell 0
    have HB3 := Lib.hid (HW2.out.trans (hb3.mono HW2.out.size))
    clear hb3
    rcases hr : rightV ra with _ | _
    · clear hr
      gi_wp2_with fail
      exact ⟨_, results_tmp3 rfl _ _ _, rfl, HB3.out⟩
    · have HR := Lib.hid hr
      clear hr
      gi_wp2_with fail
      refine (callsIn_wide.2 (ag_Right b lb cb rb _ (HB.out.below (Nat.le_refl _) HB3.out))).mono ?_
      rintro e w4 ⟨rfl, hb4⟩
      have HB4 := Lib.hid (HB3.out.trans (hb4.mono HB3.out.size))
      clear hb4
      have hr2 : rightV rb = false := by
        have := HNO.out
        rw [HL.out, HR.out] at this
        simpa using this
      rw [hr2]
      clear hr2
      gi_wp2_with fail
      exact ⟨_, results_tmp3 rfl _ _ _, rfl, HB4.out⟩

/-- what Given says -/
def givenV (left : Nat) (n : Int) (ra rb : List Rg) : Nat × Nat × Int :=
  if legalB left n && rightV ra && rightV rb then (cntF (deck left) n.toNat (fitP ra), cntF (deck left) n.toNat (fun l p => fitP ra l p && fitP rb l p), 0) else (0, 0, 2)
theorem ag_GivenV (left : Nat) (n : Int) (a b : Option Addr) (la ca lb cb : Nat) (ra rb : List Rg) (w : World) (ha : Rgs w a la ra) (hb : Rgs w b lb rb) :
    Calls Try.prog 16 #[.int .u64 (left : Int), .int .i64 n, .slice a la ca, .slice b lb cb] w fun e w' =>
      e = .returned (.tuple #[.int .i64 ((givenV left n ra rb).1 : Int), .int .i64 ((givenV left n ra rb).2.1 : Int), .int .i64 (givenV left n ra rb).2.2]) ∧ Below w.heap.size w w' := by
  unfold givenV
  cases h : (legalB left n && rightV ra && rightV rb)
  · simp only [Bool.false_eq_true, if_false]
    exact ag_Given_no left n a b la ca lb cb ra rb w ha hb h
  · simp only [if_true]
    simp only [Bool.and_eq_true, legalB, decide_eq_true_eq] at h
    obtain ⟨⟨⟨⟨h1, h2⟩, h3⟩, h4⟩, h5⟩ := h
    obtain ⟨nn, rfl⟩ : ∃ nn : Nat, n = (nn : Int) := ⟨n.toNat, by omega⟩
    rw [Int.toNat_natCast, ← allC_hands left nn (by omega), ← allC_hands left nn (by omega)]
    exact ag_Given left nn h3 (by omega) a b la ca lb cb ra rb w ha hb h4 h5 (Nat.le_trans (allC_bound left nn (by omega) _) (by decide))
theorem Rgs.nil (w : World) : Rgs w none 0 [] := ⟨rfl, by decide, .inl rfl⟩
theorem ag_Count (left : Nat) (n : Int) (a : Option Addr) (la ca : Nat) (ra : List Rg) (w : World) (ha : Rgs w a la ra) :
    Calls Try.prog 15 #[.int .u64 (left : Int), .int .i64 n, .slice a la ca] w fun e w' =>
      e = .returned (.tuple #[.int .i64 ((givenV left n ra []).1 : Int), .int .i64 (givenV left n ra []).2.2]) ∧ Below w.heap.size w w' := by
  have H := Lib.hid fun w' h => ag_GivenV left n a none la ca 0 0 ra [] w' h (Rgs.nil w')
  have HA := Lib.hid ha
  clear ha
  go_enter Try.func15, Try.ntmps15
  go_wp2_with fail
  refine (H.out _ HA.out).mono ?_
  rintro _ w1 ⟨rfl, hb⟩
  have HB := Lib.hid hb
  clear hb
  go_wp2
  go_ret2
  exact ⟨rfl, HB.out⟩
/-- binomials fit into a word -/
theorem chs_le : ∀ n k, chs n k ≤ 2 ^ n
  | n, 0 => by rw [chs_zero]; exact Nat.one_le_two_pow
  | 0, k + 1 => Nat.zero_le _
  | n + 1, k + 1 => by rw [chs_succ]; have h1 := chs_le n k; have h2 := chs_le n (k + 1); rw [Nat.pow_succ]; omega
theorem cnt_nil : ∀ k, cnt 0 k = 0
  | 0 => rfl
  | k + 1 => by simp only [cnt, cnt_nil k, Nat.zero_testBit]; rfl
theorem pop_52 {m : Nat} (h : m < 4503599627370496) : pop m ≤ 52 := by
  unfold pop
  rw [show (64 : Nat) = 52 + 12 from rfl, cnt_add, show m >>> 52 = 0 by rw [Nat.shiftRight_eq_div_pow]; omega, cnt_nil]
  exact cnt_le m 52
/-- what Total says -/
def totalV (left : Nat) (n : Int) : Nat × Int := if legalB left n then (chs (pop left) n.toNat, 0) else (0, 2)
theorem ag_Total (left : Nat) (n : Int) (w : World) (hleft : W64 left) :
    Calls Try.prog 33 #[.int .u64 (left : Int), .int .i64 n] w fun e w' =>
      e = .returned (.tuple #[.int .i64 ((totalV left n).1 : Int), .int .i64 (totalV left n).2]) ∧ w = w' := by
  unfold totalV
  cases hl : legalB left n
  · have HL := Lib.hid hl
    clear hl
    go_enter Try.func33, Try.ntmps33
    go_wp2_with (go_at_call 40; refine (ag_legal left n _).mono ?_; rintro e w' ⟨rfl, rfl⟩; rw [HL.out])
    go_ret2
    exact ⟨rfl, rfl⟩
  · have HL := Lib.hid hl
    simp only [legalB, Bool.and_eq_true, decide_eq_true_eq] at hl
    obtain ⟨⟨h1, h2⟩, h3⟩ := hl
    obtain ⟨nn, rfl⟩ : ∃ nn : Nat, n = (nn : Int) := ⟨n.toNat, by omega⟩
    have hpop : pop left ≤ 52 := pop_52 h3
    have hones := Lib.hid fun w' => bits_ones left hleft w'
    simp only [if_true, Int.toNat_natCast]
    generalize hP : pop left = P at *
    have hch : ∀ k, chs P k ≤ 4503599627370496 := fun k => Nat.le_trans (chs_le P k) (Nat.le_trans (Nat.pow_le_pow_right (by decide) hpop) (by decide))
    have HCH := Lib.hid hch
    have HP := Lib.hid hpop
    have H2 := Lib.hid h2
    clear h1 h2 h3 hpop hch hP
    go_enter Try.func33, Try.ntmps33
    go_wp2_with (first | (go_at_call 40; refine (ag_legal left (nn : Int) _).mono ?_; rintro e w' ⟨rfl, rfl⟩; rw [HL.out]) | (go_at_call 49; refine (hones.out _).mono ?_; rintro e w' ⟨rfl, rfl⟩))
    go_loopw [7, 16] (fun v i wr => ∃ (k : Nat), k ≤ nn ∧ i = .int .i64 (k : Int) ∧ v = .int .i64 (chs P k : Int) ∧ w = wr) (fun _ i _ => nn - (intOf i).toNat)
    case atStart => exact ⟨0, by omega, rfl, by rw [chs_zero]; rfl, rfl⟩
    case round =>
      obtain ⟨k, hk, rfl, rfl, rfl⟩ := hrel
      by_cases hlt : k < nn
      · have hd : decide ((k : Int) < (nn : Int)) = true := by simp; omega
        have hk13 : k ≤ 12 := by have := H2.out; omega
        have hme : (chs P k : Int) * ((P : Int) - (k : Int)) = ((chs P (k + 1) * (k + 1) : Nat) : Int) := by
          by_cases hkP : k ≤ P
          · rw [chs_mul, Int.natCast_mul, Int.natCast_sub hkP]
          · rw [chs_big P k (by omega), chs_big P (k + 1) (by omega)]; simp
        have hp52 := HP.out
        have hq : IntKind.i64.wrap ((P : Int) - (k : Int)) = (P : Int) - (k : Int) := IntWalk.i64_in _ (by omega)
        have hc := HCH.out (k + 1)
        have hm : chs P (k + 1) * (k + 1) ≤ 4503599627370496 * 13 := Nat.mul_le_mul hc (by omega)
        have HD : Hid (wrap64 (((chs P (k + 1) * (k + 1) : Nat) : Int) / ((k : Int) + 1)) = ((chs P (k + 1) : Nat) : Int)) := Lib.hid (by
          have e : ((chs P (k + 1) * (k + 1) : Nat) : Int) / ((k : Int) + 1) = ((chs P (k + 1) : Nat) : Int) := by
            rw [show (k : Int) + 1 = ((k + 1 : Nat) : Int) by simp, ← Int.natCast_ediv, Nat.mul_div_cancel _ (by omega)]
          rw [e]
          exact IntWalk.wrap64_in _ (by omega))
        generalize chs P (k + 1) * (k + 1) = m at *
        clear hc
        go_wp2_with fail
        go_roundw
        · exact ⟨k + 1, by omega, by simp, by rw [HD.out], trivial⟩
        · simp [intOf]; omega
      · obtain rfl : k = nn := by omega
        go_wp2
        go_ret2
        exact ⟨rfl, rfl⟩
end Go.Proofs.Ytmkplfndbjcflaa
