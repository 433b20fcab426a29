/- AgP, AgQ in one text. -/
import Derived.Test.YtikdkhiehfccpaaMAgn

/- Plain: the sum over the iterator's cells is the sum over all hands of the cards that are left. -/
namespace Go.Proofs.Ytikdkhiehfccpaa
open Cnt

/-- points of a rank -/
def ptC (i : Nat) : Nat := i - 8
/-- some cards of a suit -/
def ftn (s n p : Nat) : Ft := ⟨if s = 0 then n else 0, if s = 1 then n else 0, if s = 2 then n else 0, if s = 3 then n else 0, p⟩
/-- a card -/
def ftC (s i : Nat) : Ft := ftn s 1 (ptC i)
theorem ftn_add (s n m p q : Nat) : (ftn s n p).add (ftn s m q) = ftn s (n + m) (p + q) := by
  simp only [Ft.add, ftn, Ft.mk.injEq]
  refine ⟨?_, ?_, ?_, ?_, trivial⟩ <;> split <;> rfl
theorem sumF_suit (s : Nat) (g : Ft → Nat) : ∀ l : List Nat, sumF (l.map (ftC s)) g = sumS (l.map ptC) (fun n p => g (ftn s n p)) := by
  intro l
  induction l generalizing g with
  | nil => show g Ft.zero = g (ftn s 0 0); congr 1; simp [ftn, Ft.zero]
  | cons i l ih =>
    simp only [List.map_cons, sumF, sumS]
    rw [ih, ih]
    congr 1
    refine sumS_congr fun n p => ?_
    rw [ftC, ftn_add, Nat.add_comm 1 n]
/-- the ranks that a suit has -/
def rksOf (x : Nat) : List Nat := (List.range 13).filter x.testBit
/-- the cards of a mask -/
def deck (left : Nat) : List Ft := (rksOf (scards left 0)).map (ftC 0) ++ ((rksOf (scards left 1)).map (ftC 1) ++ ((rksOf (scards left 2)).map (ftC 2) ++ (rksOf (scards left 3)).map (ftC 3)))
theorem low_rks : ∀ y : Fin 512, ((List.range 9).filter y.val.testBit).map ptC = List.replicate (pop y.val) 0 := by decide +kernel
theorem rks_suf (x : Nat) : (rksOf x).map ptC = sufL x := by
  unfold rksOf sufL
  rw [show List.range 13 = List.range 9 ++ [9, 10, 11, 12] by decide, List.filter_append, List.map_append]
  congr 1
  · rw [← low_rks ⟨_, land_low x⟩]
    congr 1
    refine List.filter_congr fun i hi => ?_
    have hi : i < 9 := by simpa using hi
    show x.testBit i = (land x 511).testBit i
    rw [testBit_land, show (511 : Nat) = 2 ^ 9 - 1 by decide, Nat.testBit_two_pow_sub_one, decide_eq_true hi, Bool.and_true]
  · have h : ∀ j, (shr x 9).testBit j = x.testBit (9 + j) := fun j => by unfold shr; rw [Nat.testBit_shiftRight]
    unfold honL
    simp only [h, Nat.add_zero, Nat.reduceAdd, List.filter_cons, List.filter_nil]
    generalize x.testBit 9 = b0
    generalize x.testBit 10 = b1
    generalize x.testBit 11 = b2
    generalize x.testBit 12 = b3
    revert b0 b1 b2 b3
    decide
/-- lengths of a hand -/
def lenF (x : Ft) : Nat → Nat := fun j => if j = 3 then x.d else if j = 2 then x.c else if j = 1 then x.b else if j = 0 then x.a else 0
theorem sumN_upto (n m : Nat) (h : n ≤ m) (F : Nat → Nat) : sumN n F = sumN m (fun c => if c < n then F c else 0) := by
  induction m with
  | zero => obtain rfl : n = 0 := by omega
            rfl
  | succ m ih =>
    by_cases e : n = m + 1
    · subst e
      exact sumN_congr fun i hi => by rw [if_pos hi]
    · rw [ih (by omega)]
      show _ = sumN m _ + (if m < n then F m else 0)
      rw [if_neg (by omega), Nat.add_zero]
theorem suitRow_hold (left i len q : Nat) (hi : i < 4) (hl : len < 14) (hq : q < 11) : suitRow (hvAll left) i len q = holdV (scards left i) (len * 11 + q) := by
  unfold suitRow hvAll hvTo
  rw [if_pos (by omega)]
  congr 1
  · congr 1; omega
  · omega
theorem Rr_step (left : Nat) (G : (Nat → Nat) → Nat → Nat) (d rest : Nat) (hd : d < 4) (hr : rest ≤ 13) (l : Nat → Nat) (p : Nat) :
    Rr (hvAll left) G (d + 1) rest l p = sumS (sufL (scards left (3 - d))) (fun len q => if (if d = 0 then len = rest else len ≤ rest) then Rr (hvAll left) G d (rest - len) (upd l (3 - d) len) (p + q) else 0) := by
  rw [← T2_hold _ (scards_lt left (3 - d))]
  show sumN (min rest 13 + 1 - least d rest) _ = sumN 14 _
  have key : ∀ c, c < 14 → (sumN 11 fun q => holdV (scards left (3 - d)) (c * 11 + q) * if (if d = 0 then c = rest else c ≤ rest) then Rr (hvAll left) G d (rest - c) (upd l (3 - d) c) (p + q) else 0) = if (if d = 0 then c = rest else c ≤ rest) then sumN 11 (fun q => suitRow (hvAll left) (3 - d) c q * Rr (hvAll left) G d (rest - c) (upd l (3 - d) c) (p + q)) else 0 := by
    intro c hc
    by_cases e : (if d = 0 then c = rest else c ≤ rest)
    · rw [if_pos e]
      refine sumN_congr fun q hq => ?_
      rw [if_pos e, suitRow_hold _ _ _ _ (by omega) hc hq]
    · rw [if_neg e, sumN_congr (h := fun _ => 0), sumN_zero]
      intro q _
      rw [if_neg e, Nat.mul_zero]
  rw [sumN_congr (n := 14) key]
  unfold least
  by_cases hd0 : d = 0
  · subst hd0
    simp only [if_true]
    rw [show min rest 13 + 1 - rest = 1 by omega, sumN_pick 14 rest (fun c => sumN 11 (fun q => suitRow (hvAll left) (3 - 0) c q * Rr (hvAll left) G 0 (rest - c) (upd l (3 - 0) c) (p + q))), if_pos (by omega)]
    have h1 : ∀ F : Nat → Nat, sumN 1 F = F 0 := fun F => Nat.zero_add _
    rw [h1]
    simp only [Nat.add_zero]
  · simp only [if_neg hd0]
    rw [show min rest 13 + 1 - 0 = rest + 1 by omega, sumN_upto (rest + 1) 14 (by omega)]
    refine sumN_congr fun c _ => ?_
    rw [Nat.zero_add]
    by_cases e : c ≤ rest
    · rw [if_pos e, if_pos (by omega)]
    · rw [if_neg e, if_neg (by omega)]
theorem sumS_if (l : List Nat) (c : Prop) [Decidable c] (g : Nat → Nat → Nat) : (if c then sumS l g else 0) = sumS l (fun n p => if c then g n p else 0) := by
  by_cases e : c
  · rw [if_pos e]; exact sumS_congr fun n p => by rw [if_pos e]
  · rw [if_neg e, sumS_congr (h := fun _ _ => 0) (fun n p => by rw [if_neg e]), sumS_zero]
theorem lenF_ftn (a b c d p q r s : Nat) : lenF ((ftn 0 a p).add ((ftn 1 b q).add ((ftn 2 c r).add (ftn 3 d s)))) = upd (upd (upd (upd (fun _ => 0) 0 a) 1 b) 2 c) 3 d := by
  funext j
  simp only [lenF, upd, Ft.add, ftn]
  simp
/-- THE SUM OVER THE CELLS IS THE SUM OVER ALL HANDS -/
theorem cells_hands (left nn : Nat) (hn : nn ≤ 13) (G : (Nat → Nat) → Nat → Nat) : sumC G (cellsOf left nn) = sumF (deck left) (fun x => if x.size = nn then G (lenF x) x.p else 0) := by
  rw [sumC_cells (hvAll left) G (fun i len hi hl => suitRow_sum left i len hi hl) 4 0 rfl nn hn _ _ sp0_ok]
  have h0 : T1 sp0 (Rr (hvAll left) G 4 nn fun _ => 0) = Rr (hvAll left) G 4 nn (fun _ => 0) 0 := by
    unfold T1
    rw [sumN_congr (h := fun p => if p = 0 then Rr (hvAll left) G 4 nn (fun _ => 0) 0 else 0), sumN_pick 41 0 (fun _ => Rr (hvAll left) G 4 nn (fun _ => 0) 0), if_pos (by decide)]
    intro p _
    unfold sp0
    by_cases e : p = 0
    · subst e; rw [if_pos rfl, if_pos rfl, Nat.one_mul]
    · rw [if_neg e, if_neg e, Nat.zero_mul]
  rw [h0]
  unfold deck
  rw [sumF_append, sumF_suit, rks_suf, Rr_step _ _ 3 nn (by decide) hn]
  refine sumS_congr fun a p => ?_
  simp only [show ¬ (3 = 0) by decide, if_false]
  rw [sumF_append, sumF_suit, rks_suf]
  rcases Nat.lt_or_ge (nn) a with ha | ha
  · rw [if_neg (by omega), sumS_congr (h := fun _ _ => 0), sumS_zero]
    intro b q
    rw [sumF_congr (h := fun _ => 0), sumF_zero]
    intro x
    rw [if_neg]
    simp only [Ft.size_add]
    simp only [Ft.size, ftn]
    simp
    omega
  rw [if_pos ha, Rr_step _ _ 2 (nn - a) (by decide) (by omega)]
  refine sumS_congr fun b q => ?_
  simp only [show ¬ (2 = 0) by decide, if_false]
  rw [sumF_append, sumF_suit, rks_suf]
  rcases Nat.lt_or_ge (nn - a) b with hb | hb
  · rw [if_neg (by omega), sumS_congr (h := fun _ _ => 0), sumS_zero]
    intro c r
    rw [sumF_congr (h := fun _ => 0), sumF_zero]
    intro x
    rw [if_neg]
    simp only [Ft.size_add]
    simp only [Ft.size, ftn]
    simp
    omega
  rw [if_pos hb, Rr_step _ _ 1 (nn - a - b) (by decide) (by omega)]
  refine sumS_congr fun c r => ?_
  simp only [show ¬ (1 = 0) by decide, if_false]
  rw [sumF_suit, rks_suf]
  rcases Nat.lt_or_ge (nn - a - b) c with hc | hc
  · rw [if_neg (by omega), sumS_congr (h := fun _ _ => 0), sumS_zero]
    intro d s
    rw [if_neg]
    simp only [Ft.size_add]
    simp only [Ft.size, ftn]
    simp
    omega
  rw [if_pos hc, Rr_step _ _ 0 (nn - a - b - c) (by decide) (by omega)]
  refine sumS_congr fun d s => ?_
  simp only [if_true]
  have hs : ((ftn 0 a p).add ((ftn 1 b q).add ((ftn 2 c r).add (ftn 3 d s)))).size = a + b + c + d := by
    simp [Ft.size, Ft.add, ftn]
  have hp : ((ftn 0 a p).add ((ftn 1 b q).add ((ftn 2 c r).add (ftn 3 d s)))).p = 0 + p + q + r + s := by
    simp [Ft.add, ftn]; omega
  rw [hs, hp, lenF_ftn]
  by_cases hd : d = nn - a - b - c
  · rw [if_pos hd, if_pos (by omega)]; rfl
  · rw [if_neg hd, if_neg (by omega)]
/-- the number of hands that some condition holds of -/
def cntF (ds : List Ft) (nn : Nat) (q : (Nat → Nat) → Nat → Bool) : Nat := sumF ds fun x => if x.size = nn then (if q (lenF x) x.p then 1 else 0) else 0
theorem allC_hands (left nn : Nat) (hn : nn ≤ 13) (q : (Nat → Nat) → Nat → Bool) : allC q (cellsOf left nn) = cntF (deck left) nn q := by
  rw [allC_sumC, cells_hands _ _ hn]; rfl
theorem rks_len (x : Nat) : (rksOf x).length ≤ 13 := by
  unfold rksOf
  exact Nat.le_trans (List.length_filter_le _ _) (by simp)
theorem deck_len (left : Nat) : (deck left).length ≤ 52 := by
  unfold deck
  simp only [List.length_append, List.length_map]
  have h0 := rks_len (scards left 0)
  have h1 := rks_len (scards left 1)
  have h2 := rks_len (scards left 2)
  have h3 := rks_len (scards left 3)
  omega
theorem cntF_le (ds : List Ft) (nn : Nat) (q : (Nat → Nat) → Nat → Bool) : cntF ds nn q ≤ 2 ^ ds.length := by
  rw [← sumF_one]
  refine sumF_le fun x => ?_
  split <;> try split
  all_goals omega
theorem allC_bound (left nn : Nat) (hn : nn ≤ 13) (q : (Nat → Nat) → Nat → Bool) : allC q (cellsOf left nn) ≤ 4503599627370496 := by
  rw [allC_hands _ _ hn]
  exact Nat.le_trans (cntF_le _ _ _) (Nat.le_trans (Nat.pow_le_pow_right (by decide) (deck_len left)) (by decide))
end Go.Proofs.Ytikdkhiehfccpaa

/- Contract of agree.Given for all arguments. -/
namespace Go.Proofs.Ytikdkhiehfccpaa
open Go.RowKit Go.Sort Go.Shelf Cnt
attribute [local go_sem] Oper.semAt_some

set_option maxRecDepth 5000 in
theorem ag_Given_no (left : Nat) (n : Int) (a b : Option Addr) (la ca lb cb : Nat) (ra rb : List Rg) (w : World) (ha : Rgs w a la ra) (hb : Rgs w b lb rb) (hno : (legalB left n && rightV ra && rightV rb) = false) :
    Calls Try.prog 55 #[.int .u64 (left : Int), .int .i64 n, .slice a la ca, .slice b lb cb] w fun e w' =>
      e = .returned (.tuple #[.int .i64 0, .int .i64 0, .int .i64 2]) ∧ Below w.heap.size w w' := by
  have HA := Lib.hid ha
  have HB := Lib.hid hb
  have HNO := Lib.hid hno
  clear ha hb hno
  refine (callsIn_wide (n := 9)).1 ?_
  refine callsIn_of_wp_marks Try.func55 rfl trivial ?_ rfl
  simp only [Try.ntmps55, List.size_toArray, List.length_cons, List.length_nil, Nat.reduceAdd, Nat.reduceSub, Array.replicate_succ, Array.replicate_zero, List.push_toArray, List.append_toArray, List.nil_append, List.cons_append]
  have hW2 : Below w.heap.size w ((w.alloc (.cells #[.slice a la ca] 27)).alloc (.cells #[.slice b lb cb] 27)) := ((Below.refl _ _).alloc (Nat.le_refl _) _).alloc (by simp) _
  have hRb : Row ((w.alloc (.cells #[.slice a la ca] 27)).alloc (.cells #[.slice b lb cb] 27)) (w.heap.size + 1) 27 #[.slice b lb cb] := by
    have := Row.new (w.alloc (.cells #[.slice a la ca] 27)) 27 #[.slice b lb cb]
    rwa [World.size_alloc] at this
  have HW2 := Lib.hid hW2
  have HRb := Lib.hid hRb
  clear hW2 hRb
  gi_wp2_with fail
  refine (callsIn_wide.2 (ag_legal left n _)).mono ?_
  rintro e w' ⟨rfl, rfl⟩
  rcases hl : legalB left n with _ | _
  · clear hl
    gi_wp2_with fail
    exact ⟨_, results_tmp3 rfl _ _ _, rfl, HW2.out⟩
  · have HL := Lib.hid hl
    clear hl
    gi_wp2_with fail
    refine (callsIn_wide.2 (ag_Right a la ca ra _ (HA.out.below (Nat.le_refl _) HW2.out))).mono ?_
    rintro e w3 ⟨rfl, hb3⟩
    have hRb3 := (HRb.out.later hb3).cell 0
    have HB3 := Lib.hid (HW2.out.trans (hb3.mono HW2.out.size))
    clear hb3
    rcases hr : rightV ra with _ | _
    · clear hr
      gi_wp2_with fail
      exact ⟨_, results_tmp3 rfl _ _ _, rfl, HB3.out⟩
    · have HR := Lib.hid hr
      clear hr
      gi_wp2_with fail
      refine (callsIn_wide.2 (ag_Right b lb cb rb _ (HB.out.below (Nat.le_refl _) HB3.out))).mono ?_
      rintro e w4 ⟨rfl, hb4⟩
      have HB4 := Lib.hid (HB3.out.trans (hb4.mono HB3.out.size))
      clear hb4
      have hr2 : rightV rb = false := by
        have := HNO.out
        rw [HL.out, HR.out] at this
        simpa using this
      rw [hr2]
      clear hr2
      gi_wp2_with fail
      exact ⟨_, results_tmp3 rfl _ _ _, rfl, HB4.out⟩

/-- what Given says -/
def givenV (left : Nat) (n : Int) (ra rb : List Rg) : Nat × Nat × Int :=
  if legalB left n && rightV ra && rightV rb then (cntF (deck left) n.toNat (fitP ra), cntF (deck left) n.toNat (fun l p => fitP ra l p && fitP rb l p), 0) else (0, 0, 2)
theorem ag_GivenV (left : Nat) (n : Int) (a b : Option Addr) (la ca lb cb : Nat) (ra rb : List Rg) (w : World) (ha : Rgs w a la ra) (hb : Rgs w b lb rb) :
    Calls Try.prog 55 #[.int .u64 (left : Int), .int .i64 n, .slice a la ca, .slice b lb cb] w fun e w' =>
      e = .returned (.tuple #[.int .i64 ((givenV left n ra rb).1 : Int), .int .i64 ((givenV left n ra rb).2.1 : Int), .int .i64 (givenV left n ra rb).2.2]) ∧ Below w.heap.size w w' := by
  unfold givenV
  cases h : (legalB left n && rightV ra && rightV rb)
  · simp only [Bool.false_eq_true, if_false]
    exact ag_Given_no left n a b la ca lb cb ra rb w ha hb h
  · simp only [if_true]
    simp only [Bool.and_eq_true, legalB, decide_eq_true_eq] at h
    obtain ⟨⟨⟨⟨h1, h2⟩, h3⟩, h4⟩, h5⟩ := h
    obtain ⟨nn, rfl⟩ : ∃ nn : Nat, n = (nn : Int) := ⟨n.toNat, by omega⟩
    rw [Int.toNat_natCast, ← allC_hands left nn (by omega), ← allC_hands left nn (by omega)]
    exact ag_Given left nn h3 (by omega) a b la ca lb cb ra rb w ha hb h4 h5 (Nat.le_trans (allC_bound left nn (by omega) _) (by decide))
theorem Rgs.nil (w : World) : Rgs w none 0 [] := ⟨rfl, by decide, .inl rfl⟩
/-- binomials fit into a word -/
theorem chs_le : ∀ n k, chs n k ≤ 2 ^ n
  | n, 0 => by rw [chs_zero]; exact Nat.one_le_two_pow
  | 0, k + 1 => Nat.zero_le _
  | n + 1, k + 1 => by rw [chs_succ]; have h1 := chs_le n k; have h2 := chs_le n (k + 1); rw [Nat.pow_succ]; omega
theorem cnt_nil : ∀ k, cnt 0 k = 0
  | 0 => rfl
  | k + 1 => by simp only [cnt, cnt_nil k, Nat.zero_testBit]; rfl
theorem pop_52 {m : Nat} (h : m < 4503599627370496) : pop m ≤ 52 := by
  unfold pop
  rw [show (64 : Nat) = 52 + 12 from rfl, cnt_add, show m >>> 52 = 0 by rw [Nat.shiftRight_eq_div_pow]; omega, cnt_nil]
  exact cnt_le m 52
/-- what Total says -/
def totalV (left : Nat) (n : Int) : Nat × Int := if legalB left n then (chs (pop left) n.toNat, 0) else (0, 2)
theorem ag_Total (left : Nat) (n : Int) (w : World) (hleft : W64 left) :
    Calls Try.prog 26 #[.int .u64 (left : Int), .int .i64 n] w fun e w' =>
      e = .returned (.tuple #[.int .i64 ((totalV left n).1 : Int), .int .i64 (totalV left n).2]) ∧ w = w' := by
  unfold totalV
  cases hl : legalB left n
  · have HL := Lib.hid hl
    clear hl
    go_enter Try.func26, Try.ntmps26
    go_wp2_with (go_at_call 52; refine (ag_legal left n _).mono ?_; rintro e w' ⟨rfl, rfl⟩; rw [HL.out])
    go_ret2
    exact ⟨rfl, rfl⟩
  · have HL := Lib.hid hl
    simp only [legalB, Bool.and_eq_true, decide_eq_true_eq] at hl
    obtain ⟨⟨h1, h2⟩, h3⟩ := hl
    obtain ⟨nn, rfl⟩ : ∃ nn : Nat, n = (nn : Int) := ⟨n.toNat, by omega⟩
    have hpop : pop left ≤ 52 := pop_52 h3
    have hones := Lib.hid fun w' => bits_ones left hleft w'
    simp only [if_true, Int.toNat_natCast]
    generalize hP : pop left = P at *
    have hch : ∀ k, chs P k ≤ 4503599627370496 := fun k => Nat.le_trans (chs_le P k) (Nat.le_trans (Nat.pow_le_pow_right (by decide) hpop) (by decide))
    have HCH := Lib.hid hch
    have HP := Lib.hid hpop
    have H2 := Lib.hid h2
    clear h1 h2 h3 hpop hch hP
    go_enter Try.func26, Try.ntmps26
    go_wp2_with (first | (go_at_call 52; refine (ag_legal left (nn : Int) _).mono ?_; rintro e w' ⟨rfl, rfl⟩; rw [HL.out]) | (go_at_call 47; refine (hones.out _).mono ?_; rintro e w' ⟨rfl, rfl⟩))
    go_loopw [7, 16] (fun v i wr => ∃ (k : Nat), k ≤ nn ∧ i = .int .i64 (k : Int) ∧ v = .int .i64 (chs P k : Int) ∧ w = wr) (fun _ i _ => nn - (intOf i).toNat)
    case atStart => exact ⟨0, by omega, rfl, by rw [chs_zero]; rfl, rfl⟩
    case round =>
      obtain ⟨k, hk, rfl, rfl, rfl⟩ := hrel
      by_cases hlt : k < nn
      · have hd : decide ((k : Int) < (nn : Int)) = true := by simp; omega
        have hk13 : k ≤ 12 := by have := H2.out; omega
        have hme : (chs P k : Int) * ((P : Int) - (k : Int)) = ((chs P (k + 1) * (k + 1) : Nat) : Int) := by
          by_cases hkP : k ≤ P
          · rw [chs_mul, Int.natCast_mul, Int.natCast_sub hkP]
          · rw [chs_big P k (by omega), chs_big P (k + 1) (by omega)]; simp
        have hp52 := HP.out
        have hq : IntKind.i64.wrap ((P : Int) - (k : Int)) = (P : Int) - (k : Int) := IntWalk.i64_in _ (by omega)
        have hc := HCH.out (k + 1)
        have hm : chs P (k + 1) * (k + 1) ≤ 4503599627370496 * 13 := Nat.mul_le_mul hc (by omega)
        have HD : Hid (wrap64 (((chs P (k + 1) * (k + 1) : Nat) : Int) / ((k : Int) + 1)) = ((chs P (k + 1) : Nat) : Int)) := Lib.hid (by
          have e : ((chs P (k + 1) * (k + 1) : Nat) : Int) / ((k : Int) + 1) = ((chs P (k + 1) : Nat) : Int) := by
            rw [show (k : Int) + 1 = ((k + 1 : Nat) : Int) by simp, ← Int.natCast_ediv, Nat.mul_div_cancel _ (by omega)]
          rw [e]
          exact IntWalk.wrap64_in _ (by omega))
        generalize chs P (k + 1) * (k + 1) = m at *
        clear hc
        go_wp2_with fail
        go_roundw
        · exact ⟨k + 1, by omega, by simp, by rw [HD.out], trivial⟩
        · simp [intOf]; omega
      · obtain rfl : k = nn := by omega
        go_wp2
        go_ret2
        exact ⟨rfl, rfl⟩
end Go.Proofs.Ytikdkhiehfccpaa
