/- Plain: schemes with a rule more: after one that all hands fit, and one that no hand fits. -/
import Derived.Test.YtikdkhiehfccpaaMSgq
namespace Go.Proofs.Ytikdkhiehfccpaa
open Go.RowKit Go.Sort Go.Shelf Cnt

theorem len13 (h s : Nat) : lensM h s ≤ 13 := by
  unfold lensM
  rw [pop_13 (scards_lt h s)]
  exact rks_len _
theorem pts40 (h : Nat) : ptsM h ≤ 40 := ptA_le h 4
/-- counts over a mask, hand by hand -/
theorem cntF_hands {L : Nat} (hL : L < 4503599627370496) (n : Nat) {q r : (Nat → Nat) → Nat → Bool} (h : ∀ x, q (lenF (ftM x)) (ftM x).p = r (lenF (ftM x)) (ftM x).p) : cntF (deck L) n q = cntF (deck L) n r := by
  rw [← hands_sum hL n q, ← hands_sum hL n r]
  simp only [h]
theorem fit_full (x : Nat) : fitP [rgP 0 40] (lenF (ftM x)) (ftM x).p = true := by
  rw [← fits_ft]
  have h0 := len13 x 0
  have h1 := len13 x 1
  have h2 := len13 x 2
  have h3 := len13 x 3
  have hp := pts40 x
  have e0 : wthn (lensM x 0) 0 13 = true := by unfold wthn; simp; omega
  have e1 : wthn (lensM x 1) 0 13 = true := by unfold wthn; simp; omega
  have e2 : wthn (lensM x 2) 0 13 = true := by unfold wthn; simp; omega
  have e3 : wthn (lensM x 3) 0 13 = true := by unfold wthn; simp; omega
  have e4 : wthn (ptsM x) 0 40 = true := by unfold wthn; simp; omega
  refine fits_yes (k := 0) (r := rgP 0 40) rfl e4 ?_
  show ((((true && wthn (lensM x 0) 0 13) && wthn (lensM x 1) 0 13) && wthn (lensM x 2) 0 13) && wthn (lensM x 3) 0 13) = true
  rw [e0, e1, e2, e3]; rfl
theorem sig_app (l : Nat → Nat) (p : Nat) (b : List Rl) : ∀ a : List Rl, sigP (a ++ b) l p = if fitP (allR a) l p then sigP a l p else sigP b l p
  | [] => rfl
  | x :: xs => by
    show (if fitP x.rs l p then x.s else sigP (xs ++ b) l p) = if fitP (x.rs ++ allR xs) l p then (if fitP x.rs l p then x.s else sigP xs l p) else sigP b l p
    rw [fitP_app, sig_app l p b xs]
    cases fitP x.rs l p <;> simp
theorem sig_fits {l : Nat → Nat} {p : Nat} : ∀ {ls : List Rl}, fitP (allR ls) l p = true → ∃ x ∈ ls, sigP ls l p = x.s
  | [], h => by cases h
  | x :: xs, h => by
    by_cases hx : fitP x.rs l p = true
    · exact ⟨x, List.mem_cons_self, by show (if fitP x.rs l p then x.s else _) = _; rw [if_pos hx]⟩
    · have h2 : fitP (allR xs) l p = true := by
        have : fitP (x.rs ++ allR xs) l p = true := h
        rw [fitP_app] at this
        simpa [hx] using this
      obtain ⟨y, hy, e⟩ := sig_fits h2
      exact ⟨y, List.mem_cons_of_mem _ hy, by show (if fitP x.rs l p then x.s else sigP xs l p) = _; rw [if_neg hx, e]⟩
theorem cnV_eq (L nn : Nat) (ls : List Rl) (j : Nat) : cnV L (nn : Int) ls j = cntF (deck L) nn (fun l p => decide (sigP ls l p = (j : Int))) := by
  unfold cnV gvC
  rw [Int.toNat_natCast]
  congr 1
  funext l p
  simp [QT]
theorem cnV_hands {L : Nat} (hL : L < 4503599627370496) (nn : Nat) {ls ms : List Rl} {i j : Nat} (h : ∀ x, sigP ls (lenF (ftM x)) (ftM x).p = (i : Int) ↔ sigP ms (lenF (ftM x)) (ftM x).p = (j : Int)) : cnV L (nn : Int) ls i = cnV L (nn : Int) ms j := by
  rw [cnV_eq, cnV_eq]
  exact cntF_hands hL nn fun x => by
    have := h x
    by_cases e : sigP ls (lenF (ftM x)) (ftM x).p = (i : Int)
    · rw [decide_eq_true e, decide_eq_true (this.1 e)]
    · rw [decide_eq_false e, decide_eq_false fun e2 => e (this.2 e2)]
abbrev fullR (s : Int) : Rl := ⟨[rgP 0 40], s⟩
theorem sig_full (ls : List Rl) (s : Int) (ms : List Rl) (x : Nat) : sigP (ls ++ fullR s :: ms) (lenF (ftM x)) (ftM x).p = if fitP (allR ls) (lenF (ftM x)) (ftM x).p then sigP ls (lenF (ftM x)) (ftM x).p else s := by
  rw [sig_app]
  show (if _ then _ else if fitP [rgP 0 40] _ _ then s else _) = _
  rw [if_pos (fit_full x)]
theorem last_zero {L : Nat} (hL : L < 4503599627370496) (nn : Nat) {ls : List Rl} (hs : ∀ x ∈ ls, 1 ≤ x.s ∧ x.s ≤ 4) : cnV L (nn : Int) (ls ++ [fullR 9]) 0 = 0 := by
  rw [cnV_eq]
  have h : cntF (deck L) nn (fun l p => decide (sigP (ls ++ [fullR 9]) l p = ((0 : Nat) : Int))) = cntF (deck L) nn (fun _ _ => false) := cntF_hands hL nn fun x => by
    refine decide_eq_false ?_
    rw [sig_full]
    split
    · rename_i h
      obtain ⟨y, hy, e⟩ := sig_fits h
      rw [e]
      have := hs y hy
      omega
    · decide
  rw [h, ← hands_sum hL nn]
  simp only [Bool.false_eq_true, if_false]
  generalize handsL L nn = l
  induction l with
  | nil => rfl
  | cons x l ih => simp only [List.map_cons, List.sum_cons, ih]
theorem last_nine {L : Nat} (hL : L < 4503599627370496) (nn : Nat) {ls : List Rl} (hs : ∀ x ∈ ls, 1 ≤ x.s ∧ x.s ≤ 4) : cnV L (nn : Int) (ls ++ [fullR 9]) 9 = cnV L (nn : Int) ls 0 := cnV_hands hL nn fun x => by
  rw [sig_full]
  split
  · rename_i h
    obtain ⟨y, hy, e⟩ := sig_fits h
    rw [e]
    have := hs y hy
    omega
  · rename_i h
    rw [sig_none (by simpa using h)]
    simp
theorem last_mid {L : Nat} (hL : L < 4503599627370496) (nn : Nat) {ls : List Rl} (j : Nat) (h0 : 0 < j) (h9 : j < 9) : cnV L (nn : Int) (ls ++ [fullR 9]) j = cnV L (nn : Int) ls j := cnV_hands hL nn fun x => by
  rw [sig_full]
  split
  · exact Iff.rfl
  · rename_i h
    rw [sig_none (by simpa using h)]
    omega
theorem last_more {L : Nat} (hL : L < 4503599627370496) (nn : Nat) (ls : List Rl) (j : Nat) : cnV L (nn : Int) (ls ++ [fullR 9, fullR 1]) j = cnV L (nn : Int) (ls ++ [fullR 9]) j := cnV_hands hL nn fun x => by
  rw [sig_full, sig_full]
theorem none_more (L nn : Nat) (a b : List Rl) (s : Int) (j : Nat) : cnV L (nn : Int) (a ++ [⟨[], s⟩] ++ b) j = cnV L (nn : Int) (a ++ b) j := by
  rw [cnV_eq, cnV_eq]
  congr 1
  funext l p
  have e : sigP (([⟨[], s⟩] : List Rl) ++ b) l p = sigP b l p := rfl
  rw [List.append_assoc, sig_app l p (([⟨[], s⟩] : List Rl) ++ b), e, ← sig_app]
theorem rgN_app (a b : List Rl) : rgN (a ++ b) = rgN a + rgN b := by unfold rgN allR; rw [List.flatMap_append, List.length_append]
theorem mdL_facts4 (css : List (List Cd)) (zs : List Nat) (h4 : css.length ≤ 4) : (∀ x ∈ made41 css zs, 1 ≤ x.s ∧ x.s ≤ 4) ∧ rgN (made41 css zs) ≤ 16 ∧ (made41 css zs).all (fun x => namedB x.s && rightV x.rs) = true := by
  obtain ⟨h1, h2⟩ := mdL_facts css zs (min css.length 5)
  refine ⟨fun x hx => ?_, Nat.le_trans h2 (by omega), h1⟩
  have : x ∈ listTo (fun i => [(⟨made (css.getD i []), (sgAt zs i : Int)⟩ : Rl)]) (min css.length 5) := hx
  refine listTo_all (P := fun x : Rl => 1 ≤ x.s ∧ x.s ≤ 4) (fun i y hy => ?_) _ x this
  obtain rfl := List.mem_singleton.1 hy
  have := sgAt_range zs i
  show 1 ≤ (sgAt zs i : Int) ∧ (sgAt zs i : Int) ≤ 4
  omega
theorem right_app {ls ms : List Rl} (h1 : ls.all (fun x => namedB x.s && rightV x.rs) = true) (h2 : rgN ls ≤ 16) (h3 : ms.all (fun x => namedB x.s && rightV x.rs) = true) (h4 : rgN ms ≤ 4) : rightS (ls ++ ms) = true := by
  unfold rightS
  rw [List.all_append, h1, h3, rgN_app]
  simp; omega
theorem right_ins {ls : List Rl} (h1 : ls.all (fun x => namedB x.s && rightV x.rs) = true) (h2 : rgN ls ≤ 16) (k : Nat) : rightS (ls.take k ++ [⟨[], 8⟩] ++ ls.drop k) = true := by
  have e := List.take_append_drop k ls
  have e1 := rgN_app (ls.take k) (ls.drop k)
  rw [e] at e1
  have e2 : (ls.take k ++ ls.drop k).all (fun x => namedB x.s && rightV x.rs) = true := by rw [e]; exact h1
  rw [List.all_append, Bool.and_eq_true] at e2
  unfold rightS
  rw [List.all_append, List.all_append, e2.1, e2.2, rgN_app, rgN_app]
  have : rgN [(⟨[], 8⟩ : Rl)] = 0 := rfl
  simp [this]
  refine ⟨by decide, by omega⟩
end Go.Proofs.Ytikdkhiehfccpaa
