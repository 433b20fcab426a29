/- Plain: what Made makes is right; hands counted by their signals. -/
import Derived.Test.YtikdkhiehfccpaaMSgl
import Derived.Test.YtikdkhiehfccpaaMSgj
namespace Go.Proofs.Ytikdkhiehfccpaa
open Go.RowKit Go.Sort Go.Shelf Cnt

theorem mdL_facts (css : List (List Cd)) (zs : List Nat) : ∀ k, (mdL css zs k).all (fun x => namedB x.s && rightV x.rs) = true ∧ rgN (mdL css zs k) ≤ 4 * k
  | 0 => ⟨rfl, Nat.le_refl _⟩
  | k + 1 => by
    obtain ⟨h1, h2⟩ := mdL_facts css zs k
    have hr := sgAt_range zs k
    have hl := made_len (css.getD k [])
    refine ⟨?_, ?_⟩
    · show (mdL css zs k ++ [_]).all _ = true
      rw [List.all_append, h1, Bool.true_and, List.all_cons, List.all_nil, Bool.and_true, made_ok, Bool.and_true]
      unfold namedB
      simp; omega
    · show rgN (mdL css zs k ++ [_]) ≤ _
      rw [rgN_snoc]
      show _ + (made (css.getD k [])).length ≤ _
      omega
theorem mdL_right (css : List (List Cd)) (zs : List Nat) (k : Nat) (hk : k ≤ 5) : rightS (mdL css zs k) = true := by
  obtain ⟨h1, h2⟩ := mdL_facts css zs k
  unfold rightS
  rw [h1, Bool.true_and]
  simp; omega
theorem made41_right (css : List (List Cd)) (zs : List Nat) : rightS (made41 css zs) = true := mdL_right _ _ _ (by omega)
theorem made41_len (css : List (List Cd)) (zs : List Nat) : (made41 css zs).length ≤ 5 := by unfold made41; rw [mdL_len]; omega
theorem rlsOf_len (ps : List PL) : (rlsOf ps).length = ps.length := List.length_map _
/-- the signal of a hand as a number of a table -/
def ofN (ls : List Rl) (h : Nat) : Nat := (ofV ls h).toNat
theorem ofN_eq {ls : List Rl} (hr : rightS ls = true) (h : Nat) : ofV ls h = ((ofN ls h : Nat) : Int) ∧ ofN ls h ≤ 9 := by
  have := sig_range hr (lenF (ftM h)) (ftM h).p
  rw [← of_sig] at this
  unfold ofN
  omega
theorem hs_sig {L : Nat} (hL : L < 4503599627370496) (n : Nat) {ls : List Rl} (hr : rightS ls = true) (j : Nat) : hs (fun h => true && decide (ofN ls h = j)) (handsL L n) = gvC (deck L) n QT ls (j : Int) := hs_cnt hL n _ _ fun x => by
  have := (ofN_eq hr x).1
  rw [of_sig] at this
  rw [this, Bool.true_and]
  simp [QT]; omega
theorem hs_sigA {L : Nat} (hL : L < 4503599627370496) (n : Nat) {ls : List Rl} (hr : rightS ls = true) (A : List Rg) (j : Nat) : hs (fun h => fitsV A h && decide (ofN ls h = j)) (handsL L n) = gvC (deck L) n (fitP A) ls (j : Int) := hs_cnt hL n _ _ fun x => by
  have := (ofN_eq hr x).1
  rw [of_sig] at this
  rw [this, fits_ft, Bool.and_comm]
  congr 1
  simp; omega
theorem lg_made {L nn : Nat} (hL : L < 4503599627370496) (hn : nn ≤ 13) {ls : List Rl} (hr : rightS ls = true) : lgOk L (nn : Int) ls = true := by
  unfold lgOk legalB
  rw [hr]
  simp; omega
theorem td_made {L nn : Nat} (hL : L < 4503599627370496) (hn : nn ≤ 13) {ls : List Rl} (hr : rightS ls = true) {A : List Rg} (hA : rightV A = true) (j : Nat) (hj : j ≤ 9) : tdV L (nn : Int) ls (j : Int) A = (gvC (deck L) nn QT ls (j : Int), gvC (deck L) nn (fitP A) ls (j : Int), 0) := by
  unfold tdV
  rw [if_pos, Int.toNat_natCast]
  unfold tdOk namedB
  rw [lg_made hL hn hr, hA]
  simp; omega
end Go.Proofs.Ytikdkhiehfccpaa
