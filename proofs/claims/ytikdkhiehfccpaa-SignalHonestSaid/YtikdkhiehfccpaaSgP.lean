/- Plain: signals of hands by the first rule that they fit, and how many hands give each. -/
import Derived.Test.YtikdkhiehfccpaaAgX0
import Derived.Test.YtikdkhiehfccpaaMPln
namespace Go.Proofs.Ytikdkhiehfccpaa
open Cnt

/-- a rule -/
structure Rl where
  rs : List Rg
  s : Int
def allR (ls : List Rl) : List Rg := ls.flatMap Rl.rs
/-- the signal by lengths and points -/
def sigP : List Rl → (Nat → Nat) → Nat → Int
  | [], _, _ => 0
  | x :: xs, l, p => if fitP x.rs l p then x.s else sigP xs l p
/-- the signal of a hand -/
def ofV : List Rl → Nat → Int
  | [], _ => 0
  | x :: xs, h => if fitsV x.rs h then x.s else ofV xs h
theorem of_sig (h : Nat) : ∀ ls, ofV ls h = sigP ls (lenF (ftM h)) (ftM h).p
  | [] => rfl
  | x :: xs => by
    show (if fitsV x.rs h then x.s else ofV xs h) = if fitP x.rs _ _ then x.s else sigP xs _ _
    rw [fits_ft, of_sig h xs]
theorem fitP_app (a b : List Rg) (l : Nat → Nat) (p : Nat) : fitP (a ++ b) l p = (fitP a l p || fitP b l p) := by rw [fitP_append]
theorem allR_snoc (xs : List Rl) (x : Rl) : allR (xs ++ [x]) = allR xs ++ x.rs := by simp [allR]
theorem sig_none {l : Nat → Nat} {p : Nat} : ∀ {ls : List Rl}, fitP (allR ls) l p = false → sigP ls l p = 0
  | [], _ => rfl
  | x :: xs, h => by
    have h1 : fitP x.rs l p = false ∧ fitP (allR xs) l p = false := by
      rw [show allR (x :: xs) = x.rs ++ allR xs from rfl, fitP_app] at h
      simpa using h
    show (if fitP x.rs l p then x.s else sigP xs l p) = 0
    rw [h1.1, if_neg (by decide)]
    exact sig_none h1.2
theorem sig_snoc (x : Rl) (l : Nat → Nat) (p : Nat) : ∀ ls : List Rl, sigP (ls ++ [x]) l p = if fitP (allR ls) l p then sigP ls l p else if fitP x.rs l p then x.s else 0
  | [] => rfl
  | y :: ys => by
    show (if fitP y.rs l p then y.s else sigP (ys ++ [x]) l p) = if fitP (y.rs ++ allR ys) l p then (if fitP y.rs l p then y.s else sigP ys l p) else if fitP x.rs l p then x.s else 0
    rw [fitP_app, sig_snoc x l p ys]
    cases fitP y.rs l p
    · simp
    · simp
def b2n (b : Bool) : Nat := if b then 1 else 0
theorem cntF_two (ds : List Ft) (nn : Nat) (p1 p2 p3 p4 : (Nat → Nat) → Nat → Bool) (h : ∀ l p, b2n (p1 l p) + b2n (p2 l p) = b2n (p3 l p) + b2n (p4 l p)) : cntF ds nn p1 + cntF ds nn p2 = cntF ds nn p3 + cntF ds nn p4 := by
  unfold cntF
  rw [← sumF_add, ← sumF_add]
  refine sumF_congr fun x => ?_
  split
  · exact h _ _
  · rfl
/-- the hands that give a signal, of those that Q holds of -/
def gvC (ds : List Ft) (nn : Nat) (Q : (Nat → Nat) → Nat → Bool) (ls : List Rl) (s : Int) : Nat := cntF ds nn (fun l p => decide (sigP ls l p = s) && Q l p)
def ftC2 (ds : List Ft) (nn : Nat) (Q : (Nat → Nat) → Nat → Bool) (rs : List Rg) : Nat := cntF ds nn (fun l p => fitP rs l p && Q l p)
theorem gv_same (ds : List Ft) (nn : Nat) (Q : (Nat → Nat) → Nat → Bool) (ls : List Rl) (x : Rl) (s : Int) (h0 : s ≠ 0) (hx : x.s ≠ s) : gvC ds nn Q (ls ++ [x]) s = gvC ds nn Q ls s := by
  unfold gvC
  congr 1
  funext l p
  congr 1
  rw [decide_eq_decide, sig_snoc]
  cases h : fitP (allR ls) l p
  · rw [if_neg (by decide), sig_none h]
    have e0 : ¬ (0 : Int) = s := fun e => h0 e.symm
    split
    · exact ⟨fun e => absurd e hx, fun e => absurd e e0⟩
    · exact Iff.rfl
  · rw [if_pos rfl]
theorem gv_step (ds : List Ft) (nn : Nat) (Q : (Nat → Nat) → Nat → Bool) (ls : List Rl) (x : Rl) (s : Int) (h0 : s ≠ 0) (hx : x.s = s) : gvC ds nn Q (ls ++ [x]) s + ftC2 ds nn Q (allR ls) = gvC ds nn Q ls s + ftC2 ds nn Q (allR (ls ++ [x])) := by
  unfold gvC ftC2
  refine cntF_two _ _ _ _ _ _ fun l p => ?_
  rw [sig_snoc, allR_snoc, fitP_app]
  cases h : fitP (allR ls) l p
  · rw [if_neg (by decide), sig_none h]
    have e0 : ¬ (0 : Int) = s := fun e => h0 e.symm
    cases fitP x.rs l p
    · simp [e0]
    · simp [hx, e0, Nat.add_comm]
  · rw [if_pos rfl]
    simp
theorem gv_zero (ds : List Ft) (nn : Nat) (Q : (Nat → Nat) → Nat → Bool) (ls : List Rl) (h : ∀ x ∈ ls, x.s ≠ 0) : gvC ds nn Q ls 0 + ftC2 ds nn Q (allR ls) = cntF ds nn Q := by
  have e : cntF ds nn (fun _ _ => false) = 0 := by
    unfold cntF
    refine (sumF_congr fun x => ?_).trans (sumF_zero ds)
    split <;> rfl
  have := cntF_two ds nn (fun l p => decide (sigP ls l p = 0) && Q l p) (fun l p => fitP (allR ls) l p && Q l p) Q (fun _ _ => false) fun l p => ?_
  · unfold gvC ftC2
    omega
  · have key : decide (sigP ls l p = 0) = !fitP (allR ls) l p := by
      clear e
      induction ls with
      | nil => rfl
      | cons x xs ih =>
        have ih := ih fun y hy => h y (List.mem_cons_of_mem _ hy)
        have hx := h x (List.mem_cons_self ..)
        show decide ((if fitP x.rs l p then x.s else sigP xs l p) = 0) = !fitP (x.rs ++ allR xs) l p
        rw [fitP_app]
        cases fitP x.rs l p
        · simpa using ih
        · simp [hx]
    rw [key]
    cases fitP (allR ls) l p <;> cases Q l p <;> rfl
theorem gv_nil (ds : List Ft) (nn : Nat) (Q : (Nat → Nat) → Nat → Bool) (s : Int) (h0 : s ≠ 0) : gvC ds nn Q [] s = 0 := by
  unfold gvC cntF
  refine (sumF_congr fun x => ?_).trans (sumF_zero ds)
  have : decide (sigP [] (lenF x) x.p = s) = false := decide_eq_false fun e => h0 e.symm
  split
  · show (if (decide (sigP [] (lenF x) x.p = s) && Q (lenF x) x.p) = true then 1 else 0) = 0
    rw [this]; rfl
  · rfl
theorem gv_le (left nn : Nat) (q : (Nat → Nat) → Nat → Bool) : cntF (deck left) nn q ≤ 4503599627370496 := Nat.le_trans (cntF_le _ _ _) (Nat.le_trans (Nat.pow_le_pow_right (by decide) (deck_len left)) (by decide))
/-- a scheme that is right -/
def namedB (s : Int) : Bool := decide (1 ≤ s) && decide (s ≤ 9)
def rgN (ls : List Rl) : Nat := (allR ls).length
def rightS (ls : List Rl) : Bool := ls.all (fun x => namedB x.s && rightV x.rs) && decide (rgN ls ≤ 20)
theorem rgN_snoc (ls : List Rl) (x : Rl) : rgN (ls ++ [x]) = rgN ls + x.rs.length := by unfold rgN; rw [allR_snoc, List.length_append]
theorem rgN_take (ls : List Rl) (k : Nat) : rgN (ls.take k) ≤ rgN ls := by
  have h : rgN ls = rgN (ls.take k) + rgN (ls.drop k) := by
    unfold rgN allR
    rw [← List.length_append, ← List.flatMap_append, List.take_append_drop]
  omega
theorem take_snoc {α : Type} {ls : List α} {k : Nat} {x : α} (h : ls[k]? = some x) : ls.take (k + 1) = ls.take k ++ [x] := by
  rw [List.take_add_one, h]; rfl
theorem right_at {ls : List Rl} (h : rightS ls = true) {k : Nat} {x : Rl} (hx : ls[k]? = some x) : 1 ≤ x.s ∧ x.s ≤ 9 ∧ rightV x.rs = true := by
  have h1 := (Bool.and_eq_true_iff.1 h).1
  have h2 := List.all_eq_true.1 h1 x (List.mem_of_getElem? hx)
  simp only [namedB, Bool.and_eq_true, decide_eq_true_eq] at h2
  exact ⟨h2.1.1, h2.1.2, h2.2⟩
theorem right_rgN {ls : List Rl} (h : rightS ls = true) : rgN ls ≤ 20 := of_decide_eq_true (Bool.and_eq_true_iff.1 h).2
theorem right_allR {ls : List Rl} (h : rightS ls = true) (k : Nat) : rightV (allR (ls.take k)) = true := by
  refine right_of (Nat.le_trans (rgN_take ls k) (right_rgN h)) ?_
  rw [List.all_eq_true]
  intro r hr
  obtain ⟨x, hx, hr⟩ := List.mem_flatMap.1 hr
  have h1 := List.all_eq_true.1 (Bool.and_eq_true_iff.1 h).1 x (List.mem_of_mem_take hx)
  exact List.all_eq_true.1 (right_and _ (Bool.and_eq_true_iff.1 h1).2).2 r hr
theorem sig_range {ls : List Rl} (h : rightS ls = true) (l : Nat → Nat) (p : Nat) : 0 ≤ sigP ls l p ∧ sigP ls l p ≤ 9 := by
  have key : ∀ xs : List Rl, (∀ x ∈ xs, 1 ≤ x.s ∧ x.s ≤ 9) → 0 ≤ sigP xs l p ∧ sigP xs l p ≤ 9 := by
    intro xs
    induction xs with
    | nil => intro _; exact ⟨Int.le_refl _, show (0 : Int) ≤ 9 by decide⟩
    | cons x xs ih =>
      intro hx
      have h1 := hx x (List.mem_cons_self ..)
      have h2 := ih fun y hy => hx y (List.mem_cons_of_mem _ hy)
      show 0 ≤ (if fitP x.rs l p then x.s else sigP xs l p) ∧ (if fitP x.rs l p then x.s else sigP xs l p) ≤ 9
      split
      · exact ⟨by omega, h1.2⟩
      · exact h2
  refine key ls fun x hx => ?_
  obtain ⟨k, hk⟩ := List.getElem?_of_mem hx
  have := right_at h hk
  exact ⟨this.1, this.2.1⟩
end Go.Proofs.Ytikdkhiehfccpaa
