/- SgQ, SgR in one text. -/
import Derived.Test.YtikdkhiehfccpaaMSgl
import Derived.Test.YtikdkhiehfccpaaMSgj

/- Plain: what Made makes is right; hands counted by their signals. -/
namespace Go.Proofs.Ytikdkhiehfccpaa
open Go.RowKit Go.Sort Go.Shelf Cnt

theorem mdL_facts (css : List (List Cd)) (zs : List Nat) : ∀ k, (mdL css zs k).all (fun x => namedB x.s && rightV x.rs) = true ∧ rgN (mdL css zs k) ≤ 4 * k
  | 0 => ⟨rfl, Nat.le_refl _⟩
  | k + 1 => by
    obtain ⟨h1, h2⟩ := mdL_facts css zs k
    have hr := sgAt_range zs k
    have hl := made_len (css.getD k [])
    refine ⟨?_, ?_⟩
    · show (mdL css zs k ++ [_]).all _ = true
      rw [List.all_append, h1, Bool.true_and, List.all_cons, List.all_nil, Bool.and_true, made_ok, Bool.and_true]
      unfold namedB
      simp; omega
    · show rgN (mdL css zs k ++ [_]) ≤ _
      rw [rgN_snoc]
      show _ + (made (css.getD k [])).length ≤ _
      omega
theorem mdL_right (css : List (List Cd)) (zs : List Nat) (k : Nat) (hk : k ≤ 5) : rightS (mdL css zs k) = true := by
  obtain ⟨h1, h2⟩ := mdL_facts css zs k
  unfold rightS
  rw [h1, Bool.true_and]
  simp; omega
theorem made41_right (css : List (List Cd)) (zs : List Nat) : rightS (made41 css zs) = true := mdL_right _ _ _ (by omega)
theorem made41_len (css : List (List Cd)) (zs : List Nat) : (made41 css zs).length ≤ 5 := by unfold made41; rw [mdL_len]; omega
theorem rlsOf_len (ps : List PL) : (rlsOf ps).length = ps.length := List.length_map _
/-- the signal of a hand as a number of a table -/
def ofN (ls : List Rl) (h : Nat) : Nat := (ofV ls h).toNat
theorem ofN_eq {ls : List Rl} (hr : rightS ls = true) (h : Nat) : ofV ls h = ((ofN ls h : Nat) : Int) ∧ ofN ls h ≤ 9 := by
  have := sig_range hr (lenF (ftM h)) (ftM h).p
  rw [← of_sig] at this
  unfold ofN
  omega
theorem hs_sig {L : Nat} (hL : L < 4503599627370496) (n : Nat) {ls : List Rl} (hr : rightS ls = true) (j : Nat) : hs (fun h => true && decide (ofN ls h = j)) (handsL L n) = gvC (deck L) n QT ls (j : Int) := hs_cnt hL n _ _ fun x => by
  have := (ofN_eq hr x).1
  rw [of_sig] at this
  rw [this, Bool.true_and]
  simp [QT]; omega
theorem hs_sigA {L : Nat} (hL : L < 4503599627370496) (n : Nat) {ls : List Rl} (hr : rightS ls = true) (A : List Rg) (j : Nat) : hs (fun h => fitsV A h && decide (ofN ls h = j)) (handsL L n) = gvC (deck L) n (fitP A) ls (j : Int) := hs_cnt hL n _ _ fun x => by
  have := (ofN_eq hr x).1
  rw [of_sig] at this
  rw [this, fits_ft, Bool.and_comm]
  congr 1
  simp; omega
theorem lg_made {L nn : Nat} (hL : L < 4503599627370496) (hn : nn ≤ 13) {ls : List Rl} (hr : rightS ls = true) : lgOk L (nn : Int) ls = true := by
  unfold lgOk legalB
  rw [hr]
  simp; omega
theorem td_made {L nn : Nat} (hL : L < 4503599627370496) (hn : nn ≤ 13) {ls : List Rl} (hr : rightS ls = true) {A : List Rg} (hA : rightV A = true) (j : Nat) (hj : j ≤ 9) : tdV L (nn : Int) ls (j : Int) A = (gvC (deck L) nn QT ls (j : Int), gvC (deck L) nn (fitP A) ls (j : Int), 0) := by
  unfold tdV
  rw [if_pos, Int.toNat_natCast]
  unfold tdOk namedB
  rw [lg_made hL hn hr, hA]
  simp; omega
end Go.Proofs.Ytikdkhiehfccpaa

/- Plain: what Check says of one claim. -/
namespace Go.Proofs.Ytikdkhiehfccpaa
open Go.RowKit Go.Sort Go.Shelf Cnt

theorem listTo_all {α : Type} {P : α → Prop} {f : Nat → List α} (h : ∀ i, ∀ x ∈ f i, P x) : ∀ n, ∀ x ∈ listTo f n, P x
  | 0, x, hx => nomatch hx
  | n + 1, x, hx => by
    rcases List.mem_append.1 (show x ∈ listTo f n ++ f n from hx) with h1 | h1
    · exact listTo_all h n x h1
    · exact h n x h1
/-- the hands that faults of kind 1 tell -/
def tld (l : List Fl) : Nat := (l.map fun x => if x.k = 1 then x.h.toNat else 0).sum
theorem tld_app (l m : List Fl) : tld (l ++ m) = tld l + tld m := by unfold tld; rw [List.map_append, List.sum_append]
theorem tld_zero {l : List Fl} (h : ∀ x ∈ l, x.k = 4 ∧ 0 ≤ x.h) : tld l = 0 := by
  unfold tld
  induction l with
  | nil => rfl
  | cons x l ih =>
    rw [List.map_cons, List.sum_cons, ih fun y hy => h y (List.mem_cons_of_mem _ hy), if_neg]
    rw [(h x List.mem_cons_self).1]; decide
theorem tld_take (l : List Fl) (k : Nat) : tld (l.take k) ≤ tld l := by
  have := tld_app (l.take k) (l.drop k)
  rw [List.take_append_drop] at this
  omega
theorem tld_snoc {l : List Fl} {k : Nat} {x : Fl} (h : l[k]? = some x) : tld (l.take (k + 1)) = tld (l.take k) + if x.k = 1 then x.h.toNat else 0 := by
  rw [take_snoc h, tld_app]
  simp [tld]
theorem fS_kind (cnt : Nat → Nat) (kn : Int → Bool) (i : Nat) : ∀ x ∈ fS cnt kn i, x.k = 4 ∧ 0 ≤ x.h := by
  intro x hx
  unfold fS at hx
  split at hx
  · obtain rfl := List.mem_singleton.1 hx
    exact ⟨rfl, by simp⟩
  · cases hx
theorem gv_fit_le (ds : List Ft) (nn : Nat) (Q : (Nat → Nat) → Nat → Bool) (ls : List Rl) (s : Int) : gvC ds nn Q ls s ≤ gvC ds nn QT ls s := cntF_mono ds nn fun _ _ h =>
  Bool.and_eq_true_iff.2 ⟨(Bool.and_eq_true_iff.1 h).1, rfl⟩
theorem gv_top (ds : List Ft) (nn : Nat) (ls : List Rl) (s : Int) : gvC ds nn QT ls s ≤ cntF ds nn QT := cntF_mono ds nn fun _ _ _ => rfl
theorem out_list {left nn : Nat} (hl : left < 4503599627370496) (hn : nn ≤ 13) {ls : List Rl} (hr : rightS ls = true) {s : Int} (h1 : 1 ≤ s) (h9 : s ≤ 9) {A : List Rg} (hA : rightV A = true) :
    ckOk left (nn : Int) ls [⟨s, 0, 1000, A⟩] = true ∧ (∀ x ∈ ckL left (nn : Int) ls [⟨s, 0, 1000, A⟩], (x.k = 1 ∨ x.k = 4) ∧ 0 ≤ x.h) ∧
      tld (ckL left (nn : Int) ls [⟨s, 0, 1000, A⟩]) + gvC (deck left) nn (fitP A) ls s = gvC (deck left) nn QT ls s ∧ (ckL left (nn : Int) ls [⟨s, 0, 1000, A⟩]).length ≤ 13 := by
  have hok : ckOk left (nn : Int) ls [⟨s, 0, 1000, A⟩] = true := by
    unfold ckOk annV
    rw [lg_made hl hn hr]
    simp only [List.length_singleton, List.all_cons, List.all_nil, Bool.and_true, Bool.true_and]
    unfold Cm.ok namedB
    simp only [hA, Bool.and_true, Bool.and_eq_true, decide_eq_true_eq]
    omega
  have hle := gv_fit_le (deck left) nn (fitP A) ls s
  have hcn : cnV left (nn : Int) ls s.toNat = gvC (deck left) nn QT ls s := by
    unfold cnV
    rw [Int.toNat_natCast, show ((s.toNat : Nat) : Int) = s by omega]
  have htop := gv_top (deck left) nn ls s
  refine ⟨hok, ?_⟩
  unfold ckL
  rw [if_pos hok, Int.toNat_natCast]
  unfold checkL
  have hS := listTo_all (P := fun x : Fl => x.k = 4 ∧ 0 ≤ x.h) (fS_kind (cnV left (nn : Int) ls) (knOf [⟨s, 0, 1000, A⟩])) 10
  have hSl := to_len _ 1 (fS_len (cnV left (nn : Int) ls) (knOf [⟨s, 0, 1000, A⟩])) 10
  generalize listTo (fS (cnV left (nn : Int) ls) (knOf [⟨s, 0, 1000, A⟩])) 10 = S at *
  have hC : listTo (fAt (cnV left (nn : Int) ls) (fun c => gvC (deck left) nn (fitP c.rs) ls c.s) (cntF (deck left) nn QT) [⟨s, 0, 1000, A⟩]) [(⟨s, 0, 1000, A⟩ : Cm)].length = f1 0 s (gvC (deck left) nn QT ls s) (gvC (deck left) nn (fitP A) ls s) := by
    rw [List.length_singleton, show ∀ f : Nat → List Fl, listTo f 1 = [] ++ f 0 from fun f => rfl, List.nil_append]
    unfold fAt
    simp only [List.getElem?_cons_zero]
    unfold fC
    simp only [hcn]
    unfold f2 f3
    rw [if_neg (by omega), if_neg (by omega), List.append_nil, List.append_nil]
  rw [hC]
  generalize gvC (deck left) nn QT ls s = one at *
  generalize gvC (deck left) nn (fitP A) ls s = fit at *
  unfold f1
  split
  · refine ⟨fun x hx => ?_, ?_, ?_⟩
    · rcases List.mem_append.1 hx with h | h
      · obtain rfl := List.mem_singleton.1 h
        exact ⟨.inl rfl, by show (0 : Int) ≤ (one : Int) - (fit : Int); omega⟩
      · exact ⟨.inr (hS x h).1, (hS x h).2⟩
    · rw [tld_app, tld_zero hS]
      show (if (1 : Nat) = 1 then ((one : Int) - (fit : Int)).toNat else 0) + 0 + 0 + fit = one
      rw [if_pos rfl]; omega
    · rw [List.length_append]; simp; omega
  · refine ⟨fun x hx => ?_, ?_, ?_⟩
    · rw [List.nil_append] at hx
      exact ⟨.inr (hS x hx).1, (hS x hx).2⟩
    · rw [List.nil_append, tld_zero hS]; omega
    · rw [List.nil_append]; omega
/-- hands that give the signal and do not fit -/
theorem hs_two (q : Nat → Bool) (p : Nat → Bool) (l : List Nat) : hs (fun h => p h && !q h) l + hs (fun h => q h && p h) l = hs (fun h => true && p h) l := by
  unfold hs
  induction l with
  | nil => rfl
  | cons x l ih =>
    rw [List.map_cons, List.map_cons, List.map_cons, List.sum_cons, List.sum_cons, List.sum_cons, ← ih]
    generalize (l.map fun h => if (p h && !q h) = true then 1 else 0).sum = X
    generalize (l.map fun h => if (q h && p h) = true then 1 else 0).sum = Y
    have key : ∀ u v : Bool, (if (v && !u) = true then 1 else 0) + (if (u && v) = true then 1 else 0) = (if (true && v) = true then 1 else (0 : Nat)) := by decide
    have := key (q x) (p x)
    generalize (if (p x && !q x) = true then 1 else 0 : Nat) = a at *
    generalize (if (q x && p x) = true then 1 else 0 : Nat) = b at *
    generalize (if (true && p x) = true then 1 else 0 : Nat) = c at *
    omega
theorem hs_out {L : Nat} (hL : L < 4503599627370496) (n : Nat) {ls : List Rl} (hr : rightS ls = true) (A : List Rg) (j : Nat) : hs (fun h => decide (ofN ls h = j) && !fitsV A h) (handsL L n) + gvC (deck L) n (fitP A) ls (j : Int) = gvC (deck L) n QT ls (j : Int) := by
  rw [← hs_sigA hL n hr A j, ← hs_sig hL n hr j]
  exact hs_two (fitsV A) (fun h => decide (ofN ls h = j)) _
end Go.Proofs.Ytikdkhiehfccpaa
