/- SgU, SgV in one text. -/
import Derived.Test.YtikdkhiehfccpaaMSgq
import Derived.Test.YtikdkhiehfccpaaSgT
import Derived.Test.YtikdkhiehfccpaaMSgs
import Derived.Laws.StructEq
import Derived.Deep.CutRange

/- Plain: what SignalHonest's claims say, and what Check finds of them. -/
namespace Go.Proofs.Ytikdkhiehfccpaa
open Cnt

/-- what the rules with a signal say together -/
def meansN (ls : List Rl) (s : Int) : List Rg := allR (ls.filter fun x => x.s == s)
theorem means_snoc {ls : List Rl} {k : Nat} {x : Rl} (h : ls[k]? = some x) (s : Int) : meansN (ls.take (k + 1)) s = meansN (ls.take k) s ++ if x.s == s then x.rs else [] := by
  unfold meansN
  rw [take_snoc h, List.filter_append]
  by_cases e : (x.s == s) = true
  · simp [e, allR]
  · simp [e, allR]
theorem filter_rgN (ls : List Rl) (p : Rl → Bool) : (allR (ls.filter p)).length ≤ rgN ls := by
  unfold rgN
  induction ls with
  | nil => exact Nat.le_refl _
  | cons x xs ih =>
    rw [List.filter_cons]
    split
    · simp only [allR, List.flatMap_cons, List.length_append] at ih ⊢; omega
    · simp only [allR, List.flatMap_cons, List.length_append] at ih ⊢; omega
theorem means_right {ls : List Rl} (h : rightS ls = true) (s : Int) : rightV (meansN ls s) = true := by
  refine right_of (Nat.le_trans (filter_rgN ls _) (right_rgN h)) ?_
  rw [List.all_eq_true]
  intro r hr
  obtain ⟨x, hx, hr⟩ := List.mem_flatMap.1 hr
  have h1 := List.all_eq_true.1 (Bool.and_eq_true_iff.1 h).1 x (List.mem_filter.1 hx).1
  exact List.all_eq_true.1 (right_and _ (Bool.and_eq_true_iff.1 h1).2).2 r hr
theorem means_fit {l : Nat → Nat} {p : Nat} {s : Int} (h0 : s ≠ 0) : ∀ {ls : List Rl}, sigP ls l p = s → fitP (meansN ls s) l p = true
  | [], h => absurd h.symm h0
  | x :: xs, h => by
    have h : (if fitP x.rs l p then x.s else sigP xs l p) = s := h
    unfold meansN
    rw [List.filter_cons]
    split at h
    · rename_i hf
      rw [if_pos (by simpa using h)]
      show fitP (x.rs ++ allR (xs.filter _)) l p = true
      rw [fitP_app, hf]; rfl
    · have ih := means_fit h0 h
      unfold meansN at ih
      split
      · show fitP (x.rs ++ allR (xs.filter _)) l p = true
        rw [fitP_app, ih, Bool.or_true]
      · exact ih
theorem means_gv (ds : List Ft) (nn : Nat) (ls : List Rl) {s : Int} (h0 : s ≠ 0) : gvC ds nn (fitP (meansN ls s)) ls s = gvC ds nn QT ls s := by
  unfold gvC
  congr 1
  funext l p
  by_cases h : sigP ls l p = s
  · rw [means_fit h0 h]
  · rw [decide_eq_false h]; rfl
theorem sig_mem {l : Nat → Nat} {p : Nat} : ∀ {ls : List Rl}, sigP ls l p = 0 ∨ ∃ x ∈ ls, sigP ls l p = x.s
  | [] => .inl rfl
  | x :: xs => by
    show (if fitP x.rs l p then x.s else sigP xs l p) = 0 ∨ ∃ y ∈ x :: xs, (if fitP x.rs l p then x.s else sigP xs l p) = y.s
    split
    · exact .inr ⟨x, List.mem_cons_self .., rfl⟩
    · rcases sig_mem (l := l) (p := p) (ls := xs) with h | ⟨y, hy, h⟩
      · exact .inl h
      · exact .inr ⟨y, List.mem_cons_of_mem _ hy, h⟩
theorem gv_other (ds : List Ft) (nn : Nat) {ls : List Rl} {s : Int} (h0 : s ≠ 0) (h : ∀ x ∈ ls, x.s ≠ s) : gvC ds nn QT ls s = 0 := by
  unfold gvC cntF
  refine (sumF_congr fun x => ?_).trans (sumF_zero ds)
  split
  · have : decide (sigP ls (lenF x) x.p = s) = false := decide_eq_false fun e => by
      rcases sig_mem (l := lenF x) (p := x.p) (ls := ls) with h2 | ⟨y, hy, h2⟩
      · exact h0 (e.symm.trans h2)
      · exact h y hy (h2.symm.trans e)
    show (if (decide (sigP ls (lenF x) x.p = s) && QT (lenF x) x.p) = true then 1 else 0) = 0
    rw [this]; rfl
  · rfl
theorem mdL_sig (css : List (List Cd)) (zs : List Nat) : ∀ k, ∀ x ∈ mdL css zs k, 1 ≤ x.s ∧ x.s ≤ 4
  | 0 => fun x hx => by cases hx
  | k + 1 => fun x hx => by
    rcases List.mem_append.1 (show x ∈ mdL css zs k ++ [⟨made (css.getD k []), (sgAt zs k : Int)⟩] from hx) with h | h
    · exact mdL_sig css zs k x h
    · rcases List.mem_singleton.1 h with rfl
      have := sgAt_range zs k
      exact ⟨by show (1 : Int) ≤ (sgAt zs k : Int); omega, by show (sgAt zs k : Int) ≤ 4; omega⟩
/-- the claims -/
def hcm (ls : List Rl) (lo hi : Int) (s : Nat) : Cm := ⟨(s : Int), lo, hi, meansN ls (s : Int)⟩
def hcl (ls : List Rl) (lo hi : Int) : Nat → List Cm := listTo fun i => [hcm ls lo hi (i + 1)]
theorem hcl_len (ls : List Rl) (lo hi : Int) : ∀ k, (hcl ls lo hi k).length = k
  | 0 => rfl
  | k + 1 => by show (hcl ls lo hi k ++ [_]).length = _; rw [List.length_append, hcl_len ls lo hi k]; rfl
theorem hcl_get (ls : List Rl) (lo hi : Int) : ∀ k i, i < k → (hcl ls lo hi k)[i]? = some (hcm ls lo hi (i + 1))
  | k + 1, i, h => by
    show (hcl ls lo hi k ++ [hcm ls lo hi (k + 1)])[i]? = _
    by_cases e : i < k
    · rw [List.getElem?_append_left (by rw [hcl_len]; exact e)]
      exact hcl_get ls lo hi k i e
    · obtain rfl : i = k := by omega
      rw [List.getElem?_append_right (by rw [hcl_len]; exact Nat.le_refl _), hcl_len, Nat.sub_self]; rfl
/-- what is found of a claim's frequency -/
def hF (cnt : Nat → Nat) (T : Nat) (lo hi : Int) (i s : Nat) : List Fl := f2 i (s : Int) lo (cnt s) T ++ f3 i (s : Int) hi (cnt s) T
theorem hF_fC (cnt : Nat → Nat) (fit : Cm → Nat) (T : Nat) (ls : List Rl) (lo hi : Int) (i s : Nat) (h : fit (hcm ls lo hi s) = cnt s) : fC cnt fit T i (hcm ls lo hi s) = hF cnt T lo hi i s := by
  unfold fC hF
  have h1 : f1 i (hcm ls lo hi s).s (cnt (hcm ls lo hi s).s.toNat) (fit (hcm ls lo hi s)) = [] := by
    unfold f1
    rw [h, if_neg]
    show ¬ cnt s < cnt ((s : Int)).toNat
    rw [Int.toNat_natCast]; omega
  rw [h1, List.nil_append]
  show f2 i (s : Int) lo (cnt ((s : Int)).toNat) T ++ f3 i (s : Int) hi (cnt ((s : Int)).toNat) T = _
  rw [Int.toNat_natCast]
theorem listTo_congr {α : Type} {f g : Nat → List α} : ∀ {n : Nat}, (∀ i, i < n → f i = g i) → listTo f n = listTo g n
  | 0, _ => rfl
  | n + 1, h => by show listTo f n ++ f n = listTo g n ++ g n; rw [listTo_congr fun i hi => h i (by omega), h n (by omega)]
theorem listTo_nil {α : Type} {f : Nat → List α} {n : Nat} (h : ∀ i, i < n → f i = []) : listTo f n = [] := by
  rw [listTo_congr (g := fun _ => []) h]
  clear h
  induction n with
  | zero => rfl
  | succ n ih => show listTo _ n ++ [] = []; rw [List.append_nil]; exact ih
theorem kn_hcl (ls : List Rl) (lo hi : Int) (j : Nat) : knOf (hcl ls lo hi 4) (j : Int) = decide (1 ≤ j ∧ j ≤ 4) := by
  show knOf [hcm ls lo hi 1, hcm ls lo hi 2, hcm ls lo hi 3, hcm ls lo hi 4] (j : Int) = _
  simp only [knOf, hcm, List.any_cons, List.any_nil, Bool.or_false]
  rw [Bool.eq_iff_iff]
  simp only [Bool.or_eq_true, beq_iff_eq, decide_eq_true_eq]
  omega
/-- all claims: nothing but frequencies -/
theorem honest_all (cnt : Nat → Nat) (fit : Cm → Nat) (T : Nat) (ls : List Rl) (lo hi : Int) (hfit : ∀ s, 1 ≤ s → fit (hcm ls lo hi s) = cnt s) (hbig : ∀ s, 5 ≤ s → cnt s = 0) :
    checkL cnt fit T (hcl ls lo hi 4) = listTo (fun i => hF cnt T lo hi i (i + 1)) 4 := by
  unfold checkL
  rw [hcl_len]
  rw [listTo_nil (n := 10) (f := fS cnt (knOf (hcl ls lo hi 4))) fun j _ => by
    unfold fS
    rw [if_neg]
    rintro ⟨h0, h1, h2⟩
    rw [kn_hcl] at h2
    have := of_decide_eq_false h2
    have := hbig j (by omega)
    omega, List.append_nil]
  refine listTo_congr fun i hi4 => ?_
  unfold fAt
  rw [hcl_get _ _ _ _ _ hi4]
  exact hF_fC _ _ _ _ _ _ _ _ (hfit _ (by omega))
/-- one claim left out -/
def lessC (ls : List Rl) (lo hi : Int) (i : Nat) : List Cm := (hcl ls lo hi 4).take i ++ (hcl ls lo hi 4).drop (i + 1)
theorem kn_less (ls : List Rl) (lo hi : Int) (i j : Nat) (h4 : i < 4) : knOf (lessC ls lo hi i) (j : Int) = decide (1 ≤ j ∧ j ≤ 4 ∧ j ≠ i + 1) := by
  have : lessC ls lo hi i = ([hcm ls lo hi 1, hcm ls lo hi 2, hcm ls lo hi 3, hcm ls lo hi 4] : List Cm).take i ++ ([hcm ls lo hi 1, hcm ls lo hi 2, hcm ls lo hi 3, hcm ls lo hi 4] : List Cm).drop (i + 1) := rfl
  rw [this]
  rcases (show i = 0 ∨ i = 1 ∨ i = 2 ∨ i = 3 by omega) with rfl | rfl | rfl | rfl <;>
  · simp only [List.take_zero, List.take_succ_cons, List.drop_succ_cons, List.drop_zero, List.drop_nil, List.nil_append, List.cons_append, List.append_nil, knOf, hcm, List.any_cons, List.any_nil, Bool.or_false]
    rw [Bool.eq_iff_iff]
    simp only [Bool.or_eq_true, beq_iff_eq, decide_eq_true_eq]
    omega
theorem less_len (ls : List Rl) (lo hi : Int) (i : Nat) (h4 : i < 4) : (lessC ls lo hi i).length = 3 := by
  unfold lessC
  rw [List.length_append, List.length_take, List.length_drop, hcl_len]; omega
theorem less_mem {ls : List Rl} {lo hi : Int} {i : Nat} {c : Cm} (h : c ∈ lessC ls lo hi i) : ∃ s, 1 ≤ s ∧ s ≤ 4 ∧ c = hcm ls lo hi s := by
  have hm : c ∈ hcl ls lo hi 4 := by
    rcases List.mem_append.1 h with h | h
    · exact List.mem_of_mem_take h
    · exact List.mem_of_mem_drop h
  obtain ⟨k, hk⟩ := List.getElem?_of_mem hm
  have hlt : k < 4 := by have := (List.getElem?_eq_some_iff.1 hk).1; rwa [hcl_len] at this
  rw [hcl_get _ _ _ _ _ hlt] at hk
  exact ⟨k + 1, by omega, by omega, (Option.some.inj hk).symm⟩
/-- how many faults are of kind 4 -/
def secN (l : List Fl) : Nat := (l.map fun x => if x.k = 4 then 1 else 0).sum
theorem secN_app (l m : List Fl) : secN (l ++ m) = secN l + secN m := by unfold secN; rw [List.map_append, List.sum_append]
theorem secN_zero {l : List Fl} (h : ∀ x ∈ l, x.k ≠ 4) : secN l = 0 := by
  unfold secN
  induction l with
  | nil => rfl
  | cons x xs ih => rw [List.map_cons, List.sum_cons, if_neg (h x (List.mem_cons_self ..)), ih fun y hy => h y (List.mem_cons_of_mem _ hy)]
theorem secN_snoc {l : List Fl} {k : Nat} {x : Fl} (h : l[k]? = some x) : secN (l.take (k + 1)) = secN (l.take k) + if x.k = 4 then 1 else 0 := by
  rw [List.take_add_one, h, secN_app]
  simp [secN]
theorem secN_take (l : List Fl) (k : Nat) : secN (l.take k) ≤ secN l := by
  have := secN_app (l.take k) (l.drop k)
  rw [List.take_append_drop] at this
  omega
theorem honest_less (cnt : Nat → Nat) (fit : Cm → Nat) (T : Nat) (ls : List Rl) (lo hi : Int) (i : Nat) (h4 : i < 4) (hfit : ∀ s, 1 ≤ s → fit (hcm ls lo hi s) = cnt s) (hbig : ∀ s, 5 ≤ s → cnt s = 0) :
    (∀ x ∈ checkL cnt fit T (lessC ls lo hi i), x.k = 4 → x = ⟨-1, ((i + 1 : Nat) : Int), 4, (cnt (i + 1) : Int)⟩) ∧ secN (checkL cnt fit T (lessC ls lo hi i)) = if 0 < cnt (i + 1) then 1 else 0 := by
  have hA : ∀ x ∈ listTo (fAt cnt fit T (lessC ls lo hi i)) (lessC ls lo hi i).length, x.k ≠ 4 := by
    refine listTo_all (fun j x hx => ?_) _
    unfold fAt at hx
    split at hx
    · rename_i c hc
      obtain ⟨s, h1, _, rfl⟩ := less_mem (List.mem_of_getElem? hc)
      rw [hF_fC _ _ _ _ _ _ _ _ (hfit s h1)] at hx
      unfold hF f2 f3 at hx
      rcases List.mem_append.1 hx with hx | hx
      · split at hx
        · rcases List.mem_singleton.1 hx with rfl; exact (show (2 : Nat) ≠ 4 by decide)
        · cases hx
      · split at hx
        · rcases List.mem_singleton.1 hx with rfl; exact (show (3 : Nat) ≠ 4 by decide)
        · cases hx
    · cases hx
  have hS : listTo (fS cnt (knOf (lessC ls lo hi i))) 10 = if 0 < cnt (i + 1) then [⟨-1, ((i + 1 : Nat) : Int), 4, (cnt (i + 1) : Int)⟩] else [] := by
    have key : ∀ j, j ≠ i + 1 → fS cnt (knOf (lessC ls lo hi i)) j = [] := fun j hj => by
      unfold fS
      rw [if_neg]
      rintro ⟨h0, h1, h2⟩
      rw [kn_less _ _ _ _ _ h4] at h2
      have := of_decide_eq_false h2
      have := hbig j (by omega)
      omega
    have hit : fS cnt (knOf (lessC ls lo hi i)) (i + 1) = if 0 < cnt (i + 1) then [⟨-1, ((i + 1 : Nat) : Int), 4, (cnt (i + 1) : Int)⟩] else [] := by
      unfold fS
      rw [kn_less _ _ _ _ _ h4, decide_eq_false (by omega)]
      by_cases h : 0 < cnt (i + 1)
      · rw [if_pos ⟨by omega, h, rfl⟩, if_pos h]
      · rw [if_neg (fun h2 => h h2.2.1), if_neg h]
    rw [← hit]
    show (((((((((([] ++ fS cnt (knOf (lessC ls lo hi i)) 0) ++ fS cnt (knOf (lessC ls lo hi i)) 1) ++ fS cnt (knOf (lessC ls lo hi i)) 2) ++ fS cnt (knOf (lessC ls lo hi i)) 3) ++ fS cnt (knOf (lessC ls lo hi i)) 4) ++ fS cnt (knOf (lessC ls lo hi i)) 5) ++ fS cnt (knOf (lessC ls lo hi i)) 6) ++ fS cnt (knOf (lessC ls lo hi i)) 7) ++ fS cnt (knOf (lessC ls lo hi i)) 8) ++ fS cnt (knOf (lessC ls lo hi i)) 9) = _
    rw [key 0 (by omega), key 5 (by omega), key 6 (by omega), key 7 (by omega), key 8 (by omega), key 9 (by omega)]
    rcases (show i = 0 ∨ i = 1 ∨ i = 2 ∨ i = 3 by omega) with rfl | rfl | rfl | rfl
    · rw [key 2 (by omega), key 3 (by omega), key 4 (by omega)]; simp
    · rw [key 1 (by omega), key 3 (by omega), key 4 (by omega)]; simp
    · rw [key 1 (by omega), key 2 (by omega), key 4 (by omega)]; simp
    · rw [key 1 (by omega), key 2 (by omega), key 3 (by omega)]; simp
  unfold checkL
  rw [hS]
  constructor
  · intro x hx hk
    rcases List.mem_append.1 hx with hx | hx
    · exact absurd hk (hA x hx)
    · split at hx
      · exact List.mem_singleton.1 hx
      · cases hx
  · rw [secN_app, secN_zero hA, Nat.zero_add]
    split <;> rfl
/-- the claims are right -/
theorem hcm_ok {ls : List Rl} (h : rightS ls = true) {lo hi : Int} (h0 : 0 ≤ lo) (h1 : lo ≤ hi) (h2 : hi ≤ 1000) {s : Nat} (hs1 : 1 ≤ s) (hs9 : s ≤ 9) : (hcm ls lo hi s).ok = true := by
  show (decide (1 ≤ (s : Int)) && decide ((s : Int) ≤ 9) && rightV (meansN ls (s : Int)) && decide (0 ≤ lo) && decide (lo ≤ hi) && decide (hi ≤ 1000)) = true
  rw [means_right h]
  simp
  omega
theorem ann_hcl {ls : List Rl} (h : rightS ls = true) {lo hi : Int} (h0 : 0 ≤ lo) (h1 : lo ≤ hi) (h2 : hi ≤ 1000) : annV (hcl ls lo hi 4) = true := by
  unfold annV
  rw [hcl_len]
  show (true && ([hcm ls lo hi 1, hcm ls lo hi 2, hcm ls lo hi 3, hcm ls lo hi 4] : List Cm).all Cm.ok) = true
  simp only [List.all_cons, List.all_nil, hcm_ok h h0 h1 h2 (show 1 ≤ 1 by omega) (by omega), hcm_ok h h0 h1 h2 (show 1 ≤ 2 by omega) (by omega), hcm_ok h h0 h1 h2 (show 1 ≤ 3 by omega) (by omega), hcm_ok h h0 h1 h2 (show 1 ≤ 4 by omega) (by omega), Bool.and_true]
theorem ann_less {ls : List Rl} (h : rightS ls = true) {lo hi : Int} (h0 : 0 ≤ lo) (h1 : lo ≤ hi) (h2 : hi ≤ 1000) {i : Nat} (h4 : i < 4) : annV (lessC ls lo hi i) = true := by
  unfold annV
  rw [less_len _ _ _ _ h4]
  show (true && _) = true
  rw [Bool.true_and, List.all_eq_true]
  intro c hc
  obtain ⟨s, hs1, hs4, rfl⟩ := less_mem hc
  exact hcm_ok h h0 h1 h2 hs1 (by omega)
theorem listTo_split {α : Type} (g : Nat → List α) : ∀ (n k : Nat), k < n → ∃ r, listTo g n = listTo g k ++ (g k ++ r)
  | n + 1, k, h => by
    by_cases e : k < n
    · obtain ⟨r, hr⟩ := listTo_split g n k e
      exact ⟨r ++ g n, by show listTo g n ++ g n = _; rw [hr]; simp only [List.append_assoc]⟩
    · obtain rfl : k = n := by omega
      exact ⟨[], by show listTo g k ++ g k = _; rw [List.append_nil]⟩
theorem listTo_get {α : Type} {g : Nat → List α} {n k : Nat} {x : α} (hk : k < n) (hx : g k = [x]) : (listTo g n)[(listTo g k).length]? = some x := by
  obtain ⟨r, hr⟩ := listTo_split g n k hk
  rw [hr, hx, List.getElem?_append_right (Nat.le_refl _), Nat.sub_self]; rfl
/-- what is found of the claims of a scheme itself -/
theorem honest_found {L nn : Nat} {ls : List Rl} (hr : rightS ls = true) (hs : ∀ x ∈ ls, 1 ≤ x.s ∧ x.s ≤ 4) (hL : L < 4503599627370496) (hn : nn ≤ 13) {lo hi : Nat} (h1 : lo ≤ hi) (h2 : hi ≤ 1000) :
    ckOk L (nn : Int) ls (hcl ls (lo : Int) (hi : Int) 4) = true ∧ ckL L (nn : Int) ls (hcl ls (lo : Int) (hi : Int) 4) = listTo (fun i => hF (cnV L (nn : Int) ls) (cntF (deck L) nn QT) (lo : Int) (hi : Int) i (i + 1)) 4 ∧
    ∀ i, i < 4 → ckOk L (nn : Int) ls (lessC ls (lo : Int) (hi : Int) i) = true ∧ (∀ x ∈ ckL L (nn : Int) ls (lessC ls (lo : Int) (hi : Int) i), x.k = 4 → x = ⟨-1, ((i + 1 : Nat) : Int), 4, (cnV L (nn : Int) ls (i + 1) : Int)⟩) ∧ secN (ckL L (nn : Int) ls (lessC ls (lo : Int) (hi : Int) i)) = if 0 < cnV L (nn : Int) ls (i + 1) then 1 else 0 := by
  have ok1 : ckOk L (nn : Int) ls (hcl ls (lo : Int) (hi : Int) 4) = true := by
    unfold ckOk
    rw [lg_made hL hn hr, ann_hcl hr (by omega) (by omega) (by omega)]; rfl
  have hfit : ∀ s, 1 ≤ s → gvC (deck L) nn (fitP (hcm ls (lo : Int) (hi : Int) s).rs) ls (hcm ls (lo : Int) (hi : Int) s).s = cnV L (nn : Int) ls s := fun s h => by
    show gvC (deck L) nn (fitP (meansN ls (s : Int))) ls (s : Int) = cnV L (nn : Int) ls s
    rw [means_gv _ _ _ (by omega)]; rfl
  have hbig : ∀ s, 5 ≤ s → cnV L (nn : Int) ls s = 0 := fun s h => gv_other _ _ (by omega) fun x hx e => by
    have := hs x hx
    omega
  refine ⟨ok1, ?_, fun i h4 => ?_⟩
  · unfold ckL
    rw [if_pos ok1]
    exact honest_all _ _ _ _ _ _ hfit hbig
  · have ok2 : ckOk L (nn : Int) ls (lessC ls (lo : Int) (hi : Int) i) = true := by
      unfold ckOk
      rw [lg_made hL hn hr, ann_less hr (by omega) (by omega) (by omega) h4]; rfl
    refine ⟨ok2, ?_⟩
    unfold ckL
    rw [if_pos ok2]
    exact honest_less _ _ _ _ _ _ i h4 hfit hbig
end Go.Proofs.Ytikdkhiehfccpaa

/- Claims of the program's own in memory; a claim under way. For SignalHonest. -/
namespace Go.Proofs.Ytikdkhiehfccpaa
open Go.RowKit Go.Sort Go.Shelf Cnt

def KCl : Kd where
  α := Cm
  rs := Cm.rs
  enc x a c := [.int .i64 x.s, .int .i64 x.lo, .int .i64 x.hi, .slice a x.rs.length c]
  k := 4
  T := 29
  TS := 24
  z := .agg #[.int .i64 0, .int .i64 0, .int .i64 0, .slice none 0 0]
  bytes := 48
  len _ _ _ := rfl
  one x a c u hu := by
    simp at hu
    rcases hu with rfl | rfl | rfl | rfl <;> rfl
  under := Try.underlying24
  info := by kernel_rfl
  kpos := by decide
  zs := rfl
  small := by decide
theorem Kd.of_get {K : Kd} {ps : List K.P} {i : Nat} {x : K.α} (h : (K.of ps)[i]? = some x) : ∃ p, ps[i]? = some p ∧ p.1 = x := by
  unfold Kd.of at h
  rw [List.getElem?_map] at h
  exact Option.map_eq_some_iff.1 h
theorem Kd.of_len {K : Kd} (ps : List K.P) : (K.of ps).length = ps.length := List.length_map ..
/-- the cells of an own slice -/
theorem OwnK.at {K : Kd} {w : World} {base : Nat} {v : Value} {ps : List K.P} (h : OwnK K w base v ps) : (v = .slice none 0 0 ∧ ps = []) ∨ ∃ g cap, v = .slice (some ⟨g, 0, none⟩) ps.length cap ∧ base ≤ g ∧ g < w.heap.size ∧ ps.length ≤ cap ∧ ∀ i p j, ps[i]? = some p → j < K.k → w.cell? ⟨g, i * K.k + j, none⟩ = (K.e p)[j]? := by
  rcases h.own.form with ⟨hv, he⟩ | ⟨g, cap, hv, hg, hgs, hlc, _⟩
  · exact .inl ⟨hv, he⟩
  · refine .inr ⟨g, cap, hv, hg, hgs, hlc, fun i p j hp hj => ?_⟩
    have h1 := flatK_get K.e_len ps i j p hp hj
    have hi : i < ps.length := (List.getElem?_eq_some_iff.1 hp).1
    have hlt : i * K.k + j < ps.length * K.k := by
      have : (i + 1) * K.k ≤ ps.length * K.k := Nat.mul_le_mul_right _ (by omega)
      rw [Nat.succ_mul] at this
      omega
    have h2 := World.ownsRow.cellAt (hv ▸ h.own.2) (i * K.k + j) hlt
    rw [h2, h1]
/-- claims in a block: where they lie -/
structure ClM (w : World) (g : Nat) (qs : List KCl.P) : Prop where
  lt : g < w.heap.size
  cells : ∀ i p j, qs[i]? = some p → j < 4 → w.cell? ⟨g, i * 4 + j, none⟩ = (KCl.e p)[j]?
  rg : ∀ p ∈ qs, RgC w p.2.1 p.2.2 p.1.rs
theorem ClM.below {w w' : World} {g : Nat} {qs : List KCl.P} (h : ClM w g qs) (hb : Below w.heap.size w w') : ClM w' g qs :=
  ⟨Nat.lt_of_lt_of_le h.lt hb.size, fun i p j hp hj => (hb.cell (p := ⟨g, _, none⟩) h.lt).trans (h.cells i p j hp hj), fun p hp => (h.rg p hp).below hb⟩
theorem ClM.cms {w : World} {g : Nat} {qs : List KCl.P} {xs : List Cm} (h : ClM w g qs) (he : KCl.of qs = xs) (hl : qs.length ≤ 1000) : Cms w (some ⟨g, 0, none⟩) qs.length xs := by
  have hlen : xs.length = qs.length := by rw [← he]; exact List.length_map ..
  refine ⟨hlen, by omega, .inr ⟨g, 0, rfl, h.lt, fun i x hx => ?_⟩⟩
  rw [← he] at hx
  obtain ⟨p, hp, hpx⟩ := Kd.of_get (K := KCl) hx
  have hrg := h.rg p (List.mem_of_getElem? hp)
  subst hpx
  simp only [Nat.zero_add]
  exact ⟨p.2.1, p.2.2, h.cells i p 0 hp (by decide), h.cells i p 1 hp (by decide), h.cells i p 2 hp (by decide), h.cells i p 3 hp (by decide), hrg⟩
theorem ClM.flat {w : World} {g : Nat} {qs : List KCl.P} (h : ClM w g qs) (j : Nat) (u : Value) (hu : (qs.flatMap KCl.e)[j]? = some u) : w.cell? ⟨g, j, none⟩ = some u := by
  have hj : j < qs.length * 4 := by
    have := (List.getElem?_eq_some_iff.1 hu).1
    rwa [flat_len KCl.e_len] at this
  obtain ⟨p, hp⟩ : ∃ p, qs[j / 4]? = some p := ⟨_, List.getElem?_eq_getElem (by omega)⟩
  have h1 := h.cells (j / 4) p (j % 4) hp (by omega)
  have h2 := flatK_get KCl.e_len qs (j / 4) (j % 4) p hp (show j % 4 < 4 by omega)
  have e : j / 4 * KCl.k + j % 4 = j := by show j / 4 * 4 + j % 4 = j; omega
  rw [e, hu] at h2
  rw [show j / 4 * 4 + j % 4 = j by omega, ← h2] at h1
  exact h1
theorem addr_add0 (g j : Nat) : (⟨g, 0, none⟩ : Addr).add j = ⟨g, j, none⟩ := by
  unfold Addr.add
  split
  · rename_i h; subst h; rfl
  · simp
theorem addr_addk (g k j : Nat) : (⟨g, k, none⟩ : Addr).add j = ⟨g, k + j, none⟩ := by
  unfold Addr.add
  split
  · rename_i h; subst h; rfl
  · rfl
theorem ClM.take {w : World} {g : Nat} {qs : List KCl.P} (h : ClM w g qs) (k : Nat) (j : Nat) (u : Value) (hu : ((qs.take k).flatMap KCl.e)[j]? = some u) : w.cell? ((⟨g, 0, none⟩ : Addr).add j) = some u := by
  rw [addr_add0]
  refine h.flat j u ?_
  have e : qs.flatMap KCl.e = (qs.take k).flatMap KCl.e ++ (qs.drop k).flatMap KCl.e := by rw [← List.flatMap_append, List.take_append_drop]
  rw [e, List.getElem?_append_left (List.getElem?_eq_some_iff.1 hu).1]
  exact hu
theorem ClM.drop {w : World} {g : Nat} {qs : List KCl.P} (h : ClM w g qs) (k : Nat) (hk : k ≤ qs.length) (j : Nat) (u : Value) (hu : ((qs.drop k).flatMap KCl.e)[j]? = some u) : w.cell? ((⟨g, k * 4, none⟩ : Addr).add j) = some u := by
  rw [addr_addk]
  refine h.flat (k * 4 + j) u ?_
  have e : qs.flatMap KCl.e = (qs.take k).flatMap KCl.e ++ (qs.drop k).flatMap KCl.e := by rw [← List.flatMap_append, List.take_append_drop]
  have hl : ((qs.take k).flatMap KCl.e).length = k * 4 := by rw [flat_len KCl.e_len, List.length_take, Nat.min_eq_left hk]; rfl
  rw [e, List.getElem?_append_right (by omega), hl, show k * 4 + j - k * 4 = j by omega]
  exact hu
theorem OwnK.clm {w : World} {base : Nat} {v : Value} {qs : List KCl.P} (h : OwnK KCl w base v qs) (h0 : qs ≠ []) : ∃ g cap, v = .slice (some ⟨g, 0, none⟩) qs.length cap ∧ base ≤ g ∧ qs.length ≤ cap ∧ ClM w g qs := by
  rcases h.at with ⟨_, he⟩ | ⟨g, cap, hv, hg, hgs, hlc, hc⟩
  · exact absurd he h0
  · exact ⟨g, cap, hv, hg, hlc, hgs, hc, h.rg⟩
/-- append of claims, on the walk -/
theorem appK {K : Kd} {w : World} {ops : Array Oper} {rest : List Oper} {o : Oper} {a : Act} {Q : Exit → Act → World → Prop} (hgd : o.guard = none) (s x : Operand)
    (ho : o.op = .call { callee := .builtin .append, args := #[s, x], argTypes := #[K.TS, K.TS] })
    (base : Nat) (v : Value) (ps qs : List K.P) (hs : a.eval s = v) (hown : OwnK K w base v ps) (ad : Addr) (k c : Nat) (hx : a.eval x = .slice (some ad) k c) (hk : qs.length = k) (hy : ∀ j u, (qs.flatMap K.e)[j]? = some u → w.cell? (ad.add j) = some u)
    (hqr : ∀ p ∈ qs, RgC w p.2.1 p.2.2 (K.rs p.1)) (hqn : ∀ p ∈ qs, K.rs p.1 ≠ [] → ∀ ad, p.2.1 = some ad → v.ownBlock ≠ some ad.block)
    (hbytes : ps.length + k ≤ 100000) (hbase : base ≤ w.heap.size)
    (h : ∀ v' w', OwnK K w' base v' (ps ++ qs) → Below base w w' → wpList Try.prog ops Q rest (a.put o.dst v') w') : wpList Try.prog ops Q (o :: rest) a w := by
  refine wpList_plain hgd fun Kk hK => ?_
  obtain ⟨v', w', hr, h1, h2, _⟩ := run_appK o.type base v ps qs hown ad k c hk hy hqr hqn hbytes hbase
  unfold Oper.wp execOp
  simp only [ho, resolve, invoke, builtin, Sem.run_bind, Sem.run_pure, Result.andThen_ok, List.map_toArray, List.map_cons, List.map_nil, hs, hx, hr]
  exact hK _ _ (h v' w' h1 ((Below.refl _ _).grown h2 hbase (fun k hk => (World.ownsRow.lt hown.own.2 k hk).1)))
/-- append(v, nothing), v own ranges -/
theorem appR0 {w : World} {ops : Array Oper} {rest : List Oper} {o : Oper} {a : Act} {Q : Exit → Act → World → Prop} (hgd : o.guard = none) (s x : Operand)
    (ho : o.op = .call { callee := .builtin .append, args := #[s, x], argTypes := #[27, 27] })
    (base : Nat) (v : Value) (zs : List Rg) (hs : a.eval s = v) (hown : OwnR w base v zs) (hx : a.eval x = .slice none 0 0)
    (hl : zs.length ≤ 100000) (h : wpList Try.prog ops Q rest (a.put o.dst v) w) : wpList Try.prog ops Q (o :: rest) a w := by
  obtain ⟨i0, hi, hz0, hz1, hz2⟩ := info_parts info_rg
  obtain ⟨ao, cap, rfl, _, hle, _⟩ := hown.rgs hl
  have hsrc : Src Try.prog i0.size 27 (.slice none 0 0) 0 [] w := Src.ofNil w Try.underlying27 _
  refine wpList_plain hgd fun K hK => ?_
  have hr := run_append_nothing w 27 27 o.type 73 i0 Try.underlying27 hi ao zs.length cap hle (.slice none 0 0) hsrc
  unfold Oper.wp execOp
  simp only [ho, resolve, invoke, builtin, Sem.run_bind, Sem.run_pure, Result.andThen_ok, List.map_toArray, List.map_cons, List.map_nil, hs, hx, hr]
  exact hK _ _ h
theorem grownBy_setCellU (w : World) (a : Addr) (u : Value) : w.grownBy (w.setCell a u) (some a.block) :=
  ⟨rfl, rfl, rfl, by simp, fun k _ hk => Below.heap_setCell _ _ _ k (fun e => hk (by rw [e]))⟩
/-- a claim under way: its box, and what it means so far -/
structure HCw (W0 : World) (s lo hi : Int) (mv : Value) (rs : List Rg) (W : World) : Prop where
  below : Below W0.heap.size W0 W
  row : Row W W0.heap.size 29 #[.int .i64 s, .int .i64 lo, .int .i64 hi, mv]
  out : OwnR W (W0.heap.size + 1) mv rs
theorem HCw.le {W0 : World} {s lo hi : Int} {mv : Value} {rs : List Rg} {W : World} (h : HCw W0 s lo hi mv rs W) : W0.heap.size + 1 ≤ W.heap.size := h.row.lt
theorem HCw.later {W0 : World} {s lo hi : Int} {mv : Value} {rs : List Rg} {W W' : World} (h : HCw W0 s lo hi mv rs W) (hb : Below W.heap.size W W') : HCw W0 s lo hi mv rs W' :=
  ⟨h.below.trans (hb.mono (by have := h.le; omega)), h.row.later hb, h.out.later hb⟩
theorem HCw.row2 {W0 : World} {s lo hi : Int} {mv : Value} {rs : List Rg} {W W' : World} (h : HCw W0 s lo hi mv rs W) (hb : Below (W0.heap.size + 1) W W') : Row W' W0.heap.size 29 #[.int .i64 s, .int .i64 lo, .int .i64 hi, mv] := (hb.block W0.heap.size (by omega)).trans h.row
theorem HCw.put {W0 : World} {s lo hi : Int} {mv mv' : Value} {rs rs' : List Rg} {W W' : World} (h : HCw W0 s lo hi mv rs W) (h1 : OwnR W' (W0.heap.size + 1) mv' rs') (hb : Below (W0.heap.size + 1) W W') : HCw W0 s lo hi mv' rs' (W'.setCell ⟨W0.heap.size, 3, none⟩ mv') := by
  have hrow : Row W' W0.heap.size 29 #[.int .i64 s, .int .i64 lo, .int .i64 hi, mv] := (hb.block W0.heap.size (by omega)).trans h.row
  refine ⟨(h.below.trans (hb.mono (by omega))).setCell (p := ⟨W0.heap.size, 3, none⟩) (Nat.le_refl _) mv', hrow.set 3 mv', ?_⟩
  refine h1.kept fun g hg => ?_
  have := (h1.lt g hg).1
  exact (grownBy_setCellU W' ⟨W0.heap.size, 3, none⟩ mv').block g (h1.lt g hg).2 (by intro e; injection e with e; exact absurd (show g = W0.heap.size from e) (by omega))
theorem ck_len100 (left : Nat) (n : Int) (ls : List Rl) (cs : List Cm) : (ckL left n ls cs).length ≤ 100 := by
  unfold ckL
  split
  · rename_i h
    have h1 := (Bool.and_eq_true_iff.1 (Bool.and_eq_true_iff.1 h).2).1
    have h2 : cs.length ≤ 20 := of_decide_eq_true h1
    unfold checkL
    rw [List.length_append]
    have h3 := to_len (fAt (cnV left n ls) (fun c => gvC (deck left) n.toNat (fitP c.rs) ls c.s) (cntF (deck left) n.toNat QT) cs) 3 (fAt_len _ _ _ _) cs.length
    have h4 := to_len (fS (cnV left n ls) (knOf cs)) 1 (fS_len _ _) 10
    omega
  · exact Nat.zero_le _
theorem fls_eq (x : Fl) (w : World) : Sem.run Try.prog (Op.equalIn 10000 46 (.agg #[.int .i64 x.c, .int .i64 x.s, .int .u8 (x.k : Int), .int .i64 x.h]) (.agg #[.int .i64 x.c, .int .i64 x.s, .int .u8 (x.k : Int), .int .i64 x.h])) w = .ok true w := by
  rw [run_equalIn_struct (P := Try.prog) w 9999 _ _ _ (by kernel_rfl) (by kernel_rfl)]
  have hU := Try.underlying46
  simp only [Program.fieldsOf, hU]
  have p0 : Sem.run Try.prog (part 3 #[.int .i64 x.c, .int .i64 x.s, .int .u8 (x.k : Int), .int .i64 x.h] 0) w = .ok (.int .i64 x.c) w := by kernel_rfl
  have p1 : Sem.run Try.prog (part 3 #[.int .i64 x.c, .int .i64 x.s, .int .u8 (x.k : Int), .int .i64 x.h] 1) w = .ok (.int .i64 x.s) w := by kernel_rfl
  have p2 : Sem.run Try.prog (part 5 #[.int .i64 x.c, .int .i64 x.s, .int .u8 (x.k : Int), .int .i64 x.h] 2) w = .ok (.int .u8 (x.k : Int)) w := by kernel_rfl
  have p3 : Sem.run Try.prog (part 3 #[.int .i64 x.c, .int .i64 x.s, .int .u8 (x.k : Int), .int .i64 x.h] 3) w = .ok (.int .i64 x.h) w := by kernel_rfl
  have he := fun z => run_equalIn_int (P := Try.prog) w 9998 3 .i64 .i64 z z Try.underlying3
  have he8 := fun z => run_equalIn_int (P := Try.prog) w 9998 5 .u8 .u8 z z Try.underlying5
  simp only [beq_self_eq_true] at he he8
  simp [Op.eqFields, p0, p1, p2, p3, he, he8]
end Go.Proofs.Ytikdkhiehfccpaa
