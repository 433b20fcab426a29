/- Plain: counting over the reference's cells. -/
import Derived.Test.YtmkplfndbjcflaaPlH
namespace Go.Proofs.Ytmkplfndbjcflaa
open Cnt

/-- the count over the reference's cells -/
def qC (q : (Nat → Nat) → Nat → Bool) (cs : List Ce) : Nat := sumCe (fun l p => if q l p then 1 else 0) cs
theorem qC_hands (left nn : Nat) (hn : nn ≤ 13) (q : (Nat → Nat) → Nat → Bool) : qC q (ceOf left nn) = cntF (deck left) nn q := ce_hands left nn hn _
theorem qC_one (q : (Nat → Nat) → Nat → Bool) (c : Ce) : qC q [c] = if q c.l c.p then c.m else 0 := by
  unfold qC sumCe
  by_cases h : q c.l c.p = true
  · simp [h]
  · simp [h]
theorem qC_append (q : (Nat → Nat) → Nat → Bool) (xs ys : List Ce) : qC q (xs ++ ys) = qC q xs + qC q ys := sumCe_append _ _ _
theorem qC_step (q : (Nat → Nat) → Nat → Bool) {cs : List Ce} {k : Nat} {c : Ce} (h : cs[k]? = some c) : qC q (cs.take (k + 1)) = qC q (cs.take k) + if q c.l c.p then c.m else 0 := by
  rw [List.take_add_one, h, qC_append]
  congr 1
  exact qC_one q c
theorem qC_take (q : (Nat → Nat) → Nat → Bool) (cs : List Ce) (k : Nat) : qC q (cs.take k) ≤ qC q cs := by
  have h : qC q cs = qC q (cs.take k) + qC q (cs.drop k) := by rw [← qC_append, List.take_append_drop]
  omega
theorem qC_bound (left nn : Nat) (hn : nn ≤ 13) (q : (Nat → Nat) → Nat → Bool) (k : Nat) : qC q ((ceOf left nn).take k) ≤ 4503599627370496 := by
  refine Nat.le_trans (qC_take q _ k) ?_
  rw [qC_hands _ _ hn]
  exact Nat.le_trans (cntF_le _ _ _) (Nat.le_trans (Nat.pow_le_pow_right (by decide) (deck_len left)) (by decide))
theorem mem_to {α : Type} {h : Nat → List α} {x : α} : ∀ {n}, x ∈ listTo h n → ∃ c, c < n ∧ x ∈ h c
  | 0, hx => by cases hx
  | n + 1, hx => by
    rcases List.mem_append.1 hx with h1 | h1
    · obtain ⟨c, h2, h3⟩ := mem_to h1
      exact ⟨c, by omega, h3⟩
    · exact ⟨n, by omega, h1⟩
theorem ce_small (left nn : Nat) (hn : nn ≤ 13) : ∀ c ∈ ceOf left nn, c.p < 41 ∧ ∀ s, s < 4 → c.l s < 14 := by
  intro x hx
  obtain ⟨a, ha, hx⟩ := mem_to hx
  obtain ⟨b, hb, hx⟩ := mem_to hx
  obtain ⟨c, hc, hx⟩ := mem_to hx
  obtain ⟨p, hp, hx⟩ := mem_to hx
  split at hx
  · rcases List.mem_singleton.1 hx with rfl
    exact ⟨hp, fun s hs => Nat.lt_succ_of_le (lR_le nn a b c s hn (by omega) hs)⟩
  · cases hx
theorem ce_len (left nn : Nat) (hn : nn ≤ 13) : (ceOf left nn).length ≤ 112504 := Nat.le_trans (L1_len _ _ _ hn) (by omega)
/-- what the cells so far put into a table by points -/
theorem spC_step (ra : List Rg) {cs : List Ce} {k : Nat} {c : Ce} (h : cs[k]? = some c) (hf : fitP ra c.l c.p = true) : tab 41 (bump (fun j => qC (fun l p => fitP ra l p && decide (p = j)) (cs.take k)) c.p c.m) = tab 41 (fun j => qC (fun l p => fitP ra l p && decide (p = j)) (cs.take (k + 1))) := tab_congr fun j _ => by
  unfold bump
  dsimp only
  rw [qC_step _ h, hf]
  by_cases e : j = c.p
  · subst e; simp
  · have e' : ¬ c.p = j := fun h => e h.symm
    simp [e, e']
theorem spC_miss (ra : List Rg) {cs : List Ce} {k : Nat} {c : Ce} (h : cs[k]? = some c) (hf : fitP ra c.l c.p = false) : tab 41 (fun j => qC (fun l p => fitP ra l p && decide (p = j)) (cs.take k)) = tab 41 (fun j => qC (fun l p => fitP ra l p && decide (p = j)) (cs.take (k + 1))) := tab_congr fun j _ => by
  rw [qC_step _ h, hf]; simp
theorem lnC_step (ra : List Rg) (s : Nat) {cs : List Ce} {k : Nat} {c : Ce} (h : cs[k]? = some c) (hf : fitP ra c.l c.p = true) : tab 14 (bump (fun j => qC (fun l p => fitP ra l p && decide (l s = j)) (cs.take k)) (c.l s) c.m) = tab 14 (fun j => qC (fun l p => fitP ra l p && decide (l s = j)) (cs.take (k + 1))) := tab_congr fun j _ => by
  unfold bump
  dsimp only
  rw [qC_step _ h, hf]
  by_cases e : j = c.l s
  · subst e; simp
  · have e' : ¬ c.l s = j := fun h => e h.symm
    simp [e, e']
theorem lnC_miss (ra : List Rg) (s : Nat) {cs : List Ce} {k : Nat} {c : Ce} (h : cs[k]? = some c) (hf : fitP ra c.l c.p = false) : tab 14 (fun j => qC (fun l p => fitP ra l p && decide (l s = j)) (cs.take k)) = tab 14 (fun j => qC (fun l p => fitP ra l p && decide (l s = j)) (cs.take (k + 1))) := tab_congr fun j _ => by
  rw [qC_step _ h, hf]; simp
end Go.Proofs.Ytmkplfndbjcflaa
