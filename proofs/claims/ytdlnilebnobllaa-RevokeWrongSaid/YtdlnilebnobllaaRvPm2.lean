/- Plain: the law's winner is the trick's. -/
import Derived.Test.YtdlnilebnobllaaRvPlP
namespace Go.Proofs.Ytdlnilebnobllaa
open Go.RowKit Go.Shelf Go.Sort

theorem maskR_ok : ∀ (l : List Nat) (m : Nat), (∀ c ∈ l, c < 52 ∧ m.testBit c = false) → l.Nodup → (maskR m l).2 = 0
  | [], _, _, _ => rfl
  | c :: cs, m, h, hn => by
    have hc := h c (by simp)
    rw [maskR, if_pos hc.1, hc.2]
    refine maskR_ok cs _ (fun z hz => ⟨(h z (by simp [hz])).1, ?_⟩) (List.nodup_cons.1 hn).2
    rw [testBit_lor, testBit_shl1, (h z (by simp [hz])).2]
    have : c ≠ z := fun e => (List.nodup_cons.1 hn).1 (e ▸ hz)
    simp [this]
theorem rightB_four {l : List Nat} (h4 : l.length = 4) (h : ∀ c ∈ l, c < 52) (hn : l.Nodup) : rightB l = true := by
  unfold rightB
  rw [maskR_ok l 0 (fun c hc => ⟨h c hc, by simp⟩) hn, h4]; rfl
theorem best_law (t : Nat) (ht : t ≤ 4) (zs : List Nat) (h : ∀ i, zs.getD i 0 < 52) : ∀ k,
    lawBest zs t k = bestTo (fun c => (strength t (suit (zs.getD 0 0)) c : Int)) zs k ∧ (zs.getD (lawBest zs t k) 0 / 13 = t ∨ zs.getD (lawBest zs t k) 0 / 13 = zs.getD 0 0 / 13)
  | 0 => ⟨rfl, .inr rfl⟩
  | k + 1 => by
    obtain ⟨e, hi⟩ := best_law t ht zs h k
    have h0 := h 0
    have hd := h (lawBest zs t k)
    have hc := h k
    have hst : ∀ c, c < 52 → strength t (suit (zs.getD 0 0)) c = if c / 13 = t then 14 + c % 13 else if c / 13 = zs.getD 0 0 / 13 then 1 + c % 13 else 0 := by
      intro c hc; unfold strength suit rank; simp only [if_pos hc, if_pos h0]
    rw [lawBest, bestTo, ← e, hst _ hd, hst _ hc]
    generalize lawBest zs t k = b at *
    generalize hcc : zs.getD k 0 = c at *
    generalize hdd : zs.getD b 0 = d at *
    generalize zs.getD 0 0 = z at *
    have key : ((c / 13 = d / 13 ∧ d < c) ∨ (c / 13 = t ∧ d / 13 ≠ t)) ↔ ((if d / 13 = t then 14 + d % 13 else if d / 13 = z / 13 then 1 + d % 13 else 0 : Nat) : Int) < ((if c / 13 = t then 14 + c % 13 else if c / 13 = z / 13 then 1 + c % 13 else 0 : Nat) : Int) := by
      (repeat' split) <;> omega
    by_cases hq : (c / 13 = d / 13 ∧ d < c) ∨ (c / 13 = t ∧ d / 13 ≠ t)
    · rw [if_pos hq, if_pos (key.1 hq)]
      refine ⟨rfl, ?_⟩
      rw [hcc]; omega
    · rw [if_neg hq, if_neg (fun hh => hq (key.2 hh))]
      exact ⟨rfl, by rw [hdd]; exact hi⟩
theorem seat_law {t ld : Nat} {l : List Nat} (ht : t ≤ 4) (hl : ld < 4) (h4 : l.length = 4) (h : ∀ c ∈ l, c < 52) (hn : l.Nodup) : (seatV t ld l).1 = (ld + lawBest l t 4) % 4 := by
  have hb := best_law t ht l (fun i => getD_lt (by omega) h i) 4
  have hw : winnerV t l = (lawBest l t 4, 0) := by
    unfold winnerV
    rw [if_neg (by omega), rightB_four h4 h hn, if_pos rfl, h4, ← hb.1]
  unfold seatV
  rw [if_neg (by omega), hw]
  simp
end Go.Proofs.Ytdlnilebnobllaa
