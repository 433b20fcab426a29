/- Plain: what finesselaw12.PlayEnds asks of each card. -/
import Derived.Test.YtginbellakkliaaDoorPySb
namespace Go.Proofs.YtginbellakkliaaDoor
open Go.RowKit Go.Shelf Go.Sort

theorem en_sub {d : Nat → Nat} {n t : Nat} {p : Ply} (h : PInv d n p t) (hd : Deal4 d n) : landn p.st.legal (p.st.h p.st.next) = 0 := by
  apply Nat.eq_of_testBit_eq
  intro i
  rw [testBit_landn, Nat.zero_testBit]
  cases hb : p.st.legal.testBit i
  · rfl
  · rw [h.legal_sub hd hb]; rfl
theorem en_hand (p : Ply) (c : Nat) : (({ p with back := [] } : Ply).put c).handV p.st.next = landn (p.st.h p.st.next) (shl1 c) := by
  have hn := next_lt p.st
  unfold Ply.handV
  rw [if_pos (by omega)]
  show (p.st.put p.dn c).h p.st.next = _
  unfold PSt.put
  split
  · show setH _ _ _ _ = _; unfold setH; rw [if_pos rfl]
  · show setH _ _ _ _ = _; unfold setH; rw [if_pos rfl]
theorem tks_len {p : Ply} : ∀ k, 4 * k ≤ p.steps.length → (p.tkTo k).length = k
  | 0, _ => rfl
  | k + 1, h => by
    unfold Ply.tkTo
    rw [List.length_append, tks_len k (by omega)]
    rw [List.getElem?_eq_getElem (show 4 * k + 3 < p.steps.length by omega)]
    rfl
theorem PInv.tks_len {d : Nat → Nat} {n t : Nat} {p : Ply} (h : PInv d n p t) : p.tks.length = t := by
  unfold Ply.tks
  have h1 := h.many
  have h2 := h.ok.st.ct
  rw [show p.steps.length / 4 = t by omega]
  exact Go.Proofs.YtginbellakkliaaDoor.tks_len t (by omega)
theorem tkWon_sum (l : List Tk) : tkWon l 0 + tkWon l 1 = l.length := by
  induction l with
  | nil => rfl
  | cons x l ih =>
    unfold tkWon at *
    rcases (show x.win % 2 = 0 ∨ x.win % 2 = 1 by omega) with h | h
    · simp [h]; omega
    · simp [h]; omega
/-- one card more -/
theorem en_put {d : Nat → Nat} {n t : Nat} {p : Ply} (h : PInv d n p t) (hd : Deal4 d n) {c : Nat} (hc : p.st.legal.testBit c = true) :
    (p.st.ct = 3 → (({ p with back := [] } : Ply).put c).st.trick = [] ∧ p.st.trick ++ [c] = [p.st.cs 0, p.st.cs 1, p.st.cs 2, c] ∧
      (({ p with back := [] } : Ply).put c).tks = p.tks ++ [Stp.tk ⟨p.st, c⟩ p.dn] ∧ (({ p with back := [] } : Ply).put c).st.ld = (Stp.tk ⟨p.st, c⟩ p.dn).win ∧ seatV p.dn p.st.ld (p.st.trick ++ [c]) = ((Stp.tk ⟨p.st, c⟩ p.dn).win, 0) ∧
      lastTk (({ p with back := [] } : Ply).put c).tks = Stp.tk ⟨p.st, c⟩ p.dn) ∧
    (p.st.ct ≠ 3 → (({ p with back := [] } : Ply).put c).st.trick = p.st.trick ++ [c] ∧ (({ p with back := [] } : Ply).put c).tks = p.tks ∧ (({ p with back := [] } : Ply).put c).st.ld = p.st.ld) := by
  have hpt := put_tks ({ p with back := [] } : Ply) c t h.many h.ok.st.ct
  rw [tks_back p []] at hpt
  constructor
  · intro h3
    have h3' : ({ p with back := [] } : Ply).st.ct = 3 := h3
    rw [if_pos h3'] at hpt
    have htr : p.st.trick ++ [c] = [p.st.cs 0, p.st.cs 1, p.st.cs 2, c] := by unfold PSt.trick; rw [h3]; rfl
    have hr := h.full_right hd hc h3
    have hs := seatV_right (dn := p.dn) (ld := p.st.ld) h.ok.dn (by have := h.ok.st.ld; omega) hr
    have hw : (Stp.tk ⟨p.st, c⟩ p.dn).win = (p.st.ld + (winnerV p.dn [p.st.cs 0, p.st.cs 1, p.st.cs 2, c]).1) % 4 := by
      show (seatV p.dn p.st.ld [p.st.cs 0, p.st.cs 1, p.st.cs 2, c]).1 = _
      rw [hs]
    refine ⟨?_, htr, hpt, ?_, by rw [htr, hs, hw], by rw [hpt, lastTk_snoc]⟩
    · show (p.st.put p.dn c).trick = []
      unfold PSt.put PSt.trick; rw [if_pos h3]; rfl
    · show (p.st.put p.dn c).ld = _
      unfold PSt.put; rw [if_pos h3]; rfl
  · intro h3
    have h3' : ¬ ({ p with back := [] } : Ply).st.ct = 3 := h3
    rw [if_neg h3', List.append_nil] at hpt
    refine ⟨?_, hpt, ?_⟩
    · show (p.st.put p.dn c).trick = _
      unfold PSt.put; rw [if_neg h3]
      show (List.range (p.st.ct + 1)).map (setH p.st.cs p.st.ct c) = _
      rw [List.range_succ, List.map_append]
      congr 1
      · refine List.map_congr_left fun i hi => ?_
        have := List.mem_range.1 hi
        unfold setH; rw [if_neg (by omega)]
      · simp [setH]
    · show (p.st.put p.dn c).ld = _
      unfold PSt.put; rw [if_neg h3]
theorem en_new {d : Nat → Nat} {n t : Nat} {p : Ply} (h : PInv d n p t) (hd : Deal4 d n) {c : Nat} (hc : p.st.legal.testBit c = true) : (p.steps.map Stp.c).contains c = false := by
  have hh := h.legal_sub hd hc
  cases hq : (p.steps.map Stp.c).contains c
  · rfl
  · rw [List.contains_iff_mem] at hq
    obtain ⟨x, hx, he⟩ := List.mem_map.1 hq
    have := h.gone x hx p.st.next
    rw [he, hh] at this; cases this
theorem en_over {d : Nat → Nat} {n t : Nat} {p : Ply} (h : PInv d n p t) : p.steps.length ≤ 4 * n ∧ (p.steps.length < 4 * n ↔ p.st.over = false) := by
  have h1 := h.many
  have h2 := h.t_le
  have h4 := h.ok.st.ct
  have h5 := h.ct_over
  have h6 := h.over_iff
  by_cases ht : t = n
  · have := h5 ht
    refine ⟨by omega, ?_⟩
    rw [h6.2 ht]
    constructor
    · intro hh; omega
    · intro hh; cases hh
  · refine ⟨by omega, ?_⟩
    constructor
    · intro _
      cases ho : p.st.over
      · rfl
      · exact absurd (h6.1 ho) ht
    · intro _; omega
end Go.Proofs.YtginbellakkliaaDoor
