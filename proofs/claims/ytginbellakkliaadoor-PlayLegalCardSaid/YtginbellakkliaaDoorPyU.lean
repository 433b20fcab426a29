/- Plain: the legal cards, and what holds of a play under way. -/
import Derived.Test.YtginbellakkliaaDoorPyS
import Derived.Test.YtginbellakkliaaDoorPyN
namespace Go.Proofs.YtginbellakkliaaDoor
open Go.RowKit Go.Shelf Go.Sort

theorem y_testBit_lor_shl1 (m c i : Nat) (hc : c < 64) : (lor m (shl1 c)).testBit i = (m.testBit i || decide (c = i)) := by
  rw [testBit_lor, testBit_shl1]; simp [hc]
theorem y_maskR_ok : ∀ (zs : List Nat) (m : Nat), (maskR m zs).2 = 0 ↔ (∀ c ∈ zs, c < 52) ∧ (∀ c ∈ zs, m.testBit c = false) ∧ zs.Nodup
  | [], m => by simp [maskR]
  | c :: cs, m => by
    unfold maskR
    by_cases h1 : c < 52
    · rw [if_pos h1]
      cases h2 : m.testBit c
      · simp only [Bool.false_eq_true, if_false]
        rw [y_maskR_ok cs]
        have e : ∀ x, (lor m (shl1 c)).testBit x = false ↔ (m.testBit x = false ∧ c ≠ x) := by
          intro x; rw [y_testBit_lor_shl1 _ _ _ (by omega)]; simp
        simp only [e, List.mem_cons, List.nodup_cons, forall_eq_or_imp, h1, h2, true_and]
        constructor
        · rintro ⟨h3, h4, h5⟩
          exact ⟨h3, fun x hx => (h4 x hx).1, fun hx => (h4 c hx).2 rfl, h5⟩
        · rintro ⟨h3, h4, h5, h6⟩
          exact ⟨h3, fun x hx => ⟨h4 x hx, fun hc => h5 (hc ▸ hx)⟩, h6⟩
      · simp [h2]
    · rw [if_neg h1]; simp [h1]
theorem y_maskR_bit : ∀ (zs : List Nat) (m : Nat), (maskR m zs).2 = 0 → ∀ i, (maskR m zs).1.testBit i = (m.testBit i || decide (i ∈ zs))
  | [], m, _, i => by simp [maskR]
  | c :: cs, m, h, i => by
    unfold maskR at h ⊢
    by_cases h1 : c < 52
    · rw [if_pos h1] at h ⊢
      cases h2 : m.testBit c
      · simp only [h2, Bool.false_eq_true, if_false] at h ⊢
        rw [y_maskR_bit cs _ h i, y_testBit_lor_shl1 _ _ _ (by omega)]
        by_cases hc : c = i
        · simp [hc]
        · have : ¬ i = c := fun e => hc e.symm
          simp [hc, this]
      · simp [h2] at h
    · rw [if_neg h1] at h; simp at h
theorem y_rightB_iff (zs : List Nat) : rightB zs = true ↔ 1 ≤ zs.length ∧ zs.length ≤ 4 ∧ (∀ c ∈ zs, c < 52) ∧ zs.Nodup := by
  have := y_maskR_ok zs 0
  simp only [Nat.zero_testBit] at this
  simp only [rightB, Bool.and_eq_true, decide_eq_true_eq, beq_iff_eq]
  rw [this]
  simp
  constructor
  · rintro ⟨⟨a, b⟩, c, d⟩; exact ⟨a, b, c, d⟩
  · rintro ⟨a, b, c, d⟩; exact ⟨⟨a, b⟩, c, d⟩
theorem y_bit_lt {m i : Nat} {n : Nat} (hm : m < 2 ^ n) (h : m.testBit i = true) : i < n := by
  rcases Nat.lt_or_ge i n with h1 | h1
  · exact h1
  · rw [Nat.testBit_lt_two_pow (Nat.lt_of_lt_of_le hm (Nat.pow_le_pow_right (by decide) h1))] at h; cases h
theorem y_fold_bits (p : Nat → Bool) (step : Nat → Fin 64 → Nat) (hstep : ∀ f c, step f c = if p c.val then lor f (shl1 c.val) else f) (i : Nat) : ∀ (l : List (Fin 64)) (f : Nat),
    (l.foldl step f).testBit i = (f.testBit i || l.any fun c => p c.val && decide (c.val = i))
  | [], f => by simp
  | c :: l, f => by
    rw [List.foldl_cons, y_fold_bits p step hstep i l, hstep, List.any_cons]
    cases hp : p c.val
    · simp
    · simp only [if_true, Bool.true_and]
      rw [y_testBit_lor_shl1 _ _ _ c.isLt, Bool.or_assoc]
theorem y_any_bits (p : Nat → Bool) (m i : Nat) (hm : W64 m) : ((bitsList m).any fun c => p c.val && decide (c.val = i)) = (m.testBit i && p i) := by
  rw [Bool.eq_iff_iff]
  simp only [List.any_eq_true, Bool.and_eq_true, decide_eq_true_eq, bitsList, List.mem_filter, List.mem_finRange, true_and]
  constructor
  · rintro ⟨c, h1, h2, rfl⟩; exact ⟨h1, h2⟩
  · rintro ⟨h1, h2⟩
    exact ⟨⟨i, y_bit_lt hm h1⟩, h1, h2, rfl⟩
theorem y_follow_bit (s m i : Nat) (hm : W64 m) : (follow s (bitsList m)).testBit i = (m.testBit i && decide (suit i = s)) := by
  unfold follow
  rw [y_fold_bits (fun c => decide (suit c = s)) (folStep s) (fun f c => by simp [folStep]) i, y_any_bits (fun c => decide (suit c = s)) _ _ hm]
  simp
theorem y_rest_bit (hand : Nat) (zs : List Nat) (h : (maskR 0 zs).2 = 0) (i : Nat) : (restV hand zs).testBit i = (hand.testBit i && !zs.contains i) := by
  unfold restV
  rw [testBit_landn, y_maskR_bit zs 0 h]
  simp
theorem y_right_mask {zs : List Nat} (h : rightB zs = true) : (maskR 0 zs).2 = 0 := by
  simp only [rightB, Bool.and_eq_true, beq_iff_eq] at h; exact h.2
theorem y_suit_div {c : Nat} (h : c < 52) : suit c = c / 13 := by unfold suit; rw [if_pos h]
/-- the trick under way is right -/
theorem trick_mem {s : PSt} {c : Nat} : c ∈ s.trick ↔ ∃ i, i < s.ct ∧ s.cs i = c := by
  simp [PSt.trick]
theorem trick_len (s : PSt) : s.trick.length = s.ct := by simp [PSt.trick]
theorem trick_get (s : PSt) {i : Nat} (h : i < s.ct) : s.trick.getD i 0 = s.cs i := by
  rw [List.getD_eq_getElem?_getD, PSt.trick, List.getElem?_map, List.getElem?_range h]; rfl
/-- a hand has a card of suit s -/
def hasS (s hand : Nat) : Bool := follow s (bitsList hand) != 0
theorem hasS_iff {s hand : Nat} (hw : W64 hand) : hasS s hand = true ↔ ∃ x, hand.testBit x = true ∧ suit x = s := by
  unfold hasS
  rw [bne_iff_ne]
  have hfb := fun i => y_follow_bit s hand i hw
  constructor
  · intro h
    apply Classical.byContradiction
    intro hn
    apply h
    apply Nat.eq_of_testBit_eq
    intro i
    rw [hfb, Nat.zero_testBit]
    cases hb : hand.testBit i
    · rfl
    · rw [Bool.true_and, decide_eq_false_iff_not]; exact fun e => hn ⟨i, hb, e⟩
  · rintro ⟨x, hx, he⟩ h0
    have := hfb x
    rw [h0, hx, he] at this; simp at this
/-- the cards that can be played: of a hand of which no card lies in the trick -/
theorem playable_bit {hand : Nat} {zs : List Nat} (hh : hand < 4503599627370496) (h3 : zs.length ≤ 3) (h52 : ∀ c ∈ zs, c < 52) (hnd : zs.Nodup) (hz : ∀ c ∈ zs, hand.testBit c = false) (c : Nat) :
    (playableV hand zs).1.testBit c = (hand.testBit c && (decide (zs.length = 0) || decide (suit c = suit (zs.getD 0 0)) || !hasS (suit (zs.getD 0 0)) hand)) := by
  have hw : W64 hand := Nat.lt_of_lt_of_le hh (by decide)
  unfold playableV
  rw [if_neg (by omega)]
  by_cases h0 : zs.length = 0
  · rw [if_pos h0, decide_eq_true h0, Bool.true_or, Bool.true_or, Bool.and_true]
  rw [if_neg h0]
  have hr : rightB zs = true := (y_rightB_iff zs).2 ⟨by omega, by omega, h52, hnd⟩
  rw [if_pos hr, if_neg (by omega)]
  have hrest : restV hand zs = hand := by
    apply Nat.eq_of_testBit_eq
    intro i
    rw [y_rest_bit hand zs (y_right_mask hr)]
    cases hb : hand.testBit i
    · rfl
    · have : i ∉ zs := fun hi => by rw [hz i hi] at hb; cases hb
      simp [this]
  show (playLate (suit (zs.getD 0 0)) (restV hand zs)).testBit c = _
  rw [hrest, decide_eq_false h0, Bool.false_or]
  unfold playLate hasS
  by_cases hf : follow (suit (zs.getD 0 0)) (bitsList hand) = 0
  · rw [if_neg (fun h => h hf), hf]
    simp
  · rw [if_pos hf, y_follow_bit _ _ _ hw, (bne_iff_ne (a := follow (suit (zs.getD 0 0)) (bitsList hand)) (b := 0)).2 hf]
    simp
theorem playable_ne {hand : Nat} {zs : List Nat} (hh : hand < 4503599627370496) (h3 : zs.length ≤ 3) (h52 : ∀ c ∈ zs, c < 52) (hnd : zs.Nodup) (hz : ∀ c ∈ zs, hand.testBit c = false) (h0 : hand ≠ 0) : (playableV hand zs).1 ≠ 0 := by
  intro e
  have hw : W64 hand := Nat.lt_of_lt_of_le hh (by decide)
  have hb := playable_bit hh h3 h52 hnd hz
  rw [e] at hb
  simp only [Nat.zero_testBit] at hb
  cases hs : hasS (suit (zs.getD 0 0)) hand
  · have := hb (Lib.ctz 64 hand)
    rw [(ctz_bit hand h0 hw).1, hs] at this
    simp at this
  · obtain ⟨x, hx, he⟩ := (hasS_iff hw).1 hs
    have := hb x
    rw [hx, he] at this; simp at this
/-- a play of a deal, with t tricks over, n cards a hand -/
structure PInv (d : Nat → Nat) (n : Nat) (p : Ply) (t : Nat) : Prop where
  ok : p.ok
  bit : ∀ j c, (p.st.h j).testBit c = true → (d j).testBit c = true
  hpop : ∀ j, j < 4 → pop (p.st.h j) + t + (if (j + 4 - p.st.ld) % 4 < p.st.ct then 1 else 0) = n
  many : p.steps.length = 4 * t + p.st.ct
  gone : ∀ x ∈ p.steps, ∀ j, (p.st.h j).testBit x.c = false
  tr : ∀ i, i < p.st.ct → ∃ x ∈ p.steps, x.c = p.st.cs i
  nd : p.st.trick.Nodup
  cover : ∀ j c, (d j).testBit c = true → (p.st.h j).testBit c = true ∨ ∃ x ∈ p.steps, x.c = c
  part : ∀ x ∈ p.steps, ∃ j, j < 4 ∧ (d j).testBit x.c = true
  far : ∀ j, 4 ≤ j → p.st.h j = 0
structure Deal4 (d : Nat → Nat) (n : Nat) : Prop where
  lt : ∀ j, d j < 4503599627370496
  apart : ∀ j j' c, j ≠ j' → (d j).testBit c = true → (d j').testBit c = false
  pop : ∀ j, j < 4 → pop (d j) = n
  pos : 1 ≤ n
  le : n ≤ 13
  far : ∀ j, 4 ≤ j → d j = 0
theorem PInv.lt {d : Nat → Nat} {n t : Nat} {p : Ply} (h : PInv d n p t) (hd : Deal4 d n) (j : Nat) : p.st.h j < 4503599627370496 :=
  lt_of_bits fun _ hc => y_bit_lt (n := 52) (hd.lt j) (h.bit j _ hc)
theorem PInv.trick52 {d : Nat → Nat} {n t : Nat} {p : Ply} (h : PInv d n p t) : ∀ c ∈ p.st.trick, c < 52 := fun c hc => by
  obtain ⟨i, _, rfl⟩ := trick_mem.1 hc; exact h.ok.st.cs i
theorem PInv.trickNo {d : Nat → Nat} {n t : Nat} {p : Ply} (h : PInv d n p t) (j : Nat) : ∀ c ∈ p.st.trick, (p.st.h j).testBit c = false := fun c hc => by
  obtain ⟨i, hi, rfl⟩ := trick_mem.1 hc
  obtain ⟨x, hx, e⟩ := h.tr i hi
  rw [← e]; exact h.gone x hx j
theorem PInv.trick3 {d : Nat → Nat} {n t : Nat} {p : Ply} (h : PInv d n p t) : p.st.trick.length ≤ 3 := by rw [trick_len]; have := h.ok.st.ct; omega
/-- the legal cards -/
theorem PInv.legal_bit {d : Nat → Nat} {n t : Nat} {p : Ply} (h : PInv d n p t) (hd : Deal4 d n) (ho : p.st.over = false) (c : Nat) :
    p.st.legal.testBit c = ((p.st.h p.st.next).testBit c && (decide (p.st.ct = 0) || decide (suit c = suit (p.st.trick.getD 0 0)) || !hasS (suit (p.st.trick.getD 0 0)) (p.st.h p.st.next))) := by
  unfold PSt.legal
  rw [ho]
  have := playable_bit (h.lt hd p.st.next) h.trick3 h.trick52 h.nd (h.trickNo p.st.next) c
  rw [trick_len] at this
  exact this
theorem PInv.legal_sub {d : Nat → Nat} {n t : Nat} {p : Ply} (h : PInv d n p t) (hd : Deal4 d n) {c : Nat} (hc : p.st.legal.testBit c = true) : (p.st.h p.st.next).testBit c = true := by
  cases ho : p.st.over
  · rw [h.legal_bit hd ho, Bool.and_eq_true] at hc; exact hc.1
  · unfold PSt.legal at hc; rw [ho] at hc; simp at hc
theorem PInv.legal_52 {d : Nat → Nat} {n t : Nat} {p : Ply} (h : PInv d n p t) (hd : Deal4 d n) {c : Nat} (hc : p.st.legal.testBit c = true) : c < 52 :=
  y_bit_lt (n := 52) (h.lt hd _) (h.legal_sub hd hc)
theorem next_lt (s : PSt) : s.next < 4 := Nat.mod_lt _ (by decide)
theorem PInv.next_pop {d : Nat → Nat} {n t : Nat} {p : Ply} (h : PInv d n p t) : pop (p.st.h p.st.next) + t = n := by
  have := h.hpop p.st.next (next_lt _)
  have h1 := h.ok.st.ld
  have h2 := h.ok.st.ct
  have h3 : (p.st.next + 4 - p.st.ld) % 4 = p.st.ct := by unfold PSt.next; omega
  rw [h3, if_neg (by omega)] at this
  exact this
theorem over_iff {s : PSt} : s.over = true ↔ ∀ j, j < 4 → s.h j = 0 := by
  unfold PSt.over
  simp only [Bool.and_eq_true, beq_iff_eq]
  constructor
  · rintro ⟨⟨⟨h0, h1⟩, h2⟩, h3⟩ j hj
    rcases (show j = 0 ∨ j = 1 ∨ j = 2 ∨ j = 3 by omega) with rfl | rfl | rfl | rfl <;> assumption
  · intro h; exact ⟨⟨⟨h 0 (by omega), h 1 (by omega)⟩, h 2 (by omega)⟩, h 3 (by omega)⟩
theorem pop_zero {m : Nat} (hm : W64 m) (h : pop m = 0) : m = 0 := by
  apply Classical.byContradiction
  intro h0
  have h1 := ctz_bit m h0 hm
  obtain ⟨_, _, h3⟩ := ctz_spec m h0 hm
  have h2 := pop_landn m (Lib.ctz 64 m) h3 h1.1
  omega
theorem PInv.over_iff {d : Nat → Nat} {n t : Nat} {p : Ply} (h : PInv d n p t) : p.st.over = true ↔ t = n := by
  rw [Go.Proofs.YtginbellakkliaaDoor.over_iff]
  have hn := h.next_pop
  constructor
  · intro ho; rw [ho _ (next_lt _), pop_nil] at hn; omega
  · intro ht j hj
    have := h.hpop j hj
    exact pop_zero (h.ok.st.h j) (by omega)
theorem PInv.t_le {d : Nat → Nat} {n t : Nat} {p : Ply} (h : PInv d n p t) : t ≤ n := by have := h.next_pop; omega
/-- behind the last card no trick is under way -/
theorem PInv.ct_over {d : Nat → Nat} {n t : Nat} {p : Ply} (h : PInv d n p t) (ht : t = n) : p.st.ct = 0 := by
  have h1 := h.hpop p.st.ld h.ok.st.ld
  have h3 : (p.st.ld + 4 - p.st.ld) % 4 = 0 := by omega
  rw [h3] at h1
  apply Classical.byContradiction
  intro h0
  rw [if_pos (by omega)] at h1; omega
theorem PInv.legal_ne {d : Nat → Nat} {n t : Nat} {p : Ply} (h : PInv d n p t) (hd : Deal4 d n) (ho : p.st.over = false) : p.st.legal ≠ 0 := by
  unfold PSt.legal
  rw [ho]
  refine playable_ne (h.lt hd p.st.next) h.trick3 h.trick52 h.nd (h.trickNo p.st.next) fun e => ?_
  have hn := h.next_pop
  rw [e, pop_nil] at hn
  have := h.over_iff.2 (by omega)
  rw [ho] at this; cases this
theorem legal_over {s : PSt} (h : s.over = true) : s.legal = 0 := by unfold PSt.legal; rw [h]; rfl
theorem PInv.legal_zero {d : Nat → Nat} {n t : Nat} {p : Ply} (h : PInv d n p t) (hd : Deal4 d n) : p.st.legal = 0 ↔ p.st.over = true := by
  constructor
  · intro hl
    cases ho : p.st.over
    · exact absurd hl (h.legal_ne hd ho)
    · rfl
  · exact legal_over
theorem PInv.legal64 {d : Nat → Nat} {n t : Nat} {p : Ply} (h : PInv d n p t) (hd : Deal4 d n) : W64 p.st.legal := by
  refine Nat.lt_of_lt_of_le (lt_of_bits fun c hc => h.legal_52 hd hc) (by decide)
/-- a legal card played -/
theorem PInv.do {d : Nat → Nat} {n t : Nat} {p : Ply} (h : PInv d n p t) (hd : Deal4 d n) {c : Nat} (hc : p.st.legal.testBit c = true) :
    p.doV c = (0, ({ p with back := [] } : Ply).put c) ∧ PInv d n (({ p with back := [] } : Ply).put c) (if p.st.ct = 3 then t + 1 else t) := by
  have ho : p.st.over = false := by
    cases hh : p.st.over
    · rfl
    · rw [legal_over hh] at hc; simp at hc
  have hh := h.legal_sub hd hc
  have h52 := h.legal_52 hd hc
  refine ⟨by unfold Ply.doV; rw [ho, if_neg (by decide), if_pos ⟨h52, hc⟩], ?_⟩
  have hn4 := next_lt p.st
  have hn := h.next_pop
  have hld := h.ok.st.ld
  have hct := h.ok.st.ct
  have htn : t < n := by
    rcases Nat.lt_or_ge t n with h1 | h1
    · exact h1
    · have := h.over_iff.2 (by have := h.t_le; omega); rw [ho] at this; cases this
  have hhs : ∀ dn j, (p.st.put dn c).h j = if j = p.st.next then landn (p.st.h p.st.next) (shl1 c) else p.st.h j := by
    intro dn j; unfold PSt.put; split <;> rfl
  have hsub : ∀ dn j i, ((p.st.put dn c).h j).testBit i = true → (p.st.h j).testBit i = true := by
    intro dn j i; rw [hhs]; split
    next e => subst e; rw [testBit_landn, Bool.and_eq_true]; exact fun hq => hq.1
    next e => exact id
  have hm : p.steps.length < 60000 - p.back.length ∨ True := .inr trivial
  have hsl : p.steps.length ≤ 52 := by have h1 := h.many; have := hd.le; omega
  have hlen : (({ p with back := [] } : Ply).put c).steps = p.steps ++ [⟨p.st, c⟩] := rfl
  refine ⟨?_, ?_, ?_, ?_, ?_, ?_, ?_, ?_, ?_, ?_⟩
  · have := doV_ok h.ok c (by omega)
    unfold Ply.doV at this
    rw [ho, if_neg (by decide), if_pos ⟨h52, hc⟩] at this
    exact this
  · intro j i hi
    exact h.bit j i (hsub _ j i hi)
  · intro j hj
    show pop ((p.st.put p.dn c).h j) + _ + (if (j + 4 - (p.st.put p.dn c).ld) % 4 < (p.st.put p.dn c).ct then 1 else 0) = n
    have hj0 := h.hpop j hj
    have hpj : pop ((p.st.put p.dn c).h j) + (if j = p.st.next then 1 else 0) = pop (p.st.h j) := by
      rw [hhs]; split
      next e => subst e; exact pop_landn _ c (by omega) hh
      next e => rfl
    have hnx : j = p.st.next ↔ (j + 4 - p.st.ld) % 4 = p.st.ct := by unfold PSt.next; omega
    by_cases h3 : p.st.ct = 3
    · have hq : (p.st.put p.dn c).ct = 0 := by unfold PSt.put; rw [if_pos h3]
      rw [hq, if_pos h3, if_neg (Nat.not_lt_zero _)]
      by_cases hjn : j = p.st.next
      · rw [if_pos hjn] at hpj
        have := hnx.1 hjn
        rw [if_neg (by omega)] at hj0
        omega
      · rw [if_neg hjn] at hpj
        have : (j + 4 - p.st.ld) % 4 ≠ p.st.ct := fun e => hjn (hnx.2 e)
        rw [if_pos (by omega)] at hj0
        omega
    · have hq : (p.st.put p.dn c).ct = p.st.ct + 1 := by unfold PSt.put; rw [if_neg h3]
      have hl : (p.st.put p.dn c).ld = p.st.ld := by unfold PSt.put; rw [if_neg h3]
      rw [hq, hl, if_neg h3]
      by_cases hjn : j = p.st.next
      · rw [if_pos hjn] at hpj
        have := hnx.1 hjn
        rw [if_neg (by omega)] at hj0
        rw [if_pos (by omega)]
        omega
      · rw [if_neg hjn] at hpj
        have : (j + 4 - p.st.ld) % 4 ≠ p.st.ct := fun e => hjn (hnx.2 e)
        by_cases hlt : (j + 4 - p.st.ld) % 4 < p.st.ct
        · rw [if_pos hlt] at hj0; rw [if_pos (by omega)]; omega
        · rw [if_neg hlt] at hj0; rw [if_neg (by omega)]; omega
  · rw [hlen, List.length_append, h.many]
    show _ + 1 = 4 * (if p.st.ct = 3 then t + 1 else t) + (p.st.put p.dn c).ct
    unfold PSt.put
    split
    next h3 => show 4 * t + p.st.ct + 1 = 4 * (t + 1) + 0; omega
    next h3 => show 4 * t + p.st.ct + 1 = 4 * t + (p.st.ct + 1); omega
  · intro x hx j
    rw [hlen] at hx
    show ((p.st.put p.dn c).h j).testBit x.c = false
    rcases List.mem_append.1 hx with hx | hx
    · cases hb : ((p.st.put p.dn c).h j).testBit x.c
      · rfl
      · have := hsub _ j _ hb; rw [h.gone x hx j] at this; cases this
    · rw [List.mem_singleton.1 hx]
      show ((p.st.put p.dn c).h j).testBit c = false
      rw [hhs]; split
      next e => rw [testBit_landn, testBit_shl1]; simp; intro _; omega
      next e =>
        cases hb : (p.st.h j).testBit c
        · rfl
        · have := hd.apart _ _ c (fun e' => e e'.symm) (h.bit _ _ hh); rw [h.bit _ _ hb] at this; cases this
  · intro i hi
    rw [hlen]
    have hi' : i < (p.st.put p.dn c).ct := hi
    show ∃ x ∈ p.steps ++ [⟨p.st, c⟩], x.c = (p.st.put p.dn c).cs i
    by_cases h3 : p.st.ct = 3
    · unfold PSt.put at hi'; rw [if_pos h3] at hi'; exact absurd hi' (Nat.not_lt_zero _)
    · unfold PSt.put at hi' ⊢
      rw [if_neg h3] at hi' ⊢
      have hi'' : i < p.st.ct + 1 := hi'
      show ∃ x ∈ p.steps ++ [⟨p.st, c⟩], x.c = setH p.st.cs p.st.ct c i
      unfold setH
      by_cases he : i = p.st.ct
      · rw [if_pos he]; exact ⟨_, List.mem_append_right _ (List.mem_singleton.2 rfl), rfl⟩
      · rw [if_neg he]
        obtain ⟨x, hx, hxe⟩ := h.tr i (by omega)
        exact ⟨x, List.mem_append_left _ hx, hxe⟩
  · show (p.st.put p.dn c).trick.Nodup
    by_cases h3 : p.st.ct = 3
    · unfold PSt.put; rw [if_pos h3]; exact List.nodup_nil
    · have : (p.st.put p.dn c).trick = p.st.trick ++ [c] := by
        unfold PSt.put; rw [if_neg h3]
        show (List.range (p.st.ct + 1)).map (setH p.st.cs p.st.ct c) = _
        rw [List.range_succ, List.map_append]
        congr 1
        · refine List.map_congr_left fun i hi => ?_
          have := List.mem_range.1 hi
          unfold setH; rw [if_neg (by omega)]
        · simp [setH]
      rw [this]
      refine List.nodup_append.2 ⟨h.nd, by simp, fun a ha b hb => ?_⟩
      rw [List.mem_singleton.1 hb]
      rintro rfl
      rw [h.trickNo p.st.next _ ha] at hh; cases hh
  · intro j i hi
    rw [hlen]
    show ((p.st.put p.dn c).h j).testBit i = true ∨ _
    rcases h.cover j i hi with h1 | ⟨x, hx, e⟩
    · by_cases hic : i = c
      · exact .inr ⟨_, List.mem_append_right _ (List.mem_singleton.2 rfl), hic.symm⟩
      · left; rw [hhs]; split
        next e => subst e; rw [testBit_landn, testBit_shl1, h1]; simp; left; exact fun e => hic e.symm
        next e => exact h1
    · exact .inr ⟨x, List.mem_append_left _ hx, e⟩
  · intro x hx
    rw [hlen] at hx
    rcases List.mem_append.1 hx with hx | hx
    · exact h.part x hx
    · rw [List.mem_singleton.1 hx]; exact ⟨_, hn4, h.bit _ _ hh⟩
  · intro j hj
    show (p.st.put p.dn c).h j = 0
    rw [hhs, if_neg (by omega)]; exact h.far j hj
theorem made_deal4 (x : Mn) : Deal4 x.d x.each :=
  ⟨made_lt x, (made_deal x).apart, made_pop x, x.each_le.1, x.each_le.2, (made_deal x).far⟩
theorem PInv.new (x : Mn) : PInv x.d x.each (newP x.d x.lv x.dn x.rk x.dc) 0 := by
  refine ⟨newP_ok (made_w64 x) (made_new x), fun j c h => h, fun j hj => ?_, rfl, (fun y hy => by cases hy), (fun i hi => by cases hi), List.nodup_nil, fun j c h => .inl h, (fun y hy => by cases hy), (made_deal4 x).far⟩
  unfold newP
  simp only [Nat.not_lt_zero, if_false, Nat.add_zero]
  exact made_pop x j hj
end Go.Proofs.YtginbellakkliaaDoor
