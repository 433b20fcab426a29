/- DmA, DmB, DmC in one text. -/
import Derived.Test.YtnbillhodbcfbaaDoorMLow

/- Plain: tables of double dummy play, their value, and what leaves it as it is. -/
namespace Go.Proofs.YtnbillhodbcfbaaDoor

/-- hands by seat, who leads, the cards of the trick under way -/
structure Tb where
  h : Nat → Nat
  ld : Nat
  cs : List Nat
def Tb.turn (t : Tb) : Nat := (t.ld + t.cs.length) % 4
/-- a hand has a card of a suit -/
def suitIn (m q : Nat) : Bool := (List.range 13).any fun i => m.testBit (13 * q + i)
theorem suitIn_iff {m q : Nat} : suitIn m q = true ↔ ∃ c, m.testBit c = true ∧ c / 13 = q := by
  unfold suitIn
  rw [List.any_eq_true]
  constructor
  · rintro ⟨i, hi, hb⟩
    exact ⟨_, hb, by have := List.mem_range.1 hi; omega⟩
  · rintro ⟨c, hb, hc⟩
    exact ⟨c % 13, List.mem_range.2 (by omega), by rwa [show 13 * q + c % 13 = c by omega]⟩
/-- a card can be played -/
def Tb.legal (t : Tb) (c : Nat) : Bool := (t.h t.turn).testBit c && match t.cs with | [] => true | d :: _ => decide (c / 13 = d / 13) || !suitIn (t.h t.turn) (d / 13)
theorem legal_iff {t : Tb} {c : Nat} : t.legal c = true ↔ (t.h t.turn).testBit c = true ∧ ∀ d, t.cs[0]? = some d → c / 13 = d / 13 ∨ ∀ x, (t.h t.turn).testBit x = true → x / 13 ≠ d / 13 := by
  unfold Tb.legal
  rw [Bool.and_eq_true]
  refine and_congr_right fun _ => ?_
  rcases hcs : t.cs with _ | ⟨d, ds⟩
  · simp
  · simp only [List.getElem?_cons_zero, Option.some.injEq, Bool.or_eq_true, decide_eq_true_eq, Bool.not_eq_true', forall_eq']
    refine or_congr_right ?_
    rw [← Bool.not_eq_true, suitIn_iff]
    exact ⟨fun h x hx hq => h ⟨x, hx, hq⟩, fun h ⟨x, hx, hq⟩ => h x hx hq⟩
/-- a later card beats the best one up to then -/
def beatsB (tr c b : Nat) : Bool := if c / 13 = b / 13 then decide (b < c) else decide (c / 13 = tr)
/-- the winner among the first cards of a trick -/
def bestTo (tr : Nat) (l : Nat → Nat) : Nat → Nat
  | 0 => 0
  | i + 1 => if beatsB tr (l (i + 1)) (l (bestTo tr l i)) then i + 1 else bestTo tr l i
theorem bestTo_le (tr : Nat) (l : Nat → Nat) : ∀ i, bestTo tr l i ≤ i
  | 0 => Nat.le_refl _
  | i + 1 => by
    unfold bestTo
    split
    · exact Nat.le_refl _
    · exact Nat.le_succ_of_le (bestTo_le tr l i)
theorem bestTo_congr {tr tr' : Nat} {l l' : Nat → Nat} {n : Nat} (h : ∀ i j, i ≤ n → j ≤ n → i ≠ j → beatsB tr (l i) (l j) = beatsB tr' (l' i) (l' j)) : ∀ i, i ≤ n → bestTo tr l i = bestTo tr' l' i
  | 0, _ => rfl
  | i + 1, hi => by
    have ih := bestTo_congr h i (by omega)
    unfold bestTo
    rw [ih, h (i + 1) _ hi (by have := bestTo_le tr' l' i; omega) (by have := bestTo_le tr' l' i; omega)]
/-- a card goes from its hand into the trick -/
def Tb.push (t : Tb) (c : Nat) : Tb := ⟨fun s => if s = t.turn then landn (t.h s) (shl1 c) else t.h s, t.ld, t.cs ++ [c]⟩
/-- a trick of four is taken up; 1 if North or South wins it -/
def Tb.win (tr : Nat) (t : Tb) : Nat := (t.ld + bestTo tr (fun i => t.cs.getD i 0) 3) % 4
def Tb.settle (tr : Nat) (t : Tb) : Tb × Nat := if t.cs.length < 4 then (t, 0) else (⟨t.h, t.win tr, []⟩, 1 - t.win tr % 2)
def Tb.put (tr : Nat) (t : Tb) (c : Nat) : Tb × Nat := (t.push c).settle tr
/-- the better one of some numbers for a side -/
def bestL (ns : Bool) : List Nat → Nat
  | [] => 0
  | [x] => x
  | x :: y :: r => if ns then max x (bestL ns (y :: r)) else min x (bestL ns (y :: r))
def better (ns : Bool) (a b : Nat) : Prop := if ns then a ≤ b else b ≤ a
theorem bestL_spec (ns : Bool) : ∀ {l : List Nat}, l ≠ [] → bestL ns l ∈ l ∧ ∀ x ∈ l, better ns x (bestL ns l)
  | [], h => absurd rfl h
  | [x], _ => ⟨List.mem_singleton.2 rfl, fun y hy => by rcases List.mem_singleton.1 hy with rfl; unfold better bestL; split <;> exact Nat.le_refl _⟩
  | x :: y :: r, _ => by
    obtain ⟨h1, h2⟩ := bestL_spec ns (l := y :: r) (by simp)
    have e : bestL ns (x :: y :: r) = if ns then max x (bestL ns (y :: r)) else min x (bestL ns (y :: r)) := rfl
    rw [e]
    generalize bestL ns (y :: r) = b at *
    unfold better at *
    cases ns
    · simp only [Bool.false_eq_true, if_false] at *
      refine ⟨?_, fun z hz => ?_⟩
      · rcases Nat.le_total x b with h | h
        · rw [Nat.min_eq_left h]; exact List.mem_cons_self ..
        · rw [Nat.min_eq_right h]; exact List.mem_cons_of_mem _ h1
      · rcases List.mem_cons.1 hz with rfl | hz
        · exact Nat.min_le_left _ _
        · exact Nat.le_trans (Nat.min_le_right _ _) (h2 z hz)
    · simp only [if_true] at *
      refine ⟨?_, fun z hz => ?_⟩
      · rcases Nat.le_total x b with h | h
        · rw [Nat.max_eq_right h]; exact List.mem_cons_of_mem _ h1
        · rw [Nat.max_eq_left h]; exact List.mem_cons_self ..
      · rcases List.mem_cons.1 hz with rfl | hz
        · exact Nat.le_max_left _ _
        · exact Nat.le_trans (h2 z hz) (Nat.le_max_right _ _)
theorem bestL_eq {ns : Bool} {l : List Nat} {v : Nat} (hv : v ∈ l) (h : ∀ x ∈ l, better ns x v) : bestL ns l = v := by
  obtain ⟨h1, h2⟩ := bestL_spec ns (l := l) (by intro e; rw [e] at hv; cases hv)
  have a := h _ h1
  have b := h2 _ hv
  unfold better at a b
  cases ns
  · simp only [Bool.false_eq_true, if_false] at a b; omega
  · simp only [if_true] at a b; omega
/-- the best of lists with the same members -/
theorem bestL_same {ns : Bool} {l m : List Nat} (h1 : ∀ x ∈ l, x ∈ m) (h2 : ∀ x ∈ m, x ∈ l) : bestL ns l = bestL ns m := by
  rcases List.eq_nil_or_concat l with rfl | ⟨l', a, rfl⟩
  · rcases m with _ | ⟨x, m⟩
    · rfl
    · cases h2 x (List.mem_cons_self ..)
  · obtain ⟨q1, q2⟩ := bestL_spec ns (l := l'.concat a) (by simp)
    exact (bestL_eq (h1 _ q1) fun x hx => q2 x (h2 x hx)).symm
def Tb.ns (t : Tb) : Bool := t.turn % 2 == 0
def Tb.cards (t : Tb) : List Nat := (List.range 52).filter t.legal
/-- the tricks that North and South win by best play of n more cards -/
def val (tr : Nat) : Nat → Tb → Nat
  | 0, _ => 0
  | n + 1, t => bestL t.ns (t.cards.map fun c => (t.put tr c).2 + val tr n (t.put tr c).1)
/-- whose a card is -/
def Own (t : Tb) (s c : Nat) : Prop := s < 4 ∧ ((t.h s).testBit c = true ∨ ∃ i, t.cs[i]? = some c ∧ (t.ld + i) % 4 = s)
/-- two tables that differ in how their cards are called -/
structure Iso (σ : Nat → Nat) (tr tr' : Nat) (t t' : Tb) : Prop where
  ld : t'.ld = t.ld
  cs : t'.cs = t.cs.map σ
  hand : ∀ s, s < 4 → ∀ c', (t'.h s).testBit c' = true ↔ ∃ c, (t.h s).testBit c = true ∧ σ c = c'
  inj : ∀ s s' c c', Own t s c → Own t s' c' → σ c = σ c' → c = c'
  suit : ∀ s s' c c', Own t s c → Own t s' c' → (σ c / 13 = σ c' / 13 ↔ c / 13 = c' / 13)
  trump : ∀ s c, Own t s c → (σ c / 13 = tr' ↔ c / 13 = tr)
  ord : ∀ s s' c c', s ≠ s' → Own t s c → Own t s' c' → c / 13 = c' / 13 → (σ c < σ c' ↔ c < c')
variable {σ : Nat → Nat} {tr tr' : Nat} {t t' : Tb}
theorem Tb.turn_lt (t : Tb) : t.turn < 4 := Nat.mod_lt _ (by decide)
theorem own_hand {s c : Nat} (hs : s < 4) (h : (t.h s).testBit c = true) : Own t s c := ⟨hs, .inl h⟩
theorem own_trick {i c : Nat} (h : t.cs[i]? = some c) : Own t ((t.ld + i) % 4) c := ⟨Nat.mod_lt _ (by decide), .inr ⟨i, h, rfl⟩⟩
theorem Iso.turn (h : Iso σ tr tr' t t') : t'.turn = t.turn := by unfold Tb.turn; rw [h.ld, h.cs, List.length_map]
theorem Iso.legal (h : Iso σ tr tr' t t') {c : Nat} (hc : t.legal c = true) : t'.legal (σ c) = true := by
  rw [legal_iff] at hc ⊢
  rw [h.turn]
  refine ⟨(h.hand _ t.turn_lt _).2 ⟨c, hc.1, rfl⟩, fun d hd => ?_⟩
  rw [h.cs, List.getElem?_map] at hd
  obtain ⟨d0, hd0, rfl⟩ := Option.map_eq_some_iff.1 hd
  rcases hc.2 d0 hd0 with e | e
  · exact .inl ((h.suit _ _ _ _ (own_hand t.turn_lt hc.1) (own_trick hd0)).2 e)
  · refine .inr fun x hx => ?_
    obtain ⟨x0, hx0, rfl⟩ := (h.hand _ t.turn_lt _).1 hx
    exact fun e2 => e x0 hx0 ((h.suit _ _ _ _ (own_hand t.turn_lt hx0) (own_trick hd0)).1 e2)
theorem Iso.legal' (h : Iso σ tr tr' t t') {c' : Nat} (hc : t'.legal c' = true) : ∃ c, t.legal c = true ∧ σ c = c' := by
  rw [legal_iff, h.turn] at hc
  obtain ⟨c, hb, rfl⟩ := (h.hand _ t.turn_lt _).1 hc.1
  refine ⟨c, legal_iff.2 ⟨hb, fun d hd => ?_⟩, rfl⟩
  rcases hc.2 (σ d) (by rw [h.cs, List.getElem?_map, hd]; rfl) with e | e
  · exact .inl ((h.suit _ _ _ _ (own_hand t.turn_lt hb) (own_trick hd)).1 e)
  · exact .inr fun x hx e2 => e (σ x) ((h.hand _ t.turn_lt _).2 ⟨x, hx, rfl⟩) ((h.suit _ _ _ _ (own_hand t.turn_lt hx) (own_trick hd)).2 e2)
theorem push_h {s c x : Nat} (hc : c < 64) : ((t.push c).h s).testBit x = ((t.h s).testBit x && !(decide (s = t.turn) && decide (x = c))) := by
  unfold Tb.push
  by_cases hs : s = t.turn
  · simp only [if_pos hs]
    rw [testBit_landn, testBit_shl1, decide_eq_true hs, decide_eq_true hc]
    simp [eq_comm]
  · simp only [if_neg hs]
    rw [decide_eq_false hs]; simp
/-- whose a card is, once one is played from the hand whose turn it is -/
theorem own_push {s x c : Nat} (hc : c < 64) (_ : t.cs.length < 4) (hb : (t.h t.turn).testBit c = true) (h : Own (t.push c) s x) : Own t s x := by
  obtain ⟨hs, h | ⟨i, hi, hsi⟩⟩ := h
  · rw [push_h hc] at h
    exact ⟨hs, .inl (Bool.and_eq_true_iff.1 h).1⟩
  · have hi' : (t.cs ++ [c])[i]? = some x := hi
    by_cases e : i < t.cs.length
    · rw [List.getElem?_append_left e] at hi'
      exact ⟨hs, .inr ⟨i, hi', hsi⟩⟩
    · have hil : i = t.cs.length := by
        have := (List.getElem?_eq_some_iff.1 hi').1
        simp at this; omega
      subst hil
      rw [List.getElem?_append_right (Nat.le_refl _), Nat.sub_self] at hi'
      obtain rfl : c = x := by simpa using hi'
      refine ⟨hs, .inl ?_⟩
      have e2 : t.turn = s := hsi
      rw [← e2]; exact hb
theorem Iso.push (h : Iso σ tr tr' t t') {c : Nat} (hc : c < 64) (hc' : σ c < 64) (hlen : t.cs.length < 4) (hb : (t.h t.turn).testBit c = true) : Iso σ tr tr' (t.push c) (t'.push (σ c)) := by
  have ho : Own t t.turn c := own_hand t.turn_lt hb
  have hw : ∀ {s x}, Own (t.push c) s x → Own t s x := fun h => own_push hc hlen hb h
  refine ⟨h.ld, by show t'.cs ++ [σ c] = (t.cs ++ [c]).map σ; rw [h.cs, List.map_append]; rfl, fun s hs c' => ?_, fun s s' x y hx hy => h.inj s s' x y (hw hx) (hw hy), fun s s' x y hx hy => h.suit s s' x y (hw hx) (hw hy), fun s x hx => h.trump s x (hw hx), fun s s' x y hne hx hy => h.ord s s' x y hne (hw hx) (hw hy)⟩
  rw [push_h hc', h.turn]
  constructor
  · intro hh
    obtain ⟨h1, h2⟩ := Bool.and_eq_true_iff.1 hh
    obtain ⟨x, hx, rfl⟩ := (h.hand s hs c').1 h1
    refine ⟨x, ?_, rfl⟩
    rw [push_h hc, hx, Bool.true_and]
    by_cases e : s = t.turn
    · rw [decide_eq_true e, Bool.true_and] at h2 ⊢
      have : σ x ≠ σ c := by simpa using h2
      rw [decide_eq_false (fun e2 => this (by rw [e2]))]; rfl
    · rw [decide_eq_false e]; rfl
  · rintro ⟨x, hx, rfl⟩
    rw [push_h hc] at hx
    obtain ⟨h1, h2⟩ := Bool.and_eq_true_iff.1 hx
    rw [(h.hand s hs _).2 ⟨x, h1, rfl⟩, Bool.true_and]
    by_cases e : s = t.turn
    · rw [decide_eq_true e, Bool.true_and] at h2 ⊢
      have hxc : x ≠ c := by simpa using h2
      rw [decide_eq_false (fun e2 => hxc (h.inj s t.turn x c (own_hand hs h1) ho e2))]; rfl
    · rw [decide_eq_false e]; rfl
theorem Iso.beats (h : Iso σ tr tr' t t') {s s' c b : Nat} (hne : s ≠ s') (hc : Own t s c) (hb : Own t s' b) : beatsB tr' (σ c) (σ b) = beatsB tr c b := by
  unfold beatsB
  by_cases e : c / 13 = b / 13
  · rw [if_pos e, if_pos ((h.suit s s' c b hc hb).2 e)]
    rw [decide_eq_decide]
    exact h.ord s' s b c (fun e => hne e.symm) hb hc e.symm
  · rw [if_neg e, if_neg (fun e2 => e ((h.suit s s' c b hc hb).1 e2)), decide_eq_decide]
    exact h.trump s c hc
theorem Iso.win (h : Iso σ tr tr' t t') (hlen : t.cs.length = 4) : t'.win tr' = t.win tr := by
  unfold Tb.win
  rw [h.ld]
  congr 2
  refine (bestTo_congr (n := 3) (fun i j hi hj hij => ?_) 3 (Nat.le_refl _))
  obtain ⟨c, hc⟩ : ∃ c, t.cs[i]? = some c := ⟨_, List.getElem?_eq_getElem (by omega)⟩
  obtain ⟨b, hb⟩ : ∃ c, t.cs[j]? = some c := ⟨_, List.getElem?_eq_getElem (by omega)⟩
  have e1 : ∀ {i c : Nat}, t.cs[i]? = some c → t'.cs.getD i 0 = σ c ∧ t.cs.getD i 0 = c := fun {i c} hc => by
    rw [h.cs, List.getD_eq_getElem?_getD, List.getD_eq_getElem?_getD, List.getElem?_map, hc]
    exact ⟨rfl, rfl⟩
  rw [(e1 hc).1, (e1 hc).2, (e1 hb).1, (e1 hb).2]
  exact h.beats (s := (t.ld + i) % 4) (s' := (t.ld + j) % 4) (by omega) (own_trick hc) (own_trick hb)
theorem Iso.settle (h : Iso σ tr tr' t t') (hlen : t.cs.length ≤ 4) : (t'.settle tr').2 = (t.settle tr).2 ∧ Iso σ tr tr' (t.settle tr).1 (t'.settle tr').1 := by
  unfold Tb.settle
  have hl : t'.cs.length = t.cs.length := by rw [h.cs, List.length_map]
  by_cases e : t.cs.length < 4
  · rw [if_pos e, if_pos (by omega)]; exact ⟨rfl, h⟩
  · rw [if_neg e, if_neg (by omega)]
    have hw := h.win (by omega)
    have ho : ∀ {s x}, Own ⟨t.h, t.win tr, []⟩ s x → Own t s x := by
      rintro s x ⟨hs, h | ⟨i, hi, _⟩⟩
      · exact ⟨hs, .inl h⟩
      · cases hi
    exact ⟨by rw [hw], hw, rfl, h.hand, fun s s' x y hx hy => h.inj s s' x y (ho hx) (ho hy), fun s s' x y hx hy => h.suit s s' x y (ho hx) (ho hy), fun s x hx => h.trump s x (ho hx), fun s s' x y hne hx hy => h.ord s s' x y hne (ho hx) (ho hy)⟩
/-- all cards are of the pack -/
def Pk (t : Tb) : Prop := (∀ s, s < 4 → ∀ c, (t.h s).testBit c = true → c < 52) ∧ t.cs.length < 4
theorem pk_put (hp : Pk t) {c : Nat} (hc : c < 52) : Pk (t.put tr c).1 := by
  have h1 : ∀ s, s < 4 → ∀ x, ((t.push c).h s).testBit x = true → x < 52 := fun s hs x hx => by
    rw [push_h (by omega)] at hx
    exact hp.1 s hs x (Bool.and_eq_true_iff.1 hx).1
  unfold Tb.put Tb.settle
  split
  · exact ⟨h1, by assumption⟩
  · exact ⟨h1, by show 0 < 4; omega⟩
theorem mem_cards {c : Nat} : c ∈ t.cards ↔ c < 52 ∧ t.legal c = true := by unfold Tb.cards; rw [List.mem_filter, List.mem_range]
theorem cards_pk (hp : Pk t) {c : Nat} (h : t.legal c = true) : c ∈ t.cards := mem_cards.2 ⟨hp.1 _ t.turn_lt _ (legal_iff.1 h).1, h⟩
/-- the names of the cards do not matter -/
theorem iso_val : ∀ (n : Nat) {t t' : Tb}, Iso σ tr tr' t t' → Pk t → Pk t' → val tr' n t' = val tr n t
  | 0, _, _, _, _, _ => rfl
  | n + 1, t, t', h, hp, hp' => by
    have step : ∀ c, t.legal c = true → (t'.put tr' (σ c)).2 + val tr' n (t'.put tr' (σ c)).1 = (t.put tr c).2 + val tr n (t.put tr c).1 := fun c hc => by
      have hc52 := (mem_cards.1 (cards_pk hp hc)).1
      have hc52' := (mem_cards.1 (cards_pk hp' (h.legal hc))).1
      have hi := h.push (c := c) (by omega) (by omega) hp.2 (legal_iff.1 hc).1
      obtain ⟨q1, q2⟩ := hi.settle (by show (t.cs ++ [c]).length ≤ 4; have := hp.2; simp; omega)
      have ih := iso_val n q2 (pk_put hp hc52) (pk_put hp' hc52')
      unfold Tb.put
      rw [q1, ih]
    show bestL t'.ns _ = bestL t.ns _
    have hns : t'.ns = t.ns := by unfold Tb.ns; rw [h.turn]
    rw [hns]
    refine bestL_same (fun x hx => ?_) (fun x hx => ?_)
    · obtain ⟨c', hc', rfl⟩ := List.mem_map.1 hx
      obtain ⟨c, hc, rfl⟩ := h.legal' (mem_cards.1 hc').2
      exact List.mem_map.2 ⟨c, cards_pk hp hc, (step c hc).symm⟩
    · obtain ⟨c, hc, rfl⟩ := List.mem_map.1 hx
      have hl := (mem_cards.1 hc).2
      exact List.mem_map.2 ⟨σ c, cards_pk hp' (h.legal hl), step c hl⟩
end Go.Proofs.YtnbillhodbcfbaaDoor

/- Plain: cards of one hand with nothing of the others between are worth the same; cards moved down in their suits; windows of alpha-beta search. -/
namespace Go.Proofs.YtnbillhodbcfbaaDoor

/-- no card is two seats' -/
def Uniq (t : Tb) : Prop := ∀ s s' c, Own t s c → Own t s' c → s = s'
def swp (a b x : Nat) : Nat := if x = a then b else if x = b then a else x
theorem swp_swp (a b x : Nat) : swp a b (swp a b x) = x := by
  unfold swp
  by_cases h1 : x = a
  · subst h1
    rw [if_pos rfl]
    by_cases h2 : b = x
    · rw [if_pos h2, h2]
    · rw [if_neg h2, if_pos rfl]
  · rw [if_neg h1]
    by_cases h2 : x = b
    · subst h2
      rw [if_pos rfl, if_pos rfl]
    · rw [if_neg h2, if_neg h1, if_neg h2]
theorem swp_other {a b x : Nat} (h1 : x ≠ a) (h2 : x ≠ b) : swp a b x = x := by unfold swp; rw [if_neg h1, if_neg h2]
theorem swp_a (a b : Nat) : swp a b a = b := if_pos rfl
theorem swp_b (a b : Nat) : swp a b b = a := by
  unfold swp
  split
  · assumption
  · rw [if_pos rfl]
theorem swp_suit {a b : Nat} (h : a / 13 = b / 13) (x : Nat) : swp a b x / 13 = x / 13 := by
  unfold swp
  split
  · rename_i e; rw [e, h]
  · split
    · rename_i e; rw [e, h]
    · rfl
theorem trick_other {t : Tb} (hlen : t.cs.length < 4) {i x : Nat} (h : t.cs[i]? = some x) : (t.ld + i) % 4 ≠ t.turn := by
  have := (List.getElem?_eq_some_iff.1 h).1
  unfold Tb.turn
  omega
theorem iso_swp {t : Tb} {a b tr : Nat} (hu : Uniq t) (hlen : t.cs.length < 4) (ha52 : a < 52) (hb52 : b < 52) (hab : a < b) (hq : a / 13 = b / 13) (ha : (t.h t.turn).testBit a = true) (hb : (t.h t.turn).testBit b = true)
    (hno : ∀ s x, s ≠ t.turn → Own t s x → ¬ (a < x ∧ x < b)) : Iso (swp a b) tr tr (t.push a) (t.push b) := by
  have oa : Own t t.turn a := own_hand t.turn_lt ha
  have ob : Own t t.turn b := own_hand t.turn_lt hb
  have wk : ∀ {s x}, Own (t.push a) s x → Own t s x := fun h => own_push (by omega) hlen ha h
  have oth : ∀ {s x}, s ≠ t.turn → Own t s x → x ≠ a ∧ x ≠ b := fun {s x} hs h => ⟨fun e => hs (hu s _ a (e ▸ h) oa), fun e => hs (hu s _ b (e ▸ h) ob)⟩
  have csn : ∀ x ∈ t.cs, swp a b x = x := fun x hx => by
    obtain ⟨i, hi⟩ := List.getElem?_of_mem hx
    have := oth (trick_other hlen hi) (own_trick hi)
    exact swp_other this.1 this.2
  refine ⟨rfl, ?_, fun s hs c' => ?_, fun s s' x y _ _ e => ?_, fun s s' x y _ _ => by rw [swp_suit hq, swp_suit hq], fun s x _ => by rw [swp_suit hq], fun s s' x y hne hx hy hxy => ?_⟩
  · show t.cs ++ [b] = (t.cs ++ [a]).map (swp a b)
    rw [List.map_append, List.map_congr_left (g := id) csn, List.map_id]
    show t.cs ++ [b] = t.cs ++ [swp a b a]
    rw [swp_a]
  · by_cases hst : s = t.turn
    · subst hst
      rw [push_h (by omega), decide_eq_true rfl, Bool.true_and]
      constructor
      · intro hh
        obtain ⟨h1, h2⟩ := Bool.and_eq_true_iff.1 hh
        have hcb : c' ≠ b := by simpa using h2
        refine ⟨swp a b c', ?_, swp_swp a b c'⟩
        rw [push_h (by omega), decide_eq_true rfl, Bool.true_and]
        by_cases e : c' = a
        · subst e
          rw [swp_a, hb, Bool.true_and, decide_eq_false (by omega)]; rfl
        · rw [swp_other e hcb, h1, decide_eq_false e]; rfl
      · rintro ⟨x, hx, rfl⟩
        rw [push_h (by omega), decide_eq_true rfl, Bool.true_and] at hx
        obtain ⟨h1, h2⟩ := Bool.and_eq_true_iff.1 hx
        have hxa : x ≠ a := by simpa using h2
        by_cases e : x = b
        · subst e
          rw [swp_b, ha, Bool.true_and, decide_eq_false (by omega)]; rfl
        · rw [swp_other hxa e, h1, decide_eq_false e]; rfl
    · rw [push_h (by omega), decide_eq_false hst, Bool.false_and, Bool.not_false, Bool.and_true]
      constructor
      · intro h1
        have := oth hst (own_hand hs h1)
        refine ⟨c', ?_, swp_other this.1 this.2⟩
        rw [push_h (by omega), h1, decide_eq_false hst]; rfl
      · rintro ⟨x, hx, rfl⟩
        rw [push_h (by omega), decide_eq_false hst, Bool.false_and, Bool.not_false, Bool.and_true] at hx
        have := oth hst (own_hand hs hx)
        rw [swp_other this.1 this.2]; exact hx
  · have := congrArg (swp a b) e
    rwa [swp_swp, swp_swp] at this
  · have hx := wk hx
    have hy := wk hy
    by_cases e : s = t.turn
    · subst e
      have hy2 := oth (fun e => hne e.symm) hy
      have hy3 := hno s' y (fun e => hne e.symm) hy
      rw [swp_other hy2.1 hy2.2]
      by_cases ex : x = a
      · subst ex; rw [swp_a]; omega
      · by_cases ex2 : x = b
        · subst ex2; rw [swp_b]; omega
        · rw [swp_other ex ex2]
    · have hx2 := oth e hx
      have hx3 := hno s x e hx
      rw [swp_other hx2.1 hx2.2]
      by_cases ey : y = a
      · subst ey; rw [swp_a]; omega
      · by_cases ey2 : y = b
        · subst ey2; rw [swp_b]; omega
        · rw [swp_other ey ey2]
/-- what a card played is worth -/
def worth (tr n : Nat) (t : Tb) (c : Nat) : Nat := (t.put tr c).2 + val tr n (t.put tr c).1
theorem worth_adj {t : Tb} {a b : Nat} (tr n : Nat) (hp : Pk t) (hu : Uniq t) (hab : a < b) (hq : a / 13 = b / 13) (ha : (t.h t.turn).testBit a = true) (hb : (t.h t.turn).testBit b = true)
    (hno : ∀ s x, s ≠ t.turn → Own t s x → ¬ (a < x ∧ x < b)) : worth tr n t b = worth tr n t a := by
  have ha52 := hp.1 _ t.turn_lt _ ha
  have hb52 := hp.1 _ t.turn_lt _ hb
  have hi := iso_swp (tr := tr) hu hp.2 ha52 hb52 hab hq ha hb hno
  obtain ⟨q1, q2⟩ := hi.settle (by show (t.cs ++ [a]).length ≤ 4; have := hp.2; simp; omega)
  have := iso_val n q2 (pk_put hp ha52) (pk_put hp hb52)
  unfold worth Tb.put
  rw [q1, this]
/-- the place of a card among those of its suit that are there -/
def rk (all c : Nat) : Nat := ((List.range (c % 13)).filter fun i => all.testBit (13 * (c / 13) + i)).length
def low (all c : Nat) : Nat := 13 * (c / 13) + rk all c
theorem rk_lt (all c : Nat) : rk all c < 13 := by
  have h1 : rk all c ≤ c % 13 := by
    unfold rk
    exact Nat.le_trans (List.length_filter_le _ _) (by rw [List.length_range]; exact Nat.le_refl _)
  omega
theorem low_suit (all c : Nat) : low all c / 13 = c / 13 := by
  have := rk_lt all c
  unfold low
  omega
theorem range_filter_le (p : Nat → Bool) {m n : Nat} (h : m ≤ n) : ((List.range m).filter p).length ≤ ((List.range n).filter p).length := by
  obtain ⟨k, rfl⟩ := Nat.le.dest h
  clear h
  induction k with
  | zero => exact Nat.le_refl _
  | succ k ih =>
    rw [← Nat.add_assoc, List.range_succ, List.filter_append, List.length_append]
    omega
theorem low_lt {all c c' : Nat} (hq : c / 13 = c' / 13) (h : c < c') (hc : all.testBit c = true) : low all c < low all c' := by
  have key : rk all c < rk all c' := by
    unfold rk
    rw [← hq]
    have h1 := range_filter_le (fun i => all.testBit (13 * (c / 13) + i)) (show c % 13 + 1 ≤ c' % 13 by omega)
    rw [List.range_succ, List.filter_append, List.length_append] at h1
    have h2 : ([c % 13].filter fun i => all.testBit (13 * (c / 13) + i)).length = 1 := by
      rw [List.filter_cons, if_pos (by rw [show 13 * (c / 13) + c % 13 = c by omega]; exact hc)]; rfl
    omega
  unfold low
  rw [← hq]
  omega
theorem low_iff {all c c' : Nat} (hq : c / 13 = c' / 13) (hc : all.testBit c = true) (hc' : all.testBit c' = true) : low all c < low all c' ↔ c < c' := by
  constructor
  · intro h
    rcases Nat.lt_trichotomy c c' with h2 | h2 | h2
    · exact h2
    · subst h2; omega
    · have := low_lt hq.symm h2 hc'; omega
  · exact fun h => low_lt hq h hc
theorem iso_low {h h' : Nat → Nat} {ld all tr : Nat} (hall : ∀ s, s < 4 → ∀ c, (h s).testBit c = true → all.testBit c = true) (hh : ∀ s, s < 4 → ∀ c', (h' s).testBit c' = true ↔ ∃ c, (h s).testBit c = true ∧ low all c = c') :
    Iso (low all) tr tr ⟨h, ld, []⟩ ⟨h', ld, []⟩ := by
  have ow : ∀ {s c}, Own ⟨h, ld, []⟩ s c → all.testBit c = true := by
    rintro s c ⟨hs, hb | ⟨i, hi, _⟩⟩
    · exact hall s hs c hb
    · cases hi
  refine ⟨rfl, rfl, hh, fun s s' c c' h1 h2 e => ?_, fun s s' c c' _ _ => by rw [low_suit, low_suit], fun s c _ => by rw [low_suit], fun s s' c c' _ h1 h2 hq => low_iff hq (ow h1) (ow h2)⟩
  have hq : c / 13 = c' / 13 := by rw [← low_suit all c, ← low_suit all c', e]
  rcases Nat.lt_trichotomy c c' with h3 | h3 | h3
  · have := low_lt hq h3 (ow h1); omega
  · exact h3
  · have := low_lt hq.symm h3 (ow h2); omega
/-- what a search between low and high may answer where the value is v -/
def Fs (lo hi v r : Int) : Prop := (r ≤ lo → v ≤ r) ∧ (hi ≤ r → r ≤ v) ∧ (lo < r → r < hi → v = r)
theorem Fs.exact {lo hi v : Int} : Fs lo hi v v := ⟨fun _ => Int.le_refl _, fun _ => Int.le_refl _, fun _ _ => rfl⟩
theorem Fs.shift {lo hi v r w : Int} (h : Fs (lo - w) (hi - w) v r) : Fs lo hi (w + v) (w + r) := by
  obtain ⟨h1, h2, h3⟩ := h
  refine ⟨fun h => ?_, fun h => ?_, fun h h' => ?_⟩
  · have := h1 (by omega); omega
  · have := h2 (by omega); omega
  · have := h3 (by omega) (by omega); omega
theorem Fs.low {lo hi v r : Int} (h1 : lo < hi) (h2 : hi ≤ r) (h3 : r ≤ v) : Fs lo hi v r := ⟨fun _ => by omega, fun _ => h3, fun _ _ => by omega⟩
theorem Fs.high {lo hi v r : Int} (h1 : lo < hi) (h2 : r ≤ lo) (h3 : v ≤ r) : Fs lo hi v r := ⟨fun _ => h3, fun _ => by omega, fun _ _ => by omega⟩
/-- a window made smaller by what is known -/
theorem Fs.narrow {lo hi bl bh v r : Int} (h : Fs (max lo bl) (min hi bh) v r) (h1 : bl ≤ v) (h2 : v ≤ bh) : Fs lo hi v r := by
  obtain ⟨q1, q2, q3⟩ := h
  refine ⟨fun h => q1 (by omega), fun h => q2 (by omega), fun ha hb => ?_⟩
  rcases Int.lt_or_le (max lo bl) r with c1 | c1
  · rcases Int.lt_or_le r (min hi bh) with c2 | c2
    · exact q3 c1 c2
    · have := q2 c2; omega
  · have := q1 c1; omega
/-- a round of a search for North and South: P the values seen so far -/
structure MaxI (lo0 hi : Int) (P : List Nat) (best l : Int) : Prop where
  win : (P ≠ [] ∧ l = max lo0 best) ∨ (P = [] ∧ l = lo0 ∧ best = -1)
  all : l < hi → ∀ v ∈ P, (v : Int) ≤ best
  one : lo0 < best → P ≠ [] → ∃ v ∈ P, best ≤ (v : Int)
theorem MaxI.start (lo0 hi : Int) : MaxI lo0 hi [] (-1) lo0 := ⟨.inr ⟨rfl, rfl, rfl⟩, fun _ v h => (by cases h), fun _ h => absurd rfl h⟩
theorem MaxI.step {lo0 hi : Int} {P : List Nat} {best l : Int} (h : MaxI lo0 hi P best l) (hl : l < hi) {v : Nat} {r : Int} (hr : Fs l hi v r) : MaxI lo0 hi (P ++ [v]) (max best r) (max l (max best r)) := by
  obtain ⟨q1, q2, q3⟩ := hr
  have hall := h.all hl
  have hv : v ∈ P ++ [v] := List.mem_append_right _ (List.mem_singleton.2 rfl)
  refine ⟨.inl ⟨by simp, ?_⟩, fun hlt x hx => ?_, fun hlt _ => ?_⟩
  · rcases h.win with ⟨_, e⟩ | ⟨_, e, e2⟩ <;> omega
  · rcases List.mem_append.1 hx with hx | hx
    · have := hall x hx; omega
    · rcases List.mem_singleton.1 hx with rfl
      by_cases c1 : r ≤ l
      · have := q1 c1; omega
      · have := q3 (by omega) (by omega); omega
  · by_cases c : best < r
    · refine ⟨v, hv, ?_⟩
      rw [Int.max_eq_right (by omega)]
      by_cases c1 : r ≤ l
      · have := q1 c1
        rcases h.win with ⟨_, e⟩ | ⟨_, e, e2⟩ <;> omega
      · by_cases c2 : hi ≤ r
        · exact q2 c2
        · have := q3 (by omega) (by omega); omega
    · rw [Int.max_eq_left (by omega)] at hlt ⊢
      rcases h.win with ⟨hP, _⟩ | ⟨_, _, e2⟩
      · obtain ⟨x, hx, hb⟩ := h.one hlt hP
        exact ⟨x, List.mem_append_left _ hx, hb⟩
      · exact ⟨v, hv, by omega⟩
theorem MaxI.done {lo0 hi : Int} {P : List Nat} {best l : Int} (h : MaxI lo0 hi P best l) (hlo : lo0 < hi) (hP : P ≠ []) {V : Nat} (hV : ∀ v ∈ P, v ≤ V) (hin : l < hi → V ∈ P) : Fs lo0 hi V best := by
  rcases h.win with ⟨_, e⟩ | ⟨e, _⟩
  · by_cases hl : l < hi
    · have h1 := h.all hl V (hin hl)
      refine ⟨fun _ => h1, fun _ => by omega, fun c _ => ?_⟩
      obtain ⟨v, hv, hb⟩ := h.one c hP
      have := hV v hv
      omega
    · have hb : hi ≤ best := by omega
      obtain ⟨v, hv, hb2⟩ := h.one (by omega) hP
      have := hV v hv
      exact ⟨fun _ => by omega, fun _ => by omega, fun _ _ => by omega⟩
  · exact absurd e hP
/-- a round of a search for East and West -/
structure MinI (lo hi0 : Int) (P : List Nat) (best l : Int) : Prop where
  win : (P ≠ [] ∧ l = min hi0 best) ∨ (P = [] ∧ l = hi0 ∧ best = 7)
  all : lo < l → ∀ v ∈ P, best ≤ (v : Int)
  one : best < hi0 → P ≠ [] → ∃ v ∈ P, (v : Int) ≤ best
theorem MinI.start (lo hi0 : Int) : MinI lo hi0 [] 7 hi0 := ⟨.inr ⟨rfl, rfl, rfl⟩, fun _ v h => (by cases h), fun _ h => absurd rfl h⟩
theorem MinI.step {lo hi0 : Int} {P : List Nat} {best l : Int} (h : MinI lo hi0 P best l) (h7 : hi0 ≤ 7) (hl : lo < l) {v : Nat} {r : Int} (hr : Fs lo l v r) : MinI lo hi0 (P ++ [v]) (min best r) (min l (min best r)) := by
  obtain ⟨q1, q2, q3⟩ := hr
  have hall := h.all hl
  have hv : v ∈ P ++ [v] := List.mem_append_right _ (List.mem_singleton.2 rfl)
  refine ⟨.inl ⟨by simp, ?_⟩, fun hlt x hx => ?_, fun hlt _ => ?_⟩
  · rcases h.win with ⟨_, e⟩ | ⟨_, e, e2⟩ <;> omega
  · rcases List.mem_append.1 hx with hx | hx
    · have := hall x hx; omega
    · rcases List.mem_singleton.1 hx with rfl
      by_cases c1 : l ≤ r
      · have := q2 c1; omega
      · have := q3 (by omega) (by omega); omega
  · by_cases c : r < best
    · refine ⟨v, hv, ?_⟩
      rw [Int.min_eq_right (by omega)] at hlt ⊢
      by_cases c1 : l ≤ r
      · rcases h.win with ⟨_, e⟩ | ⟨_, e, e2⟩ <;> omega
      · by_cases c2 : r ≤ lo
        · exact q1 c2
        · have := q3 (by omega) (by omega); omega
    · rw [Int.min_eq_left (by omega)] at hlt ⊢
      rcases h.win with ⟨hP, _⟩ | ⟨_, _, e2⟩
      · obtain ⟨x, hx, hb⟩ := h.one hlt hP
        exact ⟨x, List.mem_append_left _ hx, hb⟩
      · omega
theorem MinI.done {lo hi0 : Int} {P : List Nat} {best l : Int} (h : MinI lo hi0 P best l) (hlo : lo < hi0) (hP : P ≠ []) {V : Nat} (hV : ∀ v ∈ P, V ≤ v) (hin : lo < l → V ∈ P) : Fs lo hi0 V best := by
  rcases h.win with ⟨_, e⟩ | ⟨e, _⟩
  · by_cases hl : lo < l
    · have h1 := h.all hl V (hin hl)
      refine ⟨fun _ => by omega, fun _ => h1, fun _ c => ?_⟩
      obtain ⟨v, hv, hb⟩ := h.one c hP
      have := hV v hv
      omega
    · have hb : best ≤ lo := by omega
      obtain ⟨v, hv, hb2⟩ := h.one (by omega) hP
      have := hV v hv
      exact ⟨fun _ => by omega, fun _ => by omega, fun _ _ => by omega⟩
  · exact absurd e hP
end Go.Proofs.YtnbillhodbcfbaaDoor

/- Plain: cards worth the same as a lesser one may be left out. -/
namespace Go.Proofs.YtnbillhodbcfbaaDoor

/-- the cards of the others, in hands and in the trick under way -/
def othR (t : Tb) (x : Nat) : Prop := ∃ s, s ≠ t.turn ∧ Own t s x
/-- b is worth as much as a, which comes just before it in the hand -/
def adjB (o : Nat) (a b : Nat) : Bool := a / 13 == b / 13 && (land o (2 ^ b - 2 ^ a) == 0)
/-- what is left of some cards in order -/
def keepL (o : Nat) : Nat → List Nat → List Nat
  | _, [] => []
  | a, c :: r => if adjB o a c then keepL o c r else c :: keepL o c r
theorem keep_sub (o : Nat) : ∀ (l : List Nat) (a c : Nat), c ∈ keepL o a l → c ∈ l
  | [], _, _, h => h
  | x :: r, a, c, h => by
    unfold keepL at h
    split at h
    · exact List.mem_cons_of_mem _ (keep_sub o r x c h)
    · rcases List.mem_cons.1 h with rfl | h
      · exact List.mem_cons_self ..
      · exact List.mem_cons_of_mem _ (keep_sub o r x c h)
theorem span_bit {a b x : Nat} (h : a ≤ b) : (2 ^ b - 2 ^ a).testBit x = (decide (a ≤ x) && decide (x < b)) := by
  have e : 2 ^ b - 2 ^ a = 2 ^ a * (2 ^ (b - a) - 1) := by
    rw [Nat.mul_sub, ← Nat.pow_add, show a + (b - a) = b by omega, Nat.mul_one]
  rw [e, Nat.testBit_two_pow_mul, Nat.testBit_two_pow_sub_one]
  by_cases h1 : a ≤ x
  · rw [decide_eq_true h1, Bool.true_and, Bool.true_and, decide_eq_decide]; omega
  · rw [decide_eq_false h1]; rfl
theorem adj_spec {o a b : Nat} (hab : a < b) : adjB o a b = true ↔ a / 13 = b / 13 ∧ ∀ x, a ≤ x → x < b → o.testBit x = false := by
  unfold adjB
  rw [Bool.and_eq_true, beq_iff_eq, beq_iff_eq]
  refine and_congr_right fun _ => ?_
  constructor
  · intro h x h1 h2
    have := congrArg (fun m => m.testBit x) h
    simp only [testBit_land, Nat.zero_testBit, span_bit (Nat.le_of_lt hab), decide_eq_true h1, decide_eq_true h2] at this
    simpa using this
  · intro h
    apply Nat.eq_of_testBit_eq
    intro x
    rw [testBit_land, span_bit (Nat.le_of_lt hab), Nat.zero_testBit]
    by_cases h1 : a ≤ x
    · by_cases h2 : x < b
      · rw [h x h1 h2]; rfl
      · rw [decide_eq_false h2]; simp
    · rw [decide_eq_false h1]; simp
theorem keep_rep {t : Tb} {o : Nat} (tr n : Nat) (hp : Pk t) (hu : Uniq t) (ho : ∀ x, o.testBit x = true ↔ othR t x) : ∀ (l : List Nat) (a : Nat) (K : List Nat), (∀ c ∈ l, (t.h t.turn).testBit c = true) → List.Pairwise (· < ·) (a :: l) ∨ 52 ≤ a →
    List.Pairwise (· < ·) l → ((t.h t.turn).testBit a = true ∧ (∃ x ∈ K, worth tr n t x = worth tr n t a) ∨ 52 ≤ a) → ∀ c ∈ l, ∃ x ∈ K ++ keepL o a l, worth tr n t x = worth tr n t c
  | [], _, _, _, _, _, _ => fun c hc => by cases hc
  | d :: r, a, K, hl, hs, hs2, ha => by
    have hd := hl d (List.mem_cons_self ..)
    have hd52 := hp.1 _ t.turn_lt _ hd
    have hs3 := List.pairwise_cons.1 hs2
    have rest : ∀ K', (∃ x ∈ K', worth tr n t x = worth tr n t d) → (∀ x ∈ K' ++ keepL o d r, x ∈ K ++ keepL o a (d :: r)) → ∀ c ∈ d :: r, ∃ x ∈ K ++ keepL o a (d :: r), worth tr n t x = worth tr n t c := by
      intro K' hK' hsub c hc
      rcases List.mem_cons.1 hc with rfl | hc
      · obtain ⟨x, hx, e⟩ := hK'
        exact ⟨x, hsub x (List.mem_append_left _ hx), e⟩
      · obtain ⟨x, hx, e⟩ := keep_rep tr n hp hu ho r d K' (fun c hc => hl c (List.mem_cons_of_mem _ hc)) (.inl hs2) hs3.2 (.inl ⟨hd, hK'⟩) c hc
        exact ⟨x, hsub x hx, e⟩
    by_cases had : adjB o a d = true
    · have e : keepL o a (d :: r) = keepL o d r := by
        show (if adjB o a d then _ else _) = _
        rw [if_pos had]
      rcases ha with ⟨ha, x, hx, hw⟩ | ha
      · have hlt : a < d := by
          rcases hs with hs | hs
          · exact (List.pairwise_cons.1 hs).1 d (List.mem_cons_self ..)
          · have := hp.1 _ t.turn_lt _ ha; omega
        obtain ⟨hq, hno⟩ := (adj_spec hlt).1 had
        have hwd := worth_adj (a := a) (b := d) tr n hp hu hlt hq ha hd fun s x hs hx h => by
          have := hno x (by omega) h.2
          rw [(ho x).2 ⟨s, hs, hx⟩] at this
          cases this
        refine rest K ⟨x, hx, hw.trans hwd.symm⟩ fun y hy => by rw [e]; exact hy
      · exfalso
        unfold adjB at had
        have := (Bool.and_eq_true_iff.1 had).1
        rw [beq_iff_eq] at this
        omega
    · have e : keepL o a (d :: r) = d :: keepL o d r := by
        show (if adjB o a d then _ else _) = _
        rw [if_neg had]
      refine rest (K ++ [d]) ⟨d, List.mem_append_right _ (List.mem_singleton.2 rfl), rfl⟩ fun y hy => ?_
      rw [e]
      rcases List.mem_append.1 hy with hy | hy
      · rcases List.mem_append.1 hy with hy | hy
        · exact List.mem_append_left _ hy
        · rcases List.mem_singleton.1 hy with rfl
          exact List.mem_append_right _ (List.mem_cons_self ..)
      · exact List.mem_append_right _ (List.mem_cons_of_mem _ hy)
theorem cards_sorted (t : Tb) : List.Pairwise (· < ·) t.cards := List.Pairwise.filter _ List.pairwise_lt_range
/-- the cards that a search looks at -/
def Tb.few (t : Tb) (o : Nat) : List Nat := keepL o 52 t.cards
theorem few_legal {t : Tb} {o c : Nat} (h : c ∈ t.few o) : c < 52 ∧ t.legal c = true := mem_cards.1 (keep_sub _ _ _ _ h)
theorem few_val {t : Tb} {o : Nat} (tr n : Nat) (hp : Pk t) (hu : Uniq t) (ho : ∀ x, o.testBit x = true ↔ othR t x) : val tr (n + 1) t = bestL t.ns ((t.few o).map (worth tr n t)) := by
  refine bestL_same (fun x hx => ?_) (fun x hx => ?_)
  · obtain ⟨c, hc, rfl⟩ := List.mem_map.1 hx
    obtain ⟨y, hy, e⟩ := keep_rep tr n hp hu ho t.cards 52 [] (fun c hc => (legal_iff.1 (mem_cards.1 hc).2).1) (.inr (Nat.le_refl _)) (cards_sorted t) (.inr (Nat.le_refl _)) c hc
    exact List.mem_map.2 ⟨y, by rw [List.nil_append] at hy; exact hy, e⟩
  · obtain ⟨c, hc, rfl⟩ := List.mem_map.1 hx
    exact List.mem_map.2 ⟨c, keep_sub _ _ _ _ hc, rfl⟩
theorem few_nonempty {t : Tb} {o : Nat} (h : t.cards ≠ []) : t.few o ≠ [] := by
  intro e
  rcases hc : t.cards with _ | ⟨c, r⟩
  · exact h hc
  · unfold Tb.few at e
    rw [hc] at e
    have : adjB o 52 c = false := by
      have h52 := (mem_cards.1 (show c ∈ t.cards by rw [hc]; exact List.mem_cons_self ..)).1
      unfold adjB
      rw [beq_eq_false_iff_ne.2 (by omega)]; rfl
    have e2 : keepL o 52 (c :: r) = c :: keepL o c r := by
      show (if adjB o 52 c then _ else _) = _
      rw [this]; rfl
    rw [e2] at e
    cases e
end Go.Proofs.YtnbillhodbcfbaaDoor
