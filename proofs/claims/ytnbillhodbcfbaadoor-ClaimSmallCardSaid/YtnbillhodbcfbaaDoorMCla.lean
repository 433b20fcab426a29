/- ClA, ClB in one text. -/
import Derived.Test.YtnbillhodbcfbaaDoorMDmf
import Derived.Test.YtnbillhodbcfbaaDoorMDpm

/- Plain: the least number of tricks that a side wins, by a line or by any play. -/
namespace Go.Proofs.YtnbillhodbcfbaaDoor

/-- 1 if the side wins a trick by a card -/
def wonS (sd tr : Nat) (t : Tb) (c : Nat) : Nat := if t.cs.length < 3 then 0 else if (t.push c).win tr % 2 = sd then 1 else 0
/-- the card of a line: the first one that can be played, or else the least one that can be -/
def lineL (line : List Nat) (t : Tb) : List Nat := match line.find? t.legal with | some c => [c] | none => t.cards.take 1
/-- the cards that a play goes on with: free, or by a line -/
def mnL (sd : Nat) (fr : Bool) (line : List Nat) (t : Tb) : List Nat := if t.turn % 2 = sd ∧ fr = false then lineL line t else t.cards
/-- the least number of tricks of a side in n more cards -/
def mn (sd tr : Nat) (fr : Bool) (line : List Nat) : Nat → Tb → Nat
  | 0, _ => 0
  | n + 1, t => bestL false ((mnL sd fr line t).map fun c => wonS sd tr t c + mn sd tr fr line n (t.put tr c).1)
def worthM (sd tr : Nat) (fr : Bool) (line : List Nat) (n : Nat) (t : Tb) (c : Nat) : Nat := wonS sd tr t c + mn sd tr fr line n (t.put tr c).1
theorem mn_succ (sd tr : Nat) (fr : Bool) (line : List Nat) (n : Nat) (t : Tb) : mn sd tr fr line (n + 1) t = bestL false ((mnL sd fr line t).map (worthM sd tr fr line n t)) := rfl
variable {σ : Nat → Nat} {sd tr tr' : Nat} {fr : Bool} {line : List Nat} {t t' : Tb}
theorem lineL_legal {c : Nat} (h : c ∈ lineL line t) : t.legal c = true := by
  unfold lineL at h
  split at h
  next x hx => rcases List.mem_singleton.1 h with rfl; exact List.find?_some hx
  next => exact (mem_cards.1 (List.mem_of_mem_take h)).2
theorem mnL_legal {c : Nat} (h : c ∈ mnL sd fr line t) : t.legal c = true := by
  unfold mnL at h
  split at h
  · exact lineL_legal h
  · exact (mem_cards.1 h).2
theorem lineL_ne (h : t.cards ≠ []) : lineL line t ≠ [] := by
  unfold lineL
  split
  · simp
  · rcases hc : t.cards with _ | ⟨c, r⟩
    · exact absurd hc h
    · simp
theorem mnL_ne (h : t.cards ≠ []) : mnL sd fr line t ≠ [] := by
  unfold mnL
  split
  · exact lineL_ne h
  · exact h
/-- the least of some numbers -/
theorem minL_le {l : List Nat} {x : Nat} (h : x ∈ l) : bestL false l ≤ x := (bestL_spec false (l := l) (fun e => by rw [e] at h; cases h)).2 x h
theorem minL_mem {l : List Nat} (h : l ≠ []) : bestL false l ∈ l := (bestL_spec false h).1
/-- the side's own cards keep their names, if it plays by a line -/
def Fix (sd : Nat) (fr : Bool) (σ : Nat → Nat) (t : Tb) : Prop := fr = true ∨ ∀ s c, s % 2 = sd → Own t s c → σ c = c
theorem lineL_iso (h : Iso σ tr tr' t t') (hf : ∀ s c, s % 2 = sd → Own t s c → σ c = c) (hs : t.turn % 2 = sd) : lineL line t' = lineL line t := by
  have hl : t'.legal = t.legal := by
    funext c
    rw [Bool.eq_iff_iff]
    have fx : ∀ {c}, t.legal c = true → σ c = c := fun {c} hc => hf _ _ hs (own_hand t.turn_lt (legal_iff.1 hc).1)
    constructor
    · intro hc
      obtain ⟨x, hx, rfl⟩ := h.legal' hc
      rw [fx hx]; exact hx
    · intro hc
      have := h.legal hc
      rwa [fx hc] at this
  unfold lineL Tb.cards
  rw [hl]
theorem own_putM {c : Nat} (hc : c < 64) (hl : t.cs.length < 4) (hb : (t.h t.turn).testBit c = true) {s x : Nat} (h : Own (t.put tr c).1 s x) : Own t s x := own_put hc hl hb h
/-- what a card wins, with other names -/
theorem wonS_iso (h : Iso σ tr tr' t t') (hl : t.cs.length < 4) {c : Nat} (hi : Iso σ tr tr' (t.push c) (t'.push (σ c))) : wonS sd tr' t' (σ c) = wonS sd tr t c := by
  unfold wonS
  have e : t'.cs.length = t.cs.length := by rw [h.cs, List.length_map]
  rw [e]
  split
  · rfl
  · rw [hi.win (by show (t.cs ++ [c]).length = 4; simp; omega)]
/-- the names of the cards do not matter -/
theorem iso_mn : ∀ (n : Nat) {t t' : Tb}, Iso σ tr tr' t t' → Fix sd fr σ t → Pk t → Pk t' → mn sd tr' fr line n t' = mn sd tr fr line n t
  | 0, _, _, _, _, _, _ => rfl
  | n + 1, t, t', h, hf, hp, hp' => by
    have step : ∀ c, t.legal c = true → worthM sd tr' fr line n t' (σ c) = worthM sd tr fr line n t c := fun c hc => by
      have hc52 := (mem_cards.1 (cards_pk hp hc)).1
      have hc52' := (mem_cards.1 (cards_pk hp' (h.legal hc))).1
      have hi := h.push (c := c) (by omega) (by omega) hp.2 (legal_iff.1 hc).1
      obtain ⟨_, q2⟩ := hi.settle (by show (t.cs ++ [c]).length ≤ 4; have := hp.2; simp; omega)
      have hf2 : Fix sd fr σ (t.put tr c).1 := by
        rcases hf with e | e
        · exact .inl e
        · exact .inr fun s x hs hx => e s x hs (own_put (by omega) hp.2 (legal_iff.1 hc).1 hx)
      have ih := iso_mn n q2 hf2 (pk_put hp hc52) (pk_put hp' hc52')
      unfold worthM
      rw [wonS_iso h hp.2 hi]
      show _ + mn sd tr' fr line n ((t'.push (σ c)).settle tr').1 = _ + mn sd tr fr line n ((t.push c).settle tr).1
      rw [ih]
    rw [mn_succ, mn_succ]
    by_cases hb : t.turn % 2 = sd ∧ fr = false
    · have e1 : mnL sd fr line t = lineL line t := if_pos hb
      have e2 : mnL sd fr line t' = lineL line t' := if_pos (by rw [h.turn]; exact hb)
      have hf3 : ∀ s c, s % 2 = sd → Own t s c → σ c = c := by
        rcases hf with e | e
        · rw [hb.2] at e; cases e
        · exact e
      rw [e1, e2, lineL_iso h hf3 hb.1]
      refine congrArg _ (List.map_congr_left fun c hc => ?_)
      have hl := lineL_legal hc
      have := step c hl
      rwa [hf3 _ _ hb.1 (own_hand t.turn_lt (legal_iff.1 hl).1)] at this
    · have e1 : mnL sd fr line t = t.cards := if_neg hb
      have e2 : mnL sd fr line t' = t'.cards := if_neg (by rw [h.turn]; exact hb)
      rw [e1, e2]
      refine bestL_same (fun x hx => ?_) (fun x hx => ?_)
      · obtain ⟨c', hc', rfl⟩ := List.mem_map.1 hx
        obtain ⟨c, hc, rfl⟩ := h.legal' (mem_cards.1 hc').2
        exact List.mem_map.2 ⟨c, cards_pk hp hc, (step c hc).symm⟩
      · obtain ⟨c, hc, rfl⟩ := List.mem_map.1 hx
        have hl := (mem_cards.1 hc).2
        exact List.mem_map.2 ⟨σ c, cards_pk hp' (h.legal hl), step c hl⟩
/-- adjacent cards of a hand are worth the same -/
theorem worthM_adj {a b : Nat} (n : Nat) (hp : Pk t) (hu : Uniq t) (hfr : fr = true ∨ t.turn % 2 ≠ sd) (hab : a < b) (hq : a / 13 = b / 13) (ha : (t.h t.turn).testBit a = true) (hb : (t.h t.turn).testBit b = true)
    (hno : ∀ s x, s ≠ t.turn → Own t s x → ¬ (a < x ∧ x < b)) : worthM sd tr fr line n t b = worthM sd tr fr line n t a := by
  have ha52 := hp.1 _ t.turn_lt _ ha
  have hb52 := hp.1 _ t.turn_lt _ hb
  have hi := iso_swp (tr := tr) hu hp.2 ha52 hb52 hab hq ha hb hno
  obtain ⟨_, q2⟩ := hi.settle (by show (t.cs ++ [a]).length ≤ 4; have := hp.2; simp; omega)
  have hf : Fix sd fr (swp a b) ((t.push a).settle tr).1 := by
    rcases hfr with e | e
    · exact .inl e
    · refine .inr fun s x hs hx => ?_
      have ho : Own t s x := own_put (tr := tr) (by omega) hp.2 ha hx
      refine swp_other (fun e2 => e ?_) (fun e2 => e ?_)
      · rw [← hs, hu s t.turn a (e2 ▸ ho) (own_hand t.turn_lt ha)]
      · rw [← hs, hu s t.turn b (e2 ▸ ho) (own_hand t.turn_lt hb)]
  have := iso_mn (sd := sd) (fr := fr) (line := line) n q2 hf (pk_put hp ha52) (pk_put hp hb52)
  unfold worthM Tb.put
  rw [this]
  congr 1
  unfold wonS
  split
  · rfl
  · rw [hi.win (by show (t.cs ++ [a]).length = 4; have := hp.2; simp; omega)]
/-- a function that is the same for adjacent cards has all its values on those that are kept -/
theorem keep_repF {t : Tb} {o : Nat} (f : Nat → Nat) (hp : Pk t) (ho : ∀ x, o.testBit x = true ↔ othR t x)
    (hadj : ∀ a b, a < b → a / 13 = b / 13 → (t.h t.turn).testBit a = true → (t.h t.turn).testBit b = true → (∀ s x, s ≠ t.turn → Own t s x → ¬ (a < x ∧ x < b)) → f b = f a) : ∀ (l : List Nat) (a : Nat) (K : List Nat), (∀ c ∈ l, (t.h t.turn).testBit c = true) → List.Pairwise (· < ·) (a :: l) ∨ 52 ≤ a →
    List.Pairwise (· < ·) l → ((t.h t.turn).testBit a = true ∧ (∃ x ∈ K, f x = f a) ∨ 52 ≤ a) → ∀ c ∈ l, ∃ x ∈ K ++ keepL o a l, f x = f c
  | [], _, _, _, _, _, _ => fun c hc => by cases hc
  | d :: r, a, K, hl, hs, hs2, ha => by
    have hd := hl d (List.mem_cons_self ..)
    have hd52 := hp.1 _ t.turn_lt _ hd
    have hs3 := List.pairwise_cons.1 hs2
    have rest : ∀ K', (∃ x ∈ K', f x = f d) → (∀ x ∈ K' ++ keepL o d r, x ∈ K ++ keepL o a (d :: r)) → ∀ c ∈ d :: r, ∃ x ∈ K ++ keepL o a (d :: r), f x = f c := by
      intro K' hK' hsub c hc
      rcases List.mem_cons.1 hc with rfl | hc
      · obtain ⟨x, hx, e⟩ := hK'
        exact ⟨x, hsub x (List.mem_append_left _ hx), e⟩
      · obtain ⟨x, hx, e⟩ := keep_repF f hp ho hadj r d K' (fun c hc => hl c (List.mem_cons_of_mem _ hc)) (.inl hs2) hs3.2 (.inl ⟨hd, hK'⟩) c hc
        exact ⟨x, hsub x hx, e⟩
    by_cases had : adjB o a d = true
    · have e : keepL o a (d :: r) = keepL o d r := by
        show (if adjB o a d then _ else _) = _
        rw [if_pos had]
      rcases ha with ⟨ha, x, hx, hw⟩ | ha
      · have hlt : a < d := by
          rcases hs with hs | hs
          · exact (List.pairwise_cons.1 hs).1 d (List.mem_cons_self ..)
          · have := hp.1 _ t.turn_lt _ ha; omega
        obtain ⟨hq, hno⟩ := (adj_spec hlt).1 had
        have hwd := hadj a d hlt hq ha hd fun s x hs hx h => by
          have := hno x (by omega) h.2
          rw [(ho x).2 ⟨s, hs, hx⟩] at this
          cases this
        refine rest K ⟨x, hx, hw.trans hwd.symm⟩ fun y hy => by rw [e]; exact hy
      · exfalso
        unfold adjB at had
        have := (Bool.and_eq_true_iff.1 had).1
        rw [beq_iff_eq] at this
        omega
    · have e : keepL o a (d :: r) = d :: keepL o d r := by
        show (if adjB o a d then _ else _) = _
        rw [if_neg had]
      refine rest (K ++ [d]) ⟨d, List.mem_append_right _ (List.mem_singleton.2 rfl), rfl⟩ fun y hy => ?_
      rw [e]
      rcases List.mem_append.1 hy with hy | hy
      · rcases List.mem_append.1 hy with hy | hy
        · exact List.mem_append_left _ hy
        · rcases List.mem_singleton.1 hy with rfl
          exact List.mem_append_right _ (List.mem_cons_self ..)
      · exact List.mem_append_right _ (List.mem_cons_of_mem _ hy)
/-- the cards that are looked at -/
theorem few_mn {o : Nat} (n : Nat) (hp : Pk t) (hu : Uniq t) (hfr : fr = true ∨ t.turn % 2 ≠ sd) (ho : ∀ x, o.testBit x = true ↔ othR t x) : mn sd tr fr line (n + 1) t = bestL false ((t.few o).map (worthM sd tr fr line n t)) := by
  have e : mnL sd fr line t = t.cards := if_neg (fun h => by
    rcases hfr with e | e
    · rw [h.2] at e; cases e
    · exact e h.1)
  rw [mn_succ, e]
  refine bestL_same (fun x hx => ?_) (fun x hx => ?_)
  · obtain ⟨c, hc, rfl⟩ := List.mem_map.1 hx
    obtain ⟨y, hy, e⟩ := keep_repF (worthM sd tr fr line n t) hp ho (fun a b h1 h2 h3 h4 h5 => worthM_adj n hp hu hfr h1 h2 h3 h4 h5) t.cards 52 [] (fun c hc => (legal_iff.1 (mem_cards.1 hc).2).1) (.inr (Nat.le_refl _)) (cards_sorted t) (.inr (Nat.le_refl _)) c hc
    exact List.mem_map.2 ⟨y, by rw [List.nil_append] at hy; exact hy, e⟩
  · obtain ⟨c, hc, rfl⟩ := List.mem_map.1 hx
    exact List.mem_map.2 ⟨c, keep_sub _ _ _ _ hc, rfl⟩
/-- by the line -/
theorem line_mn (n : Nat) (hs : t.turn % 2 = sd) : mn sd tr false line (n + 1) t = bestL false ((lineL line t).map (worthM sd tr false line n t)) := by
  rw [mn_succ, show mnL sd false line t = lineL line t from if_pos ⟨hs, rfl⟩]
theorem wonS_le (sd tr : Nat) (t : Tb) (c : Nat) : wonS sd tr t c ≤ 1 ∧ (t.cs.length < 3 → wonS sd tr t c = 0) := by
  unfold wonS
  refine ⟨?_, fun h => if_pos h⟩
  split
  · omega
  · split <;> omega
end Go.Proofs.YtnbillhodbcfbaaDoor

/- Plain: the least number of tricks beside the best one, and beside what the other side wins. -/
namespace Go.Proofs.YtnbillhodbcfbaaDoor

variable {sd tr : Nat} {line : List Nat} {t : Tb}
/-- by any play a side wins no more than by its line -/
theorem mn_free_le : ∀ (n : Nat) (t : Tb), Pk t → mn sd tr true [] n t ≤ mn sd tr false line n t
  | 0, _, _ => Nat.le_refl _
  | n + 1, t, hp => by
    by_cases h0 : t.cards = []
    · have e : mnL sd true [] t = [] := by rw [show mnL sd true [] t = t.cards from if_neg (by simp), h0]
      rw [mn_succ, e]; exact Nat.zero_le _
    · obtain ⟨c, hc, e⟩ := List.mem_map.1 (minL_mem (l := (mnL sd false line t).map (worthM sd tr false line n t)) (by simpa using mnL_ne h0))
      rw [mn_succ (fr := false), ← e]
      have hl := mnL_legal hc
      have hc2 := cards_pk hp hl
      have hm : c ∈ mnL sd true [] t := by rw [show mnL sd true [] t = t.cards from if_neg (by simp)]; exact hc2
      refine Nat.le_trans (minL_le (List.mem_map.2 ⟨c, hm, rfl⟩)) ?_
      exact Nat.add_le_add_left (mn_free_le n _ (pk_put hp (mem_cards.1 hc2).1)) _
/-- the tricks of a side by best play -/
def vS (sd tr : Nat) : Nat → Tb → Nat
  | 0, _ => 0
  | n + 1, t => bestL (t.turn % 2 == sd) (t.cards.map fun c => wonS sd tr t c + vS sd tr n (t.put tr c).1)
theorem mn_le_vS : ∀ (n : Nat) (t : Tb), Pk t → mn sd tr false line n t ≤ vS sd tr n t
  | 0, _, _ => Nat.le_refl _
  | n + 1, t, hp => by
    have ev : vS sd tr (n + 1) t = bestL (t.turn % 2 == sd) (t.cards.map fun c => wonS sd tr t c + vS sd tr n (t.put tr c).1) := rfl
    by_cases h0 : t.cards = []
    · have e : mnL sd false line t = [] := by
        rcases hc : mnL sd false line t with _ | ⟨c, r⟩
        · rfl
        · have hl := mnL_legal (sd := sd) (fr := false) (line := line) (t := t) (c := c) (by rw [hc]; exact List.mem_cons_self ..)
          have := cards_pk hp hl
          rw [h0] at this; cases this
      rw [mn_succ, e]; exact Nat.zero_le _
    · by_cases hs : t.turn % 2 = sd
      · obtain ⟨c, hc, e⟩ := List.mem_map.1 (minL_mem (l := (mnL sd false line t).map (worthM sd tr false line n t)) (by simpa using mnL_ne h0))
        rw [mn_succ, ← e, ev, show (t.turn % 2 == sd) = true by rw [beq_iff_eq]; exact hs]
        have hc2 := cards_pk hp (mnL_legal hc)
        have h1 := (bestL_spec true (l := t.cards.map fun c => wonS sd tr t c + vS sd tr n (t.put tr c).1) (by simpa using h0)).2 _ (List.mem_map.2 ⟨c, hc2, rfl⟩)
        unfold better at h1
        simp only [if_true] at h1
        exact Nat.le_trans (Nat.add_le_add_left (mn_le_vS n _ (pk_put hp (mem_cards.1 hc2).1)) _) h1
      · have em : mnL sd false line t = t.cards := if_neg (fun h => hs h.1)
        rw [ev, show (t.turn % 2 == sd) = false by rw [beq_eq_false_iff_ne]; exact hs, mn_succ, em]
        obtain ⟨c, hc, e⟩ := List.mem_map.1 (minL_mem (l := t.cards.map fun c => wonS sd tr t c + vS sd tr n (t.put tr c).1) (by simpa using h0))
        rw [← e]
        refine Nat.le_trans (minL_le (List.mem_map.2 ⟨c, hc, rfl⟩)) ?_
        exact Nat.add_le_add_left (mn_le_vS n _ (pk_put hp (mem_cards.1 hc).1)) _
theorem won_sum (tr : Nat) (t : Tb) (c : Nat) (hl : t.cs.length < 4) : wonS 0 tr t c = (t.put tr c).2 ∧ wonS 0 tr t c + wonS 1 tr t c = if t.cs.length < 3 then 0 else 1 := by
  have hlen : (t.push c).cs.length = t.cs.length + 1 := by show (t.cs ++ [c]).length = _; simp
  unfold wonS Tb.put Tb.settle
  by_cases h3 : t.cs.length < 3
  · simp only [if_pos h3, if_pos (show (t.push c).cs.length < 4 by omega)]
    exact ⟨trivial, trivial⟩
  · simp only [if_neg h3, if_neg (show ¬ (t.push c).cs.length < 4 by omega)]
    generalize (t.push c).win tr = x
    rcases (show x % 2 = 0 ∨ x % 2 = 1 by omega) with h | h <;> rw [h] <;> exact ⟨rfl, rfl⟩
theorem vS_zero (tr : Nat) : ∀ (n : Nat) (t : Tb), Pk t → vS 0 tr n t = val tr n t
  | 0, _, _ => rfl
  | n + 1, t, hp => by
    show bestL _ _ = bestL _ _
    have hn : (t.turn % 2 == 0) = t.ns := rfl
    rw [hn]
    refine congrArg _ (List.map_congr_left fun c hc => ?_)
    rw [(won_sum tr t c hp.2).1, vS_zero tr n _ (pk_put hp (mem_cards.1 hc).1)]
theorem vS_one (tr : Nat) : ∀ (n q : Nat) (t : Tb), TbOk t → Evn q t → n + t.cs.length = 4 * q → vS 1 tr n t = q - val tr n t
  | 0, q, t, hp, he, hn => by
    have := hp.pk.2
    show 0 = q - 0
    omega
  | n + 1, q, t, hp, he, hn => by
    have hl := hp.pk.2
    have h0 := cards_some hp he (by omega)
    show bestL _ _ = q - bestL _ _
    have hns : (t.turn % 2 == 1) = !t.ns := by
      unfold Tb.ns
      rcases (show t.turn % 2 = 0 ∨ t.turn % 2 = 1 by omega) with h | h <;> rw [h] <;> rfl
    rw [hns, ← bestL_compl (ns := t.ns) (q := q) (l := t.cards.map fun c => (t.put tr c).2 + val tr n (t.put tr c).1) (by simpa using h0) (fun x hx => by
      obtain ⟨c, hc, rfl⟩ := List.mem_map.1 hx
      obtain ⟨hc52, hb⟩ := legal_bit hc
      obtain ⟨w0, w1⟩ := put_won (t := t) tr c
      rcases he.put hl tr (by omega) hb with ⟨hk, he', hl'⟩ | ⟨hk, he', hl'⟩
      · have := val_le tr n q _ (by omega) he' (by omega)
        have := w0 hk
        omega
      · have := val_le tr n (q - 1) _ (by rw [hl']; simp) he' (by rw [hl']; simp; omega)
        omega), List.map_map]
    refine congrArg _ (List.map_congr_left fun c hc => ?_)
    obtain ⟨hc52, hb⟩ := legal_bit hc
    obtain ⟨e1, e2⟩ := won_sum tr t c hl
    show wonS 1 tr t c + vS 1 tr n (t.put tr c).1 = q - ((t.put tr c).2 + val tr n (t.put tr c).1)
    rcases he.put hl tr (by omega) hb with ⟨hk, he', hl'⟩ | ⟨hk, he', hl'⟩
    · rw [vS_one tr n q _ (ok_put hp (by omega)) he' (by omega), ← e1]
      rw [if_pos hk] at e2
      have := val_le tr n q _ (by omega) he' (by omega)
      omega
    · rw [vS_one tr n (q - 1) _ (ok_put hp (by omega)) he' (by rw [hl']; simp; omega), ← e1]
      rw [if_neg (by omega)] at e2
      have := val_le tr n (q - 1) _ (by rw [hl']; simp) he' (by rw [hl']; simp; omega)
      omega
/-- what one side must win the other one cannot win -/
theorem mn_sides (hsd : sd < 2) : ∀ (n q : Nat) (t : Tb), Pk t → Evn q t → n + t.cs.length = 4 * q → mn sd tr true [] n t + mn (1 - sd) tr false line n t ≤ q
  | 0, q, t, _, _, _ => Nat.zero_le _
  | n + 1, q, t, hp, he, hn => by
    have hl := hp.2
    by_cases h0 : t.cards = []
    · have e1 : mnL sd true [] t = [] := by rw [show mnL sd true [] t = t.cards from if_neg (by simp), h0]
      have e2 : mnL (1 - sd) false line t = [] := by
        rcases hc : mnL (1 - sd) false line t with _ | ⟨c, r⟩
        · rfl
        · have hl := mnL_legal (sd := 1 - sd) (fr := false) (line := line) (t := t) (c := c) (by rw [hc]; exact List.mem_cons_self ..)
          have := cards_pk hp hl
          rw [h0] at this; cases this
      rw [mn_succ, mn_succ, e1, e2]; exact Nat.zero_le _
    · obtain ⟨c, hc⟩ := List.exists_mem_of_ne_nil _ (mnL_ne (sd := 1 - sd) (fr := false) (line := line) h0)
      have hc2 := cards_pk hp (mnL_legal hc)
      obtain ⟨hc52, hb⟩ := legal_bit hc2
      have h1 : mn sd tr true [] (n + 1) t ≤ wonS sd tr t c + mn sd tr true [] n (t.put tr c).1 := by
        rw [mn_succ, show mnL sd true [] t = t.cards from if_neg (by simp)]
        exact minL_le (List.mem_map.2 ⟨c, hc2, rfl⟩)
      have h2 : mn (1 - sd) tr false line (n + 1) t ≤ wonS (1 - sd) tr t c + mn (1 - sd) tr false line n (t.put tr c).1 := by
        rw [mn_succ]
        exact minL_le (List.mem_map.2 ⟨c, hc, rfl⟩)
      obtain ⟨-, e2⟩ := won_sum tr t c hl
      have e3 : wonS sd tr t c + wonS (1 - sd) tr t c = if t.cs.length < 3 then 0 else 1 := by
        rcases (show sd = 0 ∨ sd = 1 by omega) with rfl | rfl
        · exact e2
        · rw [Nat.add_comm]; exact e2
      rcases he.put hl tr (by omega) hb with ⟨hk, he', hl'⟩ | ⟨hk, he', hl'⟩
      · have := mn_sides hsd n q _ (pk_put hp (by omega)) he' (by omega)
        rw [if_pos hk] at e3
        omega
      · have := mn_sides hsd n (q - 1) _ (pk_put hp (by omega)) he' (by rw [hl']; simp; omega)
        rw [if_neg (by omega)] at e3
        omega
/-- never more than the tricks left -/
theorem mn_le {fr : Bool} : ∀ (n q : Nat) (t : Tb), Pk t → Evn q t → n + t.cs.length = 4 * q → mn sd tr fr line n t ≤ q
  | 0, q, t, _, _, _ => Nat.zero_le _
  | n + 1, q, t, hp, he, hn => by
    have hl := hp.2
    rcases hm : mnL sd fr line t with _ | ⟨c, r⟩
    · rw [mn_succ, hm]; exact Nat.zero_le _
    · have hc : c ∈ mnL sd fr line t := by rw [hm]; exact List.mem_cons_self ..
      have hc2 := cards_pk hp (mnL_legal hc)
      obtain ⟨hc52, hb⟩ := legal_bit hc2
      have h1 : mn sd tr fr line (n + 1) t ≤ wonS sd tr t c + mn sd tr fr line n (t.put tr c).1 := by
        rw [mn_succ]
        exact minL_le (List.mem_map.2 ⟨c, hc, rfl⟩)
      obtain ⟨w1, w2⟩ := wonS_le sd tr t c
      rcases he.put hl tr (by omega) hb with ⟨hk, he', hl'⟩ | ⟨hk, he', hl'⟩
      · have := mn_le (fr := fr) n q _ (pk_put hp (by omega)) he' (by omega)
        have := w2 hk
        omega
      · have := mn_le (fr := fr) n (q - 1) _ (pk_put hp (by omega)) he' (by rw [hl']; simp; omega)
        omega
end Go.Proofs.YtnbillhodbcfbaaDoor
