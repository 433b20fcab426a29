/- Plain: positions that stay right; a line of best play makes what Solve says. -/
import Derived.Test.YtnbillhodbcfbaaDoorMDpm
import Derived.Test.YtnbillhodbcfbaaDoorMDpe
import Derived.Test.YtnbillhodbcfbaaDoorDmQa
namespace Go.Proofs.YtnbillhodbcfbaaDoor
open Go.RowKit Go.Sort Go.Shelf

/-- a right position of q cards in the hand whose turn it is -/
structure PosT (q : Nat) (t : Tb) : Prop where
  ok : TbOk t
  uniq : Uniq t
  evn : Evn q t
  q6 : q ≤ 6
  some : 0 < t.cs.length → 0 < q
  gone : ∀ x ∈ t.cs, ∀ s, s < 4 → (t.h s).testBit x = false
  fol : followTo t.h t.ld t.cs t.cs.length = true
theorem followTo_iff (h : Nat → Nat) (ld : Nat) (ps : List Nat) : ∀ k, followTo h ld ps k = true ↔ ∀ i, i < k → ps.getD i 0 / 13 = ps.getD 0 0 / 13 ∨ land (h ((ld + i) % 4)) (suitM (ps.getD 0 0 / 13)) = 0
  | 0 => ⟨fun _ i hi => by omega, fun _ => rfl⟩
  | k + 1 => by
    show (followTo h ld ps k && (decide _ || _ == 0)) = true ↔ _
    rw [Bool.and_eq_true, Bool.or_eq_true, decide_eq_true_eq, beq_iff_eq, followTo_iff h ld ps k]
    constructor
    · rintro ⟨h1, h2⟩ i hi
      by_cases e : i = k
      · subst e; exact h2
      · exact h1 i (by omega)
    · exact fun h1 => ⟨fun i hi => h1 i (by omega), h1 k (by omega)⟩
theorem getD_some {ps : List Nat} {i x : Nat} (h : ps[i]? = some x) : ps.getD i 0 = x := by rw [List.getD_eq_getElem?_getD, h]; rfl
theorem some_getD {ps : List Nat} {i : Nat} (h : i < ps.length) : ps[i]? = some (ps.getD i 0) := by rw [List.getD_eq_getElem?_getD, List.getElem?_eq_getElem h]; rfl
theorem PosT.right {q : Nat} {t : Tb} (H : PosT q t) {tr : Nat} (ht : tr ≤ 4) : rightB t.h tr t.ld t.cs = true := by
  have hl := H.ok.pk.2
  have hld := H.ok.ld
  have hp : pop (t.h ((t.ld + t.cs.length) % 4)) = q := H.evn.turn hl
  have h1 : handsOk t.h 4 = true := (handsOk_iff t.h 4).2 ⟨H.ok.pk.1, fun s s' c hs hs' hb hb' => H.uniq s s' c (own_hand hs hb) (own_hand hs' hb')⟩
  have h2 : playOk t.h t.cs t.cs.length = true := (playOk_iff t.h t.cs _).2 ⟨fun i hi => H.ok.c52 _ (List.mem_of_getElem? (some_getD hi)), fun i s hi hs => H.gone _ (List.mem_of_getElem? (some_getD hi)) s hs, fun i j hij hj e => by
    have h3 : Own t ((t.ld + i) % 4) (t.cs.getD i 0) := own_trick (some_getD (by omega))
    have h4 : Own t ((t.ld + j) % 4) (t.cs.getD j 0) := own_trick (some_getD hj)
    rw [← e] at h4
    have := H.uniq _ _ _ h3 h4
    omega⟩
  have h3 : evenB t.h t.ld t.cs.length = true := by
    unfold evenB
    rw [hp, (evenTo_iff t.h t.ld _ _ 4).2 H.evn, decide_eq_true H.q6]
    have : (decide (q = 0) && decide (0 < t.cs.length)) = false := by
      rw [Bool.and_eq_false_iff, decide_eq_false_iff_not, decide_eq_false_iff_not]
      by_cases e : q = 0
      · right; intro h; have := H.some h; omega
      · exact .inl e
    rw [this]; rfl
  unfold rightB
  rw [h1, h2, h3, H.fol, decide_eq_true ht, decide_eq_true (show t.ld ≤ 3 by omega), decide_eq_true (show t.cs.length ≤ 3 by omega)]
  rfl
theorem PosT.of {h : Nat → Nat} {tr ld : Nat} {ps : List Nat} (hw : ∀ s, W64 (h s)) (hr : rightB h tr ld ps = true) : PosT (pop (h ((ld + ps.length) % 4))) ⟨h, ld, ps⟩ ∧ tr ≤ 4 := by
  have hR := right_of hw hr
  unfold rightB at hr
  simp only [Bool.and_eq_true, decide_eq_true_eq] at hr
  obtain ⟨⟨⟨⟨⟨⟨h1, h2⟩, h3⟩, h4⟩, h5⟩, h6⟩, h7⟩ := hr
  obtain ⟨b1, b2, b3⟩ := (playOk_iff h ps _).1 h5
  refine ⟨⟨hR.ok, hR.uniq, hR.evn, hR.q6, hR.some, fun x hx s hs => ?_, h7⟩, h1⟩
  obtain ⟨i, hi⟩ := List.getElem?_of_mem hx
  have := b2 i s (List.getElem?_eq_some_iff.1 hi).1 hs
  rwa [getD_some hi] at this
theorem DealtP.pos {h : Nat → Nat} {q : Nat} (H : DealtP h q) (hq : q ≤ 6) {ld : Nat} (hl : ld ≤ 3) : PosT q ⟨h, ld, []⟩ := by
  have h1 := (PosT.of H.w64 (H.right hq (tr := 0) (by omega) hl)).1
  rw [H.turn] at h1
  exact h1
/-- the position after a card that can be played -/
theorem PosT.put {q : Nat} {t : Tb} (H : PosT q t) (tr : Nat) {c : Nat} (hc : c ∈ t.cards) : ∃ q', PosT q' (t.put tr c).1 ∧ q' ≤ q ∧ (t.put tr c).2 ≤ 1 ∧ ∀ m, m + 1 + t.cs.length = 4 * q → m + (t.put tr c).1.cs.length = 4 * q' := by
  obtain ⟨hc52, hleg⟩ := mem_cards.1 hc
  obtain ⟨hb, hfo⟩ := legal_iff.1 hleg
  have hl := H.ok.pk.2
  have hg : ∀ x ∈ (t.push c).cs, ∀ s, s < 4 → ((t.push c).h s).testBit x = false := by
    intro x hx s hs
    rw [push_h (by omega)]
    rcases List.mem_append.1 (show x ∈ t.cs ++ [c] from hx) with hx | hx
    · rw [H.gone x hx s hs]; rfl
    · rcases List.mem_singleton.1 hx with rfl
      cases hbs : (t.h s).testBit x
      · rfl
      · have := H.uniq s t.turn x (own_hand hs hbs) (own_hand t.turn_lt hb)
        rw [decide_eq_true this]; simp
  have hq0 : 0 < q := by
    have h1 := pop_landn _ c (by omega) hb
    have h2 := H.evn.turn hl
    omega
  rcases H.evn.put hl tr (by omega) hb with ⟨h1, h2, h3⟩ | ⟨h1, h2, h3⟩
  · have hps : t.put tr c = (t.push c, 0) := by
      rw [put_eq3]; unfold Tb.settle; rw [if_pos (by rw [push_len3]; omega)]
    refine ⟨q, ⟨ok_put H.ok hc52, uniq_put H.uniq (by omega) hl hb, h2, H.q6, fun _ => hq0, ?_, ?_⟩, Nat.le_refl _, (put_won tr c).2, fun m hm => by omega⟩
    · rw [hps]; exact hg
    · rw [hps]
      show followTo (t.push c).h t.ld (t.cs ++ [c]) (t.cs ++ [c]).length = true
      rw [followTo_iff]
      intro i hi
      rw [List.length_append, List.length_singleton] at hi
      have hd : ∀ j, (t.cs ++ [c]).getD j 0 = if j = t.cs.length then c else t.cs.getD j 0 := fun j => by
        rw [List.getD_eq_getElem?_getD, List.getD_eq_getElem?_getD]
        by_cases e1 : j < t.cs.length
        · rw [List.getElem?_append_left e1, if_neg (by omega)]
        · by_cases e2 : j = t.cs.length
          · rw [if_pos e2, List.getElem?_append_right (by omega), e2, Nat.sub_self]; rfl
          · rw [if_neg e2, List.getElem?_append_right (by omega), List.getElem?_eq_none (by simp; omega), List.getElem?_eq_none (by omega)]
      have hz : ∀ s q, (∀ x, (t.h s).testBit x = true → x / 13 ≠ q) → land ((t.push c).h s) (suitM q) = 0 := fun s q hno => by
        apply Nat.eq_of_testBit_eq
        intro x
        rw [testBit_land, suitM_bit, push_h (by omega), Nat.zero_testBit]
        cases hbx : (t.h s).testBit x
        · rfl
        · rw [decide_eq_false (hno x hbx)]; simp
      by_cases e0 : t.cs.length = 0
      · have : i = 0 := by omega
        subst this; exact .inl rfl
      · have h0 : (t.cs ++ [c]).getD 0 0 = t.cs.getD 0 0 := by rw [hd, if_neg (by omega)]
        rw [h0, hd]
        by_cases e : i = t.cs.length
        · rw [if_pos e]
          rcases hfo _ (some_getD (by omega)) with h4 | h4
          · exact .inl h4
          · right
            subst e
            exact hz _ _ h4
        · rw [if_neg e]
          rcases (followTo_iff _ _ _ _).1 H.fol i (by omega) with h4 | h4
          · exact .inl h4
          · refine .inr (hz _ _ fun x hx e2 => ?_)
            have := congrArg (fun m => m.testBit x) h4
            simp only [testBit_land, suitM_bit, hx, decide_eq_true e2, Nat.zero_testBit] at this
            cases this
  · refine ⟨q - 1, ⟨ok_put H.ok hc52, uniq_put H.uniq (by omega) hl hb, h2, by have := H.q6; omega, fun h => by rw [h3] at h; simp at h, (fun x hx => by rw [h3] at hx; cases hx), ?_⟩, by omega, (put_won tr c).2, fun m hm => by rw [h3]; simp; omega⟩
    rw [h3]; rfl
where
  put_eq3 {t : Tb} {tr c : Nat} : t.put tr c = (t.push c).settle tr := rfl
  push_len3 {t : Tb} {c : Nat} : (t.push c).cs.length = t.cs.length + 1 := by show (t.cs ++ [c]).length = _; simp
/-- best play makes as much as any card -/
theorem best_worth {tr m : Nat} {t : Tb} (h : t.cards ≠ []) : worth tr m t (t.best tr m) = val tr (m + 1) t ∧ (∀ c ∈ t.cards, better t.ns (worth tr m t c) (val tr (m + 1) t)) ∧ ∀ c ∈ t.cards, c < t.best tr m → worth tr m t c ≠ val tr (m + 1) t := by
  have e : val tr (m + 1) t = bestL t.ns (t.cards.map (worth tr m t)) := rfl
  obtain ⟨h1, h2⟩ := bestL_spec t.ns (l := t.cards.map (worth tr m t)) (by simpa using h)
  rw [← e] at h1 h2
  have h2' : ∀ c ∈ t.cards, better t.ns (worth tr m t c) (val tr (m + 1) t) := fun c hc => h2 _ (List.mem_map.2 ⟨c, hc, rfl⟩)
  -- the first best one
  have key : ∀ (l : List (Nat × Nat)) (b : Nat × Nat), (∀ x ∈ b :: l, better t.ns x.2 (val tr (m + 1) t)) → (∃ x ∈ b :: l, x.2 = val tr (m + 1) t) → (pickC (t.turn % 2) b l).2 = val tr (m + 1) t ∧ ∃ p s, b :: l = p ++ pickC (t.turn % 2) b l :: s ∧ ∀ x ∈ p, x.2 ≠ val tr (m + 1) t := by
    intro l
    induction l using snoc_ind with
    | h0 =>
      intro b hb hx
      obtain ⟨x, hx, e⟩ := hx
      rcases List.mem_singleton.1 hx with rfl
      exact ⟨e, [], [], rfl, fun _ h => by cases h⟩
    | h1 l c ih =>
      intro b hb hx
      rw [pickC_snoc]
      by_cases hl : ∃ x ∈ b :: l, x.2 = val tr (m + 1) t
      · obtain ⟨i1, p, s, i2, i3⟩ := ih b (fun x hx => hb x (by rcases List.mem_cons.1 hx with rfl | hx; exact List.mem_cons_self ..; exact List.mem_cons_of_mem _ (List.mem_append_left _ hx))) hl
        have hc := hb c (List.mem_cons_of_mem _ (List.mem_append_right _ (List.mem_singleton.2 rfl)))
        have : betterI (t.turn % 2) (pickC (t.turn % 2) b l).2 c.2 = (pickC (t.turn % 2) b l).2 := by
          rw [i1]
          unfold betterI
          unfold better Tb.ns at hc
          by_cases e : t.turn % 2 = 0
          · rw [if_pos e]
            simp only [e, beq_self_eq_true, if_true] at hc
            omega
          · rw [if_neg e]
            simp only [show (t.turn % 2 == 0) = false from beq_eq_false_iff_ne.2 e, Bool.false_eq_true, if_false] at hc
            omega
        rw [if_pos this]
        exact ⟨i1, p, s ++ [c], by rw [← List.cons_append, i2]; simp, i3⟩
      · have hcv : c.2 = val tr (m + 1) t := by
          obtain ⟨x, hx, e⟩ := hx
          rcases List.mem_cons.1 hx with rfl | hx
          · exact absurd ⟨x, List.mem_cons_self .., e⟩ hl
          · rcases List.mem_append.1 hx with hx | hx
            · exact absurd ⟨x, List.mem_cons_of_mem _ hx, e⟩ hl
            · rcases List.mem_singleton.1 hx with rfl; exact e
        have hpm : pickC (t.turn % 2) b l ∈ b :: l := by
          rcases pickC_mem (t.turn % 2) l b with h | h
          · rw [h]; exact List.mem_cons_self ..
          · exact List.mem_cons_of_mem _ h
        have hpn : (pickC (t.turn % 2) b l).2 ≠ val tr (m + 1) t := fun e => hl ⟨_, hpm, e⟩
        have hpb := hb (pickC (t.turn % 2) b l) (by rcases List.mem_cons.1 hpm with h | h; rw [h]; exact List.mem_cons_self ..; exact List.mem_cons_of_mem _ (List.mem_append_left _ h))
        have : ¬ betterI (t.turn % 2) (pickC (t.turn % 2) b l).2 c.2 = (pickC (t.turn % 2) b l).2 := by
          rw [hcv]
          obtain ⟨pv, hpv⟩ : ∃ pv, (pickC (t.turn % 2) b l).2 = pv := ⟨_, rfl⟩
          rw [hpv] at hpn hpb ⊢
          unfold betterI
          unfold better Tb.ns at hpb
          by_cases e : t.turn % 2 = 0
          · rw [if_pos e]
            simp only [e, beq_self_eq_true, if_true] at hpb
            omega
          · rw [if_neg e]
            simp only [show (t.turn % 2 == 0) = false from beq_eq_false_iff_ne.2 e, Bool.false_eq_true, if_false] at hpb
            omega
        rw [if_neg this]
        exact ⟨hcv, b :: l, [], by simp, fun x hx e => hl ⟨x, hx, e⟩⟩
  have hne : t.chs tr m ≠ [] := by unfold Tb.chs; simpa using h
  have hch : t.chs tr m = (t.chs tr m).headD (0, 0) :: (t.chs tr m).tail := by
    rcases hc : t.chs tr m with _ | ⟨x, l⟩
    · exact absurd hc hne
    · rfl
  have hmem : ∀ x ∈ t.chs tr m, x.1 ∈ t.cards ∧ x.2 = worth tr m t x.1 := fun x hx => by
    obtain ⟨c, hc, rfl⟩ := List.mem_map.1 (show x ∈ t.cards.map fun c => (c, worth tr m t c) from hx)
    exact ⟨hc, rfl⟩
  obtain ⟨k1, p, s, k2, k3⟩ := key (t.chs tr m).tail ((t.chs tr m).headD (0, 0)) (fun x hx => by
    rw [← hch] at hx
    obtain ⟨hx1, hx2⟩ := hmem x hx
    rw [hx2]; exact h2' _ hx1) (by
    obtain ⟨c, hc, e⟩ := List.mem_map.1 h1
    exact ⟨(c, worth tr m t c), by rw [← hch]; exact List.mem_map.2 ⟨c, hc, rfl⟩, e⟩)
  rw [← hch] at k2
  have hpick : pickC (t.turn % 2) ((t.chs tr m).headD (0, 0)) (t.chs tr m).tail ∈ t.chs tr m := by
    have h3 : ∀ (L : List (Nat × Nat)) x, L = p ++ x :: s → x ∈ L := fun L x e => by rw [e]; exact List.mem_append_right _ (List.mem_cons_self ..)
    exact h3 _ _ k2
  have hb1 : (pickC (t.turn % 2) ((t.chs tr m).headD (0, 0)) (t.chs tr m).tail).1 = t.best tr m := rfl
  refine ⟨?_, h2', fun c hc hlt e => ?_⟩
  · rw [← hb1, ← (hmem _ hpick).2]; exact k1
  · have hx : (c, worth tr m t c) ∈ t.chs tr m := List.mem_map.2 ⟨c, hc, rfl⟩
    have hsort : (t.chs tr m).Pairwise fun a b => a.1 < b.1 := by
      unfold Tb.chs
      rw [List.pairwise_map]
      exact cards_sorted t
    rw [k2, List.pairwise_append, List.pairwise_cons] at hsort
    rw [k2] at hx
    rcases List.mem_append.1 hx with hx | hx
    · exact k3 _ hx e
    · rcases List.mem_cons.1 hx with hx | hx
      · have := congrArg Prod.fst hx
        dsimp only at this
        rw [hb1] at this; omega
      · have := hsort.2.1.1 _ hx
        rw [hb1] at this
        dsimp only at this
        omega
end Go.Proofs.YtnbillhodbcfbaaDoor
