/- Plain: sure tricks. -/
import Derived.Test.YtpobcaopfeddgaaDoorDmRb
import Derived.Test.YtpobcaopfeddgaaDoorDmRa
namespace Go.Proofs.YtpobcaopfeddgaaDoor
open Go.RowKit Go.Sort Go.Shelf

theorem bestTo_at {tr : Nat} {l : Nat → Nat} {w : Nat} (h1 : ∀ j, j < w → beatsB tr (l w) (l j) = true) : ∀ n, w ≤ n → (∀ j, w < j → j ≤ n → beatsB tr (l j) (l w) = false) → bestTo tr l n = w
  | 0, h, _ => by obtain rfl : w = 0 := by omega
                  rfl
  | n + 1, h, h2 => by
    by_cases e : w = n + 1
    · have := bestTo_le tr l n
      subst e
      unfold bestTo
      rw [if_pos (h1 _ (by omega))]
    · have ih := bestTo_at h1 n (by omega) fun j hj hj' => h2 j hj (by omega)
      unfold bestTo
      rw [ih, h2 (n + 1) (by omega) (Nat.le_refl _)]; rfl
theorem own_push_of {t : Tb} {s x c : Nat} (hc : c < 64) (h : Own t s x) : Own (t.push c) s x := by
  obtain ⟨hs, h | ⟨i, hi, hsi⟩⟩ := h
  · by_cases e : s = t.turn ∧ x = c
    · obtain ⟨rfl, rfl⟩ := e
      exact ⟨hs, .inr ⟨t.cs.length, by show (t.cs ++ [x])[t.cs.length]? = some x; rw [List.getElem?_append_right (Nat.le_refl _), Nat.sub_self]; rfl, rfl⟩⟩
    · refine ⟨hs, .inl ?_⟩
      rw [push_h hc, h, Bool.true_and]
      by_cases e1 : s = t.turn
      · rw [decide_eq_false (fun e2 => e ⟨e1, e2⟩)]; simp
      · rw [decide_eq_false e1]; rfl
  · exact ⟨hs, .inr ⟨i, by show (t.cs ++ [c])[i]? = some x; rw [List.getElem?_append_left (List.getElem?_eq_some_iff.1 hi).1]; exact hi, hsi⟩⟩
theorem val_ge_all {tr m b : Nat} {t : Tb} (hne : t.cards ≠ []) (h : ∀ c ∈ t.cards, b ≤ worth tr m t c) : b ≤ val tr (m + 1) t := by
  have e : val tr (m + 1) t = bestL t.ns (t.cards.map (worth tr m t)) := rfl
  obtain ⟨h1, -⟩ := bestL_spec t.ns (l := t.cards.map (worth tr m t)) (by simpa using hne)
  rw [← e] at h1
  obtain ⟨c, hc, hv⟩ := List.mem_map.1 h1
  rw [← hv]; exact h c hc
theorem val_ge_one {tr m b c : Nat} {t : Tb} (hns : t.ns = true) (hc : c ∈ t.cards) (h : b ≤ worth tr m t c) : b ≤ val tr (m + 1) t := by
  have e : val tr (m + 1) t = bestL t.ns (t.cards.map (worth tr m t)) := rfl
  obtain ⟨-, h2⟩ := bestL_spec t.ns (l := t.cards.map (worth tr m t)) (by intro e; rw [List.map_eq_nil_iff] at e; rw [e] at hc; cases hc)
  have := h2 _ (List.mem_map.2 ⟨c, hc, rfl⟩)
  rw [← e] at this
  unfold better at this
  rw [hns] at this
  simp only [if_true] at this
  exact Nat.le_trans h this
theorem put_short {t : Tb} {tr c : Nat} (h : t.cs.length < 3) : t.put tr c = (t.push c, 0) := by
  rw [put_eq]; unfold Tb.settle; rw [if_pos (by rw [push_len]; omega)]
theorem put_full {t : Tb} {tr c : Nat} (h : t.cs.length = 3) : t.put tr c = (⟨(t.push c).h, (t.push c).win tr, []⟩, 1 - (t.push c).win tr % 2) := by
  rw [put_eq]; unfold Tb.settle; rw [if_neg (by rw [push_len]; omega)]
theorem pop_some {m c : Nat} (hc : c < 64) (hb : m.testBit c = true) : 0 < pop m := by
  have := pop_landn m c hc hb
  omega
/-- the highest trump is worth a trick -/
theorem top_trump {tr C : Nat} (hC : C / 13 = tr) : ∀ (m q : Nat) (t : Tb), PosT q t → m + t.cs.length = 4 * q → Own t 0 C → (∀ s x, Own t s x → x / 13 = tr → x ≤ C) → 1 ≤ val tr m t
  | 0, q, t, H, hm, ho, _ => by
    exfalso
    have h1 := H.ok.pk.2
    obtain rfl : q = 0 := by omega
    obtain ⟨-, hb | ⟨i, hi, -⟩⟩ := ho
    · have h2 := H.evn ((4 - t.ld) % 4) (Nat.mod_lt _ (by decide))
      have h3 := H.ok.ld
      rw [show (t.ld + (4 - t.ld) % 4) % 4 = 0 by omega] at h2
      have h4 := pop_some (by have := H.ok.pk.1 0 (by decide) C hb; omega) hb
      omega
    · have := (List.getElem?_eq_some_iff.1 hi).1
      omega
  | m + 1, q, t, H, hm, ho, hmax => by
    have hl := H.ok.pk.2
    have hne : t.cards ≠ [] := cards_some H.ok H.evn (by omega)
    refine val_ge_all hne fun c hc => ?_
    obtain ⟨hc52, hleg⟩ := mem_cards.1 hc
    have hb := (legal_iff.1 hleg).1
    obtain ⟨q', hp, -, -, hm'⟩ := H.put tr hc
    have hm' := hm' m hm
    have hop := own_push_of (c := c) (by omega) ho
    have hback : ∀ {s x}, Own (t.push c) s x → Own t s x := fun h => own_push (by omega) hl hb h
    rw [worth_eq]
    by_cases h3 : t.cs.length < 3
    · rw [put_short h3] at hp hm' ⊢
      have := top_trump hC m q' _ hp hm' hop fun s x hx => hmax s x (hback hx)
      exact Nat.le_trans this (Nat.le_add_left _ _)
    · rw [put_full (by omega)] at hp hm' ⊢
      obtain ⟨-, hh | ⟨w, hw, hsw⟩⟩ := hop
      · have := top_trump hC m q' _ hp hm' ⟨by decide, .inl hh⟩ fun s x hx => hmax s x (hback (by
          obtain ⟨hs, hx | ⟨i, hi, -⟩⟩ := hx
          · exact ⟨hs, .inl hx⟩
          · cases hi))
        exact Nat.le_trans this (Nat.le_add_left _ _)
      · have hlen : (t.push c).cs.length = 4 := by rw [push_len]; omega
        have hw4 : w < 4 := by rw [← hlen]; exact (List.getElem?_eq_some_iff.1 hw).1
        have hgw : (t.push c).cs.getD w 0 = C := getD_some hw
        have hoj : ∀ j, j < 4 → Own t ((t.ld + j) % 4) ((t.push c).cs.getD j 0) := fun j hj => hback (own_trick (t := t.push c) (some_getD (by omega)))
        have hne2 : ∀ j, j < 4 → j ≠ w → (t.push c).cs.getD j 0 ≠ C := fun j hj hjw e => by
          have h5 := hoj j hj
          rw [e] at h5
          have := H.uniq _ _ _ h5 ho
          have hsw' : (t.ld + w) % 4 = 0 := hsw
          omega
        have hbest : bestTo tr (fun i => (t.push c).cs.getD i 0) 3 = w := by
          refine bestTo_at (fun j hj => ?_) 3 (by omega) fun j hj hj3 => ?_
          · show beatsB tr ((t.push c).cs.getD w 0) ((t.push c).cs.getD j 0) = true
            rw [hgw]
            unfold beatsB
            split
            · rename_i e
              rw [decide_eq_true_eq]
              have h6 := hmax _ _ (hoj j (by omega)) (by rw [← e]; exact hC)
              have h7 := hne2 j (by omega) (by omega)
              omega
            · exact decide_eq_true hC
          · show beatsB tr ((t.push c).cs.getD j 0) ((t.push c).cs.getD w 0) = false
            rw [hgw]
            unfold beatsB
            split
            · rename_i e
              rw [decide_eq_false_iff_not]
              have h6 := hmax _ _ (hoj j (by omega)) (by rw [e]; exact hC)
              omega
            · rename_i e
              rw [decide_eq_false_iff_not]
              omega
        have hwin : (t.push c).win tr = 0 := by
          unfold Tb.win
          rw [hbest]; exact hsw
        rw [hwin]
        exact Nat.le_add_right 1 _
/-- the hand that leads has the highest cards of a suit, without trumps -/
structure NtI (sx mth k : Nat) (t : Tb) : Prop where
  ld : t.ld = 0
  oth : ∀ s, 0 < s → s < 4 → ∀ c, (t.h s).testBit c = true → c / 13 = sx → c < mth
  tri : ∀ i c, 0 < i → t.cs[i]? = some c → c / 13 = sx → c < mth
  led : ∀ c, t.cs[0]? = some c → c / 13 = sx ∧ mth ≤ c
  lo : 13 * sx ≤ mth
  cnt : k + cnt (t.h 0) mth ≤ cnt (t.h 0) (13 * sx + 13)
theorem cnt_some {m a : Nat} : ∀ {b : Nat}, cnt m a < cnt m b → ∃ c, a ≤ c ∧ c < b ∧ m.testBit c = true
  | 0, h => by simp [cnt] at h
  | b + 1, h => by
    by_cases e : m.testBit b = true
    · rcases Nat.lt_or_ge b a with h1 | h1
      · exfalso
        have : ∀ k, cnt m (b + 1) ≤ cnt m (b + 1 + k) := fun k => by
          induction k with
          | zero => exact Nat.le_refl _
          | succ k ih => exact Nat.le_trans ih (by show _ ≤ cnt m (b + 1 + k) + _; omega)
        have := this (a - (b + 1))
        rw [show b + 1 + (a - (b + 1)) = a by omega] at this
        omega
      · exact ⟨b, h1, by omega, e⟩
    · have e' : m.testBit b = false := by simpa using e
      obtain ⟨c, h1, h2, h3⟩ := cnt_some (m := m) (a := a) (b := b) (by
        have : cnt m (b + 1) = cnt m b + (m.testBit b).toNat := rfl
        rw [e'] at this
        simp at this
        omega)
      exact ⟨c, h1, by omega, h3⟩
theorem top_nt (sx mth : Nat) : ∀ (m q k : Nat) (t : Tb), PosT q t → m + t.cs.length = 4 * q → NtI sx mth k t → k + (if t.cs.length = 0 then 0 else 1) ≤ val 4 m t
  | 0, q, k, t, H, hm, I => by
    have h1 := H.ok.pk.2
    obtain rfl : q = 0 := by omega
    rw [if_pos (by omega)]
    rcases Nat.eq_zero_or_pos k with rfl | hk
    · exact Nat.zero_le _
    · exfalso
      obtain ⟨c, -, -, hb⟩ := cnt_some (m := t.h 0) (a := mth) (b := 13 * sx + 13) (by have := I.cnt; omega)
      have h2 := H.evn ((4 - t.ld) % 4) (Nat.mod_lt _ (by decide))
      have h3 := H.ok.ld
      rw [show (t.ld + (4 - t.ld) % 4) % 4 = 0 by omega] at h2
      have h4 := pop_some (by have := H.ok.pk.1 0 (by decide) c hb; omega) hb
      omega
  | m + 1, q, k, t, H, hm, I => by
    have hl := H.ok.pk.2
    have hld := I.ld
    have hturn : t.turn = t.cs.length := by unfold Tb.turn; rw [hld]; omega
    by_cases h0 : t.cs.length = 0
    · rw [if_pos h0]
      rcases Nat.eq_zero_or_pos k with rfl | hk
      · exact Nat.zero_le _
      obtain ⟨c, hc1, hc2, hb⟩ := cnt_some (m := t.h 0) (a := mth) (b := 13 * sx + 13) (by have := I.cnt; omega)
      have hc52 : c < 52 := H.ok.pk.1 0 (by decide) c hb
      have hcs : t.cs = [] := List.length_eq_zero_iff.1 h0
      have hc : c ∈ t.cards := mem_cards.2 ⟨hc52, legal_iff.2 ⟨by rw [hturn, h0]; exact hb, fun d hd => by rw [hcs] at hd; cases hd⟩⟩
      refine val_ge_one (by unfold Tb.ns; rw [hturn, h0]; rfl) hc ?_
      obtain ⟨q', hp, -, -, hm'⟩ := H.put 4 hc
      have hm' := hm' m hm
      rw [worth_eq]
      rw [put_short (by omega)] at hp hm' ⊢
      have hnext : NtI sx mth (k - 1) (t.push c) := by
        refine ⟨hld, fun s h1 h2 x hx hq => I.oth s h1 h2 x ?_ hq, fun i x hi hx => ?_, fun x hx => ?_, I.lo, ?_⟩
        · rw [push_h (by omega)] at hx; exact (Bool.and_eq_true_iff.1 hx).1
        · have := (List.getElem?_eq_some_iff.1 hx).1
          rw [push_len] at this; omega
        · have hx' : (t.cs ++ [c])[0]? = some x := hx
          rw [hcs] at hx'
          obtain rfl : c = x := by simpa using hx'
          exact ⟨by have := I.lo; omega, hc1⟩
        · have e : (t.push c).h 0 = landn (t.h 0) (shl1 c) := by
            show (if 0 = t.turn then _ else _) = _
            rw [if_pos (by omega)]
          rw [e]
          have h5 := cnt_landn (t.h 0) c (by omega) hb mth
          have h6 := cnt_landn (t.h 0) c (by omega) hb (13 * sx + 13)
          rw [if_neg (by omega)] at h5
          rw [if_pos hc2] at h6
          have := I.cnt
          omega
      have := top_nt sx mth m q' (k - 1) _ hp hm' hnext
      rw [push_len, if_neg (by omega)] at this
      have this2 : k - 1 + 1 ≤ val 4 m (t.push c) := this
      show k ≤ 0 + val 4 m (t.push c)
      omega
    · rw [if_neg h0]
      have hne : t.cards ≠ [] := cards_some H.ok H.evn (by omega)
      refine val_ge_all hne fun c hc => ?_
      obtain ⟨hc52, hleg⟩ := mem_cards.1 hc
      have hb := (legal_iff.1 hleg).1
      rw [hturn] at hb
      obtain ⟨q', hp, -, -, hm'⟩ := H.put 4 hc
      have hm' := hm' m hm
      have hh0 : (t.push c).h 0 = t.h 0 := by
        show (if 0 = t.turn then _ else _) = _
        rw [if_neg (by omega)]
      have hoth : ∀ s, 0 < s → s < 4 → ∀ x, ((t.push c).h s).testBit x = true → x / 13 = sx → x < mth := fun s h1 h2 x hx hq => by
        rw [push_h (by omega)] at hx
        exact I.oth s h1 h2 x (Bool.and_eq_true_iff.1 hx).1 hq
      have htri : ∀ i x, 0 < i → (t.push c).cs[i]? = some x → x / 13 = sx → x < mth := fun i x hi hx hq => by
        have hx' : (t.cs ++ [c])[i]? = some x := hx
        by_cases e : i < t.cs.length
        · rw [List.getElem?_append_left e] at hx'
          exact I.tri i x hi hx' hq
        · have := (List.getElem?_eq_some_iff.1 hx').1
          simp only [List.length_append, List.length_singleton] at this
          obtain rfl : i = t.cs.length := by omega
          rw [List.getElem?_append_right (Nat.le_refl _), Nat.sub_self] at hx'
          obtain rfl : c = x := by simpa using hx'
          exact I.oth _ (by omega) hl c hb hq
      have hled : ∀ x, (t.push c).cs[0]? = some x → x / 13 = sx ∧ mth ≤ x := fun x hx => by
        have hx' : (t.cs ++ [c])[0]? = some x := hx
        rw [List.getElem?_append_left (by omega)] at hx'
        exact I.led x hx'
      rw [worth_eq]
      by_cases h3 : t.cs.length < 3
      · rw [put_short h3] at hp hm' ⊢
        have := top_nt sx mth m q' k _ hp hm' ⟨hld, hoth, htri, hled, I.lo, by rw [hh0]; exact I.cnt⟩
        rw [push_len, if_neg (by omega)] at this
        exact Nat.le_trans this (Nat.le_add_left _ _)
      · rw [put_full (by omega)] at hp hm' ⊢
        have hlen : (t.push c).cs.length = 4 := by rw [push_len]; omega
        have hbest : bestTo 4 (fun i => (t.push c).cs.getD i 0) 3 = 0 := by
          refine bestTo_at (fun j hj => by omega) 3 (by omega) fun j hj hj3 => ?_
          show beatsB 4 ((t.push c).cs.getD j 0) ((t.push c).cs.getD 0 0) = false
          have h5 := some_getD (ps := (t.push c).cs) (i := j) (by omega)
          have h6 := some_getD (ps := (t.push c).cs) (i := 0) (by omega)
          have h7 := hled _ h6
          have h8 : (t.push c).cs.getD j 0 < 52 := by
            rcases List.mem_append.1 (show (t.push c).cs.getD j 0 ∈ t.cs ++ [c] from List.mem_of_getElem? h5) with h | h
            · exact H.ok.c52 _ h
            · rcases List.mem_singleton.1 h with e; rw [e]; exact hc52
          unfold beatsB
          split
          · rename_i e
            rw [decide_eq_false_iff_not]
            have := htri j _ hj h5 (by rw [e]; exact h7.1)
            omega
          · rw [decide_eq_false_iff_not]; omega
        have hwin : (t.push c).win 4 = 0 := by
          unfold Tb.win
          rw [hbest]
          show (t.ld + 0) % 4 = 0
          rw [hld]
        rw [hwin] at hp hm' ⊢
        have := top_nt sx mth m q' k ⟨(t.push c).h, 0, []⟩ hp hm' ⟨rfl, hoth, (fun i x _ hx => by cases hx), (fun x hx => by cases hx), I.lo, by show k + cnt ((t.push c).h 0) mth ≤ cnt ((t.push c).h 0) _; rw [hh0]; exact I.cnt⟩
        have h9 : k + 0 ≤ val 4 m ⟨(t.push c).h, 0, []⟩ := this
        show k + 1 ≤ (1 - 0 % 2) + val 4 m ⟨(t.push c).h, 0, []⟩
        omega
/-- hands passed on so that seat i's comes to North -/
def rotN (h : Nat → Nat) (i s : Nat) : Nat := h ((s + i) % 4)
theorem rotN_dealt {h : Nat → Nat} {q : Nat} (H : DealtP h q) (i : Nat) : DealtP (rotN h i) q := by
  refine ⟨fun s => H.w64 _, fun s hs c hc => H.in52 _ (Nat.mod_lt _ (by decide)) c hc, fun s s' c hs hs' h1 h2 => ?_, fun s hs => H.pops _ (Nat.mod_lt _ (by decide))⟩
  have := H.apart _ _ c (Nat.mod_lt _ (by decide)) (Nat.mod_lt _ (by decide)) h1 h2
  omega
theorem rotN_val {h : Nat → Nat} {q : Nat} (H : DealtP h q) (hq : q ≤ 6) {ld i : Nat} (hl : ld < 4) (hi : i < 4) (tr : Nat) : val tr (4 * q) ⟨rotN h i, (ld + 4 - i) % 4, []⟩ = if i % 2 = 0 then val tr (4 * q) ⟨h, ld, []⟩ else q - val tr (4 * q) ⟨h, ld, []⟩ := by
  have hp := H.pos (q := q) hq (ld := ld) (by omega)
  have := rot_val (k := (4 - i) % 4) tr (4 * q) q ⟨h, ld, []⟩ ⟨rotN h i, (ld + 4 - i) % 4, []⟩ ⟨by show (ld + 4 - i) % 4 = (ld + (4 - i) % 4) % 4; omega, rfl, fun s hs => by
    show rotN h i ((s + (4 - i) % 4) % 4) = h s
    unfold rotN
    rw [show ((s + (4 - i) % 4) % 4 + i) % 4 = s by omega]⟩ hp.ok hp.evn (by simp)
  rw [this]
  by_cases e : i % 2 = 0
  · rw [if_pos e, if_pos (by omega)]
  · rw [if_neg e, if_neg (by omega)]
/-- what the side of a seat wins -/
def sideV (s q v : Nat) : Nat := if s % 2 = 0 then v else q - v
/-- the hand that leads has the highest cards of a suit -/
theorem sure_nt {h : Nat → Nat} {q ld : Nat} (H : DealtP h q) (hq : q ≤ 6) (hl : ld < 4) {sx d k : Nat} (hd : 13 * sx ≤ d) (hk : k + cnt (h ld) d ≤ cnt (h ld) (13 * sx + 13)) (hoth : ∀ s, s < 4 → s ≠ ld → ∀ c, (h s).testBit c = true → c / 13 = sx → c < d) :
    k ≤ sideV ld q (val 4 (4 * q) ⟨h, ld, []⟩) := by
  have h1 := rotN_val H hq hl hl 4
  rw [show (ld + 4 - ld) % 4 = 0 by omega] at h1
  have h2 := top_nt sx d (4 * q) q k ⟨rotN h ld, 0, []⟩ ((rotN_dealt H ld).pos hq (by omega)) (by simp) ⟨rfl, fun s h1 h2 c hc hx => hoth _ (Nat.mod_lt _ (by decide)) (by omega) c hc hx, (fun i c _ hx => by cases hx), (fun c hx => by cases hx), hd, by
    show k + cnt (rotN h ld 0) d ≤ cnt (rotN h ld 0) _
    unfold rotN
    rw [show (0 + ld) % 4 = ld by omega]; exact hk⟩
  rw [h1] at h2
  exact h2
theorem own_deal {h : Nat → Nat} {ld s c : Nat} (ho : Own ⟨h, ld, []⟩ s c) : s < 4 ∧ (h s).testBit c = true := by
  obtain ⟨hs, hb | ⟨i, hi, -⟩⟩ := ho
  · exact ⟨hs, hb⟩
  · cases hi
/-- a hand has the highest trump -/
theorem sure_trump {h : Nat → Nat} {q ld tr C i : Nat} (H : DealtP h q) (hq : q ≤ 6) (hl : ld < 4) (hi : i < 4) (hb : (h i).testBit C = true) (hC : C / 13 = tr) (hmax : ∀ s x, s < 4 → (h s).testBit x = true → x / 13 = tr → x ≤ C) :
    1 ≤ sideV i q (val tr (4 * q) ⟨h, ld, []⟩) := by
  have h1 := rotN_val H hq hl hi tr
  have h2 := top_trump hC (4 * q) q ⟨rotN h i, (ld + 4 - i) % 4, []⟩ ((rotN_dealt H i).pos hq (by omega)) (by simp) (own_hand (by decide) (by show (rotN h i 0).testBit C = true; unfold rotN; rw [show (0 + i) % 4 = i by omega]; exact hb)) fun s x hx e => hmax _ x (Nat.mod_lt _ (by decide)) (own_deal hx).2 e
  rw [h1] at h2
  exact h2
end Go.Proofs.YtpobcaopfeddgaaDoor
