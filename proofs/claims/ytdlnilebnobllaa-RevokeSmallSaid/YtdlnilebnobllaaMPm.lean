/- RvPm1, RvPm2, RvPm3, RvPm4 in one text. -/
import Derived.Test.YtdlnilebnobllaaRvMk
import Derived.Test.YtdlnilebnobllaaRvPlP
import Derived.Test.YtdlnilebnobllaaRevF

/- Plain: counting bits, and the deal of finesselaw13.Made. -/
namespace Go.Proofs.Ytdlnilebnobllaa
open Go.RowKit Go.Shelf Go.Sort

theorem cnt_lor (m c : Nat) (hc : c < 64) (hb : m.testBit c = false) : ∀ k, cnt (lor m (shl1 c)) k = cnt m k + if c < k then 1 else 0
  | 0 => by simp [cnt]
  | k + 1 => by
    simp only [cnt, cnt_lor m c hc hb k, testBit_lor, testBit_shl1]
    by_cases h : c = k
    · subst h; simp [hb, hc]
    · simp [h]; split <;> split <;> omega
theorem pop_lor (m c : Nat) (hc : c < 64) (hb : m.testBit c = false) : pop (lor m (shl1 c)) = pop m + 1 := by
  unfold pop; rw [cnt_lor m c hc hb, if_pos hc]
theorem cnt_landn (m c : Nat) (hc : c < 64) (hb : m.testBit c = true) : ∀ k, cnt (landn m (shl1 c)) k + (if c < k then 1 else 0) = cnt m k
  | 0 => by simp [cnt]
  | k + 1 => by
    have ih := cnt_landn m c hc hb k
    simp only [cnt, testBit_landn, testBit_shl1]
    by_cases h : c = k
    · subst h; simp [hb, hc] at ih ⊢; omega
    · simp [h] at ih ⊢
      split <;> split at ih <;> omega
theorem pop_landn (m c : Nat) (hc : c < 64) (hb : m.testBit c = true) : pop (landn m (shl1 c)) + 1 = pop m := by
  have := cnt_landn m c hc hb 64
  rw [if_pos hc] at this; exact this
theorem cnt_pos (m : Nat) : ∀ k, 0 < cnt m k → ∃ c, c < k ∧ m.testBit c = true
  | 0, h => by simp [cnt] at h
  | k + 1, h => by
    unfold cnt at h
    cases hb : m.testBit k
    · rw [hb] at h
      obtain ⟨c, h1, h2⟩ := cnt_pos m k (by simpa using h)
      exact ⟨c, by omega, h2⟩
    · exact ⟨k, by omega, hb⟩
theorem pop_nil : pop 0 = 0 := by decide +kernel

/-- the hands of a deal under way -/
structure DealOk (s : DlS) (i : Nat) : Prop where
  nodup : s.deck.Nodup
  lt : ∀ c ∈ s.deck, c < 52
  bit : ∀ j c, (s.h j).testBit c = true → c < 52 ∧ c ∉ s.deck
  apart : ∀ j j' c, j ≠ j' → (s.h j).testBit c = true → (s.h j').testBit c = false
  pop : ∀ j, j < 4 → pop (s.h j) = (i + 3 - j) / 4
theorem deal_next (x : Sk) {s : DlS} {i : Nat} (h : DealOk s i) (hl : 0 < s.deck.length) : DealOk (s.next x i) (i + 1) := by
  have hk : x.at i % s.deck.length < s.deck.length := Nat.mod_lt _ hl
  unfold DlS.next
  generalize x.at i % s.deck.length = k at *
  have hg : s.deck.getD k 0 = s.deck[k] := by rw [List.getD_eq_getElem?_getD, List.getElem?_eq_getElem hk]; rfl
  have hme : s.deck.getD k 0 ∈ s.deck := getD_mem_of_lt hk
  have hdec : s.deck = s.deck.take k ++ s.deck.getD k 0 :: s.deck.drop (k + 1) := by
    rw [hg]; exact (List.take_append_drop k s.deck).symm.trans (by rw [List.drop_eq_getElem_cons hk])
  have hc52 := h.lt _ hme
  have hfree : ∀ j, (s.h j).testBit (s.deck.getD k 0) = false := fun j => by
    cases hb : (s.h j).testBit (s.deck.getD k 0)
    · rfl
    · exact absurd hme (h.bit j _ hb).2
  generalize s.deck.getD k 0 = c at *
  have hnd := h.nodup
  rw [hdec] at hnd
  have hnd2 := List.nodup_append.1 hnd
  have hcn : c ∉ s.deck.take k ++ s.deck.drop (k + 1) := by
    intro hm
    rcases List.mem_append.1 hm with hm | hm
    · exact hnd2.2.2 c hm c (by simp) rfl
    · exact (List.nodup_cons.1 hnd2.2.1).1 hm
  have hsub : ∀ z, z ∈ s.deck.take k ++ s.deck.drop (k + 1) → z ∈ s.deck := fun z hz => by
    rcases List.mem_append.1 hz with hz | hz
    · exact List.mem_of_mem_take hz
    · exact List.mem_of_mem_drop hz
  refine ⟨?_, fun z hz => h.lt z (hsub z hz), ?_, ?_, ?_⟩
  · exact List.nodup_append.2 ⟨hnd2.1, (List.nodup_cons.1 hnd2.2.1).2, fun a ha b hb e => hnd2.2.2 a ha b (by simp [hb]) e⟩
  · intro j z hz
    dsimp only at hz ⊢
    unfold setH at hz
    split at hz
    next hj =>
      rw [testBit_lor, testBit_shl1, Bool.or_eq_true] at hz
      rcases hz with hz | hz
      · exact ⟨(h.bit _ z hz).1, fun hm => (h.bit _ z hz).2 (hsub z hm)⟩
      · simp at hz; obtain ⟨rfl, _⟩ := hz; exact ⟨hc52, hcn⟩
    next hj => exact ⟨(h.bit _ z hz).1, fun hm => (h.bit _ z hz).2 (hsub z hm)⟩
  · intro j j' z hjj hz
    dsimp only at hz ⊢
    unfold setH at hz ⊢
    by_cases h1 : j = i % 4
    · have h2 : j' ≠ i % 4 := by omega
      rw [if_pos h1, testBit_lor, testBit_shl1, Bool.or_eq_true] at hz
      rw [if_neg h2]
      rcases hz with hz | hz
      · exact h.apart _ _ z (by omega) hz
      · simp at hz; obtain ⟨rfl, _⟩ := hz; exact hfree j'
    · rw [if_neg h1] at hz
      by_cases h2 : j' = i % 4
      · rw [if_pos h2, testBit_lor, testBit_shl1, Bool.or_eq_false_iff]
        refine ⟨h.apart j _ z (by omega) hz, ?_⟩
        simp only [Bool.and_eq_false_iff, decide_eq_false_iff_not]
        left; rintro rfl; rw [hfree j] at hz; cases hz
      · rw [if_neg h2]; exact h.apart j j' z hjj hz
  · intro j hj
    dsimp only
    unfold setH
    split
    next he => subst he; rw [pop_lor _ _ (by omega) (hfree _), h.pop _ hj]; omega
    next he => rw [h.pop _ hj]; omega
theorem deal_ok (x : Sk) : ∀ i, i ≤ 52 → DealOk (x.dealN i) i
  | 0, _ => by
    refine ⟨List.nodup_range, fun c hc => List.mem_range.1 hc, fun j c h => ?_, fun j j' c _ h => ?_, fun j hj => ?_⟩
    · simp [Sk.dealN] at h
    · simp [Sk.dealN] at h
    · simp only [Sk.dealN, pop_nil]; omega
  | i + 1, h => deal_next x (deal_ok x i (by omega)) (by rw [dealN_len x i (by omega)]; omega)
theorem Sk.n_le (x : Sk) : 1 ≤ x.n ∧ x.n ≤ 6 := by unfold Sk.n; omega
theorem lt_of_bits {m : Nat} (h : ∀ c, m.testBit c = true → c < 52) : m < 4503599627370496 := by
  refine Nat.lt_pow_two_of_testBit (n := 52) m fun i hi => ?_
  cases hb : m.testBit i
  · rfl
  · exact absurd (h i hb) (by omega)
theorem allTo_bit (h : Nat → Nat) : ∀ k c, (allTo h k).testBit c = true → ∃ j, j < k ∧ (h j).testBit c = true
  | 0, c, hc => by simp [allTo] at hc
  | k + 1, c, hc => by
    rw [allTo, testBit_lor, Bool.or_eq_true] at hc
    rcases hc with hc | hc
    · obtain ⟨j, h1, h2⟩ := allTo_bit h k c hc; exact ⟨j, by omega, h2⟩
    · exact ⟨k, by omega, hc⟩
/-- the record of a sketch is dealt -/
theorem made_dealt (x : Sk) : x.rc.dealt = true := by
  have hn := x.n_le
  have hd := deal_ok x (4 * x.n) (by omega)
  have hp : ∀ j, j < 4 → pop ((x.dealN (4 * x.n)).h j) = x.n := fun j hj => by rw [hd.pop j hj]; omega
  have hb : ∀ k, k < 4 → handB (x.dealN (4 * x.n)).h k = true := by
    intro k hk
    unfold handB
    rw [hp k hk, hp 0 (by omega)]
    have h1 : (x.dealN (4 * x.n)).h k < 4503599627370496 := lt_of_bits fun c hc => (hd.bit k c hc).1
    have h2 : land (allTo (x.dealN (4 * x.n)).h k) ((x.dealN (4 * x.n)).h k) = 0 := by
      apply Nat.eq_of_testBit_eq
      intro c
      rw [testBit_land, Nat.zero_testBit]
      cases hq : (allTo (x.dealN (4 * x.n)).h k).testBit c
      · rfl
      · obtain ⟨j, hj, hc⟩ := allTo_bit _ k c hq
        rw [hd.apart j k c (by omega) hc]; rfl
    simp [h1, h2]
  have hh : handsTo (x.dealN (4 * x.n)).h 4 = true := by simp [handsTo, hb]
  unfold Rc.dealt Sk.rc
  dsimp only
  rw [hh, hp 0 (by omega)]
  simp; omega
end Go.Proofs.Ytdlnilebnobllaa

/- Plain: the law's winner is the trick's. -/
namespace Go.Proofs.Ytdlnilebnobllaa
open Go.RowKit Go.Shelf Go.Sort

theorem maskR_ok : ∀ (l : List Nat) (m : Nat), (∀ c ∈ l, c < 52 ∧ m.testBit c = false) → l.Nodup → (maskR m l).2 = 0
  | [], _, _, _ => rfl
  | c :: cs, m, h, hn => by
    have hc := h c (by simp)
    rw [maskR, if_pos hc.1, hc.2]
    refine maskR_ok cs _ (fun z hz => ⟨(h z (by simp [hz])).1, ?_⟩) (List.nodup_cons.1 hn).2
    rw [testBit_lor, testBit_shl1, (h z (by simp [hz])).2]
    have : c ≠ z := fun e => (List.nodup_cons.1 hn).1 (e ▸ hz)
    simp [this]
theorem rightB_four {l : List Nat} (h4 : l.length = 4) (h : ∀ c ∈ l, c < 52) (hn : l.Nodup) : rightB l = true := by
  unfold rightB
  rw [maskR_ok l 0 (fun c hc => ⟨h c hc, by simp⟩) hn, h4]; rfl
theorem best_law (t : Nat) (ht : t ≤ 4) (zs : List Nat) (h : ∀ i, zs.getD i 0 < 52) : ∀ k,
    lawBest zs t k = bestTo (fun c => (strength t (suit (zs.getD 0 0)) c : Int)) zs k ∧ (zs.getD (lawBest zs t k) 0 / 13 = t ∨ zs.getD (lawBest zs t k) 0 / 13 = zs.getD 0 0 / 13)
  | 0 => ⟨rfl, .inr rfl⟩
  | k + 1 => by
    obtain ⟨e, hi⟩ := best_law t ht zs h k
    have h0 := h 0
    have hd := h (lawBest zs t k)
    have hc := h k
    have hst : ∀ c, c < 52 → strength t (suit (zs.getD 0 0)) c = if c / 13 = t then 14 + c % 13 else if c / 13 = zs.getD 0 0 / 13 then 1 + c % 13 else 0 := by
      intro c hc; unfold strength suit rank; simp only [if_pos hc, if_pos h0]
    rw [lawBest, bestTo, ← e, hst _ hd, hst _ hc]
    generalize lawBest zs t k = b at *
    generalize hcc : zs.getD k 0 = c at *
    generalize hdd : zs.getD b 0 = d at *
    generalize zs.getD 0 0 = z at *
    have key : ((c / 13 = d / 13 ∧ d < c) ∨ (c / 13 = t ∧ d / 13 ≠ t)) ↔ ((if d / 13 = t then 14 + d % 13 else if d / 13 = z / 13 then 1 + d % 13 else 0 : Nat) : Int) < ((if c / 13 = t then 14 + c % 13 else if c / 13 = z / 13 then 1 + c % 13 else 0 : Nat) : Int) := by
      (repeat' split) <;> omega
    by_cases hq : (c / 13 = d / 13 ∧ d < c) ∨ (c / 13 = t ∧ d / 13 ≠ t)
    · rw [if_pos hq, if_pos (key.1 hq)]
      refine ⟨rfl, ?_⟩
      rw [hcc]; omega
    · rw [if_neg hq, if_neg (fun hh => hq (key.2 hh))]
      exact ⟨rfl, by rw [hdd]; exact hi⟩
theorem seat_law {t ld : Nat} {l : List Nat} (ht : t ≤ 4) (hl : ld < 4) (h4 : l.length = 4) (h : ∀ c ∈ l, c < 52) (hn : l.Nodup) : (seatV t ld l).1 = (ld + lawBest l t 4) % 4 := by
  have hb := best_law t ht l (fun i => getD_lt (by omega) h i) 4
  have hw : winnerV t l = (lawBest l t 4, 0) := by
    unfold winnerV
    rw [if_neg (by omega), rightB_four h4 h hn, if_pos rfl, h4, ← hb.1]
  unfold seatV
  rw [if_neg (by omega), hw]
  simp
end Go.Proofs.Ytdlnilebnobllaa

/- Plain: the play of a sketch's record is right to its end. -/
namespace Go.Proofs.Ytdlnilebnobllaa
open Go.RowKit Go.Shelf Go.Sort

/-- complete tricks, played one after the other -/
inductive Full (t : Nat) : (Nat → Nat) → Nat → List Nat → (Nat → Nat) → Nat → Prop
  | nil (h : Nat → Nat) (ld : Nat) : Full t h ld [] h ld
  | cons {h h1 h2 : Nat → Nat} {ld ld2 : Nat} {tr zs : List Nat} (h4 : tr.length = 4) (ht : takeT ld h 0 tr = (h1, 4)) (hf : Full t h1 (seatV t ld tr).1 zs h2 ld2) : Full t h ld (tr ++ zs) h2 ld2
theorem Full.snoc {t : Nat} {h h1 h2 : Nat → Nat} {ld ld1 : Nat} {zs tr : List Nat} (hf : Full t h ld zs h1 ld1) (h4 : tr.length = 4) (ht : takeT ld1 h1 0 tr = (h2, 4)) : Full t h ld (zs ++ tr) h2 (seatV t ld1 tr).1 := by
  induction hf with
  | nil h ld => have := Full.cons (t := t) h4 ht (.nil _ _); rwa [List.append_nil] at this
  | cons q1 q2 q3 ih => rw [List.append_assoc]; exact .cons q1 q2 (ih ht)
theorem Full.rnds {t : Nat} {h h2 : Nat → Nat} {ld ld2 : Nat} {zs : List Nat} (hf : Full t h ld zs h2 ld2) : ∀ num rest, ∃ R, rnds t num h ld (zs ++ rest) = R ++ Go.Proofs.Ytdlnilebnobllaa.rnds t (num + R.length) h2 ld2 rest ∧ sumTo R = zs.length ∧ R.length * 4 = zs.length ∧ ∀ x ∈ R, x.cards.length = 4 := by
  induction hf with
  | nil h ld => exact fun num rest => ⟨[], rfl, rfl, rfl, fun x hx => by cases hx⟩
  | @cons h h1 h2 ld ld2 tr zs h4 ht hf ih =>
    intro num rest
    obtain ⟨R, e1, e2, e3, e5⟩ := ih (num + 1) rest
    have hk : (tr ++ zs ++ rest).take 4 = tr := by rw [List.append_assoc, ← h4, List.take_left']; rfl
    have hd : (tr ++ zs ++ rest).drop 4 = zs ++ rest := by rw [List.append_assoc, ← h4, List.drop_left']; rfl
    have := rnds_full (t := t) (num := num) (ld := ld) (h := h) (zs := tr ++ zs ++ rest) (by rw [hk, ht])
    rw [hk, hd, ht] at this
    refine ⟨⟨num, h, ld, (seatV t ld tr).1, tr⟩ :: R, ?_, ?_, ?_, ?_⟩
    · rw [this, e1]; simp; congr 1; omega
    · simp only [sumTo, List.map_cons, List.sum_cons] at e2 ⊢; rw [e2]; simp
    · simp; omega
    · intro x hx
      rcases List.mem_cons.1 hx with rfl | hx
      · exact h4
      · exact e5 x hx
theorem takeT_snoc (ld : Nat) : ∀ (l : List Nat) (h : Nat → Nat) (i c : Nat) (h' : Nat → Nat), takeT ld h i l = (h', i + l.length) → (h' ((ld + (i + l.length)) % 4)).testBit c = true →
    takeT ld h i (l ++ [c]) = (setH h' ((ld + (i + l.length)) % 4) (landn (h' ((ld + (i + l.length)) % 4)) (shl1 c)), i + l.length + 1)
  | [], h, i, c, h', he, hb => by
    simp [takeT] at he
    subst he
    simp at hb
    simp [takeT, hb]
  | a :: l, h, i, c, h', he, hb => by
    rw [takeT] at he
    split at he
    next hq =>
      have e : i + (a :: l).length = i + 1 + l.length := by simp; omega
      rw [e] at he hb ⊢
      rw [List.cons_append, takeT, if_pos hq]
      exact takeT_snoc ld l _ (i + 1) c h' he hb
    next hq =>
      have := congrArg Prod.snd he
      simp at this

/-- a play under way, of hands h0 with n cards each -/
structure PlayOk (t n : Nat) (h0 : Nat → Nat) (ld0 k : Nat) (s : PlS) : Prop where
  len : s.zs.length = k
  ld : s.ld < 4
  sub : ∀ j c, (s.h j).testBit c = true → (h0 j).testBit c = true
  gone : ∀ c ∈ s.zs, c < 52 ∧ ∀ j, (s.h j).testBit c = false
  nodup : s.zs.Nodup
  count : ∀ j, j < 4 → pop (s.h ((s.ld + j) % 4)) + k / 4 + (if j < k % 4 then 1 else 0) = n
  run : ∃ pre led hq, s.zs = pre ++ led ∧ pre.length = k / 4 * 4 ∧ Full t h0 ld0 pre hq s.ld ∧ takeT s.ld hq 0 led = (s.h, led.length)
theorem PlayOk.hand {t n : Nat} {h0 : Nat → Nat} {ld0 k : Nat} {s : PlS} (h : PlayOk t n h0 ld0 k s) (hk : k < 4 * n) (hb : ∀ j c, (h0 j).testBit c = true → c < 52) : s.hand ≠ [] := by
  have hc := h.count (k % 4) (Nat.mod_lt _ (by omega))
  rw [if_neg (by omega)] at hc
  have hp : 0 < cnt (s.h s.seat) 64 := by unfold PlS.seat; rw [h.len]; unfold pop at hc; omega
  obtain ⟨c, _, hc2⟩ := cnt_pos _ _ hp
  have hm : c ∈ s.hand := (handTo_mem _ _ _).2 ⟨hb _ c (h.sub _ c hc2), hc2⟩
  intro e; rw [e] at hm; cases hm
theorem play_next {t n : Nat} {h0 : Nat → Nat} {ld0 k : Nat} {s : PlS} (h : PlayOk t n h0 ld0 k s) (ht : t ≤ 4) (ha : ∀ j j' c, j ≠ j' → (h0 j).testBit c = true → (h0 j').testBit c = false) {c : Nat} (hc : c ∈ s.hand) : PlayOk t n h0 ld0 (k + 1) (s.next t c) := by
  obtain ⟨hc52, hcb⟩ := (handTo_mem _ _ _).1 hc
  obtain ⟨hlen, hld, hsub, hgone, hnd, hcnt, pre, led, hq, hz, hpl, hfull, htk⟩ := h
  have hseat : s.seat = (s.ld + k % 4) % 4 := by unfold PlS.seat; rw [hlen]
  have hll : led.length = k % 4 := by have := congrArg List.length hz; rw [hlen, List.length_append, hpl] at this; omega
  have hcz : c ∉ s.zs := fun hm => by rw [(hgone c hm).2] at hcb; cases hcb
  have hoth : ∀ j, j ≠ s.seat → (s.h j).testBit c = false := fun j hj => by
    cases hb : (s.h j).testBit c
    · rfl
    · have := ha j s.seat c hj (hsub _ _ hb); rw [hsub _ _ hcb] at this; cases this
  have htk2 := takeT_snoc s.ld led hq 0 c s.h (by rw [htk, Nat.zero_add]) (by rw [Nat.zero_add, hll, ← hseat]; exact hcb)
  rw [Nat.zero_add, hll, ← hseat] at htk2
  have hpop := pop_landn (s.h s.seat) c (by omega) hcb
  have hnd2 : (s.zs ++ [c]).Nodup := List.nodup_append.2 ⟨hnd, by simp, fun a ha b hb e => by simp at hb; subst hb; subst e; exact hcz ha⟩
  have h52 : ∀ z ∈ s.zs ++ [c], z < 52 := fun z hz => by
    rcases List.mem_append.1 hz with hz | hz
    · exact (hgone z hz).1
    · rw [List.mem_singleton.1 hz]; exact hc52
  have hcount : ∀ ld', ld' < 4 → (k % 4 = 3 ∨ ld' = s.ld) → ∀ j, j < 4 → pop (setH s.h s.seat (landn (s.h s.seat) (shl1 c)) ((ld' + j) % 4)) + (k + 1) / 4 + (if j < (k + 1) % 4 then 1 else 0) = n := by
    intro ld' hl' hor j hj
    have hj2 := hcnt (((ld' + j) % 4 + 4 - s.ld) % 4) (Nat.mod_lt _ (by omega))
    rw [show (s.ld + ((ld' + j) % 4 + 4 - s.ld) % 4) % 4 = (ld' + j) % 4 by omega] at hj2
    unfold setH
    by_cases he : (ld' + j) % 4 = s.seat
    · rw [if_pos he]
      rw [he] at hj2
      rw [hseat] at he
      split at hj2 <;> split <;> omega
    · rw [if_neg he]
      rw [hseat] at he
      split at hj2 <;> split <;> omega
  unfold PlS.next
  refine ⟨by simp [hlen], ?_, ?_, ?_, hnd2, ?_, ?_⟩
  · dsimp only; split <;> omega
  · intro j z hz
    dsimp only at hz
    unfold setH at hz
    split at hz
    next e => rw [testBit_landn, Bool.and_eq_true] at hz; rw [e]; exact hsub _ _ hz.1
    next e => exact hsub _ _ hz
  · intro z hz
    refine ⟨h52 z hz, fun j => ?_⟩
    dsimp only
    unfold setH
    rcases List.mem_append.1 hz with hz | hz
    · split
      · rw [testBit_landn, (hgone z hz).2]; rfl
      · exact (hgone z hz).2 j
    · obtain rfl := List.mem_singleton.1 hz
      split
      · rw [testBit_landn, testBit_shl1]; simp; omega
      next e => exact hoth j e
  · dsimp only
    rw [hlen]
    split
    · exact hcount _ (Nat.mod_lt _ (by omega)) (.inl (by omega))
    · exact hcount _ hld (.inr rfl)
  · dsimp only
    rw [hlen]
    by_cases h3 : (k + 1) % 4 = 0
    · rw [if_pos h3]
      have h33 : k % 4 = 3 := by omega
      have htr : (s.zs ++ [c]).drop (k + 1 - 4) = led ++ [c] := by
        rw [hz, List.append_assoc, List.drop_append_of_le_length (by omega), show k + 1 - 4 = pre.length by omega, List.drop_length, List.nil_append]
      have h4 : (led ++ [c]).length = 4 := by simp [hll, h33]
      rw [htr, ← seat_law ht hld h4 (fun z hz2 => h52 z (by rw [hz]; simp at hz2 ⊢; rcases hz2 with h | h; exact .inr (.inl h); exact .inr (.inr h))) (by
        have hn3 := hnd2; rw [hz, List.append_assoc] at hn3; exact (List.nodup_append.1 hn3).2.1)]
      refine ⟨pre ++ (led ++ [c]), [], _, by rw [hz]; simp, by rw [List.length_append, hpl, h4]; omega, hfull.snoc h4 (by rw [htk2, h33]), rfl⟩
    · rw [if_neg h3]
      exact ⟨pre, led ++ [c], hq, by rw [hz]; simp, by rw [hpl]; omega, hfull, by rw [htk2]; simp [hll]⟩
theorem play_ok (x : Sk) (t n : Nat) (h0 : Nat → Nat) (ld0 : Nat) (ht : t ≤ 4) (hl : ld0 < 4) (hp : ∀ j, j < 4 → pop (h0 j) = n) (hb : ∀ j c, (h0 j).testBit c = true → c < 52) (ha : ∀ j j' c, j ≠ j' → (h0 j).testBit c = true → (h0 j').testBit c = false) :
    ∀ k, k ≤ 4 * n → PlayOk t n h0 ld0 k (plN x t ⟨h0, ld0, []⟩ k)
  | 0, _ => ⟨rfl, hl, fun _ _ h => h, fun c hc => (by cases hc), List.nodup_nil, fun j hj => by simp only [plN]; rw [hp _ (Nat.mod_lt _ (by omega))]; simp, [], [], h0, rfl, rfl, .nil _ _, rfl⟩
  | k + 1, hk => by
    have ih := play_ok x t n h0 ld0 ht hl hp hb ha k (by omega)
    rw [plN]
    exact play_next ih ht ha (x.choose_mem k _ _ (ih.hand (by omega) hb))
end Go.Proofs.Ytdlnilebnobllaa

/- Plain: the record of a sketch: dealt, played right to its end. finesselaw13.Made whole. -/
namespace Go.Proofs.Ytdlnilebnobllaa
open Go.RowKit Go.Shelf Go.Sort

theorem made_pop (x : Sk) : ∀ j, j < 4 → pop ((x.dealN (4 * x.n)).h j) = x.n := fun j hj => by
  rw [(deal_ok x (4 * x.n) (by have := x.n_le; omega)).pop j hj]; omega
theorem made_play (x : Sk) : ∀ k, k ≤ 4 * x.n → PlayOk (x.trumps % 5) x.n (x.dealN (4 * x.n)).h ((x.decl % 4 + 1) % 4) k (plN x (x.trumps % 5) ⟨(x.dealN (4 * x.n)).h, (x.decl % 4 + 1) % 4, []⟩ k) :=
  have hd := deal_ok x (4 * x.n) (by have := x.n_le; omega)
  play_ok x _ _ _ _ (by omega) (Nat.mod_lt _ (by omega)) (made_pop x) (fun j c h => (hd.bit j c h).1) (fun j j' c hj h => hd.apart j j' c hj h)
theorem made_ne (x : Sk) : ∀ k, k < 4 * x.n → (plN x (x.trumps % 5) ⟨(x.dealN (4 * x.n)).h, (x.decl % 4 + 1) % 4, []⟩ k).hand ≠ [] := fun k hk =>
  (made_play x k (by omega)).hand hk (fun j c h => ((deal_ok x (4 * x.n) (by have := x.n_le; omega)).bit j c h).1)
theorem made_len (x : Sk) : x.rc.zs.length = 4 * x.n := (made_play x (4 * x.n) (Nat.le_refl _)).len
theorem made_run (x : Sk) : ∃ h2 ld2, Full x.rc.t x.rc.h ((x.rc.d + 1) % 4) x.rc.zs h2 ld2 := by
  obtain ⟨pre, led, hq, hz, hp, hf, _⟩ := (made_play x (4 * x.n) (Nat.le_refl _)).run
  have hl := made_len x
  have : led = [] := by
    apply List.eq_nil_of_length_eq_zero
    have h2 := congrArg List.length hz
    rw [List.length_append, hp] at h2
    have h3 : (plN x (x.trumps % 5) ⟨(x.dealN (4 * x.n)).h, (x.decl % 4 + 1) % 4, []⟩ (4 * x.n)).zs.length = 4 * x.n := hl
    omega
  subst this
  rw [List.append_nil] at hz
  refine ⟨hq, (plN x (x.trumps % 5) ⟨(x.dealN (4 * x.n)).h, (x.decl % 4 + 1) % 4, []⟩ (4 * x.n)).ld, ?_⟩
  have e : x.rc.zs = pre := hz
  rw [e]
  exact hf
/-- all tricks of a sketch's record are complete -/
theorem made_rnds (x : Sk) : sumTo x.rc.rnds = 4 * x.n ∧ x.rc.rnds.length = x.n ∧ ∀ y ∈ x.rc.rnds, y.cards.length = 4 := by
  obtain ⟨h2, ld2, hf⟩ := made_run x
  obtain ⟨R, e1, e2, e3, e4⟩ := hf.rnds 0 []
  rw [List.append_nil, rnds_nil_of, List.append_nil] at e1
  have hl := made_len x
  have : x.rc.rnds = R := e1
  rw [this]
  exact ⟨by rw [e2, hl], by omega, e4⟩
theorem made_right (x : Sk) : x.rc.rightV = (-1, 0) := by
  unfold Rc.rightV
  rw [if_pos (made_dealt x), if_neg]
  have := (made_rnds x).1; have := made_len x; omega
theorem made_lt (x : Sk) : ∀ c ∈ x.rc.zs, c < 52 := fun c hc => ((made_play x (4 * x.n) (Nat.le_refl _)).gone c hc).1
theorem made_nodup (x : Sk) : x.rc.zs.Nodup := (made_play x (4 * x.n) (Nat.le_refl _)).nodup
theorem made_w64 (x : Sk) : ∀ j, W64 (x.rc.h j) := dealN_w64 x (4 * x.n)
/-- finesselaw13.Made -/
theorem law_made (x : Sk) (ao : Option Addr) (lo co : Nat) (ap : Option Addr) (lp cp : Nat) (w : World) (ho : Byt w ao lo x.order) (hp : Byt w ap lp x.play)
    (hsz : x.size < 256) (htr : x.trumps < 256) (hde : x.decl < 256) :
    Calls Try.prog 17 #[.agg (x.cells ao lo co ap lp cp)] w fun e w' =>
      ∃ a cap, e = .returned (x.rc.v a (4 * x.n) cap) ∧ x.rc.ok (4 * x.n) cap ∧ Byt w' a (4 * x.n) x.rc.zs ∧ (∀ ad, a = some ad → w.heap.size ≤ ad.block ∧ ad.block < w'.heap.size) ∧ OwnU w' w.heap.size (.slice a (4 * x.n) cap) x.rc.zs ∧ Below w.heap.size w w' := by
  refine (made x ao lo co ap lp cp w ho hp hsz htr hde (made_ne x)).mono ?_
  rintro e w' ⟨v, rfl, hown, hb⟩
  have hl := made_len x
  have hn := x.n_le
  obtain ⟨a, cap, rfl, _, h2, h3, h4, h5⟩ := hown.byt (by omega) (fun i => getD_lt (by omega) (fun c hc => Nat.lt_trans (made_lt x c hc) (by omega)) i)
  rw [hl] at h2 h5 hown ⊢
  exact ⟨a, cap, rfl, ⟨made_w64 x, by unfold Sk.rc; dsimp only; omega, by unfold Sk.rc; dsimp only; omega, h2, by unfold maxLen at h3; omega⟩, h5, h4, hown, hb⟩
end Go.Proofs.Ytdlnilebnobllaa
