/- Plain: the play of a sketch's record is right to its end. -/
import Derived.Test.YtdlnilebnobllaaRvPm1
import Derived.Test.YtdlnilebnobllaaRvPm2
import Derived.Test.YtdlnilebnobllaaRevF
namespace Go.Proofs.Ytdlnilebnobllaa
open Go.RowKit Go.Shelf Go.Sort

/-- complete tricks, played one after the other -/
inductive Full (t : Nat) : (Nat → Nat) → Nat → List Nat → (Nat → Nat) → Nat → Prop
  | nil (h : Nat → Nat) (ld : Nat) : Full t h ld [] h ld
  | cons {h h1 h2 : Nat → Nat} {ld ld2 : Nat} {tr zs : List Nat} (h4 : tr.length = 4) (ht : takeT ld h 0 tr = (h1, 4)) (hf : Full t h1 (seatV t ld tr).1 zs h2 ld2) : Full t h ld (tr ++ zs) h2 ld2
theorem Full.snoc {t : Nat} {h h1 h2 : Nat → Nat} {ld ld1 : Nat} {zs tr : List Nat} (hf : Full t h ld zs h1 ld1) (h4 : tr.length = 4) (ht : takeT ld1 h1 0 tr = (h2, 4)) : Full t h ld (zs ++ tr) h2 (seatV t ld1 tr).1 := by
  induction hf with
  | nil h ld => have := Full.cons (t := t) h4 ht (.nil _ _); rwa [List.append_nil] at this
  | cons q1 q2 q3 ih => rw [List.append_assoc]; exact .cons q1 q2 (ih ht)
theorem Full.rnds {t : Nat} {h h2 : Nat → Nat} {ld ld2 : Nat} {zs : List Nat} (hf : Full t h ld zs h2 ld2) : ∀ num rest, ∃ R, rnds t num h ld (zs ++ rest) = R ++ Go.Proofs.Ytdlnilebnobllaa.rnds t (num + R.length) h2 ld2 rest ∧ sumTo R = zs.length ∧ R.length * 4 = zs.length ∧ ∀ x ∈ R, x.cards.length = 4 := by
  induction hf with
  | nil h ld => exact fun num rest => ⟨[], rfl, rfl, rfl, fun x hx => by cases hx⟩
  | @cons h h1 h2 ld ld2 tr zs h4 ht hf ih =>
    intro num rest
    obtain ⟨R, e1, e2, e3, e5⟩ := ih (num + 1) rest
    have hk : (tr ++ zs ++ rest).take 4 = tr := by rw [List.append_assoc, ← h4, List.take_left']; rfl
    have hd : (tr ++ zs ++ rest).drop 4 = zs ++ rest := by rw [List.append_assoc, ← h4, List.drop_left']; rfl
    have := rnds_full (t := t) (num := num) (ld := ld) (h := h) (zs := tr ++ zs ++ rest) (by rw [hk, ht])
    rw [hk, hd, ht] at this
    refine ⟨⟨num, h, ld, (seatV t ld tr).1, tr⟩ :: R, ?_, ?_, ?_, ?_⟩
    · rw [this, e1]; simp; congr 1; omega
    · simp only [sumTo, List.map_cons, List.sum_cons] at e2 ⊢; rw [e2]; simp
    · simp; omega
    · intro x hx
      rcases List.mem_cons.1 hx with rfl | hx
      · exact h4
      · exact e5 x hx
theorem takeT_snoc (ld : Nat) : ∀ (l : List Nat) (h : Nat → Nat) (i c : Nat) (h' : Nat → Nat), takeT ld h i l = (h', i + l.length) → (h' ((ld + (i + l.length)) % 4)).testBit c = true →
    takeT ld h i (l ++ [c]) = (setH h' ((ld + (i + l.length)) % 4) (landn (h' ((ld + (i + l.length)) % 4)) (shl1 c)), i + l.length + 1)
  | [], h, i, c, h', he, hb => by
    simp [takeT] at he
    subst he
    simp at hb
    simp [takeT, hb]
  | a :: l, h, i, c, h', he, hb => by
    rw [takeT] at he
    split at he
    next hq =>
      have e : i + (a :: l).length = i + 1 + l.length := by simp; omega
      rw [e] at he hb ⊢
      rw [List.cons_append, takeT, if_pos hq]
      exact takeT_snoc ld l _ (i + 1) c h' he hb
    next hq =>
      have := congrArg Prod.snd he
      simp at this

/-- a play under way, of hands h0 with n cards each -/
structure PlayOk (t n : Nat) (h0 : Nat → Nat) (ld0 k : Nat) (s : PlS) : Prop where
  len : s.zs.length = k
  ld : s.ld < 4
  sub : ∀ j c, (s.h j).testBit c = true → (h0 j).testBit c = true
  gone : ∀ c ∈ s.zs, c < 52 ∧ ∀ j, (s.h j).testBit c = false
  nodup : s.zs.Nodup
  count : ∀ j, j < 4 → pop (s.h ((s.ld + j) % 4)) + k / 4 + (if j < k % 4 then 1 else 0) = n
  run : ∃ pre led hq, s.zs = pre ++ led ∧ pre.length = k / 4 * 4 ∧ Full t h0 ld0 pre hq s.ld ∧ takeT s.ld hq 0 led = (s.h, led.length)
theorem PlayOk.hand {t n : Nat} {h0 : Nat → Nat} {ld0 k : Nat} {s : PlS} (h : PlayOk t n h0 ld0 k s) (hk : k < 4 * n) (hb : ∀ j c, (h0 j).testBit c = true → c < 52) : s.hand ≠ [] := by
  have hc := h.count (k % 4) (Nat.mod_lt _ (by omega))
  rw [if_neg (by omega)] at hc
  have hp : 0 < cnt (s.h s.seat) 64 := by unfold PlS.seat; rw [h.len]; unfold pop at hc; omega
  obtain ⟨c, _, hc2⟩ := cnt_pos _ _ hp
  have hm : c ∈ s.hand := (handTo_mem _ _ _).2 ⟨hb _ c (h.sub _ c hc2), hc2⟩
  intro e; rw [e] at hm; cases hm
theorem play_next {t n : Nat} {h0 : Nat → Nat} {ld0 k : Nat} {s : PlS} (h : PlayOk t n h0 ld0 k s) (ht : t ≤ 4) (ha : ∀ j j' c, j ≠ j' → (h0 j).testBit c = true → (h0 j').testBit c = false) {c : Nat} (hc : c ∈ s.hand) : PlayOk t n h0 ld0 (k + 1) (s.next t c) := by
  obtain ⟨hc52, hcb⟩ := (handTo_mem _ _ _).1 hc
  obtain ⟨hlen, hld, hsub, hgone, hnd, hcnt, pre, led, hq, hz, hpl, hfull, htk⟩ := h
  have hseat : s.seat = (s.ld + k % 4) % 4 := by unfold PlS.seat; rw [hlen]
  have hll : led.length = k % 4 := by have := congrArg List.length hz; rw [hlen, List.length_append, hpl] at this; omega
  have hcz : c ∉ s.zs := fun hm => by rw [(hgone c hm).2] at hcb; cases hcb
  have hoth : ∀ j, j ≠ s.seat → (s.h j).testBit c = false := fun j hj => by
    cases hb : (s.h j).testBit c
    · rfl
    · have := ha j s.seat c hj (hsub _ _ hb); rw [hsub _ _ hcb] at this; cases this
  have htk2 := takeT_snoc s.ld led hq 0 c s.h (by rw [htk, Nat.zero_add]) (by rw [Nat.zero_add, hll, ← hseat]; exact hcb)
  rw [Nat.zero_add, hll, ← hseat] at htk2
  have hpop := pop_landn (s.h s.seat) c (by omega) hcb
  have hnd2 : (s.zs ++ [c]).Nodup := List.nodup_append.2 ⟨hnd, by simp, fun a ha b hb e => by simp at hb; subst hb; subst e; exact hcz ha⟩
  have h52 : ∀ z ∈ s.zs ++ [c], z < 52 := fun z hz => by
    rcases List.mem_append.1 hz with hz | hz
    · exact (hgone z hz).1
    · rw [List.mem_singleton.1 hz]; exact hc52
  have hcount : ∀ ld', ld' < 4 → (k % 4 = 3 ∨ ld' = s.ld) → ∀ j, j < 4 → pop (setH s.h s.seat (landn (s.h s.seat) (shl1 c)) ((ld' + j) % 4)) + (k + 1) / 4 + (if j < (k + 1) % 4 then 1 else 0) = n := by
    intro ld' hl' hor j hj
    have hj2 := hcnt (((ld' + j) % 4 + 4 - s.ld) % 4) (Nat.mod_lt _ (by omega))
    rw [show (s.ld + ((ld' + j) % 4 + 4 - s.ld) % 4) % 4 = (ld' + j) % 4 by omega] at hj2
    unfold setH
    by_cases he : (ld' + j) % 4 = s.seat
    · rw [if_pos he]
      rw [he] at hj2
      rw [hseat] at he
      split at hj2 <;> split <;> omega
    · rw [if_neg he]
      rw [hseat] at he
      split at hj2 <;> split <;> omega
  unfold PlS.next
  refine ⟨by simp [hlen], ?_, ?_, ?_, hnd2, ?_, ?_⟩
  · dsimp only; split <;> omega
  · intro j z hz
    dsimp only at hz
    unfold setH at hz
    split at hz
    next e => rw [testBit_landn, Bool.and_eq_true] at hz; rw [e]; exact hsub _ _ hz.1
    next e => exact hsub _ _ hz
  · intro z hz
    refine ⟨h52 z hz, fun j => ?_⟩
    dsimp only
    unfold setH
    rcases List.mem_append.1 hz with hz | hz
    · split
      · rw [testBit_landn, (hgone z hz).2]; rfl
      · exact (hgone z hz).2 j
    · obtain rfl := List.mem_singleton.1 hz
      split
      · rw [testBit_landn, testBit_shl1]; simp; omega
      next e => exact hoth j e
  · dsimp only
    rw [hlen]
    split
    · exact hcount _ (Nat.mod_lt _ (by omega)) (.inl (by omega))
    · exact hcount _ hld (.inr rfl)
  · dsimp only
    rw [hlen]
    by_cases h3 : (k + 1) % 4 = 0
    · rw [if_pos h3]
      have h33 : k % 4 = 3 := by omega
      have htr : (s.zs ++ [c]).drop (k + 1 - 4) = led ++ [c] := by
        rw [hz, List.append_assoc, List.drop_append_of_le_length (by omega), show k + 1 - 4 = pre.length by omega, List.drop_length, List.nil_append]
      have h4 : (led ++ [c]).length = 4 := by simp [hll, h33]
      rw [htr, ← seat_law ht hld h4 (fun z hz2 => h52 z (by rw [hz]; simp at hz2 ⊢; rcases hz2 with h | h; exact .inr (.inl h); exact .inr (.inr h))) (by
        have hn3 := hnd2; rw [hz, List.append_assoc] at hn3; exact (List.nodup_append.1 hn3).2.1)]
      refine ⟨pre ++ (led ++ [c]), [], _, by rw [hz]; simp, by rw [List.length_append, hpl, h4]; omega, hfull.snoc h4 (by rw [htk2, h33]), rfl⟩
    · rw [if_neg h3]
      exact ⟨pre, led ++ [c], hq, by rw [hz]; simp, by rw [hpl]; omega, hfull, by rw [htk2]; simp [hll]⟩
theorem play_ok (x : Sk) (t n : Nat) (h0 : Nat → Nat) (ld0 : Nat) (ht : t ≤ 4) (hl : ld0 < 4) (hp : ∀ j, j < 4 → pop (h0 j) = n) (hb : ∀ j c, (h0 j).testBit c = true → c < 52) (ha : ∀ j j' c, j ≠ j' → (h0 j).testBit c = true → (h0 j').testBit c = false) :
    ∀ k, k ≤ 4 * n → PlayOk t n h0 ld0 k (plN x t ⟨h0, ld0, []⟩ k)
  | 0, _ => ⟨rfl, hl, fun _ _ h => h, fun c hc => (by cases hc), List.nodup_nil, fun j hj => by simp only [plN]; rw [hp _ (Nat.mod_lt _ (by omega))]; simp, [], [], h0, rfl, rfl, .nil _ _, rfl⟩
  | k + 1, hk => by
    have ih := play_ok x t n h0 ld0 ht hl hp hb ha k (by omega)
    rw [plN]
    exact play_next ih ht ha (x.choose_mem k _ _ (ih.hand (by omega) hb))
end Go.Proofs.Ytdlnilebnobllaa
