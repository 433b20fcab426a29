/- Plain: hands dealt from a list of cards. -/
import Derived.Test.YtnbillhodbcfbaaDoorMDpa
namespace Go.Proofs.YtnbillhodbcfbaaDoor
open Go.RowKit Go.Sort Go.Shelf

/-- what is known of hands that Dealt makes -/
structure DealtP (h : Nat → Nat) (q : Nat) : Prop where
  w64 : ∀ s, W64 (h s)
  in52 : In52 h
  apart : ∀ s s' c, s < 4 → s' < 4 → (h s).testBit c = true → (h s').testBit c = true → s = s'
  pops : ∀ i, i < 4 → pop (h i) = q
theorem DealtP.right {h : Nat → Nat} {q : Nat} (H : DealtP h q) (hq : q ≤ 6) {tr ld : Nat} (ht : tr ≤ 4) (hl : ld ≤ 3) : rightB h tr ld [] = true := by
  have h1 : handsOk h 4 = true := (handsOk_iff h 4).2 ⟨H.in52, H.apart⟩
  have h2 : evenTo h ld 0 q 4 = true := (evenTo_iff h ld 0 q 4).2 fun i hi => by rw [if_neg (by omega), Nat.add_zero]; exact H.pops _ (Nat.mod_lt _ (by decide))
  have h3 : pop (h ((ld + 0) % 4)) = q := H.pops _ (Nat.mod_lt _ (by decide))
  unfold rightB evenB
  simp only [List.length_nil, h3]
  rw [decide_eq_true ht, decide_eq_true hl, h1, h2, decide_eq_true hq]
  simp [playOk, followTo]
theorem DealtP.turn {h : Nat → Nat} {q : Nat} (H : DealtP h q) (ld : Nat) : pop (h ((ld + ([] : List Nat).length) % 4)) = q := H.pops _ (Nat.mod_lt _ (by decide))
/-- cards taken, and their mask -/
structure Taken (u : Nat) (cs : List Nat) (n : Nat) : Prop where
  w64 : W64 u
  bit : ∀ c, u.testBit c = true ↔ c ∈ cs
  c52 : ∀ c ∈ cs, c < 52
  nodup : cs.Nodup
  len : cs.length ≤ n
theorem Taken.nil (n : Nat) : Taken 0 [] n := ⟨W64.zero, (fun c => by rw [Nat.zero_testBit]; simp), (fun c h => by cases h), List.nodup_nil, Nat.zero_le _⟩
theorem Taken.snoc {u n c : Nat} {cs : List Nat} (H : Taken u cs n) (hc : c < 52) (hu : u.testBit c = false) (hl : cs.length < n) : Taken (lor u (shl1 c)) (cs ++ [c]) n := by
  have hm : c ∉ cs := fun h => by rw [(H.bit c).2 h] at hu; cases hu
  refine ⟨H.w64.lor (W64.shl1 c), fun x => ?_, fun x hx => ?_, ?_, by simp; omega⟩
  · rw [testBit_lor, testBit_shl1, Bool.or_eq_true, H.bit, decide_eq_true (show c < 64 by omega), Bool.and_true, decide_eq_true_eq, List.mem_append, List.mem_singleton]
    exact or_congr_right ⟨fun h => h.symm, fun h => h.symm⟩
  · rcases List.mem_append.1 hx with hx | hx
    · exact H.c52 x hx
    · rcases List.mem_singleton.1 hx with rfl; exact hc
  · rw [List.nodup_append]
    exact ⟨H.nodup, by simp, fun a ha b hb => by rcases List.mem_singleton.1 hb with rfl; exact fun e => hm (e ▸ ha)⟩
/-- the first numbers are all taken: there are as many cards -/
theorem Taken.full {u n : Nat} {cs : List Nat} (H : Taken u cs n) {k : Nat} (hk : ∀ c, c < k → u.testBit c = true) : k ≤ cs.length := by
  have h1 : (List.range k).Nodup := List.nodup_range
  have h2 : (cs.filter fun c => decide (c < k)).Nodup := H.nodup.filter _
  have hp : List.Perm (List.range k) (cs.filter fun c => decide (c < k)) := by
    rw [List.perm_ext_iff_of_nodup h1 h2]
    intro c
    rw [List.mem_range, List.mem_filter, decide_eq_true_eq]
    exact ⟨fun h => ⟨(H.bit c).1 (hk c h), h⟩, fun h => h.2⟩
  have := hp.length_eq
  rw [List.length_range] at this
  rw [this]
  exact List.length_filter_le _ _
/-- the hands after k cards -/
def dlH (cs : List Nat) : Nat → Nat → Nat
  | 0, _ => 0
  | k + 1, i => if k % 4 = i then lor (dlH cs k i) (shl1 (cs.getD k 0)) else dlH cs k i
theorem dlH_w64 (cs : List Nat) : ∀ k i, W64 (dlH cs k i)
  | 0, _ => W64.zero
  | k + 1, i => by
    unfold dlH
    split
    · exact (dlH_w64 cs k i).lor (W64.shl1 _)
    · exact dlH_w64 cs k i
theorem dlH_bit {cs : List Nat} (h52 : ∀ c ∈ cs, c < 52) (i c : Nat) : ∀ k, k ≤ cs.length → ((dlH cs k i).testBit c = true ↔ ∃ j, j < k ∧ j % 4 = i ∧ cs[j]? = some c)
  | 0, _ => by
    show (0 : Nat).testBit c = true ↔ _
    rw [Nat.zero_testBit]
    exact ⟨fun h => (by cases h), fun ⟨j, hj, _⟩ => by omega⟩
  | k + 1, hk => by
    have ih := dlH_bit h52 i c k (by omega)
    have hx : cs[k]? = some (cs.getD k 0) := by rw [List.getD_eq_getElem?_getD, List.getElem?_eq_getElem (by omega)]; rfl
    have hx52 := h52 _ (List.mem_of_getElem? hx)
    unfold dlH
    split
    · rename_i e
      rw [testBit_lor, testBit_shl1, Bool.or_eq_true, ih, decide_eq_true (show cs.getD k 0 < 64 by omega), Bool.and_true, decide_eq_true_eq]
      constructor
      · rintro (⟨j, h1, h2, h3⟩ | h)
        · exact ⟨j, by omega, h2, h3⟩
        · exact ⟨k, by omega, e, by rw [hx, h]⟩
      · rintro ⟨j, h1, h2, h3⟩
        by_cases e2 : j = k
        · subst e2
          rw [hx] at h3
          exact .inr (Option.some.inj h3)
        · exact .inl ⟨j, by omega, h2, h3⟩
    · rename_i e
      rw [ih]
      constructor
      · rintro ⟨j, h1, h2, h3⟩; exact ⟨j, by omega, h2, h3⟩
      · rintro ⟨j, h1, h2, h3⟩
        exact ⟨j, by rcases Nat.lt_or_ge j k with h | h; exact h; exact absurd (by rw [show j = k by omega] at h2; exact h2) e, h2, h3⟩
theorem cnt_lor (m c : Nat) (hc : c < 64) (hb : m.testBit c = false) : ∀ k, cnt (lor m (shl1 c)) k = cnt m k + (if c < k then 1 else 0)
  | 0 => by simp [cnt]
  | k + 1 => by
    have ih := cnt_lor m c hc hb k
    simp only [cnt, testBit_lor, testBit_shl1]
    by_cases h : c = k
    · subst h
      rw [ih]
      simp [hb, hc]
    · rw [ih]
      simp only [h, decide_false, Bool.false_and, Bool.or_false]
      by_cases h1 : c < k
      · rw [if_pos h1, if_pos (by omega)]; omega
      · rw [if_neg h1, if_neg (show ¬ c < k + 1 by omega)]; omega
theorem dlH_pop {cs : List Nat} (h52 : ∀ c ∈ cs, c < 52) (hn : cs.Nodup) (i : Nat) (hi : i < 4) : ∀ k, k ≤ cs.length → pop (dlH cs k i) = (k + 3 - i) / 4
  | 0, _ => by
    show pop 0 = _
    rw [show pop 0 = 0 by decide]; omega
  | k + 1, hk => by
    have ih := dlH_pop h52 hn i hi k (by omega)
    have hx : cs[k]? = some (cs.getD k 0) := by rw [List.getD_eq_getElem?_getD, List.getElem?_eq_getElem (by omega)]; rfl
    have hx52 := h52 _ (List.mem_of_getElem? hx)
    unfold dlH
    split
    · rename_i e
      have hb : (dlH cs k i).testBit (cs.getD k 0) = false := by
        cases hb : (dlH cs k i).testBit (cs.getD k 0)
        · rfl
        · obtain ⟨j, h1, h2, h3⟩ := (dlH_bit h52 i _ k (by omega)).1 hb
          have h4 : j < cs.length := by omega
          rw [← hx] at h3
          have := (List.getElem?_inj h4 hn).1 h3
          omega
      have := cnt_lor (dlH cs k i) (cs.getD k 0) (by omega) hb 64
      rw [if_pos (by omega)] at this
      show cnt (lor (dlH cs k i) (shl1 (cs.getD k 0))) 64 = _
      rw [this]
      show pop (dlH cs k i) + 1 = _
      rw [ih]; omega
    · rename_i e
      rw [ih]; omega
theorem dealt_ok {u q : Nat} {cs : List Nat} (H : Taken u cs (4 * q)) (hl : cs.length = 4 * q) : DealtP (dlH cs (4 * q)) q := by
  have hb := fun i c => dlH_bit H.c52 i c (4 * q) (by omega)
  refine ⟨dlH_w64 cs _, fun s hs c hc => ?_, fun s s' c hs hs' h1 h2 => ?_, fun i hi => ?_⟩
  · obtain ⟨j, -, -, h3⟩ := (hb s c).1 hc
    exact H.c52 c (List.mem_of_getElem? h3)
  · obtain ⟨j, h4, h5, h6⟩ := (hb s c).1 h1
    obtain ⟨j', h4', h5', h6'⟩ := (hb s' c).1 h2
    rw [← h6'] at h6
    have := (List.getElem?_inj (by omega) H.nodup).1 h6
    omega
  · rw [dlH_pop H.c52 H.nodup i hi _ (by omega)]; omega
end Go.Proofs.YtnbillhodbcfbaaDoor
