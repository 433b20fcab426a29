/- Plain: positions that are not right. -/
import Derived.Test.YtnbillhodbcfbaaDoorDmQa
import Derived.Test.YtnbillhodbcfbaaDoorDmPd
namespace Go.Proofs.YtnbillhodbcfbaaDoor
open Go.RowKit Go.Sort Go.Shelf

/-- one hand replaced -/
def setH (h : Nat → Nat) (s x : Nat) (j : Nat) : Nat := if j = s then x else h j
theorem posA_set (h : Nat → Nat) (tr ld : Nat) (v : Value) (x : Nat) {s : Nat} (hs : s < 4) : (posA h tr ld v).setIfInBounds s (.int .u64 (x : Int)) = posA (setH h s x) tr ld v := by
  unfold posA setH
  rcases (show s = 0 ∨ s = 1 ∨ s = 2 ∨ s = 3 by omega) with rfl | rfl | rfl | rfl <;> simp
theorem setH_w64 {h : Nat → Nat} (hw : ∀ s, W64 (h s)) {s x : Nat} (hx : W64 x) : ∀ j, W64 (setH h s x j) := fun j => by
  unfold setH; split
  · exact hx
  · exact hw j
theorem no_of {h : Nat → Nat} {tr ld : Nat} {ps : List Nat} (hw : ∀ s, W64 (h s)) (hf : RightP h tr ld ps (pop (h ((ld + ps.length) % 4))) → False) : rightB h tr ld ps = false := by
  cases hb : rightB h tr ld ps
  · rfl
  · exact (hf (right_of hw hb)).elim
theorem pop_pos {m : Nat} (hw : W64 m) (h : 0 < pop m) : ∃ c, m.testBit c = true := by
  rw [pop_len] at h
  obtain ⟨x, hx⟩ := List.exists_mem_of_length_pos h
  exact ⟨x, (mem_bits hw).1 hx⟩
theorem evn_pops {h : Nat → Nat} {ld q : Nat} (H : Evn q ⟨h, ld, []⟩) (hl : ld < 4) {s : Nat} (hs : s < 4) : pop (h s) = q := by
  have h1 := H ((s + 4 - ld) % 4) (Nat.mod_lt _ (by decide))
  rw [if_neg (by simp), show (ld + (s + 4 - ld) % 4) % 4 = s by omega] at h1
  exact h1
theorem pop_drop {m : Nat} (hw : W64 m) (h : 0 < pop m) : pop (land m (m - 1)) + 1 = pop m := by
  obtain ⟨c, hc⟩ := pop_pos hw h
  have h0 : m ≠ 0 := fun e => by rw [e, Nat.zero_testBit] at hc; cases hc
  obtain ⟨k, hk, hk64⟩ := ctz_spec m h0 hw
  have hb : m.testBit (Lib.ctz 64 m) = true := by
    generalize Lib.ctz 64 m = x at *
    rw [hk, Nat.testBit_two_pow_mul]
    simp [Nat.testBit_zero]
  have e : land m (m - 1) = landn m (shl1 (Lib.ctz 64 m)) := by
    apply Nat.eq_of_testBit_eq
    intro i
    have := drop1_bit m i h0 hw
    unfold drop1 at this
    rw [testBit_landn, testBit_shl1]
    show (m &&& (m - 1)).testBit i = _
    rw [this]
    by_cases e : i = Lib.ctz 64 m
    · simp [e, hk64]
    · simp [e, Ne.symm e]
  rw [e]
  exact pop_landn m _ hk64 hb
variable {h : Nat → Nat} {q : Nat}
/-- cards in two hands -/
theorem wrong0 (H : DealtP h q) (hq : 0 < q) (tr ld : Nat) : rightB (setH h 0 (lor (h 0) (h 1))) tr ld [] = false := by
  refine no_of (setH_w64 H.w64 ((H.w64 0).lor (H.w64 1))) fun hr => ?_
  obtain ⟨c, hc⟩ := pop_pos (H.w64 1) (by rw [H.pops 1 (by decide)]; exact hq)
  have h1 : Own ⟨setH h 0 (lor (h 0) (h 1)), ld, []⟩ 0 c := own_hand (by decide) (by show (lor (h 0) (h 1)).testBit c = true; rw [testBit_lor, hc, Bool.or_true])
  have h2 : Own ⟨setH h 0 (lor (h 0) (h 1)), ld, []⟩ 1 c := own_hand (by decide) hc
  have := hr.uniq 0 1 c h1 h2
  omega
/-- beyond the pack -/
theorem wrong1 (H : DealtP h q) (tr ld : Nat) {x : Nat} (hx : x < 12) : rightB (setH h 2 (lor (h 2) (shl1 (52 + x)))) tr ld [] = false := by
  refine no_of (setH_w64 H.w64 ((H.w64 2).lor (W64.shl1 _))) fun hr => ?_
  have := hr.ok.pk.1 2 (by decide) (52 + x) (by show (lor (h 2) (shl1 (52 + x))).testBit (52 + x) = true; rw [testBit_lor, testBit_shl1]; simp; omega)
  omega
/-- hands of other sizes -/
theorem wrong2 (H : DealtP h q) (hq : 0 < q) (tr ld : Nat) : rightB (setH h 3 (land (h 3) (h 3 - 1))) tr ld [] = false := by
  refine no_of (setH_w64 H.w64 (W64.land (H.w64 3))) fun hr => ?_
  have h0 := evn_pops hr.evn hr.ok.ld (s := 0) (by decide)
  have h3 := evn_pops hr.evn hr.ok.ld (s := 3) (by decide)
  have h03 : pop (setH h 3 (land (h 3) (h 3 - 1)) 3) = pop (setH h 3 (land (h 3) (h 3 - 1)) 0) := h3.trans h0.symm
  have e0 : pop (setH h 3 (land (h 3) (h 3 - 1)) 0) = q := H.pops 0 (by decide)
  have e3 : setH h 3 (land (h 3) (h 3 - 1)) 3 = land (h 3) (h 3 - 1) := if_pos rfl
  have e4 := pop_drop (H.w64 3) (by rw [H.pops 3 (by decide)]; exact hq)
  rw [H.pops 3 (by decide)] at e4
  rw [e3, e0] at h03
  omega
/-- too many cards -/
def many7 (h : Nat → Nat) (i j : Nat) : Nat := if j < i then 127 * 2 ^ (13 * j) else h j
theorem many7_w64 {h : Nat → Nat} (hw : ∀ s, W64 (h s)) (s : Nat) : W64 (many7 h 4 s) := by
  unfold many7; split
  · rename_i hs
    rcases (show s = 0 ∨ s = 1 ∨ s = 2 ∨ s = 3 by omega) with rfl | rfl | rfl | rfl <;> (unfold W64; decide)
  · exact hw s
theorem many7_set (h : Nat → Nat) (i : Nat) (hi : i < 4) (tr ld : Nat) (v : Value) : (posA (many7 h i) tr ld v).setIfInBounds i (.int .u64 ((127 * 2 ^ (13 * i) : Nat) : Int)) = posA (many7 h (i + 1)) tr ld v := by
  unfold posA many7
  rcases (show i = 0 ∨ i = 1 ∨ i = 2 ∨ i = 3 by omega) with rfl | rfl | rfl | rfl <;> simp
theorem wrong7 (h : Nat → Nat) (hw : ∀ s, W64 (h s)) (tr ld : Nat) : rightB (many7 h 4) tr ld [] = false := by
  refine no_of (many7_w64 hw) fun hr => ?_
  · have h0 := evn_pops hr.evn hr.ok.ld (s := 0) (by decide)
    have h6 := hr.q6
    rw [← h0] at h6
    have e : many7 h 4 0 = 127 := if_pos (by decide)
    have : pop (many7 h 4 0) = 7 := by rw [e]; decide +kernel
    omega
/-- a card that a hand has, or none of the pack, was played -/
theorem wrong5 (H : DealtP h q) (tr ld : Nat) {x : Nat} (hx : (h 0).testBit x = true) : rightB h tr ld [x] = false := by
  refine no_of H.w64 fun hr => ?_
  have h1 : Own ⟨h, ld, [x]⟩ 0 x := own_hand (by decide) hx
  have h2 : Own ⟨h, ld, [x]⟩ ((ld + 0) % 4) x := own_trick (i := 0) rfl
  have h3 := hr.evn 0 (by decide)
  have h4 := hr.uniq 0 _ x h1 h2
  rw [if_pos (by simp), ← h4] at h3
  have h5 := hr.ok.ld
  have h6 : pop (h ((ld + [x].length) % 4)) = q := H.pops _ (Nat.mod_lt _ (by decide))
  rw [h6] at h3
  have h7 : pop (h 0) = q := H.pops 0 (by decide)
  have h8 : pop (h 0) + 1 = q := h3
  omega
theorem wrong6 (H : DealtP h q) (tr ld : Nat) {x : Nat} (hx : 52 ≤ x) : rightB h tr ld [x] = false := by
  refine no_of H.w64 fun hr => ?_
  have := hr.ok.c52 x (by simp)
  omega
theorem wrong3 {tr : Nat} (ld : Nat) (ht : 5 ≤ tr) : rightB h tr ld [] = false := by
  unfold rightB
  rw [decide_eq_false (by omega)]; rfl
theorem wrong4 (tr : Nat) {ld : Nat} (ht : 4 ≤ ld) : rightB h tr ld [] = false := by
  unfold rightB
  rw [decide_eq_false (show ¬ ld ≤ 3 by omega)]; simp
/-- a position that is not right; dl: its hands alone are not right -/
structure WrP (h : Nat → Nat) (tr ld : Nat) (ps : List Nat) (dl : Bool) : Prop where
  w64 : ∀ s, W64 (h s)
  t256 : tr < 256
  l256 : ld < 256
  no : rightB h tr ld ps = false
  deal : dl = true → rightB h 0 0 [] = false
  few : rightB h 0 0 [] = true → pop (h 0) ≤ 4
end Go.Proofs.YtnbillhodbcfbaaDoor
