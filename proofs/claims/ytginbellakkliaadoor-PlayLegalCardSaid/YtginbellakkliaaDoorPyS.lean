/- Plain: deals that cannot be played (finesselaw12.PlayWrong), and the lowest card of a set. -/
import Derived.Test.YtginbellakkliaaDoorPyR
namespace Go.Proofs.YtginbellakkliaaDoor
open Go.RowKit Go.Shelf Go.Sort

theorem drop1_landn {x : Nat} (h0 : x ≠ 0) (hx : W64 x) : drop1 x = landn x (shl1 (Lib.ctz 64 x)) := by
  obtain ⟨_, _, hc⟩ := ctz_spec x h0 hx
  apply Nat.eq_of_testBit_eq
  intro i
  rw [drop1_bit x i h0 hx, testBit_landn, testBit_shl1]
  by_cases h : i = Lib.ctz 64 x
  · subst h; simp [hc]
  · have : ¬ Lib.ctz 64 x = i := fun e => h e.symm
    simp [h, this]
theorem pop_drop1 {x : Nat} (h0 : x ≠ 0) (hx : W64 x) : pop (drop1 x) + 1 = pop x := by
  obtain ⟨_, _, hc⟩ := ctz_spec x h0 hx
  rw [drop1_landn h0 hx]
  exact pop_landn x _ hc (ctz_bit x h0 hx).1
theorem drop1_w64 {x : Nat} (hx : W64 x) : W64 (drop1 x) := Nat.lt_of_le_of_lt Nat.and_le_left hx
theorem dealOk_at {d : Nat → Nat} (h : dealOk d = true) {k : Nat} (hk : k < 4) : handOk d k = true := by
  cases hh : handOk d k
  · rw [dealOk_no hk hh] at h; cases h
  · rfl
theorem handOk_lt {d : Nat → Nat} {k : Nat} (h : handOk d k = true) : d k < 4503599627370496 := by
  unfold handOk at h; simp only [Bool.and_eq_true, decide_eq_true_eq] at h; exact h.1.1.1.1
theorem handOk_land {d : Nat → Nat} {k : Nat} (h : handOk d k = true) : land (allTo d k) (d k) = 0 := by
  unfold handOk at h; simp only [Bool.and_eq_true, decide_eq_true_eq] at h; exact h.1.2
theorem handOk_len {d : Nat → Nat} {k : Nat} (h : handOk d k = true) (h0 : k ≠ 0) : (downL (d k)).length = (downL (d (k - 1))).length := by
  unfold handOk at h; simp only [Bool.and_eq_true, Bool.or_eq_true, decide_eq_true_eq] at h
  rcases h.2 with h1 | h1
  · exact absurd h1 h0
  · rw [h1]; unfold numTo; rw [if_neg h0]
theorem dealOk_len {d : Nat → Nat} (h : dealOk d = true) : ∀ k, k < 4 → (downL (d k)).length = (downL (d 0)).length
  | 0, _ => rfl
  | k + 1, hk => by rw [handOk_len (dealOk_at h hk) (by omega), Nat.add_sub_cancel]; exact dealOk_len h k (by omega)
theorem allTo_has (d : Nat → Nat) (c : Nat) : ∀ k j, j < k → (d j).testBit c = true → (allTo d k).testBit c = true
  | 0, j, h, _ => by omega
  | k + 1, j, h, hb => by
    rw [allTo, testBit_lor]
    by_cases he : j = k
    · subst he; rw [hb, Bool.or_true]
    · rw [allTo_has d c k j (by omega) hb]; rfl
theorem dealOk_apart {d : Nat → Nat} (h : dealOk d = true) {j k : Nat} (hjk : j < k) (hk : k < 4) (c : Nat) (hb : (d j).testBit c = true) : (d k).testBit c = false := by
  have h1 := congrArg (fun m => m.testBit c) (handOk_land (dealOk_at h hk))
  simp only [testBit_land, allTo_has d c k j hjk hb, Bool.true_and, Nat.zero_testBit] at h1
  exact h1
theorem made_lead (x : Mn) : (leadV x.lv x.dn x.rk x.dc).2 = 0 := by
  unfold leadV
  rw [if_neg (by unfold Mn.lv; omega), if_pos ⟨by unfold Mn.lv; omega, by unfold Mn.dn; omega, by unfold Mn.rk; omega, by unfold Mn.dc; omega⟩]
theorem newE_deal (x : Mn) {d : Nat → Nat} (h : dealOk d = false) : newE d x.lv x.dn x.rk x.dc = 120 := by
  unfold newE; rw [if_pos (made_lead x), h]; rfl
theorem made_ne (x : Mn) (j : Nat) (hj : j < 4) : x.d j ≠ 0 := by
  intro e
  have h := made_pop x j hj
  rw [e, pop_nil] at h
  have := x.each_le
  omega
theorem wrong0 (x : Mn) (i : Nat) (hi : i < 4) : dealOk (setH x.d i (drop1 (x.d i))) = false := by
  cases h : dealOk (setH x.d i (drop1 (x.d i)))
  · rfl
  · exfalso
    have hw := made_w64 x i
    have h1 := dealOk_len h i hi
    have h2 := dealOk_len h ((i + 1) % 4) (Nat.mod_lt _ (by decide))
    have e1 : setH x.d i (drop1 (x.d i)) i = drop1 (x.d i) := by simp [setH]
    have e2 : setH x.d i (drop1 (x.d i)) ((i + 1) % 4) = x.d ((i + 1) % 4) := by simp [setH]; omega
    rw [e1, downL_pop _ _ (drop1_w64 hw) rfl] at h1
    rw [e2, downL_pop _ _ (made_w64 x _) (made_pop x _ (Nat.mod_lt _ (by decide)))] at h2
    have h3 := pop_drop1 (made_ne x i hi) hw
    rw [made_pop x i hi] at h3
    omega
theorem wrong1 (x : Mn) (i : Nat) (hi : i < 4) : dealOk (setH x.d i (x.d ((i + 1) % 4))) = false := by
  cases h : dealOk (setH x.d i (x.d ((i + 1) % 4)))
  · rfl
  · exfalso
    have hj : (i + 1) % 4 < 4 := Nat.mod_lt _ (by decide)
    have hp := made_pop x _ hj
    have he := x.each_le
    obtain ⟨c, -, hc⟩ := cnt_pos (x.d ((i + 1) % 4)) 64 (by unfold pop at hp; omega)
    have e1 : setH x.d i (x.d ((i + 1) % 4)) i = x.d ((i + 1) % 4) := by simp [setH]
    have e2 : setH x.d i (x.d ((i + 1) % 4)) ((i + 1) % 4) = x.d ((i + 1) % 4) := by simp [setH]
    rcases Nat.lt_or_ge i ((i + 1) % 4) with hlt | hge
    · have := dealOk_apart h hlt hj c (by rw [e1]; exact hc)
      rw [e2, hc] at this; cases this
    · have := dealOk_apart h (show (i + 1) % 4 < i by omega) hi c (by rw [e2]; exact hc)
      rw [e1, hc] at this; cases this
theorem wrong2 (x : Mn) (i k : Nat) (hi : i < 4) (hk : k < 12) : dealOk (setH x.d i (lor (drop1 (x.d i)) (shl1 (52 + k)))) = false := by
  cases h : dealOk (setH x.d i (lor (drop1 (x.d i)) (shl1 (52 + k))))
  · rfl
  · exfalso
    have h1 := handOk_lt (dealOk_at h hi)
    have e1 : setH x.d i (lor (drop1 (x.d i)) (shl1 (52 + k))) i = lor (drop1 (x.d i)) (shl1 (52 + k)) := by simp [setH]
    rw [e1] at h1
    have h2 : (lor (drop1 (x.d i)) (shl1 (52 + k))).testBit (52 + k) = true := by
      rw [testBit_lor, testBit_shl1]; simp; right; omega
    have h3 := Nat.testBit_lt_two_pow (Nat.lt_of_lt_of_le h1 (show 4503599627370496 ≤ 2 ^ (52 + k) from Nat.le_trans (by decide : 4503599627370496 ≤ 2 ^ 52) (Nat.pow_le_pow_right (by decide) (by omega))))
    rw [h2] at h3; cases h3
theorem newE_lead {d : Nat → Nat} {lv dn rk dc e : Nat} (h : (leadV lv dn rk dc).2 = e) (he : e ≠ 0) : newE d lv dn rk dc = e := by
  unfold newE; rw [h, if_neg he]
end Go.Proofs.YtginbellakkliaaDoor
