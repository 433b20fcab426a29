/- Plain: what revoke.Find and revoke.Winners return, card by card. -/
import Derived.Test.YtdlnilebnobllaaRvFl
namespace Go.Proofs.Ytdlnilebnobllaa
open Go.RowKit

/-- the suit led to the trick of a card -/
def ledAt (zs : List Nat) (i : Nat) : Nat := zs.getD (i - i % 4) 0 / 13
/-- whether the card at a place is a revoke -/
def revAt (h : Nat → Nat) (t ld0 : Nat) (zs : List Nat) (i : Nat) : Bool :=
  decide (zs.getD i 0 / 13 ≠ ledAt zs i) && (List.range 52).any fun c => (h (seatAt t ld0 zs i)).testBit c && decide (c ∉ zs.take i) && decide (c / 13 = ledAt zs i)
def estAt (t ld0 : Nat) (zs : List Nat) (m i : Nat) : Bool := (List.range m).any fun k => decide (k / 4 = i / 4 + 1) && decide (seatAt t ld0 zs k % 2 = seatAt t ld0 zs i % 2)
def rvAt (t ld0 : Nat) (zs : List Nat) (m i : Nat) : Rvk := ⟨i / 4, seatAt t ld0 zs i, ledAt zs i, zs.getD i 0, estAt t ld0 zs m i⟩
/-- the revokes of the first m cards -/
def flatF (h : Nat → Nat) (t ld0 : Nat) (zs : List Nat) (m : Nat) : List Rvk := ((List.range m).filter (revAt h t ld0 zs)).map (rvAt t ld0 zs m)
theorem estAt_succ (t ld0 : Nat) (zs : List Nat) (m i : Nat) : estAt t ld0 zs (m + 1) i = (estAt t ld0 zs m i || (decide (m / 4 = i / 4 + 1) && decide (seatAt t ld0 zs m % 2 = seatAt t ld0 zs i % 2))) := by
  unfold estAt
  rw [List.range_succ, List.any_append]
  simp
theorem estAt_self (t ld0 : Nat) (zs : List Nat) (m : Nat) : estAt t ld0 zs (m + 1) m = false := by
  unfold estAt
  rw [List.any_eq_false]
  intro k hk
  have := List.mem_range.1 hk
  have : ¬ k / 4 = m / 4 + 1 := by omega
  simp [this]
theorem flatF_succ (h : Nat → Nat) (t ld0 : Nat) (zs : List Nat) (m : Nat) : flatF h t ld0 zs (m + 1) =
    if revAt h t ld0 zs m then estab (flatF h t ld0 zs m) ((m / 4 : Nat) - 1 : Int) (seatAt t ld0 zs m) ++ [⟨m / 4, seatAt t ld0 zs m, ledAt zs m, zs.getD m 0, false⟩] else estab (flatF h t ld0 zs m) ((m / 4 : Nat) - 1 : Int) (seatAt t ld0 zs m) := by
  have hmap : ((List.range m).filter (revAt h t ld0 zs)).map (rvAt t ld0 zs (m + 1)) = estab (flatF h t ld0 zs m) ((m / 4 : Nat) - 1 : Int) (seatAt t ld0 zs m) := by
    unfold flatF estab
    rw [List.map_map]
    apply List.map_congr_left
    intro i _
    simp only [Function.comp]
    unfold rvAt
    rw [estAt_succ]
    dsimp only
    by_cases hc : m / 4 = i / 4 + 1 ∧ seatAt t ld0 zs m % 2 = seatAt t ld0 zs i % 2
    · rw [if_pos ⟨by omega, hc.2.symm⟩]; simp [hc.1, hc.2]
    · rw [if_neg (fun hh => hc ⟨by omega, hh.2.symm⟩)]
      have : (decide (m / 4 = i / 4 + 1) && decide (seatAt t ld0 zs m % 2 = seatAt t ld0 zs i % 2)) = false := by
        rw [Bool.and_eq_false_iff]
        by_cases h1 : m / 4 = i / 4 + 1
        · right; simp; exact fun h2 => hc ⟨h1, h2⟩
        · left; simp [h1]
      rw [this, Bool.or_false]
  have hs : flatF h t ld0 zs (m + 1) = ((List.range m).filter (revAt h t ld0 zs)).map (rvAt t ld0 zs (m + 1)) ++ ([m].filter (revAt h t ld0 zs)).map (rvAt t ld0 zs (m + 1)) := by
    unfold flatF
    rw [List.range_succ, List.filter_append, List.map_append]
  rw [hs, hmap]
  cases hb : revAt h t ld0 zs m
  · simp [hb]
  · simp [hb, rvAt, estAt_self]
theorem suit_bits (g s : Nat) (hg : ∀ c, g.testBit c = true → c < 52) : land (shr g (13 * s)) 8191 ≠ 0 ↔ ∃ c, c < 52 ∧ g.testBit c = true ∧ c / 13 = s := by
  have e : land (shr g (13 * s)) 8191 = (g >>> (13 * s)) % 2 ^ 13 := by unfold land shr; exact Nat.and_two_pow_sub_one_eq_mod _ 13
  rw [e]
  constructor
  · intro h
    obtain ⟨i, hi⟩ := Nat.exists_testBit_of_ne_zero h
    rw [Nat.testBit_mod_two_pow, Nat.testBit_shiftRight, Bool.and_eq_true, decide_eq_true_eq] at hi
    exact ⟨13 * s + i, hg _ hi.2, hi.2, by omega⟩
  · rintro ⟨c, _, h2, h3⟩ h0
    have : ((g >>> (13 * s)) % 2 ^ 13).testBit (c - 13 * s) = true := by
      rw [Nat.testBit_mod_two_pow, Nat.testBit_shiftRight, show 13 * s + (c - 13 * s) = c by omega, h2]
      simp; omega
    rw [h0] at this
    simp at this
/-- the program's test of a revoke is the document's -/
theorem rev_same {h : Nat → Nat} (hp : Pack h) {t ld0 : Nat} {zs : List Nat} {x : Rnd} (hx : RndAt h t ld0 zs x) {i : Nat} (hi : i < x.cards.length) :
    (x.cards.getD i 0 / 13 ≠ x.cards.getD 0 0 / 13 ∧ land (shr (x.h ((x.leader + i) % 4)) (13 * (x.cards.getD 0 0 / 13))) 8191 ≠ 0) ↔ revAt h t ld0 zs (4 * x.num + i) = true := by
  have h4 := hx.le4
  have hseat : seatAt t ld0 zs (4 * x.num + i) = (x.leader + i) % 4 := by
    unfold seatAt
    rw [show (4 * x.num + i) / 4 = x.num by omega, show (4 * x.num + i) % 4 = i by omega, hx.lead]
  have hled : ledAt zs (4 * x.num + i) = x.cards.getD 0 0 / 13 := by
    unfold ledAt
    rw [show 4 * x.num + i - (4 * x.num + i) % 4 = 4 * x.num + 0 by omega, hx.card (by omega)]
  have hs : (x.leader + i) % 4 < 4 := Nat.mod_lt _ (by omega)
  have hbits : ∀ c, ((x.h ((x.leader + i) % 4)).testBit c = true ↔ (h ((x.leader + i) % 4)).testBit c = true ∧ c ∉ zs.take (4 * x.num + i)) := by
    intro c
    rw [hx.hands _ c hs]
    constructor
    · rintro ⟨h1, h2⟩
      refine ⟨h1, fun hm => ?_⟩
      rw [← take_add' zs (4 * x.num) i, List.mem_append] at hm
      rcases hm with hm | hm
      · exact h2 hm
      · obtain ⟨j, hj, he⟩ := List.mem_iff_getElem.1 hm
        have hji : j < i := by have : j < ((zs.drop (4 * x.num)).take i).length := hj; simp at this; omega
        have hc : zs.getD (4 * x.num + j) 0 = c := by
          rw [List.getElem_take, List.getElem_drop] at he
          rw [List.getD_eq_getElem?_getD, List.getElem?_eq_getElem (by simp at hj; omega), he]; rfl
        have hok := (hx.ok j (by omega)).1
        rw [hc] at hok
        have hseatj : seatAt t ld0 zs (4 * x.num + j) = (x.leader + j) % 4 := by
          unfold seatAt
          rw [show (4 * x.num + j) / 4 = x.num by omega, show (4 * x.num + j) % 4 = j by omega, hx.lead]
        rw [hseatj] at hok
        have := hp.one (Nat.mod_lt _ (by omega)) hs hok h1
        omega
    · rintro ⟨h1, h2⟩
      exact ⟨h1, fun hm => h2 (by rw [← take_add' zs (4 * x.num) i, List.mem_append]; exact .inl hm)⟩
  have hsb := suit_bits (x.h ((x.leader + i) % 4)) (x.cards.getD 0 0 / 13) (fun c hc => hp.le _ c hs ((hbits c).1 hc).1)
  rw [hsb]
  unfold revAt
  rw [Bool.and_eq_true, decide_eq_true_eq, List.any_eq_true, hx.card hi, hled, hseat]
  constructor
  · rintro ⟨h1, c, c1, c2, c3⟩
    refine ⟨h1, c, List.mem_range.2 c1, ?_⟩
    obtain ⟨d1, d2⟩ := (hbits c).1 c2
    simp [d1, d2, c3]
  · rintro ⟨h1, c, c1, c2⟩
    rw [Bool.and_eq_true, Bool.and_eq_true, decide_eq_true_eq, decide_eq_true_eq] at c2
    exact ⟨h1, c, List.mem_range.1 c1, (hbits c).2 c2.1, c2.2⟩
theorem findTo_flat {h : Nat → Nat} (hp : Pack h) {t ld0 : Nat} {zs : List Nat} {x : Rnd} (hx : RndAt h t ld0 zs x) : ∀ i, i ≤ x.cards.length → findTo x (flatF h t ld0 zs (4 * x.num)) i = flatF h t ld0 zs (4 * x.num + i)
  | 0, _ => rfl
  | i + 1, hi => by
    have h4 := hx.le4
    rw [findTo, findTo_flat hp hx i (by omega), ← Nat.add_assoc, flatF_succ]
    unfold findStep
    have hseat : seatAt t ld0 zs (4 * x.num + i) = (x.leader + i) % 4 := by
      unfold seatAt
      rw [show (4 * x.num + i) / 4 = x.num by omega, show (4 * x.num + i) % 4 = i by omega, hx.lead]
    have hled : ledAt zs (4 * x.num + i) = x.cards.getD 0 0 / 13 := by
      unfold ledAt
      rw [show 4 * x.num + i - (4 * x.num + i) % 4 = 4 * x.num + 0 by omega, hx.card (by omega)]
    have hr := rev_same hp hx (i := i) (by omega)
    rw [hseat, show (4 * x.num + i) / 4 = x.num by omega, ← hx.card (by omega : i < x.cards.length), hled]
    by_cases hc : revAt h t ld0 zs (4 * x.num + i) = true
    · rw [if_pos (hr.2 hc), if_pos hc]
    · rw [if_neg (fun hh => hc (hr.1 hh)), if_neg hc]
/-- revoke.Find, card by card -/
theorem find_flat {r : Rc} (hd : r.dealt = true) : findAll r.rnds = flatF r.h r.t r.ld0 r.zs r.good := by
  obtain ⟨hf, _⟩ := rc_flat hd
  have hp := dealt_pack hd
  have key : ∀ (post L : List Rnd), r.rnds = L ++ post → findAll L = flatF r.h r.t r.ld0 r.zs (sumTo L) → findAll (L ++ post) = flatF r.h r.t r.ld0 r.zs (sumTo (L ++ post)) := by
    intro post
    induction post with
    | nil => intro L _ h; simpa using h
    | cons x post ih =>
      intro L he hL
      obtain ⟨q1, q2, q3⟩ := hf L x post he
      have h1 : findAll (L ++ [x]) = flatF r.h r.t r.ld0 r.zs (sumTo (L ++ [x])) := by
        rw [findAll_snoc, hL, sumTo_snoc, q3]
        unfold findRnd
        have := findTo_flat hp q2 x.cards.length (Nat.le_refl _)
        rwa [q1] at this
      have := ih (L ++ [x]) (by rw [he]; simp) h1
      simpa using this
  exact key r.rnds [] rfl rfl
/-- revoke.Winners, trick by trick -/
theorem wins_flat {r : Rc} (hd : r.dealt = true) : winsTo r.rnds = (List.range (r.good / 4)).map fun j => ldAt r.t r.ld0 r.zs (j + 1) := by
  obtain ⟨hf, _⟩ := rc_flat hd
  have key : ∀ (post L : List Rnd), r.rnds = L ++ post → (winsTo L = (List.range (sumTo L / 4)).map fun j => ldAt r.t r.ld0 r.zs (j + 1)) → winsTo (L ++ post) = (List.range (sumTo (L ++ post) / 4)).map fun j => ldAt r.t r.ld0 r.zs (j + 1) := by
    intro post
    induction post with
    | nil => intro L _ h; simpa using h
    | cons x post ih =>
      intro L he hL
      obtain ⟨q1, q2, q3⟩ := hf L x post he
      have h4 := q2.le4
      have h1 : winsTo (L ++ [x]) = (List.range (sumTo (L ++ [x]) / 4)).map fun j => ldAt r.t r.ld0 r.zs (j + 1) := by
        rw [winsTo_snoc, hL, sumTo_snoc, q3]
        by_cases e : x.cards.length = 4
        · rw [if_pos e, e, show (4 * L.length + 4) / 4 = L.length + 1 by omega, show 4 * L.length / 4 = L.length by omega, List.range_succ, List.map_append, q2.win e, q1]; rfl
        · rw [if_neg e, show (4 * L.length + x.cards.length) / 4 = L.length by omega, show 4 * L.length / 4 = L.length by omega]
      have := ih (L ++ [x]) (by rw [he]; simp) h1
      simpa using this
  exact key r.rnds [] rfl rfl
end Go.Proofs.Ytdlnilebnobllaa
