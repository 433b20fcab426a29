/- PlM, PlG, PlN in one text. -/
import Derived.Test.YtikdkhiehfccpaaAgX0
import Derived.Test.YtikdkhiehfccpaaMPld
import Derived.Lib.TrailingZeros

/- Masks and counts: small facts. -/
namespace Go.Proofs.Ytikdkhiehfccpaa
open Go.RowKit Go.Sort Go.Shelf Cnt

/-- the pack's cards of a mask -/
def pk (m : Nat) : Nat := land m 4503599627370495
theorem pk_lt (m : Nat) : pk m < 4503599627370496 := by
  unfold pk land
  exact Nat.lt_of_le_of_lt Nat.and_le_right (by decide)
theorem run_pk (m : Nat) (h : W64 m) : Op.intBits .and .u64 (m : Int) 4503599627370495 = pure (.int .u64 ((pk m : Nat) : Int)) :=
  run_and64 m 4503599627370495 h (by unfold W64; decide)
theorem bits_pk (m : Nat) (h : W64 m) : bits .and .u64 (m : Int) 4503599627370495 = ((pk m : Nat) : Int) := by
  rw [show (4503599627370495 : Int) = ((4503599627370495 : Nat) : Int) from rfl, bits_and_nat _ _ h (by unfold W64; decide)]
  rfl
theorem land_bit {L c : Nat} (hc : c < 64) : ∀ j, (landn (lor L (shl1 c)) (shl1 c)).testBit j = ((lor L (shl1 c)).testBit j && j != c) := by
  intro j
  rw [testBit_landn, testBit_lor, testBit_shl1]
  by_cases h : c = j
  · subst h; simp [hc]
  · have : j ≠ c := fun e => h e.symm
    simp [h, this]
theorem lor_self {L c : Nat} (hc : c < 64) : (lor L (shl1 c)).testBit c = true := by
  rw [testBit_lor, testBit_shl1]; simp [hc]
theorem lt_52 {m : Nat} (h : ∀ j, 52 ≤ j → m.testBit j = false) : m < 4503599627370496 :=
  Nat.lt_pow_two_of_testBit (n := 52) m h
theorem bit_52 {m j : Nat} (h : m < 4503599627370496) (hj : 52 ≤ j) : m.testBit j = false :=
  Nat.testBit_lt_two_pow (Nat.lt_of_lt_of_le h (Nat.pow_le_pow_right (n := 2) (by decide) hj))
theorem lor_52 {L c : Nat} (hL : L < 4503599627370496) (hc : c < 52) : lor L (shl1 c) < 4503599627370496 := lt_52 fun j hj => by
  rw [testBit_lor, testBit_shl1, bit_52 hL hj]; simp; omega
theorem landn_52 {L m : Nat} (hL : L < 4503599627370496) : landn L m < 4503599627370496 := lt_52 fun j hj => by
  rw [testBit_landn, bit_52 hL hj]; rfl
theorem bits_or_nat (a b : Nat) (ha : W64 a) (hb : W64 b) : bits .or .u64 (a : Int) (b : Int) = ((lor a b : Nat) : Int) := by
  have h := run_or64 a b ha hb
  rw [intBits_or] at h
  injection h with h
  injection h
theorem bits_andn_nat (a b : Nat) (ha : W64 a) (hb : W64 b) : bits .andNot .u64 (a : Int) (b : Int) = ((landn a b : Nat) : Int) := by
  have h := run_andn64 a b ha hb
  rw [intBits_andNot] at h
  injection h with h
  injection h
/-- one pair of lengths put into the range of all -/
theorem put_rgS (s : Nat) (hs : s < 4) (l h : Int) (r : Rg) (hr : ∃ l0 h0, r = rgS s l0 h0) : putAt r.arr (2 + s * 2) [.int .i64 l, .int .i64 h] = (rgS s l h).arr := by
  obtain ⟨l0, h0, rfl⟩ := hr
  have : s = 0 ∨ s = 1 ∨ s = 2 ∨ s = 3 := by omega
  rcases this with rfl | rfl | rfl | rfl <;> rfl
theorem all_rgS (s : Nat) (hs : s < 4) : rgAll = rgS s 0 13 := by
  have : s = 0 ∨ s = 1 ∨ s = 2 ∨ s = 3 := by omega
  rcases this with rfl | rfl | rfl | rfl <;> rfl

theorem ag_TotalOk (left : Nat) (n : Int) (hl : left < 4503599627370496) (h0 : 0 ≤ n) (h13 : n ≤ 13) (w : World) :
    Calls Try.prog 26 #[.int .u64 (left : Int), .int .i64 n] w fun e w' => e = .returned (.tuple #[.int .i64 ((chs (pop left) n.toNat : Nat) : Int), .int .i64 0]) ∧ w = w' := by
  have h := ag_Total left n w (by unfold W64; omega)
  have e : totalV left n = (chs (pop left) n.toNat, 0) := by
    unfold totalV
    rw [if_pos]
    simp [legalB, h0, h13, hl]
  rw [e] at h
  exact h
theorem pts_one : ∀ c : Fin 52, ptsM (shl1 c.val) = ptC (c.val % 13) := by decide +kernel
theorem pop_landn {L c : Nat} (hc : c < 64) (h : L.testBit c = true) : pop (landn L (shl1 c)) + 1 = pop L := by
  have e : sumN 64 (fun i => if i = c then 1 else 0) = 1 := by rw [sumN_pick 64 c (fun _ => 1), if_pos hc]
  have key : sumN 64 (fun i => if L.testBit i then 1 else 0) = sumN 64 (fun i => if (landn L (shl1 c)).testBit i then 1 else 0) + sumN 64 (fun i => if i = c then 1 else 0) := by
    rw [← sumN_add]
    refine sumN_congr fun i _ => ?_
    rw [testBit_landn, testBit_shl1]
    by_cases hi : i = c
    · subst hi; simp [h, hc]
    · have : ¬ c = i := fun e => hi e.symm
      simp [hi, this]
  unfold pop
  rw [cnt_sum, cnt_sum, key, e]
theorem PS_tot (ds : List Ft) : PS ds = (tot ds).p := by
  induction ds with
  | nil => rfl
  | cons x l ih => show x.p + PS l = x.p + (tot l).p; rw [ih]
theorem PS_le (L : Nat) : PS (deck L) ≤ 40 := by
  rw [PS_tot]
  exact (tot_deck L).2.2.2.2
theorem cntF_mono (ds : List Ft) (nn : Nat) {p q : (Nat → Nat) → Nat → Bool} (h : ∀ l x, p l x = true → q l x = true) : cntF ds nn p ≤ cntF ds nn q := by
  unfold cntF
  refine sumF_le fun x => ?_
  split
  · by_cases e : p (lenF x) x.p = true
    · rw [if_pos e, if_pos (h _ _ e)]; exact Nat.le_refl _
    · rw [if_neg e]; exact Nat.zero_le _
  · exact Nat.le_refl _
theorem cntF_top (L nn : Nat) (p : (Nat → Nat) → Nat → Bool) : cntF (deck L) nn p ≤ chs (deck L).length nn := by
  rw [← sum_all (deck L) (deck_singles L) nn]
  unfold cntF
  refine sumF_le fun x => ?_
  split
  · split <;> omega
  · exact Nat.le_refl _

theorem make_ints (n : Nat) (hn : n ≤ 100) (w1 : World) : (Instr.makeSlice 64 (.int .i64 (n : Int)) (.int .i64 (n : Int))).run Try.prog w1 = .ok (.slice (some ⟨w1.heap.size, 0, none⟩) n n) (w1.alloc (.cells (tab n fun _ => 0) 3)) := by
  have h : (Try.prog.info? 3).map (fun i => (i.zero, i.size, i.bytes)) = some (some (.int .i64 0), 1, 8) := by kernel_rfl
  obtain ⟨i, hq, h0, h1, h2⟩ := info_parts h
  have hr := run_makeSlice (P := Try.prog) w1 64 3 i (.int .i64 0) Try.underlying64 hq h0 .i64 .i64 (n : Int) (n : Int) (by omega) (by omega) (by rw [h1]; simp; omega) (by rw [h2]; omega) (by omega)
  have e : madeCells (Value.int .i64 0).cells n = tab n fun _ => 0 := by
    apply Array.ext_getElem?
    intro j
    by_cases hj : j < n
    · rw [tab_get n _ j hj]
      simp [madeCells, hj, Value.cells, Nat.mod_one]
    · rw [Array.getElem?_eq_none (by simp [size_madeCells]; omega), Array.getElem?_eq_none (by simp; omega)]
  rw [hr]
  simp only [Int.toNat_natCast, h1, Nat.mul_one, e]
end Go.Proofs.Ytikdkhiehfccpaa

/- Plain: all hands out of a mask, one by one; words without their lowest bit. -/
namespace Go.Proofs.Ytikdkhiehfccpaa
open Cnt

/-- A word without its lowest bit. -/
def drop1 (x : Nat) : Nat := x &&& (x - 1)
theorem ctz_spec (x : Nat) (h0 : x ≠ 0) (hx : x < 2 ^ 64) : ∃ m, x = 2 ^ Lib.ctz 64 x * (2 * m + 1) ∧ Lib.ctz 64 x < 64 := by
  unfold Lib.ctz; rw [if_neg h0]; exact Lib.ctzFrom_spec 64 x (by omega) hx
theorem odd_bit (k m i : Nat) : (2 ^ k * (2 * m + 1)).testBit i = (decide (i = k) || (decide (k < i) && m.testBit (i - k - 1))) := by
  rw [Nat.testBit_two_pow_mul]
  by_cases h : k ≤ i
  · by_cases h2 : i = k
    · subst h2; simp
    · have : i - k = (i - k - 1) + 1 := by omega
      rw [this, Nat.testBit_succ]
      have e : (2 * m + 1) / 2 = m := by omega
      have h3 : k < i := by omega
      simp [e, h2, h, h3]
  · have h2 : ¬ i = k := by omega
    have h3 : ¬ k < i := by omega
    simp [h, h2, h3]
theorem even_bit (k m i : Nat) : (2 ^ k * (2 * m)).testBit i = (decide (k < i) && m.testBit (i - k - 1)) := by
  have : 2 ^ k * (2 * m) = 2 ^ (k + 1) * m := by rw [Nat.pow_succ]; ac_rfl
  rw [this, Nat.testBit_two_pow_mul]
  by_cases h : k < i
  · have e : i - (k + 1) = i - k - 1 := by omega
    have h3 : k + 1 ≤ i := by omega
    simp [e, h, h3]
  · have h3 : ¬ k + 1 ≤ i := by omega
    simp [h, h3]
theorem low_bit (k a i : Nat) : (2 ^ k * (2 * a) + (2 ^ k - 1)).testBit i = (decide (i < k) || (decide (k < i) && a.testBit (i - k - 1))) := by
  have hp : 2 ^ k - 1 < 2 ^ k := by have := Nat.two_pow_pos k; omega
  rw [Nat.two_pow_add_eq_or_of_lt hp, Nat.testBit_or, even_bit, Nat.testBit_two_pow_sub_one]
  exact Bool.or_comm _ _
theorem drop1_eq (x : Nat) (h0 : x ≠ 0) (hx : x < 2 ^ 64) : ∃ k, k < 64 ∧ x.testBit k = true ∧ drop1 x = landn x (shl1 k) := by
  obtain ⟨m, hm, hk⟩ := ctz_spec x h0 hx
  generalize Lib.ctz 64 x = k at *
  subst hm
  refine ⟨k, hk, by rw [odd_bit]; simp, ?_⟩
  have hp := Nat.two_pow_pos k
  have e : 2 ^ k * (2 * m + 1) - 1 = 2 ^ k * (2 * m) + (2 ^ k - 1) := by
    rw [Nat.mul_add, Nat.mul_one]; omega
  apply Nat.eq_of_testBit_eq
  intro i
  unfold drop1
  rw [e, Nat.testBit_and, testBit_landn, testBit_shl1, odd_bit, low_bit]
  by_cases h1 : i = k
  · subst h1; simp [hk]
  · have h3 : ¬ k = i := fun e => h1 e.symm
    by_cases h2 : i < k
    · have : ¬ k < i := by omega
      simp [h1, h2, this, h3]
    · simp [h1, h2, h3]
theorem drop1_pop (x : Nat) (h0 : x ≠ 0) (hx : W64 x) : pop (drop1 x) + 1 = pop x := by
  obtain ⟨k, hk, hb, e⟩ := drop1_eq x h0 hx
  rw [e]
  exact pop_landn hk hb
theorem drop1_le (x : Nat) : drop1 x ≤ x := Nat.and_le_left
theorem drop1_lt (x : Nat) (h : x ≠ 0) : drop1 x < x := by
  have : drop1 x ≤ x - 1 := Nat.and_le_right
  omega
theorem pop_zero : pop 0 = 0 := by decide +kernel

/-- the hands out of the first k cards of a mask, in the order of the program -/
def subs (L : Nat) : Nat → List Nat
  | 0 => [0]
  | k + 1 => if L.testBit k then subs L k ++ (subs L k).map (fun h => lor h (shl1 k)) else subs L k
/-- the first k cards of a mask -/
def low (L k : Nat) : Nat := L % 2 ^ k
theorem low_bit' (L k j : Nat) : (low L k).testBit j = (decide (j < k) && L.testBit j) := by
  unfold low
  rw [Nat.testBit_mod_two_pow]
theorem low_52 {L : Nat} (h : L < 4503599627370496) : low L 52 = L := Nat.mod_eq_of_lt h
theorem subs_low {L : Nat} : ∀ {k h : Nat}, h ∈ subs L k → ∀ j, h.testBit j = true → j < k ∧ L.testBit j = true
  | 0, h, hh, j, hj => by
    obtain rfl : h = 0 := by simpa [subs] using hh
    simp at hj
  | k + 1, h, hh, j, hj => by
    unfold subs at hh
    by_cases e : L.testBit k = true
    · rw [if_pos e] at hh
      rcases List.mem_append.1 hh with h1 | h1
      · have := subs_low h1 j hj
        exact ⟨by omega, this.2⟩
      · obtain ⟨g, hg, rfl⟩ := List.mem_map.1 h1
        rw [testBit_lor, testBit_shl1] at hj
        by_cases ek : k = j
        · subst ek; exact ⟨by omega, e⟩
        · have hg2 : g.testBit j = true := by
            rcases Bool.or_eq_true_iff.1 hj with h2 | h2
            · exact h2
            · simp [ek] at h2
          have := subs_low hg j hg2
          exact ⟨by omega, this.2⟩
    · rw [if_neg e] at hh
      have := subs_low hh j hj
      exact ⟨by omega, this.2⟩
theorem subs_52 {L k h : Nat} (hk : k ≤ 52) (hh : h ∈ subs L k) : h < 4503599627370496 := lt_52 fun j hj => by
  cases e : h.testBit j with
  | false => rfl
  | true => have := (subs_low hh j e).1; omega
theorem subs_len (L : Nat) : ∀ k, (subs L k).length = 2 ^ cnt L k
  | 0 => rfl
  | k + 1 => by
    show (if L.testBit k then _ else _ : List Nat).length = 2 ^ (cnt L k + (L.testBit k).toNat)
    cases e : L.testBit k
    · simp [subs_len L k]
    · simp only [if_true, List.length_append, List.length_map, subs_len L k, Bool.toNat_true, Nat.pow_succ]; omega
theorem deck_congr {x y : Nat} (h : ∀ j, j < 52 → x.testBit j = y.testBit j) : deck x = deck y := by
  have e : ∀ s, s < 4 → rksOf (scards x s) = rksOf (scards y s) := fun s hs => rks_congr fun j hj => by
    rw [scards_bit _ _ _ hj, scards_bit _ _ _ hj, h _ (by omega)]
  unfold deck
  rw [e 0 (by decide), e 1 (by decide), e 2 (by decide), e 3 (by decide)]
theorem tot_perm {l m : List Ft} (h : l.Perm m) : tot l = tot m := by
  induction h with
  | nil => rfl
  | cons x _ ih => simp only [tot, ih]
  | swap x y l => simp only [tot]; rw [Ft.add_left]
  | trans _ _ ih1 ih2 => exact ih1.trans ih2
/-- what a hand has -/
def ftM (h : Nat) : Ft := tot (deck h)
theorem ftM_zero : ftM 0 = Ft.zero := by
  have : deck 0 = [] := by decide +kernel
  unfold ftM
  rw [this]; rfl
theorem ftM_put {h k : Nat} (hk : k < 52) (hb : h.testBit k = false) : ftM (lor h (shl1 k)) = (ftOf k).add (ftM h) := by
  have hp := deck_take (L := lor h (shl1 k)) (M := h) hk (lor_self (by omega)) (fun j => by
    rw [testBit_lor, testBit_shl1]
    by_cases e : k = j
    · subst e; rw [hb]; simp
    · have : (j != k) = true := by simp; exact fun e' => e e'.symm
      rw [this]; simp [e])
  unfold ftM
  rw [tot_perm hp]
  rfl
def sumOf (G : Ft → Nat) (l : List Nat) : Nat := (l.map fun h => G (ftM h)).sum
theorem sumOf_append (G : Ft → Nat) (l m : List Nat) : sumOf G (l ++ m) = sumOf G l + sumOf G m := by
  unfold sumOf; rw [List.map_append, List.sum_append]
theorem sumOf_put (G : Ft → Nat) (k : Nat) (hk : k < 52) (l : List Nat) (h : ∀ x ∈ l, x.testBit k = false) : sumOf G (l.map fun h => lor h (shl1 k)) = sumOf (fun y => G ((ftOf k).add y)) l := by
  unfold sumOf
  rw [List.map_map]
  congr 1
  exact List.map_congr_left fun x hx => by show G (ftM (lor x (shl1 k))) = _; rw [ftM_put hk (h x hx)]
theorem subs_sum (L : Nat) : ∀ k, k ≤ 52 → ∀ G : Ft → Nat, sumOf G (subs L k) = sumF (deck (low L k)) G
  | 0, _, G => by
    have e : deck (low L 0) = [] := by
      have : low L 0 = 0 := by unfold low; rw [Nat.pow_zero, Nat.mod_one]
      rw [this]; decide +kernel
    rw [e]
    show (([0] : List Nat).map fun h => G (ftM h)).sum = _
    simp [ftM_zero, sumF]
  | k + 1, hk, G => by
    cases e : L.testBit k
    · have h1 : subs L (k + 1) = subs L k := by show (if L.testBit k then _ else _) = _; rw [e]; rfl
      rw [h1, subs_sum L k (by omega) G, deck_congr (x := low L (k + 1)) (y := low L k)]
      intro j _
      rw [low_bit', low_bit']
      by_cases hj : j = k
      · subst hj; rw [e]; simp
      · have : decide (j < k + 1) = decide (j < k) := by rw [decide_eq_decide]; omega
        rw [this]
    · have h1 : subs L (k + 1) = subs L k ++ (subs L k).map (fun h => lor h (shl1 k)) := by show (if L.testBit k then _ else _) = _; rw [e]; rfl
      rw [h1, sumOf_append, sumOf_put G k (by omega) _ (fun x hx => by
        cases h2 : x.testBit k with
        | false => rfl
        | true => have := (subs_low hx k h2).1; omega), subs_sum L k (by omega) G, subs_sum L k (by omega) _]
      have h2 := deck_split (L := low L (k + 1)) (M := low L k) (c := k) (by omega) (by rw [low_bit', e]; simp) (fun j => by
        rw [low_bit', low_bit']
        by_cases hj : j = k
        · subst hj; simp
        · have h3 : decide (j < k + 1) = decide (j < k) := by rw [decide_eq_decide]; omega
          have h4 : (j != k) = true := by simp [hj]
          rw [h3, h4, Bool.and_true]) G
      exact h2.symm
/-- a hand's numbers, as the program counts them -/
theorem pop_13 {x : Nat} (h : x < 8192) : pop x = (rksOf x).length := by
  unfold pop rksOf
  rw [show (64 : Nat) = 13 + 51 from rfl, cnt_add, show x >>> 13 = 0 by rw [Nat.shiftRight_eq_div_pow]; omega, cnt_nil, Nat.add_zero, cnt_sum]
  rw [← sum_ones, sum_range]
theorem lens_ft (h k : Nat) (hk : k < 4) : lensM h k = lenF (ftM h) k := by
  unfold lensM ftM deck
  rw [pop_13 (scards_lt h k), tot_append, tot_append, tot_append, tot_suit, tot_suit, tot_suit, tot_suit]
  have : k = 0 ∨ k = 1 ∨ k = 2 ∨ k = 3 := by omega
  rcases this with rfl | rfl | rfl | rfl <;> simp [lenF, ftn, Ft.add]
theorem pts_suit (x : Nat) : ptS x = sumL (rksOf x) := by
  unfold sumL rksOf
  rw [sum_range]
  simp only [ptS, ptTo, sumN, ptC]
  simp
theorem pts_ft (h : Nat) : ptsM h = (ftM h).p := by
  unfold ftM deck ptsM
  rw [tot_append, tot_append, tot_append, tot_suit, tot_suit, tot_suit, tot_suit]
  have e : ∀ s, ptS (scards h s) = sumL (rksOf (scards h s)) := fun s => pts_suit _
  simp only [ptA, e, Ft.add, ftn]
  omega
theorem pop_ft {h : Nat} (hh : h < 4503599627370496) : pop h = (ftM h).size := by
  rw [← deck_pop hh]
  unfold ftM
  have : ∀ ds : List Ft, Singles ds → ds.length = (tot ds).size := by
    intro ds
    induction ds with
    | nil => intro _; rfl
    | cons x l ih => intro hs; show l.length + 1 = (x.add (tot l)).size; rw [Ft.size_add, hs x (List.mem_cons_self ..), ih hs.tail]; omega
  exact this _ (deck_singles h)
theorem long_congr (r : Rg) {l l' : Nat → Nat} (h : ∀ k, k < 4 → l k = l' k) : r.long l = r.long l' := by
  simp only [Rg.long, Rg.longTo, h 0 (by decide), h 1 (by decide), h 2 (by decide), h 3 (by decide)]
theorem fits_ft (rs : List Rg) (h : Nat) : fitsV rs h = fitP rs (lenF (ftM h)) (ftM h).p := by
  unfold fitsV fitsL fitP
  congr 1
  funext r
  rw [long_congr r (fun k hk => lens_ft h k hk), pts_ft, Bool.and_comm]
/-- the hands of n cards -/
def handsL (L n : Nat) : List Nat := (subs L 52).filter fun h => decide (pop h = n)
theorem sum_filter' (l : List Nat) (p : Nat → Bool) (F : Nat → Nat) : ((l.filter p).map F).sum = (l.map fun x => if p x then F x else 0).sum := by
  induction l with
  | nil => rfl
  | cons x l ih =>
    rw [List.filter_cons]
    cases h : p x
    · simp [h, ih]
    · simp [h, ih]
/-- the law: what is counted over the hands -/
theorem hands_sum {L : Nat} (hL : L < 4503599627370496) (n : Nat) (q : (Nat → Nat) → Nat → Bool) : ((handsL L n).map fun h => if q (lenF (ftM h)) (ftM h).p then 1 else 0).sum = cntF (deck L) n q := by
  have h1 := subs_sum L 52 (Nat.le_refl _) (fun x => if x.size = n then (if q (lenF x) x.p then 1 else 0) else 0)
  rw [low_52 hL] at h1
  unfold handsL cntF
  rw [← h1, sum_filter']
  unfold sumOf
  congr 1
  refine List.map_congr_left fun x hx => ?_
  dsimp only
  rw [← pop_ft (subs_52 (Nat.le_refl _) hx)]
  simp only [decide_eq_true_eq]
end Go.Proofs.Ytikdkhiehfccpaa

/- Plain: a mask of a list's first cards; hands counted one by one. -/
namespace Go.Proofs.Ytikdkhiehfccpaa
open Go.RowKit Go.Sort Go.Shelf Cnt

/-- the mask of a list's first cards -/
def litTo (zs : List Nat) : Nat → Nat
  | 0 => 0
  | k + 1 => lor (litTo zs k) (shl1 (zs.getD k 0 % 52))
theorem litTo_lt (zs : List Nat) : ∀ k, litTo zs k < 4503599627370496
  | 0 => Nat.zero_lt_succ _
  | k + 1 => lor_52 (litTo_lt zs k) (by omega)
theorem litTo_pop (zs : List Nat) : ∀ k, pop (litTo zs k) ≤ k
  | 0 => by show pop 0 ≤ 0; rw [pop_zero]; exact Nat.le_refl _
  | k + 1 => by
    have ih := litTo_pop zs k
    have hc : zs.getD k 0 % 52 < 64 := by omega
    show pop (lor (litTo zs k) (shl1 (zs.getD k 0 % 52))) ≤ k + 1
    generalize zs.getD k 0 % 52 = c at *
    by_cases h : (litTo zs k).testBit c = true
    · have e : lor (litTo zs k) (shl1 c) = litTo zs k := by
        apply Nat.eq_of_testBit_eq
        intro i
        rw [testBit_lor, testBit_shl1]
        by_cases e : c = i
        · subst e; simp [h]
        · simp [e]
      rw [e]; omega
    · have h2 := pop_landn hc (lor_self (L := litTo zs k) hc)
      have e : landn (lor (litTo zs k) (shl1 c)) (shl1 c) = litTo zs k := by
        apply Nat.eq_of_testBit_eq
        intro i
        rw [land_bit hc, testBit_lor, testBit_shl1]
        by_cases e : c = i
        · subst e
          have : (litTo zs k).testBit c = false := by simpa using h
          simp [this]
        · have e2 : (i != c) = true := by simp; exact fun h => e h.symm
          simp [e, e2]
      rw [e] at h2
      omega
/-- the range of a list being put together -/
theorem take_succ' {α : Type} (l : List α) (k : Nat) (hk : k < l.length) : l.take (k + 1) = l.take k ++ [l[k]] := by
  rw [List.take_add_one, List.getElem?_eq_getElem hk]; rfl
theorem getD_eq' (l : List Nat) (k : Nat) (hk : k < l.length) : l.getD k 0 = l[k] := by
  rw [List.getD_eq_getElem?_getD, List.getElem?_eq_getElem hk]; rfl
/-- how many of a list have something -/
def hs (q : Nat → Bool) (l : List Nat) : Nat := (l.map fun h => if q h then 1 else 0).sum
theorem hs_nil (q : Nat → Bool) : hs q [] = 0 := rfl
theorem hs_succ (q : Nat → Bool) (l : List Nat) (k : Nat) (hk : k < l.length) : hs q (l.take (k + 1)) = hs q (l.take k) + if q (l.getD k 0) then 1 else 0 := by
  unfold hs
  rw [take_succ' l k hk, List.map_append, List.sum_append, getD_eq' l k hk]
  simp
theorem hs_le (q : Nat → Bool) (l : List Nat) : hs q l ≤ l.length := by
  unfold hs
  induction l with
  | nil => exact Nat.le_refl _
  | cons x l ih =>
    rw [List.map_cons, List.sum_cons, List.length_cons]
    split <;> omega
theorem hs_cnt {L : Nat} (hL : L < 4503599627370496) (n : Nat) (q : (Nat → Nat) → Nat → Bool) (p : Nat → Bool) (h : ∀ x, p x = q (lenF (ftM x)) (ftM x).p) : hs p (handsL L n) = cntF (deck L) n q := by
  rw [← hands_sum hL n q]
  unfold hs
  simp only [h]
theorem hs_fits {L : Nat} (hL : L < 4503599627370496) (n : Nat) (A : List Rg) : hs (fitsV A) (handsL L n) = cntF (deck L) n (fitP A) := hs_cnt hL n _ _ fun x => fits_ft A x
theorem hs_all {L : Nat} (hL : L < 4503599627370496) (n : Nat) : (handsL L n).length = chs (pop L) n := by
  have h := hs_cnt hL n (fun _ _ => true) (fun _ => true) (fun _ => rfl)
  have e : hs (fun _ => true) (handsL L n) = (handsL L n).length := by unfold hs; simp only [if_true]; exact sum_ones _
  rw [← e, h, ← deck_pop hL, ← sum_all (deck L) (deck_singles L) n]
  rfl
/-- one more in a table -/
theorem tab_hs (N : Nat) (q : Nat → Bool) (f : Nat → Nat) (l : List Nat) (k : Nat) (hk : k < l.length) (hq : q (l.getD k 0) = true) : tab N (fun j => hs (fun h => q h && decide (f h = j)) (l.take (k + 1))) = tab N (bump (fun j => hs (fun h => q h && decide (f h = j)) (l.take k)) (f (l.getD k 0)) 1) := tab_congr fun j _ => by
  rw [hs_succ _ l k hk, hq, Bool.true_and]
  unfold bump
  by_cases e : j = f (l.getD k 0)
  · rw [if_pos e, decide_eq_true e.symm]; rfl
  · rw [if_neg e, decide_eq_false (fun h => e h.symm)]; simp
theorem tab_hs' (N : Nat) (q : Nat → Bool) (f : Nat → Nat) (l : List Nat) (k : Nat) (hk : k < l.length) (hq : q (l.getD k 0) = false) : tab N (fun j => hs (fun h => q h && decide (f h = j)) (l.take (k + 1))) = tab N (fun j => hs (fun h => q h && decide (f h = j)) (l.take k)) := tab_congr fun j _ => by
  rw [hs_succ _ l k hk, hq, Bool.false_and]; simp
end Go.Proofs.Ytikdkhiehfccpaa
