/- Plain: the revokes of a sketch's record. -/
import Derived.Test.YtdlnilebnobllaaMFl
import Derived.Test.YtdlnilebnobllaaRvBdP
import Derived.Test.YtdlnilebnobllaaRvLw1
namespace Go.Proofs.Ytdlnilebnobllaa
open Go.RowKit Go.Shelf Go.Sort

theorem made_good (x : Sk) : x.rc.good = 4 * x.n := (made_rnds x).1
theorem made_find (x : Sk) : findAll x.rc.rnds = flatF x.rc.h x.rc.t x.rc.ld0 x.rc.zs (4 * x.n) := by rw [find_flat (made_dealt x), made_good]
theorem made_ok (x : Sk) {i : Nat} (hi : i < 4 * x.n) : okAt x.rc.h x.rc.t x.rc.ld0 x.rc.zs i := good_ok (made_dealt x) i (by rw [made_good]; exact hi)
theorem holdV_eq {h : Nat → Nat} (hp : Pack h) {s c : Nat} (hs : s < 4) (hb : (h s).testBit c = true) : holdV h c = s := by
  unfold holdV
  have : s = 0 ∨ s = 1 ∨ s = 2 ∨ s = 3 := by omega
  rcases this with rfl | rfl | rfl | rfl
  · rw [if_pos hb]
  · rw [if_neg (by rw [hp.apart 1 0 c (by omega) (by omega) (by omega) hb]; simp), if_pos hb]
  · rw [if_neg (by rw [hp.apart 2 0 c (by omega) (by omega) (by omega) hb]; simp), if_neg (by rw [hp.apart 2 1 c (by omega) (by omega) (by omega) hb]; simp), if_pos hb]
  · rw [if_neg (by rw [hp.apart 3 0 c (by omega) (by omega) (by omega) hb]; simp), if_neg (by rw [hp.apart 3 1 c (by omega) (by omega) (by omega) hb]; simp), if_neg (by rw [hp.apart 3 2 c (by omega) (by omega) (by omega) hb]; simp), if_pos hb]
theorem holdV_bit {h : Nat → Nat} {s c : Nat} (hs : s < 4) (he : holdV h c = s) : (h s).testBit c = true := by
  unfold holdV at he
  split at he
  next h0 => subst he; exact h0
  split at he
  next h0 => subst he; exact h0
  split at he
  next h0 => subst he; exact h0
  split at he
  next h0 => subst he; exact h0
  omega
theorem Full.hands {h : Nat → Nat} (hp : Pack h) {t : Nat} {g g2 : Nat → Nat} {ld ld2 : Nat} {zs : List Nat} (hf : Full t g ld zs g2 ld2) : ∀ pre, Hands g h pre → Hands g2 h (pre ++ zs) := by
  induction hf with
  | nil g ld => intro pre hg; simpa using hg
  | @cons g g1 g2 ld ld2 tr zs h4 ht hf ih =>
    intro pre hg
    obtain ⟨m, e1, e2, e3, _, _⟩ := takeT_flat hp ld tr g 0 pre hg
    rw [ht] at e1 e3
    dsimp only at e1 e3
    rw [Nat.zero_add] at e1
    rw [← e1, List.take_of_length_le (by omega)] at e3
    have := ih (pre ++ tr) e3
    rwa [List.append_assoc] at this
theorem cnt_bit (m c : Nat) (hb : m.testBit c = true) : ∀ k, c < k → 0 < cnt m k
  | 0, h => by omega
  | k + 1, h => by
    rw [cnt]
    by_cases e : c = k
    · subst e; rw [hb]; simp
    · have := cnt_bit m c hb k (by omega); omega
/-- each card of a hand is played -/
theorem made_all (x : Sk) {s c : Nat} (hs : s < 4) (hb : (x.rc.h s).testBit c = true) : c ∈ x.rc.zs := by
  have hp := dealt_pack (made_dealt x)
  have hpl := made_play x (4 * x.n) (Nat.le_refl _)
  obtain ⟨pre, led, hq, hz, hpl', hfull, htk⟩ := hpl.run
  have hlen := hpl.len
  have hled : led = [] := by
    have := congrArg List.length hz
    rw [hlen, List.length_append, hpl'] at this
    exact List.eq_nil_of_length_eq_zero (by omega)
  rw [hled] at htk hz
  rw [List.append_nil] at hz
  simp only [takeT] at htk
  have hg := hfull.hands hp [] (Hands.refl _)
  rw [List.nil_append, ← hz] at hg
  have hqe : hq = (plN x (x.trumps % 5) ⟨(x.dealN (4 * x.n)).h, (x.decl % 4 + 1) % 4, []⟩ (4 * x.n)).h := congrArg Prod.fst htk
  rw [hqe] at hg
  have hcnt := hpl.count ((s + 4 - (plN x (x.trumps % 5) ⟨(x.dealN (4 * x.n)).h, (x.decl % 4 + 1) % 4, []⟩ (4 * x.n)).ld) % 4) (Nat.mod_lt _ (by omega))
  have hld := hpl.ld
  rw [show ((plN x (x.trumps % 5) ⟨(x.dealN (4 * x.n)).h, (x.decl % 4 + 1) % 4, []⟩ (4 * x.n)).ld + (s + 4 - (plN x (x.trumps % 5) ⟨(x.dealN (4 * x.n)).h, (x.decl % 4 + 1) % 4, []⟩ (4 * x.n)).ld) % 4) % 4 = s by omega] at hcnt
  have hz0 : pop ((plN x (x.trumps % 5) ⟨(x.dealN (4 * x.n)).h, (x.decl % 4 + 1) % 4, []⟩ (4 * x.n)).h s) = 0 := by omega
  by_cases hm : c ∈ x.rc.zs
  · exact hm
  · exfalso
    have hbit := (hg s c hs).2 ⟨hb, hm⟩
    have := cnt_bit _ c hbit 64 (by have := hp.le s c hs hb; omega)
    unfold pop at hz0
    omega
/-- the law's own word on whether a card of the suit comes later -/
def laterAt (h : Nat → Nat) (zs : List Nat) (i led seat : Nat) : Nat → Bool
  | 0 => false
  | k + 1 => laterAt h zs i led seat k || (decide (zs.getD (i + k) 0 / 13 = led) && decide (holdV h (zs.getD (i + k) 0) = seat))
theorem laterAt_iff (h : Nat → Nat) (zs : List Nat) (i led seat : Nat) : ∀ k, laterAt h zs i led seat k = true ↔ ∃ j, j < k ∧ zs.getD (i + j) 0 / 13 = led ∧ holdV h (zs.getD (i + j) 0) = seat
  | 0 => by simp [laterAt]
  | k + 1 => by
    rw [laterAt, Bool.or_eq_true, laterAt_iff h zs i led seat k, Bool.and_eq_true, decide_eq_true_eq, decide_eq_true_eq]
    constructor
    · rintro (⟨j, h1, h2⟩ | h2)
      · exact ⟨j, by omega, h2⟩
      · exact ⟨k, by omega, h2⟩
    · rintro ⟨j, h1, h2⟩
      by_cases e : j = k
      · subst e; exact .inr h2
      · exact .inl ⟨j, by omega, h2⟩
theorem made_holder (x : Sk) {i : Nat} (hi : i < 4 * x.n) : holdV x.rc.h (x.rc.zs.getD i 0) = seatAt x.rc.t x.rc.ld0 x.rc.zs i :=
  holdV_eq (dealt_pack (made_dealt x)) (seatAt_lt _ _ _ _) (made_ok x hi).1
/-- the law's test of a revoke is the program's -/
theorem made_rev (x : Sk) {i : Nat} (hi : i < 4 * x.n) : revAt x.rc.h x.rc.t x.rc.ld0 x.rc.zs i = (decide (x.rc.zs.getD i 0 / 13 ≠ ledAt x.rc.zs i) && laterAt x.rc.h x.rc.zs i (ledAt x.rc.zs i) (holdV x.rc.h (x.rc.zs.getD i 0)) (4 * x.n - i)) := by
  have hp := dealt_pack (made_dealt x)
  have hlen := made_len x
  have hnd := made_nodup x
  unfold revAt
  congr 1
  rw [Bool.eq_iff_iff, laterAt_iff, List.any_eq_true, made_holder x hi]
  have hs := seatAt_lt x.rc.t x.rc.ld0 x.rc.zs i
  constructor
  · rintro ⟨c, c1, c2⟩
    rw [Bool.and_eq_true, Bool.and_eq_true, decide_eq_true_eq, decide_eq_true_eq] at c2
    have hm := made_all x hs c2.1.1
    have hmd : c ∈ x.rc.zs.drop i := by
      rw [← List.take_append_drop i x.rc.zs, List.mem_append] at hm
      exact hm.resolve_left c2.1.2
    obtain ⟨j, hj, he⟩ := List.mem_iff_getElem.1 hmd
    rw [List.getElem_drop] at he
    simp only [List.length_drop] at hj
    have hg : x.rc.zs.getD (i + j) 0 = c := by rw [List.getD_eq_getElem?_getD, List.getElem?_eq_getElem (by omega), he]; rfl
    exact ⟨j, by omega, by rw [hg]; exact c2.2, by rw [hg]; exact holdV_eq hp hs c2.1.1⟩
  · rintro ⟨j, hj, h1, h2⟩
    have hb := holdV_bit hs h2
    refine ⟨x.rc.zs.getD (i + j) 0, List.mem_range.2 (hp.le _ _ hs hb), ?_⟩
    have hni : x.rc.zs.getD (i + j) 0 ∉ x.rc.zs.take i := by
      intro hm
      obtain ⟨k, hk, he⟩ := List.mem_iff_getElem.1 hm
      rw [List.getElem_take] at he
      simp only [List.length_take] at hk
      rw [List.getD_eq_getElem?_getD, List.getElem?_eq_getElem (by omega)] at he
      exact (List.pairwise_iff_getElem.1 hnd) k (i + j) (by omega) (by omega) (by omega) he
    rw [Bool.and_eq_true, Bool.and_eq_true, decide_eq_true_eq, decide_eq_true_eq]
    exact ⟨⟨hb, hni⟩, h1⟩
/-- in a complete play all are established but those of the last trick -/
theorem made_est (x : Sk) {i : Nat} (hi : i < 4 * x.n) : estAt x.rc.t x.rc.ld0 x.rc.zs (4 * x.n) i = decide (i / 4 < x.n - 1) := by
  rw [Bool.eq_iff_iff, decide_eq_true_eq]
  unfold estAt
  rw [List.any_eq_true]
  constructor
  · rintro ⟨k, k1, k2⟩
    have := List.mem_range.1 k1
    rw [Bool.and_eq_true, decide_eq_true_eq] at k2
    omega
  · intro h
    have hs := seatAt_lt x.rc.t x.rc.ld0 x.rc.zs i
    have key : ∀ q, q < 2 → seatAt x.rc.t x.rc.ld0 x.rc.zs (4 * (i / 4 + 1) + q) % 2 = (ldAt x.rc.t x.rc.ld0 x.rc.zs (i / 4 + 1) + q) % 2 := by
      intro q hq
      unfold seatAt
      rw [show (4 * (i / 4 + 1) + q) / 4 = i / 4 + 1 by omega, show (4 * (i / 4 + 1) + q) % 4 = q by omega]
      omega
    have k0 := key 0 (by omega)
    have k1 := key 1 (by omega)
    by_cases hq : ldAt x.rc.t x.rc.ld0 x.rc.zs (i / 4 + 1) % 2 = seatAt x.rc.t x.rc.ld0 x.rc.zs i % 2
    · refine ⟨4 * (i / 4 + 1) + 0, List.mem_range.2 (by omega), ?_⟩
      rw [Bool.and_eq_true, decide_eq_true_eq, decide_eq_true_eq]
      exact ⟨by omega, by omega⟩
    · refine ⟨4 * (i / 4 + 1) + 1, List.mem_range.2 (by omega), ?_⟩
      rw [Bool.and_eq_true, decide_eq_true_eq, decide_eq_true_eq]
      exact ⟨by omega, by omega⟩
/-- how many revokes lie among the first cards -/
def revN (h : Nat → Nat) (t ld0 : Nat) (zs : List Nat) (i : Nat) : Nat := ((List.range i).filter (revAt h t ld0 zs)).length
theorem revN_succ (h : Nat → Nat) (t ld0 : Nat) (zs : List Nat) (i : Nat) : revN h t ld0 zs (i + 1) = revN h t ld0 zs i + if revAt h t ld0 zs i then 1 else 0 := by
  unfold revN
  rw [List.range_succ, List.filter_append, List.length_append]
  cases hb : revAt h t ld0 zs i <;> simp [hb]
theorem revN_le (h : Nat → Nat) (t ld0 : Nat) (zs : List Nat) (i : Nat) : revN h t ld0 zs i ≤ i := by
  unfold revN
  exact Nat.le_trans (List.length_filter_le _ _) (by simp)
theorem flatF_length (h : Nat → Nat) (t ld0 : Nat) (zs : List Nat) (m : Nat) : (flatF h t ld0 zs m).length = revN h t ld0 zs m := by simp [flatF, revN]
theorem filter_range_at (p : Nat → Bool) : ∀ m i, i < m → p i = true → ((List.range m).filter p)[((List.range i).filter p).length]? = some i
  | 0, i, h, _ => by omega
  | m + 1, i, h, hp => by
    rw [List.range_succ, List.filter_append]
    by_cases e : i = m
    · subst e
      rw [List.getElem?_append_right (Nat.le_refl _)]
      simp [hp]
    · have := filter_range_at p m i (by omega) hp
      rw [List.getElem?_append_left]
      · exact this
      · exact (List.getElem?_eq_some_iff.1 this).1
theorem flatF_at (h : Nat → Nat) (t ld0 : Nat) (zs : List Nat) {m i : Nat} (hi : i < m) (hr : revAt h t ld0 zs i = true) : (flatF h t ld0 zs m)[revN h t ld0 zs i]? = some (rvAt t ld0 zs m i) := by
  unfold flatF revN
  rw [List.getElem?_map, filter_range_at _ m i hi hr]; rfl
theorem revN_mono (h : Nat → Nat) (t ld0 : Nat) (zs : List Nat) {i j : Nat} (hij : i ≤ j) : revN h t ld0 zs i ≤ revN h t ld0 zs j := by
  induction j with
  | zero => obtain rfl : i = 0 := by omega
            exact Nat.le_refl _
  | succ j ih =>
    by_cases e : i = j + 1
    · subst e; exact Nat.le_refl _
    · rw [revN_succ]; have := ih (by omega); omega
end Go.Proofs.Ytdlnilebnobllaa
