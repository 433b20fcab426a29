/- RvFl, RvFk in one text. -/
import Derived.Test.YtdlnilebnobllaaRevF
import Derived.Test.YtdlnilebnobllaaRevG

/- Plain: a record card by card: who plays the card at each place, which cards are right, which are revokes. -/
namespace Go.Proofs.Ytdlnilebnobllaa
open Go.RowKit

/-- the hands after some cards were played -/
def Hands (g h : Nat → Nat) (pre : List Nat) : Prop := ∀ s c, s < 4 → ((g s).testBit c = true ↔ (h s).testBit c = true ∧ c ∉ pre)
/-- no card in two hands, none beyond the pack -/
structure Pack (h : Nat → Nat) : Prop where
  apart : ∀ s s' c, s < 4 → s' < 4 → s ≠ s' → (h s).testBit c = true → (h s').testBit c = false
  le : ∀ s c, s < 4 → (h s).testBit c = true → c < 52
theorem Pack.one {h : Nat → Nat} (hp : Pack h) {s s' c : Nat} (hs : s < 4) (hs' : s' < 4) (h1 : (h s).testBit c = true) (h2 : (h s').testBit c = true) : s = s' := by
  by_cases e : s = s'
  · exact e
  · rw [hp.apart s s' c hs hs' e h1] at h2; cases h2
theorem bit_allTo (h : Nat → Nat) (c : Nat) : ∀ k j, j < k → (h j).testBit c = true → (allTo h k).testBit c = true
  | 0, j, hj, _ => by omega
  | k + 1, j, hj, hb => by
    rw [allTo, testBit_lor, Bool.or_eq_true]
    by_cases e : j = k
    · subst e; exact .inr hb
    · exact .inl (bit_allTo h c k j (by omega) hb)
theorem handsTo_at (h : Nat → Nat) : ∀ n k, k < n → handsTo h n = true → handB h k = true
  | 0, k, hk, _ => by omega
  | n + 1, k, hk, hh => by
    rw [handsTo, Bool.and_eq_true] at hh
    by_cases e : k = n
    · subst e; exact hh.2
    · exact handsTo_at h n k (by omega) hh.1
theorem dealt_pack {r : Rc} (hd : r.dealt = true) : Pack r.h := by
  unfold Rc.dealt at hd
  rw [Bool.and_eq_true, Bool.and_eq_true, Bool.and_eq_true] at hd
  have hk := fun k hk => handsTo_at r.h 4 k hk hd.1.1.1
  have key : ∀ a b c, a < b → b < 4 → (r.h a).testBit c = true → (r.h b).testBit c = true → False := by
    intro a b c hab hb h1 h2
    have hB := hk b hb
    unfold handB at hB
    rw [Bool.and_eq_true, Bool.and_eq_true, beq_iff_eq] at hB
    have h3 := bit_allTo r.h c b a hab h1
    have h4 : (land (allTo r.h b) (r.h b)).testBit c = true := by rw [testBit_land, h3, h2]; rfl
    rw [hB.1.2] at h4
    simp at h4
  refine ⟨fun s s' c hs hs' hne h1 => ?_, fun s c hs h1 => ?_⟩
  · cases h2 : (r.h s').testBit c
    · rfl
    · rcases Nat.lt_or_gt_of_ne hne with h | h
      · exact (key s s' c h hs' h1 h2).elim
      · exact (key s' s c h hs h2 h1).elim
  · have hB := hk s hs
    unfold handB at hB
    rw [Bool.and_eq_true, Bool.and_eq_true, decide_eq_true_eq] at hB
    rcases Nat.lt_or_ge c 52 with h | h
    · exact h
    · have : (r.h s).testBit c = false := Nat.testBit_lt_two_pow (Nat.lt_of_lt_of_le (show r.h s < 2 ^ 52 from hB.1.1) (Nat.pow_le_pow_right (by decide) h))
      rw [this] at h1; cases h1
/-- a card that a seat has, and has not played -/
def OkC (h : Nat → Nat) (s c : Nat) (pre : List Nat) : Prop := (h (s % 4)).testBit c = true ∧ c ∉ pre
theorem Hands.step {g h : Nat → Nat} {pre : List Nat} (hp : Pack h) (hg : Hands g h pre) {s c : Nat} (hs : s < 4) (hc : (g s).testBit c = true) : Hands (setH g s (landn (g s) (shl1 c))) h (pre ++ [c]) := by
  have hc' := (hg s c hs).1 hc
  have hc52 := hp.le s c hs hc'.1
  intro s' c' hs'
  unfold setH
  rw [List.mem_append, List.mem_singleton, not_or]
  by_cases e : s' = s
  · subst e
    rw [if_pos rfl, testBit_landn, testBit_shl1]
    have := hg s' c' hs'
    by_cases e2 : c = c'
    · subst e2; simp; omega
    · have e3 : ¬ c' = c := fun h => e2 h.symm
      simp [e2, e3]; exact this
  · rw [if_neg e]
    have := hg s' c' hs'
    by_cases e2 : c' = c
    · subst e2
      have h0 := hp.apart s s' c' hs hs' (fun h => e h.symm) hc'.1
      simp [h0] at this
      simp [h0, this]
    · simp only [e2, not_false_eq_true, and_true]; exact this
theorem takeT_flat {h : Nat → Nat} (hp : Pack h) (ld : Nat) : ∀ (l : List Nat) (g : Nat → Nat) (i : Nat) (pre : List Nat), Hands g h pre →
    ∃ m, (takeT ld g i l).2 = i + m ∧ m ≤ l.length ∧ Hands (takeT ld g i l).1 h (pre ++ l.take m) ∧ (∀ j, j < m → OkC h (ld + (i + j)) (l.getD j 0) (pre ++ l.take j)) ∧ (m < l.length → ¬ OkC h (ld + (i + m)) (l.getD m 0) (pre ++ l.take m))
  | [], g, i, pre, hg => ⟨0, by simp [takeT], Nat.le_refl _, by simpa [takeT] using hg, fun j hj => by omega, fun h => by simp at h⟩
  | c :: cs, g, i, pre, hg => by
    rw [takeT]
    by_cases hb : (g ((ld + i) % 4)).testBit c = true
    · rw [if_pos hb]
      have hs : (ld + i) % 4 < 4 := Nat.mod_lt _ (by omega)
      obtain ⟨m, h1, h2, h3, h4, h5⟩ := takeT_flat hp ld cs _ (i + 1) (pre ++ [c]) (hg.step hp hs hb)
      refine ⟨m + 1, by rw [h1]; omega, by simpa using h2, by simpa using h3, fun j hj => ?_, fun hm => ?_⟩
      · cases j with
        | zero => simpa [OkC] using (hg _ _ hs).1 hb
        | succ j =>
          have := h4 j (by omega)
          rw [show i + 1 + j = i + (j + 1) by omega] at this
          simpa using this
      · have := h5 (by simpa using hm)
        rw [show i + 1 + m = i + (m + 1) by omega] at this
        simpa using this
    · rw [if_neg hb]
      refine ⟨0, rfl, Nat.zero_le _, by simpa using hg, fun j hj => by omega, fun _ => ?_⟩
      have hs : (ld + i) % 4 < 4 := Nat.mod_lt _ (by omega)
      rw [hg _ _ hs] at hb
      simpa [OkC] using hb
/-- who leads to a trick -/
def ldAt (t ld0 : Nat) (zs : List Nat) : Nat → Nat
  | 0 => ld0
  | j + 1 => (seatV t (ldAt t ld0 zs j) ((zs.drop (4 * j)).take 4)).1
def seatAt (t ld0 : Nat) (zs : List Nat) (i : Nat) : Nat := (ldAt t ld0 zs (i / 4) + i % 4) % 4
def okAt (h : Nat → Nat) (t ld0 : Nat) (zs : List Nat) (i : Nat) : Prop := (h (seatAt t ld0 zs i)).testBit (zs.getD i 0) = true ∧ zs.getD i 0 ∉ zs.take i
theorem seatAt_lt (t ld0 : Nat) (zs : List Nat) (i : Nat) : seatAt t ld0 zs i < 4 := Nat.mod_lt _ (by omega)
/-- a trick, as it lies in a record -/
structure RndAt (h : Nat → Nat) (t ld0 : Nat) (zs : List Nat) (x : Rnd) : Prop where
  hands : Hands x.h h (zs.take (4 * x.num))
  lead : x.leader = ldAt t ld0 zs x.num
  cards : x.cards = (zs.drop (4 * x.num)).take x.cards.length
  le4 : x.cards.length ≤ 4
  le : 4 * x.num + x.cards.length ≤ zs.length
  win : x.cards.length = 4 → x.winner = ldAt t ld0 zs (x.num + 1)
  ok : ∀ i, i < x.cards.length → okAt h t ld0 zs (4 * x.num + i)
theorem RndAt.card {h : Nat → Nat} {t ld0 : Nat} {zs : List Nat} {x : Rnd} (hx : RndAt h t ld0 zs x) {i : Nat} (hi : i < x.cards.length) : x.cards.getD i 0 = zs.getD (4 * x.num + i) 0 := by
  rw [hx.cards, List.getD_eq_getElem?_getD, List.getD_eq_getElem?_getD, List.getElem?_take, if_pos hi, List.getElem?_drop]
theorem getD_drop (l : List Nat) (n i : Nat) : (l.drop n).getD i 0 = l.getD (n + i) 0 := by
  rw [List.getD_eq_getElem?_getD, List.getD_eq_getElem?_getD, List.getElem?_drop]
theorem getD_take (l : List Nat) {n i : Nat} (h : i < n) : (l.take n).getD i 0 = l.getD i 0 := by
  rw [List.getD_eq_getElem?_getD, List.getD_eq_getElem?_getD, List.getElem?_take, if_pos h]
theorem take_add' (l : List Nat) (a b : Nat) : l.take a ++ (l.drop a).take b = l.take (a + b) := by rw [List.take_add]
theorem okAt_of {h : Nat → Nat} {t ld0 : Nat} {zs : List Nat} {num i : Nat} (hi : i < 4) : okAt h t ld0 zs (4 * num + i) ↔ OkC h (ldAt t ld0 zs num + (0 + i)) (((zs.drop (4 * num)).take 4).getD i 0) (zs.take (4 * num) ++ ((zs.drop (4 * num)).take 4).take i) := by
  unfold okAt OkC seatAt
  rw [show (4 * num + i) / 4 = num by omega, show (4 * num + i) % 4 = i by omega, Nat.zero_add, getD_take _ hi, getD_drop, List.take_take, Nat.min_eq_left (by omega), take_add']
theorem rnds_flat {h : Nat → Nat} (hp : Pack h) (t ld0 : Nat) (zs : List Nat) : ∀ (n num : Nat) (g : Nat → Nat), zs.length - 4 * num ≤ n → 4 * num ≤ zs.length → Hands g h (zs.take (4 * num)) →
    (∀ (L : List Rnd) (x : Rnd) (post : List Rnd), rnds t num g (ldAt t ld0 zs num) (zs.drop (4 * num)) = L ++ x :: post → x.num = num + L.length ∧ RndAt h t ld0 zs x ∧ sumTo L = 4 * L.length) ∧
    (4 * num + sumTo (rnds t num g (ldAt t ld0 zs num) (zs.drop (4 * num))) < zs.length → ¬ okAt h t ld0 zs (4 * num + sumTo (rnds t num g (ldAt t ld0 zs num) (zs.drop (4 * num))))) := by
  intro n
  induction n with
  | zero =>
    intro num g hn hl hg
    have h0 : zs.drop (4 * num) = [] := List.drop_eq_nil_of_le (by omega)
    rw [h0, rnds_nil_of]
    refine ⟨fun L x post he => by simp at he, fun h => by simp [sumTo] at h; omega⟩
  | succ n ih =>
    intro num g hn hl hg
    by_cases h0 : zs.drop (4 * num) = []
    · rw [h0, rnds_nil_of]
      have := List.drop_eq_nil_iff.1 h0
      exact ⟨fun L x post he => by simp at he, fun h => by simp [sumTo] at h; omega⟩
    · obtain ⟨m, e1, e2, e3, e4, e5⟩ := takeT_flat hp (ldAt t ld0 zs num) ((zs.drop (4 * num)).take 4) g 0 _ hg
      rw [Nat.zero_add] at e1
      have hlen : ((zs.drop (4 * num)).take 4).length = min 4 (zs.length - 4 * num) := by simp
      have hok : ∀ j, j < m → okAt h t ld0 zs (4 * num + j) := fun j hj => (okAt_of (by omega)).2 (e4 j hj)
      by_cases h4 : m = 4
      · subst h4
        rw [rnds_full e1]
        have hl4 : 4 * num + 4 ≤ zs.length := by omega
        rw [List.take_take, Nat.min_self, take_add'] at e3
        have hih := ih (num + 1) (takeT (ldAt t ld0 zs num) g 0 ((zs.drop (4 * num)).take 4)).1 (by omega) (by omega) e3
        have hdd : (zs.drop (4 * num)).drop 4 = zs.drop (4 * (num + 1)) := by rw [List.drop_drop]; rfl
        have hx : RndAt h t ld0 zs ⟨num, g, ldAt t ld0 zs num, (seatV t (ldAt t ld0 zs num) ((zs.drop (4 * num)).take 4)).1, (zs.drop (4 * num)).take 4⟩ := by
          refine ⟨hg, rfl, ?_, by simp; omega, by simp; omega, fun _ => rfl, fun i hi => hok i (by simp at hi; omega)⟩
          dsimp only; rw [hlen, Nat.min_eq_left (by omega)]
        rw [hdd]
        refine ⟨fun L x post he => ?_, fun hlt => ?_⟩
        · cases L with
          | nil =>
            simp only [List.nil_append, List.cons.injEq] at he
            obtain ⟨rfl, _⟩ := he
            exact ⟨rfl, hx, rfl⟩
          | cons y L =>
            simp only [List.cons_append, List.cons.injEq] at he
            obtain ⟨q1, q2, q3⟩ := hih.1 L x post he.2
            refine ⟨by rw [q1, List.length_cons]; omega, q2, ?_⟩
            rw [← he.1]
            simp only [sumTo, List.map_cons, List.sum_cons, List.length_cons] at q3 ⊢
            rw [q3, hlen]; omega
        · have hs : ∀ R, sumTo (⟨num, g, ldAt t ld0 zs num, (seatV t (ldAt t ld0 zs num) ((zs.drop (4 * num)).take 4)).1, (zs.drop (4 * num)).take 4⟩ :: R) = 4 + sumTo R := fun R => by
            simp only [sumTo, List.map_cons, List.sum_cons]; rw [hlen]; omega
          rw [hs] at hlt ⊢
          have := hih.2 (by rw [show 4 * (num + 1) = 4 * num + 4 by omega, Nat.add_assoc]; exact hlt)
          rwa [show 4 * (num + 1) = 4 * num + 4 by omega, Nat.add_assoc] at this
      · rw [rnds_part h0 (by rw [e1]; exact h4), e1]
        have hc : ((zs.drop (4 * num)).take 4).take m = (zs.drop (4 * num)).take m := by rw [List.take_take, Nat.min_eq_left (by omega)]
        have hml : ((zs.drop (4 * num)).take m).length = m := by simp; omega
        rw [hc]
        refine ⟨fun L x post he => ?_, fun hlt => ?_⟩
        · cases L with
          | nil =>
            simp only [List.nil_append, List.cons.injEq] at he
            obtain ⟨rfl, _⟩ := he
            refine ⟨rfl, ⟨hg, rfl, by dsimp only; rw [hml], by dsimp only; rw [hml]; omega, by dsimp only; rw [hml]; omega, fun h => absurd (hml.symm.trans h) h4, fun i hi => hok i (by dsimp only at hi; rw [hml] at hi; exact hi)⟩, rfl⟩
          | cons y L => simp at he
        · have hs : sumTo [(⟨num, g, ldAt t ld0 zs num, 0, (zs.drop (4 * num)).take m⟩ : Rnd)] = m := by simp only [sumTo, List.map_cons, List.map_nil, List.sum_cons, List.sum_nil]; omega
          rw [hs] at hlt ⊢
          rw [okAt_of (by omega)]
          exact e5 (by omega)
/-- how many cards of a record are right -/
def Rc.good (r : Rc) : Nat := sumTo r.rnds
def Rc.ld0 (r : Rc) : Nat := (r.d + 1) % 4
theorem Hands.refl (h : Nat → Nat) : Hands h h [] := fun s c _ => by simp
theorem rc_flat {r : Rc} (hd : r.dealt = true) : (∀ (L : List Rnd) (x : Rnd) (post : List Rnd), r.rnds = L ++ x :: post → x.num = L.length ∧ RndAt r.h r.t r.ld0 r.zs x ∧ sumTo L = 4 * L.length) ∧ (r.good < r.zs.length → ¬ okAt r.h r.t r.ld0 r.zs r.good) := by
  have := rnds_flat (dealt_pack hd) r.t r.ld0 r.zs r.zs.length 0 r.h (by omega) (Nat.zero_le _) (by simpa using Hands.refl _)
  simp only [Nat.mul_zero, List.drop_zero, Nat.zero_add] at this
  exact this
theorem good_le (r : Rc) : r.good ≤ r.zs.length := sumTo_le (List.prefix_refl _)
theorem sumTo_append (l m : List Rnd) : sumTo (l ++ m) = sumTo l + sumTo m := by simp [sumTo]
/-- each right card is right -/
theorem good_ok {r : Rc} (hd : r.dealt = true) : ∀ i, i < r.good → okAt r.h r.t r.ld0 r.zs i := by
  obtain ⟨hf, _⟩ := rc_flat hd
  have key : ∀ (post L : List Rnd), r.rnds = L ++ post → ∀ i, sumTo L ≤ i → i < sumTo (L ++ post) → okAt r.h r.t r.ld0 r.zs i := by
    intro post
    induction post with
    | nil => intro L _ i h1 h2; rw [List.append_nil] at h2; omega
    | cons x post ih =>
      intro L he i h1 h2
      obtain ⟨q1, q2, q3⟩ := hf L x post he
      by_cases hi : i < sumTo L + x.cards.length
      · have := q2.ok (i - sumTo L) (by omega)
        rw [q1, q3.symm, show sumTo L + (i - sumTo L) = i by omega] at this
        exact this
      · exact ih (L ++ [x]) (by rw [he]; simp) i (by rw [sumTo_snoc]; omega) (by simpa using h2)
  exact fun i hi => key r.rnds [] rfl i (Nat.zero_le _) hi
end Go.Proofs.Ytdlnilebnobllaa

/- Plain: what revoke.Find and revoke.Winners return, card by card. -/
namespace Go.Proofs.Ytdlnilebnobllaa
open Go.RowKit

/-- the suit led to the trick of a card -/
def ledAt (zs : List Nat) (i : Nat) : Nat := zs.getD (i - i % 4) 0 / 13
/-- whether the card at a place is a revoke -/
def revAt (h : Nat → Nat) (t ld0 : Nat) (zs : List Nat) (i : Nat) : Bool :=
  decide (zs.getD i 0 / 13 ≠ ledAt zs i) && (List.range 52).any fun c => (h (seatAt t ld0 zs i)).testBit c && decide (c ∉ zs.take i) && decide (c / 13 = ledAt zs i)
def estAt (t ld0 : Nat) (zs : List Nat) (m i : Nat) : Bool := (List.range m).any fun k => decide (k / 4 = i / 4 + 1) && decide (seatAt t ld0 zs k % 2 = seatAt t ld0 zs i % 2)
def rvAt (t ld0 : Nat) (zs : List Nat) (m i : Nat) : Rvk := ⟨i / 4, seatAt t ld0 zs i, ledAt zs i, zs.getD i 0, estAt t ld0 zs m i⟩
/-- the revokes of the first m cards -/
def flatF (h : Nat → Nat) (t ld0 : Nat) (zs : List Nat) (m : Nat) : List Rvk := ((List.range m).filter (revAt h t ld0 zs)).map (rvAt t ld0 zs m)
theorem estAt_succ (t ld0 : Nat) (zs : List Nat) (m i : Nat) : estAt t ld0 zs (m + 1) i = (estAt t ld0 zs m i || (decide (m / 4 = i / 4 + 1) && decide (seatAt t ld0 zs m % 2 = seatAt t ld0 zs i % 2))) := by
  unfold estAt
  rw [List.range_succ, List.any_append]
  simp
theorem estAt_self (t ld0 : Nat) (zs : List Nat) (m : Nat) : estAt t ld0 zs (m + 1) m = false := by
  unfold estAt
  rw [List.any_eq_false]
  intro k hk
  have := List.mem_range.1 hk
  have : ¬ k / 4 = m / 4 + 1 := by omega
  simp [this]
theorem flatF_succ (h : Nat → Nat) (t ld0 : Nat) (zs : List Nat) (m : Nat) : flatF h t ld0 zs (m + 1) =
    if revAt h t ld0 zs m then estab (flatF h t ld0 zs m) ((m / 4 : Nat) - 1 : Int) (seatAt t ld0 zs m) ++ [⟨m / 4, seatAt t ld0 zs m, ledAt zs m, zs.getD m 0, false⟩] else estab (flatF h t ld0 zs m) ((m / 4 : Nat) - 1 : Int) (seatAt t ld0 zs m) := by
  have hmap : ((List.range m).filter (revAt h t ld0 zs)).map (rvAt t ld0 zs (m + 1)) = estab (flatF h t ld0 zs m) ((m / 4 : Nat) - 1 : Int) (seatAt t ld0 zs m) := by
    unfold flatF estab
    rw [List.map_map]
    apply List.map_congr_left
    intro i _
    simp only [Function.comp]
    unfold rvAt
    rw [estAt_succ]
    dsimp only
    by_cases hc : m / 4 = i / 4 + 1 ∧ seatAt t ld0 zs m % 2 = seatAt t ld0 zs i % 2
    · rw [if_pos ⟨by omega, hc.2.symm⟩]; simp [hc.1, hc.2]
    · rw [if_neg (fun hh => hc ⟨by omega, hh.2.symm⟩)]
      have : (decide (m / 4 = i / 4 + 1) && decide (seatAt t ld0 zs m % 2 = seatAt t ld0 zs i % 2)) = false := by
        rw [Bool.and_eq_false_iff]
        by_cases h1 : m / 4 = i / 4 + 1
        · right; simp; exact fun h2 => hc ⟨h1, h2⟩
        · left; simp [h1]
      rw [this, Bool.or_false]
  have hs : flatF h t ld0 zs (m + 1) = ((List.range m).filter (revAt h t ld0 zs)).map (rvAt t ld0 zs (m + 1)) ++ ([m].filter (revAt h t ld0 zs)).map (rvAt t ld0 zs (m + 1)) := by
    unfold flatF
    rw [List.range_succ, List.filter_append, List.map_append]
  rw [hs, hmap]
  cases hb : revAt h t ld0 zs m
  · simp [hb]
  · simp [hb, rvAt, estAt_self]
theorem suit_bits (g s : Nat) (hg : ∀ c, g.testBit c = true → c < 52) : land (shr g (13 * s)) 8191 ≠ 0 ↔ ∃ c, c < 52 ∧ g.testBit c = true ∧ c / 13 = s := by
  have e : land (shr g (13 * s)) 8191 = (g >>> (13 * s)) % 2 ^ 13 := by unfold land shr; exact Nat.and_two_pow_sub_one_eq_mod _ 13
  rw [e]
  constructor
  · intro h
    obtain ⟨i, hi⟩ := Nat.exists_testBit_of_ne_zero h
    rw [Nat.testBit_mod_two_pow, Nat.testBit_shiftRight, Bool.and_eq_true, decide_eq_true_eq] at hi
    exact ⟨13 * s + i, hg _ hi.2, hi.2, by omega⟩
  · rintro ⟨c, _, h2, h3⟩ h0
    have : ((g >>> (13 * s)) % 2 ^ 13).testBit (c - 13 * s) = true := by
      rw [Nat.testBit_mod_two_pow, Nat.testBit_shiftRight, show 13 * s + (c - 13 * s) = c by omega, h2]
      simp; omega
    rw [h0] at this
    simp at this
/-- the program's test of a revoke is the document's -/
theorem rev_same {h : Nat → Nat} (hp : Pack h) {t ld0 : Nat} {zs : List Nat} {x : Rnd} (hx : RndAt h t ld0 zs x) {i : Nat} (hi : i < x.cards.length) :
    (x.cards.getD i 0 / 13 ≠ x.cards.getD 0 0 / 13 ∧ land (shr (x.h ((x.leader + i) % 4)) (13 * (x.cards.getD 0 0 / 13))) 8191 ≠ 0) ↔ revAt h t ld0 zs (4 * x.num + i) = true := by
  have h4 := hx.le4
  have hseat : seatAt t ld0 zs (4 * x.num + i) = (x.leader + i) % 4 := by
    unfold seatAt
    rw [show (4 * x.num + i) / 4 = x.num by omega, show (4 * x.num + i) % 4 = i by omega, hx.lead]
  have hled : ledAt zs (4 * x.num + i) = x.cards.getD 0 0 / 13 := by
    unfold ledAt
    rw [show 4 * x.num + i - (4 * x.num + i) % 4 = 4 * x.num + 0 by omega, hx.card (by omega)]
  have hs : (x.leader + i) % 4 < 4 := Nat.mod_lt _ (by omega)
  have hbits : ∀ c, ((x.h ((x.leader + i) % 4)).testBit c = true ↔ (h ((x.leader + i) % 4)).testBit c = true ∧ c ∉ zs.take (4 * x.num + i)) := by
    intro c
    rw [hx.hands _ c hs]
    constructor
    · rintro ⟨h1, h2⟩
      refine ⟨h1, fun hm => ?_⟩
      rw [← take_add' zs (4 * x.num) i, List.mem_append] at hm
      rcases hm with hm | hm
      · exact h2 hm
      · obtain ⟨j, hj, he⟩ := List.mem_iff_getElem.1 hm
        have hji : j < i := by have : j < ((zs.drop (4 * x.num)).take i).length := hj; simp at this; omega
        have hc : zs.getD (4 * x.num + j) 0 = c := by
          rw [List.getElem_take, List.getElem_drop] at he
          rw [List.getD_eq_getElem?_getD, List.getElem?_eq_getElem (by simp at hj; omega), he]; rfl
        have hok := (hx.ok j (by omega)).1
        rw [hc] at hok
        have hseatj : seatAt t ld0 zs (4 * x.num + j) = (x.leader + j) % 4 := by
          unfold seatAt
          rw [show (4 * x.num + j) / 4 = x.num by omega, show (4 * x.num + j) % 4 = j by omega, hx.lead]
        rw [hseatj] at hok
        have := hp.one (Nat.mod_lt _ (by omega)) hs hok h1
        omega
    · rintro ⟨h1, h2⟩
      exact ⟨h1, fun hm => h2 (by rw [← take_add' zs (4 * x.num) i, List.mem_append]; exact .inl hm)⟩
  have hsb := suit_bits (x.h ((x.leader + i) % 4)) (x.cards.getD 0 0 / 13) (fun c hc => hp.le _ c hs ((hbits c).1 hc).1)
  rw [hsb]
  unfold revAt
  rw [Bool.and_eq_true, decide_eq_true_eq, List.any_eq_true, hx.card hi, hled, hseat]
  constructor
  · rintro ⟨h1, c, c1, c2, c3⟩
    refine ⟨h1, c, List.mem_range.2 c1, ?_⟩
    obtain ⟨d1, d2⟩ := (hbits c).1 c2
    simp [d1, d2, c3]
  · rintro ⟨h1, c, c1, c2⟩
    rw [Bool.and_eq_true, Bool.and_eq_true, decide_eq_true_eq, decide_eq_true_eq] at c2
    exact ⟨h1, c, List.mem_range.1 c1, (hbits c).2 c2.1, c2.2⟩
theorem findTo_flat {h : Nat → Nat} (hp : Pack h) {t ld0 : Nat} {zs : List Nat} {x : Rnd} (hx : RndAt h t ld0 zs x) : ∀ i, i ≤ x.cards.length → findTo x (flatF h t ld0 zs (4 * x.num)) i = flatF h t ld0 zs (4 * x.num + i)
  | 0, _ => rfl
  | i + 1, hi => by
    have h4 := hx.le4
    rw [findTo, findTo_flat hp hx i (by omega), ← Nat.add_assoc, flatF_succ]
    unfold findStep
    have hseat : seatAt t ld0 zs (4 * x.num + i) = (x.leader + i) % 4 := by
      unfold seatAt
      rw [show (4 * x.num + i) / 4 = x.num by omega, show (4 * x.num + i) % 4 = i by omega, hx.lead]
    have hled : ledAt zs (4 * x.num + i) = x.cards.getD 0 0 / 13 := by
      unfold ledAt
      rw [show 4 * x.num + i - (4 * x.num + i) % 4 = 4 * x.num + 0 by omega, hx.card (by omega)]
    have hr := rev_same hp hx (i := i) (by omega)
    rw [hseat, show (4 * x.num + i) / 4 = x.num by omega, ← hx.card (by omega : i < x.cards.length), hled]
    by_cases hc : revAt h t ld0 zs (4 * x.num + i) = true
    · rw [if_pos (hr.2 hc), if_pos hc]
    · rw [if_neg (fun hh => hc (hr.1 hh)), if_neg hc]
/-- revoke.Find, card by card -/
theorem find_flat {r : Rc} (hd : r.dealt = true) : findAll r.rnds = flatF r.h r.t r.ld0 r.zs r.good := by
  obtain ⟨hf, _⟩ := rc_flat hd
  have hp := dealt_pack hd
  have key : ∀ (post L : List Rnd), r.rnds = L ++ post → findAll L = flatF r.h r.t r.ld0 r.zs (sumTo L) → findAll (L ++ post) = flatF r.h r.t r.ld0 r.zs (sumTo (L ++ post)) := by
    intro post
    induction post with
    | nil => intro L _ h; simpa using h
    | cons x post ih =>
      intro L he hL
      obtain ⟨q1, q2, q3⟩ := hf L x post he
      have h1 : findAll (L ++ [x]) = flatF r.h r.t r.ld0 r.zs (sumTo (L ++ [x])) := by
        rw [findAll_snoc, hL, sumTo_snoc, q3]
        unfold findRnd
        have := findTo_flat hp q2 x.cards.length (Nat.le_refl _)
        rwa [q1] at this
      have := ih (L ++ [x]) (by rw [he]; simp) h1
      simpa using this
  exact key r.rnds [] rfl rfl
/-- revoke.Winners, trick by trick -/
theorem wins_flat {r : Rc} (hd : r.dealt = true) : winsTo r.rnds = (List.range (r.good / 4)).map fun j => ldAt r.t r.ld0 r.zs (j + 1) := by
  obtain ⟨hf, _⟩ := rc_flat hd
  have key : ∀ (post L : List Rnd), r.rnds = L ++ post → (winsTo L = (List.range (sumTo L / 4)).map fun j => ldAt r.t r.ld0 r.zs (j + 1)) → winsTo (L ++ post) = (List.range (sumTo (L ++ post) / 4)).map fun j => ldAt r.t r.ld0 r.zs (j + 1) := by
    intro post
    induction post with
    | nil => intro L _ h; simpa using h
    | cons x post ih =>
      intro L he hL
      obtain ⟨q1, q2, q3⟩ := hf L x post he
      have h4 := q2.le4
      have h1 : winsTo (L ++ [x]) = (List.range (sumTo (L ++ [x]) / 4)).map fun j => ldAt r.t r.ld0 r.zs (j + 1) := by
        rw [winsTo_snoc, hL, sumTo_snoc, q3]
        by_cases e : x.cards.length = 4
        · rw [if_pos e, e, show (4 * L.length + 4) / 4 = L.length + 1 by omega, show 4 * L.length / 4 = L.length by omega, List.range_succ, List.map_append, q2.win e, q1]; rfl
        · rw [if_neg e, show (4 * L.length + x.cards.length) / 4 = L.length by omega, show 4 * L.length / 4 = L.length by omega]
      have := ih (L ++ [x]) (by rw [he]; simp) h1
      simpa using this
  exact key r.rnds [] rfl rfl
end Go.Proofs.Ytdlnilebnobllaa
