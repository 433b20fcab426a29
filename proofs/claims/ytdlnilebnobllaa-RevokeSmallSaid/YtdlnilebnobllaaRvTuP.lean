/- Plain: a sketch's record turned by one seat; a part of it; a record with a wrong card. -/
import Derived.Test.YtdlnilebnobllaaRvFm
namespace Go.Proofs.Ytdlnilebnobllaa
open Go.RowKit Go.Shelf Go.Sort

theorem dealt_mk {r : Rc} (hp : Pack r.h) {n : Nat} (hpop : ∀ j, j < 4 → pop (r.h j) = n) (hn : 0 < n) (ht : r.t ≤ 4) (hd : r.d ≤ 3) : r.dealt = true := by
  have hb : ∀ k, k < 4 → handB r.h k = true := by
    intro k hk
    unfold handB
    rw [hpop k hk, hpop 0 (by omega)]
    have h1 : r.h k < 4503599627370496 := lt_of_bits fun c hc => hp.le k c hk hc
    have h2 : land (allTo r.h k) (r.h k) = 0 := by
      apply Nat.eq_of_testBit_eq
      intro c
      rw [testBit_land, Nat.zero_testBit]
      cases hq : (allTo r.h k).testBit c
      · rfl
      · obtain ⟨j, hj, hc⟩ := allTo_bit _ k c hq
        rw [hp.apart j k c (by omega) hk (by omega) hc]; rfl
    simp [h1, h2]
  have hh : handsTo r.h 4 = true := by simp [handsTo, hb]
  unfold Rc.dealt
  rw [hh, hpop 0 (by omega)]
  simp; omega
theorem good_eq {r : Rc} (hd : r.dealt = true) {m : Nat} (h1 : ∀ i, i < m → okAt r.h r.t r.ld0 r.zs i) (hm : m ≤ r.zs.length) (h2 : m < r.zs.length → ¬ okAt r.h r.t r.ld0 r.zs m) : r.good = m := by
  rcases Nat.lt_trichotomy r.good m with h | h | h
  · exact absurd (h1 _ h) ((rc_flat hd).2 (by omega))
  · exact h
  · exact absurd (good_ok hd m h) (h2 (by have := good_le r; omega))
theorem right_of_good {r : Rc} (hd : r.dealt = true) : r.rightV = if r.good < r.zs.length then ((r.good : Int), 131) else (-1, 0) := by unfold Rc.rightV; rw [if_pos hd]; rfl
theorem made_pack (x : Sk) : Pack x.rc.h := dealt_pack (made_dealt x)
theorem made_td (x : Sk) : x.rc.t ≤ 4 ∧ x.rc.d ≤ 3 := by unfold Sk.rc; dsimp only; omega
theorem made_ld0 (x : Sk) : x.rc.ld0 < 4 := Nat.mod_lt _ (by omega)

-- a part of a list of cards
theorem take_drop4 (zs : List Nat) {m j : Nat} (h : 4 * (j + 1) ≤ m) : ((zs.take m).drop (4 * j)).take 4 = (zs.drop (4 * j)).take 4 := by
  rw [List.drop_take, List.take_take, Nat.min_eq_left (by omega)]
theorem ldAt_part (t ld0 : Nat) (zs : List Nat) (m : Nat) : ∀ j, 4 * j ≤ m → ldAt t ld0 (zs.take m) j = ldAt t ld0 zs j
  | 0, _ => rfl
  | j + 1, h => by rw [ldAt, ldAt, ldAt_part t ld0 zs m j (by omega), take_drop4 zs h]
theorem seatAt_part (t ld0 : Nat) (zs : List Nat) {m i : Nat} (h : 4 * (i / 4) ≤ m) : seatAt t ld0 (zs.take m) i = seatAt t ld0 zs i := by
  unfold seatAt; rw [ldAt_part t ld0 zs m _ h]
theorem okAt_part (h : Nat → Nat) (t ld0 : Nat) (zs : List Nat) {m i : Nat} (hi : i < m) : okAt h t ld0 (zs.take m) i ↔ okAt h t ld0 zs i := by
  unfold okAt
  rw [seatAt_part t ld0 zs (by omega), getD_take _ hi, List.take_take, Nat.min_eq_left (by omega)]
theorem ledAt_part (zs : List Nat) {m i : Nat} (hi : i < m) : ledAt (zs.take m) i = ledAt zs i := by
  unfold ledAt
  rw [getD_take _ (by omega)]
theorem revAt_part (h : Nat → Nat) (t ld0 : Nat) (zs : List Nat) {m i : Nat} (hi : i < m) : revAt h t ld0 (zs.take m) i = revAt h t ld0 zs i := by
  unfold revAt
  rw [seatAt_part t ld0 zs (by omega), getD_take _ hi, List.take_take, Nat.min_eq_left (by omega), ledAt_part zs hi]
theorem any_congr_range {p q : Nat → Bool} {m : Nat} (h : ∀ k, k < m → p k = q k) : (List.range m).any p = (List.range m).any q := by
  rw [Bool.eq_iff_iff, List.any_eq_true, List.any_eq_true]
  constructor
  · rintro ⟨k, h1, h2⟩; exact ⟨k, h1, by rw [← h k (List.mem_range.1 h1)]; exact h2⟩
  · rintro ⟨k, h1, h2⟩; exact ⟨k, h1, by rw [h k (List.mem_range.1 h1)]; exact h2⟩
theorem estAt_part (t ld0 : Nat) (zs : List Nat) {m i : Nat} (hi : i < m) : estAt t ld0 (zs.take m) m i = estAt t ld0 zs m i := by
  unfold estAt
  exact any_congr_range fun k hk => by rw [seatAt_part t ld0 zs (by omega), seatAt_part t ld0 zs (by omega)]
theorem flatF_congr {h h' : Nat → Nat} {t ld0 ld0' : Nat} {zs zs' : List Nat} {m : Nat} {f : Rvk → Rvk} (h1 : ∀ i, i < m → revAt h' t ld0' zs' i = revAt h t ld0 zs i) (h2 : ∀ i, i < m → rvAt t ld0' zs' m i = f (rvAt t ld0 zs m i)) :
    flatF h' t ld0' zs' m = (flatF h t ld0 zs m).map f := by
  unfold flatF
  rw [List.map_map, List.filter_congr (fun i hi => h1 i (List.mem_range.1 hi))]
  exact List.map_congr_left fun i hi => h2 i (List.mem_range.1 (List.mem_filter.1 hi).1)
theorem flatF_part (h : Nat → Nat) (t ld0 : Nat) (zs : List Nat) (m : Nat) : flatF h t ld0 (zs.take m) m = flatF h t ld0 zs m := by
  have := flatF_congr (h := h) (h' := h) (t := t) (ld0 := ld0) (ld0' := ld0) (zs := zs) (zs' := zs.take m) (m := m) (f := id) (fun i hi => revAt_part h t ld0 zs hi) (fun i hi => by
    unfold rvAt
    rw [seatAt_part t ld0 zs (by omega), ledAt_part zs hi, getD_take _ hi, estAt_part t ld0 zs hi]; rfl)
  rwa [List.map_id] at this
/-- a part of a record -/
def Rc.part (r : Rc) (m : Nat) : Rc := ⟨r.h, r.t, r.d, r.zs.take m⟩
theorem part_good (x : Sk) {m : Nat} (hm : m ≤ 4 * x.n) : (x.rc.part m).dealt = true ∧ (x.rc.part m).good = m ∧ (x.rc.part m).zs.length = m := by
  have hl := made_len x
  have hd : (x.rc.part m).dealt = true := made_dealt x
  have hlen : (x.rc.part m).zs.length = m := by unfold Rc.part; simp; omega
  refine ⟨hd, good_eq hd (fun i hi => ?_) (by omega) (fun h => by omega), hlen⟩
  exact (okAt_part x.rc.h x.rc.t x.rc.ld0 x.rc.zs hi).2 (made_ok x (by omega))
theorem part_right (x : Sk) {m : Nat} (hm : m ≤ 4 * x.n) : (x.rc.part m).rightV = (-1, 0) := by
  obtain ⟨h1, h2, h3⟩ := part_good x hm
  rw [right_of_good h1, h2, h3, if_neg (by omega)]
theorem part_find (x : Sk) {m : Nat} (hm : m ≤ 4 * x.n) : findAll (x.rc.part m).rnds = flatF x.rc.h x.rc.t x.rc.ld0 x.rc.zs m := by
  obtain ⟨h1, h2, h3⟩ := part_good x hm
  rw [find_flat h1, h2]
  exact flatF_part x.rc.h x.rc.t x.rc.ld0 x.rc.zs m
theorem part_wins (x : Sk) {m : Nat} (hm : m ≤ 4 * x.n) : winsTo (x.rc.part m).rnds = (winsTo x.rc.rnds).take (m / 4) := by
  obtain ⟨h1, h2, h3⟩ := part_good x hm
  rw [wins_flat h1, wins_flat (made_dealt x), h2, made_good, ← List.map_take, List.take_range, Nat.min_eq_left (by omega)]
  exact List.map_congr_left fun j hj => ldAt_part x.rc.t x.rc.ld0 x.rc.zs m (j + 1) (by have := List.mem_range.1 hj; omega)
theorem part_moved (x : Sk) {m : Nat} (hm : m ≤ 4 * x.n) : (x.rc.part m).movedV.2.2 = (if m < 4 * x.n then 132 else 0) ∧ (x.rc.part m).tricksV.2.2 = if m < 4 * x.n then 132 else 0 := by
  have hp0 : pop (x.rc.h 0) = x.n := made_pop x 0 (by omega)
  obtain ⟨h1, h2, h3⟩ := part_good x hm
  have hr := part_right x hm
  have hc : (x.rc.part m).cntE.2.2 = if m < 4 * x.n then 132 else 0 := by
    unfold Rc.cntE
    rw [hr, if_pos rfl]
    unfold Rc.cnt
    rw [h3, show (x.rc.part m).h = x.rc.h from rfl, hp0]
    split <;> rfl
  unfold Rc.movedV Rc.tricksV
  rw [hc]
  by_cases h : m < 4 * x.n
  · rw [if_pos h]; exact ⟨rfl, rfl⟩
  · rw [if_neg h, if_pos rfl, if_pos rfl]
    constructor <;> split <;> rfl
theorem getElem?_prefix {α : Type} {l m : List α} (h : l <+: m) {k : Nat} (hk : k < l.length) : m[k]? = l[k]? := by
  obtain ⟨r, rfl⟩ := h
  rw [List.getElem?_append_left hk]
theorem estAt_mono (t ld0 : Nat) (zs : List Nat) {m M i : Nat} (h : m ≤ M) (he : estAt t ld0 zs m i = true) : estAt t ld0 zs M i = true := by
  unfold estAt at *
  rw [List.any_eq_true] at *
  obtain ⟨k, h1, h2⟩ := he
  exact ⟨k, List.mem_range.2 (by have := List.mem_range.1 h1; omega), h2⟩
/-- the revokes of a part are the first ones of the whole, perhaps not established yet -/
theorem flatF_first (h : Nat → Nat) (t ld0 : Nat) (zs : List Nat) {m M : Nat} (hm : m ≤ M) {k : Nat} (hk : k < (flatF h t ld0 zs m).length) : ∃ u v : Rvk, (flatF h t ld0 zs m)[k]? = some u ∧ (flatF h t ld0 zs M)[k]? = some v ∧ v = { u with est := v.est } ∧ (u.est = true → v.est = true) := by
  have hp : (List.range m).filter (revAt h t ld0 zs) <+: (List.range M).filter (revAt h t ld0 zs) := by
    have : List.range m <+: List.range M := by
      obtain ⟨d, rfl⟩ := Nat.le.dest hm
      rw [List.range_add]
      exact List.prefix_append _ _
    exact this.filter _
  have hk' : k < ((List.range m).filter (revAt h t ld0 zs)).length := by unfold flatF at hk; simpa using hk
  have e := getElem?_prefix hp hk'
  unfold flatF
  rw [List.getElem?_map, List.getElem?_map, e, List.getElem?_eq_getElem hk']
  exact ⟨_, _, rfl, rfl, rfl, fun hu => estAt_mono t ld0 zs hm hu⟩
theorem flatF_len_mono (h : Nat → Nat) (t ld0 : Nat) (zs : List Nat) {m M : Nat} (hm : m ≤ M) : (flatF h t ld0 zs m).length ≤ (flatF h t ld0 zs M).length := by
  rw [flatF_length, flatF_length]; exact revN_mono h t ld0 zs hm

-- turned by one seat
theorem ldAt_lt (t ld0 : Nat) (zs : List Nat) (h : ld0 < 4) : ∀ j, ldAt t ld0 zs j < 4
  | 0 => h
  | _ + 1 => seatV_lt _ _ _
theorem seatV_turn {t ld : Nat} {l : List Nat} (hl : ld < 4) (h : (winnerV t l).2 = 0) : (seatV t ((ld + 1) % 4) l).1 = ((seatV t ld l).1 + 1) % 4 := by
  have h1 : ¬ 3 < (ld + 1) % 4 := by omega
  have h2 : ¬ 3 < ld := by omega
  unfold seatV
  simp only [if_neg h1, if_neg h2, if_pos h]
  omega
theorem made_trick (x : Sk) {j : Nat} (hj : j < x.n) : (winnerV x.rc.t ((x.rc.zs.drop (4 * j)).take 4)).2 = 0 := by
  have hl := made_len x
  unfold winnerV
  rw [if_neg (by have := (made_td x).1; omega), if_pos]
  refine rightB_four (by simp; omega) (fun c hc => made_lt x c (List.mem_of_mem_drop (List.mem_of_mem_take hc))) ?_
  exact ((List.take_sublist _ _).trans (List.drop_sublist _ _)).nodup (made_nodup x)
theorem ldAt_turn (x : Sk) : ∀ j, j ≤ x.n → ldAt x.rc.t ((x.rc.ld0 + 1) % 4) x.rc.zs j = (ldAt x.rc.t x.rc.ld0 x.rc.zs j + 1) % 4
  | 0, _ => rfl
  | j + 1, h => by
    rw [ldAt, ldAt, ldAt_turn x j (by omega), seatV_turn (ldAt_lt _ _ _ (made_ld0 x) _) (made_trick x (by omega))]
theorem seatAt_turn (x : Sk) {i : Nat} (hi : i < 4 * x.n) : seatAt x.rc.t ((x.rc.ld0 + 1) % 4) x.rc.zs i = (seatAt x.rc.t x.rc.ld0 x.rc.zs i + 1) % 4 := by
  unfold seatAt
  rw [ldAt_turn x (i / 4) (by omega)]
  omega
/-- a record with all hands passed on -/
def Rc.turn (r : Rc) : Rc := ⟨fun s => r.h ((s + 3) % 4), r.t, (r.d + 1) % 4, r.zs⟩
theorem turn_ld0 (r : Rc) : r.turn.ld0 = (r.ld0 + 1) % 4 := by unfold Rc.turn Rc.ld0; dsimp only
theorem turn_pack (x : Sk) : Pack x.rc.turn.h := by
  have hp := made_pack x
  refine ⟨fun s s' c hs hs' hne hb => ?_, fun s c hs hb => ?_⟩
  · exact hp.apart _ _ c (Nat.mod_lt _ (by omega)) (Nat.mod_lt _ (by omega)) (by omega) hb
  · exact hp.le _ c (Nat.mod_lt _ (by omega)) hb
theorem turn_dealt (x : Sk) : x.rc.turn.dealt = true :=
  dealt_mk (turn_pack x) (n := x.n) (fun j _ => made_pop x _ (Nat.mod_lt _ (by omega))) (by have := x.n_le; omega) (made_td x).1 (by show (x.rc.d + 1) % 4 ≤ 3; omega)
theorem turn_hand (r : Rc) (s : Nat) (hs : s < 4) : r.turn.h ((s + 1) % 4) = r.h s := by
  show r.h (((s + 1) % 4 + 3) % 4) = r.h s
  rw [show ((s + 1) % 4 + 3) % 4 = s by omega]
theorem turn_good (x : Sk) : x.rc.turn.good = 4 * x.n := by
  have hl : x.rc.turn.zs.length = 4 * x.n := made_len x
  refine good_eq (turn_dealt x) (fun i hi => ?_) (by omega) (fun h => by omega)
  obtain ⟨h1, h2⟩ := made_ok x hi
  refine ⟨?_, h2⟩
  rw [turn_ld0]
  show (x.rc.turn.h (seatAt x.rc.t ((x.rc.ld0 + 1) % 4) x.rc.zs i)).testBit _ = true
  rw [seatAt_turn x hi, turn_hand _ _ (seatAt_lt _ _ _ _)]
  exact h1
theorem turn_right (x : Sk) : x.rc.turn.rightV = (-1, 0) := by
  have hl : x.rc.turn.zs.length = 4 * x.n := made_len x
  rw [right_of_good (turn_dealt x), turn_good x, if_neg (by omega)]
def Rvk.turn (v : Rvk) : Rvk := { v with seat := (v.seat + 1) % 4 }
theorem turn_find (x : Sk) : findAll x.rc.turn.rnds = (findAll x.rc.rnds).map Rvk.turn := by
  rw [find_flat (turn_dealt x), turn_good, made_find, turn_ld0]
  refine flatF_congr (fun i hi => ?_) (fun i hi => ?_)
  · unfold revAt
    show (_ && (List.range 52).any fun c => (x.rc.turn.h (seatAt x.rc.t ((x.rc.ld0 + 1) % 4) x.rc.zs i)).testBit c && _ && _) = _
    rw [seatAt_turn x hi, turn_hand _ _ (seatAt_lt _ _ _ _)]
    rfl
  · unfold rvAt Rvk.turn
    show Rvk.mk _ (seatAt x.rc.t ((x.rc.ld0 + 1) % 4) x.rc.zs i) _ _ (estAt x.rc.t ((x.rc.ld0 + 1) % 4) x.rc.zs (4 * x.n) i) = _
    rw [seatAt_turn x hi]
    have : estAt x.rc.t ((x.rc.ld0 + 1) % 4) x.rc.zs (4 * x.n) i = estAt x.rc.t x.rc.ld0 x.rc.zs (4 * x.n) i := by
      unfold estAt
      refine any_congr_range fun k hk => ?_
      rw [seatAt_turn x hi, seatAt_turn x hk]
      congr 1
      rw [decide_eq_decide]
      omega
    rw [this]
    rfl
theorem turn_wins (x : Sk) : winsTo x.rc.turn.rnds = (winsTo x.rc.rnds).map fun s => (s + 1) % 4 := by
  rw [wins_flat (turn_dealt x), wins_flat (made_dealt x), turn_good, made_good, turn_ld0, List.map_map]
  exact List.map_congr_left fun j hj => ldAt_turn x (j + 1) (by have := List.mem_range.1 hj; omega)
theorem wonV_turn (ws : List Nat) (s k : Nat) : wonV (ws.map fun s => (s + 1) % 4) ((s + 1) % 4 % 2) k = wonV ws (s % 2) k := by
  unfold wonV
  rw [← List.map_drop, List.countP_map]
  apply List.countP_congr
  intro z _
  simp only [Function.comp, beq_iff_eq]
  omega
/-- what is counted, with the seats turned -/
structure CntTurn (c c' : Cnt) : Prop where
  met : c'.met = c.met.map fun p => ((p.1 + 1) % 4, p.2)
  lt : ∀ p ∈ c.met, p.1 < 4
  lim : c'.lim = c.lim
  s0 : c'.s0 = c.s1
  s1 : c'.s1 = c.s0
theorem step_turn {d : Nat} {ws : List Nat} (hw : ∀ s ∈ ws, s < 4) {c c' : Cnt} (h : CntTurn c c') {v : Rvk} (hv : v.seat < 4) (ht : v.est = true → v.trick < ws.length) :
    CntTurn (cntStep d ws c v) (cntStep ((d + 1) % 4) (ws.map fun s => (s + 1) % 4) c' v.turn) := by
  obtain ⟨h1, h2, h3, h4, h5⟩ := h
  have hmem : ((v.turn.seat, v.turn.suit) ∈ c'.met) ↔ ((v.seat, v.suit) ∈ c.met) := by
    rw [h1, List.mem_map]
    constructor
    · rintro ⟨p, hp, he⟩
      have hp4 := h2 p hp
      simp only [Rvk.turn, Prod.mk.injEq] at he
      have : p = (v.seat, v.suit) := Prod.ext (by simp only; omega) he.2
      rwa [this] at hp
    · intro hm
      exact ⟨_, hm, rfl⟩
  have hse : (v.turn.seat = ((d + 1) % 4 + 2) % 4) ↔ (v.seat = (d + 2) % 4) := by
    simp only [Rvk.turn]; omega
  unfold cntStep
  by_cases hc : v.est = false ∨ v.seat = (d + 2) % 4 ∨ (v.seat, v.suit) ∈ c.met
  · have hc' : v.turn.est = false ∨ v.turn.seat = ((d + 1) % 4 + 2) % 4 ∨ (v.turn.seat, v.turn.suit) ∈ c'.met := by rw [hmem, hse]; exact hc
    rw [if_pos hc, if_pos hc']
    exact ⟨h1, h2, h3, h4, h5⟩
  · have hc' : ¬ (v.turn.est = false ∨ v.turn.seat = ((d + 1) % 4 + 2) % 4 ∨ (v.turn.seat, v.turn.suit) ∈ c'.met) := by rw [hmem, hse]; exact hc
    rw [if_neg hc, if_neg hc']
    have he : v.est = true := by
      cases he : v.est
      · exact absurd (.inl he) hc
      · rfl
    have hlt := ht he
    have hnil : (c'.met = []) ↔ (c.met = []) := by rw [h1, List.map_eq_nil_iff]
    have hwon : ∀ k, wonV (ws.map fun s => (s + 1) % 4) (v.turn.seat % 2) k = wonV ws (v.seat % 2) k := fun k => wonV_turn ws v.seat k
    have hmv : movesV v.turn (ws.map fun s => (s + 1) % 4) = movesV v ws := by
      unfold movesV
      have hg : (ws.map fun s => (s + 1) % 4).getD v.turn.trick 0 = (ws.getD v.trick 0 + 1) % 4 := by
        simp only [Rvk.turn]
        rw [List.getD_eq_getElem?_getD, List.getD_eq_getElem?_getD, List.getElem?_map, List.getElem?_eq_getElem hlt]; rfl
      have hg4 : ws.getD v.trick 0 < 4 := getD_lt (by omega) hw _
      rw [hwon, hwon, hg]
      have : ((ws.getD v.trick 0 + 1) % 4 = v.turn.seat) ↔ (ws.getD v.trick 0 = v.seat) := by simp only [Rvk.turn]; omega
      by_cases hq : ws.getD v.trick 0 = v.seat
      · rw [if_pos (this.2 hq), if_pos hq]; rfl
      · rw [if_neg (fun h => hq (this.1 h)), if_neg hq]; rfl
    have hpar : (v.turn.seat % 2 = 0) ↔ ¬ (v.seat % 2 = 0) := by simp only [Rvk.turn]; omega
    have hlim : (if c'.met = [] then wonV (ws.map fun s => (s + 1) % 4) (v.turn.seat % 2) v.turn.trick else c'.lim) = (if c.met = [] then wonV ws (v.seat % 2) v.trick else c.lim) := by
      rw [hwon, h3]
      by_cases hm : c.met = []
      · rw [if_pos hm, if_pos (hnil.2 hm)]; rfl
      · rw [if_neg hm, if_neg (fun h => hm (hnil.1 h))]
    dsimp only
    rw [hlim, hmv]
    refine ⟨?_, ?_, rfl, ?_, ?_⟩
    · dsimp only; rw [h1, List.map_append]; rfl
    · intro p hp
      rcases List.mem_append.1 hp with hp | hp
      · exact h2 p hp
      · rw [List.mem_singleton.1 hp]; exact hv
    · dsimp only
      by_cases hp0 : v.seat % 2 = 0
      · rw [if_neg (fun h => hpar.1 h hp0), if_pos hp0, h4]
      · rw [if_pos (hpar.2 hp0), if_neg hp0, h4]
    · dsimp only
      by_cases hp0 : v.seat % 2 = 0
      · rw [if_neg (fun h => hpar.1 h hp0), if_pos hp0, h5]
      · rw [if_pos (hpar.2 hp0), if_neg hp0, h5]
theorem cntAll_turn {d : Nat} {ws : List Nat} (hw : ∀ s ∈ ws, s < 4) {l : List Rvk} (hv : ∀ v ∈ l, v.seat < 4 ∧ (v.est = true → v.trick < ws.length)) : CntTurn (cntAll d ws l) (cntAll ((d + 1) % 4) (ws.map fun s => (s + 1) % 4) (l.map Rvk.turn)) := by
  have : ∀ (l : List Rvk) (c c' : Cnt), CntTurn c c' → (∀ v ∈ l, v.seat < 4 ∧ (v.est = true → v.trick < ws.length)) → CntTurn (l.foldl (cntStep d ws) c) ((l.map Rvk.turn).foldl (cntStep ((d + 1) % 4) (ws.map fun s => (s + 1) % 4)) c') := by
    intro l
    induction l with
    | nil => exact fun c c' h _ => h
    | cons v l ih =>
      intro c c' h hl
      exact ih _ _ (step_turn hw h (hl v (by simp)).1 (hl v (by simp)).2) (fun u hu => hl u (by simp [hu]))
  exact this l _ _ ⟨rfl, (fun p hp => by cases hp), rfl, rfl, rfl⟩ hv
theorem sideV_turn (l : List Rvk) : sideV (l.map Rvk.turn) 0 = sideV l 1 ∧ sideV (l.map Rvk.turn) 1 = sideV l 0 := by
  unfold sideV
  rw [List.any_map, List.any_map]
  constructor
  all_goals
    congr 1
    funext v
    simp only [Function.comp, Rvk.turn]
    congr 1
    rw [Bool.eq_iff_iff, beq_iff_eq, beq_iff_eq]
    omega
theorem find_seat {r : Rc} (hd : r.dealt = true) : ∀ v ∈ findAll r.rnds, v.seat < 4 := by
  rw [find_flat hd]
  intro v hv
  unfold flatF at hv
  obtain ⟨i, _, rfl⟩ := List.mem_map.1 hv
  exact seatAt_lt _ _ _ _
/-- what moves is the same, turned -/
theorem turn_moved (x : Sk) : x.rc.turn.movedV = x.rc.movedV := by
  have hl : x.rc.turn.zs.length = 4 * x.n := made_len x
  have hl0 : x.rc.zs.length = 4 * x.n := made_len x
  have hp0 : pop (x.rc.h 0) = x.n := made_pop x 0 (by omega)
  have hp3 : pop (x.rc.turn.h 0) = x.n := made_pop x 3 (by omega)
  have hr := turn_right x
  have hr0 := made_right x
  have hd3 := (made_td x).2
  obtain ⟨c1, c2⟩ := sideV_turn (findAll x.rc.rnds)
  have hc := cntAll_turn (d := x.rc.d) (ws := winsTo x.rc.rnds) (made_wins x).2 (l := findAll x.rc.rnds) (fun v hv => ⟨find_seat (made_dealt x) v hv, est_trick x.rc v hv⟩)
  unfold Rc.movedV Rc.cntE
  rw [hr, hr0, if_pos rfl, if_pos rfl]
  unfold Rc.cnt
  have hnl : ¬ 4 * x.n < 4 * x.n := by omega
  rw [hl, hl0, hp0, hp3]
  simp only [if_neg hnl]
  rw [turn_find, turn_wins, c1, c2]
  simp only [if_true]
  show (if (x.rc.d + 1) % 4 % 2 = 0 then _ else _) = _
  have hcs0 : (cntAll x.rc.turn.d ((winsTo x.rc.rnds).map fun s => (s + 1) % 4) ((findAll x.rc.rnds).map Rvk.turn)).s0 = (cntAll x.rc.d (winsTo x.rc.rnds) (findAll x.rc.rnds)).s1 := hc.s0
  have hcs1 : (cntAll x.rc.turn.d ((winsTo x.rc.rnds).map fun s => (s + 1) % 4) ((findAll x.rc.rnds).map Rvk.turn)).s1 = (cntAll x.rc.d (winsTo x.rc.rnds) (findAll x.rc.rnds)).s0 := hc.s1
  rw [hcs0, hcs1, Bool.and_comm (sideV (findAll x.rc.rnds) 1)]
  by_cases hp : x.rc.d % 2 = 0
  · rw [if_neg (by omega), if_pos hp]
    split <;> rfl
  · rw [if_pos (by omega), if_neg hp]
    split <;> rfl

-- a wrong card
theorem right_at {r : Rc} (hd : r.dealt = true) {k : Nat} (hk : k ≤ r.good) {zs' : List Nat} (hlt : k < zs'.length) (hpre : zs'.take k = r.zs.take k) (hbad : ¬ okAt r.h r.t r.ld0 zs' k) : (⟨r.h, r.t, r.d, zs'⟩ : Rc).rightV = ((k : Int), 131) := by
  have hd' : (⟨r.h, r.t, r.d, zs'⟩ : Rc).dealt = true := hd
  have hg : (⟨r.h, r.t, r.d, zs'⟩ : Rc).good = k := good_eq hd' (fun i hi => by
    have h1 := good_ok hd i (by omega)
    have h2 := (okAt_part r.h r.t r.ld0 r.zs hi).2 h1
    rw [← hpre] at h2
    exact (okAt_part r.h r.t r.ld0 zs' hi).1 h2) (by dsimp only; omega) (fun _ => hbad)
  rw [right_of_good hd', hg, if_pos (by dsimp only; exact hlt)]
theorem seatAt_pre (t ld0 : Nat) {zs zs' : List Nat} {k : Nat} (hpre : zs'.take k = zs.take k) : seatAt t ld0 zs' k = seatAt t ld0 zs k := by
  rw [← seatAt_part t ld0 zs' (m := k) (by omega), ← seatAt_part t ld0 zs (m := k) (by omega), hpre]
theorem right_bad {r : Rc} (hd : r.dealt = false) : r.rightV = (-1, 130) := by unfold Rc.rightV; rw [hd]; rfl
theorem bad_err {r : Rc} {i : Int} {e : Nat} (h : r.rightV = (i, e)) (he : e ≠ 0) : r.movedV = (0, 0, e) ∧ r.tricksV = (0, 0, e) := by
  have hc : r.cntE = ((0, 0), (0, 0), e) := by unfold Rc.cntE; rw [h]; simp [he]
  unfold Rc.movedV Rc.tricksV
  rw [hc]
  simp [he]
theorem setH_other (h : Nat → Nat) (s v j : Nat) (hj : j ≠ s) : setH h s v j = h j := by unfold setH; rw [if_neg hj]
theorem setH_self (h : Nat → Nat) (s v : Nat) : setH h s v s = v := by unfold setH; rw [if_pos rfl]
theorem hand_some (x : Sk) {s : Nat} (hs : s < 4) : ∃ c, c < 52 ∧ (x.rc.h s).testBit c = true := by
  have hp : pop (x.rc.h s) = x.n := made_pop x s hs
  obtain ⟨c, _, hc⟩ := cnt_pos (x.rc.h s) 64 (by have := x.n_le; unfold pop at hp; omega)
  exact ⟨c, (made_pack x).le s c hs hc, hc⟩
theorem wrong0 (x : Sk) : (⟨setH x.rc.h 0 0, x.rc.t, x.rc.d, x.rc.zs⟩ : Rc).dealt = false := by
  cases h : (⟨setH x.rc.h 0 0, x.rc.t, x.rc.d, x.rc.zs⟩ : Rc).dealt
  · rfl
  · unfold Rc.dealt at h
    dsimp only at h
    have hq : pop (setH x.rc.h 0 0 0) = 0 := by rw [setH_self]; exact pop_nil
    have h2 : decide (0 < pop (setH x.rc.h 0 0 0)) = false := by rw [hq]; rfl
    rw [h2, Bool.and_false, Bool.false_and, Bool.false_and] at h
    cases h
theorem wrong1 (x : Sk) : (⟨setH x.rc.h 3 (lor (x.rc.h 3) (x.rc.h 2)), x.rc.t, x.rc.d, x.rc.zs⟩ : Rc).dealt = false := by
  cases h : (⟨setH x.rc.h 3 (lor (x.rc.h 3) (x.rc.h 2)), x.rc.t, x.rc.d, x.rc.zs⟩ : Rc).dealt
  · rfl
  · exfalso
    obtain ⟨c, _, hc⟩ := hand_some x (s := 2) (by omega)
    have := (dealt_pack h).apart 2 3 c (by omega) (by omega) (by omega) (by dsimp only; rw [setH_other _ _ _ _ (by omega)]; exact hc)
    dsimp only at this
    rw [setH_self, testBit_lor, hc, Bool.or_true] at this
    cases this
theorem bit52 : (4503599627370496 : Nat).testBit 52 = true := by decide +kernel
theorem wrong2 (x : Sk) (m : Nat) (hm : m.testBit 52 = true) : (⟨setH x.rc.h 1 (lor (x.rc.h 1) m), x.rc.t, x.rc.d, x.rc.zs⟩ : Rc).dealt = false := by
  cases h : (⟨setH x.rc.h 1 (lor (x.rc.h 1) m), x.rc.t, x.rc.d, x.rc.zs⟩ : Rc).dealt
  · rfl
  · exfalso
    have := (dealt_pack h).le 1 52 (by omega) (by dsimp only; rw [setH_self, testBit_lor, hm, Bool.or_true])
    omega
theorem wrong3 (x : Sk) (t : Nat) (ht : 4 < t) : (⟨x.rc.h, t, x.rc.d, x.rc.zs⟩ : Rc).dealt = false := by
  unfold Rc.dealt
  have : decide (t ≤ 4) = false := by simp; omega
  dsimp only
  rw [this]; simp
theorem wrong4 (x : Sk) (d : Nat) (hd : 3 < d) : (⟨x.rc.h, x.rc.t, d, x.rc.zs⟩ : Rc).dealt = false := by
  unfold Rc.dealt
  have : decide (d ≤ 3) = false := by simp; omega
  dsimp only
  rw [this]; simp
theorem set_take (l : List Nat) (k v : Nat) : (l.set k v).take k = l.take k := by
  rw [List.take_set, List.set_eq_of_length_le (by simp; omega)]
theorem getD_set_self (l : List Nat) {k : Nat} (v : Nat) (h : k < l.length) : (l.set k v).getD k 0 = v := by
  rw [List.getD_eq_getElem?_getD, List.getElem?_set_self h]; rfl
/-- a card put in place k that its seat does not have -/
theorem wrong_card (x : Sk) {k c : Nat} (hk : k < 4 * x.n) (hc : (x.rc.h (holdV x.rc.h (x.rc.zs.getD k 0))).testBit c = false) : (⟨x.rc.h, x.rc.t, x.rc.d, x.rc.zs.set k c⟩ : Rc).rightV = ((k : Int), 131) := by
  have hl := made_len x
  refine right_at (made_dealt x) (by rw [made_good]; omega) (by simp; omega) (set_take _ _ _) (fun h => ?_)
  have h1 := h.1
  rw [seatAt_pre _ _ (set_take _ _ _), getD_set_self _ _ (by omega), ← made_holder x hk, hc] at h1
  cases h1
theorem wrong5 (x : Sk) {k c : Nat} (hk : k < 4 * x.n) (hc : 52 ≤ c) : (⟨x.rc.h, x.rc.t, x.rc.d, x.rc.zs.set k c⟩ : Rc).rightV = ((k : Int), 131) := by
  refine wrong_card x hk ?_
  cases h : (x.rc.h (holdV x.rc.h (x.rc.zs.getD k 0))).testBit c
  · rfl
  · have := (made_pack x).le _ c (by rw [made_holder x hk]; exact seatAt_lt _ _ _ _) h
    omega
theorem wrong6 (x : Sk) {k c : Nat} (hk : k < 4 * x.n) (hc : (x.rc.h ((holdV x.rc.h (x.rc.zs.getD k 0) + 1) % 4)).testBit c = true) : (⟨x.rc.h, x.rc.t, x.rc.d, x.rc.zs.set k c⟩ : Rc).rightV = ((k : Int), 131) := by
  have hs : holdV x.rc.h (x.rc.zs.getD k 0) < 4 := by rw [made_holder x hk]; exact seatAt_lt _ _ _ _
  exact wrong_card x hk ((made_pack x).apart _ _ c (Nat.mod_lt _ (by omega)) hs (by omega) hc)
theorem wrong7 (x : Sk) {k : Nat} (hk : k < 4 * x.n) : (⟨x.rc.h, x.rc.t, x.rc.d, x.rc.zs ++ [x.rc.zs.getD k 0]⟩ : Rc).rightV = (((4 * x.n : Nat) : Int), 131) := by
  have hl := made_len x
  refine right_at (made_dealt x) (by rw [made_good]; omega) (by simp; omega) (by rw [List.take_append_of_le_length (by omega)]) (fun h => ?_)
  have h1 := h.2
  refine h1 ?_
  have e : (x.rc.zs ++ [x.rc.zs.getD k 0]).getD (4 * x.n) 0 = x.rc.zs.getD k 0 := by
    rw [List.getD_eq_getElem?_getD (l := x.rc.zs ++ [x.rc.zs.getD k 0]), List.getElem?_append_right (by omega), hl, Nat.sub_self]; rfl
  rw [e, List.take_append_of_le_length (by omega), List.take_of_length_le (by omega)]
  exact getD_mem_of_lt (by omega)
end Go.Proofs.Ytdlnilebnobllaa
