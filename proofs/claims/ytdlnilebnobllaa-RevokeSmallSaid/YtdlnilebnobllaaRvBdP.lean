/- Plain: what moves, and to whom. -/
import Derived.Test.YtdlnilebnobllaaMPm
import Derived.Test.YtdlnilebnobllaaRvMt
namespace Go.Proofs.Ytdlnilebnobllaa
open Go.RowKit Go.Shelf Go.Sort

theorem wonV_drop (ws : List Nat) (s k : Nat) : wonV ws s k ≤ wonV ws s 0 := by
  unfold wonV
  rw [List.drop_zero]
  exact (List.drop_sublist k ws).countP_le
theorem cnt_side0 (d : Nat) (ws : List Nat) (l : List Rvk) (h : ∀ v ∈ l, v.est = true → v.seat % 2 = 0) : (cntAll d ws l).s1 = 0 ∧ (cntAll d ws l).s0 ≤ wonV ws 0 0 := by
  have : ∀ (l : List Rvk) (c : Cnt), (∀ v ∈ l, v.est = true → v.seat % 2 = 0) → (c.s1 = 0 ∧ c.s0 ≤ wonV ws 0 0 ∧ (c.met ≠ [] → c.lim ≤ wonV ws 0 0)) → ((l.foldl (cntStep d ws) c).s1 = 0 ∧ (l.foldl (cntStep d ws) c).s0 ≤ wonV ws 0 0 ∧ ((l.foldl (cntStep d ws) c).met ≠ [] → (l.foldl (cntStep d ws) c).lim ≤ wonV ws 0 0)) := by
    intro l
    induction l with
    | nil => exact fun c _ h => h
    | cons v l ih =>
      intro c hl hc
      refine ih _ (fun v hv => hl v (by simp [hv])) ?_
      unfold cntStep
      split
      · exact hc
      next hn =>
        have hv : v.seat % 2 = 0 := hl v (by simp) (by cases he : v.est; exact absurd (.inl he) hn; rfl)
        have hlim : (if c.met = [] then wonV ws (v.seat % 2) v.trick else c.lim) ≤ wonV ws 0 0 := by
          split
          · rw [hv]; exact wonV_drop _ _ _
          next hm => exact hc.2.2 hm
        dsimp only
        rw [if_pos hv, if_pos hv]
        exact ⟨hc.1, Nat.le_trans (Nat.min_le_left _ _) hlim, fun _ => hlim⟩
  have := this l ⟨[], 0, 0, 0⟩ h ⟨rfl, Nat.zero_le _, fun h => absurd rfl h⟩
  exact ⟨this.1, this.2.1⟩
theorem cnt_side1 (d : Nat) (ws : List Nat) (l : List Rvk) (h : ∀ v ∈ l, v.est = true → v.seat % 2 = 1) : (cntAll d ws l).s0 = 0 ∧ (cntAll d ws l).s1 ≤ wonV ws 1 0 := by
  have : ∀ (l : List Rvk) (c : Cnt), (∀ v ∈ l, v.est = true → v.seat % 2 = 1) → (c.s0 = 0 ∧ c.s1 ≤ wonV ws 1 0 ∧ (c.met ≠ [] → c.lim ≤ wonV ws 1 0)) → ((l.foldl (cntStep d ws) c).s0 = 0 ∧ (l.foldl (cntStep d ws) c).s1 ≤ wonV ws 1 0 ∧ ((l.foldl (cntStep d ws) c).met ≠ [] → (l.foldl (cntStep d ws) c).lim ≤ wonV ws 1 0)) := by
    intro l
    induction l with
    | nil => exact fun c _ h => h
    | cons v l ih =>
      intro c hl hc
      refine ih _ (fun v hv => hl v (by simp [hv])) ?_
      unfold cntStep
      split
      · exact hc
      next hn =>
        have hv : v.seat % 2 = 1 := hl v (by simp) (by cases he : v.est; exact absurd (.inl he) hn; rfl)
        have hv0 : ¬ v.seat % 2 = 0 := by omega
        have hlim : (if c.met = [] then wonV ws (v.seat % 2) v.trick else c.lim) ≤ wonV ws 1 0 := by
          split
          · rw [hv]; exact wonV_drop _ _ _
          next hm => exact hc.2.2 hm
        dsimp only
        rw [if_neg hv0, if_neg hv0]
        exact ⟨hc.1, Nat.le_trans (Nat.min_le_left _ _) hlim, fun _ => hlim⟩
  have := this l ⟨[], 0, 0, 0⟩ h ⟨rfl, Nat.zero_le _, fun h => absurd rfl h⟩
  exact ⟨this.1, this.2.1⟩
/-- what is counted of a sketch's record: sums of at most one side, and no more than it won -/
theorem made_cnt (x : Sk) : ∃ s0 s1, x.rc.cntE = ((s0, s1), (wonV (winsTo x.rc.rnds) 0 0, wonV (winsTo x.rc.rnds) 1 0), 0) ∧ (s0 = 0 ∨ s1 = 0) ∧ s0 ≤ wonV (winsTo x.rc.rnds) 0 0 ∧ s1 ≤ wonV (winsTo x.rc.rnds) 1 0 ∧
    (sideV (findAll x.rc.rnds) 0 = true → sideV (findAll x.rc.rnds) 1 = true → s0 = 0 ∧ s1 = 0) ∧ (¬ (sideV (findAll x.rc.rnds) 0 = true ∧ sideV (findAll x.rc.rnds) 1 = true) → s0 = (cntAll x.rc.d (winsTo x.rc.rnds) (findAll x.rc.rnds)).s0 ∧ s1 = (cntAll x.rc.d (winsTo x.rc.rnds) (findAll x.rc.rnds)).s1) := by
  have hr := made_right x
  have hl := made_len x
  have hp := made_pop x 0 (by omega)
  have hp2 : pop (x.rc.h 0) = x.n := hp
  unfold Rc.cntE
  rw [hr, if_pos rfl]
  unfold Rc.cnt
  rw [if_neg (by rw [hl, hp2]; omega)]
  have hside : ∀ s, s < 2 → sideV (findAll x.rc.rnds) s = false → ∀ v ∈ findAll x.rc.rnds, v.est = true → v.seat % 2 = 1 - s := by
    intro s hs hf v hv he
    unfold sideV at hf
    rw [List.any_eq_false] at hf
    have := hf v hv
    simp [he] at this
    omega
  cases h0 : sideV (findAll x.rc.rnds) 0
  · obtain ⟨q1, q2⟩ := cnt_side1 x.rc.d (winsTo x.rc.rnds) (findAll x.rc.rnds) (fun v hv he => hside 0 (by omega) h0 v hv he)
    refine ⟨_, _, rfl, .inl q1, ?_, q2, ?_, ?_⟩
    · rw [q1]; exact Nat.zero_le _
    · intro h; cases h
    · intro _; exact ⟨rfl, rfl⟩
  · cases h1 : sideV (findAll x.rc.rnds) 1
    · obtain ⟨q1, q2⟩ := cnt_side0 x.rc.d (winsTo x.rc.rnds) (findAll x.rc.rnds) (fun v hv he => hside 1 (by omega) h1 v hv he)
      refine ⟨_, _, rfl, .inr q1, q2, ?_, ?_, ?_⟩
      · rw [q1]; exact Nat.zero_le _
      · intro _ h; cases h
      · intro _; exact ⟨rfl, rfl⟩
    · exact ⟨0, 0, rfl, .inl rfl, Nat.zero_le _, Nat.zero_le _, fun _ _ => ⟨rfl, rfl⟩, fun h => absurd ⟨rfl, rfl⟩ h⟩
theorem rnds_win (t : Nat) : ∀ (n num : Nat) (h : Nat → Nat) (ld : Nat) (zs : List Nat), zs.length ≤ n → ∀ y ∈ rnds t num h ld zs, y.winner < 4 := by
  intro n
  induction n with
  | zero => intro num h ld zs hl y hy; rw [List.eq_nil_of_length_eq_zero (by omega : zs.length = 0), rnds_nil_of] at hy; cases hy
  | succ n ih =>
    intro num h ld zs hl y hy
    by_cases h0 : zs = []
    · rw [h0, rnds_nil_of] at hy; cases hy
    by_cases h4 : (takeT ld h 0 (zs.take 4)).2 = 4
    · rw [rnds_full h4] at hy
      rcases List.mem_cons.1 hy with rfl | hy
      · exact seatV_lt _ _ _
      · exact ih _ _ _ _ (by have := List.length_pos_iff.2 h0; simp; omega) y hy
    · rw [rnds_part h0 h4] at hy
      rw [List.mem_singleton.1 hy]; show (0 : Nat) < 4; omega
theorem made_wins (x : Sk) : (winsTo x.rc.rnds).length = x.n ∧ ∀ s ∈ winsTo x.rc.rnds, s < 4 := by
  obtain ⟨h1, h2, h3⟩ := made_rnds x
  refine ⟨?_, ?_⟩
  · unfold winsTo
    rw [List.length_map, List.filter_eq_self.2 (fun y hy => by simpa using h3 y hy), h2]
  · intro s hs
    unfold winsTo at hs
    obtain ⟨y, hy, rfl⟩ := List.mem_map.1 hs
    exact rnds_win _ _ _ _ _ _ (Nat.le_refl _) y (List.mem_filter.1 hy).1
end Go.Proofs.Ytdlnilebnobllaa
