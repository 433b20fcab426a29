/- Plain facts on the revokes that are found: their tricks. -/
import Derived.Test.YtdlnilebnobllaaRvRan
namespace Go.Proofs.Ytdlnilebnobllaa
open Go.RowKit

theorem rnds_shape (t : Nat) : ∀ (n num : Nat) (h : Nat → Nat) (ld : Nat) (zs : List Nat), zs.length ≤ n → ∀ (pre : List Rnd) (x : Rnd) (post : List Rnd), rnds t num h ld zs = pre ++ x :: post → x.num = num + pre.length ∧ (post ≠ [] → x.cards.length = 4)
  | 0, num, h, ld, zs, hn, pre, x, post, he => by
    have : zs = [] := List.eq_nil_of_length_eq_zero (by omega)
    subst this; rw [rnds_nil_of] at he; simp at he
  | n + 1, num, h, ld, zs, hn, pre, x, post, he => by
    by_cases h0 : zs = []
    · subst h0; rw [rnds_nil_of] at he; simp at he
    · have hpos : 0 < zs.length := List.length_pos_iff.2 h0
      by_cases h4 : (takeT ld h 0 (zs.take 4)).2 = 4
      · rw [rnds_full h4] at he
        cases pre with
        | nil =>
          simp only [List.nil_append, List.cons.injEq] at he
          obtain ⟨rfl, _⟩ := he
          refine ⟨rfl, fun _ => ?_⟩
          have := (takeT_le ld (zs.take 4) h 0).2
          rw [h4] at this
          simp only [List.length_take] at *
          omega
        | cons y pre =>
          simp only [List.cons_append, List.cons.injEq] at he
          obtain ⟨h1, h2⟩ := rnds_shape t n (num + 1) _ _ _ (by rw [List.length_drop]; omega) pre x post he.2
          exact ⟨by rw [List.length_cons]; omega, h2⟩
      · rw [rnds_part h0 h4] at he
        cases pre with
        | nil =>
          simp only [List.nil_append, List.cons.injEq] at he
          obtain ⟨rfl, rfl⟩ := he
          exact ⟨rfl, fun h => absurd rfl h⟩
        | cons y pre =>
          simp at he
theorem rc_shape {r : Rc} {pre : List Rnd} {x : Rnd} {post : List Rnd} (he : r.rnds = pre ++ x :: post) : x.num = pre.length ∧ (post ≠ [] → x.cards.length = 4) := by
  have := rnds_shape r.t r.zs.length 0 r.h ((r.d + 1) % 4) r.zs (Nat.le_refl _) pre x post he
  rwa [Nat.zero_add] at this
/-- all but the last trick are complete -/
theorem wins_ge (r : Rc) : ∀ k, k ≤ r.rnds.length → k ≤ (winsTo (r.rnds.take k)).length + 1 ∧ (k < r.rnds.length → (winsTo (r.rnds.take k)).length = k)
  | 0, _ => by simp [winsTo]
  | k + 1, hk => by
    obtain ⟨h1, h2⟩ := wins_ge r k (by omega)
    have hx : r.rnds = r.rnds.take k ++ r.rnds[k] :: r.rnds.drop (k + 1) := by
      rw [← List.drop_eq_getElem_cons (by omega), List.take_append_drop]
    obtain ⟨_, h4⟩ := rc_shape hx
    have h2' := h2 (by omega)
    rw [List.take_succ_eq_append_getElem (by omega), winsTo_snoc]
    split
    · simp only [List.length_append, List.length_cons, List.length_nil]; omega
    · rename_i hne
      refine ⟨by omega, fun hlt => absurd (h4 (fun e => ?_)) hne⟩
      have := congrArg List.length e
      rw [List.length_drop] at this; simp at this; omega
/-- each revoke lies in one of n tricks; an established one not in the last -/
def InTricks (n : Nat) (l : List Rvk) : Prop := ∀ v ∈ l, v.trick < n ∧ (v.est = true → v.trick + 1 < n)
theorem inTricks_estab {n : Nat} {l : List Rvk} (h : InTricks n l) (num : Int) (hn : num + 1 < n) (s : Nat) : InTricks n (estab l num s) := by
  intro v hv
  simp only [estab, List.mem_map] at hv
  obtain ⟨u, hu, rfl⟩ := hv
  obtain ⟨h1, h2⟩ := h u hu
  split
  · rename_i hc; exact ⟨h1, fun _ => by show u.trick + 1 < n; omega⟩
  · exact ⟨h1, h2⟩
theorem inTricks_findTo {n : Nat} (x : Rnd) (hx : x.num + 1 = n) {l : List Rvk} (h : InTricks n l) : ∀ k, InTricks n (findTo x l k)
  | 0 => h
  | k + 1 => by
    have ih := inTricks_estab (inTricks_findTo x hx h k) ((x.num : Int) - 1) (by omega) ((x.leader + k) % 4)
    unfold findTo findStep
    split
    · intro v hv
      rcases List.mem_append.1 hv with hv | hv
      · exact ih v hv
      · simp only [List.mem_singleton] at hv
        subst hv
        exact ⟨by show x.num < n; omega, fun h => by cases h⟩
    · exact ih
theorem inTricks_find (r : Rc) : ∀ k, k ≤ r.rnds.length → InTricks k (findAll (r.rnds.take k))
  | 0, _ => by intro v hv; simp [findAll] at hv
  | k + 1, hk => by
    have ih := inTricks_find r k (by omega)
    have hx : r.rnds = r.rnds.take k ++ r.rnds[k] :: r.rnds.drop (k + 1) := by
      rw [← List.drop_eq_getElem_cons (by omega), List.take_append_drop]
    obtain ⟨h1, _⟩ := rc_shape hx
    rw [List.length_take, Nat.min_eq_left (by omega)] at h1
    rw [List.take_succ_eq_append_getElem (by omega), findAll_snoc]
    refine inTricks_findTo _ (by omega) (fun v hv => ?_) _
    obtain ⟨h2, h3⟩ := ih v hv
    exact ⟨by omega, fun h => by have := h3 h; omega⟩
/-- an established revoke's trick has a winner -/
theorem est_trick (r : Rc) : ∀ v ∈ findAll r.rnds, v.est = true → v.trick < (winsTo r.rnds).length := by
  intro v hv he
  have h1 := inTricks_find r r.rnds.length (Nat.le_refl _)
  have h2 := (wins_ge r r.rnds.length (Nat.le_refl _)).1
  rw [List.take_length] at h1 h2
  have := (h1 v hv).2 he
  omega
theorem wonV_le (ws : List Nat) (s k : Nat) : wonV ws s k ≤ ws.length := by
  unfold wonV
  exact Nat.le_trans List.countP_le_length (by rw [List.length_drop]; omega)
theorem movesV_le (v : Rvk) (ws : List Nat) : movesV v ws ≤ 2 := by
  unfold movesV
  have h1 := Nat.min_le_left 1 (wonV ws (v.seat % 2) (v.trick + 1))
  have h2 := Nat.min_le_left 1 (wonV ws (v.seat % 2) v.trick)
  split <;> omega
/-- the sums stay below the number of tricks -/
def Cnt.ok (c : Cnt) (n : Nat) : Prop := c.lim ≤ n ∧ c.s0 ≤ n ∧ c.s1 ≤ n
theorem cntStep_ok {d : Nat} {ws : List Nat} {c : Cnt} (v : Rvk) (h : c.ok ws.length) : (cntStep d ws c v).ok ws.length := by
  obtain ⟨h1, h2, h3⟩ := h
  unfold cntStep
  split
  · exact ⟨h1, h2, h3⟩
  · have hl : (if c.met = [] then wonV ws (v.seat % 2) v.trick else c.lim) ≤ ws.length := by split; exact wonV_le _ _ _; exact h1
    refine ⟨hl, ?_, ?_⟩
    · show (if _ then _ else _) ≤ _
      split
      · exact Nat.le_trans (Nat.min_le_left _ _) hl
      · exact h2
    · show (if _ then _ else _) ≤ _
      split
      · exact h3
      · exact Nat.le_trans (Nat.min_le_left _ _) hl
theorem dealt_d {r : Rc} (h : r.dealt = true) : r.d ≤ 3 := by
  unfold Rc.dealt at h
  simp only [Bool.and_eq_true, decide_eq_true_eq] at h
  exact h.2
end Go.Proofs.Ytdlnilebnobllaa
