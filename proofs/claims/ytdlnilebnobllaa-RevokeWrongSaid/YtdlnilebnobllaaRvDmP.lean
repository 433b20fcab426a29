/- Plain: what moves when the dummy alone revokes. -/
import Derived.Test.YtdlnilebnobllaaRvBdP
namespace Go.Proofs.Ytdlnilebnobllaa
open Go.RowKit Go.Shelf Go.Sort

/-- whether a seat beside the dummy has an established revoke -/
def othV (d : Nat) (l : List Rvk) : Bool := l.any fun v => v.est && decide (v.seat ≠ (d + 2) % 4)
theorem othV_succ (d : Nat) (l : List Rvk) (k : Nat) (h : k < l.length) : othV d (l.take (k + 1)) = (othV d (l.take k) || (l[k].est && decide (l[k].seat ≠ (d + 2) % 4))) := by
  unfold othV
  rw [List.take_succ_eq_append_getElem h, List.any_append]
  simp
theorem cnt_none (d : Nat) (ws : List Nat) (l : List Rvk) (h : othV d l = false) : (cntAll d ws l).s0 = 0 ∧ (cntAll d ws l).s1 = 0 := by
  have : ∀ (l : List Rvk) (c : Cnt), othV d l = false → l.foldl (cntStep d ws) c = c := by
    intro l
    induction l with
    | nil => exact fun c _ => rfl
    | cons v l ih =>
      intro c hl
      simp only [othV, List.any_cons, Bool.or_eq_false_iff] at hl
      rw [List.foldl_cons]
      have : cntStep d ws c v = c := by
        unfold cntStep
        rw [if_pos]
        cases he : v.est
        · exact .inl rfl
        · rw [he] at hl; have := hl.1; simp at this; exact .inr (.inl this)
      rw [this]
      exact ih c hl.2
  unfold cntAll
  rw [this l _ h]
  exact ⟨rfl, rfl⟩
theorem oth_side (d : Nat) (l : List Rvk) (h : othV d l = true) : sideV l 0 = true ∨ sideV l 1 = true := by
  unfold othV at h
  rw [List.any_eq_true] at h
  obtain ⟨v, hv, h2⟩ := h
  rw [Bool.and_eq_true] at h2
  have : v.seat % 2 = 0 ∨ v.seat % 2 = 1 := by omega
  unfold sideV
  rw [List.any_eq_true, List.any_eq_true]
  rcases this with h3 | h3
  · exact .inl ⟨v, hv, by simp [h2.1, h3]⟩
  · exact .inr ⟨v, hv, by simp [h2.1, h3]⟩
theorem made_dummy (x : Sk) : ∃ A B, x.rc.movedV = (A, B, 0) ∧ A ≤ 24 ∧ B ≤ 24 ∧ (A = 0 ∧ B = 0 ∨ (othV x.rc.d (findAll x.rc.rnds) = true ∧ (sideV (findAll x.rc.rnds) 0 != sideV (findAll x.rc.rnds) 1) = true)) := by
  obtain ⟨s0, s1, hcE, -, h0, h1, hboth, hcnt⟩ := made_cnt x
  have hl := (made_wins x).1
  have hn := x.n_le
  have q0 := wonV_le (winsTo x.rc.rnds) 0 0
  have q1 := wonV_le (winsTo x.rc.rnds) 1 0
  have hmv : x.rc.movedV = (if x.rc.d % 2 = 0 then (s0, s1, 0) else (s1, s0, 0)) := by unfold Rc.movedV; rw [hcE]; simp
  have key : s0 = 0 ∧ s1 = 0 ∨ (othV x.rc.d (findAll x.rc.rnds) = true ∧ (sideV (findAll x.rc.rnds) 0 != sideV (findAll x.rc.rnds) 1) = true) := by
    by_cases hb : sideV (findAll x.rc.rnds) 0 = true ∧ sideV (findAll x.rc.rnds) 1 = true
    · exact .inl (hboth hb.1 hb.2)
    · obtain ⟨e0, e1⟩ := hcnt hb
      cases ho : othV x.rc.d (findAll x.rc.rnds)
      · obtain ⟨z0, z1⟩ := cnt_none x.rc.d (winsTo x.rc.rnds) _ ho
        exact .inl ⟨by omega, by omega⟩
      · right
        refine ⟨rfl, ?_⟩
        have := oth_side _ _ ho
        cases ha : sideV (findAll x.rc.rnds) 0 <;> cases hb' : sideV (findAll x.rc.rnds) 1 <;> simp_all
  rw [hmv]
  split
  · exact ⟨s0, s1, rfl, by omega, by omega, key⟩
  · exact ⟨s1, s0, rfl, by omega, by omega, by rcases key with ⟨a, b⟩ | h; exact .inl ⟨b, a⟩; exact .inr h⟩

end Go.Proofs.Ytdlnilebnobllaa
