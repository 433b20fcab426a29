/- Plain: what a seat sees (finesselaw12.PlaySeen); one play in memory, its methods with values given. -/
import Derived.Test.YtginbellakkliaaDoorPyX
namespace Go.Proofs.YtginbellakkliaaDoor
open Go.RowKit Go.Shelf Go.Sort

/-- the cards that are gone -/
def goneV (l : List Nat) : Nat := l.foldl (fun m c => lor m (shl1 c)) 0
theorem goneV_snoc (l : List Nat) (c : Nat) : goneV (l ++ [c]) = lor (goneV l) (shl1 c) := by simp [goneV]
theorem gone_bit (i : Nat) : ∀ (l : List Nat) (m : Nat), (∀ c ∈ l, c < 64) → (l.foldl (fun m c => lor m (shl1 c)) m).testBit i = (m.testBit i || decide (i ∈ l))
  | [], m, _ => by simp
  | c :: l, m, h => by
    rw [List.foldl_cons, gone_bit i l _ (fun x hx => h x (List.mem_cons_of_mem _ hx)), y_testBit_lor_shl1 _ _ _ (h c (List.mem_cons_self ..))]
    by_cases hc : c = i
    · simp [hc]
    · have : ¬ i = c := fun e => hc e.symm
      simp [hc, this]
theorem goneV_bit {l : List Nat} (h : ∀ c ∈ l, c < 64) (i : Nat) : (goneV l).testBit i = decide (i ∈ l) := by
  unfold goneV; rw [gone_bit i l 0 h]; simp
theorem goneV_w64 {l : List Nat} : W64 (goneV l) := by
  have : ∀ (l : List Nat) (m : Nat), W64 m → W64 (l.foldl (fun m c => lor m (shl1 c)) m) := by
    intro l
    induction l with
    | nil => exact fun m h => h
    | cons c l ih => exact fun m h => ih _ (h.lor (W64.shl1 _))
  exact this l 0 W64.zero
theorem hid_bit (h g : Nat → Nat) (i : Nat) : (hidV h g).testBit i = true ↔ ∃ j, j < 4 ∧ (h j).testBit i = true ∧ (g j).testBit i = false := by
  unfold hidV
  simp only [testBit_lor, testBit_landn, Nat.zero_testBit, Bool.false_or, Bool.or_eq_true, Bool.and_eq_true, Bool.not_eq_true']
  constructor
  · rintro (((h1 | h1) | h1) | h1)
    · exact ⟨0, by omega, h1⟩
    · exact ⟨1, by omega, h1⟩
    · exact ⟨2, by omega, h1⟩
    · exact ⟨3, by omega, h1⟩
  · rintro ⟨j, hj, h1⟩
    rcases (show j = 0 ∨ j = 1 ∨ j = 2 ∨ j = 3 by omega) with rfl | rfl | rfl | rfl
    · exact .inl (.inl (.inl h1))
    · exact .inl (.inl (.inr h1))
    · exact .inl (.inr h1)
    · exact .inr h1
theorem seenH_eq (p : Ply) (s k : Nat) : p.seenH s k = if k = s ∨ (k = p.dummy ∧ p.steps ≠ []) then p.st.h k else 0 := by
  unfold Ply.seenH
  by_cases hs : p.steps = []
  · rw [if_pos hs]
    unfold setH
    by_cases h1 : k = s
    · subst h1; simp
    · simp [h1, hs]
  · rw [if_neg hs]
    unfold setH
    by_cases h1 : k = p.dummy
    · subst h1; simp [hs]
    · by_cases h2 : k = s
      · subst h2; simp [h1]
      · simp [h1, h2]
theorem PInv.cards52 {d : Nat → Nat} {n t : Nat} {p : Ply} (h : PInv d n p t) : ∀ c ∈ p.steps.map Stp.c, c < 52 := by
  intro c hc
  obtain ⟨x, hx, rfl⟩ := List.mem_map.1 hc
  exact (h.ok.steps x hx).2
theorem seen_ok {d : Nat → Nat} {n t : Nat} {p : Ply} (h : PInv d n p t) (hd : Deal4 d n) (s : Nat) :
    land (hidV p.st.h (p.seenH s)) (goneV (p.steps.map Stp.c)) = 0 ∧
    lor (lor (lor (lor (lor (p.seenH s 0) (p.seenH s 1)) (p.seenH s 2)) (p.seenH s 3)) (hidV p.st.h (p.seenH s))) (goneV (p.steps.map Stp.c)) = lor (lor (lor (d 0) (d 1)) (d 2)) (d 3) ∧
    ∀ k, k < 4 → land (p.seenH s k) (lor (hidV p.st.h (p.seenH s)) (goneV (p.steps.map Stp.c))) = 0 := by
  have h64 : ∀ c ∈ p.steps.map Stp.c, c < 64 := fun c hc => by have := h.cards52 c hc; omega
  have hgb := goneV_bit h64
  have hmem : ∀ i, i ∈ p.steps.map Stp.c ↔ ∃ x ∈ p.steps, x.c = i := fun i => by simp
  have hgone : ∀ i j, i ∈ p.steps.map Stp.c → (p.st.h j).testBit i = false := fun i j hi => by
    obtain ⟨x, hx, rfl⟩ := (hmem i).1 hi
    exact h.gone x hx j
  have hsub : ∀ k i, (p.seenH s k).testBit i = true → (p.st.h k).testBit i = true := fun k i hi => by
    rw [seenH_eq] at hi; split at hi
    · exact hi
    · simp at hi
  refine ⟨?_, ?_, fun k hk => ?_⟩
  · refine land_zero fun i hi => ?_
    obtain ⟨j, _, h1, _⟩ := (hid_bit _ _ i).1 hi
    rw [hgb]
    by_cases hm : i ∈ p.steps.map Stp.c
    · rw [hgone i j hm] at h1; cases h1
    · simpa using hm
  · apply Nat.eq_of_testBit_eq
    intro i
    rw [Bool.eq_iff_iff]
    simp only [testBit_lor, Bool.or_eq_true, hid_bit, hgb, decide_eq_true_eq]
    constructor
    · rintro (((((h1 | h1) | h1) | h1) | ⟨j, hj, h1, _⟩) | h1)
      · exact .inl (.inl (.inl (h.bit 0 i (hsub 0 i h1))))
      · exact .inl (.inl (.inr (h.bit 1 i (hsub 1 i h1))))
      · exact .inl (.inr (h.bit 2 i (hsub 2 i h1)))
      · exact .inr (h.bit 3 i (hsub 3 i h1))
      · have := h.bit j i h1
        rcases (show j = 0 ∨ j = 1 ∨ j = 2 ∨ j = 3 by omega) with rfl | rfl | rfl | rfl
        · exact .inl (.inl (.inl this))
        · exact .inl (.inl (.inr this))
        · exact .inl (.inr this)
        · exact .inr this
      · obtain ⟨x, hx, rfl⟩ := (hmem i).1 h1
        obtain ⟨j, hj, this⟩ := h.part x hx
        rcases (show j = 0 ∨ j = 1 ∨ j = 2 ∨ j = 3 by omega) with rfl | rfl | rfl | rfl
        · exact .inl (.inl (.inl this))
        · exact .inl (.inl (.inr this))
        · exact .inl (.inr this)
        · exact .inr this
    · have key : ∀ j, j < 4 → (d j).testBit i = true → (p.seenH s j).testBit i = true ∨ (∃ j, j < 4 ∧ (p.st.h j).testBit i = true ∧ (p.seenH s j).testBit i = false) ∨ i ∈ p.steps.map Stp.c := by
        intro j hj hb
        rcases h.cover j i hb with h1 | h1
        · cases hq : (p.seenH s j).testBit i
          · exact .inr (.inl ⟨j, hj, h1, hq⟩)
          · exact .inl rfl
        · exact .inr (.inr ((hmem i).2 h1))
      rintro (((h1 | h1) | h1) | h1)
      · rcases key 0 (by omega) h1 with h2 | h2 | h2
        · exact .inl (.inl (.inl (.inl (.inl h2))))
        · exact .inl (.inr h2)
        · exact .inr h2
      · rcases key 1 (by omega) h1 with h2 | h2 | h2
        · exact .inl (.inl (.inl (.inl (.inr h2))))
        · exact .inl (.inr h2)
        · exact .inr h2
      · rcases key 2 (by omega) h1 with h2 | h2 | h2
        · exact .inl (.inl (.inl (.inr h2)))
        · exact .inl (.inr h2)
        · exact .inr h2
      · rcases key 3 (by omega) h1 with h2 | h2 | h2
        · exact .inl (.inl (.inr h2))
        · exact .inl (.inr h2)
        · exact .inr h2
  · refine land_zero fun i hi => ?_
    have hki := hsub k i hi
    rw [testBit_lor, Bool.or_eq_false_iff, hgb]
    constructor
    · cases hq : (hidV p.st.h (p.seenH s)).testBit i
      · rfl
      · obtain ⟨j, hj, h1, h2⟩ := (hid_bit _ _ i).1 hq
        by_cases hjk : j = k
        · subst hjk; rw [hi] at h2; cases h2
        · have := hd.apart j k i hjk (h.bit j i h1)
          rw [h.bit k i hki] at this; cases this
    · by_cases hm : i ∈ p.steps.map Stp.c
      · rw [hgone i k hm] at hki; cases hki
      · simpa using hm
theorem hidV_w64 {h g : Nat → Nat} (hh : ∀ j, W64 (h j)) : W64 (hidV h g) := by
  unfold hidV
  exact ((((W64.zero).lor (hh 0).landn).lor (hh 1).landn).lor (hh 2).landn).lor (hh 3).landn
theorem seenH_w64 {p : Ply} (h : p.ok) (s k : Nat) : W64 (p.seenH s k) := by
  rw [seenH_eq]; split
  · exact h.st.h k
  · exact W64.zero
theorem in_cards {W : World} {B : Nat} {p : Ply} {G : Nat → Prop} (h : InP W B p G) :
    Calls Tryd.prog 20 #[.pointer (some ⟨B, 0, none⟩)] W fun e W' => ∃ v, e = .returned v ∧ OwnU W' W.heap.size v (p.steps.map Stp.c) ∧ Below W.heap.size W W' := by
  obtain ⟨vs, vb, h1, _⟩ := h.mem
  exact ply_cards h.ok h1
end Go.Proofs.YtginbellakkliaaDoor
