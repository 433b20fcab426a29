/- Plain: the cards of each suit moved down, as the program does it. -/
import Derived.Test.YtnbillhodbcfbaaDoorMDmx
namespace Go.Proofs.YtnbillhodbcfbaaDoor
open Go.RowKit Go.Sort Go.Shelf

theorem snoc_ind {α : Type} {P : List α → Prop} (h0 : P []) (h1 : ∀ l x, P l → P (l ++ [x])) (l : List α) : P l := by
  rw [← List.reverse_reverse l]
  induction l.reverse with
  | nil => exact h0
  | cons x r ih => rw [List.reverse_cons]; exact h1 _ _ ih
theorem sorted_ext : ∀ {l r : List Nat}, l.Pairwise (· < ·) → r.Pairwise (· < ·) → (∀ c, c ∈ l ↔ c ∈ r) → l = r
  | [], [], _, _, _ => rfl
  | [], y :: r, _, _, h => by cases (h y).2 (List.mem_cons_self ..)
  | x :: l, [], _, _, h => by cases (h x).1 (List.mem_cons_self ..)
  | x :: l, y :: r, hl, hr, h => by
    have hl' := List.pairwise_cons.1 hl
    have hr' := List.pairwise_cons.1 hr
    have e : x = y := by
      rcases List.mem_cons.1 ((h x).1 (List.mem_cons_self ..)) with h1 | h1
      · exact h1
      · rcases List.mem_cons.1 ((h y).2 (List.mem_cons_self ..)) with h2 | h2
        · exact h2.symm
        · have := hl'.1 y h2
          have := hr'.1 x h1
          omega
    subst e
    rw [sorted_ext hl'.2 hr'.2 fun c => ?_]
    constructor
    · intro hc
      rcases List.mem_cons.1 ((h c).1 (List.mem_cons_of_mem _ hc)) with h1 | h1
      · have := hl'.1 c hc; omega
      · exact h1
    · intro hc
      rcases List.mem_cons.1 ((h c).2 (List.mem_cons_of_mem _ hc)) with h1 | h1
      · have := hr'.1 c hc; omega
      · exact h1
def allM (h : Nat → Nat) : Nat := lor (lor (lor (h 0) (h 1)) (h 2)) (h 3)
theorem allM_bit (h : Nat → Nat) (c : Nat) : (allM h).testBit c = true ↔ ∃ s, s < 4 ∧ (h s).testBit c = true := by
  unfold allM
  rw [testBit_lor, testBit_lor, testBit_lor, Bool.or_eq_true, Bool.or_eq_true, Bool.or_eq_true]
  constructor
  · rintro (((h0 | h0) | h0) | h0)
    · exact ⟨0, by omega, h0⟩
    · exact ⟨1, by omega, h0⟩
    · exact ⟨2, by omega, h0⟩
    · exact ⟨3, by omega, h0⟩
  · rintro ⟨s, hs, hb⟩
    rcases (show s = 0 ∨ s = 1 ∨ s = 2 ∨ s = 3 by omega) with rfl | rfl | rfl | rfl
    · exact .inl (.inl (.inl hb))
    · exact .inl (.inl (.inr hb))
    · exact .inl (.inr hb)
    · exact .inr hb
/-- all cards lie in the pack -/
def In52 (h : Nat → Nat) : Prop := ∀ s, s < 4 → ∀ c, (h s).testBit c = true → c < 52
theorem w64_of_bits {m : Nat} (h : ∀ c, m.testBit c = true → c < 64) : W64 m := by
  refine W64.of_lt (Nat.lt_pow_two_of_testBit m fun i hi => ?_)
  rcases e : m.testBit i with _ | _
  · rfl
  · have := h i e; omega
theorem In52.w64 {h : Nat → Nat} (hh : In52 h) {s : Nat} (hs : s < 4) : W64 (h s) := w64_of_bits fun c hc => by have := hh s hs c hc; omega
theorem In52.all {h : Nat → Nat} (hh : In52 h) : W64 (allM h) := ((hh.w64 (by decide)).lor (hh.w64 (by decide))).lor (hh.w64 (by decide)) |>.lor (hh.w64 (by decide))
/-- the suit under way and the next place -/
def shS (s : Nat × Nat) (c : Nat) : Nat × Nat := if c / 13 = s.1 then (s.1, s.2 + 1) else (c / 13, 13 * (c / 13) + 1)
def shP (s : Nat × Nat) (c : Nat) : Nat := if c / 13 = s.1 then s.2 else 13 * (c / 13)
def shSt (l : List Nat) : Nat × Nat := l.foldl shS (0, 0)
theorem shSt_snoc (l : List Nat) (c : Nat) : shSt (l ++ [c]) = shS (shSt l) c := by unfold shSt; rw [List.foldl_append]; rfl
def inSuit (l : List Nat) (q : Nat) : Nat := (l.filter fun c => c / 13 == q).length
theorem inSuit_snoc (l : List Nat) (c q : Nat) : inSuit (l ++ [c]) q = inSuit l q + if c / 13 = q then 1 else 0 := by
  unfold inSuit
  rw [List.filter_append, List.length_append]
  by_cases h : c / 13 = q
  · rw [if_pos h, List.filter_cons, if_pos (by rw [beq_iff_eq]; exact h)]; rfl
  · rw [if_neg h, List.filter_cons, if_neg (by rw [beq_iff_eq]; exact h)]; rfl
theorem shSt_spec : ∀ (l : List Nat), l.Pairwise (· < ·) → (shSt l).2 = 13 * (shSt l).1 + inSuit l (shSt l).1 ∧ (∀ c ∈ l, c / 13 ≤ (shSt l).1) ∧ ((shSt l).1 = 0 ∨ ∃ c ∈ l, c / 13 = (shSt l).1) ∧ (∀ c, (∀ x ∈ l, x < c) → shP (shSt l) c = 13 * (c / 13) + inSuit l (c / 13)) := by
  intro l
  have key : ∀ (l : List Nat), (shSt l).2 = 13 * (shSt l).1 + inSuit l (shSt l).1 → (∀ c ∈ l, c / 13 ≤ (shSt l).1) → ((shSt l).1 = 0 ∨ ∃ c ∈ l, c / 13 = (shSt l).1) → ∀ c, (∀ x ∈ l, x < c) → shP (shSt l) c = 13 * (c / 13) + inSuit l (c / 13) := by
    intro l h1 h2 h3 c hc
    unfold shP
    by_cases e : c / 13 = (shSt l).1
    · rw [if_pos e, h1, e]
    · rw [if_neg e]
      have hlt : (shSt l).1 < c / 13 := by
        rcases h3 with h3 | ⟨x, hx, h3⟩
        · omega
        · have := hc x hx; omega
      have : inSuit l (c / 13) = 0 := by
        unfold inSuit
        rw [List.length_eq_zero_iff, List.filter_eq_nil_iff]
        intro x hx hq
        rw [beq_iff_eq] at hq
        have := h2 x hx
        omega
      omega
  induction l using snoc_ind with
  | h0 =>
    intro _
    refine ⟨rfl, (fun c hc => by cases hc), .inl rfl, key [] rfl (fun c hc => by cases hc) (.inl rfl)⟩
  | h1 l' x ih =>
    intro hp
    have hp' := List.pairwise_append.1 hp
    obtain ⟨h1, h2, h3, h4⟩ := ih hp'.1
    have hx : ∀ y ∈ l', y < x := fun y hy => hp'.2.2 y hy x (List.mem_singleton.2 rfl)
    have g1 : (shSt (l' ++ [x])).1 = x / 13 := by
      rw [shSt_snoc]; unfold shS
      by_cases e : x / 13 = (shSt l').1
      · rw [if_pos e]; exact e.symm
      · rw [if_neg e]
    have g2 : (shSt (l' ++ [x])).2 = 13 * (x / 13) + inSuit l' (x / 13) + 1 := by
      have := h4 x hx
      rw [shSt_snoc]; unfold shS; unfold shP at this
      by_cases e : x / 13 = (shSt l').1
      · rw [if_pos e] at this ⊢; show (shSt l').2 + 1 = _; omega
      · rw [if_neg e] at this ⊢; show 13 * (x / 13) + 1 = _; omega
    have k1 : (shSt (l' ++ [x])).2 = 13 * (shSt (l' ++ [x])).1 + inSuit (l' ++ [x]) (shSt (l' ++ [x])).1 := by
      rw [g1, g2, inSuit_snoc, if_pos rfl]; omega
    have k2 : ∀ c ∈ l' ++ [x], c / 13 ≤ (shSt (l' ++ [x])).1 := by
      intro c hc
      rw [g1]
      rcases List.mem_append.1 hc with hc | hc
      · have := hx c hc; omega
      · rw [List.mem_singleton.1 hc]; exact Nat.le_refl _
    have k3 : (shSt (l' ++ [x])).1 = 0 ∨ ∃ c ∈ l' ++ [x], c / 13 = (shSt (l' ++ [x])).1 := .inr ⟨x, by simp, g1.symm⟩
    exact ⟨k1, k2, k3, key _ k1 k2 k3⟩
theorem inSuit_low {all : Nat} {pre suf : List (Fin 64)} {x : Fin 64} (h : bitsList all = pre ++ x :: suf) (hx : x.val < 52) : 13 * (x.val / 13) + inSuit (pre.map Fin.val) (x.val / 13) = low all x.val := by
  unfold low rk
  congr 1
  have hs := bits_sorted all
  rw [h, List.map_append, List.pairwise_append] at hs
  obtain ⟨hs1, hs2, hs3⟩ := hs
  rw [List.map_cons, List.pairwise_cons] at hs2
  have hm : ∀ c, c < 64 → (all.testBit c = true ↔ c ∈ pre.map Fin.val ++ x.val :: suf.map Fin.val) := fun c hc => by
    rw [show pre.map Fin.val ++ x.val :: suf.map Fin.val = (bitsList all).map Fin.val by rw [h]; simp, bitsList_map, List.mem_filter, List.mem_range]
    exact ⟨fun h => ⟨hc, h⟩, fun h => h.2⟩
  have e : (pre.map Fin.val).filter (fun c => c / 13 == x.val / 13) = ((List.range (x.val % 13)).filter fun i => all.testBit (13 * (x.val / 13) + i)).map (13 * (x.val / 13) + ·) := by
    refine sorted_ext ?_ ?_ ?_
    · exact hs1.filter _
    · rw [List.pairwise_map]
      exact (List.Pairwise.filter _ List.pairwise_lt_range).imp fun h => by omega
    · intro c
      rw [List.mem_filter]
      constructor
      · rintro ⟨hc, hq⟩
        rw [beq_iff_eq] at hq
        have hlt := hs3 c hc x.val (by simp)
        refine List.mem_map.2 ⟨c % 13, List.mem_filter.2 ⟨List.mem_range.2 (by omega), ?_⟩, by omega⟩
        rw [show 13 * (x.val / 13) + c % 13 = c by omega]
        exact (hm c (by omega)).2 (List.mem_append_left _ hc)
      · intro hc
        obtain ⟨i, hi, rfl⟩ := List.mem_map.1 hc
        obtain ⟨hi1, hi2⟩ := List.mem_filter.1 hi
        rw [List.mem_range] at hi1
        refine ⟨?_, by rw [beq_iff_eq]; omega⟩
        rcases List.mem_append.1 ((hm _ (by omega)).1 hi2) with h1 | h1
        · exact h1
        · rcases List.mem_cons.1 h1 with h1 | h1
          · omega
          · have := hs2.1 _ h1; omega
  show inSuit _ _ = _
  unfold inSuit
  rw [e, List.length_map]
theorem shP_low {all : Nat} {pre suf : List (Fin 64)} {x : Fin 64} (h : bitsList all = pre ++ x :: suf) (hx : x.val < 52) : shP (shSt (pre.map Fin.val)) x.val = low all x.val := by
  have hs := bits_sorted all
  rw [h, List.map_append, List.pairwise_append] at hs
  rw [(shSt_spec _ hs.1).2.2.2 x.val fun y hy => hs.2.2 y hy x.val (by simp), inSuit_low h hx]
/-- a bit of a mask put at another place -/
def bitPut (m c p : Nat) : Nat := if m.testBit c then shl1 p else 0
theorem bitPut_w64 (m c p : Nat) : W64 (bitPut m c p) := by unfold bitPut; split; exact W64.shl1 _; exact W64.zero
theorem run_shlb (m c p : Nat) (yk : IntKind) : Op.shift .shl .u64 ((bitAt m c : Nat) : Int) yk (p : Int) = pure (.int .u64 ((bitPut m c p : Nat) : Int)) := by
  rw [bitAt_eq]
  unfold bitPut
  cases m.testBit c
  · have e : Op.shift .shl .u64 0 yk (p : Int) = if (p : Int) < 0 then runtimePanic (.error "negative shift amount") else pure (.int .u64 (IntKind.u64.wrap (0 * 2 ^ min (p : Int).toNat 64))) := rfl
    show Op.shift .shl .u64 0 yk (p : Int) = _
    rw [e, if_neg (by omega), Int.zero_mul]
    rfl
  · exact run_shl64 p yk
def shH (all : Nat) (h : Nat → Nat) (l : List Nat) (i : Nat) : Nat := l.foldl (fun m c => lor m (bitPut (h i) c (low all c))) 0
theorem shH_snoc (all : Nat) (h : Nat → Nat) (l : List Nat) (c i : Nat) : shH all h (l ++ [c]) i = lor (shH all h l i) (bitPut (h i) c (low all c)) := by unfold shH; rw [List.foldl_append]; rfl
theorem shH_w64 (all : Nat) (h : Nat → Nat) (l : List Nat) (i : Nat) : W64 (shH all h l i) := by
  induction l using snoc_ind with
  | h0 => exact W64.zero
  | h1 l' x ih =>
    rw [shH_snoc]
    exact ih.lor (bitPut_w64 ..)
theorem shH_bit (all : Nat) (h : Nat → Nat) (i x : Nat) (l : List Nat) (hl : ∀ c ∈ l, low all c < 64) : (shH all h l i).testBit x = true ↔ ∃ c ∈ l, (h i).testBit c = true ∧ low all c = x := by
  induction l using snoc_ind with
  | h0 =>
    show (0 : Nat).testBit x = true ↔ _
    rw [Nat.zero_testBit]
    simp
  | h1 l' y ih =>
    rw [shH_snoc, testBit_lor, Bool.or_eq_true, ih fun c hc => hl c (List.mem_append_left _ hc)]
    have hy := hl y (by simp)
    have e : (bitPut (h i) y (low all y)).testBit x = true ↔ (h i).testBit y = true ∧ low all y = x := by
      unfold bitPut
      cases hb : (h i).testBit y
      · simp
      · rw [if_pos rfl, testBit_shl1, decide_eq_true hy, Bool.and_true, decide_eq_true_eq]
        simp
    rw [e]
    constructor
    · rintro (⟨c, hc, h1⟩ | h1)
      · exact ⟨c, List.mem_append_left _ hc, h1⟩
      · exact ⟨y, by simp, h1⟩
    · rintro ⟨c, hc, h1⟩
      rcases List.mem_append.1 hc with hc | hc
      · exact .inl ⟨c, hc, h1⟩
      · rcases List.mem_singleton.1 hc with rfl
        exact .inr h1
/-- the hands with all cards as low as they can be -/
def shr4 (h : Nat → Nat) (i : Nat) : Nat := shH (allM h) h ((bitsList (allM h)).map Fin.val) i
theorem mem_bits {m c : Nat} (hm : W64 m) : c ∈ (bitsList m).map Fin.val ↔ m.testBit c = true := by
  rw [bitsList_map, List.mem_filter, List.mem_range]
  refine ⟨fun h => h.2, fun h => ⟨?_, h⟩⟩
  refine Nat.lt_of_not_le fun h64 => ?_
  rw [Nat.testBit_lt_two_pow (Nat.lt_of_lt_of_le hm (Nat.pow_le_pow_right (n := 2) (by decide) h64))] at h
  cases h
theorem shr4_bit {h : Nat → Nat} (hh : In52 h) {i : Nat} (hi : i < 4) (x : Nat) : (shr4 h i).testBit x = true ↔ ∃ c, (h i).testBit c = true ∧ low (allM h) c = x := by
  unfold shr4
  rw [shH_bit]
  · constructor
    · rintro ⟨c, -, h1⟩; exact ⟨c, h1⟩
    · rintro ⟨c, h1, h2⟩
      exact ⟨c, (mem_bits hh.all).2 ((allM_bit h c).2 ⟨i, hi, h1⟩), h1, h2⟩
  · intro c hc
    obtain ⟨s, hs, hb⟩ := (allM_bit h c).1 ((mem_bits hh.all).1 hc)
    have h1 := hh s hs c hb
    have h2 := rk_lt (allM h) c
    unfold low
    omega
theorem low52 {h : Nat → Nat} (hh : In52 h) {s c : Nat} (hs : s < 4) (hb : (h s).testBit c = true) : low (allM h) c < 52 := by
  have h1 := hh s hs c hb
  have h2 := rk_lt (allM h) c
  unfold low
  omega
theorem shr4_in {h : Nat → Nat} (hh : In52 h) : In52 (shr4 h) := fun s hs c hc => by
  obtain ⟨c', h1, rfl⟩ := (shr4_bit hh hs c).1 hc
  exact low52 hh hs h1
theorem shr4_iso {h : Nat → Nat} (hh : In52 h) (ld tr : Nat) : Iso (low (allM h)) tr tr ⟨h, ld, []⟩ ⟨shr4 h, ld, []⟩ :=
  iso_low (fun s hs c hc => (allM_bit h c).2 ⟨s, hs, hc⟩) fun _ hs c' => shr4_bit hh hs c'
end Go.Proofs.YtnbillhodbcfbaaDoor
