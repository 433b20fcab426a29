/- Plain: a line of best play; the rest of a slice of choices. -/
import Derived.Test.YtpobcaopfeddgaaDoorDmPj
import Derived.Test.YtpobcaopfeddgaaDoorDmBy
namespace Go.Proofs.YtpobcaopfeddgaaDoor
open Go.RowKit Go.Sort Go.Shelf Go.Maps Go.WideMaps

/-- the first of some choices that is best for side s -/
def pickC (s : Nat) (b : Nat × Nat) (l : List (Nat × Nat)) : Nat × Nat := l.foldl (fun b c => if betterI s b.2 c.2 = b.2 then b else c) b
theorem pickC_snoc (s : Nat) (b : Nat × Nat) (l : List (Nat × Nat)) (c : Nat × Nat) : pickC s b (l ++ [c]) = if betterI s (pickC s b l).2 c.2 = (pickC s b l).2 then pickC s b l else c := by
  unfold pickC; rw [List.foldl_append]; rfl
/-- the choices at a table with m + 1 cards left -/
def Tb.chs (tr m : Nat) (t : Tb) : List (Nat × Nat) := t.cards.map fun c => (c, worth tr m t c)
/-- the card that best play puts -/
def Tb.best (tr m : Nat) (t : Tb) : Nat := (pickC (t.turn % 2) ((t.chs tr m).headD (0, 0)) (t.chs tr m).tail).1
/-- a line of best play of m more cards -/
def lineV (tr : Nat) : Nat → Tb → List Nat
  | 0, _ => []
  | m + 1, t => t.best tr m :: lineV tr m (t.put tr (t.best tr m)).1
theorem pickC_mem (s : Nat) : ∀ (l : List (Nat × Nat)) (b : Nat × Nat), pickC s b l = b ∨ pickC s b l ∈ l
  | [], b => .inl rfl
  | c :: l, b => by
    have e : pickC s b (c :: l) = pickC s (if betterI s b.2 c.2 = b.2 then b else c) l := rfl
    rw [e]
    rcases pickC_mem s l (if betterI s b.2 c.2 = b.2 then b else c) with h | h
    · rw [h]
      split
      · exact .inl rfl
      · exact .inr (List.mem_cons_self ..)
    · exact .inr (List.mem_cons_of_mem _ h)
theorem best_mem {tr m : Nat} {t : Tb} (h : t.cards ≠ []) : t.best tr m ∈ t.cards := by
  unfold Tb.best
  have hne : t.chs tr m ≠ [] := by unfold Tb.chs; simpa using h
  have hm : pickC (t.turn % 2) ((t.chs tr m).headD (0, 0)) (t.chs tr m).tail ∈ t.chs tr m := by
    rcases hc : t.chs tr m with _ | ⟨x, l⟩
    · exact absurd hc hne
    · rcases pickC_mem (t.turn % 2) l x with h | h
      · show pickC _ x l ∈ _
        rw [h]; exact List.mem_cons_self ..
      · exact List.mem_cons_of_mem _ h
  unfold Tb.chs at hm
  obtain ⟨c, hc, e⟩ := List.mem_map.1 hm
  have e1 := congrArg Prod.fst e
  dsimp only at e1
  rw [e1] at hc
  exact hc
theorem lineV_len (tr : Nat) : ∀ m t, (lineV tr m t).length = m
  | 0, _ => rfl
  | m + 1, t => by unfold lineV; rw [List.length_cons, lineV_len tr m]
theorem cards_some {t : Tb} (h : TbOk t) {q : Nat} (he : Evn q t) (hq : 0 < q) : t.cards ≠ [] := by
  intro e
  have h1 := few_some h he hq
  unfold Tb.few at h1
  rw [e] at h1
  exact h1 rfl
/-- l[1:] -/
theorem rest_run (g L cap : Nat) (hL : 1 ≤ L) (hc : L ≤ cap) : ∃ ra, (2 ≤ L → ra = some ⟨g, 2, none⟩) ∧ ∀ W, (Instr.slice 37 (.slice (some ⟨g, 0, none⟩) L cap) (some (.int .i64 1)) none none).run Tryd.prog W = .ok (.slice ra (L - 1) (cap - 1)) W := by
  refine ⟨if cap = 1 then some ⟨g, 0, none⟩ else some ⟨g, 2, none⟩, fun h => if_neg (by omega), fun W => ?_⟩
  have hsz : (sizeOf (Tryd.prog.elem 37)).run Tryd.prog W = .ok 2 W := by kernel_rfl
  rw [run_slice_l W 37 _ L cap (by kernel_rfl) _ _ (by omega) (by omega), hsz]
  by_cases h : cap = 1
  · simp [Result.andThen, sliced, h]
  · simp [Result.andThen, sliced, h, Addr.add]
end Go.Proofs.YtpobcaopfeddgaaDoor
