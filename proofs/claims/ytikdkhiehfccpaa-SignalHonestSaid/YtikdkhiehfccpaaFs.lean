/- Drawn regions with allocated variables: what has been done so far has its fixed value; each variable made lies in a block of its own. No program in sight. -/
import Derived.Test.YtikdkhiehfccpaaRelyI
import Derived.Test.YtikdkhiehfccpaaTab
import Derived.Laws.CopyOwn
namespace Go.Proofs.Ytikdkhiehfccpaa
open Go.RowKit Go.Sort

/-- a variable made in a region: the operation that makes it, the one that stores, its type, its cells before and behind the store -/
structure Al where
  al : Nat
  st : Nat
  t : TypeId
  c0 : Array Value
  c1 : Array Value
/-- the numbers do not meet -/
structure AlOk (als : List Al) : Prop where
  al : ∀ x ∈ als, ∀ y ∈ als, x.al = y.al → x = y
  st : ∀ x ∈ als, ∀ y ∈ als, x.st = y.st → x = y
  two : ∀ x ∈ als, ∀ y ∈ als, x.al ≠ y.st
structure FS (W : World) (vals : List (Option Value)) (als : List Al) (f : Done) (w : World) : Prop where
  below : Below W.heap.size W w
  fixed : ∀ i v, f i = some v → vals[i]? = some (some v) ∨ ∃ x ∈ als, x.al = i
  rows : ∀ x ∈ als, ∀ v, f x.al = some v → ∃ b, v = .pointer (some ⟨b, 0, none⟩) ∧ W.heap.size ≤ b ∧ Row w b x.t (if (f x.st).isSome then x.c1 else x.c0)
  apart : ∀ x ∈ als, ∀ y ∈ als, ∀ v, f x.al = some v → f y.al = some v → x = y
variable {W : World} {vals : List (Option Value)} {als : List Al} {f : Done} {w : World}
theorem FS.start : FS W vals als (fun _ => none) W.drew :=
  ⟨(Below.refl _ _).drew, fun _ _ h => (by cases h), fun _ _ _ h => (by cases h), fun _ _ _ _ _ h => (by cases h)⟩
theorem FS.val (h : FS W vals als f w) {i : Nat} {v v0 : Value} (hv : vals[i]? = some (some v0)) (hn : ∀ x ∈ als, x.al ≠ i) (hf : f i = some v) : v = v0 := by
  rcases h.fixed i v hf with h1 | ⟨x, hx, h1⟩
  · rw [hv] at h1; injection h1 with h1; injection h1 with h1; exact h1.symm
  · exact (hn x hx h1).elim
theorem FS.step (h : FS W vals als f w) (i : Nat) (v : Value) (hv : vals[i]? = some (some v)) (hn : ∀ x ∈ als, x.al ≠ i ∧ x.st ≠ i) {w' : World} (hb : Below w.heap.size w w') : FS W vals als (f.set i v) w' := by
  have e1 : ∀ x ∈ als, (f.set i v) x.al = f x.al := fun x hx => by unfold Done.set; rw [if_neg (hn x hx).1]
  have e2 : ∀ x ∈ als, (f.set i v) x.st = f x.st := fun x hx => by unfold Done.set; rw [if_neg (hn x hx).2]
  refine ⟨h.below.trans (hb.mono h.below.size), fun j u hj => ?_, fun x hx u hu => ?_, fun x hx y hy u h1 h2 => ?_⟩
  · unfold Done.set at hj
    by_cases e : j = i
    · rw [if_pos e] at hj; injection hj with hj; subst hj; subst e; exact .inl hv
    · rw [if_neg e] at hj; exact h.fixed j u hj
  · rw [e1 x hx] at hu
    obtain ⟨b, rfl, hB, hr⟩ := h.rows x hx u hu
    refine ⟨b, rfl, hB, ?_⟩
    rw [e2 x hx]
    exact hr.later hb
  · rw [e1 x hx] at h1; rw [e1 y hy] at h2
    exact h.apart x hx y hy u h1 h2
theorem FS.alloc (h : FS W vals als f w) (ok : AlOk als) (x : Al) (hx : x ∈ als) (h2 : f x.st = none) : FS W vals als (f.set x.al (.pointer (some ⟨w.heap.size, 0, none⟩))) (w.alloc (.cells x.c0 x.t)) := by
  have hb : Below w.heap.size w (w.alloc (.cells x.c0 x.t)) := (Below.refl _ _).alloc (Nat.le_refl _) _
  have e2 : ∀ y ∈ als, (f.set x.al (.pointer (some ⟨w.heap.size, 0, none⟩))) y.st = f y.st := fun y hy => by unfold Done.set; rw [if_neg (fun e => ok.two x hx y hy e.symm)]
  have old : ∀ y ∈ als, ∀ b, f y.al = some (.pointer (some ⟨b, 0, none⟩)) → b < w.heap.size := fun y hy b hb => by
    obtain ⟨b', e, _, hr⟩ := h.rows y hy _ hb
    simp only [Value.pointer.injEq, Option.some.injEq, Addr.mk.injEq, and_true] at e
    subst e; exact hr.lt
  refine ⟨h.below.trans (hb.mono h.below.size), fun j u hj => ?_, fun y hy u hu => ?_, fun y hy z hz u hy1 hz1 => ?_⟩
  · unfold Done.set at hj
    by_cases e : j = x.al
    · exact .inr ⟨x, hx, e.symm⟩
    · rw [if_neg e] at hj; exact h.fixed j u hj
  · rw [e2 y hy]
    unfold Done.set at hu
    by_cases e : y.al = x.al
    · obtain rfl := ok.al y hy x hx e
      rw [if_pos rfl] at hu; injection hu with hu; subst hu
      refine ⟨_, rfl, h.below.size, ?_⟩
      rw [h2]
      exact Row.new _ _ _
    · rw [if_neg e] at hu
      obtain ⟨b, rfl, hB, hr⟩ := h.rows y hy u hu
      exact ⟨b, rfl, hB, hr.later hb⟩
  · unfold Done.set at hy1 hz1
    by_cases e : y.al = x.al <;> by_cases e' : z.al = x.al
    · exact ok.al y hy z hz (e.trans e'.symm)
    · rw [if_pos e] at hy1; rw [if_neg e'] at hz1
      injection hy1 with hy1; subst hy1
      have := old z hz _ hz1; omega
    · rw [if_neg e] at hy1; rw [if_pos e'] at hz1
      injection hz1 with hz1; subst hz1
      have := old y hy _ hy1; omega
    · rw [if_neg e] at hy1; rw [if_neg e'] at hz1
      exact h.apart y hy z hz u hy1 hz1
theorem FS.row (h : FS W vals als f w) (x : Al) (hx : x ∈ als) (h2 : f x.st = none) {v : Value} (h1 : f x.al = some v) : ∃ b, v = .pointer (some ⟨b, 0, none⟩) ∧ W.heap.size ≤ b ∧ Row w b x.t x.c0 := by
  have := h.rows x hx v h1
  rwa [h2] at this
theorem FS.store (h : FS W vals als f w) (ok : AlOk als) (x : Al) (hx : x ∈ als) (hu : vals[x.st]? = some (some undef)) {b : Nat} (h1 : f x.al = some (.pointer (some ⟨b, 0, none⟩))) : FS W vals als (f.set x.st undef) (w.setRow b x.c1) := by
  obtain ⟨b', e, hB, hrx⟩ := h.rows x hx _ h1
  simp only [Value.pointer.injEq, Option.some.injEq, Addr.mk.injEq, and_true] at e
  subst e
  have e1 : ∀ y ∈ als, (f.set x.st undef) y.al = f y.al := fun y hy => by unfold Done.set; rw [if_neg (ok.two y hy x hx)]
  refine ⟨below_setRow h.below hB _, fun j u hj => ?_, fun y hy u hu' => ?_, fun y hy z hz u hy1 hz1 => ?_⟩
  · unfold Done.set at hj
    by_cases e : j = x.st
    · rw [if_pos e] at hj; injection hj with hj; subst hj; subst e; exact .inl hu
    · rw [if_neg e] at hj; exact h.fixed j u hj
  · rw [e1 y hy] at hu'
    by_cases e : y = x
    · subst e
      rw [h1] at hu'; injection hu' with hu'; subst hu'
      refine ⟨b, rfl, hB, ?_⟩
      have : ((f.set y.st undef) y.st).isSome = true := by unfold Done.set; rw [if_pos rfl]; rfl
      rw [if_pos this]
      exact setRow_heap _ _ _ _ _ _ hrx
    · obtain ⟨c, rfl, hC, hr⟩ := h.rows y hy u hu'
      refine ⟨c, rfl, hC, ?_⟩
      have hst : (f.set x.st undef) y.st = f y.st := by unfold Done.set; rw [if_neg (fun e' => e (ok.st y hy x hx e'))]
      rw [hst]
      have hne : c ≠ b := by
        intro ecb; subst ecb
        exact e (h.apart y hy x hx _ hu' h1)
      exact hr.same (setRow_other _ _ _ _ hne)
  · rw [e1 y hy] at hy1; rw [e1 z hz] at hz1
    exact h.apart y hy z hz u hy1 hz1
theorem none_fs {ops : List Oper} {f : Done} (hcl : ∀ j, (f j).isSome = true → ∀ k ∈ waits ops j, (f k).isSome = true) {i : Nat} (hi : f i = none) {j : Nat} (hm : i ∈ waits ops j) : f j = none := by
  cases h : f j with
  | none => rfl
  | some x => have := hcl j (by rw [h]; rfl) i hm; rw [hi] at this; cases this
theorem uncons_fs {α : Type} {vs : List α} {n : Nat} (h : vs.length = n + 1) : ∃ v t, vs = v :: t ∧ t.length = n := by
  cases vs with
  | nil => cases h
  | cons v t => exact ⟨v, t, rfl, by simpa using h⟩
end Go.Proofs.Ytikdkhiehfccpaa
