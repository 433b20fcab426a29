/- Plain: two own lists grow, one after the other, beside a play. -/
import Derived.Test.YtginbellakkliaaDoorPyEn
import Derived.Test.YtginbellakkliaaDoorPyO
namespace Go.Proofs.YtginbellakkliaaDoor
open Go.RowKit Go.Shelf Go.Sort

/-- another's row has grown -/
theorem app_in {w8 w10 : World} {B : Nat} {p : Ply} {G : Nat → Prop} {row : Option Nat} (H : InP w8 B p G) (hr : ∀ g, row = some g → G g ∧ 0 ≠ g) (hgr : w8.grownBy w10 row) :
    InP w10 B p (fun b => G b ∨ (w8.heap.size ≤ b ∧ b < w10.heap.size)) := by
  have hk : Kept (fun b => some b ≠ row) w8 w10 := Kept.of_grown hgr (fun k hk => hk)
  refine H.other hk (fun b _ => ?_) (fun e => ?_)
  · by_cases h : some b = row
    · exact .inr (hr b h.symm).1
    · exact .inl h
  · exact (hr _ e.symm).2 rfl
theorem grown_kept {w w' : World} {row : Option Nat} {n : Nat} (h : w.grownBy w' row) (hr : ∀ g, row = some g → n ≤ g) : Kept (fun b => b < n) w w' :=
  (Kept.of_grown (S := fun b => some b ≠ row) h (fun k hk => hk)).mono fun b hb e => by have := hr b e.symm; omega
theorem own_none {v1 v2 : Value} {G : Nat → Prop} (g1 : ∀ g, v1.ownBlock = some g → G g ∧ v2.ownBlock ≠ some g) : v1.ownBlock ≠ v2.ownBlock ∨ v1.ownBlock = none := by
  cases e : v1.ownBlock with
  | none => exact .inr rfl
  | some g => exact .inl fun e2 => (g1 g e).2 e2.symm
theorem two_in {W w8 w9 : World} {o1 o2 : Obj} {B base : Nat} {q : Ply} {G : Nat → Prop} {v1 v2 v1' v2' : Value} {l1 l2 k1 k2 : List Nat} (H : InP W B q G) (g1 : ∀ g, v1.ownBlock = some g → G g ∧ v2.ownBlock ≠ some g) (g2 : ∀ g, v2.ownBlock = some g → G g)
    (hb : 0 < base) (h1 : OwnU W base v1 k1) (h2 : OwnU W base v2 k2)
    (gr8 : (W.alloc o1).grownBy w8 v1.ownBlock) (or8 : v1'.ownBlock = v1.ownBlock ∨ v1'.ownBlock = some (W.alloc o1).heap.size) (h1' : OwnU w8 base v1' l1)
    (gr9 : (w8.alloc o2).grownBy w9 v2.ownBlock) (or9 : v2'.ownBlock = v2.ownBlock ∨ v2'.ownBlock = some (w8.alloc o2).heap.size) (h2' : OwnU w9 base v2' l2) :
    ∃ G', InP w9 B q G' ∧ (∀ g, v1'.ownBlock = some g → G' g ∧ v2'.ownBlock ≠ some g) ∧ (∀ g, v2'.ownBlock = some g → G' g) ∧ (∀ g, G g → G' g) ∧ OwnU w9 base v1' l1 ∧ Kept (fun b => b < base) W w9 := by
  have e1 : (W.alloc o1).heap.size = W.heap.size + 1 := World.size_alloc _ _
  have e2 : (w8.alloc o2).heap.size = w8.heap.size + 1 := World.size_alloc _ _
  have s8 : (W.alloc o1).heap.size ≤ w8.heap.size := (Kept.of_grown (S := fun b => some b ≠ v1.ownBlock) gr8 (fun k hk => hk)).size
  have s9 : (w8.alloc o2).heap.size ≤ w9.heap.size := (Kept.of_grown (S := fun b => some b ≠ v2.ownBlock) gr9 (fun k hk => hk)).size
  have b1 : ∀ g, v1.ownBlock = some g → base ≤ g ∧ g < W.heap.size := fun g e => ⟨(h1.row e).1, (h1.row e).2.1⟩
  have b2 : ∀ g, v2.ownBlock = some g → base ≤ g ∧ g < W.heap.size := fun g e => ⟨(h2.row e).1, (h2.row e).2.1⟩
  have b1' : ∀ g, v1'.ownBlock = some g → base ≤ g ∧ g < w8.heap.size := fun g e => ⟨(h1'.row e).1, (h1'.row e).2.1⟩
  have b2' : ∀ g, v2'.ownBlock = some g → base ≤ g ∧ g < w9.heap.size := fun g e => ⟨(h2'.row e).1, (h2'.row e).2.1⟩
  have Ha := H.below ((Below.refl _ _).alloc (Nat.le_refl _) o1)
  have H8 := app_in Ha (fun g e => ⟨(g1 g e).1, by have := b1 g e; omega⟩) gr8
  have H8a := H8.below ((Below.refl _ _).alloc (Nat.le_refl _) o2)
  have H9 := app_in H8a (row := v2.ownBlock) (fun g e => ⟨.inl (g2 g e), by have := b2 g e; omega⟩) gr9
  have hne : v2.ownBlock ≠ v1'.ownBlock ∨ v2.ownBlock = none := by
    cases e : v2.ownBlock with
    | none => exact .inr rfl
    | some g =>
      refine .inl fun e3 => ?_
      rcases or8 with h | h
      · rw [h] at e3; exact (g1 g e3.symm).2 e
      · rw [h] at e3; injection e3 with e3; have := b2 g e; omega
  refine ⟨_, H9, fun g e => ⟨?_, fun e3 => ?_⟩, fun g e => ?_, fun g hg => .inl (.inl hg), (Owns.alloc h1' o2).kept gr9 hne, ?_⟩
  · rcases or8 with h | h
    · rw [h] at e; exact .inl (.inl (g1 g e).1)
    · have := b1' g e; rw [h] at e; injection e with e; exact .inl (.inr ⟨by omega, by omega⟩)
  · rcases or9 with h | h
    · rw [h] at e3
      rcases or8 with h3 | h3
      · rw [h3] at e; exact (g1 g e).2 e3
      · rw [h3] at e; injection e with e; have := b2 g e3; omega
    · rw [h] at e3; injection e3 with e3; have := b1' g e; omega
  · rcases or9 with h | h
    · rw [h] at e; exact .inl (.inl (g2 g e))
    · have := b2' g e; rw [h] at e; injection e with e; exact .inr ⟨by omega, by omega⟩
  · have ka := (Kept.refl (fun b => b < base) W).alloc o1
    have k8 := ka.trans (grown_kept gr8 (fun g e => (b1 g e).1))
    exact (k8.alloc o2).trans (grown_kept gr9 (fun g e => (b2 g e).1))
/-- a list that was kept while the other grew -/
theorem two_own {W w8 : World} {o1 : Obj} {base : Nat} {G : Nat → Prop} {v1 v2 : Value} {k2 : List Nat} (g1 : ∀ g, v1.ownBlock = some g → G g ∧ v2.ownBlock ≠ some g) (h2 : OwnU W base v2 k2) (gr8 : (W.alloc o1).grownBy w8 v1.ownBlock) : OwnU w8 base v2 k2 :=
  (Owns.alloc h2 o1).kept gr8 (own_none g1)
end Go.Proofs.YtginbellakkliaaDoor
