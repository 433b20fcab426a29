/- Slices of structs of several cells: an owned row as a list of elements. No program in sight. -/
import Derived.WalkKit
import Derived.OwnWalk
import Derived.Laws.OwnMore
import Derived.Laws.AppendOwn
import Derived.Maps.AppendAt
import Derived.Lib.Hide
import Derived.RangeFuncBox
namespace Go.Proofs.YtgnlmodaekfhfaaDoor
open Go.RowKit

section
variable {α : Type} {enc : α → List Value} {m : Nat}
theorem flat_len (h : ∀ x, (enc x).length = m) (l : List α) : (l.flatMap enc).length = l.length * m := by
  induction l with
  | nil => simp
  | cons x l ih => rw [List.flatMap_cons, List.length_append, ih, h, List.length_cons, Nat.succ_mul]; omega
theorem flat_at (h : ∀ x, (enc x).length = m) (l : List α) (k j : Nat) (hj : j < m) {x : α} (hx : l[k]? = some x) : (l.flatMap enc)[k * m + j]? = (enc x)[j]? := by
  induction l generalizing k with
  | nil => simp at hx
  | cons y l ih =>
    cases k with
    | zero =>
      simp only [List.getElem?_cons_zero, Option.some.injEq] at hx
      subst hx
      rw [List.flatMap_cons, List.getElem?_append_left (by rw [h]; omega)]
      simp
    | succ k =>
      rw [List.flatMap_cons, List.getElem?_append_right (by rw [h, Nat.succ_mul]; omega)]
      have e : (k + 1) * m + j - (enc y).length = k * m + j := by rw [h, Nat.succ_mul]; omega
      rw [e]
      exact ih k (by simpa using hx)
theorem flat_set (h : ∀ x, (enc x).length = m) (l : List α) (k j : Nat) (hj : j < m) {x y : α} {v : Value} (hx : l[k]? = some x) (hy : enc y = (enc x).set j v) :
    (l.flatMap enc).set (k * m + j) v = (l.set k y).flatMap enc := by
  induction l generalizing k with
  | nil => simp at hx
  | cons z l ih =>
    cases k with
    | zero =>
      simp only [List.getElem?_cons_zero, Option.some.injEq] at hx
      subst hx
      rw [List.flatMap_cons, List.set_append_left _ _ (by rw [h]; omega)]
      simp [hy]
    | succ k =>
      rw [List.flatMap_cons, List.set_append_right _ _ (by rw [h, Nat.succ_mul]; omega)]
      have e : (k + 1) * m + j - (enc z).length = k * m + j := by rw [h, Nat.succ_mul]; omega
      rw [e, List.set_cons_succ, List.flatMap_cons]
      rw [ih k (by simpa using hx)]
end

/-- a slice value that owns a list of elements -/
def Owns {α : Type} (enc : α → List Value) (m : Nat) (T : TypeId) (w : World) (base : Nat) (v : Value) (l : List α) : Prop := (∀ x, (enc x).length = m) ∧ w.ownsRow base T m v l.length (l.flatMap enc)
section
variable {α : Type} {enc : α → List Value} {m : Nat} {T : TypeId} {w : World} {base : Nat} {v : Value} {l : List α}
theorem Owns.nil (h : ∀ x, (enc x).length = m) (w : World) (base : Nat) : Owns enc m T w base (.slice none 0 0) ([] : List α) := ⟨h, World.ownsRow_nil _ _ _ _⟩
theorem Owns.len (h : Owns enc m T w base v l) : ∀ x, (enc x).length = m := h.1
/-- it is nil and empty, or lies in a block -/
theorem Owns.form (h : Owns enc m T w base v l) : (v = .slice none 0 0 ∧ l = []) ∨ ∃ g cap, v = .slice (some ⟨g, 0, none⟩) l.length cap ∧ base ≤ g ∧ g < w.heap.size ∧ l.length ≤ cap ∧ cap ≤ maxLen := by
  rcases h.2.2 with ⟨h1, h2⟩ | ⟨g, cap, cur, h1, h2, h3, h4, h5, _, _⟩
  · exact .inl ⟨h1, List.eq_nil_of_length_eq_zero h2⟩
  · exact .inr ⟨g, cap, h1, h2, (Array.getElem?_eq_some_iff.1 h3).1, h4, h5⟩
theorem Owns.cell {g n cap : Nat} (h : Owns enc m T w base (.slice (some ⟨g, 0, none⟩) n cap) l) (k j : Nat) (hj : j < m) {x : α} (hx : l[k]? = some x) : w.cell? ⟨g, k * m + j, none⟩ = (enc x)[j]? := by
  obtain ⟨h1, h2⟩ := h
  have hk : k < l.length := (List.getElem?_eq_some_iff.1 hx).1
  have hn : n = l.length := by
    rcases h2.2 with ⟨h', _⟩ | ⟨g', cap', cur, h', _⟩
    · cases h'
    · injection h'
  rw [hn] at h2
  have hkm : k * m + j < l.length * m := by
    have := Nat.mul_le_mul_right m (show k + 1 ≤ l.length by omega)
    rw [Nat.succ_mul] at this; omega
  rw [World.ownsRow.cellAt h2 _ hkm, flat_at h1 l k j hj hx]
theorem Owns.frozen {g n cap : Nat} (h : Owns enc m T w base (.slice (some ⟨g, 0, none⟩) n cap) l) (j : Nat) : w.frozen? ⟨g, j, none⟩ = false := by
  obtain ⟨h1, h2⟩ := h
  have hn : n = l.length := by
    rcases h2.2 with ⟨h', _⟩ | ⟨g', cap', cur, h', _⟩
    · cases h'
    · injection h'
  rw [hn] at h2
  exact World.ownsRow.frozenAt h2 j
theorem Owns.stored {g n cap : Nat} (h : Owns enc m T w base (.slice (some ⟨g, 0, none⟩) n cap) l) (k j : Nat) (hj : j < m) {x y : α} {u : Value} (hx : l[k]? = some x) (hy : enc y = (enc x).set j u) :
    Owns enc m T (w.setCell ⟨g, k * m + j, none⟩ u) base (.slice (some ⟨g, 0, none⟩) n cap) (l.set k y) ∧ w.grownBy (w.setCell ⟨g, k * m + j, none⟩ u) (some g) := by
  obtain ⟨h1, h2⟩ := h
  have hn : n = l.length := by
    rcases h2.2 with ⟨h', _⟩ | ⟨g', cap', cur, h', _⟩
    · cases h'
    · injection h'
  rw [hn] at h2 ⊢
  obtain ⟨h3, h4⟩ := World.ownsRow.stored h2 (k * m + j) u
  refine ⟨⟨h1, ?_⟩, h4⟩
  rw [List.length_set, ← flat_set h1 l k j hj hx hy]
  exact h3
theorem Owns.slice (h : Owns enc m T w base v l) : ∃ a cap, v = .slice a l.length cap ∧ (l ≠ [] → ∃ g, a = some ⟨g, 0, none⟩) := by
  rcases h.form with ⟨rfl, rfl⟩ | ⟨g, cap, rfl, _⟩
  · exact ⟨none, 0, rfl, fun h => absurd rfl h⟩
  · exact ⟨_, cap, rfl, fun _ => ⟨g, rfl⟩⟩
theorem Owns.alloc (h : Owns enc m T w base v l) (o : Obj) : Owns enc m T (w.alloc o) base v l := ⟨h.1, h.2.alloc o⟩
theorem Owns.drew (h : Owns enc m T w base v l) : Owns enc m T w.drew base v l := ⟨h.1, h.2.drew⟩
theorem Owns.kept {w' : World} {row : Option Nat} (h : Owns enc m T w base v l) (hg : w.grownBy w' row) (hne : row ≠ v.ownBlock ∨ row = none) : Owns enc m T w' base v l := by
  obtain ⟨h1, h2, h3⟩ := h
  refine ⟨h1, h2, ?_⟩
  rcases h3 with h3 | ⟨g, cap, cur, e, h4, h5, h6⟩
  · exact .inl h3
  · refine .inr ⟨g, cap, cur, e, h4, ?_, h6⟩
    rw [hg.block g (Array.getElem?_eq_some_iff.1 h5).1 (fun e' => ?_)]
    · exact h5
    · subst e
      rcases hne with hne | hne
      · exact hne e'.symm
      · rw [hne] at e'; cases e'
theorem Owns.below {w' : World} (h : Owns enc m T w base v l) (hb : Below w.heap.size w w') : Owns enc m T w' base v l :=
  h.kept (row := none) ⟨hb.os, hb.tape, hb.output, hb.size, fun k hk _ => hb.block k hk⟩ (.inr rfl)
theorem Owns.mono {base' : Nat} (h : Owns enc m T w base v l) (hb : base' ≤ base) : Owns enc m T w base' v l := by
  obtain ⟨h1, h2, h3⟩ := h
  refine ⟨h1, h2, ?_⟩
  rcases h3 with h3 | ⟨g, cap, cur, e, h4, h5⟩
  · exact .inl h3
  · exact .inr ⟨g, cap, cur, e, Nat.le_trans hb h4, h5⟩
end
/-- a new block's cells -/
theorem cells_new (W : World) (c : List Value) (T : TypeId) : ∀ j u, c[j]? = some u → (W.alloc (.cells c.toArray T)).cell? ((⟨W.heap.size, 0, none⟩ : Addr).add j) = some u := by
  intro j u hj
  have h := World.alloc_heap_new W (.cells c.toArray T)
  have e : (⟨W.heap.size, 0, none⟩ : Addr).add j = ⟨W.heap.size, j, none⟩ := by
    unfold Addr.add
    split
    · rename_i h0; rw [h0]
    · simp
  rw [e]
  simp only [World.cell?, h]
  simpa using hj
/-- grown, and grown again -/
theorem grownBy_trans {a b c : World} {row : Option Nat} (h : a.grownBy b row) (k : b.grownBy c row) : a.grownBy c row :=
  ⟨k.os.trans h.os, k.tape.trans h.tape, k.output.trans h.output, Nat.le_trans h.size k.size, fun i hi hne => (k.block i (Nat.lt_of_lt_of_le hi h.size) hne).trans (h.block i hi hne)⟩
theorem grownBy_alloc' {a w : World} {row : Option Nat} (h : a.grownBy w row) (o : Obj) : a.grownBy (w.alloc o) row :=
  ⟨h.os, h.tape, h.output, Nat.le_trans h.size (by simp), fun i hi hne => (Below.heap_alloc w o i (Nat.lt_of_lt_of_le hi h.size)).trans (h.block i hi hne)⟩
theorem grownBy_drew {a w : World} {row : Option Nat} (h : a.grownBy w row) : a.grownBy w.drew row := ⟨h.os, h.tape, h.output, h.size, h.block⟩
theorem grownBy_set {a w : World} {g : Nat} (h : a.grownBy w (some g)) {p : Addr} (hp : p.block = g ∨ a.heap.size ≤ p.block) (u : Value) : a.grownBy (w.setCell p u) (some g) :=
  ⟨h.os, h.tape, h.output, by simpa [World.setCell] using h.size, fun i hi hne => (Below.heap_setCell w p u i (by
    rintro rfl
    rcases hp with hp | hp
    · exact hne (by rw [hp])
    · omega)).trans (h.block i hi hne)⟩
theorem grownBy_below {a w : World} (h : Below a.heap.size a w) (row : Option Nat) : a.grownBy w row := ⟨h.os, h.tape, h.output, h.size, fun i hi _ => h.block i hi⟩
theorem grownBy_then {a b c : World} {row : Option Nat} (h : a.grownBy b row) (k : Below b.heap.size b c) : a.grownBy c row := grownBy_trans h (grownBy_below k row)
end Go.Proofs.YtgnlmodaekfhfaaDoor
