/- Blocks known whole; arrays of integers by a function. No program in sight. -/
import Derived.Test.YtpobcaopfeddgaaDoorQTail
import Derived.Laws.Rows
import Derived.Laws.Tables
namespace Go.Proofs.YtpobcaopfeddgaaDoor
open Go.RowKit

/-- a block known whole -/
def Row (W : World) (B : Nat) (t : TypeId) (c : Array Value) : Prop := W.heap[B]? = some (.cells c t (0, 0))
theorem Row.lt {W : World} {B : Nat} {t : TypeId} {c : Array Value} (h : Row W B t c) : B < W.heap.size := (Array.getElem?_eq_some_iff.1 h).1
theorem Row.cell {W : World} {B : Nat} {t : TypeId} {c : Array Value} (h : Row W B t c) (i : Nat) : W.cell? ⟨B, i, none⟩ = c[i]? := by
  simp [World.cell?, show W.heap[B]? = _ from h]
theorem Row.frozen {W : World} {B : Nat} {t : TypeId} {c : Array Value} (h : Row W B t c) (i : Nat) : W.frozen? ⟨B, i, none⟩ = false := by
  simp [World.frozen?, show W.heap[B]? = _ from h]
theorem Row.new (W : World) (t : TypeId) (c : Array Value) : Row (W.alloc (.cells c t)) W.heap.size t c := heap_alloc_new W _
theorem Row.new1 (W : World) (A : Obj) (t : TypeId) (c : Array Value) : Row ((W.alloc A).alloc (.cells c t)) (W.heap.size + 1) t c := by
  have := Row.new (W.alloc A) t c
  rwa [World.size_alloc] at this
theorem Row.new2 (W : World) (A B : Obj) (t : TypeId) (c : Array Value) : Row (((W.alloc A).alloc B).alloc (.cells c t)) (W.heap.size + 1 + 1) t c := by
  have := Row.new ((W.alloc A).alloc B) t c
  rwa [World.size_alloc, World.size_alloc] at this
theorem Row.new3 (W : World) (A B C : Obj) (t : TypeId) (c : Array Value) : Row ((((W.alloc A).alloc B).alloc C).alloc (.cells c t)) (W.heap.size + 1 + 1 + 1) t c := by
  have := Row.new (((W.alloc A).alloc B).alloc C) t c
  rwa [World.size_alloc, World.size_alloc, World.size_alloc] at this
theorem Row.same {W W' : World} {B : Nat} {t : TypeId} {c : Array Value} (h : Row W B t c) (e : W'.heap[B]? = W.heap[B]?) : Row W' B t c := e.trans h
theorem Row.below {W W' : World} {B n : Nat} {t : TypeId} {c : Array Value} (h : Row W B t c) (hn : B < n) (hb : Below n W W') : Row W' B t c := h.same (hb.block B hn)
theorem Row.later {W W' : World} {B : Nat} {t : TypeId} {c : Array Value} (h : Row W B t c) (hb : Below W.heap.size W W') : Row W' B t c := h.below h.lt hb
theorem Row.alloc {W : World} {B : Nat} {t : TypeId} {c : Array Value} (h : Row W B t c) (o : Obj) : Row (W.alloc o) B t c := h.same (Below.heap_alloc W o B h.lt)
theorem Row.set {W : World} {B : Nat} {t : TypeId} {c : Array Value} (h : Row W B t c) (i : Nat) (v : Value) : Row (W.setCell ⟨B, i, none⟩ v) B t (c.setIfInBounds i v) := by
  unfold Row World.setCell
  rw [Array.getElem?_modify]
  simp [show W.heap[B]? = _ from h]
theorem Row.other {W : World} {B B' i : Nat} {t : TypeId} {c : Array Value} {v : Value} (h : Row W B t c) (hne : B ≠ B') : Row (W.setCell ⟨B', i, none⟩ v) B t c := by
  refine h.same ?_
  unfold World.setCell
  rw [Array.getElem?_modify, if_neg (fun e => hne e.symm)]

/-- integers by their place -/
def tab (n : Nat) (f : Nat → Nat) : Array Value := ((List.range n).map fun i => Value.int .i64 ((f i : Nat) : Int)).toArray
@[simp] theorem tab_size (n : Nat) (f : Nat → Nat) : (tab n f).size = n := by simp [tab]
theorem tab_get (n : Nat) (f : Nat → Nat) (i : Nat) (h : i < n) : (tab n f)[i]? = some (.int .i64 ((f i : Nat) : Int)) := by
  simp [tab, List.getElem?_range h]
theorem tab_congr {n : Nat} {f g : Nat → Nat} (h : ∀ i, i < n → f i = g i) : tab n f = tab n g := by
  unfold tab
  congr 1
  refine List.map_congr_left fun i hi => ?_
  rw [h i (List.mem_range.1 hi)]
/-- one place more -/
def bump (f : Nat → Nat) (i v : Nat) : Nat → Nat := fun j => if j = i then f j + v else f j
theorem tab_set (n : Nat) (f : Nat → Nat) (i v : Nat) : (tab n f).setIfInBounds i (.int .i64 ((f i + v : Nat) : Int)) = tab n (bump f i v) := by
  apply Array.ext_getElem?
  intro j
  rw [Array.getElem?_setIfInBounds]
  by_cases hj : j < n
  · rw [tab_get n (bump f i v) j hj]
    by_cases e : i = j
    · subst e
      simp [bump, hj]
    · have e' : ¬ j = i := fun h => e h.symm
      rw [if_neg e, tab_get n f j hj]
      simp [bump, e']
  · have h1 : (tab n f)[j]? = none := by simp; omega
    have h2 : (tab n (bump f i v))[j]? = none := by simp; omega
    rw [h1, h2]
    by_cases e : i = j
    · subst e
      simp [hj]
    · simp [e]
theorem tab_one (n : Nat) (f : Nat → Nat) : (tab n f).all (·.oneCell') = true := by
  rw [Array.all_eq_true_iff_forall_mem]
  intro v hv
  unfold tab at hv
  simp at hv
  obtain ⟨i, _, rfl⟩ := hv
  rfl
/-- truth values by their place -/
def tabB (n : Nat) (f : Nat → Bool) : Array Value := ((List.range n).map fun i => Value.bool (f i)).toArray
@[simp] theorem tabB_size (n : Nat) (f : Nat → Bool) : (tabB n f).size = n := by simp [tabB]
theorem tabB_get (n : Nat) (f : Nat → Bool) (i : Nat) (h : i < n) : (tabB n f)[i]? = some (.bool (f i)) := by
  simp [tabB, List.getElem?_range h]
def turnB (f : Nat → Bool) (i : Nat) (v : Bool) : Nat → Bool := fun j => if j = i then v else f j
theorem tabB_set (n : Nat) (f : Nat → Bool) (i : Nat) (v : Bool) : (tabB n f).setIfInBounds i (.bool v) = tabB n (turnB f i v) := by
  apply Array.ext_getElem?
  intro j
  rw [Array.getElem?_setIfInBounds]
  by_cases hj : j < n
  · rw [tabB_get n (turnB f i v) j hj]
    by_cases e : i = j
    · subst e
      simp [turnB, hj]
    · have e' : ¬ j = i := fun h => e h.symm
      rw [if_neg e, tabB_get n f j hj]
      simp [turnB, e']
  · have h1 : (tabB n f)[j]? = none := by simp; omega
    have h2 : (tabB n (turnB f i v))[j]? = none := by simp; omega
    rw [h1, h2]
    by_cases e : i = j
    · subst e
      simp [hj]
    · simp [e]
theorem tabB_one (n : Nat) (f : Nat → Bool) : (tabB n f).all (·.oneCell') = true := by
  rw [Array.all_eq_true_iff_forall_mem]
  intro v hv
  unfold tabB at hv
  simp at hv
  obtain ⟨i, _, rfl⟩ := hv
  rfl
end Go.Proofs.YtpobcaopfeddgaaDoor
