/- A variable that holds a slice that grows in the rounds of a range over a function whose iterator keeps memory of its own. No program in sight. -/
import Derived.Test.YtginbellakkliaaDoorMLow
import Derived.Test.YtginbellakkliaaDoorMem
import Derived.RangeFuncBox
namespace Go.Proofs.YtginbellakkliaaDoor
open Go.RowKit

/-- block Bl holds a slice that owns l, from base on; its row is none of G -/
def Bag {α : Type} (enc : α → List Value) (m : Nat) (T Tv : TypeId) (Bl base : Nat) (G : Nat → Prop) (l : List α) (W : World) : Prop :=
  ∃ v, Row W Bl Tv #[v] ∧ Owns enc m T W base v l ∧ ∀ g, v.ownBlock = some g → ¬ G g
section
variable {α β : Type} {enc : α → List Value} {m : Nat} {T Tv : TypeId} {Bl base : Nat}
theorem stable_bag {B : Nat} (f : β → List α) (h : Bl < B) : StableG B (fun G s W => Bag enc m T Tv Bl base G (f s) W) := by
  rintro G G' s W W' ⟨v, hr, ho, hg⟩ hm h1 h2
  refine ⟨v, ?_, ?_, ?_⟩
  · rcases hm.block Bl hr.lt with h3 | ⟨h3, _⟩
    · exact hr.same h3
    · omega
  · obtain ⟨h4, h5, h6⟩ := ho
    refine ⟨h4, h5, ?_⟩
    rcases h6 with h6 | ⟨g, cap, cur, rfl, h7, h8, h9⟩
    · exact .inl h6
    · refine .inr ⟨g, cap, cur, rfl, h7, ?_, h9⟩
      rcases hm.block g (Array.getElem?_eq_some_iff.1 h8).1 with h3 | ⟨_, h3 | ⟨o, h3, h3'⟩⟩
      · exact h3.trans h8
      · exact absurd h3 (hg g rfl)
      · rw [h8] at h3; injection h3 with h3; rw [← h3] at h3'; cases h3'
  · intro g he hG'
    rcases h2 g hG' with h3 | h3
    · exact hg g he h3
    · rcases ho.form with ⟨rfl, _⟩ | ⟨g', cap, rfl, _, h4, _⟩
      · simp [Value.ownBlock] at he
      · simp [Value.ownBlock] at he; omega
theorem Bag.new (hl : ∀ x, (enc x).length = m) (W : World) : Bag enc m T Tv W.heap.size base noG ([] : List α) (W.alloc (.cells #[.slice none 0 0] Tv)) :=
  ⟨_, Row.new _ _ _, Owns.nil hl _ _, fun g he => by simp [Value.ownBlock] at he⟩
theorem Bag.alloc {G : Nat → Prop} {l : List α} {W : World} (h : Bag enc m T Tv Bl base G l W) (o : Obj) : Bag enc m T Tv Bl base G l (W.alloc o) := by
  obtain ⟨v, hr, ho, hg⟩ := h
  exact ⟨v, hr.alloc o, ho.alloc o, hg⟩
theorem Owns.putObj {W : World} {v : Value} {l : List α} (h : Owns enc m T W base v l) {D : Nat} {o : Obj} (o' : Obj) (hl : W.heap[D]? = some o) (ho : o.isCells = false) : Owns enc m T (W.putObj D o') base v l :=
  ⟨h.1, ownsRow_putObj h.2 o' hl ho⟩
/-- the row is none of another type's blocks -/
theorem not_row {W : World} {B : Nat} {t e : TypeId} {c : Array Value} (h : Row W B t c) (hte : t ≠ e) {b size k : Nat} {v : Value} {xs : List Value} (hr : W.ownsRow b e size v k xs) : v.ownBlock ≠ some B := by
  rcases hr.2 with ⟨rfl, _⟩ | ⟨g, cap, cur, rfl, _, hgb, _⟩
  · simp [Value.ownBlock]
  · intro e'
    obtain rfl : g = B := by simpa [Value.ownBlock] using e'
    have := (show W.heap[g]? = _ from h).symm.trans hgb
    simp at this
    exact hte this.2
theorem bag_appended {W w1 : World} {v v' : Value} {l : List α} {x : α} {tmp : Obj} {G S : Nat → Prop} {B n k : Nat} {ys : List Value}
    (hr : Row W Bl Tv #[v]) (ho : Owns enc m T W base v l) (hg : ∀ g, v.ownBlock = some g → ¬ G g) (hte : Tv ≠ T) (hBl : Bl < B) (hbB : B ≤ base) (hnB : n ≤ Bl)
    (hGl : ∀ b, G b → b < W.heap.size ∧ B ≤ b) (hS : ∀ b, S b → b < B) (hSl : ¬ S Bl) (hlo : ys = enc x) (hk : k = 1)
    (hown' : w1.ownsRow base T m v' (l.length + k) (l.flatMap enc ++ ys)) (hgrow : (W.alloc tmp).grownBy w1 v.ownBlock) (hloc : v'.ownBlock = v.ownBlock ∨ v'.ownBlock = some (W.alloc tmp).heap.size) :
    w1.cell? ⟨Bl, 0, none⟩ = some v ∧ w1.frozen? ⟨Bl, 0, none⟩ = false ∧ Bl < w1.heap.size ∧ Bag enc m T Tv Bl base G (l ++ [x]) (w1.setCell ⟨Bl, 0, none⟩ v') ∧ KeepsFrom B W (w1.setCell ⟨Bl, 0, none⟩ v') ∧
      (∀ b, G b → (w1.setCell ⟨Bl, 0, none⟩ v').heap[b]? = W.heap[b]?) ∧ Kept S W (w1.setCell ⟨Bl, 0, none⟩ v') ∧ Below n W (w1.setCell ⟨Bl, 0, none⟩ v') := by
  subst hlo hk
  have hvl : ∀ g, v.ownBlock = some g → base ≤ g ∧ g < W.heap.size ∧ ∃ c, W.heap[g]? = some (.cells c T (0, 0)) := by
    intro g he
    rcases ho.2.2 with ⟨rfl, _⟩ | ⟨g', cap, cur, rfl, h1, h2, _⟩
    · simp [Value.ownBlock] at he
    · obtain rfl : g' = g := by simpa [Value.ownBlock] using he
      exact ⟨h1, (Array.getElem?_eq_some_iff.1 h2).1, _, h2⟩
  have hne : v.ownBlock ≠ some Bl := not_row hr hte ho.2
  have hne' : v'.ownBlock ≠ some Bl := by
    rcases hloc with h | h
    · rw [h]; exact hne
    · rw [h]; intro e; injection e with e; have := hr.lt; simp at e; omega
  have hsz : W.heap.size + 1 ≤ w1.heap.size := by have := hgrow.size; simpa using this
  have hr1 : Row w1 Bl Tv #[v] := (hr.alloc tmp).same (hgrow.block Bl (by have := hr.lt; simp; omega) (fun e => hne e.symm))
  have hset : ∀ b, b ≠ Bl → (w1.setCell ⟨Bl, 0, none⟩ v').heap[b]? = w1.heap[b]? := fun b hb => Below.heap_setCell _ _ _ _ hb
  have hold : ∀ b, b < W.heap.size → v.ownBlock ≠ some b → b ≠ Bl → (w1.setCell ⟨Bl, 0, none⟩ v').heap[b]? = W.heap[b]? := fun b h1 h2 h3 =>
    (hset b h3).trans ((hgrow.block b (by simp; omega) (fun e => h2 e.symm)).trans (Below.heap_alloc W tmp b h1))
  have hos := hgrow.os
  have htp := hgrow.tape
  have hout := hgrow.output
  refine ⟨hr1.cell 0, hr1.frozen 0, hr1.lt, ⟨v', ?_, ⟨ho.1, ?_⟩, ?_⟩, ⟨by simp [World.setCell]; omega, fun k o hk h1 h2 => ?_⟩, fun b h1 => ?_, ⟨hos, htp, hout, by simp [World.setCell]; omega, fun b h1 h2 => ?_⟩, ⟨hos, htp, hout, by simp [World.setCell]; omega, fun b h1 => ?_⟩⟩
  · have := hr1.set 0 v'
    simpa using this
  · have h1 : w1.ownsRow base T m v' (l ++ [x]).length ((l ++ [x]).flatMap enc) := by simpa using hown'
    refine h1.kept (row := some Bl) ⟨rfl, rfl, rfl, by simp [World.setCell], fun b _ hne => hset b (fun e => hne (by rw [e]))⟩ (.inr (fun e => hne' e))
  · intro g he hG
    rcases hloc with h | h
    · exact hg g (h ▸ he) hG
    · rw [h] at he; injection he with he; have := (hGl g hG).1; simp at he; omega
  · have hkl := (Array.getElem?_eq_some_iff.1 h1).1
    rw [hold k hkl (fun e => ?_) (by omega)]
    · exact h1
    · obtain ⟨_, _, c, h3⟩ := hvl k e
      rw [h3] at h1; injection h1 with h1; rw [← h1] at h2; cases h2
  · exact hold b (hGl b h1).1 (fun e => hg b e h1) (by have := (hGl b h1).2; omega)
  · exact hold b h2 (fun e => by have h3 := (hvl b e).1; have h4 := hS b h1; omega) (fun e => hSl (e ▸ h1))
  · have := hr.lt
    exact hold b (by omega) (fun e => by have h3 := (hvl b e).1; omega) (by omega)
end
theorem row_ne {W : World} {B B' : Nat} {t t' : TypeId} {c c' : Array Value} (h : Row W B t c) (h' : Row W B' t' c') (hne : t ≠ t') : B ≠ B' := by
  rintro rfl
  have := (show W.heap[B]? = _ from h).symm.trans h'
  simp at this
  exact hne this.2
theorem Owns.keptS {α : Type} {enc : α → List Value} {m : Nat} {T : TypeId} {W W' : World} {base : Nat} {v : Value} {l : List α} {S : Nat → Prop} (h : Owns enc m T W base v l) (hs : ∀ g, v.ownBlock = some g → S g) (hk : Kept S W W') : Owns enc m T W' base v l := by
  refine ⟨h.1, h.2.1, ?_⟩
  rcases h.2.2 with h3 | ⟨g, cap, cur, rfl, h4, h5, h6⟩
  · exact .inl h3
  · exact .inr ⟨g, cap, cur, rfl, h4, (hk.block g (hs g rfl) (Array.getElem?_eq_some_iff.1 h5).1).trans h5, h6⟩
theorem Kept.putObj {S : Nat → Prop} {A B : World} (h : Kept S A B) {l : Nat} (hl : ¬ S l) (o : Obj) : Kept S A (B.putObj l o) :=
  ⟨h.os, h.tape, h.output, by simpa [World.putObj] using h.size, fun i hi hlt => (World.putObj_heap_other (fun e => by subst e; exact hl hi)).trans (h.block i hi hlt)⟩
/-- what a body of a range may do: blocks that are no cells, those of G, those of S, those below n stay -/
structure Fr (B n : Nat) (G S : Nat → Prop) (W W' : World) : Prop where
  keeps : KeepsFrom B W W'
  same : ∀ b, G b → W'.heap[b]? = W.heap[b]?
  kept : Kept S W W'
  below : Below n W W'
theorem Fr.refl (B n : Nat) (G S : Nat → Prop) (W : World) : Fr B n G S W W := ⟨KeepsFrom.refl B W, fun _ _ => rfl, Kept.refl S W, Below.refl n W⟩
theorem Fr.trans {B n : Nat} {G S : Nat → Prop} {A C D : World} (h : Fr B n G S A C) (k : Fr B n G S C D) : Fr B n G S A D :=
  ⟨⟨Nat.le_trans h.keeps.size k.keeps.size, fun i o hi ho hc => k.keeps.same i o hi (h.keeps.same i o hi ho hc) hc⟩, fun b hb => (k.same b hb).trans (h.same b hb), h.kept.trans k.kept, h.below.trans k.below⟩
theorem Fr.grown {B n : Nat} {G S : Nat → Prop} {W W' : World} {row : Option Nat} (h : W.grownBy W' row) (hn : n ≤ W.heap.size) (hG : ∀ b, G b → b < W.heap.size) (hr : ∀ g, row = some g → n ≤ g ∧ ¬ G g ∧ ¬ S g ∧ ∃ c T, W.heap[g]? = some (.cells c T (0, 0))) : Fr B n G S W W' := by
  refine ⟨⟨h.size, fun k o _ ho hc => ?_⟩, fun b hb => h.block b (hG b hb) (fun e => (hr b e.symm).2.1 hb), ⟨h.os, h.tape, h.output, h.size, fun b hb hl => h.block b hl (fun e => (hr b e.symm).2.2.1 hb)⟩, ⟨h.os, h.tape, h.output, h.size, fun b hb => h.block b (by omega) (fun e => by have := (hr b e.symm).1; omega)⟩⟩
  rw [h.block k (Array.getElem?_eq_some_iff.1 ho).1 (fun e => ?_)]
  · exact ho
  · obtain ⟨_, _, _, c, T, h3⟩ := hr k e.symm
    rw [h3] at ho; injection ho with ho; rw [← ho] at hc; cases hc
theorem Fr.of_below {B n : Nat} {G S : Nat → Prop} {W W' : World} (h : Below W.heap.size W W') (hn : n ≤ W.heap.size) (hG : ∀ b, G b → b < W.heap.size) : Fr B n G S W W' :=
  Fr.grown (row := none) (grownBy_below h none) hn hG (fun _ e => by cases e)
theorem Fr.alloc {B n : Nat} {G S : Nat → Prop} {W W' : World} (h : Fr B n G S W W') (o : Obj) (hn : n ≤ W.heap.size) (hG : ∀ b, G b → b < W.heap.size) : Fr B n G S W (W'.alloc o) :=
  h.trans (Fr.grown (row := none) (World.grownBy_alloc W' o none) (Nat.le_trans hn h.below.size) (fun b hb => Nat.lt_of_lt_of_le (hG b hb) h.below.size) (fun _ e => by cases e))
theorem Fr.drew {B n : Nat} {G S : Nat → Prop} {W W' : World} (h : Fr B n G S W W') : Fr B n G S W W'.drew :=
  ⟨⟨h.keeps.size, h.keeps.same⟩, h.same, h.kept.drew, h.below.drew⟩
/-- the block of an owned row is a row of cells -/
theorem Owns.row {α : Type} {enc : α → List Value} {m : Nat} {T : TypeId} {W : World} {base : Nat} {v : Value} {l : List α} (h : Owns enc m T W base v l) {g : Nat} (he : v.ownBlock = some g) : base ≤ g ∧ g < W.heap.size ∧ ∃ c T, W.heap[g]? = some (.cells c T (0, 0)) := by
  rcases h.2.2 with ⟨rfl, _⟩ | ⟨g', cap, cur, rfl, h1, h2, _⟩
  · simp [Value.ownBlock] at he
  · obtain rfl : g' = g := by simpa [Value.ownBlock] using he
    exact ⟨h1, (Array.getElem?_eq_some_iff.1 h2).1, _, _, h2⟩
end Go.Proofs.YtginbellakkliaaDoor
