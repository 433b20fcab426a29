/- Slices of words that the call owns. -/
import Derived.Test.YtikdkhiehfccpaaApl
namespace Go.Proofs.Ytikdkhiehfccpaa
open Go.RowKit Go.Sort

abbrev encQ (z : Nat) : List Value := [.int .u64 (z : Int)]
/-- a slice that owns words -/
abbrev OwnQ (w : World) (base : Nat) (v : Value) (zs : List Nat) : Prop := Owns encQ 1 22 w base v zs
theorem encQ_len (z : Nat) : (encQ z).length = 1 := rfl
theorem info_u64 : (Try.prog.info? 22).map (fun i => (i.zero, i.size, i.bytes)) = some (some (.int .u64 0), 1, 8) := by kernel_rfl
theorem encQ_one (x : Nat) : ∀ u ∈ encQ x, u.oneCell' = true := by
  intro u hu
  obtain rfl : u = .int .u64 (x : Int) := by simpa using hu
  rfl
theorem ownQ_nil (w : World) (base : Nat) : OwnQ w base (.slice none 0 0) [] := Owns.nil encQ_len w base
theorem ownQ_new (w : World) (base z : Nat) (h : base ≤ w.heap.size) : OwnQ (w.alloc (.cells #[.int .u64 (z : Int)] 22)) base (.slice (some ⟨w.heap.size, 0, none⟩) 1 1) [z] :=
  ⟨encQ_len, rfl, .inr ⟨w.heap.size, 1, _, rfl, h, World.alloc_heap_new w _, Nat.le_refl _, by unfold maxLen; omega, rfl, rfl⟩⟩
theorem ownQ_at {w : World} {base g n cap : Nat} {l : List Nat} (h : OwnQ w base (.slice (some ⟨g, 0, none⟩) n cap) l) {k : Nat} (hk : k < l.length) : w.cell? ⟨g, k, none⟩ = some (.int .u64 ((l.getD k 0 : Nat) : Int)) := by
  have h1 := Owns.cell h k 0 (by omega) (List.getElem?_eq_getElem hk)
  rw [Nat.mul_one, Nat.add_zero] at h1
  rw [h1, List.getD_eq_getElem?_getD, List.getElem?_eq_getElem hk]; rfl
/-- append(v, x), x one word in a new block -/
theorem appQ {w : World} {ops : Array Oper} {rest : List Oper} {o : Oper} {a : Act} {Q : Exit → Act → World → Prop} (hgd : o.guard = none) (s x : Operand)
    (ho : o.op = .call { callee := .builtin .append, args := #[s, x], argTypes := #[59, 59] })
    (base : Nat) (v : Value) (zs : List Nat) (z : Nat) (hs : a.eval s = v) (w0 : World) (hw : w = w0.alloc (.cells #[.int .u64 (z : Int)] 22)) (hx : a.eval x = .slice (some ⟨w0.heap.size, 0, none⟩) 1 1) (hown : OwnQ w0 base v zs)
    (hbytes : zs.length ≤ 10000000) (hbase : base ≤ w0.heap.size)
    (h : ∀ v' w', OwnQ w' base v' (zs ++ [z]) → OwnQ w' base v zs → w0.grownBy w' v.ownBlock → Below base w0 w' → wpList Try.prog ops Q rest (a.put o.dst v') w') : wpList Try.prog ops Q (o :: rest) a w := by
  subst hw
  refine appEO hgd s x 59 ho Try.underlying59 (.int .u64 0) 8 info_u64 (by decide) rfl (by decide) encQ_one base v zs [z] hs (hown.alloc _) _ 1 1 hx rfl (by decide) (one_new w0 z _ rfl _) (by omega) (by simp; omega) ?_
  intro v' w' h1 h2 h3 _
  have hg : w0.grownBy w' v.ownBlock := grownBy_trans (grownBy_alloc' ⟨rfl, rfl, rfl, Nat.le_refl _, fun _ _ _ => rfl⟩ _) h3
  exact h v' w' h1 h2 hg ((Below.refl _ _).grown hg hbase (fun k hk => (World.ownsRow.lt hown.2 k hk).1))
/-- what the cells of a block say -/
def CellsQ (w : World) (g : Nat) (l : List Nat) : Prop := g < w.heap.size ∧ ∀ k, k < l.length → w.cell? ⟨g, k, none⟩ = some (.int .u64 ((l.getD k 0 : Nat) : Int))
theorem CellsQ.of {w : World} {base g n cap : Nat} {l : List Nat} (h : OwnQ w base (.slice (some ⟨g, 0, none⟩) n cap) l) : CellsQ w g l := by
  refine ⟨?_, fun k hk => ownQ_at h hk⟩
  rcases h.form with ⟨h, _⟩ | ⟨g', cap', h, _, hlt, _⟩
  · cases h
  · simp only [Value.slice.injEq, Option.some.injEq, Addr.mk.injEq, and_true] at h
    rw [h.1]; exact hlt
theorem CellsQ.below {w w' : World} {g B : Nat} {l : List Nat} (h : CellsQ w g l) (hB : g < B) (hb : Below B w w') : CellsQ w' g l :=
  ⟨Nat.lt_of_lt_of_le h.1 hb.size, fun k hk => (hb.cell (p := ⟨g, k, none⟩) hB).trans (h.2 k hk)⟩
theorem CellsQ.later {w w' : World} {g : Nat} {l : List Nat} (h : CellsQ w g l) (hb : Below w.heap.size w w') : CellsQ w' g l := h.below h.1 hb
theorem CellsQ.set {w : World} {g b : Nat} {l : List Nat} (h : CellsQ w g l) (hne : b ≠ g) (i : Nat) (v : Value) : CellsQ (w.setCell ⟨b, i, none⟩ v) g l :=
  ⟨by simpa [World.setCell] using h.1, fun k hk => by
    rw [← h.2 k hk]
    simp only [World.cell?, Below.heap_setCell w ⟨b, i, none⟩ v g (by simpa using fun e : g = b => hne e.symm)]⟩
/-- the beginning of what grows is as it was -/
theorem CellsQ.grown {w w' : World} {base g : Nat} {l m : List Nat} {v : Value} (h : CellsQ w g l) (hg : w.grownBy w' v.ownBlock) (hv : OwnQ w' base v (l ++ m)) : CellsQ w' g l := by
  refine ⟨Nat.lt_of_lt_of_le h.1 hg.size, fun k hk => ?_⟩
  by_cases e : v.ownBlock = some g
  · rcases hv.form with ⟨rfl, _⟩ | ⟨g', cap', rfl, _⟩
    · cases e
    · obtain rfl : g' = g := by simpa [Value.ownBlock] using e
      have := ownQ_at hv (k := k) (by rw [List.length_append]; omega)
      rw [this]
      simp only [List.getD_eq_getElem?_getD, List.getElem?_append_left hk]
  · rw [← h.2 k hk]
    have := hg.block g h.1 (fun e2 => e e2.symm)
    simp only [World.cell?, this]
end Go.Proofs.Ytikdkhiehfccpaa
