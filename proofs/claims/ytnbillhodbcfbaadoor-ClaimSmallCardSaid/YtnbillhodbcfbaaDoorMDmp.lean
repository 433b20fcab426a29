/- DmP, DmQ in one text. -/
import Derived.Test.YtnbillhodbcfbaaDoorMDmf
import Derived.Test.YtnbillhodbcfbaaDoorMDmu

/- A solver in memory. -/
namespace Go.Proofs.YtnbillhodbcfbaaDoor
open Go.RowKit Go.Sort Go.Shelf Go.Maps Go.WideMaps

/-- a solver at block bs, its map at block bm with at most n entries, all of them right -/
structure Slv (tr bs bm n : Nat) (W : World) : Prop where
  row : Row W bs 108 #[.int .u8 (tr : Int), .map (some bm)]
  map : ∃ D, W.ownsMap Tryd.prog 130 bndR bm n D ∧ Good tr D
theorem owns_same {W W' : World} {bm n : Nat} {D : DataW Unit} (h : W.ownsMap Tryd.prog 130 bndR bm n D) (e : W'.heap[bm]? = W.heap[bm]?) : W'.ownsMap Tryd.prog 130 bndR bm n D := by
  obtain ⟨es, clock, hb, F, hs, hD⟩ := h
  exact ⟨es, clock, e.trans hb, F, hs, hD⟩
theorem Slv.lt {tr bs bm n : Nat} {W : World} (h : Slv tr bs bm n W) : bs < W.heap.size ∧ bm < W.heap.size := by
  obtain ⟨D, hD, -⟩ := h.map
  exact ⟨h.row.lt, hD.lt⟩
theorem Slv.same {tr bs bm n : Nat} {W W' : World} (h : Slv tr bs bm n W) (h1 : W'.heap[bs]? = W.heap[bs]?) (h2 : W'.heap[bm]? = W.heap[bm]?) : Slv tr bs bm n W' := by
  obtain ⟨D, hD, hg⟩ := h.map
  exact ⟨h1.trans h.row, D, owns_same hD h2, hg⟩
theorem Slv.mono {tr bs bm n n' : Nat} {W : World} (h : Slv tr bs bm n W) (hn : n ≤ n') : Slv tr bs bm n' W := by
  obtain ⟨D, hD, hg⟩ := h.map
  exact ⟨h.row, D, hD.mono hn, hg⟩
theorem Slv.below {tr bs bm n : Nat} {W W' : World} (h : Slv tr bs bm n W) (hb : Below W.heap.size W W') : Slv tr bs bm n W' := h.same (hb.block _ h.lt.1) (hb.block _ h.lt.2)
theorem Slv.but {tr bs bm n B Bx : Nat} {W W' : World} (h : Slv tr bs bm n W) (hb : But B Bx W W') (h1 : bs < B) (h2 : bm < B) (h3 : bs ≠ Bx) (h4 : bm ≠ Bx) : Slv tr bs bm n W' := h.same (hb.same _ h1 h3) (hb.same _ h2 h4)
end Go.Proofs.YtnbillhodbcfbaaDoor

/- Regions that draw their order with fixed values, one block made and one store into it. No program in sight. -/
namespace Go.Proofs.YtnbillhodbcfbaaDoor
open Go.RowKit Go.Sort

/-- operation a makes a block (zeros z), operation s lays cs into it; all other values are those of the list; H holds of the world and lasts -/
structure FA (vals : List Value) (a s : Nat) (ty : TypeId) (z cs : Array Value) (B : Nat) (H : World → Prop) (f : Done) (W : World) : Prop where
  st : H W
  blk : ∀ v, f a = some v → ∃ b, B ≤ b ∧ v = .pointer (some ⟨b, 0, none⟩) ∧ Row W b ty (if (f s).isSome then cs else z)
  val : ∀ j v x, j ≠ a → f j = some v → vals[j]? = some x → v = x
variable {vals : List Value} {a s : Nat} {ty : TypeId} {z cs : Array Value} {B : Nat} {H : World → Prop} {f : Done} {W W' : World}
theorem FA.start (h : H W) : FA vals a s ty z cs B H (fun _ => none) W := ⟨h, (fun _ h => by cases h), fun _ _ _ _ h => by cases h⟩
theorem FA.pure (h : FA vals a s ty z cs B H f W) (i : Nat) (v : Value) (hi : i ≠ s) (ha : i ≠ a) (hv : vals[i]? = some v) (hW : H W → H W') (hb : Below W.heap.size W W') : FA vals a s ty z cs B H (f.set i v) W' := by
  refine ⟨hW h.st, fun u hu => ?_, fun j u x hja hj hx => ?_⟩
  · rw [Done.other f v ha.symm] at hu
    obtain ⟨b, h1, h2, h3⟩ := h.blk u hu
    rw [Done.other f v hi.symm]
    exact ⟨b, h1, h2, h3.later hb⟩
  · by_cases e : j = i
    · subst e
      rw [Done.same] at hj
      rw [hv] at hx
      exact (Option.some.inj hj).symm.trans (Option.some.inj hx)
    · rw [Done.other f v e] at hj
      exact h.val j u x hja hj hx
theorem FA.made (h : FA vals a s ty z cs B H f W) (b : Nat) (hbB : B ≤ b) (has : a ≠ s) (hs : f s = none) (hr : Row W' b ty z) (hW : H W') : FA vals a s ty z cs B H (f.set a (.pointer (some ⟨b, 0, none⟩))) W' := by
  refine ⟨hW, fun u hu => ?_, fun j u x hja hj hx => ?_⟩
  · rw [Done.same] at hu
    rw [Done.other f _ has.symm, hs]
    exact ⟨b, hbB, (Option.some.inj hu).symm, hr⟩
  · rw [Done.other f _ hja] at hj
    exact h.val j u x hja hj hx
theorem FA.store (h : FA vals a s ty z cs B H f W) (v : Value) {b : Nat} (has : a ≠ s) (hv : vals[s]? = some v) (hfa : f a = some (.pointer (some ⟨b, 0, none⟩))) (hr : Row W' b ty cs) (hbB : B ≤ b) (hW : H W') : FA vals a s ty z cs B H (f.set s v) W' := by
  refine ⟨hW, fun u hu => ?_, fun j u x hja hj hx => ?_⟩
  · rw [Done.other f v has] at hu
    rw [hfa] at hu
    rw [Done.same]
    exact ⟨b, hbB, (Option.some.inj hu).symm, hr⟩
  · by_cases e : j = s
    · subst e
      rw [Done.same] at hj
      rw [hv] at hx
      exact (Option.some.inj hj).symm.trans (Option.some.inj hx)
    · rw [Done.other f v e] at hj
      exact h.val j u x hja hj hx
theorem exec_alloc {P : Program} {o : Oper} {ρ : Operand → Value} {w : World} (ty : TypeId) (ho : o.op = .alloc ty) {c : Array Value} (hz : ∀ w, (zeroValue ty).run P w = .ok (.agg c) w) : (execOp ρ o).run P w = .ok (.value (.pointer (some ⟨w.heap.size, 0, none⟩))) (w.alloc (.cells c ty)) := by
  unfold execOp
  simp only [ho]
  simp [hz, go_sem]
theorem exec_alloc1 {P : Program} {o : Oper} {ρ : Operand → Value} {w : World} (ty : TypeId) (ho : o.op = .alloc ty) {z : Value} (hz : ∀ w, (zeroValue ty).run P w = .ok z w) : (execOp ρ o).run P w = .ok (.value (.pointer (some ⟨w.heap.size, 0, none⟩))) (w.alloc (.cells z.cells ty)) := by
  unfold execOp
  simp only [ho]
  simp [hz, go_sem]
end Go.Proofs.YtnbillhodbcfbaaDoor
