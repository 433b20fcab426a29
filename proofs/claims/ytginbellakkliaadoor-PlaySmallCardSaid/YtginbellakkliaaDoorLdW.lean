/- Regions that draw their order: one block made and one store into it; a row read (DmW, DmQ over Mem's Row). No program in sight. -/
import Derived.Test.YtginbellakkliaaDoorMRel
import Derived.Test.YtginbellakkliaaDoorMem
import Derived.Laws.CopyOwn
import Derived.Laws.Tables
import Derived.BigQuiet
import Derived.Deep.QuietTactic
namespace Go.Proofs.YtginbellakkliaaDoor
open Go.RowKit Go.Sort

theorem Row.later {W W' : World} {B : Nat} {t : TypeId} {c : Array Value} (h : Row W B t c) (hb : Below W.heap.size W W') : Row W' B t c := h.below h.lt hb
section
variable {P : Program} {o : Oper} {ρ : Operand → Value} {w : World}
theorem exec_load_row (ty : TypeId) (x : Operand) (ho : o.op = .load ty x) (g : Nat) (hx : ρ x = .pointer (some ⟨g, 0, none⟩)) {t : TypeId} {cs : Array Value} {d : TypeDesc} (hg : Row w g t cs)
    (hu : P.underlying ty = some d) (hd : (match d with | .struct _ | .array _ _ => true | _ => false) = true) (hi : (P.info? ty).map (·.size) = some cs.size) : (execOp ρ o).run P w = .ok (.value (.agg cs)) w := by
  unfold execOp
  simp only [ho, hx, Instr.loadAt, Instr.sureAddr, Sem.run_bind, Sem.run_pure, Result.andThen_ok, run_loadVar_row w g t ty cs (0, 0) d hg hu hd hi]
theorem exec_store_row (ty : TypeId) (x y : Operand) (ho : o.op = .store ty x y) (g : Nat) (cells : Array Value) (hx : ρ x = .pointer (some ⟨g, 0, none⟩)) (hy : ρ y = .agg cells)
    {t : TypeId} {old : Array Value} (hg : Row w g t old) (hi : (P.info? ty).map (·.size) = some cells.size) (hold : old.size = cells.size) (h1 : cells.all (·.oneCell') = true) : (execOp ρ o).run P w = .ok .skip (w.setRow g cells) := by
  unfold execOp
  simp only [ho, hx, hy, Instr.storeAt, Instr.sureAddr, Sem.run_bind, Sem.run_pure, Result.andThen_ok, run_storeVar_row w g t ty old cells hg hi hold h1]
theorem ok_skip {w' : World} {R : Value → World → Prop} (h : (execOp ρ o).run P w = .ok .skip w') (hr : R undef w') : OpOk P o ρ w R := by
  unfold OpOk; rw [h]; exact hr
end
theorem Done.same (f : Done) (i : Nat) (v : Value) : f.set i v i = some v := by unfold Done.set; rw [if_pos rfl]
theorem Done.other (f : Done) {i j : Nat} (v : Value) (h : j ≠ i) : f.set i v j = f j := by unfold Done.set; rw [if_neg h]
/-- operation a makes a block (zeros z), operation s lays cs into it; all other values are those of the list; H holds of the world and lasts -/
structure FA (vals : List Value) (a s : Nat) (ty : TypeId) (z cs : Array Value) (B : Nat) (H : World → Prop) (f : Done) (W : World) : Prop where
  st : H W
  blk : ∀ v, f a = some v → ∃ b, B ≤ b ∧ v = .pointer (some ⟨b, 0, none⟩) ∧ Row W b ty (if (f s).isSome then cs else z)
  val : ∀ j v x, j ≠ a → f j = some v → vals[j]? = some x → v = x
variable {vals : List Value} {a s : Nat} {ty : TypeId} {z cs : Array Value} {B : Nat} {H : World → Prop} {f : Done} {W W' : World}
theorem FA.start (h : H W) : FA vals a s ty z cs B H (fun _ => none) W := ⟨h, (fun _ h => by cases h), fun _ _ _ _ h => by cases h⟩
theorem FA.pure (h : FA vals a s ty z cs B H f W) (i : Nat) (v : Value) (hi : i ≠ s) (ha : i ≠ a) (hv : vals[i]? = some v) (hW : H W → H W') (hb : Below W.heap.size W W') : FA vals a s ty z cs B H (f.set i v) W' := by
  refine ⟨hW h.st, fun u hu => ?_, fun j u x hja hj hx => ?_⟩
  · rw [Done.other f v ha.symm] at hu
    obtain ⟨b, h1, h2, h3⟩ := h.blk u hu
    rw [Done.other f v hi.symm]
    exact ⟨b, h1, h2, h3.later hb⟩
  · by_cases e : j = i
    · subst e
      rw [Done.same] at hj
      rw [hv] at hx
      exact (Option.some.inj hj).symm.trans (Option.some.inj hx)
    · rw [Done.other f v e] at hj
      exact h.val j u x hja hj hx
theorem FA.made (h : FA vals a s ty z cs B H f W) (b : Nat) (hbB : B ≤ b) (has : a ≠ s) (hs : f s = none) (hr : Row W' b ty z) (hW : H W') : FA vals a s ty z cs B H (f.set a (.pointer (some ⟨b, 0, none⟩))) W' := by
  refine ⟨hW, fun u hu => ?_, fun j u x hja hj hx => ?_⟩
  · rw [Done.same] at hu
    rw [Done.other f _ has.symm, hs]
    exact ⟨b, hbB, (Option.some.inj hu).symm, hr⟩
  · rw [Done.other f _ hja] at hj
    exact h.val j u x hja hj hx
theorem FA.store (h : FA vals a s ty z cs B H f W) (v : Value) {b : Nat} (has : a ≠ s) (hv : vals[s]? = some v) (hfa : f a = some (.pointer (some ⟨b, 0, none⟩))) (hr : Row W' b ty cs) (hbB : B ≤ b) (hW : H W') : FA vals a s ty z cs B H (f.set s v) W' := by
  refine ⟨hW, fun u hu => ?_, fun j u x hja hj hx => ?_⟩
  · rw [Done.other f v has] at hu
    rw [hfa] at hu
    rw [Done.same]
    exact ⟨b, hbB, (Option.some.inj hu).symm, hr⟩
  · by_cases e : j = s
    · subst e
      rw [Done.same] at hj
      rw [hv] at hx
      exact (Option.some.inj hj).symm.trans (Option.some.inj hx)
    · rw [Done.other f v e] at hj
      exact h.val j u x hja hj hx
theorem exec_alloc {P : Program} {o : Oper} {ρ : Operand → Value} {w : World} (ty : TypeId) (ho : o.op = .alloc ty) {c : Array Value} (hz : ∀ w, (zeroValue ty).run P w = .ok (.agg c) w) : (execOp ρ o).run P w = .ok (.value (.pointer (some ⟨w.heap.size, 0, none⟩))) (w.alloc (.cells c ty)) := by
  unfold execOp
  simp only [ho]
  simp [hz, go_sem]
theorem exec_alloc1 {P : Program} {o : Oper} {ρ : Operand → Value} {w : World} (ty : TypeId) (ho : o.op = .alloc ty) {z : Value} (hz : ∀ w, (zeroValue ty).run P w = .ok z w) : (execOp ρ o).run P w = .ok (.value (.pointer (some ⟨w.heap.size, 0, none⟩))) (w.alloc (.cells z.cells ty)) := by
  unfold execOp
  simp only [ho]
  simp [hz, go_sem]
end Go.Proofs.YtginbellakkliaaDoor
