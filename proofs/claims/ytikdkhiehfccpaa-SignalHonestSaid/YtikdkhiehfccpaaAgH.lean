/- Whole arrays within a fence, parts of arrays; regions that draw their order within a round by their plain law. -/
import Derived.Test.YtikdkhiehfccpaaMAgf
import Derived.Test.YtikdkhiehfccpaaAgR
import Derived.Test.YtikdkhiehfccpaaRelyI
import Derived.Test.YtikdkhiehfccpaaFs
namespace Go.Proofs.Ytikdkhiehfccpaa
open Go.RowKit Go.Sort Cnt

theorem wide_fn (f : Nat) : Fence.wide.fn f = True := rfl
theorem wide_depth : Fence.wide.depth = none := rfl
attribute [go_sem] wide_fn wide_depth
section
variable {F : Fence} {n : Nat} {P : Program} {ops : Array Oper} {rest : List Oper} {o : Oper} {a : Act} {w : World} {Q : Exit → Act → World → Prop}
theorem wpList_load_row_g (hw : Region.wanted o (yielded ops a.tmps) = true) (ty : TypeId) (x : Operand) (ho : o.op = .load ty x)
    (g : Nat) (hx : a.eval x = .pointer (some ⟨g, 0, none⟩)) (t : TypeId) (cs : Array Value) (fr : Nat × Nat) (d : TypeDesc) (hg : w.heap[g]? = some (.cells cs t fr))
    (hu : P.underlying ty = some d) (hd : (match d with | .struct _ | .array _ _ => true | _ => false) = true) (hi : (P.info? ty).map (·.size) = some cs.size)
    (h : wpList P ops Q rest (a.put o.dst (.agg cs)) w) : wpList P ops Q (o :: rest) a w :=
  wpList_step fun K hK => by rw [if_pos hw]; exact wp_load_row ty x ho g hx t cs fr d hg hu hd hi (hK _ _ h)
theorem wpListIn_load_row (hgd : o.guard = none) (ty : TypeId) (x : Operand) (ho : o.op = .load ty x)
    (g : Nat) (hx : a.eval x = .pointer (some ⟨g, 0, none⟩)) (t : TypeId) (cs : Array Value) (fr : Nat × Nat) (d : TypeDesc) (hg : w.heap[g]? = some (.cells cs t fr))
    (hu : P.underlying ty = some d) (hd : (match d with | .struct _ | .array _ _ => true | _ => false) = true) (hi : (P.info? ty).map (·.size) = some cs.size)
    (h : wpListIn F n P ops Q rest (a.put o.dst (.agg cs)) w) : wpListIn F n P ops Q (o :: rest) a w := by
  refine wpListIn_plain hgd fun K hK => ⟨fun f hf => ?_, ?_⟩
  · simp [Oper.about, ho] at hf
  · rw [Oper.semAt_eq _ _ _ (by intro c hc; rw [ho] at hc; cases hc)]
    unfold execOp
    simp only [ho, hx, Instr.loadAt, Instr.sureAddr, Sem.run_bind, Sem.run_pure, Result.andThen_ok, run_loadVar_row w g t ty cs fr d hg hu hd hi]
    exact hK _ _ h
theorem wpListIn_store_row (hgd : o.guard = none) (ty : TypeId) (x y : Operand) (ho : o.op = .store ty x y)
    (g : Nat) (cells : Array Value) (hx : a.eval x = .pointer (some ⟨g, 0, none⟩)) (hy : a.eval y = .agg cells)
    (t : TypeId) (old : Array Value) (hg : w.heap[g]? = some (.cells old t (0, 0))) (hi : (P.info? ty).map (·.size) = some cells.size)
    (hold : old.size = cells.size) (h1 : cells.all (·.oneCell') = true)
    (h : wpListIn F n P ops Q rest (a.put o.dst undef) (w.setRow g cells)) : wpListIn F n P ops Q (o :: rest) a w := by
  refine wpListIn_plain hgd fun K hK => ⟨fun f hf => ?_, ?_⟩
  · simp [Oper.about, ho] at hf
  · rw [Oper.semAt_eq _ _ _ (by intro c hc; rw [ho] at hc; cases hc)]
    unfold execOp
    simp only [ho, hx, hy, Instr.storeAt, Instr.sureAddr, Sem.run_bind, Sem.run_pure, Result.andThen_ok, run_storeVar_row w g t ty old cells hg hi hold h1]
    exact hK _ _ h
end

/-- a part of a table, by value -/
theorem run_loadVar_part {P : Program} (w : World) (g : Nat) (t ty : TypeId) (n m off : Nat) (f : Nat → Nat) (d : TypeDesc) (hg : Row w g t (tab n f)) (hle : off + m ≤ n)
    (hu : P.underlying ty = some d) (hd : (match d with | .struct _ | .array _ _ => true | _ => false) = true) (hi : (P.info? ty).map (·.size) = some m) :
    (loadVar ty ⟨g, off, none⟩).run P w = .ok (.agg (tab m fun q => f (off + q))) w := by
  have hl : (loadCells ⟨g, off, none⟩ (tab m fun q => f (off + q)).toList.length).run P w = .ok (tab m fun q => f (off + q)).toList.toArray w :=
    run_loadCells_list (P := P) w ⟨g, off, none⟩ _ (fun j v hv => by
      have hadd : (⟨g, off, none⟩ : Addr).add j = ⟨g, off + j, none⟩ := by unfold Addr.add; split <;> simp_all
      have hj : j < m := by
        have := (List.getElem?_eq_some_iff.1 hv).1
        simpa using this
      rw [hadd, hg.cell, tab_get n f _ (by omega)]
      have h2 := tab_get m (fun q => f (off + q)) j hj
      simp only [Array.getElem?_toList] at hv
      rw [h2] at hv
      exact hv)
  cases hq : P.info? ty with
  | none => simp [hq] at hi
  | some i =>
    have hs : i.size = m := by simpa [hq] using hi
    have hagg : (isAgg ty).run P w = .ok true w := by
      unfold isAgg
      rw [Sem.run_bind, run_underlying hu w]
      cases d <;> simp_all
    simp only [Array.length_toList, Array.toArray_toList, tab_size] at hl
    simp [loadVar, Sem.run_bind, hagg, sizeOf, typeInfo, hq, hs, hl]

section
variable {P : Program} {o : Oper} {ρ : Operand → Value} {w : World}
theorem exec_load_row (ty : TypeId) (x : Operand) (ho : o.op = .load ty x) (g : Nat) (hx : ρ x = .pointer (some ⟨g, 0, none⟩)) {t : TypeId} {cs : Array Value} {d : TypeDesc} (hg : Row w g t cs)
    (hu : P.underlying ty = some d) (hd : (match d with | .struct _ | .array _ _ => true | _ => false) = true) (hi : (P.info? ty).map (·.size) = some cs.size) : (execOp ρ o).run P w = .ok (.value (.agg cs)) w := by
  unfold execOp
  simp only [ho, hx, Instr.loadAt, Instr.sureAddr, Sem.run_bind, Sem.run_pure, Result.andThen_ok, run_loadVar_row w g t ty cs (0, 0) d hg hu hd hi]
theorem exec_load_part (ty : TypeId) (x : Operand) (ho : o.op = .load ty x) (g off m : Nat) (hx : ρ x = .pointer (some ⟨g, off, none⟩)) {t : TypeId} {n : Nat} {f : Nat → Nat} {d : TypeDesc} (hg : Row w g t (tab n f)) (hle : off + m ≤ n)
    (hu : P.underlying ty = some d) (hd : (match d with | .struct _ | .array _ _ => true | _ => false) = true) (hi : (P.info? ty).map (·.size) = some m) : (execOp ρ o).run P w = .ok (.value (.agg (tab m fun q => f (off + q)))) w := by
  unfold execOp
  simp only [ho, hx, Instr.loadAt, Instr.sureAddr, Sem.run_bind, Sem.run_pure, Result.andThen_ok, run_loadVar_part w g t ty n m off f d hg hle hu hd hi]
theorem exec_store_row (ty : TypeId) (x y : Operand) (ho : o.op = .store ty x y) (g : Nat) (cells : Array Value) (hx : ρ x = .pointer (some ⟨g, 0, none⟩)) (hy : ρ y = .agg cells)
    {t : TypeId} {old : Array Value} (hg : Row w g t old) (hi : (P.info? ty).map (·.size) = some cells.size) (hold : old.size = cells.size) (h1 : cells.all (·.oneCell') = true) : (execOp ρ o).run P w = .ok .skip (w.setRow g cells) := by
  unfold execOp
  simp only [ho, hx, hy, Instr.storeAt, Instr.sureAddr, Sem.run_bind, Sem.run_pure, Result.andThen_ok, run_storeVar_row w g t ty old cells hg hi hold h1]
theorem exec_alloc (ty : TypeId) (ho : o.op = .alloc ty) {c : Array Value} (hz : ∀ w, (zeroValue ty).run P w = .ok (.agg c) w) : (execOp ρ o).run P w = .ok (.value (.pointer (some ⟨w.heap.size, 0, none⟩))) (w.alloc (.cells c ty)) := by
  unfold execOp
  simp only [ho]
  simp [hz, go_sem]
theorem ok_skip_fs {w' : World} {R : Value → World → Prop} (h : (execOp ρ o).run P w = .ok .skip w') (hr : R undef w') : OpOk P o ρ w R := by
  unfold OpOk; rw [h]; exact hr
end

/-- the first n lists, one behind the other -/
def listTo {α : Type} (h : Nat → List α) : Nat → List α
  | 0 => []
  | n + 1 => listTo h n ++ h n
theorem listTo_mono {α : Type} (h : Nat → List α) : ∀ m n, m ≤ n → ∃ s, listTo h n = listTo h m ++ s
  | m, 0, hm => ⟨[], by obtain rfl : m = 0 := by omega
                        simp⟩
  | m, n + 1, hm => by
    by_cases e : m = n + 1
    · subst e; exact ⟨[], by simp⟩
    · obtain ⟨s, hs⟩ := listTo_mono h m n (by omega)
      exact ⟨s ++ h n, by show listTo h n ++ h n = _; rw [hs, List.append_assoc]⟩
/-- lengths, and how many hands have each number of points -/
abbrev Cl := (Nat → Nat) × (Nat → Nat)
def upd (l : Nat → Nat) (i v : Nat) : Nat → Nat := fun j => if j = i then v else l j
/-- the holdings of a suit of one length -/
def suitRow (hv : Nat → Nat) (i len : Nat) : Nat → Nat := fun q => hv (i * 154 + len * 11 + q)
/-- the least length -/
def least (d rest : Nat) : Nat := if d = 0 then rest else 0
/-- what comes, the lengths of 4 - d suits being known -/
def cells (hv : Nat → Nat) : Nat → Nat → (Nat → Nat) → (Nat → Nat) → List Cl
  | 0, _, l, f => [(l, f)]
  | d + 1, rest, l, f => listTo (fun c => if sTo f (suitRow hv (3 - d) (least d rest + c)) 41 then cells hv d (rest - (least d rest + c)) (upd l (3 - d) (least d rest + c)) (jTo f (suitRow hv (3 - d) (least d rest + c)) 41) else []) (min rest 13 + 1 - least d rest)
/-- one length -/
def cellsAt (hv : Nat → Nat) (d rest : Nat) (l f : Nat → Nat) (len : Nat) : List Cl :=
  if sTo f (suitRow hv (3 - d) len) 41 then cells hv d (rest - len) (upd l (3 - d) len) (jTo f (suitRow hv (3 - d) len) 41) else []
/-- the first c lengths -/
def cellsTo (hv : Nat → Nat) (d rest : Nat) (l f : Nat → Nat) (c : Nat) : List Cl := listTo (fun c => cellsAt hv d rest l f (least d rest + c)) c
theorem cells_succ (hv : Nat → Nat) (d rest : Nat) (l f : Nat → Nat) : cells hv (d + 1) rest l f = cellsTo hv d rest l f (min rest 13 + 1 - least d rest) := rfl
theorem cellsTo_succ (hv : Nat → Nat) (d rest : Nat) (l f : Nat → Nat) (c : Nat) : cellsTo hv d rest l f (c + 1) = cellsTo hv d rest l f c ++ cellsAt hv d rest l f (least d rest + c) := rfl
theorem cellsTo_part {hv : Nat → Nat} {d rest : Nat} {l f : Nat → Nat} {c : Nat} (hc : c < min rest 13 + 1 - least d rest) : ∃ s, cells hv (d + 1) rest l f = cellsTo hv d rest l f c ++ (cellsAt hv d rest l f (least d rest + c) ++ s) := by
  obtain ⟨s, hs⟩ := listTo_mono (fun c => cellsAt hv d rest l f (least d rest + c)) (c + 1) _ hc
  refine ⟨s, ?_⟩
  rw [cells_succ]
  unfold cellsTo
  rw [hs, ← List.append_assoc]
  rfl
/-- a spread over i suits -/
structure Okf (f : Nat → Nat) (i : Nat) : Prop where
  top : ∀ p, 10 * i < p → f p = 0
  sum : sumN 41 f ≤ 20160 ^ i
theorem jAdd_top {f g : Nat → Nat} {i k : Nat} (hf : ∀ p, 10 * i < p → f p = 0) {a : Nat → Nat} (ha : ∀ p, 10 * (i + 1) < p → a p = 0) : ∀ m, m ≤ 11 → ∀ p, 10 * (i + 1) < p → jAdd f g k m a p = 0
  | 0, _, p, hp => ha p hp
  | m + 1, hm, p, hp => by
    have ih := jAdd_top (k := k) (g := g) hf ha m (by omega) p hp
    show bump _ _ _ p = 0
    unfold bump
    by_cases e : p = k + m
    · rw [if_pos e, ih, hf k (by omega)]; simp
    · rw [if_neg e, ih]
theorem jTo_top {f g : Nat → Nat} {i : Nat} (hf : ∀ p, 10 * i < p → f p = 0) : ∀ k p, 10 * (i + 1) < p → jTo f g k p = 0
  | 0, _, _ => rfl
  | k + 1, p, hp => jAdd_top hf (jTo_top hf k) 11 (by omega) p hp
theorem Okf.step {f g : Nat → Nat} {i : Nat} (h : Okf f i) (hg : sumN 11 g ≤ 20160) : Okf (jTo f g 41) (i + 1) :=
  ⟨jTo_top h.top 41, Nat.le_trans (jTo_sum 41 f g 41) (by rw [Nat.pow_succ]; exact Nat.mul_le_mul h.sum hg)⟩
theorem Okf.small {f g : Nat → Nat} {i : Nat} (h : Okf f i) (hi : i < 4) (hg : sumN 11 g ≤ 20160) : sumN 41 f * sumN 11 g ≤ 200000000000000000 := by
  have h1 := Nat.mul_le_mul h.sum hg
  have : 20160 ^ i * 20160 ≤ 200000000000000000 := by
    have : i = 0 ∨ i = 1 ∨ i = 2 ∨ i = 3 := by omega
    rcases this with rfl | rfl | rfl | rfl <;> decide
  omega
theorem Okf.room {f : Nat → Nat} {i : Nat} (h : Okf f i) (hi : i < 4) (p q : Nat) (hq : q < 11) (hp : f p ≠ 0) : p + q < 41 := by
  have : ¬ 10 * i < p := fun hl => hp (h.top p hl)
  omega
end Go.Proofs.Ytikdkhiehfccpaa
