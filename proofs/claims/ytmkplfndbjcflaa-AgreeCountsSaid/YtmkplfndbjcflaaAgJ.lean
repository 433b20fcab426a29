/- Storing a part of a table; the tables of the four suits. -/
import Derived.Test.YtmkplfndbjcflaaAgI
namespace Go.Proofs.Ytmkplfndbjcflaa
open Go.RowKit Go.Sort Cnt

/-- values put in one after the other -/
def putAt (c : Array Value) (k : Nat) : List Value → Array Value
  | [] => c
  | v :: vs => putAt (c.setIfInBounds k v) (k + 1) vs
theorem putAt_size (vs : List Value) : ∀ (c : Array Value) (k : Nat), (putAt c k vs).size = c.size := by
  induction vs with
  | nil => intro c k; rfl
  | cons v vs ih => intro c k; show (putAt _ _ vs).size = _; rw [ih]; simp
theorem putAt_get (vs : List Value) : ∀ (c : Array Value) (k j : Nat), k + vs.length ≤ c.size → (putAt c k vs)[j]? = if k ≤ j ∧ j < k + vs.length then vs[j - k]? else c[j]? := by
  induction vs with
  | nil => intro c k j _; rw [if_neg (by simp)]; rfl
  | cons v vs ih =>
    intro c k j hl
    show (putAt _ _ vs)[j]? = _
    rw [ih _ _ _ (by simp at hl ⊢; omega)]
    simp only [List.length_cons] at hl ⊢
    by_cases h1 : j = k
    · subst h1
      rw [if_neg (by omega), if_pos (by omega), Array.getElem?_setIfInBounds, if_pos rfl, if_pos (by omega)]
      simp
    · by_cases h2 : k + 1 ≤ j ∧ j < k + 1 + vs.length
      · rw [if_pos h2, if_pos (by omega), show j - k = (j - (k + 1)) + 1 by omega]
        rfl
      · rw [if_neg h2, if_neg (by omega), Array.getElem?_setIfInBounds, if_neg (by omega)]
theorem setRow_self {w : World} {g : Nat} {t : TypeId} {cur : Array Value} {fr : Nat × Nat} (hg : w.heap[g]? = some (.cells cur t fr)) : w.setRow g cur = w := by
  have hlt : g < w.heap.size := (Array.getElem?_eq_some_iff.1 hg).1
  have hv : w.heap[g] = .cells cur t fr := (Array.getElem?_eq_some_iff.1 hg).2
  unfold World.setRow
  cases w with
  | mk heap tape drawn os output =>
    congr 1
    apply Array.ext
    · simp
    · intro k h1 h2
      simp only [Array.getElem_modify]
      split
      · rename_i hk; subst hk; simp at hv; simp [hv]
      · rfl
theorem run_storeCells_at {P : Program} (g : Nat) (t : TypeId) (off : Nat) : ∀ (vs : List Value) (i : Nat) (cur : Array Value) (w : World), w.heap[g]? = some (.cells cur t (0, 0)) → off + i + vs.length ≤ cur.size → (∀ v ∈ vs, v.oneCell' = true) →
    (storeCells ⟨g, off, none⟩ vs i).run P w = .ok () (w.setRow g (putAt cur (off + i) vs))
  | [], i, cur, w, hg, hl, _ => by
    show Result.ok () w = _
    rw [show putAt cur (off + i) [] = cur from rfl, setRow_self hg]
  | v :: rest, i, cur, w, hg, hl, h1 => by
    have hi : off + i < cur.size := by simp at hl; omega
    have hadd : (⟨g, off, none⟩ : Addr).add i = ⟨g, off + i, none⟩ := by unfold Addr.add; split <;> simp_all
    have hcell : w.cell? ⟨g, off + i, none⟩ = some cur[off + i] := by simp [World.cell?, hg, hi]
    have hfro : w.frozen? ⟨g, off + i, none⟩ = false := by simp [World.frozen?, hg]
    have hst : (store ((⟨g, off, none⟩ : Addr).add i) v).run P w = .ok () (w.setRow g (cur.setIfInBounds (off + i) v)) := by
      rw [hadd, run_store P w _ v _ (h1 v (by simp)), hcell]
      simp [hfro, setCell_eq_setRow w g (off + i) cur t (0, 0) v hg]
    have ih := run_storeCells_at (P := P) g t off rest (i + 1) (cur.setIfInBounds (off + i) v) (w.setRow g (cur.setIfInBounds (off + i) v)) (setRow_heap w g cur _ t _ hg) (by simp at hl ⊢; omega) (fun x hx => h1 x (by simp [hx]))
    simp only [storeCells, Sem.run_bind, hst, Result.andThen_ok, ih, setRow_setRow]
    rfl
section
variable {P : Program} {ops : Array Oper} {rest : List Oper} {o : Oper} {a : Act} {w : World} {Q : Exit → Act → World → Prop}
theorem wpList_store_part (hgd : o.guard = none) (ty : TypeId) (x y : Operand) (ho : o.op = .store ty x y)
    (g off : Nat) (cells : Array Value) (hx : a.eval x = .pointer (some ⟨g, off, none⟩)) (hy : a.eval y = .agg cells)
    (t : TypeId) (old : Array Value) (hg : Row w g t old) (hi : (P.info? ty).map (·.size) = some cells.size)
    (hold : off + cells.size ≤ old.size) (h1 : cells.all (·.oneCell') = true)
    (h : wpList P ops Q rest (a.put o.dst undef) (w.setRow g (putAt old off cells.toList))) : wpList P ops Q (o :: rest) a w := by
  have hs := run_storeCells_at (P := P) g t off cells.toList 0 old w hg (by simpa using hold) (fun v hv => (Array.all_eq_true_iff_forall_mem.1 h1) v (by simpa using hv))
  refine wpList_plain hgd fun K hK => ?_
  unfold Oper.wp execOp
  cases hq : P.info? ty with
  | none => simp [hq] at hi
  | some i =>
    have hz : cells.size = i.size := by simp [hq] at hi; omega
    have hv : (storeVar ty ⟨g, off, none⟩ (.agg cells)).run P w = .ok () (w.setRow g (putAt old off cells.toList)) := by
      simp [storeVar, sizeOf, typeInfo, hq, Value.cells, hz] at hs ⊢
      exact hs
    simp only [ho, hx, hy, Instr.storeAt, Instr.sureAddr, Sem.run_bind, Sem.run_pure, Result.andThen_ok, hv]
    exact hK _ _ h
end
theorem putAt_tab (n m off : Nat) (f h : Nat → Nat) (hle : off + m ≤ n) : putAt (tab n f) off (tab m h).toList = tab n (fun x => if off ≤ x ∧ x < off + m then h (x - off) else f x) := by
  apply Array.ext_getElem?
  intro j
  rw [putAt_get _ _ _ _ (by simp; omega)]
  simp only [Array.length_toList, tab_size, Array.getElem?_toList]
  by_cases hj : j < n
  · rw [tab_get n (fun x => if off ≤ x ∧ x < off + m then h (x - off) else f x) j hj]
    by_cases h1 : off ≤ j ∧ j < off + m
    · rw [if_pos h1, if_pos h1, tab_get m _ _ (by omega)]
    · rw [if_neg h1, if_neg h1, tab_get n _ j hj]
  · rw [if_neg (by omega)]
    have h1 : (tab n f)[j]? = none := by simp; omega
    have h2 : (tab n fun x => if off ≤ x ∧ x < off + m then h (x - off) else f x)[j]? = none := by simp; omega
    rw [h1, h2]
/-- the tables of the first k suits -/
def hvTo (left k : Nat) : Nat → Nat := fun x => if x < k * 154 then holdV (scards left (x / 154)) (x % 154) else 0
theorem hvTo_succ (left k : Nat) : tab 616 (fun x => if k * 154 ≤ x ∧ x < k * 154 + 154 then holdV (scards left k) (x - k * 154) else hvTo left k x) = tab 616 (hvTo left (k + 1)) := by
  refine tab_congr fun x _ => ?_
  unfold hvTo
  by_cases h1 : k * 154 ≤ x ∧ x < k * 154 + 154
  · rw [if_pos h1, if_pos (by omega), show x / 154 = k by omega, show x % 154 = x - k * 154 by omega]
  · rw [if_neg h1]
    by_cases h2 : x < k * 154
    · rw [if_pos h2, if_pos (by omega)]
    · rw [if_neg h2, if_neg (by omega)]
/-- the tables of the four suits -/
abbrev hvAll (left : Nat) : Nat → Nat := hvTo left 4
theorem hvTo_zero (left : Nat) : tab 616 (hvTo left 0) = tab 616 fun _ => 0 := tab_congr fun x _ => by unfold hvTo; rw [if_neg (by omega)]
theorem holdRow_sum (N oth s : Nat) (f : Nat → Nat) (ho : oth ≤ 9) : ∀ j, j ≤ oth + 1 → sumN N (holdRow oth s j f) ≤ sumN N f + 126 * j
  | 0, _ => by show sumN N f ≤ _; omega
  | j + 1, hj => by
    have h1 := holdRow_sum N oth s f ho j (by omega)
    have h2 := sumN_bump N (holdRow oth s j f) (spot s j) (way oth j)
    have h3 := (way_step oth j ho (by omega)).1
    show sumN N (bump _ _ _) ≤ _
    omega
theorem holdTo_sum (N hon oth : Nat) (ho : oth ≤ 9) : ∀ s, sumN N (holdTo hon oth s) ≤ 1260 * s
  | 0 => by show sumN N (fun _ => 0) ≤ _; rw [sumN_zero]; omega
  | s + 1 => by
    have h1 := holdTo_sum N hon oth ho s
    have h2 := holdRow_sum N oth s (holdTo hon oth s) ho (oth + 1) (Nat.le_refl _)
    show sumN N (if landn s hon = 0 then _ else _) ≤ _
    split <;> omega
theorem holdV_sum (N x : Nat) : sumN N (holdV x) ≤ 20160 := holdTo_sum N _ _ (pop_low ⟨_, land_low x⟩) 16
theorem sumN_part (f : Nat → Nat) (b m : Nat) : sumN m (fun q => f (b + q)) ≤ sumN (b + m) f := by
  induction m with
  | zero => exact Nat.zero_le _
  | succ m ih => show sumN m _ + f (b + m) ≤ sumN (b + m) f + f (b + m); omega
theorem suitRow_sum (left i len : Nat) (hi : i < 4) (hl : len ≤ 13) : sumN 11 (suitRow (hvAll left) i len) ≤ 20160 := by
  have h : sumN 11 (suitRow (hvAll left) i len) = sumN 11 (fun q => holdV (scards left i) (len * 11 + q)) := sumN_congr fun q hq => by
    unfold suitRow hvAll hvTo
    rw [if_pos (by omega), show (i * 154 + len * 11 + q) / 154 = i by omega, show (i * 154 + len * 11 + q) % 154 = len * 11 + q by omega]
  rw [h]
  exact Nat.le_trans (sumN_part (holdV (scards left i)) (len * 11) 11) (holdV_sum _ _)
end Go.Proofs.Ytmkplfndbjcflaa
