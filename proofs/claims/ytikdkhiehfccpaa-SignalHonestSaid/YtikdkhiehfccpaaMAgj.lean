/- AgJ, AgK in one text. -/
import Derived.Test.YtikdkhiehfccpaaAgI

/- Storing a part of a table; the tables of the four suits. -/
namespace Go.Proofs.Ytikdkhiehfccpaa
open Go.RowKit Go.Sort Cnt

/-- values put in one after the other -/
def putAt (c : Array Value) (k : Nat) : List Value → Array Value
  | [] => c
  | v :: vs => putAt (c.setIfInBounds k v) (k + 1) vs
theorem putAt_size (vs : List Value) : ∀ (c : Array Value) (k : Nat), (putAt c k vs).size = c.size := by
  induction vs with
  | nil => intro c k; rfl
  | cons v vs ih => intro c k; show (putAt _ _ vs).size = _; rw [ih]; simp
theorem putAt_get (vs : List Value) : ∀ (c : Array Value) (k j : Nat), k + vs.length ≤ c.size → (putAt c k vs)[j]? = if k ≤ j ∧ j < k + vs.length then vs[j - k]? else c[j]? := by
  induction vs with
  | nil => intro c k j _; rw [if_neg (by simp)]; rfl
  | cons v vs ih =>
    intro c k j hl
    show (putAt _ _ vs)[j]? = _
    rw [ih _ _ _ (by simp at hl ⊢; omega)]
    simp only [List.length_cons] at hl ⊢
    by_cases h1 : j = k
    · subst h1
      rw [if_neg (by omega), if_pos (by omega), Array.getElem?_setIfInBounds, if_pos rfl, if_pos (by omega)]
      simp
    · by_cases h2 : k + 1 ≤ j ∧ j < k + 1 + vs.length
      · rw [if_pos h2, if_pos (by omega), show j - k = (j - (k + 1)) + 1 by omega]
        rfl
      · rw [if_neg h2, if_neg (by omega), Array.getElem?_setIfInBounds, if_neg (by omega)]
theorem setRow_self {w : World} {g : Nat} {t : TypeId} {cur : Array Value} {fr : Nat × Nat} (hg : w.heap[g]? = some (.cells cur t fr)) : w.setRow g cur = w := by
  have hlt : g < w.heap.size := (Array.getElem?_eq_some_iff.1 hg).1
  have hv : w.heap[g] = .cells cur t fr := (Array.getElem?_eq_some_iff.1 hg).2
  unfold World.setRow
  cases w with
  | mk heap tape drawn os output =>
    congr 1
    apply Array.ext
    · simp
    · intro k h1 h2
      simp only [Array.getElem_modify]
      split
      · rename_i hk; subst hk; simp at hv; simp [hv]
      · rfl
theorem run_storeCells_at {P : Program} (g : Nat) (t : TypeId) (off : Nat) : ∀ (vs : List Value) (i : Nat) (cur : Array Value) (w : World), w.heap[g]? = some (.cells cur t (0, 0)) → off + i + vs.length ≤ cur.size → (∀ v ∈ vs, v.oneCell' = true) →
    (storeCells ⟨g, off, none⟩ vs i).run P w = .ok () (w.setRow g (putAt cur (off + i) vs))
  | [], i, cur, w, hg, hl, _ => by
    show Result.ok () w = _
    rw [show putAt cur (off + i) [] = cur from rfl, setRow_self hg]
  | v :: rest, i, cur, w, hg, hl, h1 => by
    have hi : off + i < cur.size := by simp at hl; omega
    have hadd : (⟨g, off, none⟩ : Addr).add i = ⟨g, off + i, none⟩ := by unfold Addr.add; split <;> simp_all
    have hcell : w.cell? ⟨g, off + i, none⟩ = some cur[off + i] := by simp [World.cell?, hg, hi]
    have hfro : w.frozen? ⟨g, off + i, none⟩ = false := by simp [World.frozen?, hg]
    have hst : (store ((⟨g, off, none⟩ : Addr).add i) v).run P w = .ok () (w.setRow g (cur.setIfInBounds (off + i) v)) := by
      rw [hadd, run_store P w _ v _ (h1 v (by simp)), hcell]
      simp [hfro, setCell_eq_setRow w g (off + i) cur t (0, 0) v hg]
    have ih := run_storeCells_at (P := P) g t off rest (i + 1) (cur.setIfInBounds (off + i) v) (w.setRow g (cur.setIfInBounds (off + i) v)) (setRow_heap w g cur _ t _ hg) (by simp at hl ⊢; omega) (fun x hx => h1 x (by simp [hx]))
    simp only [storeCells, Sem.run_bind, hst, Result.andThen_ok, ih, setRow_setRow]
    rfl
section
variable {P : Program} {ops : Array Oper} {rest : List Oper} {o : Oper} {a : Act} {w : World} {Q : Exit → Act → World → Prop}
theorem wpList_store_part (hgd : o.guard = none) (ty : TypeId) (x y : Operand) (ho : o.op = .store ty x y)
    (g off : Nat) (cells : Array Value) (hx : a.eval x = .pointer (some ⟨g, off, none⟩)) (hy : a.eval y = .agg cells)
    (t : TypeId) (old : Array Value) (hg : Row w g t old) (hi : (P.info? ty).map (·.size) = some cells.size)
    (hold : off + cells.size ≤ old.size) (h1 : cells.all (·.oneCell') = true)
    (h : wpList P ops Q rest (a.put o.dst undef) (w.setRow g (putAt old off cells.toList))) : wpList P ops Q (o :: rest) a w := by
  have hs := run_storeCells_at (P := P) g t off cells.toList 0 old w hg (by simpa using hold) (fun v hv => (Array.all_eq_true_iff_forall_mem.1 h1) v (by simpa using hv))
  refine wpList_plain hgd fun K hK => ?_
  unfold Oper.wp execOp
  cases hq : P.info? ty with
  | none => simp [hq] at hi
  | some i =>
    have hz : cells.size = i.size := by simp [hq] at hi; omega
    have hv : (storeVar ty ⟨g, off, none⟩ (.agg cells)).run P w = .ok () (w.setRow g (putAt old off cells.toList)) := by
      simp [storeVar, sizeOf, typeInfo, hq, Value.cells, hz] at hs ⊢
      exact hs
    simp only [ho, hx, hy, Instr.storeAt, Instr.sureAddr, Sem.run_bind, Sem.run_pure, Result.andThen_ok, hv]
    exact hK _ _ h
end
theorem putAt_tab (n m off : Nat) (f h : Nat → Nat) (hle : off + m ≤ n) : putAt (tab n f) off (tab m h).toList = tab n (fun x => if off ≤ x ∧ x < off + m then h (x - off) else f x) := by
  apply Array.ext_getElem?
  intro j
  rw [putAt_get _ _ _ _ (by simp; omega)]
  simp only [Array.length_toList, tab_size, Array.getElem?_toList]
  by_cases hj : j < n
  · rw [tab_get n (fun x => if off ≤ x ∧ x < off + m then h (x - off) else f x) j hj]
    by_cases h1 : off ≤ j ∧ j < off + m
    · rw [if_pos h1, if_pos h1, tab_get m _ _ (by omega)]
    · rw [if_neg h1, if_neg h1, tab_get n _ j hj]
  · rw [if_neg (by omega)]
    have h1 : (tab n f)[j]? = none := by simp; omega
    have h2 : (tab n fun x => if off ≤ x ∧ x < off + m then h (x - off) else f x)[j]? = none := by simp; omega
    rw [h1, h2]
/-- the tables of the first k suits -/
def hvTo (left k : Nat) : Nat → Nat := fun x => if x < k * 154 then holdV (scards left (x / 154)) (x % 154) else 0
theorem hvTo_succ (left k : Nat) : tab 616 (fun x => if k * 154 ≤ x ∧ x < k * 154 + 154 then holdV (scards left k) (x - k * 154) else hvTo left k x) = tab 616 (hvTo left (k + 1)) := by
  refine tab_congr fun x _ => ?_
  unfold hvTo
  by_cases h1 : k * 154 ≤ x ∧ x < k * 154 + 154
  · rw [if_pos h1, if_pos (by omega), show x / 154 = k by omega, show x % 154 = x - k * 154 by omega]
  · rw [if_neg h1]
    by_cases h2 : x < k * 154
    · rw [if_pos h2, if_pos (by omega)]
    · rw [if_neg h2, if_neg (by omega)]
/-- the tables of the four suits -/
abbrev hvAll (left : Nat) : Nat → Nat := hvTo left 4
theorem hvTo_zero (left : Nat) : tab 616 (hvTo left 0) = tab 616 fun _ => 0 := tab_congr fun x _ => by unfold hvTo; rw [if_neg (by omega)]
theorem holdRow_sum (N oth s : Nat) (f : Nat → Nat) (ho : oth ≤ 9) : ∀ j, j ≤ oth + 1 → sumN N (holdRow oth s j f) ≤ sumN N f + 126 * j
  | 0, _ => by show sumN N f ≤ _; omega
  | j + 1, hj => by
    have h1 := holdRow_sum N oth s f ho j (by omega)
    have h2 := sumN_bump N (holdRow oth s j f) (spot s j) (way oth j)
    have h3 := (way_step oth j ho (by omega)).1
    show sumN N (bump _ _ _) ≤ _
    omega
theorem holdTo_sum (N hon oth : Nat) (ho : oth ≤ 9) : ∀ s, sumN N (holdTo hon oth s) ≤ 1260 * s
  | 0 => by show sumN N (fun _ => 0) ≤ _; rw [sumN_zero]; omega
  | s + 1 => by
    have h1 := holdTo_sum N hon oth ho s
    have h2 := holdRow_sum N oth s (holdTo hon oth s) ho (oth + 1) (Nat.le_refl _)
    show sumN N (if landn s hon = 0 then _ else _) ≤ _
    split <;> omega
theorem holdV_sum (N x : Nat) : sumN N (holdV x) ≤ 20160 := holdTo_sum N _ _ (pop_low ⟨_, land_low x⟩) 16
theorem sumN_part (f : Nat → Nat) (b m : Nat) : sumN m (fun q => f (b + q)) ≤ sumN (b + m) f := by
  induction m with
  | zero => exact Nat.zero_le _
  | succ m ih => show sumN m _ + f (b + m) ≤ sumN (b + m) f + f (b + m); omega
theorem suitRow_sum (left i len : Nat) (hi : i < 4) (hl : len ≤ 13) : sumN 11 (suitRow (hvAll left) i len) ≤ 20160 := by
  have h : sumN 11 (suitRow (hvAll left) i len) = sumN 11 (fun q => holdV (scards left i) (len * 11 + q)) := sumN_congr fun q hq => by
    unfold suitRow hvAll hvTo
    rw [if_pos (by omega), show (i * 154 + len * 11 + q) / 154 = i by omega, show (i * 154 + len * 11 + q) % 154 = len * 11 + q by omega]
  rw [h]
  exact Nat.le_trans (sumN_part (holdV (scards left i)) (len * 11) 11) (holdV_sum _ _)
end Go.Proofs.Ytikdkhiehfccpaa

/- Contract of the iterator agree.hands over this seat's program. -/
namespace Go.Proofs.Ytikdkhiehfccpaa
open Go.RowKit Go.Sort Go.Shelf Cnt

theorem zero103 : ∀ w : World, (zeroValue 143).run Try.prog w = .ok (.agg (tab 616 fun _ => 0)) w := by
  have h : (Try.prog.info? 143).map (fun i => (i.zero, i.size)) = some (some (.agg (tab 616 fun _ => 0)), 616) := by kernel_rfl
  cases hq : Try.prog.info? 143 with
  | none => simp [hq] at h
  | some i =>
    simp [hq] at h
    intro w
    simp [zeroValue, typeInfo, hq, h.1]
/-- the spread of no cards -/
def sp0 : Nat → Nat := fun p => if p = 0 then 1 else 0
theorem sp0_ok : Okf sp0 0 := ⟨fun p hp => by unfold sp0; rw [if_neg (by omega)], by decide⟩
theorem built83 : (Try.prog.built 136 [(0, Value.int .i64 1)]).getD #[] = tab 41 sp0 := by kernel_rfl
/-- the world in the loop of the iterator -/
structure IW (W wr : World) (l : Nat) (left k : Nat) : Prop where
  below : Below W.heap.size W wr
  yl : Row wr W.heap.size 141 #[.func (.yield l) #[] #[]]
  st : Row wr (W.heap.size + 1) 143 (tab 616 (hvTo left k))
/-- what comes -/
abbrev cellsOf (left nn : Nat) : List Cl := cells (hvAll left) 4 nn (fun _ => 0) sp0

set_option maxRecDepth 5000 in
theorem hands1_seq (n left nn bl bn : Nat) (hl : left < 4503599627370496) (hn : nn ≤ 13) (w : World) (hcl : w.cell? ⟨bl, 0, none⟩ = some (.int .u64 (left : Int))) (hcn : w.cell? ⟨bn, 0, none⟩ = some (.int .i64 (nn : Int))) (K : Nat → Prop) :
    SeqAll Fence.wide n Try.prog 71 #[.pointer (some ⟨bl, 0, none⟩), .pointer (some ⟨bn, 0, none⟩)] encC K (cellsOf left nn) w := by
  intro l J W hWb hJ hY hJ0
  refine callsIn_wide.2 ?_
  show Calls Try.prog _ #[.func (.yield l) #[] #[], .pointer (some ⟨bl, 0, none⟩), .pointer (some ⟨bn, 0, none⟩)] W _
  have hcl' := (hWb.cell (p := ⟨bl, 0, none⟩) (block_lt_of_cell hcl)).trans hcl
  have hcn' := (hWb.cell (p := ⟨bn, 0, none⟩) (block_lt_of_cell hcn)).trans hcn
  have hlW : bl < W.heap.size := block_lt_of_cell hcl'
  have hnW : bn < W.heap.size := block_lt_of_cell hcn'
  clear hWb hcl hcn
  have hleft : W64 left := by unfold W64; omega
  have HY : Hid (Rounds n l K W.heap.size (cellsOf left nn) J) := Lib.hid hY
  have HJ := Lib.hid hJ
  have HJ0 := Lib.hid hJ0
  clear hY hJ hJ0
  have hz := zero103
  go_enter Try.func71, Try.ntmps71
  go_upto_region 2 with fail
  have hI : IW W ((W.alloc (.cells #[.func (.yield l) #[] #[]] 141)).alloc (.cells (tab 616 fun _ => 0) 143)) l left 0 := by
    refine ⟨((Below.refl _ _).alloc (Nat.le_refl _) _).alloc (by simp) _, (Row.new _ _ _).alloc _, ?_⟩
    have := Row.new (W.alloc (.cells #[.func (.yield l) #[] #[]] 141)) 143 (tab 616 fun _ => 0)
    rw [World.size_alloc] at this
    rwa [hvTo_zero]
  clear hz
  generalize (W.alloc (.cells #[.func (.yield l) #[] #[]] 141)).alloc (.cells (tab 616 fun _ => 0) 143) = W1 at *
  go_wp2_with fail
  go_loopw [5, 8] (fun _ i wr => ∃ (k : Nat), k ≤ 4 ∧ i = .int .i64 (k : Int) ∧ IW W wr l left k) (fun _ i _ => 4 - (intOf i).toNat)
  case atStart => exact ⟨0, by omega, rfl, hI⟩
  case round =>
    obtain ⟨k, hk, rfl, hIk⟩ := hrel
    have hc2 := (hIk.below.cell (p := ⟨bl, 0, none⟩) hlW).trans hcl'
    by_cases hlt : k < 4
    · have hlI : (k : Int) < 4 := by omega
      have hsl := scards_lt left k
      go_wp2_with (first
        | (go_at_call 48; refine (ag_cards left k hleft hlt _).mono ?_; rintro e w' ⟨rfl, rfl⟩)
        | (go_at_call 72; refine (ag_hold (scards left k) hsl _).mono ?_; rintro e w7 ⟨rfl, hb7⟩; have hr7 := hIk.st.later hb7)
        | refine wpList_store_part rfl 142 (.tmp 16) (.tmp 15) rfl (W.heap.size + 1) (k * 154) (tab 154 (holdV (scards left k))) rfl rfl _ _ hr7 (by rw [size102, tab_size]) (by simp; omega) (tab_one _ _) ?_)
      refine ⟨⟨k + 1, by omega, by simp, ?_⟩, by simp [intOf]; omega⟩
      refine ⟨below_setRow (hIk.below.trans (hb7.mono hIk.below.size)) (by omega) _, (hIk.yl.later hb7).same (setRow_other _ _ _ _ (by omega)), ?_⟩
      have := setRow_heap w7 (W.heap.size + 1) _ (putAt (tab 616 (hvTo left k)) (k * 154) (tab 154 (holdV (scards left k))).toList) _ _ hr7
      rw [putAt_tab _ _ _ _ _ (by omega), hvTo_succ] at this
      rw [putAt_tab _ _ _ _ _ (by omega), hvTo_succ]
      exact this
    · obtain rfl : k = 4 := by omega
      have hn2 := (hIk.below.cell (p := ⟨bn, 0, none⟩) hnW).trans hcn'
      have HIk := Lib.hid hIk
      have hszk := hIk.below.size
      have hstl := hIk.st.lt
      clear hIk hI hc2 hcl' hcn'
      go_upto_region 9 with fail
      have hbW : Below wr.heap.size wr ((wr.alloc (.cells #[.int .i64 0, .int .i64 0, .int .i64 0, .int .i64 0] 112)).alloc (.cells #[.nilFunc] 145)) := ((Below.refl _ _).alloc (Nat.le_refl _) _).alloc (by simp) _
      have hrl : Row ((wr.alloc (.cells #[.int .i64 0, .int .i64 0, .int .i64 0, .int .i64 0] 112)).alloc (.cells #[.nilFunc] 145)) wr.heap.size 112 (larr fun _ => 0) := (Row.new _ _ _).alloc _
      have hrx : Row ((wr.alloc (.cells #[.int .i64 0, .int .i64 0, .int .i64 0, .int .i64 0] 112)).alloc (.cells #[.nilFunc] 145)) (wr.heap.size + 1) 145 #[.nilFunc] := by
        have := Row.new (wr.alloc (.cells #[.int .i64 0, .int .i64 0, .int .i64 0, .int .i64 0] 112)) 145 #[.nilFunc]
        rwa [World.size_alloc] at this
      generalize (wr.alloc (.cells #[.int .i64 0, .int .i64 0, .int .i64 0, .int .i64 0] 112)).alloc (.cells #[.nilFunc] 145) = W3 at *
      obtain ⟨V, HV⟩ : ∃ V : Value, Hid (V = .func (.func 73) #[] #[.pointer (some ⟨W.heap.size, 0, none⟩), .pointer (some ⟨wr.heap.size, 0, none⟩), .pointer (some ⟨W.heap.size + 1, 0, none⟩), .pointer (some ⟨wr.heap.size + 1, 0, none⟩)]) := ⟨_, Lib.hid rfl⟩
      have hst : (store ⟨wr.heap.size + 1, 0, none⟩ (.func (.func 73) #[] #[.pointer (some ⟨W.heap.size, 0, none⟩), .pointer (some ⟨wr.heap.size, 0, none⟩), .pointer (some ⟨W.heap.size + 1, 0, none⟩), .pointer (some ⟨wr.heap.size + 1, 0, none⟩)])).run Try.prog W3 = .ok () (W3.setCell ⟨wr.heap.size + 1, 0, none⟩ V) := by
        rw [run_store Try.prog W3 _ _ _ rfl, hrx.cell 0]
        simp [hrx.frozen 0, HV.out]
      obtain ⟨W4, HW4⟩ : ∃ W4, Hid (W3.setCell ⟨wr.heap.size + 1, 0, none⟩ V = W4) := ⟨_, Lib.hid rfl⟩
      rw [HW4.out] at hst
      have hB4 : Below wr.heap.size wr W4 := by rw [← HW4.out]; exact hbW.setCell (by show wr.heap.size ≤ wr.heap.size + 1; omega) _
      have hrl4 : Row W4 wr.heap.size 112 (larr fun _ => 0) := by rw [← HW4.out]; exact hrl.other (by omega)
      have hrx4 : Row W4 (wr.heap.size + 1) 145 #[V] := by rw [← HW4.out]; have := hrx.set 0 V; simpa using this
      have hcx := hrx4.cell 0
      rw [HV.out] at hcx
      have hn4 := (hB4.cell (p := ⟨bn, 0, none⟩) (by show bn < wr.heap.size; omega)).trans hn2
      clear hrl hrx hbW hn2
      have hN4 : NxW W.heap.size wr.heap.size (W.heap.size + 1) (wr.heap.size + 1) l (hvAll left) W4 0 (fun _ => 0) :=
        ⟨HIk.out.yl.later hB4, ⟨_, hrl4, fun j hj => by omega⟩, HIk.out.st.later hB4, by rw [HV.out] at hrx4; exact hrx4⟩
      have hL : Lies W.heap.size W.heap.size wr.heap.size (W.heap.size + 1) (wr.heap.size + 1) := ⟨by omega, by omega, by omega, by omega, by omega, by omega, by omega⟩
      have hB04 : Below W.heap.size W W4 := HIk.out.below.trans (hB4.mono (by omega))
      have hcall := next_all HY.out HJ.out hL (fun i len hi hlen => suitRow_sum left i len hi hlen) 4 0 rfl nn hn (fun _ => 0) sp0 sp0_ok [] [] W4 (by simp) (HJ.out _ _ _ HJ0.out hB04) hB04.size hN4
      have HC := Lib.hid hcall
      clear hcall hN4 hL hB04 hrl4 hrx4 hB4
      go_wp2_with (first
        | (refine wpList_build rfl 136 #[(0, .const (.int .i64 1))] rfl (by kernel_rfl) ?_; rw [show ((Try.prog.built 136 (Array.map (fun x : Nat × Operand => (x.1, Act.eval _ x.2)) #[(0, .const (.int .i64 1))]).toList).getD #[]) = tab 41 sp0 from built83])
        | (go_at_call 73; refine HC.out.mono ?_; rintro e w7 ⟨rfl, hJ7, hN7, hH7⟩))
      go_end0
      exact ⟨⟨_, rfl⟩, by simpa using hJ7⟩
theorem ag_hands (left nn : Nat) (w : World) :
    Calls Try.prog 66 #[.int .u64 (left : Int), .int .i64 (nn : Int)] w fun e w' =>
      e = .returned (.func (.func 71) #[] #[.pointer (some ⟨w.heap.size, 0, none⟩), .pointer (some ⟨w.heap.size + 1, 0, none⟩)]) ∧ w' = (w.alloc (.cells #[.int .u64 (left : Int)] 22)).alloc (.cells #[.int .i64 (nn : Int)] 3) := by
  go_enter Try.func66, Try.ntmps66
  go_wp2
  go_ret
  exact ⟨rfl, rfl⟩
end Go.Proofs.Ytikdkhiehfccpaa
