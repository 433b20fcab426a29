/- Contracts of the small methods of a table that read: made, pending, turn, byDeclarer, byDefender, beforePartner, atOpening, over this seat's program. -/
import Derived.Test.YtgnlmodaekfhfaaDoorLdA
import Derived.Test.YtgnlmodaekfhfaaDoorQTail
namespace Go.Proofs.YtgnlmodaekfhfaaDoor
open Go.RowKit Go.Shelf Go.Sort

attribute [-go_sem] run_equalIn_agg run_neq_struct
/-- a table lies in block B -/
abbrev TblAt (w : World) (B : Nat) (s : St) : Prop := Row w B 62 s.cells
theorem bne_cast (x y : Nat) : (((x : Int) != (y : Int)) : Bool) = (x != y) := by
  unfold bne; rw [beq_cast]
theorem wpList_load_row_g {P : Program} {ops : Array Oper} {rest : List Oper} {o : Oper} {a : Act} {w : World} {Q : Exit → Act → World → Prop} (hw : Region.wanted o (yielded ops a.tmps) = true) (ty : TypeId) (x : Operand) (ho : o.op = .load ty x)
    (g : Nat) (hx : a.eval x = .pointer (some ⟨g, 0, none⟩)) (t : TypeId) (cs : Array Value) (fr : Nat × Nat) (d : TypeDesc) (hg : w.heap[g]? = some (.cells cs t fr))
    (hu : P.underlying ty = some d) (hd : (match d with | .struct _ | .array _ _ => true | _ => false) = true) (hi : (P.info? ty).map (·.size) = some cs.size)
    (h : wpList P ops Q rest (a.put o.dst (.agg cs)) w) : wpList P ops Q (o :: rest) a w :=
  wpList_step fun K hK => by rw [if_pos hw]; exact wp_load_row ty x ho g hx t cs fr d hg hu hd hi (hK _ _ h)
theorem size_st : (Tryd.prog.info? 45).map (·.size) = some 24 := by kernel_rfl
theorem zero_cells : #[.int .u64 0, .int .u64 0, .int .u64 0, .int .u64 0, .int .u64 0, .int .u64 0, .int .u64 0, .int .u64 0, .int .u8 0, .int .u8 0, .int .u8 0, .int .u8 0, .int .u8 0, .int .u8 0, .int .u8 0, .int .u8 0, .int .u8 0, .int .u8 0, .bool false, .bool false, .int .u8 0, .int .u8 0, .int .u8 0, .int .u8 0] = St.zero.cells := rfl
theorem eq_cells (s t : St) {z : Array Value} (hz : z = t.cells) (w : World) : Sem.run Tryd.prog (Op.equalIn 10000 45 (.agg s.cells) (.agg z)) w = .ok (s.same t) w := by
  rw [hz, eq_state]
theorem neq_cells (s t : St) {z : Array Value} (hz : z = t.cells) (w : World) : Sem.run Tryd.prog (binOp .neq 45 (.agg s.cells) (.agg z)) w = .ok (.bool (!s.same t)) w := by
  rw [run_neq_struct, eq_cells s t hz, Result.andThen_ok]
set_option maxRecDepth 100000 in
theorem ld_made {w : World} {B : Nat} {s : St} (h : TblAt w B s) :
    Calls Tryd.prog 29 #[.pointer (some ⟨B, 0, none⟩)] w fun e w' => e = .returned (.bool (!s.same St.zero)) ∧ w = w' := by
  obtain ⟨SA, hSA⟩ : ∃ SA, SA = s.cells := ⟨_, rfl⟩
  have hR : Row w B 62 SA := by rw [hSA]; exact h
  have HR := Lib.hid hR
  have HZ : Hid ((Tryd.prog.info? 45).map (·.size) = some SA.size) := Lib.hid (by rw [hSA]; exact size_st)
  have hq : ∀ w, Sem.run Tryd.prog (binOp .neq 45 (.agg SA) (.agg #[.int .u64 0, .int .u64 0, .int .u64 0, .int .u64 0, .int .u64 0, .int .u64 0, .int .u64 0, .int .u64 0, .int .u8 0, .int .u8 0, .int .u8 0, .int .u8 0, .int .u8 0, .int .u8 0, .int .u8 0, .int .u8 0, .int .u8 0, .int .u8 0, .bool false, .bool false, .int .u8 0, .int .u8 0, .int .u8 0, .int .u8 0])) w = .ok (.bool (!s.same St.zero)) w := by rw [hSA]; exact neq_cells s St.zero zero_cells
  clear hSA hR h
  go_enter Tryd.func29, Tryd.ntmps29
  go_wp2_with (refine wpList_load_row_g rfl 45 (.tmp 8) rfl B rfl 62 SA (0, 0) _ HR.out Tryd.underlying45 rfl HZ.out ?_)
  go_ret
  exact ⟨rfl, rfl⟩
theorem ld_pending {w : World} {B : Nat} {s : St} (h : TblAt w B s) :
    Calls Tryd.prog 41 #[.pointer (some ⟨B, 0, none⟩)] w fun e w' => e = .returned (.bool s.pend) ∧ w = w' := by
  have c18 := h.cell 18
  simp only [List.getElem?_toArray, List.getElem?_cons_zero, List.getElem?_cons_succ] at c18
  go_enter Tryd.func41, Tryd.ntmps41
  go_wp2_with fail
  go_ret
  exact ⟨rfl, rfl⟩
theorem ld_turn {w : World} {B : Nat} {s : St} (hs : s.ok) (h : TblAt w B s) :
    Calls Tryd.prog 30 #[.pointer (some ⟨B, 0, none⟩)] w fun e w' => e = .returned (.int .u8 (s.turn : Int)) ∧ Below w.heap.size w w' := by
  have c10 := h.cell 10
  have c11 := h.cell 11
  simp only [List.getElem?_toArray, List.getElem?_cons_zero, List.getElem?_cons_succ] at c10 c11
  have rc10 := fun dd os => cell_regrown c10 dd os
  have rc11 := fun dd os => cell_regrown c11 dd os
  have hld := hs.ld
  have hct := hs.ct
  have ew : IntKind.u8.wrap ((s.ld : Int) + (s.ct : Int)) = (s.ld : Int) + (s.ct : Int) := by rw [IntKind.wrap_u8]; omega
  have et : ((s.ld : Int) + (s.ct : Int)).tmod 4 = (s.turn : Int) := by rw [Int.tmod_eq_emod_of_nonneg (by omega)]; unfold St.turn; omega
  have ew2 : IntKind.u8.wrap (s.turn : Int) = (s.turn : Int) := by rw [IntKind.wrap_u8]; unfold St.turn; omega
  go_enter Tryd.func30, Tryd.ntmps30
  go_wp2_with fail
  refine wp_region_quiet_below (by kernel_rfl) (by kernel_rfl) ?_
  repeat (quiet_step (fail))
  refine wpQuiet_nil ?_
  rintro _ ⟨q, rfl⟩
  have hb9 := below_regrown w q.d q.os
  generalize grow (redrawn w q.d) q.os = w9 at *
  go_wp2_with fail
  go_ret
  exact ⟨rfl, hb9⟩
theorem ld_pendingB {w : World} {B : Nat} {s : St} (h : TblAt w B s) :
    Calls Tryd.prog 41 #[.pointer (some ⟨B, 0, none⟩)] w fun e w' => e = .returned (.bool s.pend) ∧ Below w.heap.size w w' :=
  (ld_pending h).mono (by rintro e w' ⟨rfl, rfl⟩; exact ⟨rfl, Below.refl _ _⟩)
theorem ld_byDeclarer {w : World} {B : Nat} {s : St} (h : TblAt w B s) :
    Calls Tryd.prog 43 #[.pointer (some ⟨B, 0, none⟩)] w fun e w' => e = .returned (.bool s.byDeclarer) ∧ Below w.heap.size w w' := by
  have c9 := h.cell 9
  have c16 := h.cell 16
  simp only [List.getElem?_toArray, List.getElem?_cons_zero, List.getElem?_cons_succ] at c9 c16
  have rc9 := fun dd os => cell_regrown c9 dd os
  have rc16 := fun dd os => cell_regrown c16 dd os
  have HP := Lib.hid (fun (w1 : World) (hb : Below w.heap.size w w1) => ld_pendingB (h.below h.lt hb))
  have t1 : ((s.seat : Int)).tmod 2 = ((s.seat % 2 : Nat) : Int) := by rw [Int.tmod_eq_emod_of_nonneg (by omega)]; omega
  have t2 : ((s.dc : Int)).tmod 2 = ((s.dc % 2 : Nat) : Int) := by rw [Int.tmod_eq_emod_of_nonneg (by omega)]; omega
  have t3 := beq_cast (s.seat % 2) (s.dc % 2)
  have e1 : IntKind.u8.wrap ((s.seat % 2 : Nat) : Int) = ((s.seat % 2 : Nat) : Int) := by rw [IntKind.wrap_u8]; omega
  have e2 : IntKind.u8.wrap ((s.dc % 2 : Nat) : Int) = ((s.dc % 2 : Nat) : Int) := by rw [IntKind.wrap_u8]; omega
  unfold St.byDeclarer
  go_enter Tryd.func43, Tryd.ntmps43
  go_wp2_with fail
  cases hp : s.pend
  all_goals
    rw [hp] at HP
    refine wp_region_quiet_below (by kernel_rfl) (by kernel_rfl) ?_
    repeat (first | go_big_quiet_step (fail) | quiet_step (with_reducible exact Calls.regrown_of (HP.out _ (below_regrown _ _ _))))
    refine wpQuiet_nil ?_
    rintro _ ⟨q, rfl⟩
    have hb9 := below_regrown w q.d q.os
    generalize grow (redrawn w q.d) q.os = w9 at *
    go_wp2_with fail
    go_ret
    first | exact ⟨by rw [hp]; rfl, hb9⟩ | exact ⟨by rw [hp, ← t3]; rfl, hb9⟩
theorem ld_byDefender {w : World} {B : Nat} {s : St} (h : TblAt w B s) :
    Calls Tryd.prog 45 #[.pointer (some ⟨B, 0, none⟩)] w fun e w' => e = .returned (.bool s.byDefender) ∧ Below w.heap.size w w' := by
  have c9 := h.cell 9
  have c16 := h.cell 16
  simp only [List.getElem?_toArray, List.getElem?_cons_zero, List.getElem?_cons_succ] at c9 c16
  have rc9 := fun dd os => cell_regrown c9 dd os
  have rc16 := fun dd os => cell_regrown c16 dd os
  have HP := Lib.hid (fun (w1 : World) (hb : Below w.heap.size w w1) => ld_pendingB (h.below h.lt hb))
  have t1 : ((s.seat : Int)).tmod 2 = ((s.seat % 2 : Nat) : Int) := by rw [Int.tmod_eq_emod_of_nonneg (by omega)]; omega
  have t2 : ((s.dc : Int)).tmod 2 = ((s.dc % 2 : Nat) : Int) := by rw [Int.tmod_eq_emod_of_nonneg (by omega)]; omega
  have t3 := bne_cast (s.seat % 2) (s.dc % 2)
  have e1 : IntKind.u8.wrap ((s.seat % 2 : Nat) : Int) = ((s.seat % 2 : Nat) : Int) := by rw [IntKind.wrap_u8]; omega
  have e2 : IntKind.u8.wrap ((s.dc % 2 : Nat) : Int) = ((s.dc % 2 : Nat) : Int) := by rw [IntKind.wrap_u8]; omega
  unfold St.byDefender
  go_enter Tryd.func45, Tryd.ntmps45
  go_wp2_with fail
  cases hp : s.pend
  all_goals
    rw [hp] at HP
    refine wp_region_quiet_below (by kernel_rfl) (by kernel_rfl) ?_
    repeat (first | go_big_quiet_step (fail) | quiet_step (with_reducible exact Calls.regrown_of (HP.out _ (below_regrown _ _ _))))
    refine wpQuiet_nil ?_
    rintro _ ⟨q, rfl⟩
    have hb9 := below_regrown w q.d q.os
    generalize grow (redrawn w q.d) q.os = w9 at *
    go_wp2_with fail
    go_ret
    first | exact ⟨by rw [hp]; rfl, hb9⟩ | exact ⟨by rw [hp, ← t3]; rfl, hb9⟩
theorem ld_beforePartner {w : World} {B : Nat} {s : St} (hs : s.ok) (h : TblAt w B s) :
    Calls Tryd.prog 47 #[.pointer (some ⟨B, 0, none⟩)] w fun e w' => e = .returned (.bool s.beforePartner) ∧ Below w.heap.size w w' := by
  have c16 := h.cell 16
  simp only [List.getElem?_toArray, List.getElem?_cons_zero, List.getElem?_cons_succ] at c16
  have rc16 := fun dd os => cell_regrown c16 dd os
  have HP := Lib.hid (fun (w1 : World) (hb : Below w.heap.size w w1) => ld_byDefender (h.below h.lt hb))
  have HT := Lib.hid (fun (w1 : World) (hb : Below w.heap.size w w1) => ld_turn hs (h.below h.lt hb))
  have hse := hs.seat
  have t1 : IntKind.u8.wrap ((s.seat : Int) + 2) = ((s.seat + 2 : Nat) : Int) := by rw [IntKind.wrap_u8]; omega
  have t2 : (((s.seat + 2 : Nat) : Int)).tmod 4 = (((s.seat + 2) % 4 : Nat) : Int) := by rw [Int.tmod_eq_emod_of_nonneg (by omega)]; omega
  have t3 := beq_cast s.turn ((s.seat + 2) % 4)
  have e1 : IntKind.u8.wrap (((s.seat + 2) % 4 : Nat) : Int) = (((s.seat + 2) % 4 : Nat) : Int) := by rw [IntKind.wrap_u8]; omega
  unfold St.beforePartner
  go_enter Tryd.func47, Tryd.ntmps47
  go_wp2_with fail
  cases hp : s.byDefender
  all_goals
    rw [hp] at HP
    refine wp_region_quiet_below (by kernel_rfl) (by kernel_rfl) ?_
    repeat (first | go_big_quiet_step (fail) | quiet_step (with_reducible exact Calls.regrown_of (HP.out _ (below_regrown _ _ _))) | quiet_step (with_reducible exact Calls.regrown_of (HT.out _ (below_regrown _ _ _))))
    refine wpQuiet_nil ?_
    rintro _ ⟨q, rfl⟩
    have hb9 := below_regrown w q.d q.os
    generalize grow (redrawn w q.d) q.os = w9 at *
    go_wp2_with fail
    go_ret
    first | exact ⟨by rw [hp]; rfl, hb9⟩ | exact ⟨by rw [hp, ← t3]; rfl, hb9⟩
theorem ld_atOpening {w : World} {B : Nat} {s : St} (h : TblAt w B s) :
    Calls Tryd.prog 50 #[.pointer (some ⟨B, 0, none⟩)] w fun e w' => e = .returned (.bool s.atOpening) ∧ Below w.heap.size w w' := by
  have HP := Lib.hid (ld_byDefender h)
  unfold St.atOpening
  go_enter Tryd.func50, Tryd.ntmps50
  cases hp : s.byDefender
  all_goals
    rw [hp] at HP
    go_wp2_with (go_at_call 45; refine HP.out.mono ?_; rintro e w' ⟨rfl, hb⟩; have c19 := (h.below h.lt hb).cell 19; simp only [List.getElem?_toArray, List.getElem?_cons_zero, List.getElem?_cons_succ] at c19)
    go_ret
    exact ⟨rfl, hb⟩
end Go.Proofs.YtgnlmodaekfhfaaDoor
