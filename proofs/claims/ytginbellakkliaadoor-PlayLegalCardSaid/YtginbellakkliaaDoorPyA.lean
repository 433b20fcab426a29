/- Contracts of the small methods of a play: made, over, next, dummy, Turn, Chooser, Hand, over this seat's program. -/
import Derived.Test.YtginbellakkliaaDoorPyP
import Derived.Laws.StructEq
import Derived.ChangeKeysEq
import Derived.BigQuiet
import Derived.Deep.QuietTactic
namespace Go.Proofs.YtginbellakkliaaDoor
open Go.RowKit Go.Shelf Go.Sort

/-- a play lies in block B -/
structure PlyAt (w : World) (B base : Nat) (p : Ply) (vs vb : Value) : Prop where
  row : Row w B 85 (p.cells vs vb)
  ss : Owns Stp.cells 11 92 w base vs p.steps
  bs : OwnU w base vb p.back
  ns : vs.ownBlock ≠ some B
  nb : vb.ownBlock ≠ some B
  sb : ∀ g, vs.ownBlock = some g → vb.ownBlock ≠ some g
theorem PlyAt.below {w w' : World} {B base : Nat} {p : Ply} {vs vb : Value} (h : PlyAt w B base p vs vb) (hb : Below w.heap.size w w') : PlyAt w' B base p vs vb :=
  ⟨h.row.below h.row.lt hb, h.ss.below hb, h.bs.below hb, h.ns, h.nb, h.sb⟩
theorem eq_deal (a b : Nat → Nat) (w : World) : Sem.run Tryd.prog (Op.equalIn 10000 26 (.agg #[.int .u64 (a 0 : Int), .int .u64 (a 1 : Int), .int .u64 (a 2 : Int), .int .u64 (a 3 : Int)]) (.agg #[.int .u64 (b 0 : Int), .int .u64 (b 1 : Int), .int .u64 (b 2 : Int), .int .u64 (b 3 : Int)])) w =
    .ok (a 0 == b 0 && a 1 == b 1 && a 2 == b 2 && a 3 == b 3) w := by
  obtain ⟨i, hi⟩ : ∃ i, Tryd.prog.info? 24 = some i := by
    have h : (Tryd.prog.info? 24).isSome = true := by kernel_rfl
    exact Option.isSome_iff_exists.1 h
  rw [run_equalIn_array (P := Tryd.prog) w 9999 _ _ Tryd.underlying26 hi]
  have kc : Tryd.prog.cellsOf 24 = 1 := by kernel_rfl
  have h8 : Tryd.prog.underlying 24 = some (.int .u64) := Tryd.underlying24
  have hc : ∀ x y : Nat, (((x : Int) == (y : Int)) : Bool) = (x == y) := fun x y => by
    by_cases h : x = y
    · subst h; simp
    · rw [beq_eq_false_iff_ne.2 h, beq_eq_false_iff_ne.2 (by omega)]
  rw [kc, show List.range 4 = [0, 1, 2, 3] from rfl]
  have hp : ∀ (c : Nat → Nat) (k : Nat), k < 4 → ∀ w, Sem.run Tryd.prog (part 24 #[.int .u64 (c 0 : Int), .int .u64 (c 1 : Int), .int .u64 (c 2 : Int), .int .u64 (c 3 : Int)] (k * 1)) w = .ok (.int .u64 (c k : Int)) w := by
    intro c k hk w
    rcases (show k = 0 ∨ k = 1 ∨ k = 2 ∨ k = 3 by omega) with rfl | rfl | rfl | rfl <;> kernel_rfl
  have step : ∀ (k : Nat), k < 4 → ∀ is w, Sem.run Tryd.prog (Op.eqItems 9999 24 1 #[.int .u64 (a 0 : Int), .int .u64 (a 1 : Int), .int .u64 (a 2 : Int), .int .u64 (a 3 : Int)] #[.int .u64 (b 0 : Int), .int .u64 (b 1 : Int), .int .u64 (b 2 : Int), .int .u64 (b 3 : Int)] (k :: is)) w =
      if (a k == b k) = true then Sem.run Tryd.prog (Op.eqItems 9999 24 1 #[.int .u64 (a 0 : Int), .int .u64 (a 1 : Int), .int .u64 (a 2 : Int), .int .u64 (a 3 : Int)] #[.int .u64 (b 0 : Int), .int .u64 (b 1 : Int), .int .u64 (b 2 : Int), .int .u64 (b 3 : Int)] is) w else .ok false w := by
    intro k hk is w
    have he := run_equalIn_int (P := Tryd.prog) w 9998 24 .u64 .u64 (a k : Int) (b k : Int) h8
    rw [hc] at he
    rw [Op.eqItems, Sem.run_bind, hp a k hk, Result.andThen_ok, Sem.run_bind, hp b k hk, Result.andThen_ok, Sem.run_bind, he, Result.andThen_ok]
    cases a k == b k
    · simp
    · simp
  have last : ∀ w, Sem.run Tryd.prog (Op.eqItems 9999 24 1 #[.int .u64 (a 0 : Int), .int .u64 (a 1 : Int), .int .u64 (a 2 : Int), .int .u64 (a 3 : Int)] #[.int .u64 (b 0 : Int), .int .u64 (b 1 : Int), .int .u64 (b 2 : Int), .int .u64 (b 3 : Int)] []) w = .ok true w := fun w => by simp [Op.eqItems]
  rw [step 0 (by omega), step 1 (by omega), step 2 (by omega), step 3 (by omega), last]
  cases a 0 == b 0 <;> cases a 1 == b 1 <;> cases a 2 == b 2 <;> cases a 3 == b 3 <;> rfl
theorem eq_deal0 (h : Nat → Nat) (w : World) : Sem.run Tryd.prog (Op.equalIn 10000 26 (.agg #[.int .u64 (h 0 : Int), .int .u64 (h 1 : Int), .int .u64 (h 2 : Int), .int .u64 (h 3 : Int)]) (.agg #[.int .u64 0, .int .u64 0, .int .u64 0, .int .u64 0])) w = .ok (h 0 == 0 && h 1 == 0 && h 2 == 0 && h 3 == 0) w := eq_deal h (fun _ => 0) w
theorem ply_made {w : World} {B base : Nat} {p : Ply} {vs vb : Value} (hp : p.ok) (h : PlyAt w B base p vs vb) :
    Calls Tryd.prog 41 #[.pointer (some ⟨B, 0, none⟩)] w fun e w' => e = .returned (.bool true) ∧ w = w' := by
  have hR := h.row
  have c10 := hR.cell 10
  simp only [List.getElem?_toArray, List.getElem?_cons_zero, List.getElem?_cons_succ] at c10
  have hl : ((p.lv : Int) != 0) = true := by rw [bne_iff_ne]; have := hp.lv; omega
  go_enter Tryd.func41, Tryd.ntmps41
  go_wp2_with fail
  go_ret
  exact ⟨rfl, rfl⟩
theorem ply_over {w : World} {B base : Nat} {p : Ply} {vs vb : Value} (h : PlyAt w B base p vs vb) :
    Calls Tryd.prog 42 #[.pointer (some ⟨B, 0, none⟩)] w fun e w' => e = .returned (.bool p.st.over) ∧ w = w' := by
  have hR := h.row
  have c0 := hR.cell 0
  have c1 := hR.cell 1
  have c2 := hR.cell 2
  have c3 := hR.cell 3
  simp only [List.getElem?_toArray, List.getElem?_cons_zero, List.getElem?_cons_succ] at c0 c1 c2 c3
  have hq := eq_deal0 p.st.h
  go_enter Tryd.func42, Tryd.ntmps42
  go_wp2_with fail
  go_ret
  exact ⟨rfl, rfl⟩
theorem ply_next {w : World} {B : Nat} {p : Ply} {vs vb : Value} (hst : p.st.ok) (hR : Row w B 85 (p.cells vs vb)) :
    Calls Tryd.prog 44 #[.pointer (some ⟨B, 0, none⟩)] w fun e w' => e = .returned (.int .u8 (p.st.next : Int)) ∧ Below w.heap.size w w' := by
  have c4 := hR.cell 4
  have c5 := hR.cell 5
  simp only [List.getElem?_toArray, List.getElem?_cons_zero, List.getElem?_cons_succ] at c4 c5
  have rc4 := fun dd os => cell_regrown c4 dd os
  have rc5 := fun dd os => cell_regrown c5 dd os
  have hld := hst.ld
  have hct := hst.ct
  have ew : IntKind.u8.wrap ((p.st.ld : Int) + (p.st.ct : Int)) = (p.st.ld : Int) + (p.st.ct : Int) := by rw [IntKind.wrap_u8]; omega
  have et : ((p.st.ld : Int) + (p.st.ct : Int)).tmod 4 = (p.st.next : Int) := by rw [Int.tmod_eq_emod_of_nonneg (by omega)]; unfold PSt.next; omega
  have ew2 : IntKind.u8.wrap (p.st.next : Int) = (p.st.next : Int) := by rw [IntKind.wrap_u8]; unfold PSt.next; omega
  go_enter Tryd.func44, Tryd.ntmps44
  go_wp2_with fail
  refine wp_region_quiet_below (by kernel_rfl) (by kernel_rfl) ?_
  repeat (quiet_step (fail))
  refine wpQuiet_nil ?_
  rintro _ ⟨q, rfl⟩
  have hb9 := below_regrown w q.d q.os
  generalize grow (redrawn w q.d) q.os = w9 at *
  go_wp2_with fail
  go_ret
  exact ⟨rfl, hb9⟩
theorem ply_dummy {w : World} {B base : Nat} {p : Ply} {vs vb : Value} (hp : p.ok) (h : PlyAt w B base p vs vb) :
    Calls Tryd.prog 48 #[.pointer (some ⟨B, 0, none⟩)] w fun e w' => e = .returned (.int .u8 (p.dummy : Int)) ∧ w = w' := by
  have hR := h.row
  have c13 := hR.cell 13
  simp only [List.getElem?_toArray, List.getElem?_cons_zero, List.getElem?_cons_succ] at c13
  have hdc := hp.dc
  go_enter Tryd.func48, Tryd.ntmps48
  go_wp2_with fail
  go_ret
  exact ⟨by unfold Ply.dummy; rw [show (((p.dc + 2) % 4 : Nat) : Int) = ((p.dc : Int) + 2) % 4 by omega]; rfl, rfl⟩
theorem ply_turn {w : World} {B base : Nat} {p : Ply} {vs vb : Value} (hp : p.ok) (h : PlyAt w B base p vs vb) :
    Calls Tryd.prog 15 #[.pointer (some ⟨B, 0, none⟩)] w fun e w' => e = .returned (.tuple #[.int .u8 (p.turnV.1 : Int), .int .i64 (p.turnV.2 : Int)]) ∧ Below w.heap.size w w' := by
  have HM := Lib.hid (ply_made hp h)
  have HO := Lib.hid (ply_over h)
  have HN := Lib.hid (ply_next hp.st h.row)
  unfold Ply.turnV
  cases ho : p.st.over
  · rw [ho] at HO
    go_enter Tryd.func15, Tryd.ntmps15
    go_wp2_with (first
      | (go_at_call 41; refine HM.out.mono ?_; rintro e w' ⟨rfl, rfl⟩)
      | (go_at_call 42; refine HO.out.mono ?_; rintro e w' ⟨rfl, rfl⟩)
      | (go_at_call 44; refine HN.out.mono ?_; rintro e w' ⟨rfl, hb⟩))
    go_ret2
    exact ⟨rfl, hb⟩
  · rw [ho] at HO
    go_enter Tryd.func15, Tryd.ntmps15
    go_wp2_with (first
      | (go_at_call 41; refine HM.out.mono ?_; rintro e w' ⟨rfl, rfl⟩)
      | (go_at_call 42; refine HO.out.mono ?_; rintro e w' ⟨rfl, rfl⟩))
    go_ret2
    exact ⟨rfl, Below.refl _ _⟩
end Go.Proofs.YtginbellakkliaaDoor
