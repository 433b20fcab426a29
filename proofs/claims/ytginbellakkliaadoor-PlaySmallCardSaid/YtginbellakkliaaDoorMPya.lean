/- PyA, PyB in one text. -/
import Derived.Test.YtginbellakkliaaDoorPyP
import Derived.Laws.StructEq
import Derived.ChangeKeysEq
import Derived.BigQuiet
import Derived.Deep.QuietTactic
import Derived.Test.YtginbellakkliaaDoorPlayable

/- Contracts of the small methods of a play: made, over, next, dummy, Turn, Chooser, Hand, over this seat's program. -/
namespace Go.Proofs.YtginbellakkliaaDoor
open Go.RowKit Go.Shelf Go.Sort

/-- a play lies in block B -/
structure PlyAt (w : World) (B base : Nat) (p : Ply) (vs vb : Value) : Prop where
  row : Row w B 85 (p.cells vs vb)
  ss : Owns Stp.cells 11 92 w base vs p.steps
  bs : OwnU w base vb p.back
  ns : vs.ownBlock ≠ some B
  nb : vb.ownBlock ≠ some B
  sb : ∀ g, vs.ownBlock = some g → vb.ownBlock ≠ some g
theorem PlyAt.below {w w' : World} {B base : Nat} {p : Ply} {vs vb : Value} (h : PlyAt w B base p vs vb) (hb : Below w.heap.size w w') : PlyAt w' B base p vs vb :=
  ⟨h.row.below h.row.lt hb, h.ss.below hb, h.bs.below hb, h.ns, h.nb, h.sb⟩
theorem eq_deal (a b : Nat → Nat) (w : World) : Sem.run Tryd.prog (Op.equalIn 10000 26 (.agg #[.int .u64 (a 0 : Int), .int .u64 (a 1 : Int), .int .u64 (a 2 : Int), .int .u64 (a 3 : Int)]) (.agg #[.int .u64 (b 0 : Int), .int .u64 (b 1 : Int), .int .u64 (b 2 : Int), .int .u64 (b 3 : Int)])) w =
    .ok (a 0 == b 0 && a 1 == b 1 && a 2 == b 2 && a 3 == b 3) w := by
  obtain ⟨i, hi⟩ : ∃ i, Tryd.prog.info? 24 = some i := by
    have h : (Tryd.prog.info? 24).isSome = true := by kernel_rfl
    exact Option.isSome_iff_exists.1 h
  rw [run_equalIn_array (P := Tryd.prog) w 9999 _ _ Tryd.underlying26 hi]
  have kc : Tryd.prog.cellsOf 24 = 1 := by kernel_rfl
  have h8 : Tryd.prog.underlying 24 = some (.int .u64) := Tryd.underlying24
  have hc : ∀ x y : Nat, (((x : Int) == (y : Int)) : Bool) = (x == y) := fun x y => by
    by_cases h : x = y
    · subst h; simp
    · rw [beq_eq_false_iff_ne.2 h, beq_eq_false_iff_ne.2 (by omega)]
  rw [kc, show List.range 4 = [0, 1, 2, 3] from rfl]
  have hp : ∀ (c : Nat → Nat) (k : Nat), k < 4 → ∀ w, Sem.run Tryd.prog (part 24 #[.int .u64 (c 0 : Int), .int .u64 (c 1 : Int), .int .u64 (c 2 : Int), .int .u64 (c 3 : Int)] (k * 1)) w = .ok (.int .u64 (c k : Int)) w := by
    intro c k hk w
    rcases (show k = 0 ∨ k = 1 ∨ k = 2 ∨ k = 3 by omega) with rfl | rfl | rfl | rfl <;> kernel_rfl
  have step : ∀ (k : Nat), k < 4 → ∀ is w, Sem.run Tryd.prog (Op.eqItems 9999 24 1 #[.int .u64 (a 0 : Int), .int .u64 (a 1 : Int), .int .u64 (a 2 : Int), .int .u64 (a 3 : Int)] #[.int .u64 (b 0 : Int), .int .u64 (b 1 : Int), .int .u64 (b 2 : Int), .int .u64 (b 3 : Int)] (k :: is)) w =
      if (a k == b k) = true then Sem.run Tryd.prog (Op.eqItems 9999 24 1 #[.int .u64 (a 0 : Int), .int .u64 (a 1 : Int), .int .u64 (a 2 : Int), .int .u64 (a 3 : Int)] #[.int .u64 (b 0 : Int), .int .u64 (b 1 : Int), .int .u64 (b 2 : Int), .int .u64 (b 3 : Int)] is) w else .ok false w := by
    intro k hk is w
    have he := run_equalIn_int (P := Tryd.prog) w 9998 24 .u64 .u64 (a k : Int) (b k : Int) h8
    rw [hc] at he
    rw [Op.eqItems, Sem.run_bind, hp a k hk, Result.andThen_ok, Sem.run_bind, hp b k hk, Result.andThen_ok, Sem.run_bind, he, Result.andThen_ok]
    cases a k == b k
    · simp
    · simp
  have last : ∀ w, Sem.run Tryd.prog (Op.eqItems 9999 24 1 #[.int .u64 (a 0 : Int), .int .u64 (a 1 : Int), .int .u64 (a 2 : Int), .int .u64 (a 3 : Int)] #[.int .u64 (b 0 : Int), .int .u64 (b 1 : Int), .int .u64 (b 2 : Int), .int .u64 (b 3 : Int)] []) w = .ok true w := fun w => by simp [Op.eqItems]
  rw [step 0 (by omega), step 1 (by omega), step 2 (by omega), step 3 (by omega), last]
  cases a 0 == b 0 <;> cases a 1 == b 1 <;> cases a 2 == b 2 <;> cases a 3 == b 3 <;> rfl
theorem eq_deal0 (h : Nat → Nat) (w : World) : Sem.run Tryd.prog (Op.equalIn 10000 26 (.agg #[.int .u64 (h 0 : Int), .int .u64 (h 1 : Int), .int .u64 (h 2 : Int), .int .u64 (h 3 : Int)]) (.agg #[.int .u64 0, .int .u64 0, .int .u64 0, .int .u64 0])) w = .ok (h 0 == 0 && h 1 == 0 && h 2 == 0 && h 3 == 0) w := eq_deal h (fun _ => 0) w
theorem ply_made {w : World} {B base : Nat} {p : Ply} {vs vb : Value} (hp : p.ok) (h : PlyAt w B base p vs vb) :
    Calls Tryd.prog 41 #[.pointer (some ⟨B, 0, none⟩)] w fun e w' => e = .returned (.bool true) ∧ w = w' := by
  have hR := h.row
  have c10 := hR.cell 10
  simp only [List.getElem?_toArray, List.getElem?_cons_zero, List.getElem?_cons_succ] at c10
  have hl : ((p.lv : Int) != 0) = true := by rw [bne_iff_ne]; have := hp.lv; omega
  go_enter Tryd.func41, Tryd.ntmps41
  go_wp2_with fail
  go_ret
  exact ⟨rfl, rfl⟩
theorem ply_over {w : World} {B base : Nat} {p : Ply} {vs vb : Value} (h : PlyAt w B base p vs vb) :
    Calls Tryd.prog 42 #[.pointer (some ⟨B, 0, none⟩)] w fun e w' => e = .returned (.bool p.st.over) ∧ w = w' := by
  have hR := h.row
  have c0 := hR.cell 0
  have c1 := hR.cell 1
  have c2 := hR.cell 2
  have c3 := hR.cell 3
  simp only [List.getElem?_toArray, List.getElem?_cons_zero, List.getElem?_cons_succ] at c0 c1 c2 c3
  have hq := eq_deal0 p.st.h
  go_enter Tryd.func42, Tryd.ntmps42
  go_wp2_with fail
  go_ret
  exact ⟨rfl, rfl⟩
theorem ply_next {w : World} {B : Nat} {p : Ply} {vs vb : Value} (hst : p.st.ok) (hR : Row w B 85 (p.cells vs vb)) :
    Calls Tryd.prog 44 #[.pointer (some ⟨B, 0, none⟩)] w fun e w' => e = .returned (.int .u8 (p.st.next : Int)) ∧ Below w.heap.size w w' := by
  have c4 := hR.cell 4
  have c5 := hR.cell 5
  simp only [List.getElem?_toArray, List.getElem?_cons_zero, List.getElem?_cons_succ] at c4 c5
  have rc4 := fun dd os => cell_regrown c4 dd os
  have rc5 := fun dd os => cell_regrown c5 dd os
  have hld := hst.ld
  have hct := hst.ct
  have ew : IntKind.u8.wrap ((p.st.ld : Int) + (p.st.ct : Int)) = (p.st.ld : Int) + (p.st.ct : Int) := by rw [IntKind.wrap_u8]; omega
  have et : ((p.st.ld : Int) + (p.st.ct : Int)).tmod 4 = (p.st.next : Int) := by rw [Int.tmod_eq_emod_of_nonneg (by omega)]; unfold PSt.next; omega
  have ew2 : IntKind.u8.wrap (p.st.next : Int) = (p.st.next : Int) := by rw [IntKind.wrap_u8]; unfold PSt.next; omega
  go_enter Tryd.func44, Tryd.ntmps44
  go_wp2_with fail
  refine wp_region_quiet_below (by kernel_rfl) (by kernel_rfl) ?_
  repeat (quiet_step (fail))
  refine wpQuiet_nil ?_
  rintro _ ⟨q, rfl⟩
  have hb9 := below_regrown w q.d q.os
  generalize grow (redrawn w q.d) q.os = w9 at *
  go_wp2_with fail
  go_ret
  exact ⟨rfl, hb9⟩
theorem ply_dummy {w : World} {B base : Nat} {p : Ply} {vs vb : Value} (hp : p.ok) (h : PlyAt w B base p vs vb) :
    Calls Tryd.prog 48 #[.pointer (some ⟨B, 0, none⟩)] w fun e w' => e = .returned (.int .u8 (p.dummy : Int)) ∧ w = w' := by
  have hR := h.row
  have c13 := hR.cell 13
  simp only [List.getElem?_toArray, List.getElem?_cons_zero, List.getElem?_cons_succ] at c13
  have hdc := hp.dc
  go_enter Tryd.func48, Tryd.ntmps48
  go_wp2_with fail
  go_ret
  exact ⟨by unfold Ply.dummy; rw [show (((p.dc + 2) % 4 : Nat) : Int) = ((p.dc : Int) + 2) % 4 by omega]; rfl, rfl⟩
theorem ply_turn {w : World} {B base : Nat} {p : Ply} {vs vb : Value} (hp : p.ok) (h : PlyAt w B base p vs vb) :
    Calls Tryd.prog 15 #[.pointer (some ⟨B, 0, none⟩)] w fun e w' => e = .returned (.tuple #[.int .u8 (p.turnV.1 : Int), .int .i64 (p.turnV.2 : Int)]) ∧ Below w.heap.size w w' := by
  have HM := Lib.hid (ply_made hp h)
  have HO := Lib.hid (ply_over h)
  have HN := Lib.hid (ply_next hp.st h.row)
  unfold Ply.turnV
  cases ho : p.st.over
  · rw [ho] at HO
    go_enter Tryd.func15, Tryd.ntmps15
    go_wp2_with (first
      | (go_at_call 41; refine HM.out.mono ?_; rintro e w' ⟨rfl, rfl⟩)
      | (go_at_call 42; refine HO.out.mono ?_; rintro e w' ⟨rfl, rfl⟩)
      | (go_at_call 44; refine HN.out.mono ?_; rintro e w' ⟨rfl, hb⟩))
    go_ret2
    exact ⟨rfl, hb⟩
  · rw [ho] at HO
    go_enter Tryd.func15, Tryd.ntmps15
    go_wp2_with (first
      | (go_at_call 41; refine HM.out.mono ?_; rintro e w' ⟨rfl, rfl⟩)
      | (go_at_call 42; refine HO.out.mono ?_; rintro e w' ⟨rfl, rfl⟩))
    go_ret2
    exact ⟨rfl, Below.refl _ _⟩
end Go.Proofs.YtginbellakkliaaDoor

/- Contracts of a play's methods Chooser, Hand, Legal, over this seat's program. -/
namespace Go.Proofs.YtginbellakkliaaDoor
open Go.RowKit Go.Shelf Go.Sort

theorem ply_trick {w : World} {B base : Nat} {p : Ply} {vs vb : Value} (hp : p.ok) (h : PlyAt w B base p vs vb) : Byt w (some ⟨B, 6, none⟩) p.st.ct p.st.trick := by
  have hl : p.st.trick.length = p.st.ct := by simp [PSt.trick]
  have hct := hp.st.ct
  have hg : ∀ i, i < p.st.ct → p.st.trick.getD i 0 = p.st.cs i := fun i hi => by
    unfold PSt.trick
    rw [List.getD_eq_getElem?_getD, List.getElem?_map, List.getElem?_range hi]; rfl
  refine ⟨hl, by omega, fun i => ?_, .inr ⟨B, 6, rfl, h.row.lt, fun i hi => ?_⟩⟩
  · rcases Nat.lt_or_ge i p.st.ct with hi | hi
    · rw [hg i hi]; have := hp.st.cs i; omega
    · rw [List.getD_eq_getElem?_getD, List.getElem?_eq_none (by omega)]; simp
  · rw [hg i hi, h.row.cell]
    rcases (show i = 0 ∨ i = 1 ∨ i = 2 by omega) with rfl | rfl | rfl <;> rfl
/-- the cards of a trick, cut out of the array -/
theorem trick_run (B k : Nat) (hk : k ≤ 4) (wx : World) : (Instr.sliceAt 80 (.pointer (some ⟨B, 6, none⟩)) none (some (.int .u8 (k : Int))) none).run Tryd.prog wx = .ok (.slice (some ⟨B, 6, none⟩) k 4) wx := by
  have hl : Tryd.prog.arrayLen 80 = 4 := by kernel_rfl
  have hsz : (sizeOf (Tryd.prog.elem 80)).run Tryd.prog wx = .ok 1 wx := by kernel_rfl
  rw [run_sliceAt_array_h wx 80 ⟨B, 6, none⟩ (by kernel_rfl) .u8 (k : Int) (by omega) (by rw [hl]; omega), hsz, hl]
  simp [Result.andThen, slicedAt, Addr.add]
def Ply.handV (p : Ply) (s : Nat) : Nat := if s ≤ 3 then p.st.h s else 0
theorem ply_hand {w : World} {B base : Nat} {p : Ply} {vs vb : Value} (hp : p.ok) (h : PlyAt w B base p vs vb) (s : Nat) (hs : s < 256) :
    Calls Tryd.prog 22 #[.pointer (some ⟨B, 0, none⟩), .int .u8 (s : Int)] w fun e w' => e = .returned (.int .u64 (p.handV s : Int)) ∧ w = w' := by
  have HM := Lib.hid (ply_made hp h)
  unfold Ply.handV
  by_cases h3 : s ≤ 3
  · rw [if_pos h3]
    have hc : w.cell? ⟨B, s, none⟩ = some (.int .u64 (p.st.h s : Int)) := by
      rw [h.row.cell]
      rcases (show s = 0 ∨ s = 1 ∨ s = 2 ∨ s = 3 by omega) with rfl | rfl | rfl | rfl <;> rfl
    have h3B : decide ((s : Int) > 3) = false := by rw [decide_eq_false_iff_not]; omega
    have h4I : (s : Int) < 4 := by omega
    have h4 : s < 4 := by omega
    go_enter Tryd.func22, Tryd.ntmps22
    go_wp2_with (go_at_call 41; refine HM.out.mono ?_; rintro e w' ⟨rfl, rfl⟩)
    go_ret
    exact ⟨rfl, rfl⟩
  · rw [if_neg h3]
    have h3B : decide ((s : Int) > 3) = true := by rw [decide_eq_true_eq]; omega
    go_enter Tryd.func22, Tryd.ntmps22
    go_wp2_with (go_at_call 41; refine HM.out.mono ?_; rintro e w' ⟨rfl, rfl⟩)
    go_ret
    exact ⟨rfl, rfl⟩
theorem ply_chooser {w : World} {B base : Nat} {p : Ply} {vs vb : Value} (hp : p.ok) (h : PlyAt w B base p vs vb) :
    Calls Tryd.prog 28 #[.pointer (some ⟨B, 0, none⟩)] w fun e w' => e = .returned (.tuple #[.int .u8 (p.chooserV.1 : Int), .int .i64 (p.chooserV.2 : Int)]) ∧ Below w.heap.size w w' := by
  have HT := Lib.hid (ply_turn hp h)
  have HD := Lib.hid (fun (w1 : World) (hb : Below w.heap.size w w1) => ply_dummy hp (h.below hb))
  unfold Ply.chooserV
  unfold Ply.turnV at HT
  cases ho : p.st.over
  · rw [ho] at HT
    simp only [Bool.false_eq_true, if_false] at HT ⊢
    by_cases hd : p.st.next = p.dummy
    · rw [if_pos hd]
      have hdB : ((p.st.next : Int) == (p.dummy : Int)) = true := by rw [hd]; simp
      go_enter Tryd.func28, Tryd.ntmps28
      go_wp2_with (first
        | (go_at_call 15; refine HT.out.mono ?_; rintro e w1 ⟨rfl, hb1⟩; have hR := h.row.below h.row.lt hb1; have c13 := hR.cell 13; simp only [List.getElem?_toArray, List.getElem?_cons_zero, List.getElem?_cons_succ] at c13)
        | (go_at_call 48; refine (HD.out _ hb1).mono ?_; rintro e w' ⟨rfl, rfl⟩))
      go_ret2
      exact ⟨rfl, hb1⟩
    · rw [if_neg hd]
      have hdB : ((p.st.next : Int) == (p.dummy : Int)) = false := by rw [beq_eq_false_iff_ne]; omega
      go_enter Tryd.func28, Tryd.ntmps28
      go_wp2_with (first
        | (go_at_call 15; refine HT.out.mono ?_; rintro e w1 ⟨rfl, hb1⟩)
        | (go_at_call 48; refine (HD.out _ hb1).mono ?_; rintro e w' ⟨rfl, rfl⟩))
      go_ret2
      exact ⟨rfl, hb1⟩
  · rw [ho] at HT
    simp only [if_true] at HT ⊢
    go_enter Tryd.func28, Tryd.ntmps28
    go_wp2_with (go_at_call 15; refine HT.out.mono ?_; rintro e w1 ⟨rfl, hb1⟩)
    go_ret2
    exact ⟨rfl, hb1⟩
set_option maxRecDepth 100000 in
theorem ply_legal {w : World} {B base : Nat} {p : Ply} {vs vb : Value} (hp : p.ok) (h : PlyAt w B base p vs vb) (hT : Tab w) :
    Calls Tryd.prog 14 #[.pointer (some ⟨B, 0, none⟩)] w fun e w' => e = .returned (.int .u64 (p.st.legal : Int)) ∧ Below w.heap.size w w' := by
  have HM := Lib.hid (ply_made hp h)
  have HO := Lib.hid (ply_over h)
  unfold PSt.legal
  cases ho : p.st.over
  · rw [ho] at HO
    have hn4 : p.st.next < 4 := by unfold PSt.next; omega
    have hn4I : (p.st.next : Int) < 4 := by omega
    have HN := Lib.hid (fun (w1 : World) (hb : Below w.heap.size w w1) => ply_next hp.st (h.below hb).row)
    have HP := Lib.hid (fun (w1 : World) (hb : Below w.heap.size w w1) => trick_Playable (p.st.h p.st.next) (some ⟨B, 6, none⟩) p.st.ct 4 p.st.trick w1 (ply_trick hp (h.below hb)) (hp.st.h _) (hT.below hT.pos hb))
    have hc : w.cell? ⟨B, p.st.next, none⟩ = some (.int .u64 (p.st.h p.st.next : Int)) := by
      rw [h.row.cell]
      rcases (show p.st.next = 0 ∨ p.st.next = 1 ∨ p.st.next = 2 ∨ p.st.next = 3 by omega) with h | h | h | h <;> rw [h] <;> rfl
    have rc := fun dd os => cell_regrown hc dd os
    have hR := h.row
    have c5 := hR.cell 5
    simp only [List.getElem?_toArray, List.getElem?_cons_zero, List.getElem?_cons_succ] at c5
    have rc5 := fun dd os => cell_regrown c5 dd os
    have hct := hp.st.ct
    have hsl := trick_run B p.st.ct (by omega)
    go_enter Tryd.func14, Tryd.ntmps14
    go_wp2_with (first
      | (go_at_call 41; refine HM.out.mono ?_; rintro e w' ⟨rfl, rfl⟩)
      | (go_at_call 42; refine HO.out.mono ?_; rintro e w' ⟨rfl, rfl⟩))
    refine wp_region_quiet_below (by kernel_rfl) (by kernel_rfl) ?_
    repeat (quiet_step (first | exact Calls.regrown_of (HN.out _ (below_regrown _ _ _)) | exact Calls.regrown_of (HP.out _ (below_regrown _ _ _))))
    refine wpQuiet_nil ?_
    rintro _ ⟨q, rfl⟩
    have hb9 := below_regrown w q.d q.os
    generalize grow (redrawn w q.d) q.os = w9 at *
    go_wp2_with fail
    go_ret
    exact ⟨rfl, hb9⟩
  · rw [ho] at HO
    go_enter Tryd.func14, Tryd.ntmps14
    go_wp2_with (first
      | (go_at_call 41; refine HM.out.mono ?_; rintro e w' ⟨rfl, rfl⟩)
      | (go_at_call 42; refine HO.out.mono ?_; rintro e w' ⟨rfl, rfl⟩))
    go_ret
    exact ⟨rfl, Below.refl _ _⟩
end Go.Proofs.YtginbellakkliaaDoor
