/- The contract of a table's method put, over this seat's program. -/
import Derived.Test.YtgnlmodaekfhfaaDoorLdC
import Derived.Deep.AppendLies
import Derived.Deep.Cut
import Derived.Deep.RegionLaw
namespace Go.Proofs.YtgnlmodaekfhfaaDoor
open Go.RowKit Go.Shelf Go.Sort

/-- cells of a table that are set -/
theorem st_hset (s : St) (k v : Nat) (hk : k < 4) : s.cells.setIfInBounds k (.int .u64 (v : Int)) = ({ s with h := setH s.h k v } : St).cells := by
  rcases (show k = 0 ∨ k = 1 ∨ k = 2 ∨ k = 3 by omega) with rfl | rfl | rfl | rfl <;> rfl
theorem st_pset (s : St) (k v : Nat) (hk : k < 4) : s.cells.setIfInBounds (4 + k) (.int .u64 (v : Int)) = ({ s with pn := setH s.pn k v } : St).cells := by
  rcases (show k = 0 ∨ k = 1 ∨ k = 2 ∨ k = 3 by omega) with rfl | rfl | rfl | rfl <;> rfl
theorem st_cset (s : St) (k v : Nat) (hk : k < 4) : s.cells.setIfInBounds (12 + k) (.int .u8 (v : Int)) = ({ s with cs := setH s.cs k v } : St).cells := by
  rcases (show k = 0 ∨ k = 1 ∨ k = 2 ∨ k = 3 by omega) with rfl | rfl | rfl | rfl <;> rfl
theorem st_wset (s : St) (k v : Nat) (hk : k < 2) : s.cells.setIfInBounds (22 + k) (.int .u8 (v : Int)) = ({ s with w := setH s.w k v } : St).cells := by
  rcases (show k = 0 ∨ k = 1 by omega) with rfl | rfl <;> rfl
/-- a table under change -/
structure LMid (w0 w : World) (B : Nat) (s : St) : Prop where
  row : TblAt w B s
  kp : Kept (fun k => k ≠ B) w0 w
theorem LMid.below {w0 w w' : World} {B : Nat} {s : St} (h : LMid w0 w B s) (hb : Below w.heap.size w w') : LMid w0 w' B s :=
  ⟨h.row.below h.row.lt hb, h.kp.trans (Kept.of_below hb)⟩
theorem LMid.set {w0 w : World} {B : Nat} {s s' : St} (h : LMid w0 w B s) {i : Nat} {v : Value} (he : s.cells.setIfInBounds i v = s'.cells) : LMid w0 (w.setCell ⟨B, i, none⟩ v) B s' :=
  ⟨by have := h.row.set i v; rw [he] at this; exact this, h.kp.setCell (fun hk => hk rfl) _⟩
theorem four_run14 (B : Nat) (wx : World) : (Instr.sliceAt 42 (.pointer (some ⟨B, 12, none⟩)) none none none).run Tryd.prog wx = .ok (.slice (some ⟨B, 12, none⟩) 4 4) wx := by
  have hl : Tryd.prog.arrayLen 42 = 4 := by kernel_rfl
  have hsz : (sizeOf (Tryd.prog.elem 42)).run Tryd.prog wx = .ok 1 wx := by kernel_rfl
  rw [run_sliceAt_array_all wx 42 ⟨B, 12, none⟩ (by kernel_rfl), hsz, hl]
  simp [Result.andThen, slicedAt, Addr.add]
theorem trick_byt {w : World} {B : Nat} {s : St} (h : TblAt w B s) (hs : ∀ j, j < 4 → s.cs j < 256) {n : Nat} (hn : n ≤ 4) : Byt w (some ⟨B, 12, none⟩) n ((List.range n).map s.cs) := by
  refine ⟨by simp, by omega, fun i => ?_, .inr ⟨B, 12, rfl, h.lt, fun i hi => ?_⟩⟩
  · rw [List.getD_eq_getElem?_getD, List.getElem?_map]
    by_cases hi : i < n
    · rw [List.getElem?_range hi]; exact hs i (by omega)
    · rw [List.getElem?_eq_none (by simpa using hi)]; show 0 < 256; omega
  · rw [h.cell, List.getD_eq_getElem?_getD, List.getElem?_map, List.getElem?_range hi]
    rcases (show i = 0 ∨ i = 1 ∨ i = 2 ∨ i = 3 by omega) with rfl | rfl | rfl | rfl <;> rfl
set_option maxHeartbeats 1000000 in
set_option maxRecDepth 100000 in
theorem ld_put {w : World} {B c : Nat} {s : St} (hs : s.ok) (h : TblAt w B s) (hc : c < 52) :
    Calls Tryd.prog 31 #[.pointer (some ⟨B, 0, none⟩), .int .u8 (c : Int)] w fun e w' => e = .returned (.tuple #[]) ∧ TblAt w' B (s.put c) ∧ Kept (fun k => k ≠ B) w w' := by
  have HM0 : LMid w w B s := ⟨h, Kept.refl _ _⟩
  have HT := Lib.hid (fun (w1 : World) (hb : Below w.heap.size w w1) => ld_turn hs (h.below h.lt hb))
  have hn4 := s.turn_lt
  have hn4I : (s.turn : Int) < 4 := by omega
  have hct := hs.ct
  have hctI : (s.ct : Int) < 4 := by omega
  obtain ⟨m, hme, hmw⟩ : ∃ m, m = s.h s.turn ∧ W64 m := ⟨_, rfl, w64_52 (hs.h _ hn4)⟩
  obtain ⟨m', hme', hmw'⟩ : ∃ m, m = s.pn s.turn ∧ W64 m := ⟨_, rfl, w64_52 (hs.pn _ hn4)⟩
  have HME := Lib.hid hme
  have HME' := Lib.hid hme'
  have hzw := W64.shl1 c
  clear hme hme'
  go_enter Tryd.func31, Tryd.ntmps31
  go_wp2_with fail
  refine wp_region_quiet_below (by kernel_rfl) (by kernel_rfl) ?_
  repeat (first | go_big_quiet_step (fail) | quiet_step (with_reducible exact Calls.regrown_of (HT.out _ (below_regrown _ _ _))))
  refine wpQuiet_nil ?_
  rintro _ ⟨q, rfl⟩
  have hb1 := below_regrown w q.d q.os
  generalize grow (redrawn w q.d) q.os = w1 at *
  have HM1 := HM0.below hb1
  have c1 : w1.cell? ⟨B, s.turn, none⟩ = some (.int .u64 (m : Int)) := by
    rw [HM1.row.cell, HME.out]
    rcases (show s.turn = 0 ∨ s.turn = 1 ∨ s.turn = 2 ∨ s.turn = 3 by omega) with h | h | h | h <;> rw [h] <;> rfl
  have rc1 := fun dd os => cell_regrown c1 dd os
  clear hb1 HM0 HT h
  go_upto_region 1 with fail
  refine wp_region_below_tail 12 (by kernel_rfl) (by kernel_rfl) ?_
  simp only [List.take_succ_cons, List.take_zero, List.drop_succ_cons, List.drop_zero]
  repeat (quiet_step (fail))
  refine wpQuiet_nil ?_
  rintro _ ⟨q, rfl⟩
  have hb2 := below_regrown w1 q.d q.os
  have c2 := rc1 q.d q.os
  generalize grow (redrawn w1 q.d) q.os = w2 at *
  have HM2 := HM1.below hb2
  have f2 := HM2.row.frozen s.turn
  have HM3 := HM2.set (st_hset s s.turn (landn m (shl1 c)) hn4)
  clear rc1 c1 hb2 HM1
  go_upto_region 2 with fail
  clear c2 f2 HM2
  generalize w2.setCell ⟨B, s.turn, none⟩ (.int .u64 ((landn m (shl1 c) : Nat) : Int)) = w3 at *
  have c3 : w3.cell? ⟨B, 4 + s.turn, none⟩ = some (.int .u64 (m' : Int)) := by
    rw [HM3.row.cell, HME'.out]
    rcases (show s.turn = 0 ∨ s.turn = 1 ∨ s.turn = 2 ∨ s.turn = 3 by omega) with h | h | h | h <;> rw [h] <;> rfl
  have rc3 := fun dd os => cell_regrown c3 dd os
  refine wp_region_below_tail 12 (by kernel_rfl) (by kernel_rfl) ?_
  simp only [List.take_succ_cons, List.take_zero, List.drop_succ_cons, List.drop_zero]
  repeat (quiet_step (fail))
  refine wpQuiet_nil ?_
  rintro _ ⟨q, rfl⟩
  have hb4 := below_regrown w3 q.d q.os
  have c4 := rc3 q.d q.os
  generalize grow (redrawn w3 q.d) q.os = w4 at *
  have HM4 := HM3.below hb4
  have f4 := HM4.row.frozen (4 + s.turn)
  have HM5 := HM4.set (st_pset _ s.turn (landn m' (shl1 c)) hn4)
  clear rc3 c3 hb4 HM3
  go_upto_region 3 with fail
  clear c4 f4 HM4
  generalize w4.setCell ⟨B, 4 + s.turn, none⟩ (.int .u64 ((landn m' (shl1 c) : Nat) : Int)) = w5 at *
  have c5 : w5.cell? ⟨B, 11, none⟩ = some (.int .u8 (s.ct : Int)) := HM5.row.cell 11
  have rc5 := fun dd os => cell_regrown c5 dd os
  refine wp_region_below_tail 9 (by kernel_rfl) (by kernel_rfl) ?_
  simp only [List.take_succ_cons, List.take_zero, List.drop_succ_cons, List.drop_zero]
  repeat (quiet_step (fail))
  refine wpQuiet_nil ?_
  rintro _ ⟨q, rfl⟩
  have hb6 := below_regrown w5 q.d q.os
  generalize grow (redrawn w5 q.d) q.os = w6 at *
  have HM6 := HM5.below hb6
  obtain ⟨z6, c6⟩ : ∃ z : Nat, w6.cell? ⟨B, 12 + s.ct, none⟩ = some (.int .u8 (z : Int)) := by
    rw [HM6.row.cell]
    rcases (show s.ct = 0 ∨ s.ct = 1 ∨ s.ct = 2 ∨ s.ct = 3 by omega) with h | h | h | h <;> rw [h] <;> exact ⟨_, rfl⟩
  have f6 := HM6.row.frozen (12 + s.ct)
  have HM7 := HM6.set (st_cset _ s.ct c hct)
  clear rc5 hb6 HM5
  go_upto_region 4 with fail
  clear c6 f6 c5 HM6
  generalize w6.setCell ⟨B, 12 + s.ct, none⟩ (.int .u8 (c : Int)) = w7 at *
  have c7 : w7.cell? ⟨B, 11, none⟩ = some (.int .u8 (s.ct : Int)) := HM7.row.cell 11
  have f7 := HM7.row.frozen 11
  have ew : IntKind.u8.wrap ((s.ct : Int) + 1) = (s.ct : Int) + 1 := by rw [IntKind.wrap_u8]; omega
  have HM8 : LMid w (w7.setCell ⟨B, 11, none⟩ (.int .u8 ((s.ct : Int) + 1))) B { s with h := setH s.h s.turn (landn m (shl1 c)), pn := setH s.pn s.turn (landn m' (shl1 c)), cs := setH s.cs s.ct c, ct := s.ct + 1 } := HM7.set rfl
  go_upto_region 5 with fail
  clear c7 f7 HM7
  generalize w7.setCell ⟨B, 11, none⟩ (.int .u8 ((s.ct : Int) + 1)) = w8 at *
  have g19 := HM8.row.frozen 19
  have g20 := HM8.row.frozen 20
  have c19 := HM8.row.cell 19
  have c20 := HM8.row.cell 20
  simp only [List.getElem?_toArray, List.getElem?_cons_zero, List.getElem?_cons_succ] at c19 c20
  have HM9 : LMid w ((w8.setCell ⟨B, 19, none⟩ (.bool false)).setCell ⟨B, 20, none⟩ (.int .u8 0)) B { s with h := setH s.h s.turn (landn m (shl1 c)), pn := setH s.pn s.turn (landn m' (shl1 c)), cs := setH s.cs s.ct c, ct := s.ct + 1, opn := false, must := 0 } :=
    (HM8.set (s' := { s with h := setH s.h s.turn (landn m (shl1 c)), pn := setH s.pn s.turn (landn m' (shl1 c)), cs := setH s.cs s.ct c, ct := s.ct + 1, opn := false }) rfl).set rfl
  go_upto_region 6 with fail
  clear g19 g20 c19 c20 HM8
  generalize (w8.setCell ⟨B, 19, none⟩ (.bool false)).setCell ⟨B, 20, none⟩ (.int .u8 0) = w9 at *
  have c9 : w9.cell? ⟨B, 11, none⟩ = some (.int .u8 ((s.ct : Int) + 1)) := HM9.row.cell 11
  by_cases h3 : s.ct = 3
  · have h3B : decide ((s.ct : Int) + 1 < 4) = false := by rw [decide_eq_false_iff_not]; omega
    have H3 := Lib.hid h3
    clear h3
    go_upto_region 7 with fail
    clear c9
    have c10 : w9.cell? ⟨B, 10, none⟩ = some (.int .u8 (s.ld : Int)) := HM9.row.cell 10
    have c8 : w9.cell? ⟨B, 8, none⟩ = some (.int .u8 (s.tm : Int)) := HM9.row.cell 8
    have rc10 := fun dd os => cell_regrown c10 dd os
    have rc8 := fun dd os => cell_regrown c8 dd os
    have hfr := four_run14 B
    have hby : Byt w9 (some ⟨B, 12, none⟩) 4 [s.cs 0, s.cs 1, s.cs 2, c] := by
      have := trick_byt HM9.row (n := 4) (fun j hj => Nat.lt_trans (setH_lt (s := s.ct) hs.cs hc j hj) (by omega)) (Nat.le_refl _)
      rw [show (List.range 4).map (setH s.cs s.ct c) = [s.cs 0, s.cs 1, s.cs 2, c] by rw [H3.out]; rfl] at this
      exact this
    have HSE := Lib.hid (fun (w1 : World) (hb : Below w9.heap.size w9 w1) => trick_Seat s.tm s.ld (some ⟨B, 12, none⟩) 4 4 _ w1 (hby.below (Nat.le_refl _) hb))
    obtain ⟨sv, hsv⟩ : ∃ sv, sv = seatV s.tm s.ld [s.cs 0, s.cs 1, s.cs 2, c] := ⟨_, rfl⟩
    rw [← hsv] at HSE
    have HSV := Lib.hid hsv
    have hs4 : sv.1 < 4 := by rw [hsv]; exact s.win_lt c
    clear hsv hby
    refine wp_region_quiet_below (by kernel_rfl) (by kernel_rfl) ?_
    repeat (first | go_big_quiet_step (fail) | quiet_step (with_reducible exact Calls.regrown_of (HSE.out _ (below_regrown _ _ _))))
    refine wpQuiet_nil ?_
    rintro _ ⟨q, rfl⟩
    have hb10 := below_regrown w9 q.d q.os
    generalize grow (redrawn w9 q.d) q.os = w10 at *
    have HM10 := HM9.below hb10
    clear c10 c8 rc10 rc8 hb10 HM9 hfr
    go_upto_region 8 with fail
    have c11 : w10.cell? ⟨B, 10, none⟩ = some (.int .u8 (s.ld : Int)) := HM10.row.cell 10
    have g21 := HM10.row.frozen 21
    have c21 : w10.cell? ⟨B, 21, none⟩ = some (.int .u8 (s.nt : Int)) := HM10.row.cell 21
    have hld4 := hs.ld
    obtain ⟨k, hk, hsm⟩ : ∃ k, k = sv.1 % 2 ∧ k < 2 := ⟨_, rfl, Nat.mod_lt _ (by decide)⟩
    have hsmI : (k : Int) < 2 := by omega
    have t1 : ((sv.1 : Int)).tmod 2 = (k : Int) := by rw [Int.tmod_eq_emod_of_nonneg (by omega)]; omega
    have e1 : IntKind.u8.wrap (k : Int) = (k : Int) := by rw [IntKind.wrap_u8]; omega
    obtain ⟨wv, hwv, hwv6⟩ : ∃ wv, wv = s.w k ∧ wv < 256 := ⟨_, rfl, hs.w _ hsm⟩
    have HWV := Lib.hid hwv
    have HK := Lib.hid hk
    clear hwv hk
    obtain ⟨wx, hwx⟩ : ∃ x, x = (wv + 1) % 256 := ⟨_, rfl⟩
    have e2 : IntKind.u8.wrap ((wv : Int) + 1) = (wx : Int) := by rw [IntKind.wrap_u8]; omega
    have HWX := Lib.hid hwx
    clear hwx
    obtain ⟨nv, hnv⟩ : ∃ nv, nv = if sv.1 = s.ld then s.nt else 0 := ⟨_, rfl⟩
    have HNV := Lib.hid hnv
    have H21 : sv.1 ≠ s.ld → LMid w (w10.setCell ⟨B, 21, none⟩ (.int .u8 0)) B { s with h := setH s.h s.turn (landn m (shl1 c)), pn := setH s.pn s.turn (landn m' (shl1 c)), opn := false, must := 0, cs := setH s.cs s.ct c, ct := s.ct + 1, nt := nv } := fun hne => by
      have e : nv = 0 := by rw [hnv, if_neg hne]
      rw [e]
      exact HM10.set (s' := { s with h := setH s.h s.turn (landn m (shl1 c)), pn := setH s.pn s.turn (landn m' (shl1 c)), opn := false, must := 0, cs := setH s.cs s.ct c, ct := s.ct + 1, nt := 0 }) rfl
    have H20 : sv.1 = s.ld → LMid w w10 B { s with h := setH s.h s.turn (landn m (shl1 c)), pn := setH s.pn s.turn (landn m' (shl1 c)), opn := false, must := 0, cs := setH s.cs s.ct c, ct := s.ct + 1, nt := nv } := fun he => by
      have e : nv = s.nt := by rw [hnv, if_pos he]
      rw [e]
      exact HM10
    have H21 := Lib.hid H21
    have H20 := Lib.hid H20
    clear hnv HM10
    by_cases hsl : sv.1 = s.ld
    · have HM11 := H20.out hsl
      have h8 : (((sv.1 : Int)) != (s.ld : Int)) = false := by rw [bne_cast, hsl]; simp
      clear hsl
      go_upto_region 10 with fail
      clear h8 c11 g21 c21
      generalize w10 = w11 at *
      have c22 : w11.cell? ⟨B, 22 + k, none⟩ = some (.int .u8 (wv : Int)) := by
        rw [HM11.row.cell, HWV.out]
        rcases (show k = 0 ∨ k = 1 by omega) with h | h <;> rw [h] <;> rfl
      have rc22 := fun dd os => cell_regrown c22 dd os
      refine wp_region_below_tail 11 (by kernel_rfl) (by kernel_rfl) ?_
      simp only [List.take_succ_cons, List.take_zero, List.drop_succ_cons, List.drop_zero]
      repeat (quiet_step (fail))
      refine wpQuiet_nil ?_
      rintro _ ⟨q, rfl⟩
      have hb12 := below_regrown w11 q.d q.os
      have c23 := rc22 q.d q.os
      generalize grow (redrawn w11 q.d) q.os = w12 at *
      have HM12 := HM11.below hb12
      have f12 := HM12.row.frozen (22 + k)
      have HM13 := HM12.set (s' := { s with h := setH s.h s.turn (landn m (shl1 c)), pn := setH s.pn s.turn (landn m' (shl1 c)), opn := false, must := 0, cs := setH s.cs s.ct c, ct := s.ct + 1, nt := nv, w := setH s.w (k) wx }) (st_wset _ (k) wx hsm)
      clear rc22 c22 hb12 HM11
      go_upto_region 11 with fail
      clear c23 f12 HM12
      generalize w12.setCell ⟨B, 22 + k, none⟩ (.int .u8 (wx : Int)) = w13 at *
      have g10 := HM13.row.frozen 10
      have g11 := HM13.row.frozen 11
      have g12 := HM13.row.frozen 12
      have g13 := HM13.row.frozen 13
      have g14 := HM13.row.frozen 14
      have g15 := HM13.row.frozen 15
      have hR13 := HM13.row
      have d10 := hR13.cell 10
      have d11 := hR13.cell 11
      have d12 := hR13.cell 12
      have d13 := hR13.cell 13
      have d14 := hR13.cell 14
      have d15 := hR13.cell 15
      simp only [List.getElem?_toArray, List.getElem?_cons_zero, List.getElem?_cons_succ] at d10 d11 d12 d13 d14 d15
      have HM14 := HM13.set (s' := { s with h := setH s.h s.turn (landn m (shl1 c)), pn := setH s.pn s.turn (landn m' (shl1 c)), opn := false, must := 0, cs := setH s.cs s.ct c, ct := s.ct + 1, nt := nv, ld := sv.1, w := setH s.w (k) wx }) (i := 10) (v := .int .u8 (sv.1 : Int)) rfl
      have HM15 := HM14.set (s' := { s with h := setH s.h s.turn (landn m (shl1 c)), pn := setH s.pn s.turn (landn m' (shl1 c)), opn := false, must := 0, cs := setH s.cs s.ct c, ct := 0, nt := nv, ld := sv.1, w := setH s.w (k) wx }) (i := 11) (v := .int .u8 0) rfl
      have HM16 := (((HM15.set (s' := { s with h := setH s.h s.turn (landn m (shl1 c)), pn := setH s.pn s.turn (landn m' (shl1 c)), opn := false, must := 0, cs := setH (setH s.cs s.ct c) 0 0, ct := 0, nt := nv, ld := sv.1, w := setH s.w (k) wx }) (i := 12) (v := .int .u8 0) rfl).set (s' := { s with h := setH s.h s.turn (landn m (shl1 c)), pn := setH s.pn s.turn (landn m' (shl1 c)), opn := false, must := 0, cs := setH (setH (setH s.cs s.ct c) 0 0) 1 0, ct := 0, nt := nv, ld := sv.1, w := setH s.w (k) wx }) (i := 13) (v := .int .u8 0) rfl).set (s' := { s with h := setH s.h s.turn (landn m (shl1 c)), pn := setH s.pn s.turn (landn m' (shl1 c)), opn := false, must := 0, cs := setH (setH (setH (setH s.cs s.ct c) 0 0) 1 0) 2 0, ct := 0, nt := nv, ld := sv.1, w := setH s.w (k) wx }) (i := 14) (v := .int .u8 0) rfl).set (s' := { s with h := setH s.h s.turn (landn m (shl1 c)), pn := setH s.pn s.turn (landn m' (shl1 c)), opn := false, must := 0, cs := fun _ => 0, ct := 0, nt := nv, ld := sv.1, w := setH s.w (k) wx }) (i := 15) (v := .int .u8 0) rfl
      go_wp2_with fail
      go_end0
      have hpe : s.put c = { s with h := setH s.h s.turn (landn m (shl1 c)), pn := setH s.pn s.turn (landn m' (shl1 c)), opn := false, must := 0, cs := fun _ => 0, ct := 0, nt := nv, ld := sv.1, w := setH s.w (k) wx } := by
        unfold St.put St.win
        rw [if_pos H3.out, HME.out, HME'.out, HNV.out, HWX.out, HWV.out, HK.out, HSV.out]
      refine ⟨rfl, ?_, HM16.kp⟩
      rw [hpe]
      exact HM16.row
    · have HM11 := H21.out hsl
      have h8 : (((sv.1 : Int)) != (s.ld : Int)) = true := by rw [bne_cast, bne_iff_ne]; exact hsl
      clear hsl
      go_upto_region 10 with fail
      clear h8 c11 g21 c21
      generalize w10.setCell ⟨B, 21, none⟩ (.int .u8 0) = w11 at *
      have c22 : w11.cell? ⟨B, 22 + k, none⟩ = some (.int .u8 (wv : Int)) := by
        rw [HM11.row.cell, HWV.out]
        rcases (show k = 0 ∨ k = 1 by omega) with h | h <;> rw [h] <;> rfl
      have rc22 := fun dd os => cell_regrown c22 dd os
      refine wp_region_below_tail 11 (by kernel_rfl) (by kernel_rfl) ?_
      simp only [List.take_succ_cons, List.take_zero, List.drop_succ_cons, List.drop_zero]
      repeat (quiet_step (fail))
      refine wpQuiet_nil ?_
      rintro _ ⟨q, rfl⟩
      have hb12 := below_regrown w11 q.d q.os
      have c23 := rc22 q.d q.os
      generalize grow (redrawn w11 q.d) q.os = w12 at *
      have HM12 := HM11.below hb12
      have f12 := HM12.row.frozen (22 + k)
      have HM13 := HM12.set (s' := { s with h := setH s.h s.turn (landn m (shl1 c)), pn := setH s.pn s.turn (landn m' (shl1 c)), opn := false, must := 0, cs := setH s.cs s.ct c, ct := s.ct + 1, nt := nv, w := setH s.w (k) wx }) (st_wset _ (k) wx hsm)
      clear rc22 c22 hb12 HM11
      go_upto_region 11 with fail
      clear c23 f12 HM12
      generalize w12.setCell ⟨B, 22 + k, none⟩ (.int .u8 (wx : Int)) = w13 at *
      have g10 := HM13.row.frozen 10
      have g11 := HM13.row.frozen 11
      have g12 := HM13.row.frozen 12
      have g13 := HM13.row.frozen 13
      have g14 := HM13.row.frozen 14
      have g15 := HM13.row.frozen 15
      have hR13 := HM13.row
      have d10 := hR13.cell 10
      have d11 := hR13.cell 11
      have d12 := hR13.cell 12
      have d13 := hR13.cell 13
      have d14 := hR13.cell 14
      have d15 := hR13.cell 15
      simp only [List.getElem?_toArray, List.getElem?_cons_zero, List.getElem?_cons_succ] at d10 d11 d12 d13 d14 d15
      have HM14 := HM13.set (s' := { s with h := setH s.h s.turn (landn m (shl1 c)), pn := setH s.pn s.turn (landn m' (shl1 c)), opn := false, must := 0, cs := setH s.cs s.ct c, ct := s.ct + 1, nt := nv, ld := sv.1, w := setH s.w (k) wx }) (i := 10) (v := .int .u8 (sv.1 : Int)) rfl
      have HM15 := HM14.set (s' := { s with h := setH s.h s.turn (landn m (shl1 c)), pn := setH s.pn s.turn (landn m' (shl1 c)), opn := false, must := 0, cs := setH s.cs s.ct c, ct := 0, nt := nv, ld := sv.1, w := setH s.w (k) wx }) (i := 11) (v := .int .u8 0) rfl
      have HM16 := (((HM15.set (s' := { s with h := setH s.h s.turn (landn m (shl1 c)), pn := setH s.pn s.turn (landn m' (shl1 c)), opn := false, must := 0, cs := setH (setH s.cs s.ct c) 0 0, ct := 0, nt := nv, ld := sv.1, w := setH s.w (k) wx }) (i := 12) (v := .int .u8 0) rfl).set (s' := { s with h := setH s.h s.turn (landn m (shl1 c)), pn := setH s.pn s.turn (landn m' (shl1 c)), opn := false, must := 0, cs := setH (setH (setH s.cs s.ct c) 0 0) 1 0, ct := 0, nt := nv, ld := sv.1, w := setH s.w (k) wx }) (i := 13) (v := .int .u8 0) rfl).set (s' := { s with h := setH s.h s.turn (landn m (shl1 c)), pn := setH s.pn s.turn (landn m' (shl1 c)), opn := false, must := 0, cs := setH (setH (setH (setH s.cs s.ct c) 0 0) 1 0) 2 0, ct := 0, nt := nv, ld := sv.1, w := setH s.w (k) wx }) (i := 14) (v := .int .u8 0) rfl).set (s' := { s with h := setH s.h s.turn (landn m (shl1 c)), pn := setH s.pn s.turn (landn m' (shl1 c)), opn := false, must := 0, cs := fun _ => 0, ct := 0, nt := nv, ld := sv.1, w := setH s.w (k) wx }) (i := 15) (v := .int .u8 0) rfl
      go_wp2_with fail
      go_end0
      have hpe : s.put c = { s with h := setH s.h s.turn (landn m (shl1 c)), pn := setH s.pn s.turn (landn m' (shl1 c)), opn := false, must := 0, cs := fun _ => 0, ct := 0, nt := nv, ld := sv.1, w := setH s.w (k) wx } := by
        unfold St.put St.win
        rw [if_pos H3.out, HME.out, HME'.out, HNV.out, HWX.out, HWV.out, HK.out, HSV.out]
      refine ⟨rfl, ?_, HM16.kp⟩
      rw [hpe]
      exact HM16.row
  · have h3B : decide ((s.ct : Int) + 1 < 4) = true := by rw [decide_eq_true_eq]; omega
    go_wp2_with fail
    refine bodyPost_ret (results_none rfl _ _ _) rfl ?_
    have hpe : s.put c = { s with h := setH s.h s.turn (landn m (shl1 c)), pn := setH s.pn s.turn (landn m' (shl1 c)), cs := setH s.cs s.ct c, ct := s.ct + 1, opn := false, must := 0 } := by
      unfold St.put
      rw [if_neg h3, HME.out, HME'.out]
    refine ⟨rfl, ?_, HM9.kp⟩
    rw [hpe]
    exact HM9.row
end Go.Proofs.YtgnlmodaekfhfaaDoor
