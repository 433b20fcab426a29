/- Contracts of what can be chosen: accept, back, penalty, require, forbid, spread, over this seat's program. -/
import Derived.Test.YtgnlmodaekfhfaaDoorLdD
import Derived.Test.YtgnlmodaekfhfaaDoorBits8
namespace Go.Proofs.YtgnlmodaekfhfaaDoor
open Go.RowKit Go.Shelf Go.Sort

theorem ld_accept {w : World} {B : Nat} {s : St} (hs : s.ok) (h : TblAt w B s) :
    Calls Tryd.prog 42 #[.pointer (some ⟨B, 0, none⟩)] w fun e w' => e = .returned (.tuple #[]) ∧ TblAt w' B s.accept ∧ Kept (fun k => k ≠ B) w w' := by
  have HM0 : LMid w w B s := ⟨h, Kept.refl _ _⟩
  have c16 := h.cell 16
  have c10 := h.cell 10
  have c21 := h.cell 21
  simp only [List.getElem?_toArray, List.getElem?_cons_zero, List.getElem?_cons_succ] at c16 c10 c21
  have g10 := h.frozen 10
  have g21 := h.frozen 21
  have HM2 : LMid w ((w.setCell ⟨B, 10, none⟩ (.int .u8 (s.seat : Int))).setCell ⟨B, 21, none⟩ (.int .u8 0)) B { s with ld := s.seat, nt := 0 } :=
    (HM0.set (s' := { s with ld := s.seat }) rfl).set rfl
  have hok : ({ s with ld := s.seat, nt := 0 } : St).ok := ⟨hs.h, hs.pn, hs.tm, hs.dc, hs.seat, hs.ct, hs.cs, hs.seat, hs.card, hs.must, Nat.zero_lt_succ 15, hs.w⟩
  have hcd := hs.card
  go_enter Tryd.func42, Tryd.ntmps42
  go_upto_region 1 with fail
  clear c10 c16 c21 g10 g21
  generalize (w.setCell ⟨B, 10, none⟩ (.int .u8 (s.seat : Int))).setCell ⟨B, 21, none⟩ (.int .u8 0) = w2 at *
  have c17 : w2.cell? ⟨B, 17, none⟩ = some (.int .u8 (s.card : Int)) := HM2.row.cell 17
  have HP := Lib.hid (ld_put hok HM2.row hcd)
  go_wp2_with (go_at_call 31; refine HP.out.mono ?_; rintro e w3 ⟨rfl, hr3, hk3⟩)
  go_end0
  exact ⟨rfl, hr3, HM2.kp.trans hk3⟩
theorem ld_back {w : World} {B : Nat} :
    Calls Tryd.prog 44 #[.pointer (some ⟨B, 0, none⟩)] w fun e w' => e = .returned (.tuple #[]) ∧ w = w' := by
  go_enter Tryd.func44, Tryd.ntmps44
  go_wp2_with fail
  go_end0
  exact ⟨rfl, rfl⟩
theorem ld_spread {w : World} {B : Nat} {s : St} (hs : s.ok) (h : TblAt w B s) :
    Calls Tryd.prog 51 #[.pointer (some ⟨B, 0, none⟩)] w fun e w' => e = .returned (.tuple #[]) ∧ TblAt w' B ({ s with dc := (s.dc + 2) % 4 } : St).accept ∧ Kept (fun k => k ≠ B) w w' := by
  have HM0 : LMid w w B s := ⟨h, Kept.refl _ _⟩
  have c9 := h.cell 9
  simp only [List.getElem?_toArray, List.getElem?_cons_zero, List.getElem?_cons_succ] at c9
  have g9 := h.frozen 9
  obtain ⟨x, hx⟩ : ∃ x, x = (s.dc + 2) % 4 := ⟨_, rfl⟩
  have hdc := hs.dc
  have t1 : IntKind.u8.wrap ((s.dc : Int) + 2) = ((s.dc + 2 : Nat) : Int) := by rw [IntKind.wrap_u8]; omega
  have t2 : (((s.dc + 2 : Nat) : Int)).tmod 4 = (x : Int) := by rw [Int.tmod_eq_emod_of_nonneg (by omega)]; omega
  have t2' : ((s.dc : Int) + 2).tmod 4 = (x : Int) := by rw [Int.tmod_eq_emod_of_nonneg (by omega)]; omega
  have t3 : IntKind.u8.wrap (x : Int) = (x : Int) := by rw [IntKind.wrap_u8]; omega
  have hok : ({ s with dc := x } : St).ok := ⟨hs.h, hs.pn, hs.tm, by show x < 4; omega, hs.ld, hs.ct, hs.cs, hs.seat, hs.card, hs.must, hs.nt, hs.w⟩
  have HM1 : LMid w (w.setCell ⟨B, 9, none⟩ (.int .u8 (x : Int))) B { s with dc := x } := HM0.set rfl
  rw [← hx]
  clear hx
  go_enter Tryd.func51, Tryd.ntmps51
  go_upto_region 1 with fail
  clear c9 g9
  generalize w.setCell ⟨B, 9, none⟩ (.int .u8 (x : Int)) = w2 at *
  have HP := Lib.hid (ld_accept hok HM1.row)
  go_wp2_with (go_at_call 42; refine HP.out.mono ?_; rintro e w3 ⟨rfl, hr3, hk3⟩)
  go_end0
  exact ⟨rfl, hr3, HM1.kp.trans hk3⟩
theorem ld_penalty {w : World} {B : Nat} {s : St} (hs : s.ok) (h : TblAt w B s) :
    Calls Tryd.prog 46 #[.pointer (some ⟨B, 0, none⟩)] w fun e w' => e = .returned (.tuple #[]) ∧ TblAt w' B { s with pn := setH s.pn s.seat (lor (s.pn s.seat) (shl1 s.card)) } ∧ Kept (fun k => k ≠ B) w w' := by
  have HM0 : LMid w w B s := ⟨h, Kept.refl _ _⟩
  have c16 := h.cell 16
  have c17 := h.cell 17
  simp only [List.getElem?_toArray, List.getElem?_cons_zero, List.getElem?_cons_succ] at c16 c17
  have rc16 := fun dd os => cell_regrown c16 dd os
  have rc17 := fun dd os => cell_regrown c17 dd os
  have hse := hs.seat
  have hseI : (s.seat : Int) < 4 := by omega
  obtain ⟨m, hme, hmw⟩ : ∃ m, m = s.pn s.seat ∧ W64 m := ⟨_, rfl, w64_52 (hs.pn _ hse)⟩
  have c4 : w.cell? ⟨B, 4 + s.seat, none⟩ = some (.int .u64 (m : Int)) := by
    rw [h.cell, hme]
    rcases (show s.seat = 0 ∨ s.seat = 1 ∨ s.seat = 2 ∨ s.seat = 3 by omega) with h | h | h | h <;> rw [h] <;> rfl
  have rc4 := fun dd os => cell_regrown c4 dd os
  have hzw := W64.shl1 s.card
  rw [← hme]
  have HME := Lib.hid hme
  clear hme
  go_enter Tryd.func46, Tryd.ntmps46
  go_wp2_with fail
  refine wp_region_below_tail 22 (by kernel_rfl) (by kernel_rfl) ?_
  simp only [List.take_succ_cons, List.take_zero, List.drop_succ_cons, List.drop_zero]
  repeat (quiet_step (fail))
  refine wpQuiet_nil ?_
  rintro _ ⟨q, rfl⟩
  have hb2 := below_regrown w q.d q.os
  have c2 := rc4 q.d q.os
  generalize grow (redrawn w q.d) q.os = w2 at *
  have HM2 := HM0.below hb2
  have f2 := HM2.row.frozen (4 + s.seat)
  have HM3 := HM2.set (st_pset _ s.seat (lor m (shl1 s.card)) hse)
  go_wp2_with fail
  go_end0
  exact ⟨rfl, HM3.row, HM3.kp⟩
theorem ld_require {w : World} {B : Nat} {s : St} (hs : s.ok) (h : TblAt w B s) :
    Calls Tryd.prog 48 #[.pointer (some ⟨B, 0, none⟩)] w fun e w' => e = .returned (.tuple #[]) ∧ TblAt w' B { s with must := 2 ^ (s.card / 13), nt := 0 } ∧ Kept (fun k => k ≠ B) w w' := by
  have HM0 : LMid w w B s := ⟨h, Kept.refl _ _⟩
  have c17 := h.cell 17
  have c20 := h.cell 20
  have c21 := h.cell 21
  simp only [List.getElem?_toArray, List.getElem?_cons_zero, List.getElem?_cons_succ] at c17 c20 c21
  have g20 := h.frozen 20
  have g21 := h.frozen 21
  have hcd := hs.card
  obtain ⟨q, hq, hq4⟩ : ∃ q, q = s.card / 13 ∧ q < 4 := ⟨_, rfl, by omega⟩
  obtain ⟨p, hp⟩ : ∃ p, p = 2 ^ q := ⟨_, rfl⟩
  have t1 : ((s.card : Int)).tdiv 13 = (q : Int) := by rw [Int.tdiv_eq_ediv_of_nonneg (by omega)]; omega
  have t2 : IntKind.u8.wrap (q : Int) = (q : Int) := by rw [IntKind.wrap_u8]; omega
  have t3 : ((2 : Int) ^ q) % 256 = (p : Int) := pow_u8 hp (by omega)
  have HM2 : LMid w ((w.setCell ⟨B, 20, none⟩ (.int .u8 (p : Int))).setCell ⟨B, 21, none⟩ (.int .u8 0)) B { s with must := p, nt := 0 } :=
    (HM0.set (s' := { s with must := p }) rfl).set rfl
  rw [← hq, ← hp]
  clear hq hp
  go_enter Tryd.func48, Tryd.ntmps48
  go_wp2_with fail
  go_end0
  exact ⟨rfl, HM2.row, HM2.kp⟩
theorem ld_forbid {w : World} {B : Nat} {s : St} (hs : s.ok) (h : TblAt w B s) :
    Calls Tryd.prog 49 #[.pointer (some ⟨B, 0, none⟩)] w fun e w' => e = .returned (.tuple #[]) ∧ TblAt w' B { s with nt := s.nt ||| 2 ^ (s.card / 13) } ∧ Kept (fun k => k ≠ B) w w' := by
  have HM0 : LMid w w B s := ⟨h, Kept.refl _ _⟩
  have c17 := h.cell 17
  have c21 := h.cell 21
  simp only [List.getElem?_toArray, List.getElem?_cons_zero, List.getElem?_cons_succ] at c17 c21
  have rc17 := fun dd os => cell_regrown c17 dd os
  have rc21 := fun dd os => cell_regrown c21 dd os
  have hcd := hs.card
  have hnt := hs.nt
  obtain ⟨q, hq, hq4⟩ : ∃ q, q = s.card / 13 ∧ q < 4 := ⟨_, rfl, by omega⟩
  obtain ⟨p, hp⟩ : ∃ p, p = 2 ^ q := ⟨_, rfl⟩
  obtain ⟨x, hx⟩ : ∃ x, x = s.nt ||| p := ⟨_, rfl⟩
  have hp8 : p < 256 := by rw [hp]; exact Nat.pow_lt_pow_right (a := 2) (n := 8) (by decide) (by omega)
  have t1 : ((s.card : Int)).tdiv 13 = (q : Int) := by rw [Int.tdiv_eq_ediv_of_nonneg (by omega)]; omega
  have t2 : IntKind.u8.wrap (q : Int) = (q : Int) := by rw [IntKind.wrap_u8]; omega
  have t3 : ((2 : Int) ^ q) % 256 = (p : Int) := pow_u8 hp (by omega)
  have t4 : bits .or .u8 (s.nt : Int) ((2 : Int) ^ q % 256) = (x : Int) := by rw [t3, bits_or8 _ _ (by omega) hp8, ← hx]
  rw [← hq, ← hp, ← hx]
  clear hq hp hx hp8
  go_enter Tryd.func49, Tryd.ntmps49
  go_wp2_with fail
  refine wp_region_below_tail 16 (by kernel_rfl) (by kernel_rfl) ?_
  simp only [List.take_succ_cons, List.take_zero, List.drop_succ_cons, List.drop_zero]
  repeat (quiet_step (fail))
  refine wpQuiet_nil ?_
  rintro _ ⟨y, rfl⟩
  have hb2 := below_regrown w y.d y.os
  have c2 := rc21 y.d y.os
  generalize grow (redrawn w y.d) y.os = w2 at *
  have HM2 := HM0.below hb2
  have f2 := HM2.row.frozen 21
  have HM3 : LMid w (w2.setCell ⟨B, 21, none⟩ (.int .u8 (x : Int))) B { s with nt := x } := HM2.set rfl
  go_wp2_with fail
  go_end0
  rw [← t4] at HM3
  exact ⟨rfl, HM3.row, HM3.kp⟩
end Go.Proofs.YtgnlmodaekfhfaaDoor
