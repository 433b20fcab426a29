/- finesselaw13.Example over this seat's program, with the block that it makes (printed by wip/genex2.py). -/
import Derived.Test.YtdlnilebnobllaaRvEx
namespace Go.Proofs.Ytdlnilebnobllaa
open Go.RowKit Go.Shelf Go.Sort

/-- the cells of bytes -/
def u8c (zs : List Nat) : Array Value := (zs.map fun (z : Nat) => Value.int .u8 (z : Int)).toArray
theorem row_lit {w : World} {B : Nat} {zs : List Nat} {cs : Array Value} {t : TypeId} (hc : cs = u8c zs) {W : World} (hB : B = w.heap.size) (hW : W = w.alloc (.cells cs t)) : Row W B t (u8c zs) := by
  subst hB; subst hc; subst hW; exact Row.new _ _ _
/-- a call hands back a record whose cards lie in a new block -/
def IsRow (w : World) (r : Rc) (e : Ending) (w' : World) : Prop :=
  ∃ b, e = .returned (r.v (some ⟨b, 0, none⟩) 8 8) ∧ w.heap.size ≤ b ∧ Row w' b 5 (u8c r.zs) ∧ Below w.heap.size w w'
theorem row_byt {w : World} {b : Nat} {zs : List Nat} {t : TypeId} (h : Row w b t (u8c zs)) (hs : zs.length ≤ 100) (hb : ∀ i, zs.getD i 0 < 256) : Byt w (some ⟨b, 0, none⟩) zs.length zs := by
  refine ⟨rfl, by omega, hb, .inr ⟨b, 0, rfl, h.lt, fun i hi => ?_⟩⟩
  rw [Nat.zero_add]
  rw [h.cell i]
  simp [u8c, List.getD_eq_getElem?_getD, List.getElem?_eq_getElem hi]
theorem u8c_set (zs : List Nat) (i v : Nat) : (u8c zs).setIfInBounds i (.int .u8 (v : Int)) = u8c (zs.set i v) := by
  simp [u8c, List.map_set]
theorem exr_0 (w : World) : Calls Try.prog 13 #[.int .i64 0] w (IsRow w (exRc 0)) := by
  have hm := fun (b : Nat) (x y : Nat) (w1 : World) (h : Byt w1 (some ⟨b, 0, none⟩) 2 [x, y]) => law_mask (some ⟨b, 0, none⟩) 2 2 [x, y] w1 h
  have HM := Lib.hid hm
  clear hm
  go_enter Try.func13, Try.ntmps13
  go_wp2_with fail
  refine (HM.out _ 51 50 _ (byt_new _ _ (by simp) [51, 50] _ _ (by decide) (byte_lit _ (by decide)) rfl)).mono ?_
  rintro e w' ⟨rfl, rfl⟩
  go_wp2_with fail
  refine (HM.out _ 40 39 _ (byt_new _ _ (by simp) [40, 39] _ _ (by decide) (byte_lit _ (by decide)) rfl)).mono ?_
  rintro e w' ⟨rfl, rfl⟩
  go_wp2_with fail
  refine (HM.out _ 27 26 _ (byt_new _ _ (by simp) [27, 26] _ _ (by decide) (byte_lit _ (by decide)) rfl)).mono ?_
  rintro e w' ⟨rfl, rfl⟩
  go_wp2_with fail
  refine (HM.out _ 42 41 _ (byt_new _ _ (by simp) [42, 41] _ _ (by decide) (byte_lit _ (by decide)) rfl)).mono ?_
  rintro e w' ⟨rfl, rfl⟩
  go_wp2
  refine bodyPost_ret (v := (exRc 0).v (some ⟨w.heap.size + 1 + 1 + 1 + 1 + 1 + 1, 0, none⟩) 8 8) ?_ rfl ⟨_, rfl, by omega, ?_, ?_⟩
  · simp [results, Try.results13, go_sem]
    exact ⟨rfl, rfl, rfl, rfl, rfl, rfl⟩
  · exact row_lit rfl (by simp) rfl
  · repeat (first | exact Below.refl _ _ | refine Below.alloc ?_ (by simp; try omega) _)
theorem exr_1 (w : World) : Calls Try.prog 13 #[.int .i64 1] w (IsRow w (exRc 1)) := by
  have hm := fun (b : Nat) (x y : Nat) (w1 : World) (h : Byt w1 (some ⟨b, 0, none⟩) 2 [x, y]) => law_mask (some ⟨b, 0, none⟩) 2 2 [x, y] w1 h
  have HM := Lib.hid hm
  clear hm
  go_enter Try.func13, Try.ntmps13
  go_wp2_with fail
  refine (HM.out _ 51 50 _ (byt_new _ _ (by simp) [51, 50] _ _ (by decide) (byte_lit _ (by decide)) rfl)).mono ?_
  rintro e w' ⟨rfl, rfl⟩
  go_wp2_with fail
  refine (HM.out _ 40 39 _ (byt_new _ _ (by simp) [40, 39] _ _ (by decide) (byte_lit _ (by decide)) rfl)).mono ?_
  rintro e w' ⟨rfl, rfl⟩
  go_wp2_with fail
  refine (HM.out _ 27 26 _ (byt_new _ _ (by simp) [27, 26] _ _ (by decide) (byte_lit _ (by decide)) rfl)).mono ?_
  rintro e w' ⟨rfl, rfl⟩
  go_wp2_with fail
  refine (HM.out _ 42 41 _ (byt_new _ _ (by simp) [42, 41] _ _ (by decide) (byte_lit _ (by decide)) rfl)).mono ?_
  rintro e w' ⟨rfl, rfl⟩
  go_wp2_with fail
  refine (HM.out _ 42 0 _ (byt_new _ _ (by simp) [42, 0] _ _ (by decide) (byte_lit _ (by decide)) rfl)).mono ?_
  rintro e w' ⟨rfl, rfl⟩
  go_wp2
  refine bodyPost_ret (v := (exRc 1).v (some ⟨w.heap.size + 1 + 1 + 1 + 1 + 1 + 1 + 1, 0, none⟩) 8 8) ?_ rfl ⟨_, rfl, by omega, ?_, ?_⟩
  · simp [results, Try.results13, go_sem]
    exact ⟨rfl, rfl, rfl, rfl, rfl, rfl⟩
  · exact row_lit rfl (by simp) rfl
  · repeat (first | exact Below.refl _ _ | refine Below.alloc ?_ (by simp; try omega) _)
theorem exr_2 (w : World) : Calls Try.prog 13 #[.int .i64 2] w (IsRow w (exRc 2)) := by
  have hm := fun (b : Nat) (x y : Nat) (w1 : World) (h : Byt w1 (some ⟨b, 0, none⟩) 2 [x, y]) => law_mask (some ⟨b, 0, none⟩) 2 2 [x, y] w1 h
  have HM := Lib.hid hm
  clear hm
  go_enter Try.func13, Try.ntmps13
  go_wp2_with fail
  refine (HM.out _ 51 50 _ (byt_new _ _ (by simp) [51, 50] _ _ (by decide) (byte_lit _ (by decide)) rfl)).mono ?_
  rintro e w' ⟨rfl, rfl⟩
  go_wp2_with fail
  refine (HM.out _ 40 39 _ (byt_new _ _ (by simp) [40, 39] _ _ (by decide) (byte_lit _ (by decide)) rfl)).mono ?_
  rintro e w' ⟨rfl, rfl⟩
  go_wp2_with fail
  refine (HM.out _ 27 26 _ (byt_new _ _ (by simp) [27, 26] _ _ (by decide) (byte_lit _ (by decide)) rfl)).mono ?_
  rintro e w' ⟨rfl, rfl⟩
  go_wp2_with fail
  refine (HM.out _ 42 41 _ (byt_new _ _ (by simp) [42, 41] _ _ (by decide) (byte_lit _ (by decide)) rfl)).mono ?_
  rintro e w' ⟨rfl, rfl⟩
  go_wp2_with fail
  refine (HM.out _ 27 43 _ (byt_new _ _ (by simp) [27, 43] _ _ (by decide) (byte_lit _ (by decide)) rfl)).mono ?_
  rintro e w' ⟨rfl, rfl⟩
  go_wp2
  refine bodyPost_ret (v := (exRc 2).v (some ⟨w.heap.size + 1 + 1 + 1 + 1 + 1 + 1 + 1, 0, none⟩) 8 8) ?_ rfl ⟨_, rfl, by omega, ?_, ?_⟩
  · simp [results, Try.results13, go_sem]
    exact ⟨rfl, rfl, rfl, rfl, rfl, rfl⟩
  · exact row_lit rfl (by simp) rfl
  · repeat (first | exact Below.refl _ _ | refine Below.alloc ?_ (by simp; try omega) _)
end Go.Proofs.Ytdlnilebnobllaa
