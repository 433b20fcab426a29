/- finesselaw13.Example over this seat's program. -/
import Derived.Test.YtdlnilebnobllaaRvLw1
namespace Go.Proofs.Ytdlnilebnobllaa
open Go.RowKit Go.Shelf Go.Sort

/-- a new block of bytes -/
theorem byt_new (w : World) (B : Nat) (hB : B = w.heap.size) (zs : List Nat) (cs : Array Value) (t : TypeId) (hs : zs.length ≤ 140737488351232) (hb : ∀ i, zs.getD i 0 < 256) (hc : cs = (zs.map fun (z : Nat) => Value.int .u8 (z : Int)).toArray) :
    Byt (w.alloc (.cells cs t)) (some ⟨B, 0, none⟩) zs.length zs := by
  subst hB
  subst hc
  refine ⟨rfl, hs, hb, .inr ⟨w.heap.size, 0, rfl, by simp, fun i hi => ?_⟩⟩
  have h := World.alloc_heap_new w (.cells (zs.map fun (z : Nat) => Value.int .u8 (z : Int)).toArray t)
  simp only [World.cell?, h]
  simp [List.getD_eq_getElem?_getD, List.getElem?_eq_getElem hi]
theorem byte_lit (zs : List Nat) (h : (zs.all fun z => decide (z < 256)) = true) (i : Nat) : zs.getD i 0 < 256 := by
  rw [List.getD_eq_getElem?_getD]
  cases hi : zs[i]? with
  | none => simp
  | some z => have := List.all_eq_true.1 h z (List.mem_of_getElem? hi); simpa using this
/-- the four words of a list -/
def hOf (l : List Nat) : Nat → Nat := fun j => l.getD j 0
/-- the records of the examples -/
def exRc : Nat → Rc
  | 0 => ⟨hOf [maskV [51, 50], maskV [40, 39], maskV [27, 26], maskV [42, 41]], 4, 3, [51, 40, 27, 42, 50, 39, 26, 41]⟩
  | 1 => ⟨hOf [maskV [51, 50], maskV [40, 39], maskV [27, 26], maskV [42, 0]], 4, 3, [51, 40, 27, 0, 50, 39, 26, 42]⟩
  | _ => ⟨hOf [maskV [51, 50], maskV [40, 39], maskV [27, 43], maskV [42, 41]], 2, 3, [51, 40, 27, 42, 43, 41, 50, 39]⟩
/-- a call hands back a record whose cards lie in a new block -/
def IsRc (w : World) (r : Rc) (e : Ending) (w' : World) : Prop :=
  ∃ b, e = .returned (r.v (some ⟨b, 0, none⟩) 8 8) ∧ w.heap.size ≤ b ∧ b < w'.heap.size ∧ Byt w' (some ⟨b, 0, none⟩) 8 r.zs ∧ Below w.heap.size w w'
theorem ex_0 (w : World) : Calls Try.prog 13 #[.int .i64 0] w (IsRc w (exRc 0)) := by
  have hm := fun (b : Nat) (x y : Nat) (w1 : World) (h : Byt w1 (some ⟨b, 0, none⟩) 2 [x, y]) => law_mask (some ⟨b, 0, none⟩) 2 2 [x, y] w1 h
  have HM := Lib.hid hm
  clear hm
  go_enter Try.func13, Try.ntmps13
  go_wp2_with fail
  refine (HM.out _ 51 50 _ (byt_new _ _ (by simp) [51, 50] _ _ (by decide) (byte_lit _ (by decide)) rfl)).mono ?_
  rintro e w' ⟨rfl, rfl⟩
  go_wp2_with fail
  refine (HM.out _ 40 39 _ (byt_new _ _ (by simp) [40, 39] _ _ (by decide) (byte_lit _ (by decide)) rfl)).mono ?_
  rintro e w' ⟨rfl, rfl⟩
  go_wp2_with fail
  refine (HM.out _ 27 26 _ (byt_new _ _ (by simp) [27, 26] _ _ (by decide) (byte_lit _ (by decide)) rfl)).mono ?_
  rintro e w' ⟨rfl, rfl⟩
  go_wp2_with fail
  refine (HM.out _ 42 41 _ (byt_new _ _ (by simp) [42, 41] _ _ (by decide) (byte_lit _ (by decide)) rfl)).mono ?_
  rintro e w' ⟨rfl, rfl⟩
  go_wp2
  refine bodyPost_ret (v := (exRc 0).v (some ⟨w.heap.size + 1 + 1 + 1 + 1 + 1 + 1, 0, none⟩) 8 8) ?_ rfl ⟨_, rfl, by omega, by simp, ?_, ?_⟩
  · simp [results, Try.results13, go_sem]
    exact ⟨rfl, rfl, rfl, rfl, rfl, rfl⟩
  · exact byt_new _ _ (by simp) [51, 40, 27, 42, 50, 39, 26, 41] _ _ (by decide) (byte_lit _ (by decide)) rfl
  · repeat (first | exact Below.refl _ _ | refine Below.alloc ?_ (by simp; try omega) _)
theorem ex_1 (w : World) : Calls Try.prog 13 #[.int .i64 1] w (IsRc w (exRc 1)) := by
  have hm := fun (b : Nat) (x y : Nat) (w1 : World) (h : Byt w1 (some ⟨b, 0, none⟩) 2 [x, y]) => law_mask (some ⟨b, 0, none⟩) 2 2 [x, y] w1 h
  have HM := Lib.hid hm
  clear hm
  go_enter Try.func13, Try.ntmps13
  go_wp2_with fail
  refine (HM.out _ 51 50 _ (byt_new _ _ (by simp) [51, 50] _ _ (by decide) (byte_lit _ (by decide)) rfl)).mono ?_
  rintro e w' ⟨rfl, rfl⟩
  go_wp2_with fail
  refine (HM.out _ 40 39 _ (byt_new _ _ (by simp) [40, 39] _ _ (by decide) (byte_lit _ (by decide)) rfl)).mono ?_
  rintro e w' ⟨rfl, rfl⟩
  go_wp2_with fail
  refine (HM.out _ 27 26 _ (byt_new _ _ (by simp) [27, 26] _ _ (by decide) (byte_lit _ (by decide)) rfl)).mono ?_
  rintro e w' ⟨rfl, rfl⟩
  go_wp2_with fail
  refine (HM.out _ 42 41 _ (byt_new _ _ (by simp) [42, 41] _ _ (by decide) (byte_lit _ (by decide)) rfl)).mono ?_
  rintro e w' ⟨rfl, rfl⟩
  go_wp2_with fail
  refine (HM.out _ 42 0 _ (byt_new _ _ (by simp) [42, 0] _ _ (by decide) (byte_lit _ (by decide)) rfl)).mono ?_
  rintro e w' ⟨rfl, rfl⟩
  go_wp2
  refine bodyPost_ret (v := (exRc 1).v (some ⟨w.heap.size + 1 + 1 + 1 + 1 + 1 + 1 + 1, 0, none⟩) 8 8) ?_ rfl ⟨_, rfl, by omega, by simp, ?_, ?_⟩
  · simp [results, Try.results13, go_sem]
    exact ⟨rfl, rfl, rfl, rfl, rfl, rfl⟩
  · exact byt_new _ _ (by simp) [51, 40, 27, 0, 50, 39, 26, 42] _ _ (by decide) (byte_lit _ (by decide)) rfl
  · repeat (first | exact Below.refl _ _ | refine Below.alloc ?_ (by simp; try omega) _)
theorem ex_2 (w : World) : Calls Try.prog 13 #[.int .i64 2] w (IsRc w (exRc 2)) := by
  have hm := fun (b : Nat) (x y : Nat) (w1 : World) (h : Byt w1 (some ⟨b, 0, none⟩) 2 [x, y]) => law_mask (some ⟨b, 0, none⟩) 2 2 [x, y] w1 h
  have HM := Lib.hid hm
  clear hm
  go_enter Try.func13, Try.ntmps13
  go_wp2_with fail
  refine (HM.out _ 51 50 _ (byt_new _ _ (by simp) [51, 50] _ _ (by decide) (byte_lit _ (by decide)) rfl)).mono ?_
  rintro e w' ⟨rfl, rfl⟩
  go_wp2_with fail
  refine (HM.out _ 40 39 _ (byt_new _ _ (by simp) [40, 39] _ _ (by decide) (byte_lit _ (by decide)) rfl)).mono ?_
  rintro e w' ⟨rfl, rfl⟩
  go_wp2_with fail
  refine (HM.out _ 27 26 _ (byt_new _ _ (by simp) [27, 26] _ _ (by decide) (byte_lit _ (by decide)) rfl)).mono ?_
  rintro e w' ⟨rfl, rfl⟩
  go_wp2_with fail
  refine (HM.out _ 42 41 _ (byt_new _ _ (by simp) [42, 41] _ _ (by decide) (byte_lit _ (by decide)) rfl)).mono ?_
  rintro e w' ⟨rfl, rfl⟩
  go_wp2_with fail
  refine (HM.out _ 27 43 _ (byt_new _ _ (by simp) [27, 43] _ _ (by decide) (byte_lit _ (by decide)) rfl)).mono ?_
  rintro e w' ⟨rfl, rfl⟩
  go_wp2
  refine bodyPost_ret (v := (exRc 2).v (some ⟨w.heap.size + 1 + 1 + 1 + 1 + 1 + 1 + 1, 0, none⟩) 8 8) ?_ rfl ⟨_, rfl, by omega, by simp, ?_, ?_⟩
  · simp [results, Try.results13, go_sem]
    exact ⟨rfl, rfl, rfl, rfl, rfl, rfl⟩
  · exact byt_new _ _ (by simp) [51, 40, 27, 42, 43, 41, 50, 39] _ _ (by decide) (byte_lit _ (by decide)) rfl
  · repeat (first | exact Below.refl _ _ | refine Below.alloc ?_ (by simp; try omega) _)
end Go.Proofs.Ytdlnilebnobllaa
