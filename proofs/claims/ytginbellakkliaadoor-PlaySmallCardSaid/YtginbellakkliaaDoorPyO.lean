/- finesselaw12.example and awake, walked over this seat's program. -/
import Derived.Test.YtginbellakkliaaDoorMPyl
namespace Go.Proofs.YtginbellakkliaaDoor
open Go.RowKit Go.Shelf Go.Sort

def awN : Ply := aw0
theorem as_turn0 {W : World} {B : Nat} {G : Nat → Prop} (h : InP W B aw0 G) : Calls Tryd.prog 15 #[.pointer (some ⟨B, 0, none⟩)] W fun e W' => e = .returned (.tuple #[.int .u8 3, .int .i64 0]) ∧ Below W.heap.size W W' := by
  have := in_turn h; rw [aw_turn0] at this; exact this
theorem as_turn1 {W : World} {B : Nat} {G : Nat → Prop} (h : InP W B aw1 G) : Calls Tryd.prog 15 #[.pointer (some ⟨B, 0, none⟩)] W fun e W' => e = .returned (.tuple #[.int .u8 0, .int .i64 0]) ∧ Below W.heap.size W W' := by
  have := in_turn h; rw [aw_turn1] at this; exact this
theorem as_turn4 {W : World} {B : Nat} {G : Nat → Prop} (h : InP W B aw4 G) : Calls Tryd.prog 15 #[.pointer (some ⟨B, 0, none⟩)] W fun e W' => e = .returned (.tuple #[.int .u8 3, .int .i64 0]) ∧ Below W.heap.size W W' := by
  have := in_turn h; rw [aw_turn4] at this; exact this
theorem as_turn9 {W : World} {B : Nat} {G : Nat → Prop} (h : InP W B au8 G) : Calls Tryd.prog 15 #[.pointer (some ⟨B, 0, none⟩)] W fun e W' => e = .returned (.tuple #[.int .u8 3, .int .i64 0]) ∧ Below W.heap.size W W' := by
  have := in_turn h; rw [aw_turn9] at this; exact this
theorem as_chooser1 {W : World} {B : Nat} {G : Nat → Prop} (h : InP W B aw1 G) : Calls Tryd.prog 28 #[.pointer (some ⟨B, 0, none⟩)] W fun e W' => e = .returned (.tuple #[.int .u8 2, .int .i64 0]) ∧ Below W.heap.size W W' := by
  have := in_chooser h; rw [aw_chooser1] at this; exact this
theorem as_legal1 {W : World} {B : Nat} {G : Nat → Prop} (h : InP W B aw1 G) : Calls Tryd.prog 14 #[.pointer (some ⟨B, 0, none⟩)] W fun e W' => e = .returned (.int .u64 1) ∧ Below W.heap.size W W' := by
  have := in_legal h; rw [aw_legal1] at this; exact this
theorem as_seen0 {W : World} {B : Nat} {G : Nat → Prop} (h : InP W B aw0 G) : Calls Tryd.prog 21 #[.pointer (some ⟨B, 0, none⟩), .int .u8 2] W fun e W' => e = .returned (.tuple #[.agg #[.int .u64 0, .int .u64 0, .int .u64 32772, .int .u64 0], .int .u64 33583107]) ∧ Below W.heap.size W W' := by
  have := in_seen h 2 (by decide); rw [aw_seen0, aw_hid0] at this; exact this
theorem as_seen1 {W : World} {B : Nat} {G : Nat → Prop} (h : InP W B aw1 G) : Calls Tryd.prog 21 #[.pointer (some ⟨B, 0, none⟩), .int .u8 2] W fun e W' => e = .returned (.tuple #[.agg #[.int .u64 8193, .int .u64 0, .int .u64 32772, .int .u64 0], .int .u64 33570818]) ∧ Below W.heap.size W W' := by
  have := in_seen h 2 (by decide); rw [aw_seen1, aw_hid1] at this; exact this
theorem as_res4 {W : World} {B : Nat} {G : Nat → Prop} (h : InP W B aw4 G) : Calls Tryd.prog 19 #[.pointer (some ⟨B, 0, none⟩)] W fun e W' => e = .returned (.tuple #[.int .i64 0, .int .i64 123]) ∧ Below W.heap.size W W' := by
  have := in_result h; rw [aw_res4] at this; exact this
theorem as_res8 {W : World} {B : Nat} {G : Nat → Prop} (h : InP W B aw8 G) : Calls Tryd.prog 19 #[.pointer (some ⟨B, 0, none⟩)] W fun e W' => e = .returned (.tuple #[.int .i64 0, .int .i64 0]) ∧ Below W.heap.size W W' := by
  have := in_result h; rw [aw_res8] at this; exact this
theorem as_tricks8 {W : World} {B : Nat} {G : Nat → Prop} (h : InP W B aw8 G) : Calls Tryd.prog 33 #[.pointer (some ⟨B, 0, none⟩)] W fun e W' => e = .returned (.tuple #[.int .i64 0, .int .i64 2]) ∧ Below W.heap.size W W' := by
  have := in_tricks h; rw [aw_ns8, aw_ew8] at this; exact this
theorem as_do0 {W : World} {B : Nat} {G : Nat → Prop} (h : InP W B awN G) : Calls Tryd.prog 18 #[.pointer (some ⟨B, 0, none⟩), .int .u8 12] W fun e W' => e = .returned (.int .i64 0) ∧ InP W' B aw1 G ∧ Kept G W W' := by
  have := in_do h 12 (by decide) (doV_ok h.ok 12 (by decide))
  unfold awN at *; rw [aw_do0] at this
  exact this
theorem as_do1 {W : World} {B : Nat} {G : Nat → Prop} (h : InP W B aw1 G) : Calls Tryd.prog 18 #[.pointer (some ⟨B, 0, none⟩), .int .u8 0] W fun e W' => e = .returned (.int .i64 0) ∧ InP W' B aw2 G ∧ Kept G W W' := by
  have := in_do h 0 (by decide) (doV_ok h.ok 0 (by decide))
  rw [aw_do1] at this
  exact this
theorem as_do2 {W : World} {B : Nat} {G : Nat → Prop} (h : InP W B aw2 G) : Calls Tryd.prog 18 #[.pointer (some ⟨B, 0, none⟩), .int .u8 1] W fun e W' => e = .returned (.int .i64 0) ∧ InP W' B aw3 G ∧ Kept G W W' := by
  have := in_do h 1 (by decide) (doV_ok h.ok 1 (by decide))
  rw [aw_do2] at this
  exact this
theorem as_do3 {W : World} {B : Nat} {G : Nat → Prop} (h : InP W B aw3 G) : Calls Tryd.prog 18 #[.pointer (some ⟨B, 0, none⟩), .int .u8 2] W fun e W' => e = .returned (.int .i64 0) ∧ InP W' B aw4 G ∧ Kept G W W' := by
  have := in_do h 2 (by decide) (doV_ok h.ok 2 (by decide))
  rw [aw_do3] at this
  exact this
theorem as_do4 {W : World} {B : Nat} {G : Nat → Prop} (h : InP W B aw4 G) : Calls Tryd.prog 18 #[.pointer (some ⟨B, 0, none⟩), .int .u8 25] W fun e W' => e = .returned (.int .i64 0) ∧ InP W' B aw5 G ∧ Kept G W W' := by
  have := in_do h 25 (by decide) (doV_ok h.ok 25 (by decide))
  rw [aw_do4] at this
  exact this
theorem as_do5 {W : World} {B : Nat} {G : Nat → Prop} (h : InP W B aw5 G) : Calls Tryd.prog 18 #[.pointer (some ⟨B, 0, none⟩), .int .u8 13] W fun e W' => e = .returned (.int .i64 0) ∧ InP W' B aw6 G ∧ Kept G W W' := by
  have := in_do h 13 (by decide) (doV_ok h.ok 13 (by decide))
  rw [aw_do5] at this
  exact this
theorem as_do6 {W : World} {B : Nat} {G : Nat → Prop} (h : InP W B aw6 G) : Calls Tryd.prog 18 #[.pointer (some ⟨B, 0, none⟩), .int .u8 14] W fun e W' => e = .returned (.int .i64 0) ∧ InP W' B aw7 G ∧ Kept G W W' := by
  have := in_do h 14 (by decide) (doV_ok h.ok 14 (by decide))
  rw [aw_do6] at this
  exact this
theorem as_do7 {W : World} {B : Nat} {G : Nat → Prop} (h : InP W B aw7 G) : Calls Tryd.prog 18 #[.pointer (some ⟨B, 0, none⟩), .int .u8 15] W fun e W' => e = .returned (.int .i64 0) ∧ InP W' B aw8 G ∧ Kept G W W' := by
  have := in_do h 15 (by decide) (doV_ok h.ok 15 (by decide))
  rw [aw_do7] at this
  exact this
theorem as_no {W : World} {B : Nat} {G : Nat → Prop} (h : InP W B aw0 G) : Calls Tryd.prog 18 #[.pointer (some ⟨B, 0, none⟩), .int .u8 0] W fun e W' => e = .returned (.int .i64 122) ∧ InP W' B awN G ∧ Kept G W W' := by
  have := in_do h 0 (by decide) (doV_ok h.ok 0 (by decide))
  rw [aw_no] at this
  exact this
theorem as_over {W : World} {B : Nat} {G : Nat → Prop} (h : InP W B aw8 G) : Calls Tryd.prog 18 #[.pointer (some ⟨B, 0, none⟩), .int .u8 0] W fun e W' => e = .returned (.int .i64 121) ∧ InP W' B aw8 G ∧ Kept G W W' := by
  have := in_do h 0 (by decide) (doV_ok h.ok 0 (by decide))
  rw [aw_over] at this
  exact this
theorem as_un0 {W : World} {B : Nat} {G : Nat → Prop} (h : InP W B aw8 G) : Calls Tryd.prog 25 #[.pointer (some ⟨B, 0, none⟩)] W fun e W' => e = .returned (.int .i64 0) ∧ InP W' B au1 G ∧ Kept G W W' := by
  have := in_undo h (undoV_ok h.ok)
  rw [aw_un0] at this
  exact this
theorem as_un1 {W : World} {B : Nat} {G : Nat → Prop} (h : InP W B au1 G) : Calls Tryd.prog 25 #[.pointer (some ⟨B, 0, none⟩)] W fun e W' => e = .returned (.int .i64 0) ∧ InP W' B au2 G ∧ Kept G W W' := by
  have := in_undo h (undoV_ok h.ok)
  rw [aw_un1] at this
  exact this
theorem as_un2 {W : World} {B : Nat} {G : Nat → Prop} (h : InP W B au2 G) : Calls Tryd.prog 25 #[.pointer (some ⟨B, 0, none⟩)] W fun e W' => e = .returned (.int .i64 0) ∧ InP W' B au3 G ∧ Kept G W W' := by
  have := in_undo h (undoV_ok h.ok)
  rw [aw_un2] at this
  exact this
theorem as_un3 {W : World} {B : Nat} {G : Nat → Prop} (h : InP W B au3 G) : Calls Tryd.prog 25 #[.pointer (some ⟨B, 0, none⟩)] W fun e W' => e = .returned (.int .i64 0) ∧ InP W' B au4 G ∧ Kept G W W' := by
  have := in_undo h (undoV_ok h.ok)
  rw [aw_un3] at this
  exact this
theorem as_un4 {W : World} {B : Nat} {G : Nat → Prop} (h : InP W B au4 G) : Calls Tryd.prog 25 #[.pointer (some ⟨B, 0, none⟩)] W fun e W' => e = .returned (.int .i64 0) ∧ InP W' B au5 G ∧ Kept G W W' := by
  have := in_undo h (undoV_ok h.ok)
  rw [aw_un4] at this
  exact this
theorem as_un5 {W : World} {B : Nat} {G : Nat → Prop} (h : InP W B au5 G) : Calls Tryd.prog 25 #[.pointer (some ⟨B, 0, none⟩)] W fun e W' => e = .returned (.int .i64 0) ∧ InP W' B au6 G ∧ Kept G W W' := by
  have := in_undo h (undoV_ok h.ok)
  rw [aw_un5] at this
  exact this
theorem as_un6 {W : World} {B : Nat} {G : Nat → Prop} (h : InP W B au6 G) : Calls Tryd.prog 25 #[.pointer (some ⟨B, 0, none⟩)] W fun e W' => e = .returned (.int .i64 0) ∧ InP W' B au7 G ∧ Kept G W W' := by
  have := in_undo h (undoV_ok h.ok)
  rw [aw_un6] at this
  exact this
theorem as_un7 {W : World} {B : Nat} {G : Nat → Prop} (h : InP W B au7 G) : Calls Tryd.prog 25 #[.pointer (some ⟨B, 0, none⟩)] W fun e W' => e = .returned (.int .i64 0) ∧ InP W' B au8 G ∧ Kept G W W' := by
  have := in_undo h (undoV_ok h.ok)
  rw [aw_un7] at this
  exact this
theorem as_none {W : World} {B : Nat} {G : Nat → Prop} (h : InP W B au8 G) : Calls Tryd.prog 25 #[.pointer (some ⟨B, 0, none⟩)] W fun e W' => e = .returned (.int .i64 6) ∧ InP W' B au8 G ∧ Kept G W W' := by
  have := in_undo h (undoV_ok h.ok)
  rw [aw_none] at this
  exact this
theorem law12_example (w : World) : Calls Tryd.prog 35 #[] w fun e w' => e = .returned (.tuple #[.agg #[.int .u64 8193, .int .u64 16386, .int .u64 32772, .int .u64 33558528], .agg #[.int .u8 1, .int .u8 4, .int .u8 0, .int .u8 2]]) ∧ Below w.heap.size w w' := by
  go_enter Tryd.func35, Tryd.ntmps35
  go_wp2_with fail
  refine bodyPost_ret (v := .tuple #[.agg #[.int .u64 8193, .int .u64 16386, .int .u64 32772, .int .u64 33558528], .agg #[.int .u8 1, .int .u8 4, .int .u8 0, .int .u8 2]]) (by simp [results, Tryd.results35, go_sem]) rfl ⟨rfl, ?_⟩
  exact ((Below.refl _ _).alloc (Nat.le_refl _) _).alloc (by simp) _
theorem eq_lit (a b c d : Nat) (w : World) : Sem.run Tryd.prog (Op.equalIn 10000 26 (.agg #[.int .u64 (a : Int), .int .u64 (b : Int), .int .u64 (c : Int), .int .u64 (d : Int)]) (.agg #[.int .u64 (a : Int), .int .u64 (b : Int), .int .u64 (c : Int), .int .u64 (d : Int)])) w = .ok true w := by
  have h := eq_deal (L4 a b c d) (L4 a b c d) w
  simp at h
  exact h
attribute [local irreducible] awN aw0 aw1 aw2 aw3 aw4 aw5 aw6 aw7 aw8 au1 au2 au3 au4 au5 au6 au7 au8
set_option maxHeartbeats 2000000 in
set_option maxRecDepth 100000 in
theorem law12_awake (w : World) (hT : Tab w) : Calls Tryd.prog 11 #[] w fun e w' => e = .returned (.bool true) ∧ Below w.heap.size w w' := by
  have HQ0 : ∀ w1, Sem.run Tryd.prog (Op.equalIn 10000 26 (.agg #[.int .u64 0, .int .u64 0, .int .u64 32772, .int .u64 0]) (.agg #[.int .u64 0, .int .u64 0, .int .u64 32772, .int .u64 0])) w1 = .ok true w1 := eq_lit 0 0 32772 0
  have HQ1 : ∀ w1, Sem.run Tryd.prog (Op.equalIn 10000 26 (.agg #[.int .u64 8193, .int .u64 0, .int .u64 32772, .int .u64 0]) (.agg #[.int .u64 8193, .int .u64 0, .int .u64 32772, .int .u64 0])) w1 = .ok true w1 := eq_lit 8193 0 32772 0
  have HN := Lib.hid (in_new (L4 8193 16386 32772 33558528) 1 4 0 2 (fun j => by unfold L4; split <;> (unfold W64; decide)) aw_new (fun g => g < w.heap.size))
  rw [aw_newP] at HN
  have HT := Lib.hid hT
  go_enter Tryd.func11, Tryd.ntmps11
  go_upto_region 4 with (first
    | (go_at_call 35; refine (law12_example _).mono ?_; rintro e w1 ⟨rfl, hb1⟩)
    | (go_at_call 13; refine (HN.out _ (fun g hg => Nat.lt_of_lt_of_le hg hb1.size) (HT.out.below HT.out.pos hb1) HT.out.pos).mono ?_; rintro e W ⟨B, rfl, H, hb⟩; have HK := (Kept.of_below hb1 (S := fun g => g < w.heap.size)).trans (Kept.of_below hb); clear hb))
  go_upto_region 5 with (go_at_call 21; refine (as_seen0 H).mono ?_; rintro e W' ⟨rfl, hb⟩; replace H := H.below hb; replace HK := HK.trans (Kept.of_below hb); clear hb)
  have N := Row.new W' 26 #[.int .u64 0, .int .u64 0, .int .u64 32772, .int .u64 0]
  replace H := H.below ((Below.refl _ _).alloc (Nat.le_refl _) (.cells #[.int .u64 0, .int .u64 0, .int .u64 32772, .int .u64 0] 26))
  replace HK := HK.trans (Kept.of_below ((Below.refl _ _).alloc (Nat.le_refl _) (.cells #[.int .u64 0, .int .u64 0, .int .u64 32772, .int .u64 0] 26)))
  generalize hL : W'.heap.size = L at *
  generalize W'.alloc (.cells #[.int .u64 0, .int .u64 0, .int .u64 32772, .int .u64 0] 26) = W5 at *
  clear hL
  go_upto_region 6 with (go_at_call 15; refine (as_turn0 H).mono ?_; rintro e W6 ⟨rfl, hb⟩; replace H := H.below hb; replace HK := HK.trans (Kept.of_below hb); replace N := N.below N.lt hb; clear hb)
  have n0 := N.cell 0
  have n1 := N.cell 1
  have n2 := N.cell 2
  have n3 := N.cell 3
  simp only [List.getElem?_toArray, List.getElem?_cons_zero, List.getElem?_cons_succ] at n0 n1 n2 n3
  clear N
  go_wp2_with fail
  go_at_call 18
  refine (as_no H).mono ?_
  rintro e W' ⟨rfl, H', hk⟩
  replace H := H'
  replace HK := HK.trans hk
  clear H' hk
  go_wp2_with fail
  go_at_call 18
  refine (as_do0 H).mono ?_
  rintro e W' ⟨rfl, H', hk⟩
  replace H := H'
  replace HK := HK.trans hk
  clear H' hk
  go_wp2_with fail
  go_at_call 15
  refine (as_turn1 H).mono ?_
  rintro e W' ⟨rfl, hb⟩
  replace H := H.below hb
  replace HK := HK.trans (Kept.of_below hb)
  clear hb
  go_wp2_with fail
  go_at_call 28
  refine (as_chooser1 H).mono ?_
  rintro e W' ⟨rfl, hb⟩
  replace H := H.below hb
  replace HK := HK.trans (Kept.of_below hb)
  clear hb
  go_upto_region 11 with (go_at_call 21; refine (as_seen1 H).mono ?_; rintro e W10 ⟨rfl, hb⟩; replace H := H.below hb; replace HK := HK.trans (Kept.of_below hb); clear hb)
  clear n0 n1 n2 n3
  have N := Row.new W10 26 #[.int .u64 8193, .int .u64 0, .int .u64 32772, .int .u64 0]
  replace H := H.below ((Below.refl _ _).alloc (Nat.le_refl _) (.cells #[.int .u64 8193, .int .u64 0, .int .u64 32772, .int .u64 0] 26))
  replace HK := HK.trans (Kept.of_below ((Below.refl _ _).alloc (Nat.le_refl _) (.cells #[.int .u64 8193, .int .u64 0, .int .u64 32772, .int .u64 0] 26)))
  generalize hL : W10.heap.size = M at *
  generalize W10.alloc (.cells #[.int .u64 8193, .int .u64 0, .int .u64 32772, .int .u64 0] 26) = W11 at *
  clear hL
  go_wp2_with fail
  go_at_call 14
  refine (as_legal1 H).mono ?_
  rintro e W12 ⟨rfl, hb⟩
  replace H := H.below hb
  replace HK := HK.trans (Kept.of_below hb)
  replace N := N.below N.lt hb
  clear hb
  have n0 := N.cell 0
  have n1 := N.cell 1
  have n2 := N.cell 2
  have n3 := N.cell 3
  simp only [List.getElem?_toArray, List.getElem?_cons_zero, List.getElem?_cons_succ] at n0 n1 n2 n3
  go_wp2_with fail
  go_at_call 18
  refine (as_do1 H).mono ?_
  rintro e W' ⟨rfl, H', hk⟩
  replace H := H'
  replace HK := HK.trans hk
  clear H' hk
  go_wp2_with fail
  go_at_call 18
  refine (as_do2 H).mono ?_
  rintro e W' ⟨rfl, H', hk⟩
  replace H := H'
  replace HK := HK.trans hk
  clear H' hk
  go_wp2_with fail
  go_at_call 18
  refine (as_do3 H).mono ?_
  rintro e W' ⟨rfl, H', hk⟩
  replace H := H'
  replace HK := HK.trans hk
  clear H' hk
  go_wp2_with fail
  go_at_call 15
  refine (as_turn4 H).mono ?_
  rintro e W' ⟨rfl, hb⟩
  replace H := H.below hb
  replace HK := HK.trans (Kept.of_below hb)
  clear hb
  go_wp2_with fail
  go_at_call 19
  refine (as_res4 H).mono ?_
  rintro e W' ⟨rfl, hb⟩
  replace H := H.below hb
  replace HK := HK.trans (Kept.of_below hb)
  clear hb
  go_wp2_with fail
  go_at_call 18
  refine (as_do4 H).mono ?_
  rintro e W' ⟨rfl, H', hk⟩
  replace H := H'
  replace HK := HK.trans hk
  clear H' hk
  go_wp2_with fail
  go_at_call 18
  refine (as_do5 H).mono ?_
  rintro e W' ⟨rfl, H', hk⟩
  replace H := H'
  replace HK := HK.trans hk
  clear H' hk
  go_wp2_with fail
  go_at_call 18
  refine (as_do6 H).mono ?_
  rintro e W' ⟨rfl, H', hk⟩
  replace H := H'
  replace HK := HK.trans hk
  clear H' hk
  go_wp2_with fail
  go_at_call 18
  refine (as_do7 H).mono ?_
  rintro e W' ⟨rfl, H', hk⟩
  replace H := H'
  replace HK := HK.trans hk
  clear H' hk
  go_wp2_with fail
  go_at_call 18
  refine (as_over H).mono ?_
  rintro e W' ⟨rfl, H', hk⟩
  replace H := H'
  replace HK := HK.trans hk
  clear H' hk
  go_wp2_with fail
  go_at_call 19
  refine (as_res8 H).mono ?_
  rintro e W' ⟨rfl, hb⟩
  replace H := H.below hb
  replace HK := HK.trans (Kept.of_below hb)
  clear hb
  go_wp2_with fail
  go_at_call 33
  refine (as_tricks8 H).mono ?_
  rintro e W' ⟨rfl, hb⟩
  replace H := H.below hb
  replace HK := HK.trans (Kept.of_below hb)
  clear hb
  clear n0 n1 n2 n3
  go_wp2_with fail
  refine wp_loop_rounds 9 ?_
  rw [rounds_succ]
  go_wp2_with fail
  go_at_call 25
  refine (as_un0 H).mono ?_
  rintro e W' ⟨rfl, H', hk⟩
  replace H := H'
  replace HK := HK.trans hk
  clear H' hk
  go_wp2_with fail
  rw [rounds_succ]
  go_wp2_with fail
  go_at_call 25
  refine (as_un1 H).mono ?_
  rintro e W' ⟨rfl, H', hk⟩
  replace H := H'
  replace HK := HK.trans hk
  clear H' hk
  go_wp2_with fail
  rw [rounds_succ]
  go_wp2_with fail
  go_at_call 25
  refine (as_un2 H).mono ?_
  rintro e W' ⟨rfl, H', hk⟩
  replace H := H'
  replace HK := HK.trans hk
  clear H' hk
  go_wp2_with fail
  rw [rounds_succ]
  go_wp2_with fail
  go_at_call 25
  refine (as_un3 H).mono ?_
  rintro e W' ⟨rfl, H', hk⟩
  replace H := H'
  replace HK := HK.trans hk
  clear H' hk
  go_wp2_with fail
  rw [rounds_succ]
  go_wp2_with fail
  go_at_call 25
  refine (as_un4 H).mono ?_
  rintro e W' ⟨rfl, H', hk⟩
  replace H := H'
  replace HK := HK.trans hk
  clear H' hk
  go_wp2_with fail
  rw [rounds_succ]
  go_wp2_with fail
  go_at_call 25
  refine (as_un5 H).mono ?_
  rintro e W' ⟨rfl, H', hk⟩
  replace H := H'
  replace HK := HK.trans hk
  clear H' hk
  go_wp2_with fail
  rw [rounds_succ]
  go_wp2_with fail
  go_at_call 25
  refine (as_un6 H).mono ?_
  rintro e W' ⟨rfl, H', hk⟩
  replace H := H'
  replace HK := HK.trans hk
  clear H' hk
  go_wp2_with fail
  rw [rounds_succ]
  go_wp2_with fail
  go_at_call 25
  refine (as_un7 H).mono ?_
  rintro e W' ⟨rfl, H', hk⟩
  replace H := H'
  replace HK := HK.trans hk
  clear H' hk
  go_wp2_with fail
  rw [rounds_succ]
  go_wp2_with fail
  go_at_call 15
  refine (as_turn9 H).mono ?_
  rintro e W' ⟨rfl, hb⟩
  replace H := H.below hb
  replace HK := HK.trans (Kept.of_below hb)
  clear hb
  go_wp2_with fail
  go_at_call 25
  refine (as_none H).mono ?_
  rintro e W' ⟨rfl, H', hk⟩
  replace H := H'
  replace HK := HK.trans hk
  clear H' hk
  go_wp2_with fail
  go_ret
  exact ⟨rfl, HK.os, HK.tape, HK.output, HK.size, fun k hk => HK.block k hk hk⟩
end Go.Proofs.YtginbellakkliaaDoor
