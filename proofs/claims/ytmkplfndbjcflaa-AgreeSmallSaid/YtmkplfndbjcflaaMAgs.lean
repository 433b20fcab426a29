/- AgS, AgT in one text. -/
import Derived.Test.YtmkplfndbjcflaaMAgp
import Derived.Laws.AppendOwnNone
import Derived.ArgAppend
import Derived.Maps.AppendAt

/- Contracts of agree.common and agree.Both over this seat's program. -/
namespace Go.Proofs.Ytmkplfndbjcflaa
open Go.RowKit Go.Sort Go.Shelf Cnt

theorem under36 : Try.prog.underlying 36 = some (.array 2 3) := by kernel_rfl
theorem size36 : (Try.prog.info? 36).map (·.size) = some 2 := by kernel_rfl
/-- the greater one, the smaller one -/
def mx (x y : Int) : Int := if x < y then y else x
def mn (x y : Int) : Int := if y < x then y else x
theorem ag_common1 (x0 x1 y0 y1 : Int) (w : World) : Calls Try.prog 60 #[pr x0 x1, pr y0 y1] w fun e w' => e = .returned (pr (mx x0 y0) (mn x1 y1)) ∧ Below w.heap.size w w' := by
  go_enter Try.func60, Try.ntmps60
  go_wp2
  all_goals
    refine bodyPost_ret (results_cell_row (p := 4) rfl _ _ (w.heap.size + 1 + 1) _ _ (0, 0) _ rfl (Row.new2 _ _ _ _ _) under36 rfl (by rw [size36]; rfl)) rfl ⟨?_, (((Below.refl _ _).alloc (Nat.le_refl _) _).alloc (by simp) _).alloc (by simp; omega) _⟩
    simp only [mx, mn]
    repeat (first | rw [if_pos (by assumption)] | rw [if_neg (by omega)])
/-- what two ranges have in common -/
def Rg.join (r q : Rg) : Rg := ⟨mx r.p0 q.p0, mn r.p1 q.p1, mx r.a0 q.a0, mn r.a1 q.a1, mx r.b0 q.b0, mn r.b1 q.b1, mx r.c0 q.c0, mn r.c1 q.c1, mx r.d0 q.d0, mn r.d1 q.d1⟩
/-- its ten numbers -/
abbrev Rg.arr (r : Rg) : Array Value := #[.int .i64 r.p0, .int .i64 r.p1, .int .i64 r.a0, .int .i64 r.a1, .int .i64 r.b0, .int .i64 r.b1, .int .i64 r.c0, .int .i64 r.c1, .int .i64 r.d0, .int .i64 r.d1]
/-- the first k suits joined -/
def cmA (r q : Rg) (k : Nat) : Array Value := #[.int .i64 (mx r.p0 q.p0), .int .i64 (mn r.p1 q.p1),
  .int .i64 (if 0 < k then mx r.a0 q.a0 else 0), .int .i64 (if 0 < k then mn r.a1 q.a1 else 0), .int .i64 (if 1 < k then mx r.b0 q.b0 else 0), .int .i64 (if 1 < k then mn r.b1 q.b1 else 0),
  .int .i64 (if 2 < k then mx r.c0 q.c0 else 0), .int .i64 (if 2 < k then mn r.c1 q.c1 else 0), .int .i64 (if 3 < k then mx r.d0 q.d0 else 0), .int .i64 (if 3 < k then mn r.d1 q.d1 else 0)]
structure CW (w : World) (b6 : Nat) (r q : Rg) (k : Nat) (W : World) : Prop where
  below : Below w.heap.size w W
  rr : Row W w.heap.size 39 r.arr
  rq : Row W (w.heap.size + 1) 39 q.arr
  rz : ∃ c, Row W (w.heap.size + 1 + 1) 39 c ∧ c.size = 10
  rc : Row W b6 39 (cmA r q k)
  l : w.heap.size + 1 + 1 < b6
theorem CW.later {w : World} {b6 : Nat} {r q : Rg} {k : Nat} {W W' : World} (h : CW w b6 r q k W) (hb : Below W.heap.size W W') : CW w b6 r q k W' :=
  ⟨h.below.trans (hb.mono h.below.size), h.rr.later hb, h.rq.later hb, by obtain ⟨c, h1, h2⟩ := h.rz; exact ⟨c, h1.later hb, h2⟩, h.rc.later hb, h.l⟩
theorem CW.put {w : World} {b6 : Nat} {r q : Rg} {k : Nat} {W : World} (h : CW w b6 r q k W) (c : Array Value) (hc : c = cmA r q (k + 1)) : CW w b6 r q (k + 1) (W.setRow b6 c) := by
  subst hc
  have hl := h.l
  refine ⟨below_setRow h.below (by omega) _, h.rr.same (setRow_other _ _ _ _ (by omega)), h.rq.same (setRow_other _ _ _ _ (by omega)), ?_, setRow_heap _ _ _ _ _ _ h.rc, h.l⟩
  obtain ⟨c, h1, h2⟩ := h.rz
  exact ⟨c, h1.same (setRow_other _ _ _ _ (by omega)), h2⟩
theorem size39 : (Try.prog.info? 39).map (·.size) = some 10 := by kernel_rfl
set_option maxHeartbeats 2000000 in
set_option maxRecDepth 8000 in
theorem ag_common (r q : Rg) (w : World) : Calls Try.prog 43 #[r.v, q.v] w fun e w' => e = .returned (r.join q).v ∧ Below w.heap.size w w' := by
  go_enter Try.func43, Try.ntmps43
  go_wp2_with (go_at_call 60; refine (ag_common1 r.p0 r.p1 q.p0 q.p1 _).mono ?_; rintro e w3 ⟨rfl, hb3⟩)
  have hI : CW w w3.heap.size r q 0 (w3.alloc (.cells (cmA r q 0) 39)) := by
    have h3 : Below w.heap.size w w3 := ((((Below.refl _ _).alloc (Nat.le_refl _) _).alloc (by simp) _).alloc (by simp; omega) _).trans (hb3.mono (by simp; omega))
    have hs : w.heap.size + 1 + 1 < w3.heap.size := by have := hb3.size; simp at this; omega
    refine ⟨h3.alloc h3.size _, ?_, ?_, ?_, Row.new _ _ _, hs⟩
    · exact ((((Row.new _ _ _).alloc _).alloc _).later hb3).alloc _
    · exact (((Row.new1 _ _ _ _).alloc _).later hb3).alloc _
    · exact ⟨_, ((Row.new2 _ _ _ _ _).later hb3).alloc _, rfl⟩
  have hz : (w3.alloc (.cells (cmA r q 0) 39)) = (w3.alloc (.cells #[.int .i64 (mx r.p0 q.p0), .int .i64 (mn r.p1 q.p1), .int .i64 0, .int .i64 0, .int .i64 0, .int .i64 0, .int .i64 0, .int .i64 0, .int .i64 0, .int .i64 0] 39)) := rfl
  rw [hz] at hI
  clear hz
  generalize (w3.alloc (.cells #[.int .i64 (mx r.p0 q.p0), .int .i64 (mn r.p1 q.p1), .int .i64 0, .int .i64 0, .int .i64 0, .int .i64 0, .int .i64 0, .int .i64 0, .int .i64 0, .int .i64 0] 39)) = W4 at *
  generalize w3.heap.size = b6 at *
  clear hb3
  go_loopw [7, 15] (fun _ i wr => ∃ (k : Nat), k ≤ 4 ∧ i = .int .i64 (k : Int) ∧ CW w b6 r q k wr) (fun _ i _ => 4 - (intOf i).toNat)
  case atStart => exact ⟨0, by omega, rfl, hI⟩
  case round =>
    obtain ⟨k, hk, rfl, hC⟩ := hrel
    clear hI
    by_cases hlt : k < 4
    · have hrr := hC.rr
      have hrq := hC.rq
      have HC := Lib.hid hC
      have cr0 := hrr.cell 0
      have cr1 := hrr.cell 1
      have cr2 := hrr.cell 2
      have cr3 := hrr.cell 3
      have cr4 := hrr.cell 4
      have cr5 := hrr.cell 5
      have cr6 := hrr.cell 6
      have cr7 := hrr.cell 7
      have cr8 := hrr.cell 8
      have cr9 := hrr.cell 9
      simp only [List.getElem?_toArray, List.getElem?_cons_zero, List.getElem?_cons_succ] at cr0 cr1 cr2 cr3 cr4 cr5 cr6 cr7 cr8 cr9
      have cq0 := hrq.cell 0
      have cq1 := hrq.cell 1
      have cq2 := hrq.cell 2
      have cq3 := hrq.cell 3
      have cq4 := hrq.cell 4
      have cq5 := hrq.cell 5
      have cq6 := hrq.cell 6
      have cq7 := hrq.cell 7
      have cq8 := hrq.cell 8
      have cq9 := hrq.cell 9
      simp only [List.getElem?_toArray, List.getElem?_cons_zero, List.getElem?_cons_succ] at cq0 cq1 cq2 cq3 cq4 cq5 cq6 cq7 cq8 cq9
      clear hC hrr hrq
      have rr0 := fun dd os => cell_regrown cr0 dd os
      have rr1 := fun dd os => cell_regrown cr1 dd os
      have rr2 := fun dd os => cell_regrown cr2 dd os
      have rr3 := fun dd os => cell_regrown cr3 dd os
      have rr4 := fun dd os => cell_regrown cr4 dd os
      have rr5 := fun dd os => cell_regrown cr5 dd os
      have rr6 := fun dd os => cell_regrown cr6 dd os
      have rr7 := fun dd os => cell_regrown cr7 dd os
      have rr8 := fun dd os => cell_regrown cr8 dd os
      have rr9 := fun dd os => cell_regrown cr9 dd os
      have rq0 := fun dd os => cell_regrown cq0 dd os
      have rq1 := fun dd os => cell_regrown cq1 dd os
      have rq2 := fun dd os => cell_regrown cq2 dd os
      have rq3 := fun dd os => cell_regrown cq3 dd os
      have rq4 := fun dd os => cell_regrown cq4 dd os
      have rq5 := fun dd os => cell_regrown cq5 dd os
      have rq6 := fun dd os => cell_regrown cq6 dd os
      have rq7 := fun dd os => cell_regrown cq7 dd os
      have rq8 := fun dd os => cell_regrown cq8 dd os
      have rq9 := fun dd os => cell_regrown cq9 dd os
      have hk4 : k = 0 ∨ k = 1 ∨ k = 2 ∨ k = 3 := by omega
      clear hk hlt
      rcases hk4 with rfl | rfl | rfl | rfl
      · -- suit 0
        have hzz : cmA r q 1 = putAt (cmA r q 0) 2 [.int .i64 (mx r.a0 q.a0), .int .i64 (mn r.a1 q.a1)] := rfl
        have HZ := Lib.hid hzz
        clear hzz
        go_wp2_with fail
        refine wp_region_below_tail 13 (by kernel_rfl) (by kernel_rfl) ?_
        simp only [List.take_succ_cons, List.take_zero, List.drop_succ_cons, List.drop_zero]
        repeat (quiet_step (with_reducible exact Calls.regrown_of (ag_common1 r.a0 r.a1 q.a0 q.a1 _)))
        refine wpQuiet_nil ?_
        rintro _ ⟨p, rfl⟩
        have hb := below_regrown wr p.d p.os
        generalize grow (redrawn wr p.d) p.os = wa at *
        have HC1 := Lib.hid (HC.out.later hb)
        have hcr := HC1.out.rc
        clear hb rr2 rr3 rq2 rq3
        refine wpList_store_part rfl 36 (.tmp 30) (.tmp 28) rfl b6 2 #[.int .i64 (mx r.a0 q.a0), .int .i64 (mn r.a1 q.a1)] rfl rfl _ (cmA r q 0) hcr (by rw [size36]; rfl) (by simp [cmA]) (by simp; exact ⟨rfl, rfl⟩) ?_
        go_wp2_with fail
        go_roundw
        · exact ⟨1, by omega, rfl, HC1.out.put (putAt (cmA r q 0) 2 [.int .i64 (mx r.a0 q.a0), .int .i64 (mn r.a1 q.a1)]) HZ.out.symm⟩
        · simp [intOf]
      · -- suit 1
        have hzz : cmA r q 2 = putAt (cmA r q 1) 4 [.int .i64 (mx r.b0 q.b0), .int .i64 (mn r.b1 q.b1)] := rfl
        have HZ := Lib.hid hzz
        clear hzz
        go_wp2_with fail
        refine wp_region_below_tail 13 (by kernel_rfl) (by kernel_rfl) ?_
        simp only [List.take_succ_cons, List.take_zero, List.drop_succ_cons, List.drop_zero]
        repeat (quiet_step (with_reducible exact Calls.regrown_of (ag_common1 r.b0 r.b1 q.b0 q.b1 _)))
        refine wpQuiet_nil ?_
        rintro _ ⟨p, rfl⟩
        have hb := below_regrown wr p.d p.os
        generalize grow (redrawn wr p.d) p.os = wa at *
        have HC1 := Lib.hid (HC.out.later hb)
        have hcr := HC1.out.rc
        clear hb rr4 rr5 rq4 rq5
        refine wpList_store_part rfl 36 (.tmp 30) (.tmp 28) rfl b6 4 #[.int .i64 (mx r.b0 q.b0), .int .i64 (mn r.b1 q.b1)] rfl rfl _ (cmA r q 1) hcr (by rw [size36]; rfl) (by simp [cmA]) (by simp; exact ⟨rfl, rfl⟩) ?_
        go_wp2_with fail
        go_roundw
        · exact ⟨2, by omega, rfl, HC1.out.put (putAt (cmA r q 1) 4 [.int .i64 (mx r.b0 q.b0), .int .i64 (mn r.b1 q.b1)]) HZ.out.symm⟩
        · simp [intOf]
      · -- suit 2
        have hzz : cmA r q 3 = putAt (cmA r q 2) 6 [.int .i64 (mx r.c0 q.c0), .int .i64 (mn r.c1 q.c1)] := rfl
        have HZ := Lib.hid hzz
        clear hzz
        go_wp2_with fail
        refine wp_region_below_tail 13 (by kernel_rfl) (by kernel_rfl) ?_
        simp only [List.take_succ_cons, List.take_zero, List.drop_succ_cons, List.drop_zero]
        repeat (quiet_step (with_reducible exact Calls.regrown_of (ag_common1 r.c0 r.c1 q.c0 q.c1 _)))
        refine wpQuiet_nil ?_
        rintro _ ⟨p, rfl⟩
        have hb := below_regrown wr p.d p.os
        generalize grow (redrawn wr p.d) p.os = wa at *
        have HC1 := Lib.hid (HC.out.later hb)
        have hcr := HC1.out.rc
        clear hb rr6 rr7 rq6 rq7
        refine wpList_store_part rfl 36 (.tmp 30) (.tmp 28) rfl b6 6 #[.int .i64 (mx r.c0 q.c0), .int .i64 (mn r.c1 q.c1)] rfl rfl _ (cmA r q 2) hcr (by rw [size36]; rfl) (by simp [cmA]) (by simp; exact ⟨rfl, rfl⟩) ?_
        go_wp2_with fail
        go_roundw
        · exact ⟨3, by omega, rfl, HC1.out.put (putAt (cmA r q 2) 6 [.int .i64 (mx r.c0 q.c0), .int .i64 (mn r.c1 q.c1)]) HZ.out.symm⟩
        · simp [intOf]
      · -- suit 3
        have hzz : cmA r q 4 = putAt (cmA r q 3) 8 [.int .i64 (mx r.d0 q.d0), .int .i64 (mn r.d1 q.d1)] := rfl
        have HZ := Lib.hid hzz
        clear hzz
        go_wp2_with fail
        refine wp_region_below_tail 13 (by kernel_rfl) (by kernel_rfl) ?_
        simp only [List.take_succ_cons, List.take_zero, List.drop_succ_cons, List.drop_zero]
        repeat (quiet_step (with_reducible exact Calls.regrown_of (ag_common1 r.d0 r.d1 q.d0 q.d1 _)))
        refine wpQuiet_nil ?_
        rintro _ ⟨p, rfl⟩
        have hb := below_regrown wr p.d p.os
        generalize grow (redrawn wr p.d) p.os = wa at *
        have HC1 := Lib.hid (HC.out.later hb)
        have hcr := HC1.out.rc
        clear hb rr8 rr9 rq8 rq9
        refine wpList_store_part rfl 36 (.tmp 30) (.tmp 28) rfl b6 8 #[.int .i64 (mx r.d0 q.d0), .int .i64 (mn r.d1 q.d1)] rfl rfl _ (cmA r q 3) hcr (by rw [size36]; rfl) (by simp [cmA]) (by simp; exact ⟨rfl, rfl⟩) ?_
        go_wp2_with fail
        go_roundw
        · exact ⟨4, by omega, rfl, HC1.out.put (putAt (cmA r q 3) 8 [.int .i64 (mx r.d0 q.d0), .int .i64 (mn r.d1 q.d1)]) HZ.out.symm⟩
        · simp [intOf]
    · obtain rfl : k = 4 := by omega
      have hcr := hC.rc
      obtain ⟨c, hcz, hc10⟩ := hC.rz
      have HC := Lib.hid hC.below
      have HZ := Lib.hid hcz
      have HL := Lib.hid hC.l
      have HV : Hid ((r.join q).v = .agg (cmA r q 4)) := Lib.hid rfl
      have hs10 : (cmA r q 4).size = 10 := rfl
      have ho10 : (cmA r q 4).all (·.oneCell') = true := by simp only [cmA, List.all_toArray]; rfl
      clear hC hcz
      generalize cmA r q 4 = cc at *
      generalize hB : w.heap.size + 1 + 1 = b4 at *
      go_wp2_with (first | refine wpList_load_row rfl 39 (.tmp 6) rfl b6 rfl 39 cc (0, 0) _ hcr Try.underlying39 rfl (by rw [size39, hs10]) ?_ | refine wpList_store_row rfl 39 (.tmp 4) (.tmp 32) rfl b4 cc rfl rfl 39 c HZ.out (by rw [size39, hs10]) (by rw [hs10, hc10]) ho10 ?_)
      have hrow := setRow_heap _ _ _ cc _ _ HZ.out
      refine bodyPost_ret (v := .agg cc) ?_ rfl ⟨by rw [HV.out], below_setRow HC.out (by omega) _⟩
      exact results_cell_row (p := 4) rfl _ _ b4 _ cc (0, 0) _ rfl hrow Try.underlying39 rfl (by rw [size39, hs10])
end Go.Proofs.Ytmkplfndbjcflaa

/- Slices of ranges that a call made itself; contract of agree.Both over this seat's program. -/
namespace Go.Proofs.Ytmkplfndbjcflaa
open Go.RowKit Go.Sort Go.Shelf Cnt

/-- the cells of a range -/
def encR (r : Rg) : List Value := [.int .i64 r.p0, .int .i64 r.p1, .int .i64 r.a0, .int .i64 r.a1, .int .i64 r.b0, .int .i64 r.b1, .int .i64 r.c0, .int .i64 r.c1, .int .i64 r.d0, .int .i64 r.d1]
theorem encR_len (r : Rg) : (encR r).length = 10 := rfl
theorem encR_get (r : Rg) (j : Nat) (hj : j < 10) : (encR r)[j]? = some (.int .i64 (r.cell j)) := by
  have : j = 0 ∨ j = 1 ∨ j = 2 ∨ j = 3 ∨ j = 4 ∨ j = 5 ∨ j = 6 ∨ j = 7 ∨ j = 8 ∨ j = 9 := by omega
  rcases this with rfl | rfl | rfl | rfl | rfl | rfl | rfl | rfl | rfl | rfl <;> rfl
def flatR (rs : List Rg) : List Value := rs.flatMap encR
theorem flatR_len (rs : List Rg) : (flatR rs).length = rs.length * 10 := by
  induction rs with
  | nil => rfl
  | cons r l ih => show (encR r ++ flatR l).length = _; rw [List.length_append, ih, encR_len, List.length_cons]; omega
theorem flatR_get : ∀ (rs : List Rg) (i j : Nat) (r : Rg), rs[i]? = some r → j < 10 → (flatR rs)[i * 10 + j]? = some (.int .i64 (r.cell j))
  | r :: l, 0, j, r', h, hj => by
    obtain rfl : r = r' := by simpa using h
    show (encR r ++ flatR l)[0 * 10 + j]? = _
    rw [List.getElem?_append_left (by rw [encR_len]; omega), show 0 * 10 + j = j by omega, encR_get r j hj]
  | r :: l, i + 1, j, r', h, hj => by
    show (encR r ++ flatR l)[(i + 1) * 10 + j]? = _
    rw [List.getElem?_append_right (by rw [encR_len]; omega), encR_len, show (i + 1) * 10 + j - 10 = i * 10 + j by omega]
    exact flatR_get l i j r' (by simpa using h) hj
theorem flatR_one (rs : List Rg) : ∀ u ∈ flatR rs, u.oneCell' = true := by
  intro u hu
  unfold flatR at hu
  obtain ⟨r, _, h⟩ := List.mem_flatMap.1 hu
  simp only [encR, List.mem_cons, List.mem_nil_iff, or_false] at h
  rcases h with rfl | rfl | rfl | rfl | rfl | rfl | rfl | rfl | rfl | rfl <;> rfl
/-- a slice of ranges of the call's own -/
def OwnR (w : World) (base : Nat) (v : Value) (rs : List Rg) : Prop := w.ownsRow base 39 10 v rs.length (flatR rs)
theorem OwnR.nil (w : World) (base : Nat) : OwnR w base (.slice none 0 0) [] := ⟨rfl, .inl ⟨rfl, rfl⟩⟩
theorem OwnR.rgs {w : World} {base : Nat} {v : Value} {rs : List Rg} (h : OwnR w base v rs) (hs : rs.length ≤ 100000) : ∃ a cap, v = .slice a rs.length cap ∧ Rgs w a rs.length rs ∧ rs.length ≤ cap ∧ (a = none → cap = 0) := by
  rcases h.2 with ⟨rfl, h0⟩ | ⟨g, cap, cur, rfl, hb, hg, hn, -, hsz, htk⟩
  · rw [h0]
    exact ⟨none, 0, rfl, ⟨h0, by omega, .inl rfl⟩, Nat.le_refl _, fun _ => rfl⟩
  · refine ⟨some ⟨g, 0, none⟩, cap, rfl, ⟨rfl, by omega, .inr ⟨g, 0, rfl, (Array.getElem?_eq_some_iff.1 hg).1, fun i r hr j hj => ?_⟩⟩, hn, fun e => by cases e⟩
    have h1 := flatR_get rs i j r hr hj
    have hi : i < rs.length := (List.getElem?_eq_some_iff.1 hr).1
    have e : World.cell? w ⟨g, 0 + i * 10 + j, none⟩ = cur[0 + i * 10 + j]? := by simp [World.cell?, hg]
    rw [e, Nat.zero_add]
    rw [← htk, List.getElem?_take_of_lt (by omega)] at h1
    simpa using h1
theorem OwnR.kept {w w' : World} {base : Nat} {v : Value} {rs : List Rg} (h : OwnR w base v rs) (hk : ∀ g, v.ownBlock = some g → w'.heap[g]? = w.heap[g]?) : OwnR w' base v rs := by
  refine ⟨h.1, ?_⟩
  rcases h.2 with h3 | ⟨g, cap, cur, rfl, h4, h5, h6⟩
  · exact .inl h3
  · exact .inr ⟨g, cap, cur, rfl, h4, (hk g rfl).trans h5, h6⟩
theorem OwnR.lt {w : World} {base : Nat} {v : Value} {rs : List Rg} (h : OwnR w base v rs) : ∀ g, v.ownBlock = some g → base ≤ g ∧ g < w.heap.size := by
  intro g he
  rcases h.2 with ⟨rfl, _⟩ | ⟨g', cap, cur, rfl, h4, h5, _⟩
  · simp [Value.ownBlock] at he
  · obtain rfl : g' = g := by simpa [Value.ownBlock] using he
    exact ⟨h4, (Array.getElem?_eq_some_iff.1 h5).1⟩
theorem OwnR.later {w w' : World} {base : Nat} {v : Value} {rs : List Rg} (h : OwnR w base v rs) (hb : Below w.heap.size w w') : OwnR w' base v rs :=
  h.kept fun g he => hb.block g (h.lt g he).2
theorem info_rg : (Try.prog.info? 39).map (fun i => (i.zero, i.size, i.bytes)) = some (some (Rg.v ⟨0, 0, 0, 0, 0, 0, 0, 0, 0, 0⟩), 10, 80) := by kernel_rfl
theorem rgs_row {w : World} {a : Option Addr} {len : Nat} {rs : List Rg} (h : Rgs w a len rs) (ad : Addr) (ha : a = some ad) (j : Nat) (u : Value) (hu : (flatR rs)[j]? = some u) : w.cell? (ad.add j) = some u := by
  have hj : j < rs.length * 10 := by
    have := (List.getElem?_eq_some_iff.1 hu).1; rwa [flatR_len] at this
  obtain ⟨r, hr⟩ : ∃ r, rs[j / 10]? = some r := ⟨_, List.getElem?_eq_getElem (by omega)⟩
  have h1 := flatR_get rs (j / 10) (j % 10) r hr (by omega)
  rw [show j / 10 * 10 + j % 10 = j by omega, hu] at h1
  rcases h.cells with h0 | ⟨b, off, ha', hb, hc⟩
  · have := h.length; omega
  · rw [ha] at ha'
    injection ha' with ha'
    subst ha'
    have h2 := hc (j / 10) r hr (j % 10) (by omega)
    rw [show off + j / 10 * 10 + j % 10 = off + j by omega, ← h1] at h2
    rw [← h2]
    by_cases h0 : j = 0
    · subst h0; simp [Addr.add]
    · simp [Addr.add, h0]
/-- append(v, src...), v the call's own -/
theorem appR {w : World} {ops : Array Oper} {rest : List Oper} {o : Oper} {a : Act} {Q : Exit → Act → World → Prop} (hgd : o.guard = none) (s x : Operand)
    (ho : o.op = .call { callee := .builtin .append, args := #[s, x], argTypes := #[23, 23] })
    (base : Nat) (v : Value) (zs ys : List Rg) (hs : a.eval s = v) (hown : OwnR w base v zs) (ad : Addr) (m c : Nat) (hx : a.eval x = .slice (some ad) m c) (hy : Rgs w (some ad) m ys)
    (hbytes : zs.length + m ≤ 100000) (hbase : base ≤ w.heap.size)
    (h : ∀ v' w', OwnR w' base v' (zs ++ ys) → Below base w w' → w.grownBy w' v.ownBlock → (v'.ownBlock = v.ownBlock ∨ v'.ownBlock = some w.heap.size) → wpList Try.prog ops Q rest (a.put o.dst v') w') : wpList Try.prog ops Q (o :: rest) a w := by
  obtain ⟨i0, hi, hz0, hz1, hz2⟩ := info_parts info_rg
  have hl := hy.length
  refine wpList_append_own_at _ hgd s x 23 ho base 39 i0 _ 10 80 Try.underlying23 hi hz0 hz1 hz2 rfl (by decide) v zs.length (flatR zs) hs hown ad m c (flatR ys) hx (by rw [flatR_len, hl]) (rgs_row hy ad rfl) (flatR_one ys) (by unfold maxLen; omega) (by omega) hbase ?_
  intro v' w' h1 h2 _ h3
  refine h v' w' ?_ ((Below.refl _ _).grown h2 hbase (fun k hk => (hown.lt k hk).1)) h2 h3
  unfold OwnR
  rw [List.length_append, show flatR (zs ++ ys) = flatR zs ++ flatR ys from List.flatMap_append, hl]
  exact h1
/-- one range in a new block -/
theorem rgs_new1 (w : World) (r : Rg) : Rgs (w.alloc (.cells r.arr 39)) (some ⟨w.heap.size, 0, none⟩) 1 [r] :=
  ⟨rfl, by decide, .inr ⟨w.heap.size, 0, rfl, by simp, fun i r' hr j hj => by
    obtain ⟨rfl, rfl⟩ : i = 0 ∧ r' = r := by
      rcases i with _ | i
      · simp at hr; exact ⟨rfl, hr.symm⟩
      · simp at hr
    simp only [World.cell?, World.alloc_heap_new]
    have := encR_get r' j hj
    simpa [encR] using this⟩⟩
/-- what Both gathers -/
def bothR (q : List Rg) (r : Rg) : List Rg := (q.map r.join).filter Rg.ok
def bothL (ra rb : List Rg) : List Rg := ra.flatMap (bothR rb)
theorem bothR_len (q : List Rg) (r : Rg) : (bothR q r).length ≤ q.length := by
  unfold bothR; exact Nat.le_trans (List.length_filter_le _ _) (by simp)
theorem bothL_len (ra rb : List Rg) : (bothL ra rb).length ≤ ra.length * rb.length := by
  induction ra with
  | nil => simp [bothL]
  | cons r l ih => 
    have h1 := bothR_len rb r
    show (bothR rb r ++ bothL l rb).length ≤ _
    rw [List.length_append, List.length_cons, Nat.succ_mul]
    omega
theorem bothR_take_succ {q : List Rg} {j : Nat} {x r : Rg} (hx : q[j]? = some x) : bothR (q.take (j + 1)) r = bothR (q.take j) r ++ (if (r.join x).ok then [r.join x] else []) := by
  unfold bothR
  rw [List.take_add_one, hx]
  simp only [Option.toList_some, List.map_append, List.map_cons, List.map_nil, List.filter_append, List.filter_cons, List.filter_nil]
theorem bothL_take_succ {ra rb : List Rg} {k : Nat} {r : Rg} (hr : ra[k]? = some r) : bothL (ra.take (k + 1)) rb = bothL (ra.take k) rb ++ bothR rb r := by
  unfold bothL
  rw [List.take_add_one, hr]
  simp
end Go.Proofs.Ytmkplfndbjcflaa
