/- The contract of a play's method Seen, over this seat's program. -/
import Derived.Test.YtginbellakkliaaDoorMPyd
namespace Go.Proofs.YtginbellakkliaaDoor
open Go.RowKit Go.Shelf Go.Sort

/-- the hands that a seat sees -/
def Ply.seenH (p : Ply) (s : Nat) : Nat → Nat := if p.steps = [] then setH (fun _ => 0) s (p.st.h s) else setH (setH (fun _ => 0) s (p.st.h s)) p.dummy (p.st.h p.dummy)
/-- the cards that are hidden -/
def hidV (h g : Nat → Nat) : Nat := lor (lor (lor (lor 0 (landn (h 0) (g 0))) (landn (h 1) (g 1))) (landn (h 2) (g 2))) (landn (h 3) (g 3))
theorem W64.setH {h : Nat → Nat} (hw : ∀ j, W64 (h j)) (s v : Nat) (hv : W64 v) : ∀ j, W64 (setH h s v j) := by
  intro j; unfold Go.Proofs.YtginbellakkliaaDoor.setH; split
  · exact hv
  · exact hw j
theorem idx_0 (a b c d : Value) (w : World) : (Instr.index 26 (.agg #[a, b, c, d]) (.int .i64 0)).run Tryd.prog w = .ok a w := by kernel_rfl
theorem idx_1 (a b c d : Value) (w : World) : (Instr.index 26 (.agg #[a, b, c, d]) (.int .i64 1)).run Tryd.prog w = .ok b w := by kernel_rfl
theorem idx_2 (a b c d : Value) (w : World) : (Instr.index 26 (.agg #[a, b, c, d]) (.int .i64 2)).run Tryd.prog w = .ok c w := by kernel_rfl
theorem idx_3 (a b c d : Value) (w : World) : (Instr.index 26 (.agg #[a, b, c, d]) (.int .i64 3)).run Tryd.prog w = .ok d w := by kernel_rfl
theorem arr4_cell (h : Nat → Nat) (s : Nat) (hs : s < 4) : (arr4 h)[s]? = some (.int .u64 (h s : Int)) := arr4_get h s hs
theorem Mid.of {w : World} {B base : Nat} {S : Nat → Prop} {p : Ply} {vs vb : Value} (h : PlyAt w B base p vs vb) : Mid w w B base S p vs vb p.steps p.back := ⟨h.row, h.ss, h.bs, Kept.refl _ _⟩
set_option maxHeartbeats 1000000 in
set_option maxRecDepth 100000 in
theorem ply_seen {w : World} {B base s : Nat} {p : Ply} {vs vb : Value} (hp : p.ok) (h : PlyAt w B base p vs vb) (hs : s ≤ 3) :
    Calls Tryd.prog 21 #[.pointer (some ⟨B, 0, none⟩), .int .u8 (s : Int)] w fun e w' =>
      e = .returned (.tuple #[.agg (arr4 (p.seenH s)), .int .u64 (hidV p.st.h (p.seenH s) : Int)]) ∧ Below w.heap.size w w' := by
  obtain ⟨a, cap, rfl, -⟩ := h.ss.slice
  have hB0 := ((Below.refl w.heap.size w).alloc (Nat.le_refl _) (.cells #[.int .u64 0, .int .u64 0, .int .u64 0, .int .u64 0] 26)).alloc (by simp) (.cells #[.int .u64 0, .int .u64 0, .int .u64 0, .int .u64 0] 26)
  have hZ0 : Row ((w.alloc (.cells #[.int .u64 0, .int .u64 0, .int .u64 0, .int .u64 0] 26)).alloc (.cells #[.int .u64 0, .int .u64 0, .int .u64 0, .int .u64 0] 26)) w.heap.size 26 (arr4 fun _ => 0) := (Row.new w 26 #[.int .u64 0, .int .u64 0, .int .u64 0, .int .u64 0]).alloc _
  have hZ1 : Row ((w.alloc (.cells #[.int .u64 0, .int .u64 0, .int .u64 0, .int .u64 0] 26)).alloc (.cells #[.int .u64 0, .int .u64 0, .int .u64 0, .int .u64 0] 26)) (w.heap.size + 1) 26 (arr4 fun _ => 0) := by
    have := Row.new (w.alloc (.cells #[.int .u64 0, .int .u64 0, .int .u64 0, .int .u64 0] 26)) 26 #[.int .u64 0, .int .u64 0, .int .u64 0, .int .u64 0]
    rw [World.size_alloc] at this; exact this
  have HM := Lib.hid (ply_made hp (h.below hB0))
  have h3B : decide ((s : Int) > 3) = false := by rw [decide_eq_false_iff_not]; omega
  have hh := h.below hB0
  have hBl := h.row.lt
  go_enter Tryd.func21, Tryd.ntmps21
  go_upto_region 4 with (go_at_call 41; refine HM.out.mono ?_; rintro e w' ⟨rfl, rfl⟩)
  generalize (w.alloc (.cells #[.int .u64 0, .int .u64 0, .int .u64 0, .int .u64 0] 26)).alloc (.cells #[.int .u64 0, .int .u64 0, .int .u64 0, .int .u64 0] 26) = w1 at *
  generalize hL : w.heap.size = L at *
  have hs4 : s < 4 := by omega
  have hs4I : (s : Int) < 4 := by omega
  have cs : w1.cell? ⟨B, s, none⟩ = some (.int .u64 (p.st.h s : Int)) := by
    rw [hh.row.cell]
    rcases (show s = 0 ∨ s = 1 ∨ s = 2 ∨ s = 3 by omega) with rfl | rfl | rfl | rfl <;> rfl
  have cz : w1.cell? ⟨L + 1, s, none⟩ = some (.int .u64 0) := (hZ1.cell s).trans (arr4_get _ s hs4)
  have fz := hZ1.frozen s
  have hZ2 := hZ1.set s (.int .u64 (p.st.h s : Int))
  rw [arr4_set _ _ _ hs4] at hZ2
  have hZ3 : Row (w1.setCell ⟨L + 1, s, none⟩ (.int .u64 (p.st.h s : Int))) L 26 (arr4 fun _ => 0) := hZ0.other (by omega)
  have hb1 := hB0.setCell (p := ⟨L + 1, s, none⟩) (by simp) (.int .u64 (p.st.h s : Int))
  go_upto_region 5 with fail
  clear cs cz fz hZ0 hZ1 hh hB0 HM
  generalize w1.setCell ⟨L + 1, s, none⟩ (.int .u64 (p.st.h s : Int)) = w2 at *
  have hh := h.below (hL ▸ hb1)
  have c14 : w2.cell? ⟨B, 14, none⟩ = some (.slice a p.steps.length cap) := hh.row.cell 14
  obtain ⟨n, hn⟩ : ∃ n, n = p.steps.length := ⟨_, rfl⟩
  rw [← hn] at c14
  have HN := Lib.hid hn
  clear hn
  go_upto_if 32 with fail
  go_cut [] from 10 (fun wx => Row wx (L + 1) 26 (arr4 (p.seenH s)) ∧ Row wx L 26 (arr4 fun _ => 0) ∧ Below L w wx)
  case first =>
    by_cases hst : p.steps = []
    · obtain rfl : n = 0 := by rw [HN.out, hst]; rfl
      have he : p.seenH s = setH (fun _ => 0) s (p.st.h s) := by unfold Ply.seenH; rw [if_pos hst]
      have HE := Lib.hid he
      clear he hst
      go_wp2_with fail
      go_meet
      case rel => exact ⟨by rw [HE.out]; exact hZ2, hZ3, hb1⟩
    · obtain ⟨k, rfl⟩ : ∃ k, n = k + 1 := by
        have := List.length_pos_iff.2 hst
        have := HN.out
        exact ⟨n - 1, by omega⟩
      have he : p.seenH s = setH (setH (fun _ => 0) s (p.st.h s)) p.dummy (p.st.h p.dummy) := by unfold Ply.seenH; rw [if_neg hst]
      have HE := Lib.hid he
      clear he hst
      have hd4 : p.dummy < 4 := by unfold Ply.dummy; omega
      have hd4I : (p.dummy : Int) < 4 := by omega
      have HD := Lib.hid (fun (w1 : World) (hb : Below w2.heap.size w2 w1) => ply_dummy hp (hh.below hb))
      have cd : w2.cell? ⟨B, p.dummy, none⟩ = some (.int .u64 (p.st.h p.dummy : Int)) := by
        rw [hh.row.cell]
        rcases (show p.dummy = 0 ∨ p.dummy = 1 ∨ p.dummy = 2 ∨ p.dummy = 3 by omega) with h | h | h | h <;> rw [h] <;> rfl
      have rd := fun dd os => cell_regrown cd dd os
      go_upto_region 6 with fail
      refine wp_region_below_tail 11 (by kernel_rfl) (by kernel_rfl) ?_
      simp only [List.take_succ_cons, List.take_zero, List.drop_succ_cons, List.drop_zero]
      repeat (quiet_step (exact Calls.regrown_of ((HD.out _ (below_regrown _ _ _)).mono (by rintro e w' ⟨rfl, rfl⟩; exact ⟨rfl, Below.refl _ _⟩))))
      refine wpQuiet_nil ?_
      rintro _ ⟨q, rfl⟩
      have hb3 := below_regrown w2 q.d q.os
      generalize grow (redrawn w2 q.d) q.os = w3 at *
      have hZ4 := hZ2.below hZ2.lt hb3
      have cz : w3.cell? ⟨L + 1, p.dummy, none⟩ = some (.int .u64 ((setH (fun _ => 0) s (p.st.h s) p.dummy : Nat) : Int)) := (hZ4.cell p.dummy).trans (arr4_get _ _ hd4)
      have fz := hZ4.frozen p.dummy
      have hZ5 := hZ4.set p.dummy (.int .u64 (p.st.h p.dummy : Int))
      rw [arr4_set _ _ _ hd4] at hZ5
      have hZ6 : Row (w3.setCell ⟨L + 1, p.dummy, none⟩ (.int .u64 (p.st.h p.dummy : Int))) L 26 (arr4 fun _ => 0) := (hZ3.below hZ3.lt hb3).other (by omega)
      have hb4 := (hb1.trans (hb3.mono (by have := hb1.size; omega))).setCell (p := ⟨L + 1, p.dummy, none⟩) (by simp) (.int .u64 (p.st.h p.dummy : Int))
      clear rd cd hb3
      go_wp2_with fail
      go_meet
      case rel => exact ⟨by rw [HE.out]; exact hZ5, hZ6, hb4⟩
  case rest =>
    obtain ⟨hZ7, hZ8, hb7⟩ := hcut
    have hh7 := h.below (hL ▸ hb7)
    have hsw : ∀ j, W64 (p.seenH s j) := by
      unfold Ply.seenH
      split
      · exact W64.setH (fun _ => W64.zero) _ _ (hp.st.h _)
      · exact W64.setH (W64.setH (fun _ => W64.zero) _ _ (hp.st.h _)) _ _ (hp.st.h _)
    generalize hsh : p.seenH s = sh at *
    have HSH := Lib.hid hsh
    clear hsh
    have hR7 := hh7.row
    have c0 := hR7.cell 0
    have c1 := hR7.cell 1
    have c2 := hR7.cell 2
    have c3 := hR7.cell 3
    simp only [List.getElem?_toArray, List.getElem?_cons_zero, List.getElem?_cons_succ] at c0 c1 c2 c3
    have d0 := hZ7.cell 0
    have d1 := hZ7.cell 1
    have d2 := hZ7.cell 2
    have d3 := hZ7.cell 3
    simp only [List.getElem?_toArray, List.getElem?_cons_zero, List.getElem?_cons_succ] at d0 d1 d2 d3
    have i0 := idx_0
    have i1 := idx_1
    have i2 := idx_2
    have i3 := idx_3
    have w0 := hp.st.h 0
    have w1' := hp.st.h 1
    have w2' := hp.st.h 2
    have w3' := hp.st.h 3
    have v0 := hsw 0
    have v1 := hsw 1
    have v2 := hsw 2
    have v3 := hsw 3
    have l0 := w0.landn (n := sh 0)
    have l1 := w1'.landn (n := sh 1)
    have l2 := w2'.landn (n := sh 2)
    have l3 := w3'.landn (n := sh 3)
    have k0 := W64.zero.lor l0
    have k1 := k0.lor l1
    have k2 := k1.lor l2
    have k3 := k2.lor l3
    have hz : Op.intBits .or .u64 0 ((landn (p.st.h 0) (sh 0) : Nat) : Int) = pure (.int .u64 ((lor 0 (landn (p.st.h 0) (sh 0)) : Nat) : Int)) := run_or64 0 _ W64.zero l0
    have z0 := hZ8.cell 0
    have z1 := hZ8.cell 1
    have z2 := hZ8.cell 2
    have z3 := hZ8.cell 3
    simp only [List.getElem?_toArray, List.getElem?_cons_zero, List.getElem?_cons_succ] at z0 z1 z2 z3
    have g0 := hZ8.frozen 0
    have g1 := hZ8.frozen 1
    have g2 := hZ8.frozen 2
    have g3 := hZ8.frozen 3
    go_wp2_with fail
    refine wp_loop_rounds 5 ?_
    rw [rounds_succ]
    go_wp2_with fail
    rw [rounds_succ]
    go_wp2_with fail
    rw [rounds_succ]
    go_wp2_with fail
    rw [rounds_succ]
    go_wp2_with fail
    rw [rounds_succ]
    go_wp2_with fail
    refine bodyPost_ret (v := .tuple #[.agg (arr4 sh), .int .u64 (hidV p.st.h sh : Int)]) (by simp [results, Tryd.results21, go_sem, z0, z1, z2, z3, hidV]) rfl ⟨by rw [HSH.out], ?_⟩
    rw [hL]
    exact (((hb7.setCell (p := ⟨L, 0, none⟩) (Nat.le_refl _) _).setCell (p := ⟨L, 1, none⟩) (Nat.le_refl _) _).setCell (p := ⟨L, 2, none⟩) (Nat.le_refl _) _).setCell (p := ⟨L, 3, none⟩) (Nat.le_refl _) _
end Go.Proofs.YtginbellakkliaaDoor
