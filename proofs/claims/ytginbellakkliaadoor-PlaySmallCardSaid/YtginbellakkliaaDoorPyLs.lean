/- The contract of a play's Last over this seat's program. -/
import Derived.Test.YtginbellakkliaaDoorPyZ
import Derived.ControlIn
import Derived.Test.YtginbellakkliaaDoorMRel
namespace Go.Proofs.YtginbellakkliaaDoor
open Go.RowKit Go.Shelf Go.Sort
attribute [local go_sem] Oper.semAt_some

def lastTk (l : List Tk) : Tk := l.getLastD ⟨0, 0, 0, 0, 0, 0⟩
theorem lastTk_snoc (l : List Tk) (x : Tk) : lastTk (l ++ [x]) = x := by simp [lastTk]
theorem taken_run (B : Nat) (wx : World) : (Instr.sliceAt 80 (.pointer (some ⟨B, 2, none⟩)) none none none).run Tryd.prog wx = .ok (.slice (some ⟨B, 2, none⟩) 4 4) wx := four_run2 B wx
theorem taken_byt {w : World} {B : Nat} {x : Tk} (h : Row w B 96 (Tk.cells x)) (hx : x.c0 < 256 ∧ x.c1 < 256 ∧ x.c2 < 256 ∧ x.c3 < 256) : Byt w (some ⟨B, 2, none⟩) 4 [x.c0, x.c1, x.c2, x.c3] := by
  refine ⟨rfl, by omega, fun i => ?_, .inr ⟨B, 2, rfl, h.lt, fun i hi => ?_⟩⟩
  · rcases i with _ | _ | _ | _ | i
    · exact hx.1
    · exact hx.2.1
    · exact hx.2.2.1
    · exact hx.2.2.2
    · simp
  · rw [h.cell (2 + i)]
    rcases (show i = 0 ∨ i = 1 ∨ i = 2 ∨ i = 3 by omega) with rfl | rfl | rfl | rfl <;> rfl
theorem tkTo_c (p : Ply) (hp : p.ok) (k : Nat) : ∀ x ∈ p.tkTo k, x.c0 < 256 ∧ x.c1 < 256 ∧ x.c2 < 256 ∧ x.c3 < 256 ∧ x.ld < 4 := by
  induction k with
  | zero => intro x hx; cases hx
  | succ k ih =>
    intro x hx
    rw [Ply.tkTo, List.mem_append] at hx
    rcases hx with hx | hx
    · exact ih x hx
    · split at hx
      · cases hx
      · rename_i s hs
        rw [List.mem_singleton] at hx
        subst hx
        obtain ⟨h1, h2⟩ := hp.steps s (List.mem_of_getElem? hs)
        have a0 := h1.cs 0
        have a1 := h1.cs 1
        have a2 := h1.cs 2
        have a3 := h1.ld
        exact ⟨by show s.st.cs 0 < 256; omega, by show s.st.cs 1 < 256; omega, by show s.st.cs 2 < 256; omega, by show s.c < 256; omega, a3⟩
theorem lastTk_c (p : Ply) (hp : p.ok) : (lastTk p.tks).c0 < 256 ∧ (lastTk p.tks).c1 < 256 ∧ (lastTk p.tks).c2 < 256 ∧ (lastTk p.tks).c3 < 256 ∧ (lastTk p.tks).ld < 4 := by
  unfold lastTk
  rcases List.eq_nil_or_concat p.tks with h | ⟨l, x, h⟩
  · rw [h]; exact ⟨by decide, by decide, by decide, by decide, by decide⟩
  · rw [List.concat_eq_append] at h
    rw [h]
    simp only [List.getLastD_concat]
    exact tkTo_c p hp _ x (by show x ∈ p.tks; rw [h]; simp)
set_option maxHeartbeats 1000000 in
set_option maxRecDepth 100000 in
theorem ply_last {w : World} {B base : Nat} {p : Ply} {vs vb : Value} (hp : p.ok) (h : PlyAt w B base p vs vb) (h4 : 4 ≤ p.steps.length) :
    Calls Tryd.prog 31 #[.pointer (some ⟨B, 0, none⟩)] w fun e w' => ∃ v, e = .returned (.tuple #[.int .u8 ((lastTk p.tks).ld : Int), v, .bool true]) ∧ OwnU w' w.heap.size v [(lastTk p.tks).c0, (lastTk p.tks).c1, (lastTk p.tks).c2, (lastTk p.tks).c3] ∧ Below w.heap.size w w' := by
  obtain ⟨a, cap, rfl, -⟩ := h.ss.slice
  refine (callsIn_wide (n := 9)).1 (callsIn_of_wp_marks Tryd.func31 rfl trivial ?_)
  simp only [Tryd.ntmps31, List.size_toArray, List.length_cons, List.length_nil, Nat.reduceAdd, Nat.reduceSub, Array.replicate_succ, Array.replicate_zero, List.push_toArray, List.append_toArray, List.nil_append, List.cons_append]
  have hmany := hp.many
  have hBl := h.row.lt
  have c14 : w.cell? ⟨B, 14, none⟩ = some (.slice a p.steps.length cap) := h.row.cell 14
  have h4I : decide ((p.steps.length : Int) < 4) = false := by rw [decide_eq_false_iff_not]; omega
  have HLC := Lib.hid (lastTk_c p hp)
  gi_wp2_with fail
  refine (callsIn_wide.2 (ply_made hp h)).mono ?_
  rintro e w' ⟨rfl, rfl⟩
  gi_wp2_with fail
  refine (callsIn_wide.2 (ply_tricks B _)).mono ?_
  rintro e w1 ⟨rfl, rfl⟩
  gi_wp2_with fail
  have hWn : Row ((w.alloc (.cells #[.int .u8 0, .int .u8 0, .int .u8 0, .int .u8 0, .int .u8 0, .int .u8 0] 96)).alloc (.cells #[.pointer (some ⟨B, 0, none⟩)] 31)) w.heap.size 96 (Tk.cells (lastTk [])) := (Row.new w 96 (Tk.cells (lastTk []))).alloc _
  have hRz : Row ((w.alloc (.cells #[.int .u8 0, .int .u8 0, .int .u8 0, .int .u8 0, .int .u8 0, .int .u8 0] 96)).alloc (.cells #[.pointer (some ⟨B, 0, none⟩)] 31)) (w.heap.size + 1) 31 #[.pointer (some ⟨B, 0, none⟩)] := by
    have := Row.new (w.alloc (.cells #[.int .u8 0, .int .u8 0, .int .u8 0, .int .u8 0, .int .u8 0, .int .u8 0] 96)) 31 #[.pointer (some ⟨B, 0, none⟩)]
    rw [World.size_alloc] at this; exact this
  have hbz : Below w.heap.size w ((w.alloc (.cells #[.int .u8 0, .int .u8 0, .int .u8 0, .int .u8 0, .int .u8 0, .int .u8 0] 96)).alloc (.cells #[.pointer (some ⟨B, 0, none⟩)] 31)) := ((Below.refl w.heap.size w).alloc (Nat.le_refl _) _).alloc (by simp) _
  have hsz : ((w.alloc (.cells #[.int .u8 0, .int .u8 0, .int .u8 0, .int .u8 0, .int .u8 0, .int .u8 0] 96)).alloc (.cells #[.pointer (some ⟨B, 0, none⟩)] 31)).heap.size = w.heap.size + 2 := by simp
  have hP := h.below hbz
  have hSa : ∀ g, (Value.slice a p.steps.length cap).ownBlock = some g → g < w.heap.size := fun g hg => (World.ownsRow.lt h.ss.2 g hg).2
  have HSa := Lib.hid hSa
  have HBl := Lib.hid hBl
  clear hSa h hBl c14
  generalize ((w.alloc (.cells #[.int .u8 0, .int .u8 0, .int .u8 0, .int .u8 0, .int .u8 0, .int .u8 0] 96)).alloc (.cells #[.pointer (some ⟨B, 0, none⟩)] 31)) = wz at *
  have HSZ := Lib.hid hsz
  have HLT : Hid (∀ b, (b = w.heap.size + 1 ∨ b = B ∨ (Value.slice a p.steps.length cap).ownBlock = some b) → b < wz.heap.size) := Lib.hid fun b hb => by
    rcases hb with h1 | h1 | h1
    · omega
    · have := HBl.out; omega
    · have := HSa.out b h1; omega
  have HNS : Hid (¬ (w.heap.size = w.heap.size + 1 ∨ w.heap.size = B ∨ (Value.slice a p.steps.length cap).ownBlock = some w.heap.size)) := Lib.hid fun hb => by
    rcases hb with h1 | h1 | h1
    · omega
    · have := HBl.out; omega
    · have := HSa.out _ h1; omega
  refine range_tricks (w.heap.size + 1) B base p a cap vb (by decide) rfl (by simp) (by simp) (by decide) hp hRz hP (fun b => b = w.heap.size + 1 ∨ b = B ∨ (Value.slice a p.steps.length cap).ownBlock = some b) (.inl rfl) (.inr (.inl rfl)) (fun g hg => .inr (.inr hg))
    HLT.out
    (fun G pre W => Row W w.heap.size 96 (Tk.cells (lastTk pre)) ∧ Below w.heap.size w W)
    (stable_and (stable_row (c := fun pre => Tk.cells (lastTk pre)) (by omega)) (stable_below (by omega) (Nat.le_refl _))) ⟨hWn, hbz⟩ ?body ?done
  case body =>
    rintro l G pre x T W ⟨hW, hB⟩ hT hTw hG hszW hpre
    simp only [inTk, List.setIfInBounds_toArray, List.set]
    have hne : w.heap.size ≠ T := by have := HSZ.out; omega
    have t0 := hT.cell 0
    have t1 := hT.cell 1
    have t2 := hT.cell 2
    have t3 := hT.cell 3
    have t4 := hT.cell 4
    have t5 := hT.cell 5
    simp only [List.getElem?_toArray, List.getElem?_cons_zero, List.getElem?_cons_succ] at t0 t1 t2 t3 t4 t5
    obtain ⟨y, hy⟩ : ∃ y, lastTk pre = y := ⟨_, rfl⟩
    rw [hy] at hW
    clear hy
    have d0 := hW.cell 0
    have d1 := hW.cell 1
    have d2 := hW.cell 2
    have d3 := hW.cell 3
    have d4 := hW.cell 4
    have d5 := hW.cell 5
    simp only [List.getElem?_toArray, List.getElem?_cons_zero, List.getElem?_cons_succ] at d0 d1 d2 d3 d4 d5
    have f0 := hW.frozen 0
    have f1 := hW.frozen 1
    have f2 := hW.frozen 2
    have f3 := hW.frozen 3
    have f4 := hW.frozen 4
    have f5 := hW.frozen 5
    have hkk := (((((((Kept.refl (fun b => b ≠ w.heap.size) W).setCell (p := ⟨w.heap.size, 0, none⟩) (by simp) (.int .u8 (x.ld : Int))).setCell (p := ⟨w.heap.size, 1, none⟩) (by simp) (.int .u8 (x.win : Int))).setCell (p := ⟨w.heap.size, 2, none⟩) (by simp) (.int .u8 (x.c0 : Int))).setCell (p := ⟨w.heap.size, 3, none⟩) (by simp) (.int .u8 (x.c1 : Int))).setCell (p := ⟨w.heap.size, 4, none⟩) (by simp) (.int .u8 (x.c2 : Int))).setCell (p := ⟨w.heap.size, 5, none⟩) (by simp) (.int .u8 (x.c3 : Int)))
    have hrr := ((((((hW.set 0 (.int .u8 (x.ld : Int))).set 1 (.int .u8 (x.win : Int))).set 2 (.int .u8 (x.c0 : Int))).set 3 (.int .u8 (x.c1 : Int))).set 4 (.int .u8 (x.c2 : Int))).set 5 (.int .u8 (x.c3 : Int)))
    have hbb := ((((((hB.setCell (p := ⟨w.heap.size, 0, none⟩) (Nat.le_refl _) (.int .u8 (x.ld : Int))).setCell (p := ⟨w.heap.size, 1, none⟩) (Nat.le_refl _) (.int .u8 (x.win : Int))).setCell (p := ⟨w.heap.size, 2, none⟩) (Nat.le_refl _) (.int .u8 (x.c0 : Int))).setCell (p := ⟨w.heap.size, 3, none⟩) (Nat.le_refl _) (.int .u8 (x.c1 : Int))).setCell (p := ⟨w.heap.size, 4, none⟩) (Nat.le_refl _) (.int .u8 (x.c2 : Int))).setCell (p := ⟨w.heap.size, 5, none⟩) (Nat.le_refl _) (.int .u8 (x.c3 : Int)))
    gi_wp2
    refine ⟨⟨hkk.size, fun k o hk ho _ => (hkk.block k (by show k ≠ _; have := HSZ.out; omega) (Array.getElem?_eq_some_iff.1 ho).1).trans ho⟩, fun b hb => hkk.block b (by show b ≠ _; have := (hG b hb).2; have := HSZ.out; omega) (hG b hb).1, hkk.mono (fun b hb => by rintro rfl; exact HNS.out hb), by rw [lastTk_snoc]; exact hrr, hbb⟩
  case done =>
    rintro D G W hD ⟨hW, hB⟩ hK
    have hlc := HLC.out
    obtain ⟨y, hy⟩ : ∃ y, lastTk p.tks = y := ⟨_, rfl⟩
    rw [hy] at hW hlc
    have HY := Lib.hid hy
    clear hy
    have hBl2 := hW.lt
    have hby := byt_row (taken_byt hW ⟨hlc.1, hlc.2.1, hlc.2.2.1, hlc.2.2.2.1⟩) ⟨w.heap.size, 2, none⟩ rfl
    have d0 : W.cell? ⟨w.heap.size, 0, none⟩ = some (.int .u8 (y.ld : Int)) := hW.cell 0
    have hsl := taken_run w.heap.size
    obtain ⟨i0, hi, hz0, hz1, hz2⟩ := info_parts info_u8'
    gi_wp2
    refine wpIn_wide.2 ?_
    refine wp_region_relies (fun w1 => Row w1 w.heap.size 96 (Tk.cells y) ∧ Below w.heap.size w w1)
      (fun i v w1 => match i with
        | 0 => v = .pointer (some ⟨w.heap.size, 0, none⟩)
        | 1 => v = .int .u8 (y.ld : Int)
        | 2 => v = .pointer (some ⟨w.heap.size, 2, none⟩)
        | 3 => v = .slice (some ⟨w.heap.size, 2, none⟩) 4 4
        | 4 => OwnU w1 w.heap.size v [y.c0, y.c1, y.c2, y.c3]
        | 5 => v = .int .u8 (y.ld : Int)
        | 6 => OwnU w1 w.heap.size v [y.c0, y.c1, y.c2, y.c3]
        | 7 => v = .bool true
        | _ => True) (by kernel_rfl) (by kernel_rfl) (by kernel_rfl) (by kernel_rfl) ?_ ⟨hW, hB.drew⟩ ?obls ?end1
    · intro i v w1 w2 h hb
      rcases i with _ | _ | _ | _ | _ | _ | _ | _ | i
      · exact h
      · exact h
      · exact h
      · exact h
      · exact Owns.below h hb
      · exact h
      · exact Owns.below h hb
      · exact h
      · trivial
    case obls =>
      refine ⟨?_, ?_, ?_, ?_, ?_, ?_, ?_, ?_, trivial⟩
      · intro ρ w1 hC hf
        show OpOk _ _ _ _ _
        have f5 : ρ (.tmp 5) = .pointer (some ⟨w.heap.size, 0, none⟩) := hf.1 5 (by simp [Op.operands])
        refine ok_value (v := .pointer (some ⟨w.heap.size, 0, none⟩)) (w' := w1) ?_ ⟨Below.refl _ _, hC, rfl⟩
        simp [execOp, f5, go_sem]
      · intro ρ w1 hC hf
        show OpOk _ _ _ _ _
        have f22 : ρ (.tmp 22) = .pointer (some ⟨w.heap.size, 0, none⟩) := hf.1 22 (by simp [Op.operands])
        have hc : w1.cell? ⟨w.heap.size, 0, none⟩ = some (.int .u8 (y.ld : Int)) := hC.1.cell 0
        refine ok_value (v := .int .u8 (y.ld : Int)) (w' := w1) ?_ ⟨Below.refl _ _, hC, rfl⟩
        simp [execOp, f22, go_sem, hc]
      · intro ρ w1 hC hf
        show OpOk _ _ _ _ _
        have f5 : ρ (.tmp 5) = .pointer (some ⟨w.heap.size, 0, none⟩) := hf.1 5 (by simp [Op.operands])
        refine ok_value (v := .pointer (some ⟨w.heap.size, 2, none⟩)) (w' := w1) ?_ ⟨Below.refl _ _, hC, rfl⟩
        simp [execOp, f5, go_sem]
      · intro ρ w1 hC hf
        show OpOk _ _ _ _ _
        have f24 : ρ (.tmp 24) = .pointer (some ⟨w.heap.size, 2, none⟩) := hf.1 24 (by simp [Op.operands])
        refine ok_value (v := .slice (some ⟨w.heap.size, 2, none⟩) 4 4) (w' := w1) ?_ ⟨Below.refl _ _, hC, rfl⟩
        simp [execOp, f24, go_sem, hsl]
      · intro ρ w1 hC hf
        show OpOk _ _ _ _ _
        have f25 : ρ (.tmp 25) = .slice (some ⟨w.heap.size, 2, none⟩) 4 4 := hf.1 25 (by simp [Op.operands, Call.operands])
        have fnil := hf.2.1 (.slice none 0 0)
        have hby1 := byt_row (taken_byt hC.1 ⟨hlc.1, hlc.2.1, hlc.2.2.1, hlc.2.2.2.1⟩) ⟨w.heap.size, 2, none⟩ rfl
        obtain ⟨v', w2, hrun, hown, hgr, _, _⟩ := run_append_own_at (P := Tryd.prog) w1 w.heap.size 22 22 5 i0 (.int .u8 0) 1 1 Tryd.underlying22 hi hz0 hz1 hz2 rfl (by decide) (.slice none 0 0) 0 [] (World.ownsRow_nil _ _ _ _) ⟨w.heap.size, 2, none⟩ 4 4 ([y.c0, y.c1, y.c2, y.c3].flatMap encU) rfl hby1 (flatU_one _) (by unfold maxLen; omega) (by omega) hC.2.size
        have hb2 : Below w1.heap.size w1 w2 := (Below.refl _ _).grown hgr (Nat.le_refl _) (fun k hk => by cases hk)
        refine ok_value (v := v') (w' := w2) ?_ ⟨hb2, ⟨hC.1.below hC.1.lt hb2, hC.2.trans (hb2.mono hC.2.size)⟩, encU_len, hown⟩
        unfold execOp
        simp only [resolve, invoke, builtin, Sem.run_bind, Sem.run_pure, Result.andThen_ok, List.map_toArray, List.map_cons, List.map_nil, fnil, f25, hrun]
      · intro ρ w1 hC hf
        show OpOk _ _ _ _ _
        have f23 : ρ (.tmp 23) = .int .u8 (y.ld : Int) := hf.1 23 (by simp [Op.operands])
        refine ok_value (v := .int .u8 (y.ld : Int)) (w' := w1) ?_ ⟨Below.refl _ _, hC, rfl⟩
        simp [execOp, f23]
      · intro ρ w1 hC hf
        show OpOk _ _ _ _ _
        have f26 : OwnU w1 w.heap.size (ρ (.tmp 26)) [y.c0, y.c1, y.c2, y.c3] := hf.1 26 (by simp [Op.operands])
        refine ok_value (v := ρ (.tmp 26)) (w' := w1) ?_ ⟨Below.refl _ _, hC, f26⟩
        simp [execOp]
      · intro ρ w1 hC hf
        show OpOk _ _ _ _ _
        refine ok_value (v := .bool true) (w' := w1) ?_ ⟨Below.refl _ _, hC, rfl⟩
        have := hf.2.1 (.bool true)
        simp [execOp, this]
    case end1 =>
      intro vs w1 hvl hvs hC hbl
      obtain ⟨v0, v1, v2, v3, v4, v5, v6, v7, rfl⟩ : ∃ v0 v1 v2 v3 v4 v5 v6 v7, vs = [v0, v1, v2, v3, v4, v5, v6, v7] := by
        match vs, hvl with
        | [v0, v1, v2, v3, v4, v5, v6, v7], _ => exact ⟨v0, v1, v2, v3, v4, v5, v6, v7, rfl⟩
      have e5 : v5 = .int .u8 (y.ld : Int) := hvs 5 v5 rfl
      have e6 : OwnU w1 w.heap.size v6 [y.c0, y.c1, y.c2, y.c3] := hvs 6 v6 rfl
      have e7 : v7 = .bool true := hvs 7 v7 rfl
      subst e5 e7
      simp only [putAll, List.zip_cons_cons, List.zip_nil_left, List.foldl_cons, List.foldl_nil, Act.put, List.setIfInBounds_toArray, List.set]
      have hK2 : w1.heap[D]? = some (.deferred (some [])) := (hbl.block D (Array.getElem?_eq_some_iff.1 hK).1).trans hK
      go_wp2_with fail
      gi_wp2
      refine ⟨by simp, .inl ⟨_, _, rfl, run_takeDeferred hK2, ?_⟩⟩
      refine ⟨.tuple #[.int .u8 (y.ld : Int), v6, .bool true], by simp [results, Tryd.results31, go_sem], v6, by rw [HY.out], by rw [HY.out]; exact Owns.putObj e6 _ hK2 rfl, ?_⟩
      exact hC.2.trans (belowK_b (w := w) (Nat.le_refl _) w1 D _ _ (by have := HSZ.out; omega) hK2 rfl rfl)
theorem in_last {W : World} {B : Nat} {p : Ply} {G : Nat → Prop} (h : InP W B p G) (h4 : 4 ≤ p.steps.length) :
    Calls Tryd.prog 31 #[.pointer (some ⟨B, 0, none⟩)] W fun e W' => ∃ v, e = .returned (.tuple #[.int .u8 ((lastTk p.tks).ld : Int), v, .bool true]) ∧ OwnU W' W.heap.size v [(lastTk p.tks).c0, (lastTk p.tks).c1, (lastTk p.tks).c2, (lastTk p.tks).c3] ∧ Below W.heap.size W W' := by
  obtain ⟨vs, vb, h1, _⟩ := h.mem
  exact ply_last h.ok h1 h4
end Go.Proofs.YtginbellakkliaaDoor
