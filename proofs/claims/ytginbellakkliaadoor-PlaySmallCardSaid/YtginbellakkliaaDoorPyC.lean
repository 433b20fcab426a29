/- The contract of a play's method put, over this seat's program. -/
import Derived.Test.YtginbellakkliaaDoorMPya
import Derived.Test.YtginbellakkliaaDoorMLow
import Derived.Deep.AppendLies
import Derived.Deep.Cut
import Derived.Deep.RegionLaw
namespace Go.Proofs.YtginbellakkliaaDoor
open Go.RowKit Go.Shelf Go.Sort

theorem Kept.of_grown {w w' : World} {row : Option Nat} {S : Nat → Prop} (h : w.grownBy w' row) (hS : ∀ k, S k → some k ≠ row) : Kept S w w' := ⟨h.os, h.tape, h.output, h.size, fun k hk hl => h.block k hl (hS k hk)⟩
theorem info_stp : (Tryd.prog.info? 92).map (fun i => (i.zero, i.size, i.bytes)) = some (some (.agg #[.int .u64 0, .int .u64 0, .int .u64 0, .int .u64 0, .int .u8 0, .int .u8 0, .int .u8 0, .int .u8 0, .int .u8 0, .int .u8 0, .int .u8 0]), 11, 48) := by kernel_rfl
theorem row_new_at (w : World) (cs : List Value) (t : TypeId) : ∀ j u, cs[j]? = some u → (w.alloc (.cells cs.toArray t)).cell? ((⟨w.heap.size, 0, none⟩ : Addr).add j) = some u := by
  intro j u hu
  have h := (Row.new w t cs.toArray).cell j
  rw [List.getElem?_toArray, hu] at h
  rw [← h]
  unfold Addr.add
  split
  · rename_i h0; have h0 : j = 0 := by simpa using h0
    subst h0; rfl
  · simp
/-- cells of a play that are set -/
theorem ply_hset (p : Ply) (vs vb : Value) (s v : Nat) (hs : s < 4) : (p.cells vs vb).setIfInBounds s (.int .u64 (v : Int)) = ({ p with st := { p.st with h := setH p.st.h s v } } : Ply).cells vs vb := by
  rcases (show s = 0 ∨ s = 1 ∨ s = 2 ∨ s = 3 by omega) with rfl | rfl | rfl | rfl <;> rfl
theorem ply_cset (p : Ply) (vs vb : Value) (s v : Nat) (hs : s < 4) : (p.cells vs vb).setIfInBounds (6 + s) (.int .u8 (v : Int)) = ({ p with st := { p.st with cs := setH p.st.cs s v } } : Ply).cells vs vb := by
  rcases (show s = 0 ∨ s = 1 ∨ s = 2 ∨ s = 3 by omega) with rfl | rfl | rfl | rfl <;> rfl

/-- a play under change -/
structure Mid (w0 w : World) (B base : Nat) (S : Nat → Prop) (p : Ply) (vs vb : Value) (steps : List Stp) (back : List Nat) : Prop where
  row : Row w B 85 (p.cells vs vb)
  ss : Owns Stp.cells 11 92 w base vs steps
  bs : OwnU w base vb back
  kp : Kept S w0 w
theorem Mid.below {w0 w w' : World} {B base : Nat} {S : Nat → Prop} {p : Ply} {vs vb : Value} {steps : List Stp} {back : List Nat} (h : Mid w0 w B base S p vs vb steps back) (hb : Below w.heap.size w w') : Mid w0 w' B base S p vs vb steps back :=
  ⟨h.row.below h.row.lt hb, h.ss.below hb, h.bs.below hb, h.kp.trans (Kept.of_below hb)⟩
theorem Mid.set {w0 w : World} {B base : Nat} {S : Nat → Prop} {p p' : Ply} {vs vb : Value} {steps : List Stp} {back : List Nat} (h : Mid w0 w B base S p vs vb steps back) (hS : ¬ S B) (hns : vs.ownBlock ≠ some B) (hnb : vb.ownBlock ≠ some B) {i : Nat} {v : Value}
    (he : (p.cells vs vb).setIfInBounds i v = p'.cells vs vb) : Mid w0 (w.setCell ⟨B, i, none⟩ v) B base S p' vs vb steps back :=
  ⟨he ▸ h.row.set i v, Owns.kept (row := some B) h.ss (grownBy_set (World.grownBy.refl w (some B)) (.inl rfl) _) (.inl (fun e => hns e.symm)),
    Owns.kept (row := some B) h.bs (grownBy_set (World.grownBy.refl w (some B)) (.inl rfl) _) (.inl (fun e => hnb e.symm)), h.kp.setCell hS _⟩
theorem four_run (B : Nat) (wx : World) : (Instr.sliceAt 80 (.pointer (some ⟨B, 6, none⟩)) none none none).run Tryd.prog wx = .ok (.slice (some ⟨B, 6, none⟩) 4 4) wx := by
  have hl : Tryd.prog.arrayLen 80 = 4 := by kernel_rfl
  have hsz : (sizeOf (Tryd.prog.elem 80)).run Tryd.prog wx = .ok 1 wx := by kernel_rfl
  rw [run_sliceAt_array_all wx 80 ⟨B, 6, none⟩ (by kernel_rfl), hsz, hl]
  simp [Result.andThen, slicedAt, Addr.add]
theorem four_byt {w : World} {B : Nat} {cs : Array Value} {t : TypeId} (h : Row w B t cs) {x0 x1 x2 x3 : Nat} (h0 : cs[6]? = some (.int .u8 (x0 : Int))) (h1 : cs[7]? = some (.int .u8 (x1 : Int))) (h2 : cs[8]? = some (.int .u8 (x2 : Int))) (h3 : cs[9]? = some (.int .u8 (x3 : Int)))
    (b0 : x0 < 256) (b1 : x1 < 256) (b2 : x2 < 256) (b3 : x3 < 256) : Byt w (some ⟨B, 6, none⟩) 4 [x0, x1, x2, x3] := by
  refine ⟨rfl, by omega, fun i => ?_, .inr ⟨B, 6, rfl, h.lt, fun i hi => ?_⟩⟩
  · match i with
    | 0 => exact b0
    | 1 => exact b1
    | 2 => exact b2
    | 3 => exact b3
    | k + 4 => show 0 < 256; omega
  · rw [h.cell]
    match i, hi with
    | 0, _ => exact h0
    | 1, _ => exact h1
    | 2, _ => exact h2
    | 3, _ => exact h3
set_option maxHeartbeats 1000000 in
set_option maxRecDepth 100000 in
theorem ply_put {w : World} {B base c : Nat} {p : Ply} {a : Option Addr} {len cap : Nat} {vb : Value} (hp : p.ok) (h : PlyAt w B base p (.slice a len cap) vb) (hc : c < 52) (hbB : base ≤ B) :
    Calls Tryd.prog 47 #[.pointer (some ⟨B, 0, none⟩), .int .u8 (c : Int)] w fun e w' => e = .returned (.tuple #[]) ∧
      ∃ vs', PlyAt w' B base (p.put c) vs' vb ∧ Kept (fun k => k ≠ B ∧ some k ≠ (Value.slice a len cap).ownBlock) w w' ∧ (vs'.ownBlock = (Value.slice a len cap).ownBlock ∨ ∃ g, vs'.ownBlock = some g ∧ w.heap.size ≤ g) := by
  obtain ⟨i0, hi, hz0, hz1, hz2⟩ := info_parts info_stp
  have hR := h.row
  obtain rfl : len = p.steps.length := by obtain ⟨a', c', he, _⟩ := h.ss.slice; injection he
  have hmany := hp.many
  have c0 := hR.cell 0
  have c1 := hR.cell 1
  have c2 := hR.cell 2
  have c3 := hR.cell 3
  have c4 := hR.cell 4
  have c5 := hR.cell 5
  have c6 := hR.cell 6
  have c7 := hR.cell 7
  have c8 := hR.cell 8
  have c9 := hR.cell 9
  simp only [List.getElem?_toArray, List.getElem?_cons_zero, List.getElem?_cons_succ] at c0 c1 c2 c3 c4 c5 c6 c7 c8 c9
  have c14 := hR.cell 14
  simp only [List.getElem?_toArray, List.getElem?_cons_zero, List.getElem?_cons_succ] at c14
  have rc0 := fun dd os => cell_regrown c0 dd os
  have rc1 := fun dd os => cell_regrown c1 dd os
  have rc2 := fun dd os => cell_regrown c2 dd os
  have rc3 := fun dd os => cell_regrown c3 dd os
  have rc4 := fun dd os => cell_regrown c4 dd os
  have rc5 := fun dd os => cell_regrown c5 dd os
  have rc6 := fun dd os => cell_regrown c6 dd os
  have rc7 := fun dd os => cell_regrown c7 dd os
  have rc8 := fun dd os => cell_regrown c8 dd os
  have rc9 := fun dd os => cell_regrown c9 dd os
  have rc14 := fun dd os => cell_regrown c14 dd os
  go_enter Tryd.func47, Tryd.ntmps47
  go_wp2_with fail
  have hst : Stp.cells ⟨p.st, c⟩ = [.int .u64 (p.st.h 0 : Int), .int .u64 (p.st.h 1 : Int), .int .u64 (p.st.h 2 : Int), .int .u64 (p.st.h 3 : Int), .int .u8 (p.st.ld : Int), .int .u8 (p.st.ct : Int), .int .u8 (p.st.cs 0 : Int), .int .u8 (p.st.cs 1 : Int), .int .u8 (p.st.cs 2 : Int), .int .u8 (p.st.cs 3 : Int), .int .u8 (c : Int)] := rfl
  have HST := Lib.hid hst
  clear hst
  have HOWN := Lib.hid (World.ownsRow.drew h.ss.2)
  have hBl := hR.lt
  go_cut [] from 4 (fun wx => ∃ vs', Row wx B 85 (p.cells vs' vb) ∧ Owns Stp.cells 11 92 wx base vs' (p.steps ++ [⟨p.st, c⟩]) ∧ OwnU wx base vb p.back ∧ Kept (fun k => k ≠ B ∧ some k ≠ (Value.slice a p.steps.length cap).ownBlock) w wx ∧
    (vs'.ownBlock = (Value.slice a p.steps.length cap).ownBlock ∨ ∃ g, vs'.ownBlock = some g ∧ w.heap.size ≤ g) ∧ vs'.ownBlock ≠ some B)
  case first =>
    go_region_law (refine step_append_lies _ rfl (.tmp 8) (.tmp 15) 83 rfl base 92 i0 _ 11 48 Tryd.underlying83 hi hz0 hz1 hz2 rfl (by decide) (.slice a p.steps.length cap) p.steps.length (p.steps.flatMap Stp.cells) (by simp [Act.eval]) (World.ownsRow.alloc HOWN.out _) ⟨w.heap.size, 0, none⟩ 1 1 (Stp.cells ⟨p.st, c⟩) (by simp [Act.eval]) rfl (row_new_at w.drew (Stp.cells ⟨p.st, c⟩) _) (by rw [HST.out]; simp [Value.oneCell']) (by decide) (by unfold maxLen; omega) (by omega) (by show base ≤ (w.alloc _).heap.size; rw [World.size_alloc]; omega) _ rfl ?_; intro g cp w2 h2 h3 h4 h5; have hR2 : Row w2 B 85 (p.cells (.slice a p.steps.length cap) vb) := hR.same ((h3.block B (Nat.lt_trans hBl (by rw [show ∀ x : World, x.drew.heap = x.heap from fun _ => rfl, World.size_alloc]; omega)) (fun e => h.ns e.symm)).trans (Below.heap_alloc w _ B hBl)); have c14 : w2.cell? ⟨B, 14, none⟩ = some (.slice a p.steps.length cap) := hR2.cell 14; have f14 := hR2.frozen 14)
    all_goals
      have hgB : g ≠ B := by
        rcases h4 with h4 | h4
        · intro e; exact h.ns (by rw [h4, e])
        · have : g = w.heap.size + 1 := by rw [h4]; show (w.alloc _).heap.size = _; rw [World.size_alloc]
          omega
      have hR3 : Row (w2.setCell ⟨B, 14, none⟩ (.slice (some ⟨g, 0, none⟩) (p.steps.length + 1) cp)) B 85 (p.cells (.slice (some ⟨g, 0, none⟩) (p.steps.length + 1) cp) vb) := hR2.set 14 _
      have hs3 : Owns Stp.cells 11 92 (w2.setCell ⟨B, 14, none⟩ (.slice (some ⟨g, 0, none⟩) (p.steps.length + 1) cp)) base (.slice (some ⟨g, 0, none⟩) (p.steps.length + 1) cp) (p.steps ++ [⟨p.st, c⟩]) := by
        refine Owns.kept (row := some B) (w := w2) ⟨stp_len, ?_⟩ (grownBy_set (World.grownBy.refl w2 (some B)) (.inl rfl) _) (.inl (by intro e; simp only [Value.ownBlock, Option.some.injEq] at e; exact hgB e.symm))
        rw [List.length_append, List.flatMap_append]
        simpa using h2
      have hK3 : Kept (fun k => k ≠ B ∧ some k ≠ (Value.slice a p.steps.length cap).ownBlock) w (w2.setCell ⟨B, 14, none⟩ (.slice (some ⟨g, 0, none⟩) (p.steps.length + 1) cp)) :=
        ((((Kept.refl _ w).alloc _).drew).trans (Kept.of_grown h3 (fun k hk => hk.2))).setCell (fun hk => hk.1 rfl) _
      have hsz3 := hK3.size
      have hb3 : OwnU (w2.setCell ⟨B, 14, none⟩ (.slice (some ⟨g, 0, none⟩) (p.steps.length + 1) cp)) base vb p.back :=
by
        have hb2 : OwnU w2 base vb p.back := by
          refine Owns.kept (w := (w.alloc _).drew) (h.bs.alloc _) h3 ?_
          by_cases hva : (Value.slice a p.steps.length cap).ownBlock = none
          · exact .inr hva
          · obtain ⟨g', hg'⟩ := Option.ne_none_iff_exists'.1 hva
            exact .inl (fun e => by rw [hg'] at e; exact h.sb g' hg' e.symm)
        exact Owns.kept (row := some B) hb2 (grownBy_set (World.grownBy.refl w2 (some B)) (.inl rfl) _) (.inl (fun e => h.nb e.symm))
      go_wp2_with fail
      go_meet
      case rel =>
        refine ⟨_, hR3, hs3, hb3, hK3, ?_, fun e => by simp only [Value.ownBlock, Option.some.injEq] at e; exact hgB e⟩
        rcases h4 with h4 | h4
        · exact .inl h4.symm
        · exact .inr ⟨g, rfl, by rw [h4]; show w.heap.size ≤ (w.alloc _).heap.size; rw [World.size_alloc]; omega⟩
  case rest =>
    obtain ⟨vs', hR3, hs3, hb3, hK3, hv3, hn3⟩ := hcut
    clear c0 c1 c2 c3 c4 c5 c6 c7 c8 c9 rc0 rc1 rc2 rc3 rc4 rc5 rc6 rc7 rc8 rc9 rc14 c14 HST HOWN hi hz0 hz1 hz2 hR hBl
    have HM3 : Mid w wc B base (fun k => k ≠ B ∧ some k ≠ (Value.slice a p.steps.length cap).ownBlock) p vs' vb (p.steps ++ [⟨p.st, c⟩]) p.back := ⟨hR3, hs3, hb3, hK3⟩
    have hnS : ¬ (fun k => k ≠ B ∧ some k ≠ (Value.slice a p.steps.length cap).ownBlock) B := fun h => h.1 rfl
    have hnb := h.nb
    have HVB : Hid (∀ g, vs'.ownBlock = some g → vb.ownBlock ≠ some g) := Lib.hid fun g hg => by
      rcases hv3 with hv | ⟨g', hv, hgs⟩
      · exact h.sb g (by rw [← hv]; exact hg)
      · intro e
        have h1 := (World.ownsRow.lt h.bs.2 g e).2
        rw [hv] at hg
        injection hg with hg
        omega
    clear hs3 hb3 hK3
    have hn4 : p.st.next < 4 := by unfold PSt.next; omega
    have hn4I : (p.st.next : Int) < 4 := by omega
    have hct := hp.st.ct
    have HN := Lib.hid (fun (w1 : World) (hb : Below wc.heap.size wc w1) => ply_next hp.st (hR3.below hR3.lt hb))
    obtain ⟨m, hme, hmw⟩ : ∃ m, m = p.st.h p.st.next ∧ W64 m := ⟨_, rfl, hp.st.h _⟩
    have hm : wc.cell? ⟨B, p.st.next, none⟩ = some (.int .u64 (m : Int)) := by
      rw [hR3.cell, hme]
      rcases (show p.st.next = 0 ∨ p.st.next = 1 ∨ p.st.next = 2 ∨ p.st.next = 3 by omega) with h | h | h | h <;> rw [h] <;> rfl
    have rm := fun dd os => cell_regrown hm dd os
    have hzw := W64.shl1 c
    have HME := Lib.hid hme
    clear hme
    go_upto_region 1 with fail
    refine wp_region_below_tail 15 (by kernel_rfl) (by kernel_rfl) ?_
    simp only [List.take_succ_cons, List.take_zero, List.drop_succ_cons, List.drop_zero]
    repeat (quiet_step (exact Calls.regrown_of (HN.out _ (below_regrown _ _ _))))
    refine wpQuiet_nil ?_
    rintro _ ⟨q, rfl⟩
    have hb4 := below_regrown wc q.d q.os
    generalize grow (redrawn wc q.d) q.os = w4 at *
    have HM4 := HM3.below hb4
    have c4 : w4.cell? ⟨B, p.st.next, none⟩ = some (.int .u64 (m : Int)) := (hb4.cell (p := ⟨B, p.st.next, none⟩) hR3.lt).trans hm
    have f4 := HM4.row.frozen p.st.next
    have HM5 := HM4.set hnS hn3 hnb (ply_hset p vs' vb p.st.next (landn m (shl1 c)) hn4)
    clear rm hm hb4 hzw
    go_upto_region 2 with fail
    clear c4 f4 HM3 HM4
    generalize w4.setCell ⟨B, p.st.next, none⟩ (.int .u64 ((landn m (shl1 c) : Nat) : Int)) = w5 at *
    have c5 : w5.cell? ⟨B, 5, none⟩ = some (.int .u8 (p.st.ct : Int)) := HM5.row.cell 5
    have rc5 := fun dd os => cell_regrown c5 dd os
    have hct4 : p.st.ct < 4 := hct
    have hct4I : (p.st.ct : Int) < 4 := by omega
    refine wp_region_below_tail 11 (by kernel_rfl) (by kernel_rfl) ?_
    simp only [List.take_succ_cons, List.take_zero, List.drop_succ_cons, List.drop_zero]
    repeat (quiet_step (fail))
    refine wpQuiet_nil ?_
    rintro _ ⟨q, rfl⟩
    have hb6 := below_regrown w5 q.d q.os
    generalize grow (redrawn w5 q.d) q.os = w6 at *
    have HM6 := HM5.below hb6
    obtain ⟨z6, c6⟩ : ∃ z : Nat, w6.cell? ⟨B, 6 + p.st.ct, none⟩ = some (.int .u8 (z : Int)) := by
      rw [HM6.row.cell]
      rcases (show p.st.ct = 0 ∨ p.st.ct = 1 ∨ p.st.ct = 2 ∨ p.st.ct = 3 by omega) with h | h | h | h <;> rw [h] <;> exact ⟨_, rfl⟩
    have f6 := HM6.row.frozen (6 + p.st.ct)
    have HM7 := HM6.set hnS hn3 hnb (ply_cset _ vs' vb p.st.ct c hct)
    clear rc5 hb6 HM5
    go_upto_region 3 with fail
    clear c6 f6 c5 HM6
    generalize w6.setCell ⟨B, 6 + p.st.ct, none⟩ (.int .u8 (c : Int)) = w7 at *
    have c7 : w7.cell? ⟨B, 5, none⟩ = some (.int .u8 (p.st.ct : Int)) := HM7.row.cell 5
    have f7 := HM7.row.frozen 5
    have HM8 : Mid w (w7.setCell ⟨B, 5, none⟩ (.int .u8 ((p.st.ct : Int) + 1))) B base (fun k => k ≠ B ∧ some k ≠ (Value.slice a p.steps.length cap).ownBlock) { p with st := ⟨setH p.st.h p.st.next (landn m (shl1 c)), p.st.ld, p.st.ct + 1, setH p.st.cs p.st.ct c⟩ } vs' vb (p.steps ++ [⟨p.st, c⟩]) p.back :=
      HM7.set hnS hn3 hnb rfl
    have c8 : (w7.setCell ⟨B, 5, none⟩ (.int .u8 ((p.st.ct : Int) + 1))).cell? ⟨B, 5, none⟩ = some (.int .u8 ((p.st.ct : Int) + 1)) := HM8.row.cell 5
    by_cases h3 : p.st.ct = 3
    · have h3B : ((p.st.ct : Int) + 1 == 4) = true := by rw [beq_iff_eq]; omega
      have H3 := Lib.hid h3
      clear h3
      go_upto_region 5 with fail
      clear c7 f7 HM7
      generalize w7.setCell ⟨B, 5, none⟩ (.int .u8 ((p.st.ct : Int) + 1)) = w8 at *
      have c9 : w8.cell? ⟨B, 11, none⟩ = some (.int .u8 (p.dn : Int)) := HM8.row.cell 11
      have c10 : w8.cell? ⟨B, 4, none⟩ = some (.int .u8 (p.st.ld : Int)) := HM8.row.cell 4
      have rc9 := fun dd os => cell_regrown c9 dd os
      have rc10 := fun dd os => cell_regrown c10 dd os
      have hfr := four_run B
      have hcs := hp.st.cs
      have hby : Byt w8 (some ⟨B, 6, none⟩) 4 [p.st.cs 0, p.st.cs 1, p.st.cs 2, c] := by
        refine four_byt HM8.row (x0 := p.st.cs 0) (x1 := p.st.cs 1) (x2 := p.st.cs 2) (x3 := c) ?_ ?_ ?_ ?_ (by have := hcs 0; omega) (by have := hcs 1; omega) (by have := hcs 2; omega) (by omega) <;> (simp only [H3.out]; rfl)
      have HSE := Lib.hid (fun (w1 : World) (hb : Below w8.heap.size w8 w1) => trick_Seat p.dn p.st.ld (some ⟨B, 6, none⟩) 4 4 _ w1 (hby.below (Nat.le_refl _) hb))
      obtain ⟨sv, hsv⟩ : ∃ sv, sv = seatV p.dn p.st.ld [p.st.cs 0, p.st.cs 1, p.st.cs 2, c] := ⟨_, rfl⟩
      rw [← hsv] at HSE
      have HSV := Lib.hid hsv
      clear hsv hby
      have hb0 := (Below.refl w8.heap.size w8).drew
      go_cut [] from 4 (fun wx => Mid w wx B base (fun k => k ≠ B ∧ some k ≠ (Value.slice a p.steps.length cap).ownBlock) { p with st := ⟨setH p.st.h p.st.next (landn m (shl1 c)), sv.1, p.st.ct + 1, setH p.st.cs p.st.ct c⟩ } vs' vb (p.steps ++ [⟨p.st, c⟩]) p.back)
      case first =>
        go_region_law (first | (go_simp; go_at_call 32; refine (HSE.out _ hb0).mono ?_; rintro e w9 ⟨rfl, hb9⟩; have HM9 := HM8.below (hb0.trans hb9); have c11 : w9.cell? ⟨B, 4, none⟩ = some (.int .u8 (p.st.ld : Int)) := HM9.row.cell 4; have f11 := HM9.row.frozen 4))
        all_goals
          have HM10 : Mid w (w9.setCell ⟨B, 4, none⟩ (.int .u8 (sv.1 : Int))) B base (fun k => k ≠ B ∧ some k ≠ (Value.slice a p.steps.length cap).ownBlock) { p with st := ⟨setH p.st.h p.st.next (landn m (shl1 c)), sv.1, p.st.ct + 1, setH p.st.cs p.st.ct c⟩ } vs' vb (p.steps ++ [⟨p.st, c⟩]) p.back := HM9.set hnS hn3 hnb rfl
          go_wp2_with fail
          go_meet
          case rel => exact HM10
      case rest =>
       have HM10 := hcut
       clear rc9 rc10 c9 c10 c8 HM8 hfr hcs hcut hb0
       go_upto_region 6 with fail
       have g5 := HM10.row.frozen 5
       have g6 := HM10.row.frozen 6
       have g7 := HM10.row.frozen 7
       have g8 := HM10.row.frozen 8
       have g9 := HM10.row.frozen 9
       have hR10 := HM10.row
       have d5 := hR10.cell 5
       have d6 := hR10.cell 6
       have d7 := hR10.cell 7
       have d8 := hR10.cell 8
       have d9 := hR10.cell 9
       simp only [List.getElem?_toArray, List.getElem?_cons_zero, List.getElem?_cons_succ] at d5 d6 d7 d8 d9
       have HM11 := HM10.set (p' := { p with st := ⟨setH p.st.h p.st.next (landn m (shl1 c)), sv.1, 0, setH p.st.cs p.st.ct c⟩ }) hnS hn3 hnb (i := 5) (v := .int .u8 0) rfl
       have HM12 := (((HM11.set (p' := { p with st := ⟨setH p.st.h p.st.next (landn m (shl1 c)), sv.1, 0, setH (setH p.st.cs p.st.ct c) 0 0⟩ }) hnS hn3 hnb (i := 6) (v := .int .u8 0) rfl).set (p' := { p with st := ⟨setH p.st.h p.st.next (landn m (shl1 c)), sv.1, 0, setH (setH (setH p.st.cs p.st.ct c) 0 0) 1 0⟩ }) hnS hn3 hnb (i := 7) (v := .int .u8 0) rfl).set (p' := { p with st := ⟨setH p.st.h p.st.next (landn m (shl1 c)), sv.1, 0, setH (setH (setH (setH p.st.cs p.st.ct c) 0 0) 1 0) 2 0⟩ }) hnS hn3 hnb (i := 8) (v := .int .u8 0) rfl).set (p' := { p with st := ⟨setH p.st.h p.st.next (landn m (shl1 c)), sv.1, 0, fun _ => 0⟩ }) hnS hn3 hnb (i := 9) (v := .int .u8 0) rfl
       go_wp2_with fail
       go_end0
       have hpe : p.put c = { p with st := ⟨setH p.st.h p.st.next (landn m (shl1 c)), sv.1, 0, fun _ => 0⟩, steps := p.steps ++ [⟨p.st, c⟩] } := by
         unfold Ply.put PSt.put
         rw [if_pos H3.out, HME.out, HSV.out]
       refine ⟨rfl, vs', ?_, HM12.kp, hv3⟩
       rw [hpe]
       exact ⟨HM12.row, HM12.ss, HM12.bs, hn3, hnb, HVB.out⟩
    · have h3B : ((p.st.ct : Int) + 1 == 4) = false := by rw [beq_eq_false_iff_ne]; omega
      go_wp2_with fail
      go_end0
      have hpe : p.put c = { p with st := ⟨setH p.st.h p.st.next (landn m (shl1 c)), p.st.ld, p.st.ct + 1, setH p.st.cs p.st.ct c⟩, steps := p.steps ++ [⟨p.st, c⟩] } := by
        unfold Ply.put PSt.put
        rw [if_neg h3, HME.out]
      refine ⟨rfl, vs', ?_, HM8.kp, hv3⟩
      rw [hpe]
      exact ⟨HM8.row, HM8.ss, HM8.bs, hn3, hnb, HVB.out⟩
end Go.Proofs.YtginbellakkliaaDoor
