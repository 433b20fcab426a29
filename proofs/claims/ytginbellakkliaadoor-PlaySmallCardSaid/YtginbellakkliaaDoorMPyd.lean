/- PyD, PyE in one text. -/
import Derived.Test.YtginbellakkliaaDoorPyC

/- The contract of a play's method Do, over this seat's program. -/
namespace Go.Proofs.YtginbellakkliaaDoor
open Go.RowKit Go.Shelf Go.Sort

/-- what a play's own blocks are -/
def Ply.S (B : Nat) (vs vb : Value) : Nat → Prop := fun k => k ≠ B ∧ some k ≠ vs.ownBlock ∧ some k ≠ vb.ownBlock
/-- a value's block is the old one's, none, or a new one -/
def NewB (w : World) (v v' : Value) : Prop := v'.ownBlock = v.ownBlock ∨ v'.ownBlock = none ∨ ∃ g, v'.ownBlock = some g ∧ w.heap.size ≤ g
theorem legal_w64 {s : PSt} (hs : s.ok) : W64 s.legal := by
  unfold PSt.legal
  split
  · exact W64.zero
  · exact playableV_w64 _ _ (hs.h _)
set_option maxRecDepth 100000 in
theorem ply_do {w : World} {B base c : Nat} {p : Ply} {vs vb : Value} (hp : p.ok) (h : PlyAt w B base p vs vb) (hT : Tab w) (hc : c < 256) (hbB : base ≤ B) :
    Calls Tryd.prog 18 #[.pointer (some ⟨B, 0, none⟩), .int .u8 (c : Int)] w fun e w' => e = .returned (.int .i64 ((p.doV c).1 : Int)) ∧
      ∃ vs' vb', PlyAt w' B base (p.doV c).2 vs' vb' ∧ Kept (Ply.S B vs vb) w w' ∧ NewB w vs vs' ∧ NewB w vb vb' := by
  obtain ⟨a, cap, hvs, -⟩ := h.ss.slice
  have HM := Lib.hid (ply_made hp h)
  have HO := Lib.hid (ply_over h)
  have HL := Lib.hid (ply_legal hp h hT)
  unfold Ply.doV
  cases ho : p.st.over
  · rw [ho] at HO
    rw [if_neg (by decide)]
    by_cases h52 : c < 52
    · have HR := Lib.hid (card_right c)
      rw [decide_eq_true (p := c < 52) h52] at HR
      have hlw : W64 p.st.legal := legal_w64 hp.st
      cases hbit : p.st.legal.testBit c
      · rw [if_neg (by simp)]
        go_enter Tryd.func18, Tryd.ntmps18
        go_wp2_with (first
          | (go_at_call 41; refine HM.out.mono ?_; rintro e w' ⟨rfl, rfl⟩)
          | (go_at_call 42; refine HO.out.mono ?_; rintro e w' ⟨rfl, rfl⟩)
          | (go_at_call 46; refine (HR.out _).mono ?_; rintro e w' ⟨rfl, rfl⟩)
          | (go_at_call 14; refine HL.out.mono ?_; rintro e w1 ⟨rfl, hb1⟩))
        go_ret
        exact ⟨rfl, vs, vb, h.below hb1, Kept.of_below hb1, .inl rfl, .inl rfl⟩
      · rw [if_pos ⟨h52, rfl⟩]
        obtain ⟨p0, hp0⟩ : ∃ p0 : Ply, p0 = { p with back := [] } := ⟨_, rfl⟩
        rw [← hp0]
        have HP0 := Lib.hid hp0
        clear hp0
        go_enter Tryd.func18, Tryd.ntmps18
        go_wp2_with (first
          | (go_at_call 41; refine HM.out.mono ?_; rintro e w' ⟨rfl, rfl⟩)
          | (go_at_call 42; refine HO.out.mono ?_; rintro e w' ⟨rfl, rfl⟩)
          | (go_at_call 46; refine (HR.out _).mono ?_; rintro e w' ⟨rfl, rfl⟩)
          | (go_at_call 14; refine HL.out.mono ?_; rintro e w1 ⟨rfl, hb1⟩; have h1 := h.below hb1; have hR1 := h1.row; have c15 : w1.cell? ⟨B, 15, none⟩ = some vb := hR1.cell 15; have f15 := hR1.frozen 15))
        have hp0 := HP0.out
        have hok0 : p0.ok := by
          subst hp0
          exact ⟨hp.st, hp.lv, hp.dn, hp.rk, hp.dc, hp.steps, (fun c hc => by cases hc), by have := hp.many; show p.steps.length + 0 ≤ 60000; omega⟩
        have h2 : PlyAt (w1.setCell ⟨B, 15, none⟩ (.slice none 0 0)) B base p0 vs (.slice none 0 0) := by
          subst hp0
          exact ⟨hR1.set 15 _, Owns.kept (row := some B) h1.ss (grownBy_set (World.grownBy.refl w1 (some B)) (.inl rfl) _) (.inl (fun e => h1.ns e.symm)), Owns.nil encU_len _ _, h1.ns, (fun e => by cases e), (fun g _ e => by cases e)⟩
        have hk2 : Kept (Ply.S B vs vb) w (w1.setCell ⟨B, 15, none⟩ (.slice none 0 0)) := (Kept.of_below hb1).setCell (fun hk => hk.1 rfl) _
        subst hvs
        refine (ply_put hok0 h2 h52 hbB).mono ?_
        rintro e w3 ⟨rfl, vs', h3, hk3, hv3⟩
        go_wp2_with fail
        go_ret
        refine ⟨rfl, vs', .slice none 0 0, h3, hk2.trans (hk3.mono (fun k hk => ⟨hk.1, hk.2.1⟩)), ?_, .inr (.inl rfl)⟩
        rcases hv3 with hv | ⟨g, hv, hg⟩
        · exact .inl hv
        · exact .inr (.inr ⟨g, hv, by have := hk2.size; omega⟩)
    · rw [if_neg (by omega)]
      have HR := Lib.hid (card_right c)
      rw [decide_eq_false (p := c < 52) h52] at HR
      go_enter Tryd.func18, Tryd.ntmps18
      go_wp2_with (first
          | (go_at_call 41; refine HM.out.mono ?_; rintro e w' ⟨rfl, rfl⟩)
          | (go_at_call 42; refine HO.out.mono ?_; rintro e w' ⟨rfl, rfl⟩)
          | (go_at_call 46; refine (HR.out _).mono ?_; rintro e w' ⟨rfl, rfl⟩))
      go_ret
      exact ⟨rfl, vs, vb, h, Kept.refl _ _, .inl rfl, .inl rfl⟩
  · rw [ho] at HO
    rw [if_pos rfl]
    go_enter Tryd.func18, Tryd.ntmps18
    go_wp2_with (first
      | (go_at_call 41; refine HM.out.mono ?_; rintro e w' ⟨rfl, rfl⟩)
      | (go_at_call 42; refine HO.out.mono ?_; rintro e w' ⟨rfl, rfl⟩))
    go_ret
    exact ⟨rfl, vs, vb, h, Kept.refl _ _, .inl rfl, .inl rfl⟩
end Go.Proofs.YtginbellakkliaaDoor

/- The contract of a play's method Undo, over this seat's program. -/
namespace Go.Proofs.YtginbellakkliaaDoor
open Go.RowKit Go.Shelf Go.Sort

theorem flat_take {α : Type} {enc : α → List Value} {m : Nat} (hl : ∀ x, (enc x).length = m) : ∀ (l : List α) (k : Nat), (l.take k).flatMap enc = (l.flatMap enc).take (k * m)
  | [], k => by simp
  | x :: l, 0 => by simp
  | x :: l, k + 1 => by
    rw [List.take_succ_cons, List.flatMap_cons, List.flatMap_cons, flat_take hl l k, Nat.succ_mul, Nat.add_comm, ← hl x, List.take_length_add_append]
theorem owns_shrink {α : Type} {enc : α → List Value} {m : Nat} {T : TypeId} {w : World} {base g n cap k : Nat} {l : List α} (h : Owns enc m T w base (.slice (some ⟨g, 0, none⟩) n cap) l) (hk : k ≤ l.length) : Owns enc m T w base (.slice (some ⟨g, 0, none⟩) k cap) (l.take k) := by
  obtain ⟨h1, h2, h3⟩ := h
  have hl : (l.take k).length = k := by rw [List.length_take, Nat.min_eq_left hk]
  refine ⟨h1, ?_, ?_⟩
  · rw [hl, flat_take h1, List.length_take, h2]
    exact Nat.min_eq_left (Nat.mul_le_mul_right m hk)
  · rw [hl, flat_take h1]
    rcases h3 with ⟨h, _⟩ | ⟨g', cap', cur, h, hb, hh, hn, hcm, hcs, ht⟩
    · cases h
    · simp only [Value.slice.injEq, Option.some.injEq, Addr.mk.injEq, and_true] at h
      obtain ⟨rfl, rfl, rfl⟩ := h
      refine .inr ⟨g, cap, cur, rfl, hb, hh, by omega, hcm, hcs, ?_⟩
      rw [← ht, List.take_take, Nat.min_eq_left (Nat.mul_le_mul_right m hk)]
theorem owns_cap {α : Type} {enc : α → List Value} {m : Nat} {T : TypeId} {w : World} {base n cap : Nat} {a : Option Addr} {l : List α} (h : Owns enc m T w base (.slice a n cap) l) : l.length ≤ cap := by
  rcases h.2.2 with ⟨_, h0⟩ | ⟨g', cap', cur, h, hb, hh, hn, _⟩
  · omega
  · injection h with _ _ h3
    omega
theorem stp_run (ad : Addr) (len cap k : Nat) (hk : k ≤ cap) (wx : World) :
    (Instr.slice 83 (.slice (some ad) len cap) none (some (.int .i64 (k : Int))) none).run Tryd.prog wx = .ok (.slice (some ad) k cap) wx := by
  have hsz : (sizeOf (Tryd.prog.elem 83)).run Tryd.prog wx = .ok 11 wx := by kernel_rfl
  rw [run_slice_h wx 83 _ len cap (by kernel_rfl) _ _ (by omega) (by omega), hsz]
  simp [Result.andThen, sliced, Addr.add]
set_option maxRecDepth 100000 in
theorem Mid.state {w0 w : World} {B base : Nat} {S : Nat → Prop} {p : Ply} {vs vb : Value} {steps : List Stp} {back : List Nat} (h : Mid w0 w B base S p vs vb steps back) (hS : ¬ S B) (hns : vs.ownBlock ≠ some B) (hnb : vb.ownBlock ≠ some B) (s : PSt) :
    Mid w0 ((((((((((w.setCell ⟨B, 0, none⟩ (.int .u64 (s.h 0 : Int))).setCell ⟨B, 1, none⟩ (.int .u64 (s.h 1 : Int))).setCell ⟨B, 2, none⟩ (.int .u64 (s.h 2 : Int))).setCell ⟨B, 3, none⟩ (.int .u64 (s.h 3 : Int))).setCell ⟨B, 4, none⟩ (.int .u8 (s.ld : Int))).setCell ⟨B, 5, none⟩ (.int .u8 (s.ct : Int))).setCell ⟨B, 6, none⟩ (.int .u8 (s.cs 0 : Int))).setCell ⟨B, 7, none⟩ (.int .u8 (s.cs 1 : Int))).setCell ⟨B, 8, none⟩ (.int .u8 (s.cs 2 : Int))).setCell ⟨B, 9, none⟩ (.int .u8 (s.cs 3 : Int))) B base S { p with st := s } vs vb steps back :=
  (Mid.set (Mid.set (Mid.set (Mid.set (Mid.set (Mid.set (Mid.set (Mid.set (Mid.set (Mid.set h hS hns hnb (i := 0) (v := .int .u64 (s.h 0 : Int)) (p' := { p with st := ⟨(setH p.st.h 0 (s.h 0)), p.st.ld, p.st.ct, p.st.cs⟩ }) rfl) hS hns hnb (i := 1) (v := .int .u64 (s.h 1 : Int)) (p' := { p with st := ⟨(setH (setH p.st.h 0 (s.h 0)) 1 (s.h 1)), p.st.ld, p.st.ct, p.st.cs⟩ }) rfl) hS hns hnb (i := 2) (v := .int .u64 (s.h 2 : Int)) (p' := { p with st := ⟨(setH (setH (setH p.st.h 0 (s.h 0)) 1 (s.h 1)) 2 (s.h 2)), p.st.ld, p.st.ct, p.st.cs⟩ }) rfl) hS hns hnb (i := 3) (v := .int .u64 (s.h 3 : Int)) (p' := { p with st := ⟨(setH (setH (setH (setH p.st.h 0 (s.h 0)) 1 (s.h 1)) 2 (s.h 2)) 3 (s.h 3)), p.st.ld, p.st.ct, p.st.cs⟩ }) rfl) hS hns hnb (i := 4) (v := .int .u8 (s.ld : Int)) (p' := { p with st := ⟨(setH (setH (setH (setH p.st.h 0 (s.h 0)) 1 (s.h 1)) 2 (s.h 2)) 3 (s.h 3)), s.ld, p.st.ct, p.st.cs⟩ }) rfl) hS hns hnb (i := 5) (v := .int .u8 (s.ct : Int)) (p' := { p with st := ⟨(setH (setH (setH (setH p.st.h 0 (s.h 0)) 1 (s.h 1)) 2 (s.h 2)) 3 (s.h 3)), s.ld, s.ct, p.st.cs⟩ }) rfl) hS hns hnb (i := 6) (v := .int .u8 (s.cs 0 : Int)) (p' := { p with st := ⟨(setH (setH (setH (setH p.st.h 0 (s.h 0)) 1 (s.h 1)) 2 (s.h 2)) 3 (s.h 3)), s.ld, s.ct, (setH p.st.cs 0 (s.cs 0))⟩ }) rfl) hS hns hnb (i := 7) (v := .int .u8 (s.cs 1 : Int)) (p' := { p with st := ⟨(setH (setH (setH (setH p.st.h 0 (s.h 0)) 1 (s.h 1)) 2 (s.h 2)) 3 (s.h 3)), s.ld, s.ct, (setH (setH p.st.cs 0 (s.cs 0)) 1 (s.cs 1))⟩ }) rfl) hS hns hnb (i := 8) (v := .int .u8 (s.cs 2 : Int)) (p' := { p with st := ⟨(setH (setH (setH (setH p.st.h 0 (s.h 0)) 1 (s.h 1)) 2 (s.h 2)) 3 (s.h 3)), s.ld, s.ct, (setH (setH (setH p.st.cs 0 (s.cs 0)) 1 (s.cs 1)) 2 (s.cs 2))⟩ }) rfl) hS hns hnb (i := 9) (v := .int .u8 (s.cs 3 : Int)) (p' := { p with st := s }) rfl)
set_option maxHeartbeats 1000000 in
set_option maxRecDepth 100000 in
theorem ply_undo {w : World} {B base : Nat} {p : Ply} {vs vb : Value} (hp : p.ok) (h : PlyAt w B base p vs vb) (hbB : base ≤ B) :
    Calls Tryd.prog 25 #[.pointer (some ⟨B, 0, none⟩)] w fun e w' => e = .returned (.int .i64 (p.undoV.1 : Int)) ∧
      ∃ vs' vb', PlyAt w' B base p.undoV.2 vs' vb' ∧ Kept (Ply.S B vs vb) w w' ∧ NewB w vs vs' ∧ NewB w vb vb' := by
  obtain ⟨a, cap, rfl, hne⟩ := h.ss.slice
  obtain ⟨ab, cb, rfl, -⟩ := h.bs.slice
  obtain ⟨i0, hi, hz0, hz1, hz2⟩ := info_parts info_u8'
  have HM := Lib.hid (ply_made hp h)
  have hR := h.row
  have c14 : w.cell? ⟨B, 14, none⟩ = some (.slice a p.steps.length cap) := hR.cell 14
  rcases List.eq_nil_or_concat p.steps with hs | ⟨init, x, hs⟩
  · have hu : p.undoV = (6, p) := by unfold Ply.undoV; rw [hs]; rfl
    rw [hu]
    have hl0 : p.steps.length = 0 := by rw [hs]; rfl
    rw [hl0] at c14
    go_enter Tryd.func25, Tryd.ntmps25
    go_wp2_with (go_at_call 41; refine HM.out.mono ?_; rintro e w' ⟨rfl, rfl⟩)
    go_ret
    exact ⟨rfl, _, _, h, Kept.refl _ _, .inl rfl, .inl rfl⟩
  · rw [List.concat_eq_append] at hs
    have hu : p.undoV = (0, { p with st := x.st, steps := init, back := p.back ++ [x.c] }) := by
      unfold Ply.undoV; rw [hs]; simp
    rw [hu]
    obtain ⟨k, hk⟩ : ∃ k, k = init.length := ⟨_, rfl⟩
    have hl : p.steps.length = k + 1 := by rw [hs, List.length_append, hk]; rfl
    obtain ⟨g, rfl⟩ := hne (by rw [hs]; simp)
    rw [hl] at c14 h
    rw [hl]
    have hx : p.steps[k]? = some x := by rw [hs, hk]; simp
    have hcap : k ≤ cap ∧ k + 1 ≤ 60000 := by
      refine ⟨?_, by have := hp.many; omega⟩
      have := owns_cap h.ss
      omega
    have hcl := fun j hj => Owns.cell h.ss k j hj hx
    have e0 := hcl 0 (by omega)
    have e1 := hcl 1 (by omega)
    have e2 := hcl 2 (by omega)
    have e3 := hcl 3 (by omega)
    have e4 := hcl 4 (by omega)
    have e5 := hcl 5 (by omega)
    have e6 := hcl 6 (by omega)
    have e7 := hcl 7 (by omega)
    have e8 := hcl 8 (by omega)
    have e9 := hcl 9 (by omega)
    have e10 := hcl 10 (by omega)
    simp only [List.getElem?_cons_zero, List.getElem?_cons_succ, Nat.add_zero] at e0 e1 e2 e3 e4 e5 e6 e7 e8 e9 e10
    have hsl := stp_run ⟨g, 0, none⟩ (k + 1) cap k hcap.1
    have hl1 : ((k + 1 : Nat) : Int) - 1 = (k : Int) := by omega
    have hkI : (k : Int) < (k : Int) + 1 := by omega
    have hf := hR.frozen
    have hk0 : ((k : Int) + 1 == 0) = false := by rw [beq_eq_false_iff_ne]; omega
    have HK := Lib.hid hk
    have HS := Lib.hid hs
    have HL := Lib.hid hl
    clear hcl hk hs hl hu hx hl1 hne
    have HH := Lib.hid h
    have f14 := hf 14
    clear h hf
    have hBl := hR.lt
    go_enter Tryd.func25, Tryd.ntmps25
    go_upto_region 7 with (go_at_call 41; refine HM.out.mono ?_; rintro e w' ⟨rfl, rfl⟩)
    clear e0 e1 e2 e3 e4 e5 e6 e7 e8 e9 e10 c14 f14
    have hX := Row.new w 92 #[.int .u64 (x.st.h 0 : Int), .int .u64 (x.st.h 1 : Int), .int .u64 (x.st.h 2 : Int), .int .u64 (x.st.h 3 : Int), .int .u8 (x.st.ld : Int), .int .u8 (x.st.ct : Int), .int .u8 (x.st.cs 0 : Int), .int .u8 (x.st.cs 1 : Int), .int .u8 (x.st.cs 2 : Int), .int .u8 (x.st.cs 3 : Int), .int .u8 (x.c : Int)]
    have hR1 := hR.alloc (.cells #[.int .u64 (x.st.h 0 : Int), .int .u64 (x.st.h 1 : Int), .int .u64 (x.st.h 2 : Int), .int .u64 (x.st.h 3 : Int), .int .u8 (x.st.ld : Int), .int .u8 (x.st.ct : Int), .int .u8 (x.st.cs 0 : Int), .int .u8 (x.st.cs 1 : Int), .int .u8 (x.st.cs 2 : Int), .int .u8 (x.st.cs 3 : Int), .int .u8 (x.c : Int)] 92)
    have hs1 := HH.out.ss.alloc (.cells #[.int .u64 (x.st.h 0 : Int), .int .u64 (x.st.h 1 : Int), .int .u64 (x.st.h 2 : Int), .int .u64 (x.st.h 3 : Int), .int .u8 (x.st.ld : Int), .int .u8 (x.st.ct : Int), .int .u8 (x.st.cs 0 : Int), .int .u8 (x.st.cs 1 : Int), .int .u8 (x.st.cs 2 : Int), .int .u8 (x.st.cs 3 : Int), .int .u8 (x.c : Int)] 92)
    have hb1 := HH.out.bs.alloc (.cells #[.int .u64 (x.st.h 0 : Int), .int .u64 (x.st.h 1 : Int), .int .u64 (x.st.h 2 : Int), .int .u64 (x.st.h 3 : Int), .int .u8 (x.st.ld : Int), .int .u8 (x.st.ct : Int), .int .u8 (x.st.cs 0 : Int), .int .u8 (x.st.cs 1 : Int), .int .u8 (x.st.cs 2 : Int), .int .u8 (x.st.cs 3 : Int), .int .u8 (x.c : Int)] 92)
    have hk1 := (Kept.refl (Ply.S B (.slice (some ⟨g, 0, none⟩) (k + 1) cap) (.slice ab p.back.length cb)) w).alloc (.cells #[.int .u64 (x.st.h 0 : Int), .int .u64 (x.st.h 1 : Int), .int .u64 (x.st.h 2 : Int), .int .u64 (x.st.h 3 : Int), .int .u8 (x.st.ld : Int), .int .u8 (x.st.ct : Int), .int .u8 (x.st.cs 0 : Int), .int .u8 (x.st.cs 1 : Int), .int .u8 (x.st.cs 2 : Int), .int .u8 (x.st.cs 3 : Int), .int .u8 (x.c : Int)] 92)
    have hsz1 : (w.alloc (.cells #[.int .u64 (x.st.h 0 : Int), .int .u64 (x.st.h 1 : Int), .int .u64 (x.st.h 2 : Int), .int .u64 (x.st.h 3 : Int), .int .u8 (x.st.ld : Int), .int .u8 (x.st.ct : Int), .int .u8 (x.st.cs 0 : Int), .int .u8 (x.st.cs 1 : Int), .int .u8 (x.st.cs 2 : Int), .int .u8 (x.st.cs 3 : Int), .int .u8 (x.c : Int)] 92)).heap.size = w.heap.size + 1 := World.size_alloc _ _
    generalize w.alloc (.cells #[.int .u64 (x.st.h 0 : Int), .int .u64 (x.st.h 1 : Int), .int .u64 (x.st.h 2 : Int), .int .u64 (x.st.h 3 : Int), .int .u8 (x.st.ld : Int), .int .u8 (x.st.ct : Int), .int .u8 (x.st.cs 0 : Int), .int .u8 (x.st.cs 1 : Int), .int .u8 (x.st.cs 2 : Int), .int .u8 (x.st.cs 3 : Int), .int .u8 (x.c : Int)] 92) = w1 at *
    generalize hL : w.heap.size = L at *
    have c14 : w1.cell? ⟨B, 14, none⟩ = some (.slice (some ⟨g, 0, none⟩) (k + 1) cap) := by rw [hR1.cell 14, HL.out]; rfl
    have f14 := hR1.frozen 14
    have hgB : g ≠ B := fun e => HH.out.ns (by rw [e]; rfl)
    have HM2 : Mid w (w1.setCell ⟨B, 14, none⟩ (.slice (some ⟨g, 0, none⟩) k cap)) B base (Ply.S B (.slice (some ⟨g, 0, none⟩) (k + 1) cap) (.slice ab p.back.length cb)) p (.slice (some ⟨g, 0, none⟩) k cap) (.slice ab p.back.length cb) init p.back := by
      have h1 : Owns Stp.cells 11 92 w1 base (.slice (some ⟨g, 0, none⟩) k cap) init := by
        have := owns_shrink hs1 (k := k) (by rw [HL.out]; omega)
        rwa [HS.out, List.take_left' HK.out.symm] at this
      exact ⟨hR1.set 14 _, Owns.kept (row := some B) h1 (grownBy_set (World.grownBy.refl w1 (some B)) (.inl rfl) _) (.inl (fun e => by simp only [Value.ownBlock, Option.some.injEq] at e; exact hgB e.symm)),
        Owns.kept (row := some B) hb1 (grownBy_set (World.grownBy.refl w1 (some B)) (.inl rfl) _) (.inl (fun e => HH.out.nb e.symm)), hk1.setCell (fun hk => hk.1 rfl) _⟩
    have hX2 : Row (w1.setCell ⟨B, 14, none⟩ (.slice (some ⟨g, 0, none⟩) k cap)) L 92 #[.int .u64 (x.st.h 0 : Int), .int .u64 (x.st.h 1 : Int), .int .u64 (x.st.h 2 : Int), .int .u64 (x.st.h 3 : Int), .int .u8 (x.st.ld : Int), .int .u8 (x.st.ct : Int), .int .u8 (x.st.cs 0 : Int), .int .u8 (x.st.cs 1 : Int), .int .u8 (x.st.cs 2 : Int), .int .u8 (x.st.cs 3 : Int), .int .u8 (x.c : Int)] := hX.other (by omega)
    go_upto_region 8 with fail
    clear c14 f14 hX hR1 hs1 hb1 hk1
    generalize w1.setCell ⟨B, 14, none⟩ (.slice (some ⟨g, 0, none⟩) k cap) = w2 at *
    have e0 := hX2.cell 0
    have e1 := hX2.cell 1
    have e2 := hX2.cell 2
    have e3 := hX2.cell 3
    have e4 := hX2.cell 4
    have e5 := hX2.cell 5
    have e6 := hX2.cell 6
    have e7 := hX2.cell 7
    have e8 := hX2.cell 8
    have e9 := hX2.cell 9
    have e10 := hX2.cell 10
    simp only [List.getElem?_toArray, List.getElem?_cons_zero, List.getElem?_cons_succ] at e0 e1 e2 e3 e4 e5 e6 e7 e8 e9 e10
    have hR2 := HM2.row
    have d0 := hR2.cell 0
    have d1 := hR2.cell 1
    have d2 := hR2.cell 2
    have d3 := hR2.cell 3
    have d4 := hR2.cell 4
    have d5 := hR2.cell 5
    have d6 := hR2.cell 6
    have d7 := hR2.cell 7
    have d8 := hR2.cell 8
    have d9 := hR2.cell 9
    simp only [List.getElem?_toArray, List.getElem?_cons_zero, List.getElem?_cons_succ] at d0 d1 d2 d3 d4 d5 d6 d7 d8 d9
    have f0 := hR2.frozen 0
    have f1 := hR2.frozen 1
    have f2 := hR2.frozen 2
    have f3 := hR2.frozen 3
    have f4 := hR2.frozen 4
    have f5 := hR2.frozen 5
    have f6 := hR2.frozen 6
    have f7 := hR2.frozen 7
    have f8 := hR2.frozen 8
    have f9 := hR2.frozen 9
    have hns : (Value.slice (some ⟨g, 0, none⟩) k cap).ownBlock ≠ some B := fun e => by simp only [Value.ownBlock, Option.some.injEq] at e; exact hgB e
    have HM3 := HM2.state (fun hk => hk.1 rfl) hns HH.out.nb x.st
    go_upto_region 9 with fail
    have hLB : L ≠ B := by omega
    have hX3 : Row ((((((((((w2.setCell ⟨B, 0, none⟩ (.int .u64 (x.st.h 0 : Int))).setCell ⟨B, 1, none⟩ (.int .u64 (x.st.h 1 : Int))).setCell ⟨B, 2, none⟩ (.int .u64 (x.st.h 2 : Int))).setCell ⟨B, 3, none⟩ (.int .u64 (x.st.h 3 : Int))).setCell ⟨B, 4, none⟩ (.int .u8 (x.st.ld : Int))).setCell ⟨B, 5, none⟩ (.int .u8 (x.st.ct : Int))).setCell ⟨B, 6, none⟩ (.int .u8 (x.st.cs 0 : Int))).setCell ⟨B, 7, none⟩ (.int .u8 (x.st.cs 1 : Int))).setCell ⟨B, 8, none⟩ (.int .u8 (x.st.cs 2 : Int))).setCell ⟨B, 9, none⟩ (.int .u8 (x.st.cs 3 : Int))) L 92 _ := ((((((((((hX2.other hLB).other hLB).other hLB).other hLB).other hLB).other hLB).other hLB).other hLB).other hLB).other hLB)
    clear hX2 HM2 hR2 e0 e1 e2 e3 e4 e5 e6 e7 e8 e9 e10 d0 d1 d2 d3 d4 d5 d6 d7 d8 d9 f0 f1 f2 f3 f4 f5 f6 f7 f8 f9
    generalize ((((((((((w2.setCell ⟨B, 0, none⟩ (.int .u64 (x.st.h 0 : Int))).setCell ⟨B, 1, none⟩ (.int .u64 (x.st.h 1 : Int))).setCell ⟨B, 2, none⟩ (.int .u64 (x.st.h 2 : Int))).setCell ⟨B, 3, none⟩ (.int .u64 (x.st.h 3 : Int))).setCell ⟨B, 4, none⟩ (.int .u8 (x.st.ld : Int))).setCell ⟨B, 5, none⟩ (.int .u8 (x.st.ct : Int))).setCell ⟨B, 6, none⟩ (.int .u8 (x.st.cs 0 : Int))).setCell ⟨B, 7, none⟩ (.int .u8 (x.st.cs 1 : Int))).setCell ⟨B, 8, none⟩ (.int .u8 (x.st.cs 2 : Int))).setCell ⟨B, 9, none⟩ (.int .u8 (x.st.cs 3 : Int))) = w3 at *
    have hR3 := HM3.row
    have c15 : w3.cell? ⟨B, 15, none⟩ = some (.slice ab p.back.length cb) := hR3.cell 15
    have e10 : w3.cell? ⟨L, 10, none⟩ = some (.int .u8 (x.c : Int)) := hX3.cell 10
    have HBO := Lib.hid HM3.bs.2
    have hB3 := hR3.lt
    have hmany := hp.many
    have hgc := World.ownsRow.lt HM3.ss.2 g rfl
    have hLs : L ≤ w3.heap.size := by have := HM3.kp.size; omega
    go_cut [] from 5 (fun wx => ∃ vb', Row wx B 85 (({ p with st := x.st } : Ply).cells (.slice (some ⟨g, 0, none⟩) k cap) vb') ∧ Owns Stp.cells 11 92 wx base (.slice (some ⟨g, 0, none⟩) k cap) init ∧ OwnU wx base vb' (p.back ++ [x.c]) ∧ Kept (Ply.S B (.slice (some ⟨g, 0, none⟩) (k + 1) cap) (.slice ab p.back.length cb)) w wx ∧
      (vb'.ownBlock = (Value.slice ab p.back.length cb).ownBlock ∨ ∃ g', vb'.ownBlock = some g' ∧ w3.heap.size ≤ g') ∧ vb'.ownBlock ≠ some B ∧ vb'.ownBlock ≠ some g)
    case first =>
      go_region_law (refine step_append_lies _ rfl (.tmp 45) (.tmp 48) 22 rfl base 5 i0 (.int .u8 0) 1 1 Tryd.underlying22 hi hz0 hz1 hz2 rfl (by decide) (.slice ab p.back.length cb) p.back.length (p.back.flatMap encU) (by simp [Act.eval]) (World.ownsRow.alloc HBO.out _) ⟨w3.heap.size, 0, none⟩ 1 1 [.int .u8 (x.c : Int)] (by simp [Act.eval]) rfl (row_new_at w3 [.int .u8 (x.c : Int)] _) (by simp [Value.oneCell']) (by decide) (by unfold maxLen; omega) (by omega) (by show base ≤ (w3.alloc _).heap.size; rw [World.size_alloc]; omega) _ rfl ?_; intro g9 c9 w4 h2 h3 h4 h5; have hR4 : Row w4 B 85 (({ p with st := x.st } : Ply).cells (.slice (some ⟨g, 0, none⟩) k cap) (.slice ab p.back.length cb)) := hR3.same ((h3.block B (Nat.lt_trans hB3 (by rw [show ∀ x : World, x.drew.heap = x.heap from fun _ => rfl, World.size_alloc]; omega)) (fun e => HH.out.nb e.symm)).trans (Below.heap_alloc w3 _ B hB3)); have c15' : w4.cell? ⟨B, 15, none⟩ = some (.slice ab p.back.length cb) := hR4.cell 15; have f15 := hR4.frozen 15)
      all_goals
        have hgn : g9 ≠ B ∧ g9 ≠ g := by
          rcases h4 with h4 | h4
          · exact ⟨fun e => HH.out.nb (by rw [h4, e]), fun e => HH.out.sb g rfl (by rw [h4, e])⟩
          · have : g9 = w3.heap.size + 1 := by rw [h4]; show (w3.alloc _).heap.size = _; rw [World.size_alloc]
            omega
        have hR5 : Row (w4.setCell ⟨B, 15, none⟩ (.slice (some ⟨g9, 0, none⟩) (p.back.length + 1) c9)) B 85 (({ p with st := x.st } : Ply).cells (.slice (some ⟨g, 0, none⟩) k cap) (.slice (some ⟨g9, 0, none⟩) (p.back.length + 1) c9)) := hR4.set 15 _
        have hb5 : OwnU (w4.setCell ⟨B, 15, none⟩ (.slice (some ⟨g9, 0, none⟩) (p.back.length + 1) c9)) base (.slice (some ⟨g9, 0, none⟩) (p.back.length + 1) c9) (p.back ++ [x.c]) := by
          refine Owns.kept (row := some B) (w := w4) ⟨encU_len, ?_⟩ (grownBy_set (World.grownBy.refl w4 (some B)) (.inl rfl) _) (.inl (by intro e; simp only [Value.ownBlock, Option.some.injEq] at e; exact hgn.1 e.symm))
          rw [List.length_append, List.flatMap_append]
          simpa using h2
        have hs4 : Owns Stp.cells 11 92 w4 base (.slice (some ⟨g, 0, none⟩) k cap) init := by
          refine Owns.kept (w := (w3.alloc _).drew) (HM3.ss.alloc _) h3 ?_
          by_cases hva : (Value.slice ab p.back.length cb).ownBlock = none
          · exact .inr hva
          · obtain ⟨g', hg'⟩ := Option.ne_none_iff_exists'.1 hva
            exact .inl (fun e => by rw [hg'] at e; simp only [Value.ownBlock, Option.some.injEq] at e; exact HH.out.sb g rfl (by rw [hg', e]))
        have hs5 := Owns.kept (row := some B) hs4 (grownBy_set (World.grownBy.refl w4 (some B)) (p := ⟨B, 15, none⟩) (.inl rfl) (.slice (some ⟨g9, 0, none⟩) (p.back.length + 1) c9)) (.inl (fun e => hns e.symm))
        have hk5 := (HM3.kp.trans ((((Kept.refl _ w3).alloc _).drew).trans (Kept.of_grown h3 (fun k hk => hk.2.2)))).setCell (p := ⟨B, 15, none⟩) (fun hk => hk.1 rfl) (.slice (some ⟨g9, 0, none⟩) (p.back.length + 1) c9)
        go_wp2_with fail
        go_meet
        case rel =>
          refine ⟨_, hR5, hs5, hb5, hk5, ?_, fun e => by simp only [Value.ownBlock, Option.some.injEq] at e; exact hgn.1 e, fun e => by simp only [Value.ownBlock, Option.some.injEq] at e; exact hgn.2 e⟩
          rcases h4 with h4 | h4
          · exact .inl h4.symm
          · exact .inr ⟨g9, rfl, by rw [h4]; show w3.heap.size ≤ (w3.alloc _).heap.size; rw [World.size_alloc]; omega⟩
    case rest =>
      obtain ⟨vb', hR5, hs5, hb5, hk5, hv5, hn5, hg5⟩ := hcut
      go_wp2_with fail
      go_ret
      refine ⟨rfl, .slice (some ⟨g, 0, none⟩) k cap, vb', ⟨hR5, hs5, hb5, hns, hn5, fun g' hg' => ?_⟩, hk5, .inl rfl, ?_⟩
      · simp only [Value.ownBlock, Option.some.injEq] at hg'
        rw [← hg']; exact hg5
      · rcases hv5 with hv | ⟨g', hv, hg⟩
        · exact .inl hv
        · exact .inr (.inr ⟨g', hv, by omega⟩)
end Go.Proofs.YtginbellakkliaaDoor
