/- PyG, PyH in one text. -/
import Derived.Test.YtginbellakkliaaDoorPyF
import Derived.Sort.LoopGhostIn
import Derived.Shelf.Abstract
import Derived.Shelf.RegionOpen
import Derived.OwnWalkIn
import Derived.TacticsInMore
import Derived.LoopNIn
import Derived.LoopIn
import Derived.Outline
import Derived.Deep.CutRange

/- The iterator over a play's tricks, over this seat's program. -/
namespace Go.Proofs.YtginbellakkliaaDoor
open Go.RowKit Go.Shelf Go.Sort
attribute [local go_sem] Oper.semAt_some

/-- a complete trick -/
structure Tk where
  ld : Nat
  win : Nat
  c0 : Nat
  c1 : Nat
  c2 : Nat
  c3 : Nat
abbrev Tk.cells (x : Tk) : Array Value := #[.int .u8 (x.ld : Int), .int .u8 (x.win : Int), .int .u8 (x.c0 : Int), .int .u8 (x.c1 : Int), .int .u8 (x.c2 : Int), .int .u8 (x.c3 : Int)]
def Stp.tk (x : Stp) (dn : Nat) : Tk := ⟨x.st.ld, (seatV dn x.st.ld [x.st.cs 0, x.st.cs 1, x.st.cs 2, x.c]).1, x.st.cs 0, x.st.cs 1, x.st.cs 2, x.c⟩
/-- the first n complete tricks -/
def Ply.tkTo (p : Ply) : Nat → List Tk
  | 0 => []
  | k + 1 => p.tkTo k ++ (match p.steps[4 * k + 3]? with | none => [] | some x => [x.tk p.dn])
def Ply.tks (p : Ply) : List Tk := p.tkTo (p.steps.length / 4)
theorem tkTo_prefix (p : Ply) (k m : Nat) : p.tkTo k <+: p.tkTo (k + m) := by
  induction m with
  | zero => exact List.prefix_refl _
  | succ m ih => exact ih.trans ⟨_, rfl⟩
theorem four_run2 (B : Nat) (wx : World) : (Instr.sliceAt 80 (.pointer (some ⟨B, 2, none⟩)) none none none).run Tryd.prog wx = .ok (.slice (some ⟨B, 2, none⟩) 4 4) wx := by
  have hl : Tryd.prog.arrayLen 80 = 4 := by kernel_rfl
  have hsz : (sizeOf (Tryd.prog.elem 80)).run Tryd.prog wx = .ok 1 wx := by kernel_rfl
  rw [run_sliceAt_array_all wx 80 ⟨B, 2, none⟩ (by kernel_rfl), hsz, hl]
  simp [Result.andThen, slicedAt, Addr.add]
theorem four_byt2 {w : World} {B : Nat} {cs : Array Value} {t : TypeId} (h : Row w B t cs) {x0 x1 x2 x3 : Nat} (h0 : cs[2]? = some (.int .u8 (x0 : Int))) (h1 : cs[3]? = some (.int .u8 (x1 : Int))) (h2 : cs[4]? = some (.int .u8 (x2 : Int))) (h3 : cs[5]? = some (.int .u8 (x3 : Int)))
    (b0 : x0 < 256) (b1 : x1 < 256) (b2 : x2 < 256) (b3 : x3 < 256) : Byt w (some ⟨B, 2, none⟩) 4 [x0, x1, x2, x3] := by
  refine ⟨rfl, by omega, fun i => ?_, .inr ⟨B, 2, rfl, h.lt, fun i hi => ?_⟩⟩
  · match i with
    | 0 => exact b0
    | 1 => exact b1
    | 2 => exact b2
    | 3 => exact b3
    | k + 4 => show 0 < 256; omega
  · rw [h.cell]
    match i, hi with
    | 0, _ => exact h0
    | 1, _ => exact h1
    | 2, _ => exact h2
    | 3, _ => exact h3
set_option maxHeartbeats 2000000 in
set_option maxRecDepth 100000 in
theorem tricks1_in (n l R B base : Nat) (S : Nat → Prop) (p : Ply) (a : Option Addr) (cap : Nat) (vb : Value) (J : (Nat → Prop) → List Tk → World → Prop) (W : World) (hp : p.ok)
    (hRb : Row W R 31 #[.pointer (some ⟨B, 0, none⟩)]) (h : PlyAt W B base p (.slice a p.steps.length cap) vb) (hSR : S R) (hSB : S B) (hSa : ∀ g, (Value.slice a p.steps.length cap).ownBlock = some g → S g) (hS : ∀ b, S b → b < W.heap.size)
    (hJ : StableG W.heap.size J)
    (hY : ∀ G pre x W1, J G pre W1 → (∀ b, G b → b < W1.heap.size ∧ W.heap.size ≤ b) → (pre ++ [x]) <+: p.tks → YieldAt Fence.wide (n - 1) Tryd.prog l #[.agg (Tk.cells x)] W1 fun e W' =>
      e = .returned (.bool true) ∧ J G (pre ++ [x]) W' ∧ (∀ b, G b → W'.heap[b]? = W1.heap[b]?) ∧ Kept S W1 W')
    (hJ0 : J noG [] W) :
    CallsIn Fence.wide n Tryd.prog 64 #[.func (.yield l) #[] #[], .pointer (some ⟨R, 0, none⟩)] W fun e W' => (∃ v, e = .returned v) ∧ ∃ G, J G p.tks W' := by
  refine callsIn_of_wp Tryd.func64 rfl trivial ?_ rfl
  simp only [Tryd.ntmps64, List.size_toArray, List.length_cons, List.length_nil, Nat.reduceAdd, Nat.reduceSub, Array.replicate_succ, Array.replicate_zero, List.push_toArray, List.append_toArray, List.nil_append, List.cons_append]
  have HY := Lib.hid hY
  clear hY
  obtain ⟨N, hN⟩ : ∃ N, N = p.steps.length / 4 := ⟨_, rfl⟩
  have hmany := hp.many
  gi_wp2
  gi_loopg [3] N (fun g s wr => ∃ (k q : Nat) (G : Nat → Prop), g = N - k ∧ k ≤ N ∧ q = 4 * k + 3 ∧ s = .int .i64 (q : Int) ∧ J G (p.tkTo k) wr ∧ (∀ b, G b → b < wr.heap.size ∧ W.heap.size ≤ b) ∧ Kept S W wr)
  case atStart => exact ⟨0, 3, noG, by omega, by omega, rfl, rfl, hJ0, (fun b h => h.elim), Kept.refl _ _⟩
  case round =>
    obtain ⟨k, q, G, rfl, hk, hq, rfl, hJr, hGb, hK⟩ := hrel
    have cR : wr.cell? ⟨R, 0, none⟩ = some (.pointer (some ⟨B, 0, none⟩)) := (hRb.kept hSR hK).cell 0
    have hRw := h.row.kept hSB hK
    have c14 : wr.cell? ⟨B, 14, none⟩ = some (.slice a p.steps.length cap) := hRw.cell 14
    by_cases hlt : k < N
    · have hql : q < p.steps.length := by omega
      have hqB : decide ((q : Int) < (p.steps.length : Int)) = true := by rw [decide_eq_true_eq]; omega
      have hqI : (q : Int) < (p.steps.length : Int) := by omega
      obtain ⟨x, hx⟩ : ∃ x, p.steps[q]? = some x := ⟨_, List.getElem?_eq_getElem hql⟩
      obtain ⟨a', cap', he', hne⟩ := h.ss.slice
      obtain ⟨g, hg⟩ := hne (by intro e; rw [e] at hql; simp at hql)
      injection he' with he1 he2 he3
      subst he1 he3
      subst hg
      have hgl := (World.ownsRow.lt h.ss.2 g rfl).2
      have hcl := fun j hj => (hK.cell (p := ⟨g, q * 11 + j, none⟩) (hSa g rfl) hgl).trans (Owns.cell h.ss q j hj hx)
      have e0 := hcl 0 (by omega)
      have e1 := hcl 1 (by omega)
      have e2 := hcl 2 (by omega)
      have e3 := hcl 3 (by omega)
      have e4 := hcl 4 (by omega)
      have e5 := hcl 5 (by omega)
      have e6 := hcl 6 (by omega)
      have e7 := hcl 7 (by omega)
      have e8 := hcl 8 (by omega)
      have e9 := hcl 9 (by omega)
      have e10 := hcl 10 (by omega)
      simp only [List.getElem?_cons_zero, List.getElem?_cons_succ, Nat.add_zero] at e0 e1 e2 e3 e4 e5 e6 e7 e8 e9 e10
      have HQ := Lib.hid hq
      have HX := Lib.hid hx
      have HN := Lib.hid hN
      clear hcl hq hx hN he2 hne
      have HRW := Lib.hid hRw
      gi_wp2
      have hxo := hp.steps x (List.mem_of_getElem? HX.out)
      have hY1 : Row ((wr.alloc (.cells #[.int .u64 (x.st.h 0 : Int), .int .u64 (x.st.h 1 : Int), .int .u64 (x.st.h 2 : Int), .int .u64 (x.st.h 3 : Int), .int .u8 (x.st.ld : Int), .int .u8 (x.st.ct : Int), .int .u8 (x.st.cs 0 : Int), .int .u8 (x.st.cs 1 : Int), .int .u8 (x.st.cs 2 : Int), .int .u8 (x.st.cs 3 : Int), .int .u8 (x.c : Int)] 92)).alloc (.cells #[.int .u8 (x.st.ld : Int), .int .u8 0, .int .u8 (x.st.cs 0 : Int), .int .u8 (x.st.cs 1 : Int), .int .u8 (x.st.cs 2 : Int), .int .u8 (x.c : Int)] 96)) (wr.heap.size + 1) 96 #[.int .u8 (x.st.ld : Int), .int .u8 0, .int .u8 (x.st.cs 0 : Int), .int .u8 (x.st.cs 1 : Int), .int .u8 (x.st.cs 2 : Int), .int .u8 (x.c : Int)] := by
        have := Row.new (wr.alloc (.cells #[.int .u64 (x.st.h 0 : Int), .int .u64 (x.st.h 1 : Int), .int .u64 (x.st.h 2 : Int), .int .u64 (x.st.h 3 : Int), .int .u8 (x.st.ld : Int), .int .u8 (x.st.ct : Int), .int .u8 (x.st.cs 0 : Int), .int .u8 (x.st.cs 1 : Int), .int .u8 (x.st.cs 2 : Int), .int .u8 (x.st.cs 3 : Int), .int .u8 (x.c : Int)] 92)) 96 #[.int .u8 (x.st.ld : Int), .int .u8 0, .int .u8 (x.st.cs 0 : Int), .int .u8 (x.st.cs 1 : Int), .int .u8 (x.st.cs 2 : Int), .int .u8 (x.c : Int)]
        rw [World.size_alloc] at this; exact this
      have hbo := ((Below.refl wr.heap.size wr).alloc (Nat.le_refl _) (.cells #[.int .u64 (x.st.h 0 : Int), .int .u64 (x.st.h 1 : Int), .int .u64 (x.st.h 2 : Int), .int .u64 (x.st.h 3 : Int), .int .u8 (x.st.ld : Int), .int .u8 (x.st.ct : Int), .int .u8 (x.st.cs 0 : Int), .int .u8 (x.st.cs 1 : Int), .int .u8 (x.st.cs 2 : Int), .int .u8 (x.st.cs 3 : Int), .int .u8 (x.c : Int)] 92)).alloc (by simp) (.cells #[.int .u8 (x.st.ld : Int), .int .u8 0, .int .u8 (x.st.cs 0 : Int), .int .u8 (x.st.cs 1 : Int), .int .u8 (x.st.cs 2 : Int), .int .u8 (x.c : Int)] 96)
      have hJo : J (fun b => G b ∨ b = wr.heap.size + 1) (p.tkTo k) ((wr.alloc (.cells #[.int .u64 (x.st.h 0 : Int), .int .u64 (x.st.h 1 : Int), .int .u64 (x.st.h 2 : Int), .int .u64 (x.st.h 3 : Int), .int .u8 (x.st.ld : Int), .int .u8 (x.st.ct : Int), .int .u8 (x.st.cs 0 : Int), .int .u8 (x.st.cs 1 : Int), .int .u8 (x.st.cs 2 : Int), .int .u8 (x.st.cs 3 : Int), .int .u8 (x.c : Int)] 92)).alloc (.cells #[.int .u8 (x.st.ld : Int), .int .u8 0, .int .u8 (x.st.cs 0 : Int), .int .u8 (x.st.cs 1 : Int), .int .u8 (x.st.cs 2 : Int), .int .u8 (x.c : Int)] 96)) :=
        hJ _ _ _ _ _ hJr (Moves.of_below hbo) (fun b h => .inl h) (fun b h => h.imp_right (by intro e; omega))
      have cR2 := (hbo.cell (p := ⟨R, 0, none⟩) (by have := hS R hSR; have := hK.size; simp only; omega)).trans cR
      have cD2 := (hbo.cell (p := ⟨B, 11, none⟩) HRW.out.lt).trans (HRW.out.cell 11)
      simp only [List.getElem?_toArray, List.getElem?_cons_zero, List.getElem?_cons_succ] at cD2
      have hKo := ((hK.alloc (.cells #[.int .u64 (x.st.h 0 : Int), .int .u64 (x.st.h 1 : Int), .int .u64 (x.st.h 2 : Int), .int .u64 (x.st.h 3 : Int), .int .u8 (x.st.ld : Int), .int .u8 (x.st.ct : Int), .int .u8 (x.st.cs 0 : Int), .int .u8 (x.st.cs 1 : Int), .int .u8 (x.st.cs 2 : Int), .int .u8 (x.st.cs 3 : Int), .int .u8 (x.c : Int)] 92)).alloc (.cells #[.int .u8 (x.st.ld : Int), .int .u8 0, .int .u8 (x.st.cs 0 : Int), .int .u8 (x.st.cs 1 : Int), .int .u8 (x.st.cs 2 : Int), .int .u8 (x.c : Int)] 96))
      have hso : ((wr.alloc (.cells #[.int .u64 (x.st.h 0 : Int), .int .u64 (x.st.h 1 : Int), .int .u64 (x.st.h 2 : Int), .int .u64 (x.st.h 3 : Int), .int .u8 (x.st.ld : Int), .int .u8 (x.st.ct : Int), .int .u8 (x.st.cs 0 : Int), .int .u8 (x.st.cs 1 : Int), .int .u8 (x.st.cs 2 : Int), .int .u8 (x.st.cs 3 : Int), .int .u8 (x.c : Int)] 92)).alloc (.cells #[.int .u8 (x.st.ld : Int), .int .u8 0, .int .u8 (x.st.cs 0 : Int), .int .u8 (x.st.cs 1 : Int), .int .u8 (x.st.cs 2 : Int), .int .u8 (x.c : Int)] 96)).heap.size = wr.heap.size + 2 := by simp
      generalize (wr.alloc (.cells #[.int .u64 (x.st.h 0 : Int), .int .u64 (x.st.h 1 : Int), .int .u64 (x.st.h 2 : Int), .int .u64 (x.st.h 3 : Int), .int .u8 (x.st.ld : Int), .int .u8 (x.st.ct : Int), .int .u8 (x.st.cs 0 : Int), .int .u8 (x.st.cs 1 : Int), .int .u8 (x.st.cs 2 : Int), .int .u8 (x.st.cs 3 : Int), .int .u8 (x.c : Int)] 92)).alloc (.cells #[.int .u8 (x.st.ld : Int), .int .u8 0, .int .u8 (x.st.cs 0 : Int), .int .u8 (x.st.cs 1 : Int), .int .u8 (x.st.cs 2 : Int), .int .u8 (x.c : Int)] 96) = wo at *
      generalize hT : wr.heap.size + 1 = T at *
      clear e0 e1 e2 e3 e4 e5 e6 e7 e8 e9 e10 cR c14
      refine wpIn_wide.2 ?_
      have cl : wo.cell? ⟨T, 0, none⟩ = some (.int .u8 (x.st.ld : Int)) := hY1.cell 0
      have hfr := four_run2 T
      have hby : Byt wo (some ⟨T, 2, none⟩) 4 [x.st.cs 0, x.st.cs 1, x.st.cs 2, x.c] := four_byt2 hY1 rfl rfl rfl rfl (by have := hxo.1.cs 0; omega) (by have := hxo.1.cs 1; omega) (by have := hxo.1.cs 2; omega) (by have := hxo.2; omega)
      have HSE := Lib.hid (fun (w1 : World) (hb : Below wo.heap.size wo w1) => trick_Seat p.dn x.st.ld (some ⟨T, 2, none⟩) 4 4 _ w1 (hby.below (Nat.le_refl _) hb))
      obtain ⟨sv, hsv⟩ : ∃ sv, sv = seatV p.dn x.st.ld [x.st.cs 0, x.st.cs 1, x.st.cs 2, x.c] := ⟨_, rfl⟩
      rw [← hsv] at HSE
      have HSV := Lib.hid hsv
      clear hsv hby
      have hb0 := (Below.refl wo.heap.size wo).drew
      go_cut [] from 6 to 50 (fun wx => ∃ w9, Below wo.heap.size wo w9 ∧ wx = w9.setCell ⟨T, 1, none⟩ (.int .u8 (sv.1 : Int)))
      case first =>
        go_region_law (first | (go_simp; go_at_call 32; refine (HSE.out _ hb0).mono ?_; rintro e w9 ⟨rfl, hb9⟩; have hY9 := hY1.below hY1.lt (hb0.trans hb9); have c11 : w9.cell? ⟨T, 1, none⟩ = some (.int .u8 0) := hY9.cell 1; have f11 := hY9.frozen 1))
        all_goals
          go_wp2_with fail
          go_meet
          case rel => exact ⟨w9, hb0.trans hb9, rfl⟩
      case rest =>
        obtain ⟨w9, hb9, rfl⟩ := hcut
        have hWs := hK.size
        have hY10 : Row (w9.setCell ⟨T, 1, none⟩ (.int .u8 (sv.1 : Int))) T 96 #[.int .u8 (x.st.ld : Int), .int .u8 (sv.1 : Int), .int .u8 (x.st.cs 0 : Int), .int .u8 (x.st.cs 1 : Int), .int .u8 (x.st.cs 2 : Int), .int .u8 (x.c : Int)] := (hY1.below hY1.lt hb9).set 1 _
        have hJ10 : J (fun b => G b ∨ b = T) (p.tkTo k) (w9.setCell ⟨T, 1, none⟩ (.int .u8 (sv.1 : Int))) := hJ.same (hJ.same hJo (Moves.of_below hb9)) (Moves.setCell _ (by omega) (.inr rfl))
        have hK10 : Kept S W (w9.setCell ⟨T, 1, none⟩ (.int .u8 (sv.1 : Int))) := (hKo.trans (Kept.of_below hb9)).setCell (fun h => by have := hS _ h; simp only at this; omega) _
        have hs10 : wo.heap.size ≤ (w9.setCell ⟨T, 1, none⟩ (.int .u8 (sv.1 : Int))).heap.size := by have := hb9.size; simpa using this
        have hnext : p.tkTo (k + 1) = p.tkTo k ++ [x.tk p.dn] := by
          have := HX.out
          rw [HQ.out] at this
          simp only [Ply.tkTo, this]
        have HNX := Lib.hid hnext
        have t0 := hY10.cell 0
        have t1 := hY10.cell 1
        have t2 := hY10.cell 2
        have t3 := hY10.cell 3
        have t4 := hY10.cell 4
        have t5 := hY10.cell 5
        simp only [List.getElem?_toArray, List.getElem?_cons_zero, List.getElem?_cons_succ] at t0 t1 t2 t3 t4 t5
        have hJl := hJ10
        generalize w9.setCell ⟨T, 1, none⟩ (.int .u8 (sv.1 : Int)) = w10 at *
        obtain ⟨fn, tmps, assign, body, hy, hYR⟩ := HY.out (fun b => G b ∨ b = T) (p.tkTo k) (x.tk p.dn) w10 hJ10 (fun b hb => by rcases hb with hb | hb; exact ⟨by have := (hGb b hb).1; omega, (hGb b hb).2⟩; subst hb; exact ⟨by omega, by omega⟩) (by
          rw [← hnext]
          unfold Ply.tks
          rw [← HN.out]
          have := tkTo_prefix p (k + 1) (N - (k + 1))
          rwa [show k + 1 + (N - (k + 1)) = N by omega] at this)
        have hxv : (#[.agg (Tk.cells (x.tk p.dn))] : Array Value) = #[.agg #[.int .u8 (x.st.ld : Int), .int .u8 (sv.1 : Int), .int .u8 (x.st.cs 0 : Int), .int .u8 (x.st.cs 1 : Int), .int .u8 (x.st.cs 2 : Int), .int .u8 (x.c : Int)]] := by
          rw [HSV.out]; rfl
        rw [hxv] at hy
        clear hxv hnext hJ10 hJl
        have HYR := Lib.hid hYR
        clear hYR
        gi_wp2
        refine HYR.out.mono ?_
        rintro e W3 ⟨rfl, hJ3, hG3, hB3⟩
        gi_wp2
        gi_roundg (N - (k + 1))
        case rel =>
          refine ⟨k + 1, q + 4, fun b => G b ∨ b = T, by omega, by omega, by have := HQ.out; omega, by go_num, ?_, fun b hb => ?_, hK10.trans hB3⟩
          · rw [HNX.out]; exact hJ3
          · have := hB3.size
            rcases hb with hb | hb
            · exact ⟨by have := (hGb b hb).1; omega, (hGb b hb).2⟩
            · subst hb; exact ⟨by omega, by omega⟩
        case measure => omega
    · have hql : ¬ q < p.steps.length := by omega
      have hqB : decide ((q : Int) < (p.steps.length : Int)) = false := by rw [decide_eq_false_iff_not]; omega
      have hqN : decide (q < p.steps.length) = false := by rw [decide_eq_false_iff_not]; omega
      have hkN : k = N := by omega
      have HN := Lib.hid hN
      have HK := Lib.hid hkN
      have HQ := Lib.hid hq
      clear hN hkN hq
      gi_wp2
      go_end0
      exact ⟨⟨_, rfl⟩, G, by unfold Ply.tks; rw [← HN.out, ← HK.out]; exact hJr⟩
end Go.Proofs.YtginbellakkliaaDoor

/- Contracts of a play's methods Tricks and Result, over this seat's program. -/
namespace Go.Proofs.YtginbellakkliaaDoor
open Go.RowKit Go.Shelf Go.Sort
attribute [local go_sem] Oper.semAt_some

theorem stable_below {β : Type} {B n : Nat} {w : World} (h : n ≤ B) (hn : n ≤ w.heap.size) : StableG (β := β) B (fun _ _ W => Below n w W) := by
  intro G G' s W W' hi hm _ _
  refine ⟨hm.base.os.trans hi.os, hm.base.tape.trans hi.tape, hm.base.output.trans hi.output, Nat.le_trans hi.size hm.base.size, fun k hk => ?_⟩
  rcases hm.block k (by have := hi.size; omega) with h1 | ⟨h1, _⟩
  · exact h1.trans (hi.block k hk)
  · omega
theorem stable_row {β : Type} {B b : Nat} {t : TypeId} {c : β → Array Value} (h : b < B) : StableG B (fun _ s W => Row W b t (c s)) := by
  intro G G' s W W' hi hm _ _
  rcases hm.block b hi.lt with h1 | ⟨h1, _⟩
  · exact hi.same h1
  · omega
theorem stable_and {β : Type} {B : Nat} {I J : (Nat → Prop) → β → World → Prop} (hi : StableG B I) (hj : StableG B J) : StableG B (fun G s W => I G s W ∧ J G s W) :=
  fun G G' s W W' h hm h1 h2 => ⟨hi G G' s W W' h.1 hm h1 h2, hj G G' s W W' h.2 hm h1 h2⟩
theorem keeps_set {B : Nat} (W : World) {p : Addr} (v : Value) (hp : p.block < B) : KeepsFrom B W (W.setCell p v) :=
  ⟨by simp [World.setCell], fun k o hk ho _ => (Below.heap_setCell W p v k (fun e => by omega)).trans ho⟩
theorem keeps_refl {B : Nat} (W : World) : KeepsFrom B W W := ⟨Nat.le_refl _, fun _ _ _ ho _ => ho⟩
theorem seq_tricks {n R B base : Nat} {p : Ply} {a : Option Addr} {cap : Nat} {vb : Value} {w : World} (S : Nat → Prop) (hp : p.ok) (hR : Row w R 31 #[.pointer (some ⟨B, 0, none⟩)]) (h : PlyAt w B base p (.slice a p.steps.length cap) vb)
    (hSR : S R) (hSB : S B) (hSa : ∀ g, (Value.slice a p.steps.length cap).ownBlock = some g → S g) (hS : ∀ b, S b → b < w.heap.size) :
    SeqG Fence.wide n Tryd.prog 64 #[.pointer (some ⟨R, 0, none⟩)] (fun x => #[.agg (Tk.cells x)]) S p.tks w := by
  intro l J W hb hJ hY hJ0
  exact tricks1_in n l R B base S p a cap vb J W hp (hR.below hR.lt hb) (h.below hb) hSR hSB hSa (fun b h => Nat.lt_of_lt_of_le (hS b h) hb.size) hJ hY hJ0
/-- the frame in a round: the trick lies in slot q, its block T in s -/
def inTk (t : Act) (q s : Nat) (x : Tk) (T : Nat) : Act :=
  { tmps := (t.tmps.setIfInBounds q (.agg (Tk.cells x))).setIfInBounds s (.pointer (some ⟨T, 0, none⟩)), defers := [] }
theorem range_tricks {n q s id : Nat} {ps ps' : String} {body : Code} {g : Operand} {Q : Exit → Act → World → Prop} {t : Act} {w : World} (R B base : Nat) (p : Ply) (a : Option Addr) (cap : Nat) (vb : Value) (h1 : 1 ≤ n)
    (hg : t.eval g = .func (.func 64) #[] #[.pointer (some ⟨R, 0, none⟩)]) (hq : q < t.tmps.size) (hs : s < t.tmps.size) (hsq : s ≠ q)
    (hp : p.ok) (hR : Row w R 31 #[.pointer (some ⟨B, 0, none⟩)]) (hP : PlyAt w B base p (.slice a p.steps.length cap) vb) (S : Nat → Prop) (hSR : S R) (hSB : S B) (hSa : ∀ g, (Value.slice a p.steps.length cap).ownBlock = some g → S g) (hS : ∀ b, S b → b < w.heap.size)
    (I : (Nat → Prop) → List Tk → World → Prop) (hI : StableG w.heap.size I) (h0 : I noG [] w)
    (hbody : ∀ (l : Nat) (G : Nat → Prop) (pre : List Tk) (x : Tk) (T : Nat) (W : World), I G pre W → Row W T 96 (Tk.cells x) → w.heap.size ≤ T → (∀ b, G b → b < W.heap.size ∧ w.heap.size ≤ b) → w.heap.size ≤ W.heap.size → (pre ++ [x]) <+: p.tks →
      body.wpIn (Fence.wide.inRound l) (n - 1 - 1) Tryd.prog (gPost w.heap.size S G I (pre ++ [x]) W) (inTk t q s x T) W)
    (hdone : ∀ (D : Nat) (G : Nat → Prop) (W : World), w.heap.size ≤ D → I G p.tks W → W.heap[D]? = some (.deferred (some [])) → Q .normal { t with defers := { target := .collected D, args := #[] } :: t.defers } W) :
    (Code.rangeFunc g #[q] (Code.region id #[{ dst := some s, op := .alloc 96, type := 0, pos := ps, after := #[], guard := none }, { dst := none, op := .store 96 (.tmp s) (.tmp q), type := 0, pos := ps', after := #[{ on := 0, ground := Ground.data }, { on := 0, ground := Ground.phase }], guard := none }] false) body).wpIn Fence.wide n Tryd.prog Q t w := by
  refine wpIn_rangeFunc_G rfl h1 hg trivial (enters_of Tryd.func64 (by kernel_rfl) rfl) (seq_tricks S hp hR hP hSR hSB hSa hS) (Below.refl _ _) hS (fun _ => rfl) I hI h0
    (fun x W a' => ∃ T, a' = inTk t q s x T ∧ Row W T 96 (Tk.cells x) ∧ w.heap.size ≤ T) ?_ ?_ hdone
  · intro l x W K hsz hK
    refine wpIn_region_lit ?_
    simp only [List.zip_toArray, List.zip_cons_cons, List.zip_nil_left]
    simp [wpListIn, Oper.wpIn, go_sem, Oper.about, Oper.uponIn, execOp, Act.eval, Act.put, Exit.then]
    have hq' : ((t.tmps.setIfInBounds q (Value.agg (Tk.cells x))).setIfInBounds s (Value.pointer (some { block := W.heap.size, off := 0 })))[q]?.getD undef = Value.agg (Tk.cells x) := by
      rw [Array.getElem?_setIfInBounds_ne hsq, Array.getElem?_setIfInBounds_self_of_lt (by simpa using hq)]
      rfl
    rw [if_pos hs]
    simp only [hq']
    simp [go_sem]
    refine hK _ _ ((Below.refl _ W).alloc (Nat.le_refl _) _) (fun l o o' hl ho hc => ⟨W.heap.size, ?_, ?_, ?_⟩)
    · simp only [inTk]
    · have hr := Row.new W 96 (Tk.cells x)
      exact hr.same (World.putObj_heap_other (fun e => by subst e; rw [hr] at ho; injection ho with ho; rw [← ho] at hc; cases hc))
    · exact hsz
  · intro l G pre x a' W hi hAs hG hsz hpre
    obtain ⟨T, rfl, hT, hTw⟩ := hAs
    exact hbody l G pre x T W hi hT hTw hG hsz hpre
theorem ply_tricks (B : Nat) (w : World) :
    Calls Tryd.prog 50 #[.pointer (some ⟨B, 0, none⟩)] w fun e w' => e = .returned (.func (.func 64) #[] #[.pointer (some ⟨w.heap.size, 0, none⟩)]) ∧ w' = w.alloc (.cells #[.pointer (some ⟨B, 0, none⟩)] 31) := by
  go_enter Tryd.func50, Tryd.ntmps50
  go_wp2
  go_ret
  exact ⟨rfl, rfl⟩
/-- the tricks that a side has won -/
def tkWon (l : List Tk) (s : Nat) : Nat := (l.filter fun x => x.win % 2 == s).length
theorem tkWon_snoc (l : List Tk) (x : Tk) (s : Nat) : tkWon (l ++ [x]) s = tkWon l s + (if x.win % 2 = s then 1 else 0) := by
  unfold tkWon
  rw [List.filter_append, List.length_append]
  congr 1
  by_cases h : x.win % 2 = s <;> simp [h]
theorem seatV_lt (t l : Nat) (zs : List Nat) : (seatV t l zs).1 < 4 := by
  unfold seatV
  split
  · simp
  · split
    · simp only; omega
    · simp
theorem tkTo_len (p : Ply) (k : Nat) : (p.tkTo k).length ≤ k := by
  induction k with
  | zero => simp [Ply.tkTo]
  | succ k ih =>
    rw [Ply.tkTo, List.length_append]
    cases p.steps[4 * k + 3]? <;> simp <;> omega
theorem tkTo_win (p : Ply) (k : Nat) : ∀ x ∈ p.tkTo k, x.win < 4 := by
  induction k with
  | zero => intro x hx; cases hx
  | succ k ih =>
    intro x hx
    rw [Ply.tkTo, List.mem_append] at hx
    rcases hx with hx | hx
    · exact ih x hx
    · split at hx
      · cases hx
      · rw [List.mem_singleton] at hx
        subst hx
        exact seatV_lt _ _ _
set_option maxHeartbeats 1000000 in
set_option maxRecDepth 100000 in
theorem ply_Tricks {w : World} {B base : Nat} {p : Ply} {vs vb : Value} (hp : p.ok) (h : PlyAt w B base p vs vb) :
    Calls Tryd.prog 33 #[.pointer (some ⟨B, 0, none⟩)] w fun e w' => e = .returned (.tuple #[.int .i64 (tkWon p.tks 0 : Int), .int .i64 (tkWon p.tks 1 : Int)]) ∧ Below w.heap.size w w' := by
  obtain ⟨a, cap, rfl, -⟩ := h.ss.slice
  refine (callsIn_wide (n := 9)).1 (callsIn_of_wp_marks Tryd.func33 rfl trivial ?_)
  simp only [Tryd.ntmps33, List.size_toArray, List.length_cons, List.length_nil, Nat.reduceAdd, Nat.reduceSub, Array.replicate_succ, Array.replicate_zero, List.push_toArray, List.append_toArray, List.nil_append, List.cons_append]
  have hmany := hp.many
  have hBl := h.row.lt
  gi_wp2_with fail
  refine (callsIn_wide.2 (ply_made hp h)).mono ?_
  rintro e w' ⟨rfl, rfl⟩
  gi_wp2_with fail
  refine (callsIn_wide.2 (ply_tricks B _)).mono ?_
  rintro e w1 ⟨rfl, rfl⟩
  gi_wp2_with fail
  have hWn : Row ((w.alloc (.cells #[.int .i64 0, .int .i64 0] 58)).alloc (.cells #[.pointer (some ⟨B, 0, none⟩)] 31)) w.heap.size 58 #[.int .i64 0, .int .i64 0] := (Row.new w 58 #[.int .i64 0, .int .i64 0]).alloc _
  have hRz : Row ((w.alloc (.cells #[.int .i64 0, .int .i64 0] 58)).alloc (.cells #[.pointer (some ⟨B, 0, none⟩)] 31)) (w.heap.size + 1) 31 #[.pointer (some ⟨B, 0, none⟩)] := by
    have := Row.new (w.alloc (.cells #[.int .i64 0, .int .i64 0] 58)) 31 #[.pointer (some ⟨B, 0, none⟩)]
    rw [World.size_alloc] at this; exact this
  have hbz : Below w.heap.size w ((w.alloc (.cells #[.int .i64 0, .int .i64 0] 58)).alloc (.cells #[.pointer (some ⟨B, 0, none⟩)] 31)) := ((Below.refl w.heap.size w).alloc (Nat.le_refl _) _).alloc (by simp) _
  have hsz : ((w.alloc (.cells #[.int .i64 0, .int .i64 0] 58)).alloc (.cells #[.pointer (some ⟨B, 0, none⟩)] 31)).heap.size = w.heap.size + 2 := by simp
  have hP := h.below hbz
  have hSa : ∀ g, (Value.slice a p.steps.length cap).ownBlock = some g → g < w.heap.size := fun g hg => (World.ownsRow.lt h.ss.2 g hg).2
  have HSa := Lib.hid hSa
  have HBl := Lib.hid hBl
  clear hSa h hBl
  generalize ((w.alloc (.cells #[.int .i64 0, .int .i64 0] 58)).alloc (.cells #[.pointer (some ⟨B, 0, none⟩)] 31)) = wz at *
  have HSZ := Lib.hid hsz
  have HLT : Hid (∀ b, (b = w.heap.size + 1 ∨ b = B ∨ (Value.slice a p.steps.length cap).ownBlock = some b) → b < wz.heap.size) := Lib.hid fun b hb => by
    rcases hb with h1 | h1 | h1
    · omega
    · have := HBl.out; omega
    · have := HSa.out b h1; omega
  have HNS : Hid (¬ (w.heap.size = w.heap.size + 1 ∨ w.heap.size = B ∨ (Value.slice a p.steps.length cap).ownBlock = some w.heap.size)) := Lib.hid fun hb => by
    rcases hb with h1 | h1 | h1
    · omega
    · have := HBl.out; omega
    · have := HSa.out _ h1; omega
  refine range_tricks (w.heap.size + 1) B base p a cap vb (by decide) rfl (by simp) (by simp) (by decide) hp hRz hP (fun b => b = w.heap.size + 1 ∨ b = B ∨ (Value.slice a p.steps.length cap).ownBlock = some b) (.inl rfl) (.inr (.inl rfl)) (fun g hg => .inr (.inr hg))
    HLT.out
    (fun G pre W => Row W w.heap.size 58 #[.int .i64 (tkWon pre 0 : Int), .int .i64 (tkWon pre 1 : Int)] ∧ Below w.heap.size w W)
    (stable_and (stable_row (c := fun pre => #[.int .i64 (tkWon pre 0 : Int), .int .i64 (tkWon pre 1 : Int)]) (by omega)) (stable_below (by omega) (Nat.le_refl _))) ⟨hWn, hbz⟩ ?body ?done
  case body =>
    rintro l G pre x T W ⟨hW, hB⟩ hT hTw hG hszW hpre
    simp only [inTk, List.setIfInBounds_toArray, List.set]
    have t1 := hT.cell 1
    have d0 := hW.cell 0
    have d1 := hW.cell 1
    have f0 := hW.frozen 0
    have f1 := hW.frozen 1
    simp at t1 d0 d1
    have hle : ∀ s, tkWon pre s ≤ 60000 := fun s => by
      have h1 : tkWon pre s ≤ pre.length := List.length_filter_le _ _
      have h2 := hpre.length_le
      have h3 := tkTo_len p (p.steps.length / 4)
      rw [List.length_append] at h2
      unfold Ply.tks at h2
      omega
    have hl0 := hle 0
    have hl1 := hle 1
    have hn0 := tkWon_snoc pre x 0
    have hn1 := tkWon_snoc pre x 1
    have HN0 := Lib.hid hn0
    have HN1 := Lib.hid hn1
    clear hle hn0 hn1
    rcases (show x.win % 2 = 0 ∨ x.win % 2 = 1 by omega) with hw | hw
    · have hwI : (x.win : Int) % 2 = 0 := by omega
      have HW := Lib.hid hw
      clear hw
      generalize hq0 : tkWon pre 0 = q0 at *
      generalize hq1 : tkWon pre 1 = q1 at *
      gi_wp2
      refine ⟨keeps_set _ _ (by have := HSZ.out; simp only; omega), fun b hb => Below.heap_setCell _ _ _ b (by have := (hG b hb).2; have := HSZ.out; simp only; omega), (Kept.refl _ W).setCell HNS.out _, ?_, hB.setCell (Nat.le_refl _) _⟩
      have h9 := hW.set 0 (.int .i64 ((q0 : Int) + 1))
      rw [HN0.out, HN1.out, if_pos HW.out, if_neg (by have := HW.out; omega)]
      exact h9
    · have hwI : (x.win : Int) % 2 = 1 := by omega
      have HW := Lib.hid hw
      clear hw
      generalize hq0 : tkWon pre 0 = q0 at *
      generalize hq1 : tkWon pre 1 = q1 at *
      gi_wp2
      refine ⟨keeps_set _ _ (by have := HSZ.out; simp only; omega), fun b hb => Below.heap_setCell _ _ _ b (by have := (hG b hb).2; have := HSZ.out; simp only; omega), (Kept.refl _ W).setCell HNS.out _, ?_, hB.setCell (Nat.le_refl _) _⟩
      have h9 := hW.set 1 (.int .i64 ((q1 : Int) + 1))
      rw [HN0.out, HN1.out, if_neg (by have := HW.out; omega), if_pos HW.out]
      exact h9
  case done =>
    rintro D G W hD ⟨hW, hB⟩ hK
    have d0 := hW.cell 0
    have d1 := hW.cell 1
    simp at d0 d1
    gi_wp2
    gi_region
    gi_wp2
    have hK2 : W.drew.heap[D]? = some (.deferred (some [])) := hK
    refine ⟨by simp, .inl ⟨_, _, rfl, run_takeDeferred hK2, ?_⟩⟩
    exact ⟨_, results_tmp2 rfl _ _ _, rfl, hB.drew.trans (belowK_b (w := w) (Nat.le_refl _) W.drew D _ _ (by have := HSZ.out; omega) hK2 rfl rfl)⟩
/-- what Result returns -/
def Ply.resV (p : Ply) : Nat × Nat := if p.st.over then (tkWon p.tks (p.dc % 2), 0) else (0, 123)
theorem ply_result {w : World} {B base : Nat} {p : Ply} {vs vb : Value} (hp : p.ok) (h : PlyAt w B base p vs vb) :
    Calls Tryd.prog 19 #[.pointer (some ⟨B, 0, none⟩)] w fun e w' => e = .returned (.tuple #[.int .i64 (p.resV.1 : Int), .int .i64 (p.resV.2 : Int)]) ∧ Below w.heap.size w w' := by
  have HM := Lib.hid (ply_made hp h)
  have HO := Lib.hid (ply_over h)
  have HT := Lib.hid (ply_Tricks hp h)
  unfold Ply.resV
  cases ho : p.st.over
  · rw [ho] at HO
    go_enter Tryd.func19, Tryd.ntmps19
    go_wp2_with (first
      | (go_at_call 41; refine HM.out.mono ?_; rintro e w' ⟨rfl, rfl⟩)
      | (go_at_call 42; refine HO.out.mono ?_; rintro e w' ⟨rfl, rfl⟩))
    go_ret2
    exact ⟨rfl, Below.refl _ _⟩
  · rw [ho] at HO
    rw [if_pos rfl]
    have hdc := hp.dc
    rcases (show p.dc % 2 = 0 ∨ p.dc % 2 = 1 by omega) with hd | hd
    · rw [hd]
      have hdI : ((p.dc : Int) % 2 == 0) = true := by rw [beq_iff_eq]; omega
      go_enter Tryd.func19, Tryd.ntmps19
      go_wp2_with (first
        | (go_at_call 41; refine HM.out.mono ?_; rintro e w' ⟨rfl, rfl⟩)
        | (go_at_call 42; refine HO.out.mono ?_; rintro e w' ⟨rfl, rfl⟩)
        | (go_at_call 33; refine HT.out.mono ?_; rintro e w1 ⟨rfl, hb1⟩; have c13 : w1.cell? ⟨B, 13, none⟩ = some (.int .u8 (p.dc : Int)) := (h.row.below h.row.lt hb1).cell 13))
      go_ret2
      exact ⟨rfl, hb1⟩
    · rw [hd]
      have hdI : ((p.dc : Int) % 2 == 0) = false := by rw [beq_eq_false_iff_ne]; omega
      go_enter Tryd.func19, Tryd.ntmps19
      go_wp2_with (first
        | (go_at_call 41; refine HM.out.mono ?_; rintro e w' ⟨rfl, rfl⟩)
        | (go_at_call 42; refine HO.out.mono ?_; rintro e w' ⟨rfl, rfl⟩)
        | (go_at_call 33; refine HT.out.mono ?_; rintro e w1 ⟨rfl, hb1⟩; have c13 : w1.cell? ⟨B, 13, none⟩ = some (.int .u8 (p.dc : Int)) := (h.row.below h.row.lt hb1).cell 13))
      go_ret2
      exact ⟨rfl, hb1⟩
end Go.Proofs.YtginbellakkliaaDoor
