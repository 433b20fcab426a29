/- The iterator over a play's tricks, over this seat's program. -/
import Derived.Test.YtginbellakkliaaDoorPyF
import Derived.Sort.LoopGhostIn
import Derived.Shelf.Abstract
import Derived.Shelf.RegionOpen
import Derived.OwnWalkIn
import Derived.TacticsInMore
import Derived.LoopNIn
import Derived.LoopIn
import Derived.Outline
import Derived.Deep.CutRange
namespace Go.Proofs.YtginbellakkliaaDoor
open Go.RowKit Go.Shelf Go.Sort
attribute [local go_sem] Oper.semAt_some

/-- a complete trick -/
structure Tk where
  ld : Nat
  win : Nat
  c0 : Nat
  c1 : Nat
  c2 : Nat
  c3 : Nat
abbrev Tk.cells (x : Tk) : Array Value := #[.int .u8 (x.ld : Int), .int .u8 (x.win : Int), .int .u8 (x.c0 : Int), .int .u8 (x.c1 : Int), .int .u8 (x.c2 : Int), .int .u8 (x.c3 : Int)]
def Stp.tk (x : Stp) (dn : Nat) : Tk := ⟨x.st.ld, (seatV dn x.st.ld [x.st.cs 0, x.st.cs 1, x.st.cs 2, x.c]).1, x.st.cs 0, x.st.cs 1, x.st.cs 2, x.c⟩
/-- the first n complete tricks -/
def Ply.tkTo (p : Ply) : Nat → List Tk
  | 0 => []
  | k + 1 => p.tkTo k ++ (match p.steps[4 * k + 3]? with | none => [] | some x => [x.tk p.dn])
def Ply.tks (p : Ply) : List Tk := p.tkTo (p.steps.length / 4)
theorem tkTo_prefix (p : Ply) (k m : Nat) : p.tkTo k <+: p.tkTo (k + m) := by
  induction m with
  | zero => exact List.prefix_refl _
  | succ m ih => exact ih.trans ⟨_, rfl⟩
theorem four_run2 (B : Nat) (wx : World) : (Instr.sliceAt 80 (.pointer (some ⟨B, 2, none⟩)) none none none).run Tryd.prog wx = .ok (.slice (some ⟨B, 2, none⟩) 4 4) wx := by
  have hl : Tryd.prog.arrayLen 80 = 4 := by kernel_rfl
  have hsz : (sizeOf (Tryd.prog.elem 80)).run Tryd.prog wx = .ok 1 wx := by kernel_rfl
  rw [run_sliceAt_array_all wx 80 ⟨B, 2, none⟩ (by kernel_rfl), hsz, hl]
  simp [Result.andThen, slicedAt, Addr.add]
theorem four_byt2 {w : World} {B : Nat} {cs : Array Value} {t : TypeId} (h : Row w B t cs) {x0 x1 x2 x3 : Nat} (h0 : cs[2]? = some (.int .u8 (x0 : Int))) (h1 : cs[3]? = some (.int .u8 (x1 : Int))) (h2 : cs[4]? = some (.int .u8 (x2 : Int))) (h3 : cs[5]? = some (.int .u8 (x3 : Int)))
    (b0 : x0 < 256) (b1 : x1 < 256) (b2 : x2 < 256) (b3 : x3 < 256) : Byt w (some ⟨B, 2, none⟩) 4 [x0, x1, x2, x3] := by
  refine ⟨rfl, by omega, fun i => ?_, .inr ⟨B, 2, rfl, h.lt, fun i hi => ?_⟩⟩
  · match i with
    | 0 => exact b0
    | 1 => exact b1
    | 2 => exact b2
    | 3 => exact b3
    | k + 4 => show 0 < 256; omega
  · rw [h.cell]
    match i, hi with
    | 0, _ => exact h0
    | 1, _ => exact h1
    | 2, _ => exact h2
    | 3, _ => exact h3
set_option maxHeartbeats 2000000 in
set_option maxRecDepth 100000 in
theorem tricks1_in (n l R B base : Nat) (S : Nat → Prop) (p : Ply) (a : Option Addr) (cap : Nat) (vb : Value) (J : (Nat → Prop) → List Tk → World → Prop) (W : World) (hp : p.ok)
    (hRb : Row W R 31 #[.pointer (some ⟨B, 0, none⟩)]) (h : PlyAt W B base p (.slice a p.steps.length cap) vb) (hSR : S R) (hSB : S B) (hSa : ∀ g, (Value.slice a p.steps.length cap).ownBlock = some g → S g) (hS : ∀ b, S b → b < W.heap.size)
    (hJ : StableG W.heap.size J)
    (hY : ∀ G pre x W1, J G pre W1 → (∀ b, G b → b < W1.heap.size ∧ W.heap.size ≤ b) → (pre ++ [x]) <+: p.tks → YieldAt Fence.wide (n - 1) Tryd.prog l #[.agg (Tk.cells x)] W1 fun e W' =>
      e = .returned (.bool true) ∧ J G (pre ++ [x]) W' ∧ (∀ b, G b → W'.heap[b]? = W1.heap[b]?) ∧ Kept S W1 W')
    (hJ0 : J noG [] W) :
    CallsIn Fence.wide n Tryd.prog 64 #[.func (.yield l) #[] #[], .pointer (some ⟨R, 0, none⟩)] W fun e W' => (∃ v, e = .returned v) ∧ ∃ G, J G p.tks W' := by
  refine callsIn_of_wp Tryd.func64 rfl trivial ?_ rfl
  simp only [Tryd.ntmps64, List.size_toArray, List.length_cons, List.length_nil, Nat.reduceAdd, Nat.reduceSub, Array.replicate_succ, Array.replicate_zero, List.push_toArray, List.append_toArray, List.nil_append, List.cons_append]
  have HY := Lib.hid hY
  clear hY
  obtain ⟨N, hN⟩ : ∃ N, N = p.steps.length / 4 := ⟨_, rfl⟩
  have hmany := hp.many
  gi_wp2
  gi_loopg [3] N (fun g s wr => ∃ (k q : Nat) (G : Nat → Prop), g = N - k ∧ k ≤ N ∧ q = 4 * k + 3 ∧ s = .int .i64 (q : Int) ∧ J G (p.tkTo k) wr ∧ (∀ b, G b → b < wr.heap.size ∧ W.heap.size ≤ b) ∧ Kept S W wr)
  case atStart => exact ⟨0, 3, noG, by omega, by omega, rfl, rfl, hJ0, (fun b h => h.elim), Kept.refl _ _⟩
  case round =>
    obtain ⟨k, q, G, rfl, hk, hq, rfl, hJr, hGb, hK⟩ := hrel
    have cR : wr.cell? ⟨R, 0, none⟩ = some (.pointer (some ⟨B, 0, none⟩)) := (hRb.kept hSR hK).cell 0
    have hRw := h.row.kept hSB hK
    have c14 : wr.cell? ⟨B, 14, none⟩ = some (.slice a p.steps.length cap) := hRw.cell 14
    by_cases hlt : k < N
    · have hql : q < p.steps.length := by omega
      have hqB : decide ((q : Int) < (p.steps.length : Int)) = true := by rw [decide_eq_true_eq]; omega
      have hqI : (q : Int) < (p.steps.length : Int) := by omega
      obtain ⟨x, hx⟩ : ∃ x, p.steps[q]? = some x := ⟨_, List.getElem?_eq_getElem hql⟩
      obtain ⟨a', cap', he', hne⟩ := h.ss.slice
      obtain ⟨g, hg⟩ := hne (by intro e; rw [e] at hql; simp at hql)
      injection he' with he1 he2 he3
      subst he1 he3
      subst hg
      have hgl := (World.ownsRow.lt h.ss.2 g rfl).2
      have hcl := fun j hj => (hK.cell (p := ⟨g, q * 11 + j, none⟩) (hSa g rfl) hgl).trans (Owns.cell h.ss q j hj hx)
      have e0 := hcl 0 (by omega)
      have e1 := hcl 1 (by omega)
      have e2 := hcl 2 (by omega)
      have e3 := hcl 3 (by omega)
      have e4 := hcl 4 (by omega)
      have e5 := hcl 5 (by omega)
      have e6 := hcl 6 (by omega)
      have e7 := hcl 7 (by omega)
      have e8 := hcl 8 (by omega)
      have e9 := hcl 9 (by omega)
      have e10 := hcl 10 (by omega)
      simp only [List.getElem?_cons_zero, List.getElem?_cons_succ, Nat.add_zero] at e0 e1 e2 e3 e4 e5 e6 e7 e8 e9 e10
      have HQ := Lib.hid hq
      have HX := Lib.hid hx
      have HN := Lib.hid hN
      clear hcl hq hx hN he2 hne
      have HRW := Lib.hid hRw
      gi_wp2
      have hxo := hp.steps x (List.mem_of_getElem? HX.out)
      have hY1 : Row ((wr.alloc (.cells #[.int .u64 (x.st.h 0 : Int), .int .u64 (x.st.h 1 : Int), .int .u64 (x.st.h 2 : Int), .int .u64 (x.st.h 3 : Int), .int .u8 (x.st.ld : Int), .int .u8 (x.st.ct : Int), .int .u8 (x.st.cs 0 : Int), .int .u8 (x.st.cs 1 : Int), .int .u8 (x.st.cs 2 : Int), .int .u8 (x.st.cs 3 : Int), .int .u8 (x.c : Int)] 92)).alloc (.cells #[.int .u8 (x.st.ld : Int), .int .u8 0, .int .u8 (x.st.cs 0 : Int), .int .u8 (x.st.cs 1 : Int), .int .u8 (x.st.cs 2 : Int), .int .u8 (x.c : Int)] 96)) (wr.heap.size + 1) 96 #[.int .u8 (x.st.ld : Int), .int .u8 0, .int .u8 (x.st.cs 0 : Int), .int .u8 (x.st.cs 1 : Int), .int .u8 (x.st.cs 2 : Int), .int .u8 (x.c : Int)] := by
        have := Row.new (wr.alloc (.cells #[.int .u64 (x.st.h 0 : Int), .int .u64 (x.st.h 1 : Int), .int .u64 (x.st.h 2 : Int), .int .u64 (x.st.h 3 : Int), .int .u8 (x.st.ld : Int), .int .u8 (x.st.ct : Int), .int .u8 (x.st.cs 0 : Int), .int .u8 (x.st.cs 1 : Int), .int .u8 (x.st.cs 2 : Int), .int .u8 (x.st.cs 3 : Int), .int .u8 (x.c : Int)] 92)) 96 #[.int .u8 (x.st.ld : Int), .int .u8 0, .int .u8 (x.st.cs 0 : Int), .int .u8 (x.st.cs 1 : Int), .int .u8 (x.st.cs 2 : Int), .int .u8 (x.c : Int)]
        rw [World.size_alloc] at this; exact this
      have hbo := ((Below.refl wr.heap.size wr).alloc (Nat.le_refl _) (.cells #[.int .u64 (x.st.h 0 : Int), .int .u64 (x.st.h 1 : Int), .int .u64 (x.st.h 2 : Int), .int .u64 (x.st.h 3 : Int), .int .u8 (x.st.ld : Int), .int .u8 (x.st.ct : Int), .int .u8 (x.st.cs 0 : Int), .int .u8 (x.st.cs 1 : Int), .int .u8 (x.st.cs 2 : Int), .int .u8 (x.st.cs 3 : Int), .int .u8 (x.c : Int)] 92)).alloc (by simp) (.cells #[.int .u8 (x.st.ld : Int), .int .u8 0, .int .u8 (x.st.cs 0 : Int), .int .u8 (x.st.cs 1 : Int), .int .u8 (x.st.cs 2 : Int), .int .u8 (x.c : Int)] 96)
      have hJo : J (fun b => G b ∨ b = wr.heap.size + 1) (p.tkTo k) ((wr.alloc (.cells #[.int .u64 (x.st.h 0 : Int), .int .u64 (x.st.h 1 : Int), .int .u64 (x.st.h 2 : Int), .int .u64 (x.st.h 3 : Int), .int .u8 (x.st.ld : Int), .int .u8 (x.st.ct : Int), .int .u8 (x.st.cs 0 : Int), .int .u8 (x.st.cs 1 : Int), .int .u8 (x.st.cs 2 : Int), .int .u8 (x.st.cs 3 : Int), .int .u8 (x.c : Int)] 92)).alloc (.cells #[.int .u8 (x.st.ld : Int), .int .u8 0, .int .u8 (x.st.cs 0 : Int), .int .u8 (x.st.cs 1 : Int), .int .u8 (x.st.cs 2 : Int), .int .u8 (x.c : Int)] 96)) :=
        hJ _ _ _ _ _ hJr (Moves.of_below hbo) (fun b h => .inl h) (fun b h => h.imp_right (by intro e; omega))
      have cR2 := (hbo.cell (p := ⟨R, 0, none⟩) (by have := hS R hSR; have := hK.size; simp only; omega)).trans cR
      have cD2 := (hbo.cell (p := ⟨B, 11, none⟩) HRW.out.lt).trans (HRW.out.cell 11)
      simp only [List.getElem?_toArray, List.getElem?_cons_zero, List.getElem?_cons_succ] at cD2
      have hKo := ((hK.alloc (.cells #[.int .u64 (x.st.h 0 : Int), .int .u64 (x.st.h 1 : Int), .int .u64 (x.st.h 2 : Int), .int .u64 (x.st.h 3 : Int), .int .u8 (x.st.ld : Int), .int .u8 (x.st.ct : Int), .int .u8 (x.st.cs 0 : Int), .int .u8 (x.st.cs 1 : Int), .int .u8 (x.st.cs 2 : Int), .int .u8 (x.st.cs 3 : Int), .int .u8 (x.c : Int)] 92)).alloc (.cells #[.int .u8 (x.st.ld : Int), .int .u8 0, .int .u8 (x.st.cs 0 : Int), .int .u8 (x.st.cs 1 : Int), .int .u8 (x.st.cs 2 : Int), .int .u8 (x.c : Int)] 96))
      have hso : ((wr.alloc (.cells #[.int .u64 (x.st.h 0 : Int), .int .u64 (x.st.h 1 : Int), .int .u64 (x.st.h 2 : Int), .int .u64 (x.st.h 3 : Int), .int .u8 (x.st.ld : Int), .int .u8 (x.st.ct : Int), .int .u8 (x.st.cs 0 : Int), .int .u8 (x.st.cs 1 : Int), .int .u8 (x.st.cs 2 : Int), .int .u8 (x.st.cs 3 : Int), .int .u8 (x.c : Int)] 92)).alloc (.cells #[.int .u8 (x.st.ld : Int), .int .u8 0, .int .u8 (x.st.cs 0 : Int), .int .u8 (x.st.cs 1 : Int), .int .u8 (x.st.cs 2 : Int), .int .u8 (x.c : Int)] 96)).heap.size = wr.heap.size + 2 := by simp
      generalize (wr.alloc (.cells #[.int .u64 (x.st.h 0 : Int), .int .u64 (x.st.h 1 : Int), .int .u64 (x.st.h 2 : Int), .int .u64 (x.st.h 3 : Int), .int .u8 (x.st.ld : Int), .int .u8 (x.st.ct : Int), .int .u8 (x.st.cs 0 : Int), .int .u8 (x.st.cs 1 : Int), .int .u8 (x.st.cs 2 : Int), .int .u8 (x.st.cs 3 : Int), .int .u8 (x.c : Int)] 92)).alloc (.cells #[.int .u8 (x.st.ld : Int), .int .u8 0, .int .u8 (x.st.cs 0 : Int), .int .u8 (x.st.cs 1 : Int), .int .u8 (x.st.cs 2 : Int), .int .u8 (x.c : Int)] 96) = wo at *
      generalize hT : wr.heap.size + 1 = T at *
      clear e0 e1 e2 e3 e4 e5 e6 e7 e8 e9 e10 cR c14
      refine wpIn_wide.2 ?_
      have cl : wo.cell? ⟨T, 0, none⟩ = some (.int .u8 (x.st.ld : Int)) := hY1.cell 0
      have hfr := four_run2 T
      have hby : Byt wo (some ⟨T, 2, none⟩) 4 [x.st.cs 0, x.st.cs 1, x.st.cs 2, x.c] := four_byt2 hY1 rfl rfl rfl rfl (by have := hxo.1.cs 0; omega) (by have := hxo.1.cs 1; omega) (by have := hxo.1.cs 2; omega) (by have := hxo.2; omega)
      have HSE := Lib.hid (fun (w1 : World) (hb : Below wo.heap.size wo w1) => trick_Seat p.dn x.st.ld (some ⟨T, 2, none⟩) 4 4 _ w1 (hby.below (Nat.le_refl _) hb))
      obtain ⟨sv, hsv⟩ : ∃ sv, sv = seatV p.dn x.st.ld [x.st.cs 0, x.st.cs 1, x.st.cs 2, x.c] := ⟨_, rfl⟩
      rw [← hsv] at HSE
      have HSV := Lib.hid hsv
      clear hsv hby
      have hb0 := (Below.refl wo.heap.size wo).drew
      go_cut [] from 6 to 50 (fun wx => ∃ w9, Below wo.heap.size wo w9 ∧ wx = w9.setCell ⟨T, 1, none⟩ (.int .u8 (sv.1 : Int)))
      case first =>
        go_region_law (first | (go_simp; go_at_call 32; refine (HSE.out _ hb0).mono ?_; rintro e w9 ⟨rfl, hb9⟩; have hY9 := hY1.below hY1.lt (hb0.trans hb9); have c11 : w9.cell? ⟨T, 1, none⟩ = some (.int .u8 0) := hY9.cell 1; have f11 := hY9.frozen 1))
        all_goals
          go_wp2_with fail
          go_meet
          case rel => exact ⟨w9, hb0.trans hb9, rfl⟩
      case rest =>
        obtain ⟨w9, hb9, rfl⟩ := hcut
        have hWs := hK.size
        have hY10 : Row (w9.setCell ⟨T, 1, none⟩ (.int .u8 (sv.1 : Int))) T 96 #[.int .u8 (x.st.ld : Int), .int .u8 (sv.1 : Int), .int .u8 (x.st.cs 0 : Int), .int .u8 (x.st.cs 1 : Int), .int .u8 (x.st.cs 2 : Int), .int .u8 (x.c : Int)] := (hY1.below hY1.lt hb9).set 1 _
        have hJ10 : J (fun b => G b ∨ b = T) (p.tkTo k) (w9.setCell ⟨T, 1, none⟩ (.int .u8 (sv.1 : Int))) := hJ.same (hJ.same hJo (Moves.of_below hb9)) (Moves.setCell _ (by omega) (.inr rfl))
        have hK10 : Kept S W (w9.setCell ⟨T, 1, none⟩ (.int .u8 (sv.1 : Int))) := (hKo.trans (Kept.of_below hb9)).setCell (fun h => by have := hS _ h; simp only at this; omega) _
        have hs10 : wo.heap.size ≤ (w9.setCell ⟨T, 1, none⟩ (.int .u8 (sv.1 : Int))).heap.size := by have := hb9.size; simpa using this
        have hnext : p.tkTo (k + 1) = p.tkTo k ++ [x.tk p.dn] := by
          have := HX.out
          rw [HQ.out] at this
          simp only [Ply.tkTo, this]
        have HNX := Lib.hid hnext
        have t0 := hY10.cell 0
        have t1 := hY10.cell 1
        have t2 := hY10.cell 2
        have t3 := hY10.cell 3
        have t4 := hY10.cell 4
        have t5 := hY10.cell 5
        simp only [List.getElem?_toArray, List.getElem?_cons_zero, List.getElem?_cons_succ] at t0 t1 t2 t3 t4 t5
        have hJl := hJ10
        generalize w9.setCell ⟨T, 1, none⟩ (.int .u8 (sv.1 : Int)) = w10 at *
        obtain ⟨fn, tmps, assign, body, hy, hYR⟩ := HY.out (fun b => G b ∨ b = T) (p.tkTo k) (x.tk p.dn) w10 hJ10 (fun b hb => by rcases hb with hb | hb; exact ⟨by have := (hGb b hb).1; omega, (hGb b hb).2⟩; subst hb; exact ⟨by omega, by omega⟩) (by
          rw [← hnext]
          unfold Ply.tks
          rw [← HN.out]
          have := tkTo_prefix p (k + 1) (N - (k + 1))
          rwa [show k + 1 + (N - (k + 1)) = N by omega] at this)
        have hxv : (#[.agg (Tk.cells (x.tk p.dn))] : Array Value) = #[.agg #[.int .u8 (x.st.ld : Int), .int .u8 (sv.1 : Int), .int .u8 (x.st.cs 0 : Int), .int .u8 (x.st.cs 1 : Int), .int .u8 (x.st.cs 2 : Int), .int .u8 (x.c : Int)]] := by
          rw [HSV.out]; rfl
        rw [hxv] at hy
        clear hxv hnext hJ10 hJl
        have HYR := Lib.hid hYR
        clear hYR
        gi_wp2
        refine HYR.out.mono ?_
        rintro e W3 ⟨rfl, hJ3, hG3, hB3⟩
        gi_wp2
        gi_roundg (N - (k + 1))
        case rel =>
          refine ⟨k + 1, q + 4, fun b => G b ∨ b = T, by omega, by omega, by have := HQ.out; omega, by go_num, ?_, fun b hb => ?_, hK10.trans hB3⟩
          · rw [HNX.out]; exact hJ3
          · have := hB3.size
            rcases hb with hb | hb
            · exact ⟨by have := (hGb b hb).1; omega, (hGb b hb).2⟩
            · subst hb; exact ⟨by omega, by omega⟩
        case measure => omega
    · have hql : ¬ q < p.steps.length := by omega
      have hqB : decide ((q : Int) < (p.steps.length : Int)) = false := by rw [decide_eq_false_iff_not]; omega
      have hqN : decide (q < p.steps.length) = false := by rw [decide_eq_false_iff_not]; omega
      have hkN : k = N := by omega
      have HN := Lib.hid hN
      have HK := Lib.hid hkN
      have HQ := Lib.hid hq
      clear hN hkN hq
      gi_wp2
      go_end0
      exact ⟨⟨_, rfl⟩, G, by unfold Ply.tks; rw [← HN.out, ← HK.out]; exact hJr⟩
end Go.Proofs.YtginbellakkliaaDoor
