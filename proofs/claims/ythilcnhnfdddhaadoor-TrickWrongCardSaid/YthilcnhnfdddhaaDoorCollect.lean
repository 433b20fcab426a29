/- Contracts of slices.AppendSeq and slices.Collect at trick.cards over this seat's program. -/
import Derived.Test.YthilcnhnfdddhaaDoorRange
import Derived.Maps.AppendAt
namespace Go.Proofs.YthilcnhnfdddhaaDoor
open Go.RowKit Go.Shelf Go.Sort
attribute [local go_sem] Oper.semAt_some

def u8s (zs : List Nat) : List Value := zs.map fun (z : Nat) => Value.int .u8 (z : Int)
/-- A call hands back a slice of its own that reads as zs. -/
def Owned (w : World) (zs : List Nat) (e : Ending) (w' : World) : Prop := ∃ v, e = .returned v ∧ w'.ownsRow w.heap.size 5 1 v zs.length (u8s zs) ∧ Below w.heap.size w w'

theorem info_u8 : (Tryd.prog.info? 5).map (fun i => (i.zero, i.size, i.bytes)) = some (some (.int .u8 0), 1, 1) := by kernel_rfl

def vals (l : List (Fin 64)) : List Nat := l.map (·.val)

theorem byt_of_owns {w : World} {base : Nat} {v : Value} {zs : List Nat} (h : w.ownsRow base 5 1 v zs.length (u8s zs)) (hs : zs.length ≤ 140737488351232) (hb : ∀ i, zs.getD i 0 < 256) :
    ∃ a cap, v = .slice a zs.length cap ∧ Byt w a zs.length zs := by
  obtain ⟨h1, ⟨rfl, h2⟩ | ⟨g, cap, cur, rfl, hg, hh, hc, hm, hcs, ht⟩⟩ := h
  · refine ⟨none, 0, by rw [h2], rfl, hs, hb, .inl h2⟩
  · refine ⟨some ⟨g, 0, none⟩, cap, rfl, rfl, hs, hb, .inr ⟨g, 0, rfl, (Array.getElem?_eq_some_iff.1 hh).1, fun i hi => ?_⟩⟩
    have e1 : (u8s zs)[i]? = some (.int .u8 ((zs.getD i 0 : Nat) : Int)) := by
      unfold u8s; rw [List.getElem?_map, List.getD_eq_getElem?_getD, List.getElem?_eq_getElem hi]; rfl
    rw [← ht, List.getElem?_take, if_pos (by omega)] at e1
    simp only [World.cell?, hh]
    simpa using e1

theorem append_seq (Bm m : Nat) (w : World) (hm : W64 m) (hc : w.cell? ⟨Bm, 0, none⟩ = some (.int .u64 (m : Int))) (hT : Tab w) :
    Calls Tryd.prog 59 #[.slice none 0 0, .func (.func 57) #[] #[.pointer (some ⟨Bm, 0, none⟩)]] w (Owned w (vals (bitsList m))) := by
  obtain ⟨i0, hi, hz0, hz1, hz2⟩ := info_parts info_u8
  have hBm := block_lt_of_cell hc
  refine (callsIn_wide (n := 9)).1 (callsIn_of_wp_marks Tryd.func59 rfl trivial ?_)
  simp only [Tryd.ntmps59, List.size_toArray, List.length_cons, List.length_nil, Nat.reduceAdd, Nat.reduceSub, Array.replicate_succ, Array.replicate_zero, List.push_toArray, List.append_toArray, List.nil_append, List.cons_append]
  gi_wp2
  have hB0 : Below w.heap.size w (w.alloc (.cells #[.slice none 0 0] 23)) := (Below.refl _ w).alloc (Nat.le_refl _) _
  have bO := Boxed.new w 23 (.slice none 0 0)
  refine range_cards Bm w.heap.size m (by decide) rfl (by simp) hm ((hB0.cell (p := ⟨Bm, 0, none⟩) hBm).trans hc) (hT.below hT.pos hB0) hT.pos hB0.size
    (fun pre W => (∃ v, Boxed W w.heap.size 23 v ∧ W.ownsRow w.heap.size 5 1 v (vals pre).length (u8s (vals pre)) ∧ True) ∧ Below w.heap.size w W)
    (fun _ _ _ => False)
    (OwnFrom.and (Own.from (holdsRow_own w.heap.size w.heap.size 23 5 1 (fun pre => (vals pre).length) (fun pre => u8s (vals pre)) (fun _ _ => True)) _) (ownFrom_below (Nat.le_refl _) hB0.size))
    (fun _ _ _ _ _ h _ _ => h) ⟨⟨_, bO, World.ownsRow_nil _ _ _ _, trivial⟩, hB0⟩ ?body ?done (fun _ _ _ _ _ _ h _ => h.elim)
  case body =>
    rintro l pre x W ⟨⟨v, hv, hrow, -⟩, hB⟩ hlt
    simp only [inFrame, List.setIfInBounds_toArray, List.set]
    have hc := hv.cell
    have hpl : (vals pre).length < 64 := by simpa [vals] using hlt
    have hsn : u8s (vals (pre ++ [x])) = u8s (vals pre) ++ [.int .u8 (x.val : Int)] := by simp [vals, u8s]
    have hsl : (vals (pre ++ [x])).length = (vals pre).length + 1 := by simp [vals]
    have HSN := Lib.hid hsn
    have HSL := Lib.hid hsl
    clear hsn hsl
    gi_wp2_with (gi_at_builtin; refine wpListIn_append_own _ rfl _ _ 23 rfl w.heap.size 5 i0 (.int .u8 0) 1 1 Tryd.underlying23 hi hz0 hz1 hz2 rfl (by decide) _ _ _ rfl (hrow.alloc _) ⟨W.heap.size, 0, none⟩ 1 1 [.int .u8 (x.val : Int)] rfl rfl (cell_one_new _ _ _) (by simp [Value.oneCell']) (by unfold maxLen; omega) (by omega) (by have := hB.size; simp; omega) ?_; intro v' w1 hown' hgrow _; obtain ⟨g', cap', rfl⟩ := ownsRow_succ hown'; obtain ⟨hv1, hv2, hr2, hk2, hb2⟩ := hv.appended (by decide) hrow hB.size (Nat.le_refl _) hown' hgrow; have hc1 := hv1.cell; have hf1 := hv1.frozen)
    exact ⟨hk2.from _, hb2, ⟨_, hv2, by rw [HSN.out, HSL.out]; exact hr2, trivial⟩, hB.trans hb2⟩
  case done =>
    rintro D W hD ⟨⟨v, hv, hrow, -⟩, hB⟩ hK
    have hc := hv.cell
    gi_wp2
    refine ⟨by simp, .inl ⟨_, _, rfl, run_takeDeferred hK, ?_⟩⟩
    exact ⟨_, results_tmp rfl _ _ _, v, rfl, ownsRow_putObj hrow _ hK rfl, hB.trans (belowK_b (w := w) (Nat.le_refl _) W D _ _ (by simp at hD; omega) hK rfl rfl)⟩

theorem slices_collect (Bm m : Nat) (w : World) (hm : W64 m) (hc : w.cell? ⟨Bm, 0, none⟩ = some (.int .u64 (m : Int))) (hT : Tab w) :
    Calls Tryd.prog 48 #[.func (.func 57) #[] #[.pointer (some ⟨Bm, 0, none⟩)]] w (Owned w (vals (bitsList m))) := by
  go_enter Tryd.func48, Tryd.ntmps48
  go_wp2_with (go_at_call 59; refine (append_seq Bm m _ hm hc hT).mono ?_; rintro e w' ⟨v, rfl, hv, hB⟩)
  go_ret
  exact ⟨_, rfl, hv, hB⟩
end Go.Proofs.YthilcnhnfdddhaaDoor
