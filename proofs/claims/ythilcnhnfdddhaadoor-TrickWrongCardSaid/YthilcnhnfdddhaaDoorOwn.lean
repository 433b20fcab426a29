/- Slices of bytes that a call makes itself: what append comes to, as laws of the walk. -/
import Derived.Test.YthilcnhnfdddhaaDoorLawA
import Derived.Laws.AppendOwnNone
import Derived.ArgAppend
namespace Go.Proofs.YthilcnhnfdddhaaDoor
open Go.RowKit Go.Shelf Go.Sort

/-- v is a slice of the call's own (in blocks from base on) that reads as zs -/
def OwnB (w : World) (base : Nat) (v : Value) (zs : List Nat) : Prop := w.ownsRow base 5 1 v zs.length (u8s zs)
theorem u8s_length (zs : List Nat) : (u8s zs).length = zs.length := by simp [u8s]
theorem u8s_append (zs ys : List Nat) : u8s (zs ++ ys) = u8s zs ++ u8s ys := by simp [u8s]
theorem OwnB.alloc {w : World} {base : Nat} {v : Value} {zs : List Nat} (h : OwnB w base v zs) (o : Obj) : OwnB (w.alloc o) base v zs := World.ownsRow.alloc h o
theorem OwnB.drew {w : World} {base : Nat} {v : Value} {zs : List Nat} (h : OwnB w base v zs) : OwnB w.drew base v zs := h
theorem OwnB.nil (w : World) (base : Nat) : OwnB w base (.slice none 0 0) [] := World.ownsRow_nil _ _ _ _
theorem OwnB.below {w w' : World} {base : Nat} {v : Value} {zs : List Nat} (h : OwnB w base v zs) (hb : Below w.heap.size w w') : OwnB w' base v zs := by
  obtain ⟨h1, ⟨rfl, h2⟩ | ⟨g, cap, cur, rfl, hg, hh, hc, hm, hcs, ht⟩⟩ := h
  · exact ⟨h1, .inl ⟨rfl, h2⟩⟩
  · exact ⟨h1, .inr ⟨g, cap, cur, rfl, hg, (hb.block g (Array.getElem?_eq_some_iff.1 hh).1).trans hh, hc, hm, hcs, ht⟩⟩
theorem OwnB.mono {w : World} {base base' : Nat} {v : Value} {zs : List Nat} (h : OwnB w base v zs) (hb : base' ≤ base) : OwnB w base' v zs := by
  obtain ⟨h1, ⟨rfl, h2⟩ | ⟨g, cap, cur, rfl, hg, hh, hc, hm, hcs, ht⟩⟩ := h
  · exact ⟨h1, .inl ⟨rfl, h2⟩⟩
  · exact ⟨h1, .inr ⟨g, cap, cur, rfl, Nat.le_trans hb hg, hh, hc, hm, hcs, ht⟩⟩
theorem OwnB.byt {w : World} {base : Nat} {v : Value} {zs : List Nat} (h : OwnB w base v zs) (hs : zs.length ≤ 140737488351232) (hb : ∀ i, zs.getD i 0 < 256) :
    ∃ a cap, v = .slice a zs.length cap ∧ (a = none → cap = 0) ∧ Byt w a zs.length zs := by
  have h' := h
  obtain ⟨h1, ⟨rfl, h2⟩ | ⟨g, cap, cur, rfl, hg, hh, hc, hm, hcs, ht⟩⟩ := h
  · obtain ⟨a, cap, h3, h4⟩ := byt_of_owns h' hs hb
    injection h3 with h5 h6 h7
    subst h5; subst h7
    exact ⟨none, 0, by rw [h6], fun _ => rfl, h4⟩
  · obtain ⟨a, cap, h3, h4⟩ := byt_of_owns h' hs hb
    injection h3 with h5 h6 h7
    subst h5; subst h7
    exact ⟨_, _, rfl, (fun h => by cases h), h4⟩
theorem byt_cells {w : World} {a : Option Addr} {len : Nat} {zs : List Nat} (h : Byt w a len zs) (ad : Addr) (ha : a = some ad) (j : Nat) (u : Value) (hu : (u8s zs)[j]? = some u) : w.cell? (ad.add j) = some u := by
  have hj : j < zs.length := by
    have := (List.getElem?_eq_some_iff.1 hu).1; rwa [u8s_length] at this
  obtain ⟨b, off, ha', hb, hc⟩ := h.at (by have := h.length; omega)
  rw [ha] at ha'
  injection ha' with ha'
  subst ha'
  have e : u = .int .u8 ((zs.getD j 0 : Nat) : Int) := by
    unfold u8s at hu
    rw [List.getElem?_map, List.getElem?_eq_getElem hj] at hu
    rw [List.getD_eq_getElem?_getD, List.getElem?_eq_getElem hj]
    simpa using hu.symm
  rw [e, ← hc j (by have := h.length; omega)]
  by_cases h0 : j = 0
  · subst h0; simp [Addr.add]
  · simp [Addr.add, h0]
theorem u8s_one (zs : List Nat) : ∀ u ∈ u8s zs, u.oneCell' = true := by
  intro u hu
  unfold u8s at hu
  obtain ⟨z, _, rfl⟩ := List.mem_map.1 hu
  rfl
theorem OwnB.own_lt {w : World} {base : Nat} {v : Value} {zs : List Nat} (h : OwnB w base v zs) : ∀ k, v.ownBlock = some k → base ≤ k := fun k hk => (World.ownsRow.lt h k hk).1

/-- append(v, src...), v the call's own -/
theorem app_any {w : World} {ops : Array Oper} {rest : List Oper} {o : Oper} {a : Act} {Q : Exit → Act → World → Prop} (hgd : o.guard = none) (s x : Operand)
    (ho : o.op = .call { callee := .builtin .append, args := #[s, x], argTypes := #[23, 23] })
    (base : Nat) (v : Value) (zs ys : List Nat) (hs : a.eval s = v) (hown : OwnB w base v zs) (ao : Option Addr) (m c : Nat) (hx : a.eval x = .slice ao m c) (hy : Byt w ao m ys) (hnil : ao = none → c = 0)
    (hbytes : zs.length + m ≤ 140737488355328) (hbase : base ≤ w.heap.size)
    (h : ∀ v' w', OwnB w' base v' (zs ++ ys) → Below base w w' → w.grownBy w' v.ownBlock → wpList Tryd.prog ops Q rest (a.put o.dst v') w') : wpList Tryd.prog ops Q (o :: rest) a w := by
  obtain ⟨i0, hi, hz0, hz1, hz2⟩ := info_parts info_u8
  have hl := hy.length
  cases ao with
  | none =>
    have hm0 : m = 0 := by
      rcases hy.cells with h | ⟨b, off, h, _⟩
      · exact h
      · cases h
    subst hm0
    have hc0 := hnil rfl
    subst hc0
    have hy0 : ys = [] := List.eq_nil_of_length_eq_zero hl
    subst hy0
    refine wpList_append_own_none hgd s x 23 ho base 5 i0 1 Tryd.underlying23 hi v zs.length (u8s zs) hs hown hx ?_
    exact h v w (by rw [List.append_nil]; exact hown) (Below.refl _ _) ⟨rfl, rfl, rfl, Nat.le_refl _, fun _ _ _ => rfl⟩
  | some ad =>
    refine wpList_append_own _ hgd s x 23 ho base 5 i0 (.int .u8 0) 1 1 Tryd.underlying23 hi hz0 hz1 hz2 rfl (by decide) v zs.length (u8s zs) hs hown ad m c (u8s ys) hx (by rw [u8s_length, hl]; omega) (byt_cells hy ad rfl) (u8s_one ys) (by unfold maxLen; omega) (by omega) hbase ?_
    intro v' w' h1 h2 _
    refine h v' w' ?_ ((Below.refl _ _).grown h2 hbase hown.own_lt) h2
    unfold OwnB
    rw [List.length_append, u8s_append, hl]
    exact h1
theorem OwnB.bytc {w : World} {base : Nat} {v : Value} {zs : List Nat} (h : OwnB w base v zs) (hs : zs.length ≤ 140737488351232) (hb : ∀ i, zs.getD i 0 < 256) :
    ∃ a cap, v = .slice a zs.length cap ∧ (a = none → cap = 0) ∧ zs.length ≤ cap ∧ Byt w a zs.length zs := by
  have h' := h
  obtain ⟨h1, ⟨rfl, h2⟩ | ⟨g, cap, cur, rfl, hg, hh, hc, hm, hcs, ht⟩⟩ := h
  · obtain ⟨a, cap, h3, h4, h5⟩ := h'.byt hs hb
    exact ⟨a, cap, h3, h4, by omega, h5⟩
  · obtain ⟨a, cap, h3, h4, h5⟩ := h'.byt hs hb
    refine ⟨a, cap, h3, h4, ?_, h5⟩
    injection h3 with h6 h7 h8
    omega
theorem OwnB.made0 (w : World) (base : Nat) (h : base ≤ w.heap.size) : OwnB (w.alloc (.cells #[] 5)) base (.slice (some ⟨w.heap.size, 0, none⟩) 0 0) [] :=
  World.ownsRow_made w #[] 0 h (by unfold maxLen; omega) rfl
/-- one byte in a new block -/
theorem byt_one (w : World) (c : Nat) (hc : c < 256) : Byt (w.alloc (.cells #[.int .u8 (c : Int)] 5)) (some ⟨w.heap.size, 0, none⟩) 1 [c] :=
  byt_lit w [c] #[.int .u8 (c : Int)] rfl (by simp) (by intro i; rcases i with _ | _ <;> simp; exact hc)
end Go.Proofs.YthilcnhnfdddhaaDoor
