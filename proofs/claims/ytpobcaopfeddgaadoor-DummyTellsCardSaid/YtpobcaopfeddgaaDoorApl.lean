/- Slices that the call owns, of elements of any fixed size: append, cells. -/
import Derived.Test.YtpobcaopfeddgaaDoorProg
import Derived.Test.YtpobcaopfeddgaaDoorFlat
import Derived.Test.YtpobcaopfeddgaaDoorTab
import Derived.Laws.AppendOwnNone
import Derived.ArgAppend
namespace Go.Proofs.YtpobcaopfeddgaaDoor
open Go.RowKit Go.Sort

/-- append(v, src...), v the call's own, src any cells -/
theorem appO {α : Type} {enc : α → List Value} {m : Nat} {T : TypeId} {w : World} {ops : Array Oper} {rest : List Oper} {o : Oper} {a : Act} {Q : Exit → Act → World → Prop} (hgd : o.guard = none) (s x : Operand) (TS : TypeId)
    (ho : o.op = .call { callee := .builtin .append, args := #[s, x], argTypes := #[TS, TS] })
    (hu : Tryd.prog.underlying TS = some (.slice T)) (z : Value) (bytes : Nat) (hinfo : (Tryd.prog.info? T).map (fun i => (i.zero, i.size, i.bytes)) = some (some z, m, bytes)) (hm0 : 0 < m) (hz : z.cells.size = m) (hb : bytes ≤ 1000000) (hone : ∀ x, ∀ u ∈ enc x, u.oneCell' = true)
    (base : Nat) (v : Value) (zs ys : List α) (hs : a.eval s = v) (hown : Owns enc m T w base v zs) (ad : Addr) (k c : Nat) (hx : a.eval x = .slice (some ad) k c) (hk : ys.length = k) (hy : ∀ j u, (ys.flatMap enc)[j]? = some u → w.cell? (ad.add j) = some u)
    (hbytes : zs.length + k ≤ 100000000) (hbase : base ≤ w.heap.size)
    (h : ∀ v' w', Owns enc m T w' base v' (zs ++ ys) → Below base w w' → w.grownBy w' v.ownBlock → (v'.ownBlock = v.ownBlock ∨ v'.ownBlock = some w.heap.size) → wpList Tryd.prog ops Q rest (a.put o.dst v') w') : wpList Tryd.prog ops Q (o :: rest) a w := by
  obtain ⟨i0, hi, hz0, hz1, hz2⟩ := info_parts hinfo
  have hbb : (zs.length + k) * bytes ≤ 140737488355328 := Nat.le_trans (Nat.mul_le_mul hbytes hb) (by decide)
  refine wpList_append_own_at _ hgd s x TS ho base T i0 z m bytes hu hi hz0 hz1 hz2 hz hm0 v zs.length (zs.flatMap enc) hs hown.2 ad k c (ys.flatMap enc) hx (by rw [flat_len hown.1, hk]) hy (fun u hu => by obtain ⟨y, _, h2⟩ := List.mem_flatMap.1 hu; exact hone y u h2) (by unfold maxLen; omega) hbb hbase ?_
  intro v' w' h1 h2 _ h3
  refine h v' w' ⟨hown.1, ?_⟩ ((Below.refl _ _).grown h2 hbase (fun k hk => (World.ownsRow.lt hown.2 k hk).1)) h2 h3
  rw [List.length_append, List.flatMap_append, hk]
  exact h1
theorem flat_take {α : Type} {enc : α → List Value} {m : Nat} (h : ∀ x, (enc x).length = m) : ∀ (l : List α) (k : Nat), (l.take k).flatMap enc = (l.flatMap enc).take (k * m)
  | [], k => by simp
  | x :: l, 0 => by simp
  | x :: l, k + 1 => by
    rw [List.take_succ_cons, List.flatMap_cons, List.flatMap_cons, flat_take h l k, Nat.succ_mul, List.take_append, h]
    rw [List.take_of_length_le (i := k * m + m) (l := enc x) (by rw [h]; omega), show k * m + m - m = k * m by omega]
/-- the beginning of a slice -/
theorem owns_shrink {α : Type} {enc : α → List Value} {m : Nat} {T : TypeId} {w : World} {base g n cap k : Nat} {l : List α} (h : Owns enc m T w base (.slice (some ⟨g, 0, none⟩) n cap) l) (hk : k ≤ l.length) : Owns enc m T w base (.slice (some ⟨g, 0, none⟩) k cap) (l.take k) := by
  obtain ⟨h1, h2, h3⟩ := h
  have hl : (l.take k).length = k := by rw [List.length_take, Nat.min_eq_left hk]
  refine ⟨h1, flat_len h1 _, ?_⟩
  rw [hl]
  rcases h3 with ⟨h, _⟩ | ⟨g', cap', cur, h, hb, hh, hn, hcm, hcs, ht⟩
  · cases h
  · simp only [Value.slice.injEq, Option.some.injEq, Addr.mk.injEq, and_true] at h
    obtain ⟨rfl, rfl, rfl⟩ := h
    refine .inr ⟨g, cap, cur, rfl, hb, hh, by omega, hcm, hcs, ?_⟩
    rw [flat_take h1, ← ht, List.take_take, Nat.min_eq_left (Nat.mul_le_mul_right _ hk)]
/-- append(v, src...), v the call's own; what v itself says stays -/
theorem appEO {α : Type} {enc : α → List Value} {m : Nat} {T : TypeId} {w : World} {ops : Array Oper} {rest : List Oper} {o : Oper} {a : Act} {Q : Exit → Act → World → Prop} (hgd : o.guard = none) (s x : Operand) (TS : TypeId)
    (ho : o.op = .call { callee := .builtin .append, args := #[s, x], argTypes := #[TS, TS] })
    (hu : Tryd.prog.underlying TS = some (.slice T)) (z : Value) (bytes : Nat) (hinfo : (Tryd.prog.info? T).map (fun i => (i.zero, i.size, i.bytes)) = some (some z, m, bytes)) (hm0 : 0 < m) (hz : z.cells.size = m) (hb : bytes ≤ 1000000) (hone : ∀ x, ∀ u ∈ enc x, u.oneCell' = true)
    (base : Nat) (v : Value) (zs ys : List α) (hs : a.eval s = v) (hown : Owns enc m T w base v zs) (ad : Addr) (k c : Nat) (hx : a.eval x = .slice (some ad) k c) (hk : ys.length = k) (hk0 : 0 < k) (hy : ∀ j u, (ys.flatMap enc)[j]? = some u → w.cell? (ad.add j) = some u)
    (hbytes : zs.length + k ≤ 100000000) (hbase : base ≤ w.heap.size)
    (h : ∀ v' w', Owns enc m T w' base v' (zs ++ ys) → Owns enc m T w' base v zs → w.grownBy w' v.ownBlock → ((v'.ownBlock = v.ownBlock ∧ v ≠ .slice none 0 0) ∨ ∃ g, v'.ownBlock = some g ∧ w.heap.size ≤ g) → wpList Tryd.prog ops Q rest (a.put o.dst v') w') : wpList Tryd.prog ops Q (o :: rest) a w := by
  obtain ⟨i0, hi, hz0, hz1, hz2⟩ := info_parts hinfo
  have hml : zs.length + k ≤ maxLen := by unfold maxLen; omega
  have hbb : (zs.length + k) * bytes ≤ 140737488355328 := Nat.le_trans (Nat.mul_le_mul hbytes hb) (by decide)
  have hone' : ∀ u ∈ ys.flatMap enc, u.oneCell' = true := fun u hu => by obtain ⟨y, _, h2⟩ := List.mem_flatMap.1 hu; exact hone y u h2
  have hyl : (ys.flatMap enc).length = k * m := by rw [flat_len hown.1, hk]
  have grow : ∀ (ao : Option Addr) (cap : Nat), v = .slice ao zs.length cap → (ao = none → zs.length = 0 ∧ cap = 0) → (∀ b, ao = some b → ∀ j u, (zs.flatMap enc)[j]? = some u → w.cell? (b.add j) = some u) → cap < zs.length + k → wpList Tryd.prog ops Q (o :: rest) a w := by
    intro ao cap hv hnone hcell hfull
    refine wpList_append_grows w hgd s x TS ho T i0 z m bytes hu hi hz0 hz1 hz2 hz hm0 ao zs.length cap (zs.flatMap enc) (by rw [hs, hv]) hnone (flat_len hown.1 _) hcell ad k c (ys.flatMap enc) hx hyl hy hone' hfull hml hbb ?_
    intro v' w' h1 h2
    have hown' : Owns enc m T w' w.heap.size v' (zs ++ ys) := ⟨hown.1, by rw [List.length_append, List.flatMap_append, hk]; exact h1⟩
    refine h v' w' (hown'.mono hbase) (Owns.kept hown h2 (.inr rfl)) ⟨h2.os, h2.tape, h2.output, h2.size, fun k hk _ => h2.block k hk (by simp)⟩ (.inr ?_)
    rcases hown'.form with ⟨_, he⟩ | ⟨g, c', hv', hg, _⟩
    · have := (List.append_eq_nil_iff.1 he).2
      rw [this] at hk
      simp at hk; omega
    · exact ⟨g, by rw [hv']; rfl, hg⟩
  rcases hown.form with ⟨hv, hz⟩ | ⟨g, cap, hv, hg, hgs, hlc, hcm⟩
  · subst hz
    exact grow none 0 hv (fun _ => ⟨rfl, rfl⟩) (fun b h => by cases h) (by simp; exact hk0)
  · by_cases hfit : zs.length + k ≤ cap
    · have hown0 := hown
      rw [hv] at hown
      refine wpList_append_fits w hgd s x TS ho base T i0 m hu hi hz1 g zs.length cap (zs.flatMap enc) (by rw [hs, hv]) hown.2 ad k c (ys.flatMap enc) hx hyl hy hone' hfit ?_
      intro w' h1 h2
      have hown' : Owns enc m T w' base (.slice (some ⟨g, 0, none⟩) (zs.length + k) cap) (zs ++ ys) := ⟨hown.1, by rw [List.length_append, List.flatMap_append, hk]; exact h1⟩
      have hsh := owns_shrink hown' (k := zs.length) (by rw [List.length_append]; omega)
      rw [List.take_left] at hsh
      exact h _ w' hown' (by rw [hv]; exact hsh) (by rw [hv]; exact h2) (.inl ⟨by rw [hv]; rfl, by rw [hv]; intro e; cases e⟩)
    · refine grow (some ⟨g, 0, none⟩) cap hv (fun h => by cases h) (fun b hb j u hu => ?_) (by omega)
      have hb := (Option.some.inj hb).symm
      subst hb
      have hj : j < zs.length * m := by have := (List.getElem?_eq_some_iff.1 hu).1; rwa [flat_len hown.1] at this
      rw [hv] at hown
      have := World.ownsRow.cellAt hown.2 j hj
      rw [hu] at this
      rw [← this]
      unfold Addr.add
      split
      · rename_i h0; rw [h0]
      · simp
/-- one element in a new block -/
theorem one_new {α : Type} {enc : α → List Value} (w : World) (x : α) (cs : Array Value) (hc : cs.toList = enc x) (T : TypeId) : ∀ j u, (([x] : List α).flatMap enc)[j]? = some u → (w.alloc (.cells cs T)).cell? ((⟨w.heap.size, 0, none⟩ : Addr).add j) = some u := by
  intro j u hu
  have hu : (enc x)[j]? = some u := by simpa using hu
  rw [← hc] at hu
  have := cells_new w cs.toList T j u hu
  simpa using this

end Go.Proofs.YtpobcaopfeddgaaDoor
