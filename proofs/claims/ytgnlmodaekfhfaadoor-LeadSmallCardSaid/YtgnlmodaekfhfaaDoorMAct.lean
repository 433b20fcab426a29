/- Acs, AplL, ActO in one text. -/
import Derived.Test.YtgnlmodaekfhfaaDoorLdQ
import Derived.Test.YtgnlmodaekfhfaaDoorProg
import Derived.Test.YtgnlmodaekfhfaaDoorFlat
import Derived.Test.YtgnlmodaekfhfaaDoorMem
import Derived.Laws.AppendOwnNone
import Derived.ArgAppend

/- Acts of finesselaw14 that came in, in memory. -/
namespace Go.Proofs.YtgnlmodaekfhfaaDoor
open Go.RowKit Go.Shelf Go.Sort

abbrev AcT.cells (a : AcT) : Array Value := #[.int .u8 (a.kind : Int), .int .u8 (a.seat : Int), .int .u8 (a.card : Int)]
structure AcT.ok (a : AcT) : Prop where
  kind : a.kind < 256
  seat : a.seat < 256
  card : a.card < 256
/-- acts that came in -/
structure Acts (w : World) (a : Option Addr) (len : Nat) (l : List AcT) : Prop where
  length : l.length = len
  small : len ≤ 562949953421312
  ok : ∀ (i : Nat) x, l[i]? = some x → x.ok
  cells : len = 0 ∨ ∃ b off, a = some ⟨b, off, none⟩ ∧ b < w.heap.size ∧ ∀ (i : Nat) x, l[i]? = some x → ∀ j, j < 3 → w.cell? ⟨b, off + i * 3 + j, none⟩ = x.cells[j]?
theorem Acts.kept {S : Nat → Prop} {w w' : World} {a : Option Addr} {len : Nat} {l : List AcT} (h : Acts w a len l) (hs : ∀ b, b < w.heap.size → (∃ ad, a = some ad ∧ ad.block = b) → S b) (hk : Kept S w w') : Acts w' a len l := by
  refine ⟨h.length, h.small, h.ok, ?_⟩
  rcases h.cells with h0 | ⟨b, off, rfl, hb, hc⟩
  · exact .inl h0
  · exact .inr ⟨b, off, rfl, Nat.lt_of_lt_of_le hb hk.size, fun i x hx j hj => (hk.cell (p := ⟨b, off + i * 3 + j, none⟩) (hs b hb ⟨_, rfl, rfl⟩) hb).trans (hc i x hx j hj)⟩
theorem Acts.below {w w' : World} {a : Option Addr} {len : Nat} {l : List AcT} (h : Acts w a len l) (hb : Below w.heap.size w w') : Acts w' a len l :=
  h.kept (S := fun _ => True) (fun _ _ _ => trivial) (Kept.of_below hb)
end Go.Proofs.YtgnlmodaekfhfaaDoor

/- Slices that the call owns, of elements of any fixed size: append, cells. -/
namespace Go.Proofs.YtgnlmodaekfhfaaDoor
open Go.RowKit Go.Sort

/-- append(v, src...), v the call's own, src any cells -/
theorem appO {α : Type} {enc : α → List Value} {m : Nat} {T : TypeId} {w : World} {ops : Array Oper} {rest : List Oper} {o : Oper} {a : Act} {Q : Exit → Act → World → Prop} (hgd : o.guard = none) (s x : Operand) (TS : TypeId)
    (ho : o.op = .call { callee := .builtin .append, args := #[s, x], argTypes := #[TS, TS] })
    (hu : Tryd.prog.underlying TS = some (.slice T)) (z : Value) (bytes : Nat) (hinfo : (Tryd.prog.info? T).map (fun i => (i.zero, i.size, i.bytes)) = some (some z, m, bytes)) (hm0 : 0 < m) (hz : z.cells.size = m) (hb : bytes ≤ 1000000) (hone : ∀ x, ∀ u ∈ enc x, u.oneCell' = true)
    (base : Nat) (v : Value) (zs ys : List α) (hs : a.eval s = v) (hown : Owns enc m T w base v zs) (ad : Addr) (k c : Nat) (hx : a.eval x = .slice (some ad) k c) (hk : ys.length = k) (hy : ∀ j u, (ys.flatMap enc)[j]? = some u → w.cell? (ad.add j) = some u)
    (hbytes : zs.length + k ≤ 100000000) (hbase : base ≤ w.heap.size)
    (h : ∀ v' w', Owns enc m T w' base v' (zs ++ ys) → Below base w w' → w.grownBy w' v.ownBlock → (v'.ownBlock = v.ownBlock ∨ v'.ownBlock = some w.heap.size) → wpList Tryd.prog ops Q rest (a.put o.dst v') w') : wpList Tryd.prog ops Q (o :: rest) a w := by
  obtain ⟨i0, hi, hz0, hz1, hz2⟩ := info_parts hinfo
  have hbb : (zs.length + k) * bytes ≤ 140737488355328 := Nat.le_trans (Nat.mul_le_mul hbytes hb) (by decide)
  refine wpList_append_own_at _ hgd s x TS ho base T i0 z m bytes hu hi hz0 hz1 hz2 hz hm0 v zs.length (zs.flatMap enc) hs hown.2 ad k c (ys.flatMap enc) hx (by rw [flat_len hown.1, hk]) hy (fun u hu => by obtain ⟨y, _, h2⟩ := List.mem_flatMap.1 hu; exact hone y u h2) (by unfold maxLen; omega) hbb hbase ?_
  intro v' w' h1 h2 _ h3
  refine h v' w' ⟨hown.1, ?_⟩ ((Below.refl _ _).grown h2 hbase (fun k hk => (World.ownsRow.lt hown.2 k hk).1)) h2 h3
  rw [List.length_append, List.flatMap_append, hk]
  exact h1
theorem flat_take {α : Type} {enc : α → List Value} {m : Nat} (h : ∀ x, (enc x).length = m) : ∀ (l : List α) (k : Nat), (l.take k).flatMap enc = (l.flatMap enc).take (k * m)
  | [], k => by simp
  | x :: l, 0 => by simp
  | x :: l, k + 1 => by
    rw [List.take_succ_cons, List.flatMap_cons, List.flatMap_cons, flat_take h l k, Nat.succ_mul, List.take_append, h]
    rw [List.take_of_length_le (i := k * m + m) (l := enc x) (by rw [h]; omega), show k * m + m - m = k * m by omega]
/-- the beginning of a slice -/
theorem owns_shrink {α : Type} {enc : α → List Value} {m : Nat} {T : TypeId} {w : World} {base g n cap k : Nat} {l : List α} (h : Owns enc m T w base (.slice (some ⟨g, 0, none⟩) n cap) l) (hk : k ≤ l.length) : Owns enc m T w base (.slice (some ⟨g, 0, none⟩) k cap) (l.take k) := by
  obtain ⟨h1, h2, h3⟩ := h
  have hl : (l.take k).length = k := by rw [List.length_take, Nat.min_eq_left hk]
  refine ⟨h1, flat_len h1 _, ?_⟩
  rw [hl]
  rcases h3 with ⟨h, _⟩ | ⟨g', cap', cur, h, hb, hh, hn, hcm, hcs, ht⟩
  · cases h
  · simp only [Value.slice.injEq, Option.some.injEq, Addr.mk.injEq, and_true] at h
    obtain ⟨rfl, rfl, rfl⟩ := h
    refine .inr ⟨g, cap, cur, rfl, hb, hh, by omega, hcm, hcs, ?_⟩
    rw [flat_take h1, ← ht, List.take_take, Nat.min_eq_left (Nat.mul_le_mul_right _ hk)]
/-- append(v, src...), v the call's own; what v itself says stays -/
theorem appEO {α : Type} {enc : α → List Value} {m : Nat} {T : TypeId} {w : World} {ops : Array Oper} {rest : List Oper} {o : Oper} {a : Act} {Q : Exit → Act → World → Prop} (hgd : o.guard = none) (s x : Operand) (TS : TypeId)
    (ho : o.op = .call { callee := .builtin .append, args := #[s, x], argTypes := #[TS, TS] })
    (hu : Tryd.prog.underlying TS = some (.slice T)) (z : Value) (bytes : Nat) (hinfo : (Tryd.prog.info? T).map (fun i => (i.zero, i.size, i.bytes)) = some (some z, m, bytes)) (hm0 : 0 < m) (hz : z.cells.size = m) (hb : bytes ≤ 1000000) (hone : ∀ x, ∀ u ∈ enc x, u.oneCell' = true)
    (base : Nat) (v : Value) (zs ys : List α) (hs : a.eval s = v) (hown : Owns enc m T w base v zs) (ad : Addr) (k c : Nat) (hx : a.eval x = .slice (some ad) k c) (hk : ys.length = k) (hk0 : 0 < k) (hy : ∀ j u, (ys.flatMap enc)[j]? = some u → w.cell? (ad.add j) = some u)
    (hbytes : zs.length + k ≤ 100000000) (hbase : base ≤ w.heap.size)
    (h : ∀ v' w', Owns enc m T w' base v' (zs ++ ys) → Owns enc m T w' base v zs → w.grownBy w' v.ownBlock → ((v'.ownBlock = v.ownBlock ∧ v ≠ .slice none 0 0) ∨ ∃ g, v'.ownBlock = some g ∧ w.heap.size ≤ g) → wpList Tryd.prog ops Q rest (a.put o.dst v') w') : wpList Tryd.prog ops Q (o :: rest) a w := by
  obtain ⟨i0, hi, hz0, hz1, hz2⟩ := info_parts hinfo
  have hml : zs.length + k ≤ maxLen := by unfold maxLen; omega
  have hbb : (zs.length + k) * bytes ≤ 140737488355328 := Nat.le_trans (Nat.mul_le_mul hbytes hb) (by decide)
  have hone' : ∀ u ∈ ys.flatMap enc, u.oneCell' = true := fun u hu => by obtain ⟨y, _, h2⟩ := List.mem_flatMap.1 hu; exact hone y u h2
  have hyl : (ys.flatMap enc).length = k * m := by rw [flat_len hown.1, hk]
  have grow : ∀ (ao : Option Addr) (cap : Nat), v = .slice ao zs.length cap → (ao = none → zs.length = 0 ∧ cap = 0) → (∀ b, ao = some b → ∀ j u, (zs.flatMap enc)[j]? = some u → w.cell? (b.add j) = some u) → cap < zs.length + k → wpList Tryd.prog ops Q (o :: rest) a w := by
    intro ao cap hv hnone hcell hfull
    refine wpList_append_grows w hgd s x TS ho T i0 z m bytes hu hi hz0 hz1 hz2 hz hm0 ao zs.length cap (zs.flatMap enc) (by rw [hs, hv]) hnone (flat_len hown.1 _) hcell ad k c (ys.flatMap enc) hx hyl hy hone' hfull hml hbb ?_
    intro v' w' h1 h2
    have hown' : Owns enc m T w' w.heap.size v' (zs ++ ys) := ⟨hown.1, by rw [List.length_append, List.flatMap_append, hk]; exact h1⟩
    refine h v' w' (hown'.mono hbase) (Owns.kept hown h2 (.inr rfl)) ⟨h2.os, h2.tape, h2.output, h2.size, fun k hk _ => h2.block k hk (by simp)⟩ (.inr ?_)
    rcases hown'.form with ⟨_, he⟩ | ⟨g, c', hv', hg, _⟩
    · have := (List.append_eq_nil_iff.1 he).2
      rw [this] at hk
      simp at hk; omega
    · exact ⟨g, by rw [hv']; rfl, hg⟩
  rcases hown.form with ⟨hv, hz⟩ | ⟨g, cap, hv, hg, hgs, hlc, hcm⟩
  · subst hz
    exact grow none 0 hv (fun _ => ⟨rfl, rfl⟩) (fun b h => by cases h) (by simp; exact hk0)
  · by_cases hfit : zs.length + k ≤ cap
    · have hown0 := hown
      rw [hv] at hown
      refine wpList_append_fits w hgd s x TS ho base T i0 m hu hi hz1 g zs.length cap (zs.flatMap enc) (by rw [hs, hv]) hown.2 ad k c (ys.flatMap enc) hx hyl hy hone' hfit ?_
      intro w' h1 h2
      have hown' : Owns enc m T w' base (.slice (some ⟨g, 0, none⟩) (zs.length + k) cap) (zs ++ ys) := ⟨hown.1, by rw [List.length_append, List.flatMap_append, hk]; exact h1⟩
      have hsh := owns_shrink hown' (k := zs.length) (by rw [List.length_append]; omega)
      rw [List.take_left] at hsh
      exact h _ w' hown' (by rw [hv]; exact hsh) (by rw [hv]; exact h2) (.inl ⟨by rw [hv]; rfl, by rw [hv]; intro e; cases e⟩)
    · refine grow (some ⟨g, 0, none⟩) cap hv (fun h => by cases h) (fun b hb j u hu => ?_) (by omega)
      have hb := (Option.some.inj hb).symm
      subst hb
      have hj : j < zs.length * m := by have := (List.getElem?_eq_some_iff.1 hu).1; rwa [flat_len hown.1] at this
      rw [hv] at hown
      have := World.ownsRow.cellAt hown.2 j hj
      rw [hu] at this
      rw [← this]
      unfold Addr.add
      split
      · rename_i h0; rw [h0]
      · simp
/-- one element in a new block -/
theorem one_new {α : Type} {enc : α → List Value} (w : World) (x : α) (cs : Array Value) (hc : cs.toList = enc x) (T : TypeId) : ∀ j u, (([x] : List α).flatMap enc)[j]? = some u → (w.alloc (.cells cs T)).cell? ((⟨w.heap.size, 0, none⟩ : Addr).add j) = some u := by
  intro j u hu
  have hu : (enc x)[j]? = some u := by simpa using hu
  rw [← hc] at hu
  have := cells_new w cs.toList T j u hu
  simpa using this

end Go.Proofs.YtgnlmodaekfhfaaDoor

/- Slices of acts that the call owns. -/
namespace Go.Proofs.YtgnlmodaekfhfaaDoor
open Go.RowKit Go.Shelf Go.Sort

abbrev encA (a : AcT) : List Value := [.int .u8 (a.kind : Int), .int .u8 (a.seat : Int), .int .u8 (a.card : Int)]
theorem encA_len (a : AcT) : (encA a).length = 3 := rfl
theorem encA_one : ∀ x : AcT, ∀ u ∈ encA x, u.oneCell' = true := by
  intro x u hu
  simp only [encA, List.mem_cons, List.not_mem_nil, or_false] at hu
  rcases hu with rfl | rfl | rfl <;> rfl
theorem info_act : (Tryd.prog.info? 41).map (fun i => (i.zero, i.size, i.bytes)) = some (some (.agg #[.int .u8 0, .int .u8 0, .int .u8 0]), 3, 3) := by kernel_rfl
abbrev OwnA (w : World) (base : Nat) (v : Value) (l : List AcT) : Prop := Owns encA 3 41 w base v l
theorem ownA_made0 (w : World) (base : Nat) (h : base ≤ w.heap.size) : OwnA (w.alloc (.cells #[] 41)) base (.slice (some ⟨w.heap.size, 0, none⟩) 0 0) [] :=
  ⟨encA_len, World.ownsRow_made w #[] 0 h (by unfold maxLen; omega) rfl⟩
theorem acts_row {w : World} {ad : Addr} {len : Nat} {l : List AcT} (h : Acts w (some ad) len l) {m : Nat} (hm : m ≤ len) (h0 : 0 < m) : ∀ j u, ((l.take m).flatMap encA)[j]? = some u → w.cell? (ad.add j) = some u := by
  intro j u hu
  obtain ⟨b, off, he, -, hc⟩ : ∃ b off, some ad = some ⟨b, off, none⟩ ∧ b < w.heap.size ∧ ∀ (i : Nat) x, l[i]? = some x → ∀ j, j < 3 → w.cell? ⟨b, off + i * 3 + j, none⟩ = x.cells[j]? := by
    rcases h.cells with h1 | h1
    · omega
    · exact h1
  injection he with he
  subst he
  have hl := h.length
  have hjl : j < m * 3 := by
    have := (List.getElem?_eq_some_iff.1 hu).1
    rw [flat_len encA_len, List.length_take, Nat.min_eq_left (by omega)] at this
    exact this
  have hk : j / 3 < l.length := by omega
  have hx : (l.take m)[j / 3]? = some l[j / 3] := by rw [List.getElem?_take_of_lt (by omega), List.getElem?_eq_getElem hk]
  have hf := flat_at encA_len (l.take m) (j / 3) (j % 3) (Nat.mod_lt _ (by decide)) hx
  rw [show j / 3 * 3 + j % 3 = j by omega, hu] at hf
  have := hc (j / 3) l[j / 3] (List.getElem?_eq_getElem hk) (j % 3) (Nat.mod_lt _ (by decide))
  rw [show off + j / 3 * 3 + j % 3 = off + j by omega] at this
  rw [Addr.add_lit, this, hf]
  rw [← Array.getElem?_toList]
/-- append to an own slice of acts -/
theorem appA {w : World} {ops : Array Oper} {rest : List Oper} {o : Oper} {a : Act} {Q : Exit → Act → World → Prop} (hgd : o.guard = none) (s x : Operand)
    (ho : o.op = .call { callee := .builtin .append, args := #[s, x], argTypes := #[25, 25] })
    (base : Nat) (v : Value) (zs ys : List AcT) (hs : a.eval s = v) (hown : OwnA w base v zs) (ad : Addr) (k c : Nat) (hx : a.eval x = .slice (some ad) k c) (hk : ys.length = k) (hy : ∀ j u, (ys.flatMap encA)[j]? = some u → w.cell? (ad.add j) = some u)
    (hbytes : zs.length + k ≤ 100000000) (hbase : base ≤ w.heap.size)
    (h : ∀ v' w', OwnA w' base v' (zs ++ ys) → Below base w w' → w.grownBy w' v.ownBlock → (v'.ownBlock = v.ownBlock ∨ v'.ownBlock = some w.heap.size) → wpList Tryd.prog ops Q rest (a.put o.dst v') w') : wpList Tryd.prog ops Q (o :: rest) a w :=
  appO hgd s x 25 ho Tryd.underlying25 _ 3 info_act (by decide) rfl (by decide) encA_one base v zs ys hs hown ad k c hx hk hy hbytes hbase h
end Go.Proofs.YtgnlmodaekfhfaaDoor
