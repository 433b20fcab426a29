/- Slices of ranges that a call made itself; contract of agree.Both over this seat's program. -/
import Derived.Test.YtikdkhiehfccpaaAgS0
import Derived.Laws.AppendOwnNone
import Derived.ArgAppend
import Derived.Maps.AppendAt
namespace Go.Proofs.Ytikdkhiehfccpaa
open Go.RowKit Go.Sort Go.Shelf Cnt

/-- the cells of a range -/
def encR (r : Rg) : List Value := [.int .i64 r.p0, .int .i64 r.p1, .int .i64 r.a0, .int .i64 r.a1, .int .i64 r.b0, .int .i64 r.b1, .int .i64 r.c0, .int .i64 r.c1, .int .i64 r.d0, .int .i64 r.d1]
theorem encR_len (r : Rg) : (encR r).length = 10 := rfl
theorem encR_get (r : Rg) (j : Nat) (hj : j < 10) : (encR r)[j]? = some (.int .i64 (r.cell j)) := by
  have : j = 0 ∨ j = 1 ∨ j = 2 ∨ j = 3 ∨ j = 4 ∨ j = 5 ∨ j = 6 ∨ j = 7 ∨ j = 8 ∨ j = 9 := by omega
  rcases this with rfl | rfl | rfl | rfl | rfl | rfl | rfl | rfl | rfl | rfl <;> rfl
def flatR (rs : List Rg) : List Value := rs.flatMap encR
theorem flatR_len (rs : List Rg) : (flatR rs).length = rs.length * 10 := by
  induction rs with
  | nil => rfl
  | cons r l ih => show (encR r ++ flatR l).length = _; rw [List.length_append, ih, encR_len, List.length_cons]; omega
theorem flatR_get : ∀ (rs : List Rg) (i j : Nat) (r : Rg), rs[i]? = some r → j < 10 → (flatR rs)[i * 10 + j]? = some (.int .i64 (r.cell j))
  | r :: l, 0, j, r', h, hj => by
    obtain rfl : r = r' := by simpa using h
    show (encR r ++ flatR l)[0 * 10 + j]? = _
    rw [List.getElem?_append_left (by rw [encR_len]; omega), show 0 * 10 + j = j by omega, encR_get r j hj]
  | r :: l, i + 1, j, r', h, hj => by
    show (encR r ++ flatR l)[(i + 1) * 10 + j]? = _
    rw [List.getElem?_append_right (by rw [encR_len]; omega), encR_len, show (i + 1) * 10 + j - 10 = i * 10 + j by omega]
    exact flatR_get l i j r' (by simpa using h) hj
theorem flatR_one (rs : List Rg) : ∀ u ∈ flatR rs, u.oneCell' = true := by
  intro u hu
  unfold flatR at hu
  obtain ⟨r, _, h⟩ := List.mem_flatMap.1 hu
  simp only [encR, List.mem_cons, List.mem_nil_iff, or_false] at h
  rcases h with rfl | rfl | rfl | rfl | rfl | rfl | rfl | rfl | rfl | rfl <;> rfl
/-- a slice of ranges of the call's own -/
def OwnR (w : World) (base : Nat) (v : Value) (rs : List Rg) : Prop := w.ownsRow base 73 10 v rs.length (flatR rs)
theorem OwnR.nil (w : World) (base : Nat) : OwnR w base (.slice none 0 0) [] := ⟨rfl, .inl ⟨rfl, rfl⟩⟩
theorem OwnR.rgs {w : World} {base : Nat} {v : Value} {rs : List Rg} (h : OwnR w base v rs) (hs : rs.length ≤ 100000) : ∃ a cap, v = .slice a rs.length cap ∧ Rgs w a rs.length rs ∧ rs.length ≤ cap ∧ (a = none → cap = 0) := by
  rcases h.2 with ⟨rfl, h0⟩ | ⟨g, cap, cur, rfl, hb, hg, hn, -, hsz, htk⟩
  · rw [h0]
    exact ⟨none, 0, rfl, ⟨h0, by omega, .inl rfl⟩, Nat.le_refl _, fun _ => rfl⟩
  · refine ⟨some ⟨g, 0, none⟩, cap, rfl, ⟨rfl, by omega, .inr ⟨g, 0, rfl, (Array.getElem?_eq_some_iff.1 hg).1, fun i r hr j hj => ?_⟩⟩, hn, fun e => by cases e⟩
    have h1 := flatR_get rs i j r hr hj
    have hi : i < rs.length := (List.getElem?_eq_some_iff.1 hr).1
    have e : World.cell? w ⟨g, 0 + i * 10 + j, none⟩ = cur[0 + i * 10 + j]? := by simp [World.cell?, hg]
    rw [e, Nat.zero_add]
    rw [← htk, List.getElem?_take_of_lt (by omega)] at h1
    simpa using h1
theorem OwnR.kept {w w' : World} {base : Nat} {v : Value} {rs : List Rg} (h : OwnR w base v rs) (hk : ∀ g, v.ownBlock = some g → w'.heap[g]? = w.heap[g]?) : OwnR w' base v rs := by
  refine ⟨h.1, ?_⟩
  rcases h.2 with h3 | ⟨g, cap, cur, rfl, h4, h5, h6⟩
  · exact .inl h3
  · exact .inr ⟨g, cap, cur, rfl, h4, (hk g rfl).trans h5, h6⟩
theorem OwnR.lt {w : World} {base : Nat} {v : Value} {rs : List Rg} (h : OwnR w base v rs) : ∀ g, v.ownBlock = some g → base ≤ g ∧ g < w.heap.size := by
  intro g he
  rcases h.2 with ⟨rfl, _⟩ | ⟨g', cap, cur, rfl, h4, h5, _⟩
  · simp [Value.ownBlock] at he
  · obtain rfl : g' = g := by simpa [Value.ownBlock] using he
    exact ⟨h4, (Array.getElem?_eq_some_iff.1 h5).1⟩
theorem OwnR.later {w w' : World} {base : Nat} {v : Value} {rs : List Rg} (h : OwnR w base v rs) (hb : Below w.heap.size w w') : OwnR w' base v rs :=
  h.kept fun g he => hb.block g (h.lt g he).2
theorem info_rg : (Try.prog.info? 73).map (fun i => (i.zero, i.size, i.bytes)) = some (some (Rg.v ⟨0, 0, 0, 0, 0, 0, 0, 0, 0, 0⟩), 10, 80) := by kernel_rfl
theorem rgs_row {w : World} {a : Option Addr} {len : Nat} {rs : List Rg} (h : Rgs w a len rs) (ad : Addr) (ha : a = some ad) (j : Nat) (u : Value) (hu : (flatR rs)[j]? = some u) : w.cell? (ad.add j) = some u := by
  have hj : j < rs.length * 10 := by
    have := (List.getElem?_eq_some_iff.1 hu).1; rwa [flatR_len] at this
  obtain ⟨r, hr⟩ : ∃ r, rs[j / 10]? = some r := ⟨_, List.getElem?_eq_getElem (by omega)⟩
  have h1 := flatR_get rs (j / 10) (j % 10) r hr (by omega)
  rw [show j / 10 * 10 + j % 10 = j by omega, hu] at h1
  rcases h.cells with h0 | ⟨b, off, ha', hb, hc⟩
  · have := h.length; omega
  · rw [ha] at ha'
    injection ha' with ha'
    subst ha'
    have h2 := hc (j / 10) r hr (j % 10) (by omega)
    rw [show off + j / 10 * 10 + j % 10 = off + j by omega, ← h1] at h2
    rw [← h2]
    by_cases h0 : j = 0
    · subst h0; simp [Addr.add]
    · simp [Addr.add, h0]
/-- append(v, src...), v the call's own -/
theorem appR {w : World} {ops : Array Oper} {rest : List Oper} {o : Oper} {a : Act} {Q : Exit → Act → World → Prop} (hgd : o.guard = none) (s x : Operand)
    (ho : o.op = .call { callee := .builtin .append, args := #[s, x], argTypes := #[27, 27] })
    (base : Nat) (v : Value) (zs ys : List Rg) (hs : a.eval s = v) (hown : OwnR w base v zs) (ad : Addr) (m c : Nat) (hx : a.eval x = .slice (some ad) m c) (hy : Rgs w (some ad) m ys)
    (hbytes : zs.length + m ≤ 100000) (hbase : base ≤ w.heap.size)
    (h : ∀ v' w', OwnR w' base v' (zs ++ ys) → Below base w w' → w.grownBy w' v.ownBlock → (v'.ownBlock = v.ownBlock ∨ v'.ownBlock = some w.heap.size) → wpList Try.prog ops Q rest (a.put o.dst v') w') : wpList Try.prog ops Q (o :: rest) a w := by
  obtain ⟨i0, hi, hz0, hz1, hz2⟩ := info_parts info_rg
  have hl := hy.length
  refine wpList_append_own_at _ hgd s x 27 ho base 73 i0 _ 10 80 Try.underlying27 hi hz0 hz1 hz2 rfl (by decide) v zs.length (flatR zs) hs hown ad m c (flatR ys) hx (by rw [flatR_len, hl]) (rgs_row hy ad rfl) (flatR_one ys) (by unfold maxLen; omega) (by omega) hbase ?_
  intro v' w' h1 h2 _ h3
  refine h v' w' ?_ ((Below.refl _ _).grown h2 hbase (fun k hk => (hown.lt k hk).1)) h2 h3
  unfold OwnR
  rw [List.length_append, show flatR (zs ++ ys) = flatR zs ++ flatR ys from List.flatMap_append, hl]
  exact h1
/-- one range in a new block -/
theorem rgs_new1 (w : World) (r : Rg) : Rgs (w.alloc (.cells r.arr 73)) (some ⟨w.heap.size, 0, none⟩) 1 [r] :=
  ⟨rfl, by decide, .inr ⟨w.heap.size, 0, rfl, by simp, fun i r' hr j hj => by
    obtain ⟨rfl, rfl⟩ : i = 0 ∧ r' = r := by
      rcases i with _ | i
      · simp at hr; exact ⟨rfl, hr.symm⟩
      · simp at hr
    simp only [World.cell?, World.alloc_heap_new]
    have := encR_get r' j hj
    simpa [encR] using this⟩⟩
/-- what Both gathers -/
def bothR (q : List Rg) (r : Rg) : List Rg := (q.map r.join).filter Rg.ok
def bothL (ra rb : List Rg) : List Rg := ra.flatMap (bothR rb)
theorem bothR_len (q : List Rg) (r : Rg) : (bothR q r).length ≤ q.length := by
  unfold bothR; exact Nat.le_trans (List.length_filter_le _ _) (by simp)
theorem bothL_len (ra rb : List Rg) : (bothL ra rb).length ≤ ra.length * rb.length := by
  induction ra with
  | nil => simp [bothL]
  | cons r l ih => 
    have h1 := bothR_len rb r
    show (bothR rb r ++ bothL l rb).length ≤ _
    rw [List.length_append, List.length_cons, Nat.succ_mul]
    omega
theorem bothR_take_succ {q : List Rg} {j : Nat} {x r : Rg} (hx : q[j]? = some x) : bothR (q.take (j + 1)) r = bothR (q.take j) r ++ (if (r.join x).ok then [r.join x] else []) := by
  unfold bothR
  rw [List.take_add_one, hx]
  simp only [Option.toList_some, List.map_append, List.map_cons, List.map_nil, List.filter_append, List.filter_cons, List.filter_nil]
theorem bothL_take_succ {ra rb : List Rg} {k : Nat} {r : Rg} (hr : ra[k]? = some r) : bothL (ra.take (k + 1)) rb = bothL (ra.take k) rb ++ bothR rb r := by
  unfold bothL
  rw [List.take_add_one, hr]
  simp
end Go.Proofs.Ytikdkhiehfccpaa
