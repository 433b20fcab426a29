/- Blocks known whole, slices that own bytes, and append on them (printed by wip/genmem.py). -/
import Derived.Test.YtginbellakkliaaDoorMTrick
import Derived.Test.YtginbellakkliaaDoorMLow
import Derived.Test.YtginbellakkliaaDoorGen
import Derived.Laws.AppendOwnNone
import Derived.ArgAppend
namespace Go.Proofs.YtginbellakkliaaDoor
open Go.RowKit Go.Shelf Go.Sort

/-- a block known whole -/
def Row (W : World) (B : Nat) (t : TypeId) (c : Array Value) : Prop := W.heap[B]? = some (.cells c t (0, 0))
theorem Row.lt {W : World} {B : Nat} {t : TypeId} {c : Array Value} (h : Row W B t c) : B < W.heap.size := (Array.getElem?_eq_some_iff.1 h).1
theorem Row.cell {W : World} {B : Nat} {t : TypeId} {c : Array Value} (h : Row W B t c) (i : Nat) : W.cell? ⟨B, i, none⟩ = c[i]? := by
  simp [World.cell?, show W.heap[B]? = _ from h]
theorem Row.frozen {W : World} {B : Nat} {t : TypeId} {c : Array Value} (h : Row W B t c) (i : Nat) : W.frozen? ⟨B, i, none⟩ = false := by
  simp [World.frozen?, show W.heap[B]? = _ from h]
theorem Row.new (W : World) (t : TypeId) (c : Array Value) : Row (W.alloc (.cells c t)) W.heap.size t c := World.alloc_heap_new W _
theorem Row.same {W W' : World} {B : Nat} {t : TypeId} {c : Array Value} (h : Row W B t c) (e : W'.heap[B]? = W.heap[B]?) : Row W' B t c := e.trans h
theorem Row.below {W W' : World} {B n : Nat} {t : TypeId} {c : Array Value} (h : Row W B t c) (hn : B < n) (hb : Below n W W') : Row W' B t c := h.same (hb.block B hn)
theorem Row.kept {W W' : World} {B : Nat} {S : Nat → Prop} {t : TypeId} {c : Array Value} (h : Row W B t c) (hs : S B) (hk : Kept S W W') : Row W' B t c := h.same (hk.block B hs h.lt)
theorem Row.alloc {W : World} {B : Nat} {t : TypeId} {c : Array Value} (h : Row W B t c) (o : Obj) : Row (W.alloc o) B t c := h.same (Below.heap_alloc W o B h.lt)
theorem Row.set {W : World} {B : Nat} {t : TypeId} {c : Array Value} (h : Row W B t c) (i : Nat) (v : Value) : Row (W.setCell ⟨B, i, none⟩ v) B t (c.setIfInBounds i v) := by
  unfold Row World.setCell
  rw [Array.getElem?_modify]
  simp [show W.heap[B]? = _ from h]
theorem Row.other {W : World} {B B' i : Nat} {t : TypeId} {c : Array Value} {v : Value} (h : Row W B t c) (hne : B ≠ B') : Row (W.setCell ⟨B', i, none⟩ v) B t c := by
  refine h.same ?_
  unfold World.setCell
  rw [Array.getElem?_modify, if_neg (fun e => hne e.symm)]

/-- four words -/
abbrev arr4 (h : Nat → Nat) : Array Value := #[.int .u64 (h 0 : Int), .int .u64 (h 1 : Int), .int .u64 (h 2 : Int), .int .u64 (h 3 : Int)]
/-- one word of four changed -/
def setH (h : Nat → Nat) (s v : Nat) : Nat → Nat := fun j => if j = s then v else h j
theorem arr4_get (h : Nat → Nat) (s : Nat) (hs : s < 4) : (arr4 h)[s]? = some (.int .u64 (h s : Int)) := by
  have : s = 0 ∨ s = 1 ∨ s = 2 ∨ s = 3 := by omega
  rcases this with rfl | rfl | rfl | rfl <;> rfl
theorem arr4_set (h : Nat → Nat) (s v : Nat) (hs : s < 4) : (arr4 h).setIfInBounds s (.int .u64 (v : Int)) = arr4 (setH h s v) := by
  have : s = 0 ∨ s = 1 ∨ s = 2 ∨ s = 3 := by omega
  rcases this with rfl | rfl | rfl | rfl <;> rfl

abbrev encU (z : Nat) : List Value := [.int .u8 (z : Int)]
theorem encU_len (z : Nat) : (encU z).length = 1 := rfl
/-- a slice that owns bytes -/
abbrev OwnU (w : World) (base : Nat) (v : Value) (zs : List Nat) : Prop := Owns encU 1 5 w base v zs
theorem flatU (zs : List Nat) (i : Nat) (h : i < zs.length) : (zs.flatMap encU)[i]? = some (.int .u8 ((zs.getD i 0 : Nat) : Int)) := by
  have := flat_at (enc := encU) encU_len zs i 0 (by omega) (x := zs.getD i 0) (by rw [List.getD_eq_getElem?_getD, List.getElem?_eq_getElem h]; rfl)
  simpa using this
theorem OwnU.byt {w : World} {base : Nat} {v : Value} {zs : List Nat} (h : OwnU w base v zs) (hs : zs.length ≤ 140737488351232) (hb : ∀ i, zs.getD i 0 < 256) :
    ∃ a cap, v = .slice a zs.length cap ∧ (a = none → cap = 0) ∧ zs.length ≤ cap ∧ cap ≤ maxLen ∧ (∀ ad, a = some ad → base ≤ ad.block ∧ ad.block < w.heap.size) ∧ Byt w a zs.length zs := by
  have hf := h.form
  rcases hf with ⟨rfl, rfl⟩ | ⟨g, cap, rfl, h1, h2, h3, h4⟩
  · exact ⟨none, 0, rfl, fun _ => rfl, by simp, by simp, (fun _ h => by cases h), rfl, hs, hb, .inl rfl⟩
  · refine ⟨some ⟨g, 0, none⟩, cap, rfl, (fun h => by cases h), h3, h4, (fun ad h => by cases h; exact ⟨h1, h2⟩), rfl, hs, hb, .inr ⟨g, 0, rfl, h2, fun i hi => ?_⟩⟩
    have := h.cell i 0 (by omega) (x := zs.getD i 0) (by rw [List.getD_eq_getElem?_getD, List.getElem?_eq_getElem hi]; rfl)
    simpa using this

theorem info_u8' : (Tryd.prog.info? 5).map (fun i => (i.zero, i.size, i.bytes)) = some (some (.int .u8 0), 1, 1) := by kernel_rfl

theorem flatU_eq (zs : List Nat) : zs.flatMap encU = zs.map fun z : Nat => Value.int .u8 (z : Int) := by
  induction zs with
  | nil => rfl
  | cons z l ih => simp [List.flatMap_cons, ih]
theorem byt_row {w : World} {a : Option Addr} {len : Nat} {zs : List Nat} (h : Byt w a len zs) (ad : Addr) (ha : a = some ad) (j : Nat) (u : Value) (hu : (zs.flatMap encU)[j]? = some u) : w.cell? (ad.add j) = some u := by
  rw [flatU_eq] at hu
  have hj : j < zs.length := by
    have := (List.getElem?_eq_some_iff.1 hu).1; rwa [List.length_map] at this
  obtain ⟨b, off, ha', hb, hc⟩ := h.at (by have := h.length; omega)
  rw [ha] at ha'
  injection ha' with ha'
  subst ha'
  have e : u = .int .u8 ((zs.getD j 0 : Nat) : Int) := by
    rw [List.getElem?_map, List.getElem?_eq_getElem hj] at hu
    rw [List.getD_eq_getElem?_getD, List.getElem?_eq_getElem hj]
    simpa using hu.symm
  rw [e, ← hc j (by have := h.length; omega)]
  by_cases h0 : j = 0
  · subst h0; simp [Addr.add]
  · simp [Addr.add, h0]
theorem flatU_len (zs : List Nat) : (zs.flatMap encU).length = zs.length := by rw [flatU_eq, List.length_map]
theorem flatU_one (zs : List Nat) : ∀ u ∈ zs.flatMap encU, u.oneCell' = true := by
  intro u hu
  rw [flatU_eq] at hu
  obtain ⟨z, _, rfl⟩ := List.mem_map.1 hu
  rfl
/-- append(v, src...), v the call's own -/
theorem appU {w : World} {ops : Array Oper} {rest : List Oper} {o : Oper} {a : Act} {Q : Exit → Act → World → Prop} (hgd : o.guard = none) (s x : Operand)
    (ho : o.op = .call { callee := .builtin .append, args := #[s, x], argTypes := #[22, 22] })
    (base : Nat) (v : Value) (zs ys : List Nat) (hs : a.eval s = v) (hown : OwnU w base v zs) (ad : Addr) (m c : Nat) (hx : a.eval x = .slice (some ad) m c) (hy : Byt w (some ad) m ys)
    (hbytes : zs.length + m ≤ 140737488355328) (hbase : base ≤ w.heap.size)
    (h : ∀ v' w', OwnU w' base v' (zs ++ ys) → Below base w w' → w.grownBy w' v.ownBlock → (v'.ownBlock = v.ownBlock ∨ v'.ownBlock = some w.heap.size) → wpList Tryd.prog ops Q rest (a.put o.dst v') w') : wpList Tryd.prog ops Q (o :: rest) a w := by
  obtain ⟨i0, hi, hz0, hz1, hz2⟩ := info_parts info_u8'
  have hl := hy.length
  refine wpList_append_own_at _ hgd s x 22 ho base 5 i0 (.int .u8 0) 1 1 Tryd.underlying22 hi hz0 hz1 hz2 rfl (by decide) v zs.length (zs.flatMap encU) hs hown.2 ad m c (ys.flatMap encU) hx (by rw [flatU_len, hl]; omega) (byt_row hy ad rfl) (flatU_one ys) (by unfold maxLen; omega) (by omega) hbase ?_
  intro v' w' h1 h2 _ h3
  refine h v' w' ⟨encU_len, ?_⟩ ((Below.refl _ _).grown h2 hbase (fun k hk => (World.ownsRow.lt hown.2 k hk).1)) h2 h3
  rw [List.length_append, List.flatMap_append, hl]
  exact h1
theorem ownU_made0 (w : World) (base : Nat) (h : base ≤ w.heap.size) : OwnU (w.alloc (.cells #[] 5)) base (.slice (some ⟨w.heap.size, 0, none⟩) 0 0) [] :=
  ⟨encU_len, World.ownsRow_made w #[] 0 h (by unfold maxLen; omega) rfl⟩
/-- one byte in a new block -/
theorem byt_new1 (w : World) (c : Nat) (hc : c < 256) : Byt (w.alloc (.cells #[.int .u8 (c : Int)] 5)) (some ⟨w.heap.size, 0, none⟩) 1 [c] :=
  ⟨rfl, by simp, by intro i; rcases i with _ | _ <;> simp; exact hc, .inr ⟨w.heap.size, 0, rfl, by simp, fun i hi => by
    obtain rfl : i = 0 := by simp at hi; exact hi
    simp only [World.cell?, World.alloc_heap_new]
    simp⟩⟩
theorem own_at {w : World} {base g n cap : Nat} {l : List Nat} (h : OwnU w base (.slice (some ⟨g, 0, none⟩) n cap) l) {k : Nat} (hk : k < l.length) : w.cell? ⟨g, k, none⟩ = some (.int .u8 ((l.getD k 0 : Nat) : Int)) ∧ w.frozen? ⟨g, k, none⟩ = false := by
  have h1 := Owns.cell h k 0 (by omega) (List.getElem?_eq_getElem hk)
  rw [Nat.mul_one, Nat.add_zero] at h1
  refine ⟨?_, Owns.frozen h k⟩
  rw [h1, List.getD_eq_getElem?_getD, List.getElem?_eq_getElem hk]; rfl
theorem own_put {w : World} {base g n cap : Nat} {l : List Nat} (h : OwnU w base (.slice (some ⟨g, 0, none⟩) n cap) l) {k : Nat} (hk : k < l.length) (z : Nat) : OwnU (w.setCell ⟨g, k, none⟩ (.int .u8 (z : Int))) base (.slice (some ⟨g, 0, none⟩) n cap) (l.set k z) := by
  have h1 := (Owns.stored h k 0 (by omega) (x := l[k]) (y := z) (u := .int .u8 (z : Int)) (List.getElem?_eq_getElem hk) rfl).1
  rwa [Nat.mul_one, Nat.add_zero] at h1
end Go.Proofs.YtginbellakkliaaDoor
