/- Plain: the deal of finesselaw14.Made, lists of a hand's cards; slices of bytes cut. -/
import Derived.Test.YtgnlmodaekfhfaaDoorMLdp
import Derived.Test.YtgnlmodaekfhfaaDoorQTail
import Derived.ArgAppend
import Derived.Deep.Upon
namespace Go.Proofs.YtgnlmodaekfhfaaDoor
open Go.RowKit Go.Shelf Go.Sort

/-- the cards of a hand -/
def handTo (m : Nat) : Nat → List Nat
  | 0 => []
  | k + 1 => if m.testBit k then handTo m k ++ [k] else handTo m k
theorem handTo_mem (m : Nat) : ∀ k c, c ∈ handTo m k ↔ c < k ∧ m.testBit c = true
  | 0, c => by simp [handTo]
  | k + 1, c => by
    have ih := handTo_mem m k c
    unfold handTo
    split
    next h =>
      simp only [List.mem_append, List.mem_singleton, ih]
      constructor
      · rintro (⟨h1, h2⟩ | rfl)
        · exact ⟨by omega, h2⟩
        · exact ⟨by omega, h⟩
      · rintro ⟨h1, h2⟩
        by_cases he : c = k
        · exact .inr he
        · exact .inl ⟨by omega, h2⟩
    next h =>
      rw [ih]
      constructor
      · rintro ⟨h1, h2⟩; exact ⟨by omega, h2⟩
      · rintro ⟨h1, h2⟩
        refine ⟨?_, h2⟩
        by_cases he : c = k
        · subst he; exact absurd h2 h
        · omega
theorem handTo_le (m : Nat) : ∀ k, (handTo m k).length ≤ k
  | 0 => by simp [handTo]
  | k + 1 => by
    have := handTo_le m k
    unfold handTo; split <;> simp <;> omega
theorem getD_mem_of_lt {l : List Nat} {i : Nat} (h : i < l.length) : l.getD i 0 ∈ l := by
  rw [List.getD_eq_getElem?_getD, List.getElem?_eq_getElem h]; exact List.getElem_mem h
theorem getD_lt {l : List Nat} {n : Nat} (hn : 0 < n) (h : ∀ c ∈ l, c < n) (i : Nat) : l.getD i 0 < n := by
  by_cases hi : i < l.length
  · exact h _ (getD_mem_of_lt hi)
  · rw [List.getD_eq_getElem?_getD, List.getElem?_eq_none (by omega)]; simpa using hn
theorem W64.setH {h : Nat → Nat} (hw : ∀ j, W64 (h j)) (s v : Nat) (hv : W64 v) : ∀ j, W64 (setH h s v j) := by
  intro j; unfold Go.Proofs.YtgnlmodaekfhfaaDoor.setH; split
  · exact hv
  · exact hw j

/-- a sketch of a deal -/
structure Sk where
  size : Nat
  trumps : Nat
  decl : Nat
  order : List Nat
abbrev Sk.cells (x : Sk) (ao : Option Addr) (lo co : Nat) : Array Value := #[.int .u8 (x.size : Int), .int .u8 (x.trumps : Int), .int .u8 (x.decl : Int), .slice ao lo co]
/-- a deal under way -/
structure DlS where
  h : Nat → Nat
  deck : List Nat
def Sk.n (x : Sk) : Nat := 1 + x.size % 5
def Sk.at (x : Sk) (i : Nat) : Nat := if x.order = [] then 7 * i else x.order.getD (i % x.order.length) 0 + i
def DlS.next (x : Sk) (s : DlS) (i : Nat) : DlS :=
  ⟨setH s.h (i % 4) (lor (s.h (i % 4)) (shl1 (s.deck.getD (x.at i % s.deck.length) 0))), s.deck.take (x.at i % s.deck.length) ++ s.deck.drop (x.at i % s.deck.length + 1)⟩
def Sk.dealN (x : Sk) : Nat → DlS
  | 0 => ⟨fun _ => 0, List.range 52⟩
  | i + 1 => (x.dealN i).next x i
theorem dealN_len (x : Sk) : ∀ i, i ≤ 52 → (x.dealN i).deck.length = 52 - i
  | 0, _ => by simp [Sk.dealN]
  | i + 1, h => by
    have ih := dealN_len x i (by omega)
    have hk : x.at i % (x.dealN i).deck.length < (x.dealN i).deck.length := Nat.mod_lt _ (by omega)
    simp only [Sk.dealN, DlS.next, List.length_append, List.length_take, List.length_drop]
    omega
theorem dealN_lt (x : Sk) : ∀ i, ∀ c ∈ (x.dealN i).deck, c < 52
  | 0, c, h => by simpa [Sk.dealN] using h
  | i + 1, c, h => by
    simp only [Sk.dealN, DlS.next, List.mem_append] at h
    rcases h with h | h
    · exact dealN_lt x i c (List.mem_of_mem_take h)
    · exact dealN_lt x i c (List.mem_of_mem_drop h)
theorem dealN_w64 (x : Sk) : ∀ i j, W64 ((x.dealN i).h j)
  | 0, _ => W64.zero
  | i + 1, j => W64.setH (dealN_w64 x i) _ _ ((dealN_w64 x i _).lor (W64.shl1 _)) j

/-- the hands of a deal under way -/
structure DealOk (s : DlS) (i : Nat) : Prop where
  nodup : s.deck.Nodup
  lt : ∀ c ∈ s.deck, c < 52
  bit : ∀ j c, (s.h j).testBit c = true → c < 52 ∧ c ∉ s.deck
  apart : ∀ j j' c, j ≠ j' → (s.h j).testBit c = true → (s.h j').testBit c = false
  pop : ∀ j, j < 4 → pop (s.h j) = (i + 3 - j) / 4
theorem deal_next (x : Sk) {s : DlS} {i : Nat} (h : DealOk s i) (hl : 0 < s.deck.length) : DealOk (s.next x i) (i + 1) := by
  have hk : x.at i % s.deck.length < s.deck.length := Nat.mod_lt _ hl
  unfold DlS.next
  generalize x.at i % s.deck.length = k at *
  have hg : s.deck.getD k 0 = s.deck[k] := by rw [List.getD_eq_getElem?_getD, List.getElem?_eq_getElem hk]; rfl
  have hme : s.deck.getD k 0 ∈ s.deck := getD_mem_of_lt hk
  have hdec : s.deck = s.deck.take k ++ s.deck.getD k 0 :: s.deck.drop (k + 1) := by
    rw [hg]; exact (List.take_append_drop k s.deck).symm.trans (by rw [List.drop_eq_getElem_cons hk])
  have hc52 := h.lt _ hme
  have hfree : ∀ j, (s.h j).testBit (s.deck.getD k 0) = false := fun j => by
    cases hb : (s.h j).testBit (s.deck.getD k 0)
    · rfl
    · exact absurd hme (h.bit j _ hb).2
  generalize s.deck.getD k 0 = c at *
  have hnd := h.nodup
  rw [hdec] at hnd
  have hnd2 := List.nodup_append.1 hnd
  have hcn : c ∉ s.deck.take k ++ s.deck.drop (k + 1) := by
    intro hm
    rcases List.mem_append.1 hm with hm | hm
    · exact hnd2.2.2 c hm c (by simp) rfl
    · exact (List.nodup_cons.1 hnd2.2.1).1 hm
  have hsub : ∀ z, z ∈ s.deck.take k ++ s.deck.drop (k + 1) → z ∈ s.deck := fun z hz => by
    rcases List.mem_append.1 hz with hz | hz
    · exact List.mem_of_mem_take hz
    · exact List.mem_of_mem_drop hz
  refine ⟨?_, fun z hz => h.lt z (hsub z hz), ?_, ?_, ?_⟩
  · exact List.nodup_append.2 ⟨hnd2.1, (List.nodup_cons.1 hnd2.2.1).2, fun a ha b hb e => hnd2.2.2 a ha b (by simp [hb]) e⟩
  · intro j z hz
    dsimp only at hz ⊢
    unfold setH at hz
    split at hz
    next hj =>
      rw [testBit_lor, testBit_shl1, Bool.or_eq_true] at hz
      rcases hz with hz | hz
      · exact ⟨(h.bit _ z hz).1, fun hm => (h.bit _ z hz).2 (hsub z hm)⟩
      · simp at hz; obtain ⟨rfl, _⟩ := hz; exact ⟨hc52, hcn⟩
    next hj => exact ⟨(h.bit _ z hz).1, fun hm => (h.bit _ z hz).2 (hsub z hm)⟩
  · intro j j' z hjj hz
    dsimp only at hz ⊢
    unfold setH at hz ⊢
    by_cases h1 : j = i % 4
    · have h2 : j' ≠ i % 4 := by omega
      rw [if_pos h1, testBit_lor, testBit_shl1, Bool.or_eq_true] at hz
      rw [if_neg h2]
      rcases hz with hz | hz
      · exact h.apart _ _ z (by omega) hz
      · simp at hz; obtain ⟨rfl, _⟩ := hz; exact hfree j'
    · rw [if_neg h1] at hz
      by_cases h2 : j' = i % 4
      · rw [if_pos h2, testBit_lor, testBit_shl1, Bool.or_eq_false_iff]
        refine ⟨h.apart j _ z (by omega) hz, ?_⟩
        simp only [Bool.and_eq_false_iff, decide_eq_false_iff_not]
        left; rintro rfl; rw [hfree j] at hz; cases hz
      · rw [if_neg h2]; exact h.apart j j' z hjj hz
  · intro j hj
    dsimp only
    unfold setH
    split
    next he => subst he; rw [pop_lor _ _ (by omega) (hfree _), h.pop _ hj]; omega
    next he => rw [h.pop _ hj]; omega
theorem deal_ok (x : Sk) : ∀ i, i ≤ 52 → DealOk (x.dealN i) i
  | 0, _ => by
    refine ⟨List.nodup_range, fun c hc => List.mem_range.1 hc, fun j c h => ?_, fun j j' c _ h => ?_, fun j hj => ?_⟩
    · simp [Sk.dealN] at h
    · simp [Sk.dealN] at h
    · simp only [Sk.dealN, pop_nil]; omega
  | i + 1, h => deal_next x (deal_ok x i (by omega)) (by rw [dealN_len x i (by omega)]; omega)

theorem Sk.n_le (x : Sk) : 1 ≤ x.n ∧ x.n ≤ 5 := by unfold Sk.n; omega
/-- the hands of a sketch -/
def Sk.h (x : Sk) : Nat → Nat := (x.dealN (4 * x.n)).h
theorem Sk.deal (x : Sk) : Deal4 x.h x.n := by
  have hn := x.n_le
  have h := deal_ok x (4 * x.n) (by omega)
  exact ⟨fun j _ => lt_of_bits fun c hc => (h.bit j c hc).1, fun j j' c _ _ hne hc => h.apart j j' c hne hc, fun j hj => by unfold Sk.h; rw [h.pop j hj]; omega, hn.1, by omega⟩
theorem Byt.keptP {S : Nat → Prop} {W W' : World} {a : Option Addr} {len : Nat} {zs : List Nat} (h : Byt W a len zs) (ha : 0 < len → ∀ ad, a = some ad → S ad.block) (hk : Kept S W W') : Byt W' a len zs := by
  refine ⟨h.length, h.small, h.byte, ?_⟩
  rcases h.cells with h | ⟨b, off, rfl, hb, hc⟩
  · exact .inl h
  · exact .inr ⟨b, off, rfl, Nat.lt_of_lt_of_le hb hk.size, fun i hi => (hk.cell (p := ⟨b, off + i, none⟩) (ha (by omega) ⟨b, off, none⟩ rfl) hb).trans (hc i hi)⟩
theorem Byt.kept {S : Nat → Prop} {W W' : World} {a : Option Addr} {len : Nat} {zs : List Nat} (h : Byt W a len zs) (ha : ∀ ad, a = some ad → S ad.block) (hk : Kept S W W') : Byt W' a len zs := h.keptP (fun _ => ha) hk
theorem flatU_map (l : List Nat) : l.flatMap encU = l.map fun z : Nat => Value.int .u8 (z : Int) := by induction l with | nil => rfl | cons a l ih => simp [encU] at *; exact ih
theorem wpList_append_nothing {P : Program} {w : World} {ops : Array Oper} {rest : List Oper} {o : Oper} {a : Act} {Q : Exit → Act → World → Prop} (hgd : o.guard = none) (s x : Operand) (t : TypeId)
    (ho : o.op = .call { callee := .builtin .append, args := #[s, x], argTypes := #[t, t] }) (e : TypeId) (i : TypeInfo) (ht : P.underlying t = some (.slice e)) (hi : P.info? e = some i) (base : Option Addr) (len cap : Nat) (hle : len ≤ cap) (hs : a.eval s = .slice base len cap)
    (y : Value) (hx : a.eval x = y) (hsrc : Src P i.size t y 0 [] w) (h : wpList P ops Q rest (a.put o.dst (.slice base len cap)) w) : wpList P ops Q (o :: rest) a w := by
  refine wpList_plain hgd fun K hK => ?_
  have hr := run_append_nothing w t t o.type e i ht hi base len cap hle y hsrc
  unfold Oper.wp execOp
  simp only [ho, resolve, invoke, builtin, Sem.run_bind, Sem.run_pure, Result.andThen_ok, List.map_toArray, List.map_cons, List.map_nil, hs, hx, hr]
  exact hK _ _ h
theorem src_empty {P : Program} {size : Nat} {t e : TypeId} (ht : P.underlying t = some (.slice e)) (a : Option Addr) (c : Nat) (w : World) : Src P size t (.slice a 0 c) 0 [] w := by
  cases a with
  | none => exact Src.ofNil w ht c
  | some a => exact Src.ofSlice w ht a 0 c [] (by simp) (fun j u h => by simp at h) (fun u h => by simp at h)
/-- a slice up to a place, with no room behind -/
theorem head_run (b off len cap k : Nat) (hk : k ≤ cap) (wx : World) :
    (Instr.slice 22 (.slice (some ⟨b, off, none⟩) len cap) none (some (.int .i64 (k : Int))) (some (.int .i64 (k : Int)))).run Tryd.prog wx = .ok (.slice (some ⟨b, off, none⟩) k k) wx := by
  have hsz : (sizeOf (Tryd.prog.elem 22)).run Tryd.prog wx = .ok 1 wx := by kernel_rfl
  rw [run_slice_hm wx 22 _ len cap (by kernel_rfl) _ _ _ _ (by omega) (by omega) (by omega), hsz]
  simp [Result.andThen, sliced, Addr.add]
theorem u8_cells {w : World} {b off len : Nat} {zs : List Nat} (h : ∀ i, i < len → w.cell? ⟨b, off + i, none⟩ = some (.int .u8 ((zs.getD i 0 : Nat) : Int))) (hl : zs.length = len) : ∀ j u, (zs.map fun z : Nat => Value.int .u8 (z : Int))[j]? = some u → w.cell? ((⟨b, off, none⟩ : Addr).add j) = some u := by
  intro j u hj
  rw [List.getElem?_map] at hj
  cases hz : zs[j]? with
  | none => rw [hz] at hj; cases hj
  | some z =>
    rw [hz] at hj
    injection hj with hj
    subst hj
    have hjl : j < len := by have := (List.getElem?_eq_some_iff.1 hz).1; omega
    have := h j hjl
    rw [List.getD_eq_getElem?_getD, hz] at this
    rw [Addr.add_lit]
    exact this

/-- a slice from a place on -/
theorem cut_run (a : Option Addr) (k cap l : Nat) (zs : List Nat) (w : World) (hl : l ≤ k) (hkc : k ≤ cap) (hb : Byt w a k zs) :
    ∃ a', (∀ wx, (Instr.slice 22 (.slice a k cap) (some (.int .i64 (l : Int))) none none).run Tryd.prog wx = .ok (.slice a' (k - l) (cap - l)) wx) ∧ Byt w a' (k - l) (zs.drop l) ∧ (∀ ad, a' = some ad → ∃ ad0, a = some ad0 ∧ ad.block = ad0.block) := by
  have hsz : ∀ wx, (sizeOf (Tryd.prog.elem 22)).run Tryd.prog wx = .ok 1 wx := by intro wx; kernel_rfl
  refine ⟨if cap = l then a else a.map (·.add (l * 1)), fun wx => ?_, ?_, ?_⟩
  · rw [run_slice_l wx 22 a k cap (by kernel_rfl) _ _ (by omega) (by omega), hsz]
    simp [Result.andThen, sliced]
  · refine ⟨by rw [List.length_drop, hb.length], by have := hb.small; omega, fun i => ?_, ?_⟩
    · have := hb.byte (l + i)
      rw [List.getD_eq_getElem?_getD] at this ⊢
      rwa [List.getElem?_drop]
    · rcases Nat.lt_or_ge l k with hlt | hge
      · right
        obtain ⟨b, off, rfl, hbs, hcs⟩ := hb.at (by omega)
        rw [if_neg (by omega : ¬ cap = l)]
        refine ⟨b, off + l, by simp [Addr.add], hbs, fun i hi => ?_⟩
        have := hcs (l + i) (by omega)
        rw [List.getD_eq_getElem?_getD] at this ⊢
        rw [List.getElem?_drop, Nat.add_assoc]
        exact this
      · left; omega
  · intro ad he
    cases a with
    | none => split at he <;> simp at he
    | some ad0 =>
      refine ⟨ad0, rfl, ?_⟩
      split at he
      · injection he with e; rw [e]
      · simp at he; rw [← he]; simp only [Addr.add]; split <;> rfl
end Go.Proofs.YtgnlmodaekfhfaaDoor
