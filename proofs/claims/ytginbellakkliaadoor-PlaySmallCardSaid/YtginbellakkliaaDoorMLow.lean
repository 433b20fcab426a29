/- Bits, Round, Flat, QTail in one text. -/
import Derived.WalkKit
import Derived.WalkSpells
import Derived.WalkLawsBesides
import Derived.Lib.Hide
import Derived.RangeFuncNested
import Derived.RangeFuncCalls
import Derived.Lib.QuietBelow
import Derived.OrdersIn
import Derived.OwnWalk
import Derived.Laws.OwnMore
import Derived.Laws.AppendOwn
import Derived.Maps.AppendAt
import Derived.RangeFuncBox
import Derived.StillTail
import Derived.BigQuiet

/- Words of 64 bits as natural numbers: what the operations on uint64 come to, as rules of the walk. -/
namespace Go.Proofs.YtginbellakkliaaDoor
open Go.RowKit

/-- a number of 64 bits -/
def W64 (m : Nat) : Prop := m < 18446744073709551616
def shr (m c : Nat) : Nat := m >>> c
def shl1 (c : Nat) : Nat := if c < 64 then 2 ^ c else 0
def bitAt (m c : Nat) : Nat := (m >>> c) % 2
def lor (m n : Nat) : Nat := m ||| n
def land (m n : Nat) : Nat := m &&& n
def landn (m n : Nat) : Nat := m ^^^ (m &&& n)

theorem W64.lt {m : Nat} (h : W64 m) : m < 2 ^ 64 := h
theorem W64.of_lt {m : Nat} (h : m < 2 ^ 64) : W64 m := h
theorem W64.lor {m n : Nat} (h : W64 m) (k : W64 n) : W64 (lor m n) := Nat.or_lt_two_pow (n := 64) h k
theorem W64.land {m n : Nat} (h : W64 m) : W64 (land m n) := Nat.lt_of_le_of_lt Nat.and_le_left h
theorem W64.shr {m c : Nat} (h : W64 m) : W64 (shr m c) := Nat.lt_of_le_of_lt (Nat.shiftRight_le m c) h
theorem W64.landn {m n : Nat} (h : W64 m) : W64 (landn m n) := Nat.xor_lt_two_pow (n := 64) h (W64.land h)
theorem W64.shl1 (c : Nat) : W64 (shl1 c) := by
  unfold Proofs.YtginbellakkliaaDoor.shl1 W64
  split
  · rename_i h; exact Nat.pow_lt_pow_right (a := 2) (by decide) h
  · decide
theorem W64.zero : W64 0 := by unfold W64; decide

theorem bitAt_eq (m c : Nat) : bitAt m c = (m.testBit c).toNat := by
  unfold bitAt; rw [Nat.testBit_eq_decide_div_mod_eq, Nat.shiftRight_eq_div_pow]
  have := Nat.mod_two_eq_zero_or_one (m / 2 ^ c)
  rcases this with h | h <;> simp [h]
theorem testBit_lor (m n i : Nat) : (lor m n).testBit i = (m.testBit i || n.testBit i) := by simp [lor]
theorem testBit_land (m n i : Nat) : (land m n).testBit i = (m.testBit i && n.testBit i) := by simp [land]
theorem testBit_landn (m n i : Nat) : (landn m n).testBit i = (m.testBit i && !n.testBit i) := by
  simp only [landn, Nat.testBit_xor, Nat.testBit_and]
  cases m.testBit i <;> cases n.testBit i <;> rfl
theorem testBit_shl1 (c i : Nat) : (shl1 c).testBit i = (decide (c = i) && decide (c < 64)) := by
  unfold shl1
  split
  · rename_i h; simp [Nat.testBit_two_pow, h]
  · rename_i h; simp [h]

theorem wrap_u64 (n : Nat) (h : W64 n) : IntKind.u64.wrap (n : Int) = n := by
  unfold W64 at h
  rw [IntKind.wrap_u64]; omega
theorem bv64 (n : Nat) : (BitVec.ofInt 64 (n : Int)) = BitVec.ofNat 64 n := by
  simp [BitVec.ofInt_natCast]
theorem run_or64 (m n : Nat) (h : W64 m) (k : W64 n) : Op.intBits .or .u64 (m : Int) (n : Int) = pure (.int .u64 ((lor m n : Nat) : Int)) := by
  have e : Op.intBits .or .u64 (m : Int) (n : Int) = pure (.int .u64 (IntKind.u64.wrap (((BitVec.ofInt 64 (m : Int)) ||| (BitVec.ofInt 64 (n : Int))).toNat : Nat))) := rfl
  rw [e, bv64, bv64, BitVec.toNat_or, BitVec.toNat_ofNat, BitVec.toNat_ofNat, Nat.mod_eq_of_lt h.lt, Nat.mod_eq_of_lt k.lt]
  exact congrArg (fun x => pure (Value.int .u64 x)) (wrap_u64 (lor m n) (h.lor k))
theorem run_and64 (m n : Nat) (h : W64 m) (k : W64 n) : Op.intBits .and .u64 (m : Int) (n : Int) = pure (.int .u64 ((land m n : Nat) : Int)) := by
  have e : Op.intBits .and .u64 (m : Int) (n : Int) = pure (.int .u64 (IntKind.u64.wrap (((BitVec.ofInt 64 (m : Int)) &&& (BitVec.ofInt 64 (n : Int))).toNat : Nat))) := rfl
  rw [e, bv64, bv64, BitVec.toNat_and, BitVec.toNat_ofNat, BitVec.toNat_ofNat, Nat.mod_eq_of_lt h.lt, Nat.mod_eq_of_lt k.lt]
  exact congrArg (fun x => pure (Value.int .u64 x)) (wrap_u64 (land m n) h.land)
theorem run_andn64 (m n : Nat) (h : W64 m) (_k : W64 n) : Op.intBits .andNot .u64 (m : Int) (n : Int) = pure (.int .u64 ((landn m n : Nat) : Int)) := by
  have e : Op.intBits .andNot .u64 (m : Int) (n : Int) = pure (.int .u64 (IntKind.u64.wrap (((BitVec.ofInt 64 (m : Int)) &&& ~~~(BitVec.ofInt 64 (n : Int))).toNat : Nat))) := rfl
  have f : ((BitVec.ofNat 64 m) &&& ~~~(BitVec.ofNat 64 n)).toNat = landn m n := by
    apply Nat.eq_of_testBit_eq
    intro i
    rw [testBit_landn, ← BitVec.getLsbD, BitVec.getLsbD_and, BitVec.getLsbD_not, BitVec.getLsbD_ofNat, BitVec.getLsbD_ofNat]
    by_cases hi : i < 64
    · simp [hi]
    · have : m.testBit i = false := Nat.testBit_lt_two_pow (Nat.lt_of_lt_of_le h.lt (Nat.pow_le_pow_right (by decide) (by omega)))
      simp [hi, this]
  rw [e, bv64, bv64, f]
  exact congrArg (fun x => pure (Value.int .u64 x)) (wrap_u64 (landn m n) h.landn)
theorem run_bit64 (m c : Nat) (h : W64 m) : Op.intBits .and .u64 ((shr m c : Nat) : Int) 1 = pure (.int .u64 ((bitAt m c : Nat) : Int)) := by
  have := run_and64 (shr m c) 1 h.shr (by unfold W64; decide)
  have e : land (shr m c) 1 = bitAt m c := by unfold land shr bitAt; exact Nat.and_one_is_mod _
  rw [e] at this
  exact this
theorem run_shr64 (m c : Nat) (yk : IntKind) (h : W64 m) : Op.shift .shr .u64 (m : Int) yk (c : Int) = pure (.int .u64 ((shr m c : Nat) : Int)) := by
  have e : Op.shift .shr .u64 (m : Int) yk (c : Int) = if (c : Int) < 0 then runtimePanic (.error "negative shift amount") else pure (.int .u64 ((m : Int).fdiv (2 ^ min (c : Int).toNat 64))) := rfl
  rw [e, if_neg (by omega)]
  congr 2
  rw [Int.toNat_natCast, Int.fdiv_eq_ediv_of_nonneg _ (by exact_mod_cast Nat.zero_le (2 ^ min c 64))]
  have : ((m : Int) / 2 ^ min c 64) = ((m / 2 ^ min c 64 : Nat) : Int) := by simp
  rw [this]
  congr 1
  unfold shr
  rw [Nat.shiftRight_eq_div_pow]
  rcases Nat.le_total c 64 with hc | hc
  · rw [Nat.min_eq_left hc]
  · rw [Nat.min_eq_right hc, Nat.div_eq_of_lt h.lt, Nat.div_eq_of_lt (Nat.lt_of_lt_of_le h.lt (Nat.pow_le_pow_right (by decide) hc))]
theorem run_shl64 (c : Nat) (yk : IntKind) : Op.shift .shl .u64 1 yk (c : Int) = pure (.int .u64 ((shl1 c : Nat) : Int)) := by
  have e : Op.shift .shl .u64 1 yk (c : Int) = if (c : Int) < 0 then runtimePanic (.error "negative shift amount") else pure (.int .u64 (IntKind.u64.wrap (1 * 2 ^ min (c : Int).toNat 64))) := rfl
  rw [e, if_neg (by omega)]
  congr 2
  rw [Int.toNat_natCast, IntKind.wrap_u64]
  have : (1 * 2 ^ min c 64 : Int) = ((2 ^ min c 64 : Nat) : Int) := by simp
  rw [this]
  unfold shl1
  split
  · rename_i hc
    rw [Nat.min_eq_left (by omega)]
    have := Nat.pow_lt_pow_right (a := 2) (by decide) hc
    generalize 2 ^ c = x at *
    omega
  · rw [Nat.min_eq_right (by omega)]; decide
theorem bitAt_one (m c : Nat) : (((bitAt m c : Nat) : Int) == 1) = m.testBit c := by
  rw [bitAt_eq]; cases m.testBit c <;> rfl
theorem bitAt_zero (m c : Nat) : (((bitAt m c : Nat) : Int) == 0) = !m.testBit c := by
  rw [bitAt_eq]; cases m.testBit c <;> rfl
attribute [go_sem ↓] run_or64 run_and64 run_andn64 run_bit64 run_shr64 run_shl64 bitAt_one bitAt_zero
attribute [go_sem] W64.shl1 W64.lor W64.land W64.shr W64.landn W64.zero
end Go.Proofs.YtginbellakkliaaDoor

/- A region that draws its order, within a round of a range over a function: one walk of the text's order serves every order. -/
namespace Go.Proofs.YtginbellakkliaaDoor
open Go.RowKit Go.Sort

section
variable {P : Program} {ops : Array Oper} {C : World → Prop} {l n : Nat}

/-- No operation is a defer statement. -/
def noDefer (ops : Array Oper) : Bool := ops.toList.all fun o => match o.op with | .defer _ => false | _ => true

theorem noDefer_at {i : Nat} {o : Oper} (h : noDefer ops = true) (ho : ops[i]? = some o) : ∀ c, o.op ≠ .defer c := by
  intro c hc
  unfold noDefer at h
  rw [List.all_eq_true] at h
  have := h o (by rw [Array.mem_toList_iff]; exact Array.mem_of_getElem? ho)
  rw [hc] at this
  cases this

theorem wpIn_of_quiet {o : Oper} {a : Act} {K : Act → Prop} {K' : Act → World → Prop} {Q' : Exit → Act → World → Prop} {w : World} (hd : ∀ c, o.op ≠ .defer c) (hw : C w) (h : ∀ a w', C w' → K a → K' a w')
    (hh : o.quiet P a C K) : o.wpIn (Fence.wide.inRound l) n P a w K' Q' := by
  obtain ⟨v, h1, h2⟩ := hh
  have h3 := h1 w hw
  unfold Oper.quietAt at h3
  unfold Oper.wpIn
  refine ⟨fun _ _ => trivial, ?_⟩
  rw [Oper.semAt_eq _ _ _ hd]
  generalize (execOp a.eval o).run P w = r at *
  cases r with
  | ok x w' =>
    cases x <;> simp only [Oper.quietUpon] at h3 <;> simp only [Oper.uponIn]
    case value u =>
      obtain ⟨e1, e2⟩ := h3
      rw [e1, e2]
      exact h _ _ hw h2
    case skip =>
      obtain ⟨e1, e2⟩ := h3
      rw [e1, ← e2]
      exact h _ _ hw h2
    case enter f args =>
      obtain ⟨e1, hc⟩ := h3
      rw [e1]
      exact ⟨(fun hx => by cases hx), (CallsIn.inRound l (callsIn_wide.2 hc)).mono fun e w'' ⟨he, hw''⟩ => by subst he; exact h _ _ hw'' h2⟩
  | halt x w' => simp only [Oper.quietUpon] at h3

theorem wpOpIn_of_qOp {i : Nat} {a : Act} {K : Act → Prop} {K' : Act → World → Prop} {Q' : Exit → Act → World → Prop} {w : World} (hd : noDefer ops = true) (hC : C w) (h : ∀ a w', C w' → K a → K' a w')
    (hh : qOp P ops C i K a) : wpOpIn (Fence.wide.inRound l) n P ops Q' i K' a w := by
  unfold qOp at hh
  unfold wpOpIn
  split
  · rename_i ho; simp only [ho] at hh; exact h _ _ hC hh
  · rename_i o ho
    simp only [ho] at hh
    split
    · rename_i hw; simp only [hw, if_true] at hh; exact wpIn_of_quiet (noDefer_at hd ho) hC h hh
    · rename_i hw; simp only [hw] at hh; exact ⟨fun _ _ => trivial, h _ _ hC hh⟩

theorem wpAnyIn_of_quiet' {md : Region.Mode} {Q : Act → Prop} {Q' : Exit → Act → World → Prop} (hd : noDefer ops = true) (hQ : ∀ a w, C w → Q a → Q' .normal a w) : ∀ (fuel : Nat) (listed : Array Bool) (a : Act) (w : World), C w →
    wpAnyQ P md ops C Q fuel listed a → wpAnyIn (Fence.wide.inRound l) n P md ops Q' fuel listed a w
  | 0, _, _, _, hw, h => ⟨h.1, hQ _ _ hw h.2⟩
  | fuel + 1, _, _, _, hw, h => ⟨fun h0 => hQ _ _ hw (h.1 h0), fun i hi => wpOpIn_of_qOp hd hw (fun a' w' hw' => wpAnyIn_of_quiet' hd hQ fuel _ a' w' hw') (h.2 i hi)⟩

theorem wpIn_region_round {id : Nat} {Q : Exit → Act → World → Prop} {a : Act} {w : World} {os : List Oper} (hm : P.follows .mixedOrders = true) (hB : Region.lexB .any os.toArray = true) (hd : noDefer os.toArray = true)
    (h : wpQuiet P os.toArray (fun w' => ∃ p : Regrown, w' = grow (redrawn w p.d) p.os) (fun a' => ∀ w', (∃ p : Regrown, w' = grow (redrawn w p.d) p.os) → Q .normal a' w') os a) : (Code.region id os.toArray true).wpIn (Fence.wide.inRound l) n P Q a w := by
  simp only [Region.lexB, Bool.and_eq_true] at hB
  refine wpIn_region_any hm (wpAnyIn_of_quiet' (C := fun w' => ∃ p : Regrown, w' = grow (redrawn w p.d) p.os) (Q := fun a' => ∀ w', (∃ p : Regrown, w' = grow (redrawn w p.d) p.os) → Q .normal a' w') hd (fun _ w' hw' h => h w' hw') _ _ _ _ ⟨⟨w.drawn + 1, #[]⟩, by rw [grow_empty]; rfl⟩ ?_)
  have := wpAnyQ_lex (C := fun w' => ∃ p : Regrown, w' = grow (redrawn w p.d) p.os) (md := .any) hB.1 os.toArray.toList 0 (Array.replicate os.toArray.size false) a (by simp) (by simpa using hB.2) (by simpa using h)
  simpa using this
end
end Go.Proofs.YtginbellakkliaaDoor

/- Slices of structs of several cells: an owned row as a list of elements. No program in sight. -/
namespace Go.Proofs.YtginbellakkliaaDoor
open Go.RowKit

section
variable {α : Type} {enc : α → List Value} {m : Nat}
theorem flat_len (h : ∀ x, (enc x).length = m) (l : List α) : (l.flatMap enc).length = l.length * m := by
  induction l with
  | nil => simp
  | cons x l ih => rw [List.flatMap_cons, List.length_append, ih, h, List.length_cons, Nat.succ_mul]; omega
theorem flat_at (h : ∀ x, (enc x).length = m) (l : List α) (k j : Nat) (hj : j < m) {x : α} (hx : l[k]? = some x) : (l.flatMap enc)[k * m + j]? = (enc x)[j]? := by
  induction l generalizing k with
  | nil => simp at hx
  | cons y l ih =>
    cases k with
    | zero =>
      simp only [List.getElem?_cons_zero, Option.some.injEq] at hx
      subst hx
      rw [List.flatMap_cons, List.getElem?_append_left (by rw [h]; omega)]
      simp
    | succ k =>
      rw [List.flatMap_cons, List.getElem?_append_right (by rw [h, Nat.succ_mul]; omega)]
      have e : (k + 1) * m + j - (enc y).length = k * m + j := by rw [h, Nat.succ_mul]; omega
      rw [e]
      exact ih k (by simpa using hx)
theorem flat_set (h : ∀ x, (enc x).length = m) (l : List α) (k j : Nat) (hj : j < m) {x y : α} {v : Value} (hx : l[k]? = some x) (hy : enc y = (enc x).set j v) :
    (l.flatMap enc).set (k * m + j) v = (l.set k y).flatMap enc := by
  induction l generalizing k with
  | nil => simp at hx
  | cons z l ih =>
    cases k with
    | zero =>
      simp only [List.getElem?_cons_zero, Option.some.injEq] at hx
      subst hx
      rw [List.flatMap_cons, List.set_append_left _ _ (by rw [h]; omega)]
      simp [hy]
    | succ k =>
      rw [List.flatMap_cons, List.set_append_right _ _ (by rw [h, Nat.succ_mul]; omega)]
      have e : (k + 1) * m + j - (enc z).length = k * m + j := by rw [h, Nat.succ_mul]; omega
      rw [e, List.set_cons_succ, List.flatMap_cons]
      rw [ih k (by simpa using hx)]
end

/-- a slice value that owns a list of elements -/
def Owns {α : Type} (enc : α → List Value) (m : Nat) (T : TypeId) (w : World) (base : Nat) (v : Value) (l : List α) : Prop := (∀ x, (enc x).length = m) ∧ w.ownsRow base T m v l.length (l.flatMap enc)
section
variable {α : Type} {enc : α → List Value} {m : Nat} {T : TypeId} {w : World} {base : Nat} {v : Value} {l : List α}
theorem Owns.nil (h : ∀ x, (enc x).length = m) (w : World) (base : Nat) : Owns enc m T w base (.slice none 0 0) ([] : List α) := ⟨h, World.ownsRow_nil _ _ _ _⟩
theorem Owns.len (h : Owns enc m T w base v l) : ∀ x, (enc x).length = m := h.1
/-- it is nil and empty, or lies in a block -/
theorem Owns.form (h : Owns enc m T w base v l) : (v = .slice none 0 0 ∧ l = []) ∨ ∃ g cap, v = .slice (some ⟨g, 0, none⟩) l.length cap ∧ base ≤ g ∧ g < w.heap.size ∧ l.length ≤ cap ∧ cap ≤ maxLen := by
  rcases h.2.2 with ⟨h1, h2⟩ | ⟨g, cap, cur, h1, h2, h3, h4, h5, _, _⟩
  · exact .inl ⟨h1, List.eq_nil_of_length_eq_zero h2⟩
  · exact .inr ⟨g, cap, h1, h2, (Array.getElem?_eq_some_iff.1 h3).1, h4, h5⟩
theorem Owns.cell {g n cap : Nat} (h : Owns enc m T w base (.slice (some ⟨g, 0, none⟩) n cap) l) (k j : Nat) (hj : j < m) {x : α} (hx : l[k]? = some x) : w.cell? ⟨g, k * m + j, none⟩ = (enc x)[j]? := by
  obtain ⟨h1, h2⟩ := h
  have hk : k < l.length := (List.getElem?_eq_some_iff.1 hx).1
  have hn : n = l.length := by
    rcases h2.2 with ⟨h', _⟩ | ⟨g', cap', cur, h', _⟩
    · cases h'
    · injection h'
  rw [hn] at h2
  have hkm : k * m + j < l.length * m := by
    have := Nat.mul_le_mul_right m (show k + 1 ≤ l.length by omega)
    rw [Nat.succ_mul] at this; omega
  rw [World.ownsRow.cellAt h2 _ hkm, flat_at h1 l k j hj hx]
theorem Owns.frozen {g n cap : Nat} (h : Owns enc m T w base (.slice (some ⟨g, 0, none⟩) n cap) l) (j : Nat) : w.frozen? ⟨g, j, none⟩ = false := by
  obtain ⟨h1, h2⟩ := h
  have hn : n = l.length := by
    rcases h2.2 with ⟨h', _⟩ | ⟨g', cap', cur, h', _⟩
    · cases h'
    · injection h'
  rw [hn] at h2
  exact World.ownsRow.frozenAt h2 j
theorem Owns.stored {g n cap : Nat} (h : Owns enc m T w base (.slice (some ⟨g, 0, none⟩) n cap) l) (k j : Nat) (hj : j < m) {x y : α} {u : Value} (hx : l[k]? = some x) (hy : enc y = (enc x).set j u) :
    Owns enc m T (w.setCell ⟨g, k * m + j, none⟩ u) base (.slice (some ⟨g, 0, none⟩) n cap) (l.set k y) ∧ w.grownBy (w.setCell ⟨g, k * m + j, none⟩ u) (some g) := by
  obtain ⟨h1, h2⟩ := h
  have hn : n = l.length := by
    rcases h2.2 with ⟨h', _⟩ | ⟨g', cap', cur, h', _⟩
    · cases h'
    · injection h'
  rw [hn] at h2 ⊢
  obtain ⟨h3, h4⟩ := World.ownsRow.stored h2 (k * m + j) u
  refine ⟨⟨h1, ?_⟩, h4⟩
  rw [List.length_set, ← flat_set h1 l k j hj hx hy]
  exact h3
theorem Owns.slice (h : Owns enc m T w base v l) : ∃ a cap, v = .slice a l.length cap ∧ (l ≠ [] → ∃ g, a = some ⟨g, 0, none⟩) := by
  rcases h.form with ⟨rfl, rfl⟩ | ⟨g, cap, rfl, _⟩
  · exact ⟨none, 0, rfl, fun h => absurd rfl h⟩
  · exact ⟨_, cap, rfl, fun _ => ⟨g, rfl⟩⟩
theorem Owns.alloc (h : Owns enc m T w base v l) (o : Obj) : Owns enc m T (w.alloc o) base v l := ⟨h.1, h.2.alloc o⟩
theorem Owns.drew (h : Owns enc m T w base v l) : Owns enc m T w.drew base v l := ⟨h.1, h.2.drew⟩
theorem Owns.kept {w' : World} {row : Option Nat} (h : Owns enc m T w base v l) (hg : w.grownBy w' row) (hne : row ≠ v.ownBlock ∨ row = none) : Owns enc m T w' base v l := by
  obtain ⟨h1, h2, h3⟩ := h
  refine ⟨h1, h2, ?_⟩
  rcases h3 with h3 | ⟨g, cap, cur, e, h4, h5, h6⟩
  · exact .inl h3
  · refine .inr ⟨g, cap, cur, e, h4, ?_, h6⟩
    rw [hg.block g (Array.getElem?_eq_some_iff.1 h5).1 (fun e' => ?_)]
    · exact h5
    · subst e
      rcases hne with hne | hne
      · exact hne e'.symm
      · rw [hne] at e'; cases e'
theorem Owns.below {w' : World} (h : Owns enc m T w base v l) (hb : Below w.heap.size w w') : Owns enc m T w' base v l :=
  h.kept (row := none) ⟨hb.os, hb.tape, hb.output, hb.size, fun k hk _ => hb.block k hk⟩ (.inr rfl)
theorem Owns.mono {base' : Nat} (h : Owns enc m T w base v l) (hb : base' ≤ base) : Owns enc m T w base' v l := by
  obtain ⟨h1, h2, h3⟩ := h
  refine ⟨h1, h2, ?_⟩
  rcases h3 with h3 | ⟨g, cap, cur, e, h4, h5⟩
  · exact .inl h3
  · exact .inr ⟨g, cap, cur, e, Nat.le_trans hb h4, h5⟩
end
/-- a new block's cells -/
theorem cells_new (W : World) (c : List Value) (T : TypeId) : ∀ j u, c[j]? = some u → (W.alloc (.cells c.toArray T)).cell? ((⟨W.heap.size, 0, none⟩ : Addr).add j) = some u := by
  intro j u hj
  have h := World.alloc_heap_new W (.cells c.toArray T)
  have e : (⟨W.heap.size, 0, none⟩ : Addr).add j = ⟨W.heap.size, j, none⟩ := by
    unfold Addr.add
    split
    · rename_i h0; rw [h0]
    · simp
  rw [e]
  simp only [World.cell?, h]
  simpa using hj
/-- grown, and grown again -/
theorem grownBy_trans {a b c : World} {row : Option Nat} (h : a.grownBy b row) (k : b.grownBy c row) : a.grownBy c row :=
  ⟨k.os.trans h.os, k.tape.trans h.tape, k.output.trans h.output, Nat.le_trans h.size k.size, fun i hi hne => (k.block i (Nat.lt_of_lt_of_le hi h.size) hne).trans (h.block i hi hne)⟩
theorem grownBy_alloc' {a w : World} {row : Option Nat} (h : a.grownBy w row) (o : Obj) : a.grownBy (w.alloc o) row :=
  ⟨h.os, h.tape, h.output, Nat.le_trans h.size (by simp), fun i hi hne => (Below.heap_alloc w o i (Nat.lt_of_lt_of_le hi h.size)).trans (h.block i hi hne)⟩
theorem grownBy_drew {a w : World} {row : Option Nat} (h : a.grownBy w row) : a.grownBy w.drew row := ⟨h.os, h.tape, h.output, h.size, h.block⟩
theorem grownBy_set {a w : World} {g : Nat} (h : a.grownBy w (some g)) {p : Addr} (hp : p.block = g ∨ a.heap.size ≤ p.block) (u : Value) : a.grownBy (w.setCell p u) (some g) :=
  ⟨h.os, h.tape, h.output, by simpa [World.setCell] using h.size, fun i hi hne => (Below.heap_setCell w p u i (by
    rintro rfl
    rcases hp with hp | hp
    · exact hne (by rw [hp])
    · omega)).trans (h.block i hi hne)⟩
theorem grownBy_below {a w : World} (h : Below a.heap.size a w) (row : Option Nat) : a.grownBy w row := ⟨h.os, h.tape, h.output, h.size, fun i hi _ => h.block i hi⟩
theorem grownBy_then {a b c : World} {row : Option Nat} (h : a.grownBy b row) (k : Below b.heap.size b c) : a.grownBy c row := grownBy_trans h (grownBy_below k row)
end Go.Proofs.YtginbellakkliaaDoor

/- A region that draws its order: all operations but the last ones read, or call what only makes memory; the last ones stand in one forced order. No program in sight. -/
namespace Go.Proofs.YtginbellakkliaaDoor
open Go.RowKit Go.Sort

section
variable {P : Program} {ops : Array Oper} {md : Region.Mode} {C : World → Prop}

/-- whatever order is picked for the head -/
def headAny (P : Program) (md : Region.Mode) (ops : Array Oper) (C : World → Prop) (n : Nat) (L : Array Bool → Act → Prop) : Nat → Array Bool → Act → Prop
  | 0, listed, a => L listed a
  | f + 1, listed, a => Region.ready md ops listed ≠ [] ∧ ∀ i ∈ Region.ready md ops listed, i < n ∧ qOp P ops C i (headAny P md ops C n L f (listed.setIfInBounds i true)) a

theorem any_of_headAny {n g : Nat} {L : Array Bool → Act → Prop} {Q : Exit → Act → World → Prop} (hL : ∀ listed a w, C w → L listed a → wpAny P md ops Q g listed a w) :
    ∀ (f : Nat) (listed : Array Bool) (a : Act) (w : World), C w → headAny P md ops C n L f listed a → wpAny P md ops Q (f + g) listed a w
  | 0, listed, a, w, hw, h => by rw [Nat.zero_add]; exact hL _ _ _ hw h
  | f + 1, listed, a, w, hw, h => by
    rw [show f + 1 + g = (f + g) + 1 by omega]
    exact ⟨fun h0 => absurd h0 h.1, fun i hi => wpOp_of_qOp hw (fun a' w' hw' h' => any_of_headAny hL f _ a' w' hw' h') (h.2 i hi).2⟩

theorem headAny_first {n i : Nat} {oi : Oper} {v : Value} {L : Array Bool → Act → Prop} (hi : ops[i]? = some oi) (hsel : ∀ (j : Nat) (o : Oper) cs b, ops[j]? = some o → o.op ≠ .select cs b)
    (hs : Region.sinkB md ops n = true) (hc : Region.chainB md ops n = true) (hn : n < ops.size) (hin : i < n) (hdone : ∀ listed a, L listed a → ∀ j ∈ Region.ready md ops listed, n ≤ j) :
    ∀ (f : Nat) (listed : Array Bool) (a : Act), HeadInv md ops n listed →
      (∀ j oj, ops[j]? = some oj → j ≠ i → listed.getD j true = false → (∀ e ∈ oj.after, Region.binds md e = true → e.on ≠ i) → oi.apart ops oj = true) →
      i ∈ Region.ready md ops listed → YieldsIn P ops C oi v a → headAny P md ops C n L f (listed.setIfInBounds i true) (a.put oi.dst v) → headAny P md ops C n L (f + 1) listed a
  | 0, listed, a, inv, _, hr, hy, H => by
    refine ⟨fun h => (by rw [h] at hr; cases hr), fun j hj => ?_⟩
    have hjn : j < n := Nat.lt_of_not_le fun h => absurd hj (tail_waits hs hc hn inv _ i rfl hin (mem_ready.1 hr).1 j h)
    refine ⟨hjn, ?_⟩
    by_cases hji : j = i
    · subst hji; exact hy.qOp hi H
    · have := hdone _ _ H j (ready_mono hj hji); omega
  | f + 1, listed, a, inv, hfree, hr, hy, H => by
    refine ⟨fun h => (by rw [h] at hr; cases hr), fun j hj => ?_⟩
    have hun := (mem_ready.1 hr).1
    have hjn : j < n := Nat.lt_of_not_le fun h => absurd hj (tail_waits hs hc hn inv _ i rfl hin hun j h)
    refine ⟨hjn, ?_⟩
    by_cases hji : j = i
    · subst hji; exact hy.qOp hi H
    · obtain ⟨hjun, oj, hoj, hall⟩ := mem_ready.1 hj
      have hnot : ∀ e ∈ oj.after, Region.binds md e = true → e.on ≠ i := fun e he hb heq => by
        have h1 := hall e he hb
        rw [heq, getD_both hun] at h1
        cases h1
      refine qOp_mono (fun a' h3 => headAny_first hi hsel hs hc hn hin hdone f (listed.setIfInBounds j true) a' (inv.set hj hjn) (fun k ok hk hki hun' hno => hfree k ok hk hki ?_ hno) (ready_mono hr (Ne.symm hji)) h3.1 (by rw [Array.setIfInBounds_comm _ _ hji]; exact h3.2))
        (qOp_put hoj (hfree j oj hoj hji hjun hnot) (fun cs b => hsel i oi cs b hi) (fun cs b => hsel j oj cs b hoj) hy (H.2 j (ready_mono hj hji)).2)
      by_cases hjk : j = k
      · subst hjk; exact hjun
      · rwa [getD_set_ne true hjk] at hun'

theorem headAny_lex {n g : Nat} {Lq : Act → Prop} (hsel : Region.noSelect ops = true) (hs : Region.sinkB md ops n = true) (hc : Region.chainB md ops n = true) (hn : n < ops.size) :
    ∀ (l : List Oper) (k : Nat) (listed : Array Bool) (a : Act), (∀ j, j < l.length → l[j]? = ops[k + j]?) → k + l.length = n → HeadInv md ops n listed → Region.lexHead md ops g l.length k listed = true → wpQuiet P ops C Lq l a →
    headAny P md ops C n (fun listed' a' => Region.seqB md ops g n listed' = true ∧ Lq a') l.length listed a
  | [], k, listed, a, _, hk, _, hB, h => by
    obtain rfl : k = n := by simpa using hk
    exact ⟨by simpa [Region.lexHead] using hB, h⟩
  | o :: l, k, listed, a, hl, hk, inv, hB, h => by
    have h0 : ops[k]? = some o := by simpa using (hl 0 (by simp)).symm
    simp only [List.length_cons, Region.lexHead, Bool.and_eq_true] at hB hk
    obtain ⟨⟨hr, hf⟩, hB'⟩ := hB
    have hr' : k ∈ Region.ready md ops listed := by simpa using hr
    obtain ⟨v, hy, hK⟩ := yieldsIn_of_qOp h0 (K := wpQuiet P ops C Lq l) (a := a) (by unfold qOp; simp only [h0]; exact h)
    exact headAny_first h0 (Region.noSelect_spec hsel) hs hc hn (by omega) (fun listed' a' hL => seqB_ready hL.1) l.length listed a inv (Region.free_spec h0 hf) hr' hy
      (headAny_lex hsel hs hc hn l (k + 1) _ _ (fun j hj => by have := hl (j + 1) (by simp; omega); simpa [Nat.add_assoc, Nat.add_comm 1 j] using this) (by omega) (inv.set hr' (by omega)) hB' hK)

theorem wp_region_quiet_tail {id : Nat} {Q : Exit → Act → World → Prop} {a : Act} {w : World} {l : List Oper} (n : Nat) (hm : P.follows .mixedOrders = true) (hB : Region.lexTailB .any l.toArray n = true) (hC : C { w with drawn := w.drawn + 1 })
    (h : wpQuiet P l.toArray C (fun a' => ∀ w', C w' → wpList P l.toArray Q (l.drop n) a' w') (l.take n) a) : (Code.region id l.toArray true).wp P Q a w := by
  simp only [Region.lexTailB, Bool.and_eq_true, decide_eq_true_eq] at hB
  obtain ⟨⟨⟨⟨hsel, hn⟩, hs⟩, hc⟩, hlex⟩ := hB
  have hn' : n < l.length := by simpa using hn
  have htl : (l.take n).length = n := by simp; omega
  have hdl : (l.drop n).length = l.toArray.size - n := by simp
  have inv0 : HeadInv .any l.toArray n (Array.replicate l.toArray.size false) :=
    ⟨by simp, fun j oj _ hl => (by rw [getD_replicate_false] at hl; cases hl), fun t _ ht => getD_in (by simpa using ht) (getD_replicate_false _ _)⟩
  have H := headAny_lex (md := .any) (g := l.toArray.size - n) hsel hs hc hn (l.take n) 0 _ a (fun j hj => by
    rw [htl] at hj
    simp [hj]) (by simpa using htl) inv0 (by rw [htl]; exact hlex) h
  refine wp_region_any hm ?_
  have := any_of_headAny (Q := Q) (g := l.toArray.size - n) (fun listed a' w' hw' hL => by
    have := wpAny_of_seq (md := .any) (Q' := Q) (l.drop n) n listed a' w' (fun j => by simp [List.getElem?_drop]) (by rw [hdl]; exact hL.1) (hL.2 w' hw')
    rwa [hdl] at this) _ _ _ _ hC H
  rwa [htl, show n + (l.toArray.size - n) = l.toArray.size by omega] at this

theorem wp_region_below_tail {id : Nat} {Q : Exit → Act → World → Prop} {a : Act} {w : World} {l : List Oper} (n : Nat) (hm : P.follows .mixedOrders = true) (hB : Region.lexTailB .any l.toArray n = true)
    (h : wpQuiet P l.toArray (fun w' => ∃ p : Regrown, w' = grow (redrawn w p.d) p.os) (fun a' => ∀ w', (∃ p : Regrown, w' = grow (redrawn w p.d) p.os) → wpList P l.toArray Q (l.drop n) a' w') (l.take n) a) : (Code.region id l.toArray true).wp P Q a w :=
  wp_region_quiet_tail (C := fun w' => ∃ p : Regrown, w' = grow (redrawn w p.d) p.os) n hm hB ⟨⟨w.drawn + 1, #[]⟩, by rw [grow_empty]; rfl⟩ h
end
end Go.Proofs.YtginbellakkliaaDoor
