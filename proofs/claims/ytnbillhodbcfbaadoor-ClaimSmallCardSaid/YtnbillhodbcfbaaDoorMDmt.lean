/- DmIt, DmRg in one text. -/
import Derived.RangeFuncNested
import Derived.RangeFuncBound
import Derived.RangeFuncCalls
import Derived.RangeFuncLeaves
import Derived.Shelf.Abstract
import Derived.Shelf.RegionOpen
import Derived.WalkKit
import Derived.OwnWalkIn
import Derived.TacticsInMore
import Derived.LoopNIn
import Derived.LoopIn
import Derived.Lib.TrailingZeros
import Derived.Test.YtnbillhodbcfbaaDoorProg
import Derived.Test.YtnbillhodbcfbaaDoorMLow

/- math/bits.TrailingZeros64 and the iterator dummy.cards over this seat's program. -/
namespace Go.Proofs.YtnbillhodbcfbaaDoor
open Go.RowKit Go.Shelf
attribute [local go_sem] Oper.semAt_some

theorem wide_fn (f : Nat) : Fence.wide.fn f = True := rfl
theorem wide_depth : Fence.wide.depth = none := rfl
attribute [go_sem] wide_fn wide_depth
/-- The table of math/bits lies in its variable. -/
def Tab (w : World) : Prop := ∀ j, j < 64 → w.cell? ⟨0, j, none⟩ = some (.int .u8 ((Lib.deBruijn64tab.getD j 0 : Nat) : Int))
theorem Tab.below {w w' : World} (h : Tab w) {B : Nat} (hB : 0 < B) (hb : Below B w w') : Tab w' := fun j hj => (hb.cell (p := ⟨0, j, none⟩) hB).trans (h j hj)
theorem Tab.pos {w : World} (h : Tab w) : 0 < w.heap.size := block_lt_of_cell (h 0 (by decide))

theorem tz_core (x k idx : Nat) (w : World) (hx0 : ((x : Int) == 0) = false)
    (key : IntKind.u64.wrap (bits BinOp.and IntKind.u64 (x : Int) (IntKind.u64.wrap (-(x : Int))) * 285870213051353865) / 288230376151711744 = (idx : Int))
    (hi : idx < 64) (hk : k < 64) (hcell : w.cell? ⟨0, idx, none⟩ = some (.int .u8 (k : Int))) :
    Calls Tryd.prog 73 #[.int .u64 (x : Int)] w fun e w' => e = .returned (.int .i64 (k : Int)) ∧ w = w' := by
  go_enter Tryd.func73, Tryd.ntmps73
  go_wp2_with (simp only [key])
  go_ret
  exact ⟨rfl, rfl⟩
theorem bits_and_nat (a b : Nat) (ha : W64 a) (hb : W64 b) : bits .and .u64 (a : Int) (b : Int) = ((a &&& b : Nat) : Int) := by
  have h := run_and64 a b ha hb
  rw [intBits_and] at h
  injection h with h
  injection h
theorem tz_key (x a : Nat) (hx : x < 18446744073709551616) (hx0 : x ≠ 0) (hlow : x &&& (18446744073709551616 - x) = a) :
    IntKind.u64.wrap (bits BinOp.and IntKind.u64 (x : Int) (IntKind.u64.wrap (-(x : Int))) * 285870213051353865) / 288230376151711744 = ((a * 285870213051353865 % 18446744073709551616 / 288230376151711744 : Nat) : Int) := by
  have e1 : IntKind.u64.wrap (-(x : Int)) = ((18446744073709551616 - x : Nat) : Int) := by rw [IntKind.wrap_u64]; omega
  rw [e1, bits_and_nat x _ hx (by unfold W64; omega), hlow, IntKind.wrap_u64]
  omega
theorem bits_tz (x : Nat) (hx : W64 x) (hx0 : x ≠ 0) (w : World) (hT : Tab w) :
    Calls Tryd.prog 73 #[.int .u64 (x : Int)] w fun e w' => e = .returned (.int .i64 ((Lib.ctz 64 x : Nat) : Int)) ∧ w = w' := by
  obtain ⟨hlow, hk⟩ := Lib.lowest_bit 64 x hx0 hx
  obtain ⟨hi, htab⟩ := Lib.deBruijn64_at _ hk
  have hcell := hT _ hi
  rw [htab] at hcell
  exact tz_core x _ _ w (by simp; omega) (tz_key x _ hx hx0 hlow) hi hk hcell

/-- The bits of a word, the least first. -/
def bitsList (m : Nat) : List (Fin 64) := (List.finRange 64).filter fun i => m.testBit i.val

/-- A word without its lowest bit. -/
def drop1 (x : Nat) : Nat := x &&& (x - 1)
theorem drop1_lt (x : Nat) (h : x ≠ 0) : drop1 x < x := by
  have : drop1 x ≤ x - 1 := Nat.and_le_right
  omega
theorem ctz_spec (x : Nat) (h0 : x ≠ 0) (hx : x < 2 ^ 64) : ∃ m, x = 2 ^ Lib.ctz 64 x * (2 * m + 1) ∧ Lib.ctz 64 x < 64 := by
  unfold Lib.ctz; rw [if_neg h0]; exact Lib.ctzFrom_spec 64 x (by omega) hx
/-- the bits of 2^k (2m+1) and of that less one -/
theorem odd_bit (k m i : Nat) : (2 ^ k * (2 * m + 1)).testBit i = (decide (i = k) || (decide (k < i) && m.testBit (i - k - 1))) := by
  rw [Nat.testBit_two_pow_mul]
  by_cases h : k ≤ i
  · by_cases h2 : i = k
    · subst h2; simp
    · have : i - k = (i - k - 1) + 1 := by omega
      rw [this, Nat.testBit_succ]
      have e : (2 * m + 1) / 2 = m := by omega
      have h3 : k < i := by omega
      simp [e, h2, h, h3]
  · have h2 : ¬ i = k := by omega
    have h3 : ¬ k < i := by omega
    simp [h, h2, h3]
theorem even_bit (k m i : Nat) : (2 ^ k * (2 * m)).testBit i = (decide (k < i) && m.testBit (i - k - 1)) := by
  have : 2 ^ k * (2 * m) = 2 ^ (k + 1) * m := by rw [Nat.pow_succ]; ac_rfl
  rw [this, Nat.testBit_two_pow_mul]
  by_cases h : k < i
  · have e : i - (k + 1) = i - k - 1 := by omega
    have h3 : k + 1 ≤ i := by omega
    simp [e, h, h3]
  · have h3 : ¬ k + 1 ≤ i := by omega
    simp [h, h3]
theorem low_bit (k a i : Nat) : (2 ^ k * (2 * a) + (2 ^ k - 1)).testBit i = (decide (i < k) || (decide (k < i) && a.testBit (i - k - 1))) := by
  have hp : 2 ^ k - 1 < 2 ^ k := by have := Nat.two_pow_pos k; omega
  rw [Nat.two_pow_add_eq_or_of_lt hp, Nat.testBit_or, even_bit, Nat.testBit_two_pow_sub_one]
  exact Bool.or_comm _ _
theorem drop1_bit (x i : Nat) (h0 : x ≠ 0) (hx : x < 2 ^ 64) : (drop1 x).testBit i = (x.testBit i && decide (i ≠ Lib.ctz 64 x)) := by
  obtain ⟨m, hm, hk⟩ := ctz_spec x h0 hx
  generalize Lib.ctz 64 x = k at *
  subst hm
  have hp := Nat.two_pow_pos k
  have e : 2 ^ k * (2 * m + 1) - 1 = 2 ^ k * (2 * m) + (2 ^ k - 1) := by
    rw [Nat.mul_add, Nat.mul_one]; omega
  unfold drop1
  rw [e, Nat.testBit_and, odd_bit, low_bit]
  by_cases h1 : i = k
  · subst h1; simp
  · by_cases h2 : i < k
    · have : ¬ k < i := by omega
      simp [h1, h2, this]
    · simp [h1, h2]
theorem ctz_bit (x : Nat) (h0 : x ≠ 0) (hx : x < 2 ^ 64) : x.testBit (Lib.ctz 64 x) = true ∧ ∀ i, i < Lib.ctz 64 x → x.testBit i = false := by
  obtain ⟨m, hm, hk⟩ := ctz_spec x h0 hx
  generalize Lib.ctz 64 x = k at *
  subst hm
  refine ⟨by rw [odd_bit]; simp, fun i hi => ?_⟩
  rw [odd_bit]
  have h1 : ¬ i = k := by omega
  have h2 : ¬ k < i := by omega
  simp [h1, h2]
theorem filter_first {α : Type} (p q : α → Bool) (l : List α) (c : α) (hn : l.Nodup) (hc : c ∈ l) (hp : p c = true)
    (hq : ∀ x, q x = true ↔ (p x = true ∧ x ≠ c)) (hf : ∀ a b, l = a ++ c :: b → ∀ x ∈ a, p x = false) : l.filter p = c :: l.filter q := by
  obtain ⟨a, b, rfl⟩ := List.append_of_mem hc
  have ha := hf a b rfl
  have hca : c ∉ a ∧ c ∉ b := by
    rw [List.nodup_append] at hn
    obtain ⟨h1, h2, h3⟩ := hn
    exact ⟨fun h => h3 c h c (by simp) rfl, fun h => (List.nodup_cons.1 h2).1 h⟩
  have e1 : a.filter p = [] := by rw [List.filter_eq_nil_iff]; intro x hx; rw [ha x hx]; simp
  have e2 : a.filter q = [] := by
    rw [List.filter_eq_nil_iff]; intro x hx hq'
    have := ((hq x).1 hq').1; rw [ha x hx] at this; cases this
  have e3 : b.filter p = b.filter q := by
    apply List.filter_congr
    intro x hx
    have hne : x ≠ c := fun h => hca.2 (h ▸ hx)
    rw [Bool.eq_iff_iff, hq x]; simp [hne]
  have e4 : q c = false := by
    cases h : q c
    · rfl
    · exact absurd rfl ((hq c).1 h).2
  rw [List.filter_append, List.filter_append, List.filter_cons, List.filter_cons, e1, e2, e3, hp, e4]
  simp
theorem finRange_before (a b : List (Fin 64)) (c : Fin 64) (h : List.finRange 64 = a ++ c :: b) : ∀ x ∈ a, x.val < c.val := by
  have hp : (List.finRange 64).Pairwise (fun x y => x.val < y.val) := by decide
  rw [h, List.pairwise_append] at hp
  exact fun x hx => hp.2.2 x hx c (by simp)
theorem bitsList_cons (x : Nat) (h0 : x ≠ 0) (hx : W64 x) : ∃ h : Lib.ctz 64 x < 64, bitsList x = ⟨Lib.ctz 64 x, h⟩ :: bitsList (drop1 x) := by
  obtain ⟨_, _, hk⟩ := ctz_spec x h0 hx
  obtain ⟨h1, h2⟩ := ctz_bit x h0 hx
  refine ⟨hk, ?_⟩
  unfold bitsList
  refine filter_first _ _ _ _ (by decide) (List.mem_finRange _) h1 (fun i => ?_) (fun a b h i hi => h2 _ (finRange_before a b _ h i hi))
  rw [drop1_bit x _ h0 hx]
  simp [Fin.ext_iff]
theorem bitsList_length (m : Nat) : (bitsList m).length ≤ 64 := by
  unfold bitsList
  exact Nat.le_trans (List.length_filter_le _ _) (by simp)
theorem bitsList_zero : bitsList 0 = [] := by decide

/-- all blocks below B lie as they lay, but Bm -/
structure But (B Bm : Nat) (W W' : World) : Prop where
  os : W'.os = W.os
  tape : W'.tape = W.tape
  output : W'.output = W.output
  size : W.heap.size ≤ W'.heap.size
  same : ∀ k, k < B → k ≠ Bm → W'.heap[k]? = W.heap[k]?
theorem But.of_below {B Bm : Nat} {W W' : World} (h : Below B W W') : But B Bm W W' := ⟨h.os, h.tape, h.output, h.size, fun k hk _ => h.block k hk⟩
theorem But.mono {B B' Bm : Nat} {W W' : World} (h : But B Bm W W') (hb : B' ≤ B) : But B' Bm W W' := ⟨h.os, h.tape, h.output, h.size, fun k hk => h.same k (Nat.lt_of_lt_of_le hk hb)⟩
theorem But.trans {B Bm : Nat} {X Y Z : World} (h : But B Bm X Y) (k : But B Bm Y Z) : But B Bm X Z :=
  ⟨k.os.trans h.os, k.tape.trans h.tape, k.output.trans h.output, Nat.le_trans h.size k.size, fun i hi hn => (k.same i hi hn).trans (h.same i hi hn)⟩
theorem But.refl (B Bm : Nat) (W : World) : But B Bm W W := ⟨rfl, rfl, rfl, Nat.le_refl _, fun _ _ _ => rfl⟩
theorem But.setCell {B Bm : Nat} (W : World) (i : Nat) (v : Value) : But B Bm W (W.setCell ⟨Bm, i, none⟩ v) :=
  ⟨rfl, rfl, rfl, by simp, fun k _ hk => Below.heap_setCell _ _ _ k hk⟩
def ShutB {β : Type} (B Bm : Nat) (J : β → World → Prop) : Prop := ∀ s W W', J s W → But B Bm W W' → J s W'
/-- the blocks of K, and all from B on, lie as they lay -/
structure Stays (K : Nat → Prop) (B : Nat) (W W' : World) : Prop where
  size : W.heap.size ≤ W'.heap.size
  same : ∀ k, (K k ∨ B ≤ k) → k < W.heap.size → W'.heap[k]? = W.heap[k]?
theorem Stays.refl (K : Nat → Prop) (B : Nat) (W : World) : Stays K B W W := ⟨Nat.le_refl _, fun _ _ _ => rfl⟩
theorem Stays.trans {K : Nat → Prop} {B : Nat} {X Y Z : World} (h : Stays K B X Y) (k : Stays K B Y Z) : Stays K B X Z :=
  ⟨Nat.le_trans h.size k.size, fun i hi hl => (k.same i hi (Nat.lt_of_lt_of_le hl h.size)).trans (h.same i hi hl)⟩
theorem Stays.of_below {K : Nat → Prop} {B : Nat} {X Y : World} (h : Below X.heap.size X Y) : Stays K B X Y := ⟨h.size, fun k _ hl => h.block k hl⟩
theorem Stays.mono {K : Nat → Prop} {B B' : Nat} {X Y : World} (h : Stays K B X Y) (hb : B ≤ B') : Stays K B' X Y :=
  ⟨h.size, fun i hi hl => h.same i (hi.imp id fun h => Nat.le_trans hb h) hl⟩
theorem Stays.putObj {K : Nat → Prop} {B : Nat} {X Y : World} (h : Stays K B X Y) {l : Nat} (hk : ¬ K l) (hl : l < B) (o : Obj) : Stays K B X (Y.putObj l o) :=
  ⟨by simpa [World.putObj] using h.size, fun i hi hlt => by
    rw [World.putObj_heap_other (fun e => by subst e; rcases hi with hi | hi; exact hk hi; omega)]
    exact h.same i hi hlt⟩
theorem Stays.setCell {K : Nat → Prop} {B : Nat} {X Y : World} (h : Stays K B X Y) {p : Addr} (hk : ¬ K p.block) (hl : p.block < B) (v : Value) : Stays K B X (Y.setCell p v) :=
  ⟨by simpa [World.setCell] using h.size, fun i hi hlt => (Below.heap_setCell _ _ _ _ (fun e => by subst e; rcases hi with hi | hi; exact hk hi; omega)).trans (h.same i hi hlt)⟩
theorem cards1_but (n l Bm m : Nat) (hm : W64 m) (J : List (Fin 64) → World → Prop) (Jx : List (Fin 64) → Fin 64 → World → Prop) (W : World) (hBm : Row W Bm 22 #[.int .u64 (m : Int)]) (hJ : ShutB W.heap.size Bm J) (hT : ∀ s W, J s W → Tab W)
    (hY : ∀ pre x suf W1, bitsList m = pre ++ x :: suf → J pre W1 → W.heap.size ≤ W1.heap.size → YieldAt Fence.wide (n - 1) Tryd.prog l #[.int .u8 (x.val : Int)] W1 fun e W' =>
      (e = .returned (.bool true) ∧ J (pre ++ [x]) W' ∧ Stays (· = Bm) W.heap.size W1 W') ∨ (e = .returned (.bool false) ∧ Jx pre x W'))
    (hJ0 : J [] W) :
    CallsIn Fence.wide n Tryd.prog 81 #[.func (.yield l) #[] #[], .pointer (some ⟨Bm, 0, none⟩)] W fun e W' => (∃ v, e = .returned v) ∧
      (J (bitsList m) W' ∨ (∃ pre x suf, bitsList m = pre ++ x :: suf ∧ Jx pre x W')) := by
  refine callsIn_of_wp Tryd.func81 rfl trivial ?_ rfl
  simp only [Tryd.ntmps81, List.size_toArray, List.length_cons, List.length_nil, Nat.reduceAdd, Nat.reduceSub, Array.replicate_succ, Array.replicate_zero, List.push_toArray, List.append_toArray, List.nil_append, List.cons_append]
  have HY := Lib.hid hY
  have HT := Lib.hid hT
  have HJ := Lib.hid hJ
  clear hY hT hJ
  gi_wp2
  gi_loopw [] (fun wr => ∃ (pre : List (Fin 64)) (x : Nat), W64 x ∧ bitsList m = pre ++ bitsList x ∧ J pre wr ∧ Row wr Bm 22 #[.int .u64 (x : Int)] ∧ W.heap.size ≤ wr.heap.size)
    (fun wr => match wr.cell? ⟨Bm, 0, none⟩ with | some v => (intOf v).toNat | none => 0)
  case atStart => exact ⟨[], m, hm, rfl, hJ0, hBm, Nat.le_refl _⟩
  case round =>
    clear hBm
    obtain ⟨pre, x, hx, hbl, hJs, hR, hsz⟩ := hrel
    have HB := Lib.hid hbl
    have c0 := hR.cell 0
    simp only [List.getElem?_toArray, List.getElem?_cons_zero] at c0
    have HS := Lib.hid hsz
    clear hbl hsz
    by_cases hx0 : x = 0
    · subst hx0
      gi_wp2
      go_end0
      exact ⟨⟨_, rfl⟩, .inl (by rw [HB.out, bitsList_zero, List.append_nil]; exact hJs)⟩
    · have hx0' : ((x : Int) != 0) = true := by rw [bne_iff_ne]; omega
      obtain ⟨hk, hcons⟩ := bitsList_cons x hx0 hx
      have HC := Lib.hid hcons
      clear hcons
      obtain ⟨fn, tmps, assign, body, hy, hRd⟩ := HY.out pre ⟨Lib.ctz 64 x, hk⟩ (bitsList (drop1 x)) wr (by rw [HB.out, HC.out]) hJs HS.out
      have hz := bits_tz x hx hx0 wr (HT.out _ _ hJs)
      generalize Lib.ctz 64 x = c at *
      dsimp only at hy
      have HR := Lib.hid hR
      clear hR
      gi_wp2_with (gi_at_call 73; refine (callsIn_wide.2 hz).mono ?_; rintro e w' ⟨rfl, rfl⟩)
      refine hRd.mono ?_
      rintro e W3 (⟨rfl, hJ3, hS3⟩ | ⟨rfl, hJx3⟩)
      · have hR3 : Row W3 Bm 22 #[.int .u64 (x : Int)] := HR.out.same (hS3.same Bm (.inl rfl) HR.out.lt)
        have hsz3 : W.heap.size ≤ W3.heap.size := Nat.le_trans HS.out hS3.size
        have hdr : bits BinOp.and IntKind.u64 (x : Int) (IntKind.u64.wrap ((x : Int) - 1)) = ((drop1 x : Nat) : Int) := by
          have e : IntKind.u64.wrap ((x : Int) - 1) = ((x - 1 : Nat) : Int) := by
            unfold W64 at hx; rw [IntKind.wrap_u64]; omega
          rw [e, bits_and_nat x _ hx (by unfold W64 at *; omega)]; rfl
        have d0 := hR3.cell 0
        simp only [List.getElem?_toArray, List.getElem?_cons_zero] at d0
        have hf := hR3.frozen 0
        have hR4 : Row (W3.setCell ⟨Bm, 0, none⟩ (.int .u64 ((drop1 x : Nat) : Int))) Bm 22 #[.int .u64 ((drop1 x : Nat) : Int)] := hR3.set 0 _
        have hJ4 := HJ.out _ _ _ hJ3 (But.setCell (B := W.heap.size) (Bm := Bm) W3 0 (.int .u64 ((drop1 x : Nat) : Int)))
        have hlt := drop1_lt x hx0
        have HD := Lib.hid (And.intro hR4 hJ4)
        have HE := Lib.hid hsz3
        have c0' := c0
        clear hR4 hJ4 hS3 hsz3 hR3 hJ3 hJs
        gi_wp2
        go_roundw
        case rel => exact ⟨pre ++ [⟨c, hk⟩], drop1 x, Nat.lt_of_lt_of_le hlt (Nat.le_of_lt hx), by rw [HB.out, HC.out]; simp, HD.out.2, HD.out.1, by simpa using HE.out⟩
        case measure =>
          have e4 := HD.out.1.cell 0
          simp only [List.getElem?_toArray, List.getElem?_cons_zero] at e4
          rw [e4, c0']
          simpa [intOf] using hlt
      · gi_wp2
        refine bodyPost_ret (results_none rfl _ _ _) rfl ?_
        exact ⟨⟨_, rfl⟩, .inr ⟨pre, ⟨c, hk⟩, bitsList (drop1 x), by rw [HB.out, HC.out], hJx3⟩⟩

theorem dm_cards (m : Nat) (w : World) :
    Calls Tryd.prog 66 #[.int .u64 (m : Int)] w fun e w' =>
      e = .returned (.func (.func 81) #[] #[.pointer (some ⟨w.heap.size, 0, none⟩)]) ∧ w' = w.alloc (.cells #[.int .u64 (m : Int)] 22) := by
  go_enter Tryd.func66, Tryd.ntmps66
  go_wp2
  go_ret
  exact ⟨rfl, rfl⟩
end Go.Proofs.YtnbillhodbcfbaaDoor

/- The law for 'for c := range cards(m)' where the iterator keeps what is left of m in a block of its own, and the body may break. -/
namespace Go.Proofs.YtnbillhodbcfbaaDoor
open Go.RowKit Go.Shelf Go.Sort
attribute [local go_sem] Oper.semAt_some

theorem below_putObj {B : Nat} {W : World} {l : Nat} {o : Obj} (o' : Obj) (hB : B ≤ l) (h : W.heap[l]? = some o) : Below B W (W.putObj l o') :=
  (Below.refl B W).grown (grownBy_putObj' W l o') (by have := (Array.getElem?_eq_some_iff.1 h).1; omega) (fun k e => by cases e; exact hB)
/-- the frame in a round: the card lies in slots p and q -/
def inFrame (a : Act) (p q : Nat) (x : Fin 64) : Act := { tmps := (a.tmps.setIfInBounds p (.int .u8 (x.val : Int))).setIfInBounds q (.int .u8 (x.val : Int)), defers := [] }
theorem range_dm {n p q id ty : Nat} {ps : String} {body : Code} {g : Operand} {Q : Exit → Act → World → Prop} {a : Act} {w : World} (Bm m : Nat) (h1 : 1 ≤ n)
    (hg : a.eval g = .func (.func 81) #[] #[.pointer (some ⟨Bm, 0, none⟩)]) (hp : p < a.tmps.size) (hm : W64 m) (hR : Row w Bm 22 #[.int .u64 (m : Int)])
    (I : List (Fin 64) → World → Prop) (Ix : Code → List (Fin 64) → Fin 64 → World → Prop) (hI : ShutB w.heap.size Bm I) (hIx : ∀ c pre x W W', Ix c pre x W → But w.heap.size Bm W W' → Ix c pre x W') (hT : ∀ s W, I s W → Tab W) (h0 : I [] w)
    (hbody : ∀ (l : Nat) (pre suf : List (Fin 64)) (x : Fin 64) (W : World), bitsList m = pre ++ x :: suf → I pre W → w.heap.size ≤ W.heap.size →
      body.wpIn (Fence.wide.inRound l) (n - 1 - 1) Tryd.prog (fun e _ W' => (e = .normal ∧ Stays (· = Bm) w.heap.size W W' ∧ I (pre ++ [x]) W') ∨ (∃ i, e = .exit i ∧ Stays (fun _ => False) w.heap.size W W' ∧ Ix (.exit i) pre x W')) (inFrame a p q x) W)
    (hdone : ∀ (D : Nat) (W : World), w.heap.size ≤ D → I (bitsList m) W → W.heap[D]? = some (.deferred (some [])) → Q .normal { a with defers := { target := .collected D, args := #[] } :: a.defers } W)
    (hstop : ∀ (D : Nat) (c : Code) (pre suf : List (Fin 64)) (x : Fin 64) (W : World), w.heap.size ≤ D → bitsList m = pre ++ x :: suf → Ix c pre x W → W.heap[D]? = some (.deferred (some [])) → c.wpIn Fence.wide n Tryd.prog Q { a with defers := { target := .collected D, args := #[] } :: a.defers } W) :
    (Code.rangeFunc g #[p] (Code.region id #[{ dst := some q, op := .assign (.tmp p), type := ty, pos := ps, after := #[], guard := none }] false) body).wpIn Fence.wide n Tryd.prog Q a w := by
  refine wpIn_rangeFunc ?_
  intro fn hfn
  rw [show Fence.wide.round = none from rfl]
  have hBl : Bm < w.heap.size := hR.lt
  obtain ⟨asg, hasg⟩ : ∃ c, c = Code.region id #[{ dst := some q, op := .assign (.tmp p), type := ty, pos := ps, after := #[], guard := none }] false := ⟨_, rfl⟩
  obtain ⟨rec, hrec⟩ : ∃ rec : LoopState → Option Code → Loop, rec = fun st pe => { state := st, pending := pe, fn, tmps := a.tmps, params := #[p], assign := asg, body, defers := w.heap.size } := ⟨_, rfl⟩
  obtain ⟨W1, hW1⟩ : ∃ W1, (w.alloc (.deferred (some []))).alloc (.loop (rec .ready none)) = W1 := ⟨_, rfl⟩
  have hs1 : W1.heap.size = w.heap.size + 2 := by rw [← hW1]; simp
  have hL1 : W1.heap[w.heap.size + 1]? = some (.loop (rec .ready none)) := by
    rw [← hW1]; have := World.alloc_heap_new (w.alloc (.deferred (some []))) (.loop (rec .ready none)); rwa [World.size_alloc] at this
  have hK1 : W1.heap[w.heap.size]? = some (.deferred (some [])) := by
    rw [← hW1]; exact (Below.heap_alloc _ _ _ (by simp)).trans (World.alloc_heap_new w _)
  have hbW : Below w.heap.size w W1 := by rw [← hW1]; exact ((Below.refl _ w).alloc (Nat.le_refl _) _).alloc (by simp) _
  have hR1 : Row W1 Bm 22 #[.int .u64 (m : Int)] := hR.below hBl hbW
  have hI1 : I [] W1 := hI _ _ _ h0 (But.of_below hbW)
  rw [← hasg]
  refine ⟨w.heap.size + 1, [{ target := .collected w.heap.size, args := #[] }], W1, { target := .fn (.func 81) #[.pointer (some ⟨Bm, 0, none⟩)], args := #[.func (.yield (w.heap.size + 1)) #[] #[]] }, W1, 81,
    #[.func (.yield (w.heap.size + 1)) #[] #[]] ++ #[.pointer (some ⟨Bm, 0, none⟩)], W1, ?_, ?_, ?_, ?_, fun _ => h1, ?_⟩
  · rw [← hW1, hrec]; exact run_enterLoop_outer _ _ _ _ _
  · simp only [resolve, hg]
    simp [go_sem]
  · intro f' hf'; simp [Target.leads] at hf'; subst hf'; trivial
  · simp [invoke, go_sem]
  · refine (cards1_but (n - 1) (w.heap.size + 1) Bm m hm
      (fun pre W => I pre W ∧ W.heap[w.heap.size + 1]? = some (.loop (rec .ready none)) ∧ W.heap[w.heap.size]? = some (.deferred (some [])))
      (fun pre x W => ∃ c, Ix c pre x W ∧ W.heap[w.heap.size + 1]? = some (.loop (rec .done (some c))) ∧ W.heap[w.heap.size]? = some (.deferred (some [])))
      W1 hR1
      (fun s A B hs hb => ⟨hI _ _ _ hs.1 (hb.mono (by omega)), (hb.same _ (by omega) (by omega)).trans hs.2.1, (hb.same _ (by omega) (by omega)).trans hs.2.2⟩)
      (fun s A hs => hT s A hs.1) ?_ ⟨hI1, hL1, hK1⟩).mono ?_
    · rintro pre x suf W hx ⟨hi, hl, hk⟩ hsz
      have hy := run_yield (P := Tryd.prog) (args := #[.int .u8 (x.val : Int)]) hl (by rw [hrec]; rfl)
      rw [hrec] at hy
      have hlt : w.heap.size + 1 < W.heap.size := (Array.getElem?_eq_some_iff.1 hl).1
      refine ⟨fn, _, asg, body, hy, roundIn_of_wpIn hfn ?_⟩
      clear hy
      have hasgn : ∀ (K : Act → World → Prop), K (inFrame a p q x) W → asg.wpIn (Fence.wide.inRound (w.heap.size + 1)) (n - 1 - 1) Tryd.prog (Exit.then K (fun _ _ _ => False)) { tmps := ((#[p] : Array Tmp).zip #[Value.int .u8 (x.val : Int)]).foldl (fun t (p, v) => t.setIfInBounds p v) a.tmps, defers := [] } W := by
        intro K hK
        rw [hasg]
        refine wpIn_region_lit ?_
        simp only [List.zip_toArray, List.zip_cons_cons, List.zip_nil_left]
        simp [wpListIn, Oper.wpIn, go_sem, Oper.about, Oper.uponIn, execOp, Act.eval, Act.put, Exit.then]
        rw [if_pos hp]
        exact hK
      refine hasgn _ ⟨_, run_beginRound hl (by rw [hrec]), ?_⟩
      have hl2 : (W.putObj (w.heap.size + 1) (.loop { rec .ready none with state := .busy })).heap[w.heap.size + 1]? = some (.loop { rec .ready none with state := .busy }) := World.putObj_heap_same hlt
      have hk2 : (W.putObj (w.heap.size + 1) (.loop { rec .ready none with state := .busy })).heap[w.heap.size]? = some (.deferred (some [])) := (World.putObj_heap_other (by omega)).trans hk
      have hi2 := hI _ _ _ hi (But.of_below (below_putObj (B := w.heap.size) (.loop { rec .ready none with state := .busy }) (by omega) hl))
      refine wpIn_mono (hbody _ pre suf x _ hx hi2 (by simp [World.putObj]; omega)) ?_
      have hnK : ¬ (w.heap.size + 1 = Bm) := by omega
      have fin : ∀ (jump : Option Code) (W3 : World), Stays (fun _ => False) w.heap.size (W.putObj (w.heap.size + 1) (.loop { rec .ready none with state := .busy })) W3 →
          (Instr.endRound (w.heap.size + 1) jump).run Tryd.prog W3 = .ok (.bool jump.isNone) (W3.putObj (w.heap.size + 1) (.loop (rec (if jump.isNone then .ready else .done) jump))) ∧
          W3.heap[w.heap.size + 1]? = some (.loop { rec .ready none with state := .busy }) ∧
          (W3.putObj (w.heap.size + 1) (.loop (rec (if jump.isNone then .ready else .done) jump))).heap[w.heap.size + 1]? = some (.loop (rec (if jump.isNone then .ready else .done) jump)) ∧
          (W3.putObj (w.heap.size + 1) (.loop (rec (if jump.isNone then .ready else .done) jump))).heap[w.heap.size]? = some (.deferred (some [])) := fun jump W3 hk3 => by
        have hl3 := (hk3.same _ (.inr (by omega)) (Array.getElem?_eq_some_iff.1 hl2).1).trans hl2
        have := run_endRound (P := Tryd.prog) jump hl3
        rw [hrec] at this ⊢
        exact ⟨this, by rw [hrec] at hl3; exact hl3, World.putObj_heap_same (Array.getElem?_eq_some_iff.1 hl3).1, (World.putObj_heap_other (by omega)).trans ((hk3.same _ (.inr (Nat.le_refl _)) (Array.getElem?_eq_some_iff.1 hk2).1).trans hk2)⟩
      rintro e a3 W3 (⟨rfl, hs3, hi3⟩ | ⟨i, rfl, hs3, hi3⟩)
      · obtain ⟨hr, hl3, hl4, hk4⟩ := fin none W3 ⟨hs3.size, fun k hk => hs3.same k (.inr (hk.resolve_left (fun h => h)))⟩
        have hs2 : Stays (· = Bm) W1.heap.size W W3 := ((Stays.refl (· = Bm) W1.heap.size W).putObj hnK (by omega) (.loop { rec .ready none with state := .busy })).trans (hs3.mono (B' := W1.heap.size) (by omega))
        exact ⟨_, _, hr, .inl ⟨rfl, ⟨hI _ _ _ hi3 (But.of_below (below_putObj _ (by omega) hl3)), hl4, hk4⟩, hs2.putObj hnK (by omega) _⟩⟩
      · obtain ⟨hr, hl3, hl4, hk4⟩ := fin (some (.exit i)) W3 hs3
        exact ⟨_, _, hr, .inr ⟨rfl, .exit i, hIx _ _ _ _ _ hi3 (But.of_below (below_putObj _ (by omega) hl3)), hl4, hk4⟩⟩
    · rintro e W2 ⟨⟨v, rfl⟩, (⟨hi, hl, hk⟩ | ⟨pre, x, suf, hx, c, hi, hl, hk⟩)⟩
      · exact ⟨none, _, by have := run_endLoop (P := Tryd.prog) hl (by rw [hrec]; simp); rw [hrec] at this; exact this, hdone _ _ (Nat.le_refl _) (hI _ _ _ hi (But.of_below (below_putObj _ (by omega) hl))) ((World.putObj_heap_other (by omega)).trans hk)⟩
      · exact ⟨some c, _, by have := run_endLoop (P := Tryd.prog) hl (by rw [hrec]; simp); rw [hrec] at this; exact this, hstop _ _ _ _ _ _ (Nat.le_refl _) hx (hIx _ _ _ _ _ hi (But.of_below (below_putObj _ (by omega) hl))) ((World.putObj_heap_other (by omega)).trans hk)⟩
end Go.Proofs.YtnbillhodbcfbaaDoor
