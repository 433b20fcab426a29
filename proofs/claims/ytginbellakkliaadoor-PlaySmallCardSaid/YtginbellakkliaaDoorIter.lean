/- math/bits.TrailingZeros64 and the iterator trick.cards over this seat's program. -/
import Derived.RangeFuncNested
import Derived.RangeFuncBound
import Derived.RangeFuncCalls
import Derived.RangeFuncLeaves
import Derived.Shelf.Abstract
import Derived.Shelf.RegionOpen
import Derived.WalkKit
import Derived.OwnWalkIn
import Derived.TacticsInMore
import Derived.LoopNIn
import Derived.LoopIn
import Derived.Lib.TrailingZeros
import Derived.Test.YtginbellakkliaaDoorMTrick
namespace Go.Proofs.YtginbellakkliaaDoor
open Go.RowKit Go.Shelf
attribute [local go_sem] Oper.semAt_some

theorem wide_fn (f : Nat) : Fence.wide.fn f = True := rfl
theorem wide_depth : Fence.wide.depth = none := rfl
attribute [go_sem] wide_fn wide_depth
/-- The table of math/bits lies in its variable. -/
def Tab (w : World) : Prop := ∀ j, j < 64 → w.cell? ⟨0, j, none⟩ = some (.int .u8 ((Lib.deBruijn64tab.getD j 0 : Nat) : Int))
theorem Tab.below {w w' : World} (h : Tab w) {B : Nat} (hB : 0 < B) (hb : Below B w w') : Tab w' := fun j hj => (hb.cell (p := ⟨0, j, none⟩) hB).trans (h j hj)
theorem Tab.pos {w : World} (h : Tab w) : 0 < w.heap.size := block_lt_of_cell (h 0 (by decide))

theorem tz_core (x k idx : Nat) (w : World) (hx0 : ((x : Int) == 0) = false)
    (key : IntKind.u64.wrap (bits BinOp.and IntKind.u64 (x : Int) (IntKind.u64.wrap (-(x : Int))) * 285870213051353865) / 288230376151711744 = (idx : Int))
    (hi : idx < 64) (hk : k < 64) (hcell : w.cell? ⟨0, idx, none⟩ = some (.int .u8 (k : Int))) :
    Calls Tryd.prog 45 #[.int .u64 (x : Int)] w fun e w' => e = .returned (.int .i64 (k : Int)) ∧ w = w' := by
  go_enter Tryd.func45, Tryd.ntmps45
  go_wp2_with (simp only [key])
  go_ret
  exact ⟨rfl, rfl⟩
theorem bits_and_nat (a b : Nat) (ha : W64 a) (hb : W64 b) : bits .and .u64 (a : Int) (b : Int) = ((a &&& b : Nat) : Int) := by
  have h := run_and64 a b ha hb
  rw [intBits_and] at h
  injection h with h
  injection h
theorem tz_key (x a : Nat) (hx : x < 18446744073709551616) (hx0 : x ≠ 0) (hlow : x &&& (18446744073709551616 - x) = a) :
    IntKind.u64.wrap (bits BinOp.and IntKind.u64 (x : Int) (IntKind.u64.wrap (-(x : Int))) * 285870213051353865) / 288230376151711744 = ((a * 285870213051353865 % 18446744073709551616 / 288230376151711744 : Nat) : Int) := by
  have e1 : IntKind.u64.wrap (-(x : Int)) = ((18446744073709551616 - x : Nat) : Int) := by rw [IntKind.wrap_u64]; omega
  rw [e1, bits_and_nat x _ hx (by unfold W64; omega), hlow, IntKind.wrap_u64]
  omega
theorem bits_tz (x : Nat) (hx : W64 x) (hx0 : x ≠ 0) (w : World) (hT : Tab w) :
    Calls Tryd.prog 45 #[.int .u64 (x : Int)] w fun e w' => e = .returned (.int .i64 ((Lib.ctz 64 x : Nat) : Int)) ∧ w = w' := by
  obtain ⟨hlow, hk⟩ := Lib.lowest_bit 64 x hx0 hx
  obtain ⟨hi, htab⟩ := Lib.deBruijn64_at _ hk
  have hcell := hT _ hi
  rw [htab] at hcell
  exact tz_core x _ _ w (by simp; omega) (tz_key x _ hx hx0 hlow) hi hk hcell

/-- The bits of a word, the least first. -/
def bitsList (m : Nat) : List (Fin 64) := (List.finRange 64).filter fun i => m.testBit i.val

/-- A word without its lowest bit. -/
def drop1 (x : Nat) : Nat := x &&& (x - 1)
theorem drop1_lt (x : Nat) (h : x ≠ 0) : drop1 x < x := by
  have : drop1 x ≤ x - 1 := Nat.and_le_right
  omega
theorem ctz_spec (x : Nat) (h0 : x ≠ 0) (hx : x < 2 ^ 64) : ∃ m, x = 2 ^ Lib.ctz 64 x * (2 * m + 1) ∧ Lib.ctz 64 x < 64 := by
  unfold Lib.ctz; rw [if_neg h0]; exact Lib.ctzFrom_spec 64 x (by omega) hx
/-- the bits of 2^k (2m+1) and of that less one -/
theorem odd_bit (k m i : Nat) : (2 ^ k * (2 * m + 1)).testBit i = (decide (i = k) || (decide (k < i) && m.testBit (i - k - 1))) := by
  rw [Nat.testBit_two_pow_mul]
  by_cases h : k ≤ i
  · by_cases h2 : i = k
    · subst h2; simp
    · have : i - k = (i - k - 1) + 1 := by omega
      rw [this, Nat.testBit_succ]
      have e : (2 * m + 1) / 2 = m := by omega
      have h3 : k < i := by omega
      simp [e, h2, h, h3]
  · have h2 : ¬ i = k := by omega
    have h3 : ¬ k < i := by omega
    simp [h, h2, h3]
theorem even_bit (k m i : Nat) : (2 ^ k * (2 * m)).testBit i = (decide (k < i) && m.testBit (i - k - 1)) := by
  have : 2 ^ k * (2 * m) = 2 ^ (k + 1) * m := by rw [Nat.pow_succ]; ac_rfl
  rw [this, Nat.testBit_two_pow_mul]
  by_cases h : k < i
  · have e : i - (k + 1) = i - k - 1 := by omega
    have h3 : k + 1 ≤ i := by omega
    simp [e, h, h3]
  · have h3 : ¬ k + 1 ≤ i := by omega
    simp [h, h3]
theorem low_bit (k a i : Nat) : (2 ^ k * (2 * a) + (2 ^ k - 1)).testBit i = (decide (i < k) || (decide (k < i) && a.testBit (i - k - 1))) := by
  have hp : 2 ^ k - 1 < 2 ^ k := by have := Nat.two_pow_pos k; omega
  rw [Nat.two_pow_add_eq_or_of_lt hp, Nat.testBit_or, even_bit, Nat.testBit_two_pow_sub_one]
  exact Bool.or_comm _ _
theorem drop1_bit (x i : Nat) (h0 : x ≠ 0) (hx : x < 2 ^ 64) : (drop1 x).testBit i = (x.testBit i && decide (i ≠ Lib.ctz 64 x)) := by
  obtain ⟨m, hm, hk⟩ := ctz_spec x h0 hx
  generalize Lib.ctz 64 x = k at *
  subst hm
  have hp := Nat.two_pow_pos k
  have e : 2 ^ k * (2 * m + 1) - 1 = 2 ^ k * (2 * m) + (2 ^ k - 1) := by
    rw [Nat.mul_add, Nat.mul_one]; omega
  unfold drop1
  rw [e, Nat.testBit_and, odd_bit, low_bit]
  by_cases h1 : i = k
  · subst h1; simp
  · by_cases h2 : i < k
    · have : ¬ k < i := by omega
      simp [h1, h2, this]
    · simp [h1, h2]
theorem ctz_bit (x : Nat) (h0 : x ≠ 0) (hx : x < 2 ^ 64) : x.testBit (Lib.ctz 64 x) = true ∧ ∀ i, i < Lib.ctz 64 x → x.testBit i = false := by
  obtain ⟨m, hm, hk⟩ := ctz_spec x h0 hx
  generalize Lib.ctz 64 x = k at *
  subst hm
  refine ⟨by rw [odd_bit]; simp, fun i hi => ?_⟩
  rw [odd_bit]
  have h1 : ¬ i = k := by omega
  have h2 : ¬ k < i := by omega
  simp [h1, h2]
theorem filter_first {α : Type} (p q : α → Bool) (l : List α) (c : α) (hn : l.Nodup) (hc : c ∈ l) (hp : p c = true)
    (hq : ∀ x, q x = true ↔ (p x = true ∧ x ≠ c)) (hf : ∀ a b, l = a ++ c :: b → ∀ x ∈ a, p x = false) : l.filter p = c :: l.filter q := by
  obtain ⟨a, b, rfl⟩ := List.append_of_mem hc
  have ha := hf a b rfl
  have hca : c ∉ a ∧ c ∉ b := by
    rw [List.nodup_append] at hn
    obtain ⟨h1, h2, h3⟩ := hn
    exact ⟨fun h => h3 c h c (by simp) rfl, fun h => (List.nodup_cons.1 h2).1 h⟩
  have e1 : a.filter p = [] := by rw [List.filter_eq_nil_iff]; intro x hx; rw [ha x hx]; simp
  have e2 : a.filter q = [] := by
    rw [List.filter_eq_nil_iff]; intro x hx hq'
    have := ((hq x).1 hq').1; rw [ha x hx] at this; cases this
  have e3 : b.filter p = b.filter q := by
    apply List.filter_congr
    intro x hx
    have hne : x ≠ c := fun h => hca.2 (h ▸ hx)
    rw [Bool.eq_iff_iff, hq x]; simp [hne]
  have e4 : q c = false := by
    cases h : q c
    · rfl
    · exact absurd rfl ((hq c).1 h).2
  rw [List.filter_append, List.filter_append, List.filter_cons, List.filter_cons, e1, e2, e3, hp, e4]
  simp
theorem finRange_before (a b : List (Fin 64)) (c : Fin 64) (h : List.finRange 64 = a ++ c :: b) : ∀ x ∈ a, x.val < c.val := by
  have hp : (List.finRange 64).Pairwise (fun x y => x.val < y.val) := by decide
  rw [h, List.pairwise_append] at hp
  exact fun x hx => hp.2.2 x hx c (by simp)
theorem bitsList_cons (x : Nat) (h0 : x ≠ 0) (hx : W64 x) : ∃ h : Lib.ctz 64 x < 64, bitsList x = ⟨Lib.ctz 64 x, h⟩ :: bitsList (drop1 x) := by
  obtain ⟨_, _, hk⟩ := ctz_spec x h0 hx
  obtain ⟨h1, h2⟩ := ctz_bit x h0 hx
  refine ⟨hk, ?_⟩
  unfold bitsList
  refine filter_first _ _ _ _ (by decide) (List.mem_finRange _) h1 (fun i => ?_) (fun a b h i hi => h2 _ (finRange_before a b _ h i hi))
  rw [drop1_bit x _ h0 hx]
  simp [Fin.ext_iff]
theorem bitsList_length (m : Nat) : (bitsList m).length ≤ 64 := by
  unfold bitsList
  exact Nat.le_trans (List.length_filter_le _ _) (by simp)
theorem bitsList_zero : bitsList 0 = [] := by decide

theorem cards1_in (n l Bm n₀ m : Nat) (hm : W64 m) (h0 : 0 < n₀) (J Jx : List (Fin 64) → World → Prop)
    (hY : ∀ (pre : List (Fin 64)) (x : Fin 64) W, J pre W → pre.length < 64 → YieldAt Fence.wide (n - 1) Tryd.prog l #[.int .u8 (x.val : Int)] W fun e W' =>
      (e = .returned (.bool true) ∧ J (pre ++ [x]) W' ∧ Below n₀ W W') ∨ (e = .returned (.bool false) ∧ Jx (pre ++ [x]) W'))
    (W : World) (hBm : W.cell? ⟨Bm, 0, none⟩ = some (.int .u64 (m : Int))) (hT : Tab W) (hJ0 : J [] W) :
    CallsIn Fence.wide n Tryd.prog 82 #[.func (.yield l) #[] #[], .pointer (some ⟨Bm, 0, none⟩)] W fun e W' => (∃ v, e = .returned v) ∧
      ((∃ ys, ys = bitsList m ∧ J ys W') ∨ (∃ pre, pre <+: bitsList m ∧ Jx pre W')) := by
  refine callsIn_of_wp Tryd.func82 rfl trivial ?_ rfl
  simp only [Tryd.ntmps82, List.size_toArray, List.length_cons, List.length_nil, Nat.reduceAdd, Nat.reduceSub, Array.replicate_succ, Array.replicate_zero, List.push_toArray, List.append_toArray, List.nil_append, List.cons_append]
  have HY := Lib.hid hY
  clear hY
  gi_wp2
  gi_loopw [3] (fun p wr => ∃ (pre : List (Fin 64)) (x : Nat), p = .int .u64 (x : Int) ∧ W64 x ∧ bitsList m = pre ++ bitsList x ∧ J pre wr ∧ Tab wr)
    (fun p _ => (intOf p).toNat)
  case atStart => exact ⟨[], m, rfl, hm, rfl, hJ0, hT⟩
  case round =>
    obtain ⟨pre, x, rfl, hx, hbl, hJs, hTr⟩ := hrel
    have HB := Lib.hid hbl
    clear hbl
    by_cases hx0 : x = 0
    · subst hx0
      gi_wp2
      go_end0
      exact ⟨⟨_, rfl⟩, .inl ⟨pre, by rw [HB.out, bitsList_zero]; simp, hJs⟩⟩
    · have hx0' : ((x : Int) != 0) = true := by rw [bne_iff_ne]; omega
      obtain ⟨hk, hcons⟩ := bitsList_cons x hx0 hx
      have HC := Lib.hid hcons
      clear hcons
      have hlen : pre.length < 64 := by
        have h := bitsList_length m
        rw [HB.out, HC.out, List.length_append, List.length_cons] at h
        omega
      obtain ⟨fn, tmps, assign, body, hy, hR⟩ := HY.out pre ⟨Lib.ctz 64 x, hk⟩ wr hJs hlen
      have hz := bits_tz x hx hx0 wr hTr
      generalize Lib.ctz 64 x = c at *
      dsimp only at hy
      gi_wp2_with (gi_at_call 45; refine (callsIn_wide.2 hz).mono ?_; rintro e w' ⟨rfl, rfl⟩)

      refine hR.mono ?_
      rintro e W3 (⟨rfl, hJ3, hk3⟩ | ⟨rfl, hJx3⟩)
      · have hdr : bits BinOp.and IntKind.u64 (x : Int) (IntKind.u64.wrap ((x : Int) - 1)) = ((drop1 x : Nat) : Int) := by
          have e : IntKind.u64.wrap ((x : Int) - 1) = ((x - 1 : Nat) : Int) := by
            unfold W64 at hx; rw [IntKind.wrap_u64]; omega
          rw [e, bits_and_nat x _ hx (by unfold W64 at *; omega)]; rfl
        have HD := Lib.hid hdr
        clear hdr
        gi_wp2
        have hdr := HD.out
        go_roundw
        case rel => exact ⟨pre ++ [⟨c, hk⟩], drop1 x, by rw [hdr], Nat.lt_of_lt_of_le (drop1_lt x hx0) (Nat.le_of_lt hx), by rw [HB.out, HC.out]; simp, hJ3, hTr.below h0 hk3⟩
        case measure =>
          have := drop1_lt x hx0
          rw [hdr]; simp [intOf]; exact this
      · gi_wp2
        refine bodyPost_ret (results_none rfl _ _ _) rfl ?_
        exact ⟨⟨_, rfl⟩, .inr ⟨pre ++ [⟨c, hk⟩], ⟨bitsList (drop1 x), by rw [HB.out, HC.out]; simp⟩, hJx3⟩⟩

theorem cards1_stops (n Bm n₀ m : Nat) (w : World) (hm : W64 m) (h0 : 0 < n₀) (hc : w.cell? ⟨Bm, 0, none⟩ = some (.int .u64 (m : Int))) (hT : Tab w) :
    SeqStopsK Fence.wide n Tryd.prog 82 #[.pointer (some ⟨Bm, 0, none⟩)] (fun x : Fin 64 => #[.int .u8 (x.val : Int)]) (Below n₀) (fun xs => xs = bitsList m) (fun pre => pre <+: bitsList m) 64 w := by
  intro l J Jx W hW hJ hJx hY hJ0
  exact cards1_in n l Bm n₀ m hm h0 J Jx hY W ((hW.cell (p := ⟨Bm, 0, none⟩) (block_lt_of_cell hc)).trans hc) (hT.below (hT.pos) hW) hJ0

theorem trick_cards (m : Nat) (w : World) :
    Calls Tryd.prog 62 #[.int .u64 (m : Int)] w fun e w' =>
      e = .returned (.func (.func 82) #[] #[.pointer (some ⟨w.heap.size, 0, none⟩)]) ∧ w' = w.alloc (.cells #[.int .u64 (m : Int)] 24) := by
  go_enter Tryd.func62, Tryd.ntmps62
  go_wp2
  go_ret
  exact ⟨rfl, rfl⟩
end Go.Proofs.YtginbellakkliaaDoor
