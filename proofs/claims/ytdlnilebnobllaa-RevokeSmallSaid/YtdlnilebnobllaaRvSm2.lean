/- The body of finesselaw13.RevokeSmall over this seat's program. -/
import Derived.Test.YtdlnilebnobllaaRvTl
import Derived.Test.YtdlnilebnobllaaRvSm1
import Derived.Test.YtdlnilebnobllaaRvEx2
namespace Go.Proofs.Ytdlnilebnobllaa
open Go.RowKit Go.Shelf Go.Sort

theorem exr_any (n : Nat) (hn : n < 3) (w : World) : Calls Try.prog 13 #[.int .i64 (n : Int)] w fun e w' =>
    ∃ (r : Rc) (b : Nat), r.ok 8 8 ∧ r.zs.length = 8 ∧ (∀ i, r.zs.getD i 0 < 256) ∧ e = .returned (.agg #[.int .u64 (r.h 0 : Int), .int .u64 (r.h 1 : Int), .int .u64 (r.h 2 : Int), .int .u64 (r.h 3 : Int), .int .u8 (r.t : Int), .int .u8 (r.d : Int), .slice (some ⟨b, 0, none⟩) 8 8]) ∧ w.heap.size ≤ b ∧ Row w' b 5 (u8c r.zs) ∧ Below w.heap.size w w' := by
  have hk : ∀ n, (exRc n).ok 8 8 := fun n => ⟨ex_w64 n, (ex_td n).1, (ex_td n).2, by omega, by omega⟩
  rcases (show n = 0 ∨ n = 1 ∨ n = 2 by omega) with rfl | rfl | rfl
  · refine (exr_0 w).mono ?_
    rintro e w' ⟨b, rfl, h1, h2, h3⟩
    exact ⟨exRc 0, b, hk 0, rfl, byte_lit _ (by decide), rfl, h1, h2, h3⟩
  · refine (exr_1 w).mono ?_
    rintro e w' ⟨b, rfl, h1, h2, h3⟩
    exact ⟨exRc 1, b, hk 1, rfl, byte_lit _ (by decide), rfl, h1, h2, h3⟩
  · refine (exr_2 w).mono ?_
    rintro e w' ⟨b, rfl, h1, h2, h3⟩
    exact ⟨exRc 2, b, hk 2, rfl, byte_lit _ (by decide), rfl, h1, h2, h3⟩
theorem deal_field (x0 x1 x2 x3 x4 x5 x6 : Value) (w : World) : (Instr.field 27 (.agg #[x0, x1, x2, x3, x4, x5, x6]) 0).run Try.prog w = .ok (.agg #[x0, x1, x2, x3]) w := by kernel_rfl
/-- the cells of words -/
def u64c (l : List Nat) : Array Value := (l.map fun (z : Nat) => Value.int .u64 (z : Int)).toArray

theorem to_run2 (ad : Addr) (len cap k : Nat) (hk : k ≤ cap) (wx : World) :
    (Instr.slice 25 (.slice (some ad) len cap) none (some (.int .i64 (k : Int))) none).run Try.prog wx = .ok (.slice (some ad) k cap) wx := by
  have hsz : (sizeOf (Try.prog.elem 25)).run Try.prog wx = .ok 1 wx := by kernel_rfl
  rw [run_slice_h wx 25 _ len cap (by kernel_rfl) _ _ (by omega) (by omega), hsz]
  simp [Result.andThen, sliced, Addr.add]
theorem byt_head {w : World} {b L m : Nat} {zs : List Nat} (h : Byt w (some ⟨b, 0, none⟩) L zs) (hm : m ≤ L) : Byt w (some ⟨b, 0, none⟩) m (zs.take m) := by
  refine ⟨by rw [List.length_take, h.length]; omega, by have := h.small; omega, fun i => ?_, ?_⟩
  · have := h.byte i
    rw [List.getD_eq_getElem?_getD] at this ⊢
    rw [List.getElem?_take]
    split
    · exact this
    · simp
  · rcases Nat.eq_zero_or_pos m with h0 | h0
    · exact .inl h0
    · obtain ⟨b', off, he, hb, hc⟩ := h.at (by omega)
      refine .inr ⟨b', off, he, hb, fun i hi => ?_⟩
      rw [List.getD_eq_getElem?_getD, List.getElem?_take_of_lt hi, ← List.getD_eq_getElem?_getD]
      exact hc i (by omega)
theorem u8c_at (l : List Nat) (i : Nat) (h : i < l.length) : (u8c l)[i]? = some (.int .u8 ((l.getD i 0 : Nat) : Int)) := by
  simp [u8c, List.getD_eq_getElem?_getD, List.getElem?_eq_getElem h]
theorem set_byte {zs : List Nat} {ix v : Nat} (hb : ∀ i, zs.getD i 0 < 256) (hv : v < 256) (i : Nat) : (zs.set ix v).getD i 0 < 256 := by
  rw [List.getD_eq_getElem?_getD, List.getElem?_set]
  split
  · split
    · exact hv
    · simp
  · rw [← List.getD_eq_getElem?_getD]; exact hb i
/-- x ^ y -/
def lxor (m n : Nat) : Nat := m ^^^ n
theorem lxor_w64 {m n : Nat} (h : W64 m) (k : W64 n) : W64 (lxor m n) := Nat.xor_lt_two_pow (n := 64) h k
theorem run_xor64 (m n : Nat) (h : W64 m) (k : W64 n) : Op.intBits .xor .u64 (m : Int) (n : Int) = pure (.int .u64 ((lxor m n : Nat) : Int)) := by
  have e : Op.intBits .xor .u64 (m : Int) (n : Int) = pure (.int .u64 (IntKind.u64.wrap (((BitVec.ofInt 64 (m : Int)) ^^^ (BitVec.ofInt 64 (n : Int))).toNat : Nat))) := rfl
  rw [e, bv64, bv64, BitVec.toNat_xor, BitVec.toNat_ofNat, BitVec.toNat_ofNat, Nat.mod_eq_of_lt h.lt, Nat.mod_eq_of_lt k.lt]
  exact congrArg (fun x => pure (Value.int .u64 x)) (wrap_u64 (lxor m n) (lxor_w64 h k))
theorem u64c_at (l : List Nat) (i : Nat) (h : i < l.length) : (u64c l)[i]? = some (.int .u64 ((l.getD i 0 : Nat) : Int)) := by
  simp [u64c, List.getD_eq_getElem?_getD, List.getElem?_eq_getElem h]
set_option maxHeartbeats 4000000 in
set_option maxRecDepth 100000 in
theorem law_RevokeSmall (w : World) : Calls Try.prog 4 #[] w fun e w' => e = .returned (.bool true) ∧ Below w.heap.size w w' := by
  have hm := fun (b : Nat) (x y : Nat) (w1 : World) (h : Byt w1 (some ⟨b, 0, none⟩) 2 [x, y]) => law_mask (some ⟨b, 0, none⟩) 2 2 [x, y] w1 h
  have HM := Lib.hid hm
  clear hm
  have hfd := deal_field
  go_enter Try.func4, Try.ntmps4
  go_wp2_with fail
  refine (exr_any 0 (by decide) w).mono ?_
  rintro e x0 ⟨r0, b0, hk0, -, -, rfl, -, -, hB0⟩
  go_wp2_with fail
  refine (exr_any 1 (by decide) x0).mono ?_
  rintro e x1 ⟨r1, b1, hk1, -, -, rfl, -, -, hB1⟩
  go_wp2_with fail
  refine (exr_any 2 (by decide) x1).mono ?_
  rintro e x2 ⟨r2, b2, hk2, -, -, rfl, -, -, hB2⟩
  go_wp2_with fail
  refine (HM.out _ 0 13 _ (byt_new _ _ (by simp) [0, 13] _ _ (by decide) (byte_lit _ (by decide)) rfl)).mono ?_
  rintro e w' ⟨rfl, rfl⟩
  go_wp2_with fail
  refine (HM.out _ 1 14 _ (byt_new _ _ (by simp) [1, 14] _ _ (by decide) (byte_lit _ (by decide)) rfl)).mono ?_
  rintro e w' ⟨rfl, rfl⟩
  go_wp2_with fail
  refine (HM.out _ 2 15 _ (byt_new _ _ (by simp) [2, 15] _ _ (by decide) (byte_lit _ (by decide)) rfl)).mono ?_
  rintro e w' ⟨rfl, rfl⟩
  go_wp2_with fail
  refine (HM.out _ 3 16 _ (byt_new _ _ (by simp) [3, 16] _ _ (by decide) (byte_lit _ (by decide)) rfl)).mono ?_
  rintro e w' ⟨rfl, rfl⟩
  go_wp2_with fail
  refine (HM.out _ 0 5 _ (byt_new _ _ (by simp) [0, 5] _ _ (by decide) (byte_lit _ (by decide)) rfl)).mono ?_
  rintro e w' ⟨rfl, rfl⟩
  go_wp2_with fail
  refine (HM.out _ 13 18 _ (byt_new _ _ (by simp) [13, 18] _ _ (by decide) (byte_lit _ (by decide)) rfl)).mono ?_
  rintro e w' ⟨rfl, rfl⟩
  go_wp2_with fail
  refine (HM.out _ 1 14 _ (byt_new _ _ (by simp) [1, 14] _ _ (by decide) (byte_lit _ (by decide)) rfl)).mono ?_
  rintro e w' ⟨rfl, rfl⟩
  go_wp2_with fail
  refine (HM.out _ 2 26 _ (byt_new _ _ (by simp) [2, 26] _ _ (by decide) (byte_lit _ (by decide)) rfl)).mono ?_
  rintro e w' ⟨rfl, rfl⟩
  go_wp2_with fail
  have hB := (hB0.trans (hB1.mono hB0.size)).trans (hB2.mono (hB0.trans (hB1.mono hB0.size)).size)
  have hsz := hB.size
  clear hB0 hB1 hB2
  have hB := hB.alloc (Nat.le_trans hsz (by simp <;> omega)) (.cells #[.int .u8 0, .int .u8 13] 5)
  have hB := hB.alloc (Nat.le_trans hsz (by simp <;> omega)) (.cells #[.int .u8 1, .int .u8 14] 5)
  have hB := hB.alloc (Nat.le_trans hsz (by simp <;> omega)) (.cells #[.int .u8 2, .int .u8 15] 5)
  have hB := hB.alloc (Nat.le_trans hsz (by simp <;> omega)) (.cells #[.int .u8 3, .int .u8 16] 5)
  have hB := hB.alloc (Nat.le_trans hsz (by simp <;> omega)) (.cells #[.int .u8 0, .int .u8 5] 5)
  have hB := hB.alloc (Nat.le_trans hsz (by simp <;> omega)) (.cells #[.int .u8 13, .int .u8 18] 5)
  have hB := hB.alloc (Nat.le_trans hsz (by simp <;> omega)) (.cells #[.int .u8 1, .int .u8 14] 5)
  have hB := hB.alloc (Nat.le_trans hsz (by simp <;> omega)) (.cells #[.int .u8 2, .int .u8 26] 5)
  have hR := Row.new ((((((((x2.alloc (.cells #[.int .u8 0, .int .u8 13] 5)).alloc (.cells #[.int .u8 1, .int .u8 14] 5)).alloc (.cells #[.int .u8 2, .int .u8 15] 5)).alloc (.cells #[.int .u8 3, .int .u8 16] 5)).alloc (.cells #[.int .u8 0, .int .u8 5] 5)).alloc (.cells #[.int .u8 13, .int .u8 18] 5)).alloc (.cells #[.int .u8 1, .int .u8 14] 5)).alloc (.cells #[.int .u8 2, .int .u8 26] 5)) 24 #[.int .u64 (r0.h 0 : Int), .int .u64 (r0.h 1 : Int), .int .u64 (r0.h 2 : Int), .int .u64 (r0.h 3 : Int), .int .u64 (r1.h 0 : Int), .int .u64 (r1.h 1 : Int), .int .u64 (r1.h 2 : Int), .int .u64 (r1.h 3 : Int), .int .u64 (r2.h 0 : Int), .int .u64 (r2.h 1 : Int), .int .u64 (r2.h 2 : Int), .int .u64 (r2.h 3 : Int), .int .u64 (maskV [0, 13] : Int), .int .u64 (maskV [1, 14] : Int), .int .u64 (maskV [2, 15] : Int), .int .u64 (maskV [3, 16] : Int), .int .u64 (maskV [0, 5] : Int), .int .u64 (maskV [13, 18] : Int), .int .u64 (maskV [1, 14] : Int), .int .u64 (maskV [2, 26] : Int)]
  have hB := hB.alloc (Nat.le_trans hsz (by simp; omega)) (.cells #[.int .u64 (r0.h 0 : Int), .int .u64 (r0.h 1 : Int), .int .u64 (r0.h 2 : Int), .int .u64 (r0.h 3 : Int), .int .u64 (r1.h 0 : Int), .int .u64 (r1.h 1 : Int), .int .u64 (r1.h 2 : Int), .int .u64 (r1.h 3 : Int), .int .u64 (r2.h 0 : Int), .int .u64 (r2.h 1 : Int), .int .u64 (r2.h 2 : Int), .int .u64 (r2.h 3 : Int), .int .u64 (maskV [0, 13] : Int), .int .u64 (maskV [1, 14] : Int), .int .u64 (maskV [2, 15] : Int), .int .u64 (maskV [3, 16] : Int), .int .u64 (maskV [0, 5] : Int), .int .u64 (maskV [13, 18] : Int), .int .u64 (maskV [1, 14] : Int), .int .u64 (maskV [2, 26] : Int)] 24)
  simp only [World.size_alloc] at hR
  generalize ((((((((x2.alloc (.cells #[.int .u8 0, .int .u8 13] 5)).alloc (.cells #[.int .u8 1, .int .u8 14] 5)).alloc (.cells #[.int .u8 2, .int .u8 15] 5)).alloc (.cells #[.int .u8 3, .int .u8 16] 5)).alloc (.cells #[.int .u8 0, .int .u8 5] 5)).alloc (.cells #[.int .u8 13, .int .u8 18] 5)).alloc (.cells #[.int .u8 1, .int .u8 14] 5)).alloc (.cells #[.int .u8 2, .int .u8 26] 5)).alloc (.cells #[.int .u64 (r0.h 0 : Int), .int .u64 (r0.h 1 : Int), .int .u64 (r0.h 2 : Int), .int .u64 (r0.h 3 : Int), .int .u64 (r1.h 0 : Int), .int .u64 (r1.h 1 : Int), .int .u64 (r1.h 2 : Int), .int .u64 (r1.h 3 : Int), .int .u64 (r2.h 0 : Int), .int .u64 (r2.h 1 : Int), .int .u64 (r2.h 2 : Int), .int .u64 (r2.h 3 : Int), .int .u64 (maskV [0, 13] : Int), .int .u64 (maskV [1, 14] : Int), .int .u64 (maskV [2, 15] : Int), .int .u64 (maskV [3, 16] : Int), .int .u64 (maskV [0, 5] : Int), .int .u64 (maskV [13, 18] : Int), .int .u64 (maskV [1, 14] : Int), .int .u64 (maskV [2, 26] : Int)] 24) = W0 at *
  have hD : w.heap.size ≤ x2.heap.size + 1 + 1 + 1 + 1 + 1 + 1 + 1 + 1 := by omega
  generalize x2.heap.size + 1 + 1 + 1 + 1 + 1 + 1 + 1 + 1 = D at *
  have hW : ∀ m ∈ [r0.h 0, r0.h 1, r0.h 2, r0.h 3, r1.h 0, r1.h 1, r1.h 2, r1.h 3, r2.h 0, r2.h 1, r2.h 2, r2.h 3, maskV [0, 13], maskV [1, 14], maskV [2, 15], maskV [3, 16], maskV [0, 5], maskV [13, 18], maskV [1, 14], maskV [2, 26]], W64 m := by
    intro m hm
    simp only [List.mem_cons, List.not_mem_nil, or_false] at hm
    rcases hm with rfl | rfl | rfl | rfl | rfl | rfl | rfl | rfl | rfl | rfl | rfl | rfl | rfl | rfl | rfl | rfl | rfl | rfl | rfl | rfl <;> first | exact hk0.h _ | exact hk1.h _ | exact hk2.h _ | exact maskTo_w64 _ _
  have hl : [r0.h 0, r0.h 1, r0.h 2, r0.h 3, r1.h 0, r1.h 1, r1.h 2, r1.h 3, r2.h 0, r2.h 1, r2.h 2, r2.h 3, maskV [0, 13], maskV [1, 14], maskV [2, 15], maskV [3, 16], maskV [0, 5], maskV [13, 18], maskV [1, 14], maskV [2, 26]].length = 20 := rfl
  have hR : Row W0 D 24 (u64c [r0.h 0, r0.h 1, r0.h 2, r0.h 3, r1.h 0, r1.h 1, r1.h 2, r1.h 3, r2.h 0, r2.h 1, r2.h 2, r2.h 3, maskV [0, 13], maskV [1, 14], maskV [2, 15], maskV [3, 16], maskV [0, 5], maskV [13, 18], maskV [1, 14], maskV [2, 26]]) := hR
  have hW := hOf_w64 _ hW
  generalize [r0.h 0, r0.h 1, r0.h 2, r0.h 3, r1.h 0, r1.h 1, r1.h 2, r1.h 3, r2.h 0, r2.h 1, r2.h 2, r2.h 3, maskV [0, 13], maskV [1, 14], maskV [2, 15], maskV [3, 16], maskV [0, 5], maskV [13, 18], maskV [1, 14], maskV [2, 26]] = dl at *
  have HR := Lib.hid hR
  have HW := Lib.hid hW
  have hB0 := Below.refl W0.heap.size W0
  clear hR hW hk0 hk1 hk2 hsz HM hfd
  go_loopg [2] 1707 (fun g s wr => ∃ i : Nat, g = 1707 - i ∧ i ≤ 1707 ∧ s = .int .i64 ((3 * i : Nat) : Int) ∧ Below W0.heap.size W0 wr)
  case atStart => exact ⟨0, by omega, by omega, rfl, hB0⟩
  case round =>
    clear hB0
    obtain ⟨i, rfl, hi, rfl, hbk⟩ := hrel
    obtain ⟨n, hn⟩ : ∃ n, n = 3 * i := ⟨_, rfl⟩
    rw [← hn]
    have HN := Lib.hid hn
    by_cases hlt : i < 1707
    · have hnl : n < 5120 := by omega
      have hltB : decide ((n : Int) < 5120) = true := by rw [decide_eq_true_eq]; omega
      obtain ⟨q, hq, hq5⟩ : ∃ q : Nat, (n : Int) / 256 % 5 = (q : Int) ∧ q < 5 := ⟨n / 256 % 5, by omega, by omega⟩
      obtain ⟨t, ht, ht5⟩ : ∃ t : Nat, (n : Int) % 5 = (t : Int) ∧ t < 5 := ⟨n % 5, by omega, by omega⟩
      obtain ⟨d, hd, hd3⟩ : ∃ d : Nat, (n : Int) / 1280 = (d : Int) ∧ d ≤ 3 := ⟨n / 1280, by omega, by omega⟩
      obtain ⟨bits, hbi, hb256⟩ : ∃ b : Nat, (n : Int) % 256 = (b : Int) ∧ b < 256 := ⟨n % 256, by omega, by omega⟩
      obtain ⟨x, hx, hx2⟩ : ∃ x : Nat, (n : Int) / 3 % 3 = (x : Int) ∧ x ≤ 2 := ⟨n / 3 % 3, by omega, by omega⟩
      obtain ⟨y, hy, hy4⟩ : ∃ y : Nat, (n : Int) / 3 % 5 = (y : Int) ∧ y ≤ 4 := ⟨n / 3 % 5, by omega, by omega⟩
      obtain ⟨p, hp, hp8⟩ : ∃ p : Nat, (x : Int) * (y : Int) = (p : Int) ∧ p ≤ 8 := ⟨x * y, by simp, Nat.le_trans (Nat.mul_le_mul hx2 hy4) (by decide)⟩
      obtain ⟨most, hm, hm8⟩ : ∃ m : Nat, 8 - (p : Int) = (m : Int) ∧ m ≤ 8 := ⟨8 - p, by omega, by omega⟩
      have hr := HR.out.below HR.out.lt hbk
      obtain ⟨m0, e0, w0⟩ : ∃ m : Nat, wr.cell? ⟨D, q * 4, none⟩ = some (.int .u64 (m : Int)) ∧ W64 m := ⟨_, by rw [hr.cell]; exact u64c_at dl _ (by omega), HW.out _⟩
      obtain ⟨m1, e1, w1⟩ : ∃ m : Nat, wr.cell? ⟨D, q * 4 + 1, none⟩ = some (.int .u64 (m : Int)) ∧ W64 m := ⟨_, by rw [hr.cell]; exact u64c_at dl _ (by omega), HW.out _⟩
      obtain ⟨m2, e2, w2⟩ : ∃ m : Nat, wr.cell? ⟨D, q * 4 + 2, none⟩ = some (.int .u64 (m : Int)) ∧ W64 m := ⟨_, by rw [hr.cell]; exact u64c_at dl _ (by omega), HW.out _⟩
      obtain ⟨m3, e3, w3'⟩ : ∃ m : Nat, wr.cell? ⟨D, q * 4 + 3, none⟩ = some (.int .u64 (m : Int)) ∧ W64 m := ⟨_, by rw [hr.cell]; exact u64c_at dl _ (by omega), HW.out _⟩
      have hq5I : (q : Int) < 5 := by omega
      clear hr hn
      go_wp2_with fail
      have hin := Row.new (wr.alloc (.cells #[.int .u64 (m0 : Int), .int .u64 (m1 : Int), .int .u64 (m2 : Int), .int .u64 (m3 : Int), .int .u8 (t : Int), .int .u8 (d : Int), .slice none 0 0] 27)) 3 #[.int .i64 (bits : Int)]
      simp only [World.size_alloc] at hin
      have hbs := hbk.size
      have hb2 := (hbk.alloc hbs (.cells #[.int .u64 (m0 : Int), .int .u64 (m1 : Int), .int .u64 (m2 : Int), .int .u64 (m3 : Int), .int .u8 (t : Int), .int .u8 (d : Int), .slice none 0 0] 27)).alloc (by simp; omega) (.cells #[.int .i64 (bits : Int)] 3)
      generalize (wr.alloc (.cells #[.int .u64 (m0 : Int), .int .u64 (m1 : Int), .int .u64 (m2 : Int), .int .u64 (m3 : Int), .int .u8 (t : Int), .int .u8 (d : Int), .slice none 0 0] 27)).alloc (.cells #[.int .i64 (bits : Int)] 3) = w3 at *
      have hw4 : ∀ j, W64 ([m0, m1, m2, m3].getD j 0) := fun j => by
        match j with
        | 0 => exact w0
        | 1 => exact w1
        | 2 => exact w2
        | 3 => exact w3'
        | k + 4 => show W64 0; exact W64.zero
      refine (played2 (wr.heap.size + 1) bits most ⟨fun j => [m0, m1, m2, m3].getD j 0, t, d, []⟩ none 0 0 w3 hin hb256 hw4 (by show t < 256; omega) hd3 (by omega)).mono ?_
      rintro e w4 ⟨v, zs, rfl, hov, hzl, hzb, hg⟩
      obtain ⟨av, cv, rfl, hnil, hlc, hmx, hab, hby⟩ := hov.byt (by omega) (fun i => getD_lt (by omega) (fun c hc => by have := hzb c hc; omega) i)
      have hb4 := hb2.grown hg hb2.size (fun k hk => by injection hk with hk; omega)
      have hok : (⟨fun j => [m0, m1, m2, m3].getD j 0, t, d, zs⟩ : Rc).ok zs.length cv := ⟨hw4, by show t < 256; omega, by show d < 256; omega, hlc, Nat.le_trans hmx (by decide)⟩
      go_wp2_with fail
      refine (tells_true ⟨fun j => [m0, m1, m2, m3].getD j 0, t, d, zs⟩ av zs.length cv w4 hok hby hnil).mono ?_
      rintro e w5 ⟨rfl, hs5⟩
      have hb5 := hb4.trans (hs5.mono hb4.size)
      go_wp2_with fail
      go_roundg (1707 - (i + 1))
      case rel => exact ⟨i + 1, by omega, by omega, by have := HN.out; go_num, hb5⟩
      case measure => omega
    · have hltB : decide ((n : Int) < 5120) = false := by rw [decide_eq_false_iff_not]; omega
      clear hn
      go_wp2_with fail
      have HBW := Lib.hid hB
      clear HR HW hB
      go_loopg [70] 3 (fun g s wr' => ∃ n2 : Nat, g = 3 - n2 ∧ n2 ≤ 3 ∧ s = .int .i64 (n2 : Int) ∧ Below W0.heap.size W0 wr')
      case atStart => exact ⟨0, by omega, by omega, rfl, hbk⟩
      case round =>
        clear hbk
        obtain ⟨n2, rfl, hn2, rfl, hbk⟩ := hrel
        by_cases hlt2 : n2 < 3
        · have hlt2B : decide ((n2 : Int) < 3) = true := by rw [decide_eq_true_eq]; omega
          go_wp2_with fail
          go_loopg [6] 9 (fun g s wr' => ∃ k : Nat, g = 9 - k ∧ k ≤ 9 ∧ s = .int .i64 (k : Int) ∧ Below W0.heap.size W0 wr')
          case atStart => exact ⟨0, by omega, by omega, rfl, hbk⟩
          case round =>
            clear hbk
            obtain ⟨k, rfl, hk, rfl, hbk⟩ := hrel
            by_cases hltk : k < 9
            · have hltkB : decide ((k : Int) ≤ 8) = true := by rw [decide_eq_true_eq]; omega
              go_wp2_with fail
              refine (exr_any n2 hlt2 wr).mono ?_
              rintro e y1 ⟨r, b, hok, hzl, hzb, rfl, -, hRb, hs1⟩
              have hb1 := hbk.trans (hs1.mono hbk.size)
              have hsl := to_run2 ⟨b, 0, none⟩ 8 8 k (by omega)
              go_wp2_with fail
              have hb2 := hb1.alloc hb1.size (.cells #[.int .u64 (r.h 0 : Int), .int .u64 (r.h 1 : Int), .int .u64 (r.h 2 : Int), .int .u64 (r.h 3 : Int), .int .u8 (r.t : Int), .int .u8 (r.d : Int), .slice (some ⟨b, 0, none⟩) k 8] 27)
              have hRb2 : Row (y1.alloc (.cells #[.int .u64 (r.h 0 : Int), .int .u64 (r.h 1 : Int), .int .u64 (r.h 2 : Int), .int .u64 (r.h 3 : Int), .int .u8 (r.t : Int), .int .u8 (r.d : Int), .slice (some ⟨b, 0, none⟩) k 8] 27)) b 5 (u8c r.zs) := hRb.alloc _
              clear hsl
              generalize y1.alloc (.cells #[.int .u64 (r.h 0 : Int), .int .u64 (r.h 1 : Int), .int .u64 (r.h 2 : Int), .int .u64 (r.h 3 : Int), .int .u8 (r.t : Int), .int .u8 (r.d : Int), .slice (some ⟨b, 0, none⟩) k 8] 27) = y2 at *
              have hby := row_byt hRb2 (by omega) hzb
              rw [hzl] at hby
              refine (tells_true ⟨r.h, r.t, r.d, r.zs.take k⟩ (some ⟨b, 0, none⟩) k 8 y2 ⟨hok.h, hok.t, hok.d, by omega, by omega⟩ (byt_head hby (by omega)) (by intro h; cases h)).mono ?_
              rintro e y3 ⟨rfl, hs3⟩
              have hb3 := hb2.trans (hs3.mono hb2.size)
              clear hs3 hby hRb2 hRb hb2 hb1 hbk hs1
              go_wp2_with fail
              go_loopg [8] 54 (fun g s wr' => ∃ c : Nat, g = 54 - c ∧ c ≤ 54 ∧ s = .int .i64 (c : Int) ∧ Below W0.heap.size W0 wr')
              case atStart => exact ⟨0, by omega, by omega, rfl, hb3⟩
              case round =>
                clear hb3
                obtain ⟨c, rfl, hc, rfl, hbk⟩ := hrel
                by_cases hltc : c < 54
                · have hltcB : decide ((c : Int) < 54) = true := by rw [decide_eq_true_eq]; omega
                  obtain ⟨v, hv, hv255⟩ : ∃ v : Nat, (c : Int) + (c : Int) / 52 * 100 = (v : Int) ∧ v < 256 := ⟨c + c / 52 * 100, by omega, by omega⟩
                  obtain ⟨ix, hix, hix8⟩ : ∃ v : Nat, (k : Int) % 8 = (v : Int) ∧ v < 8 := ⟨k % 8, by omega, by omega⟩
                  have HV := Lib.hid hv
                  have HIX := Lib.hid hix
                  clear hv hix
                  go_wp2_with fail
                  refine (exr_any n2 hlt2 wr).mono ?_
                  rintro e y1 ⟨r, b, hok, hzl, hzb, rfl, hbl, hRb, hs1⟩
                  have hb1 := hbk.trans (hs1.mono hbk.size)
                  have hv := HV.out
                  have hix := HIX.out
                  have hbb : b ≠ y1.heap.size := by have := hRb.lt; omega
                  have hRc := hRb.alloc (.cells #[.int .u64 (r.h 0 : Int), .int .u64 (r.h 1 : Int), .int .u64 (r.h 2 : Int), .int .u64 (r.h 3 : Int), .int .u8 (r.t : Int), .int .u8 (r.d : Int), .slice (some ⟨b, 0, none⟩) 8 8] 27)
                  have cb : (y1.alloc (.cells #[.int .u64 (r.h 0 : Int), .int .u64 (r.h 1 : Int), .int .u64 (r.h 2 : Int), .int .u64 (r.h 3 : Int), .int .u8 (r.t : Int), .int .u8 (r.d : Int), .slice (some ⟨b, 0, none⟩) 8 8] 27)).cell? ⟨b, ix, none⟩ = some (.int .u8 ((r.zs.getD ix 0 : Nat) : Int)) := by rw [hRc.cell]; exact u8c_at _ _ (by omega)
                  have fb := hRc.frozen ix
                  have hixI : (ix : Int) < 8 := by omega
                  have hN := (Row.new y1 27 #[.int .u64 (r.h 0 : Int), .int .u64 (r.h 1 : Int), .int .u64 (r.h 2 : Int), .int .u64 (r.h 3 : Int), .int .u8 (r.t : Int), .int .u8 (r.d : Int), .slice (some ⟨b, 0, none⟩) 8 8]).other (B' := b) (i := ix) (v := .int .u8 (v : Int)) (Ne.symm hbb)
                  have p0 := hN.cell 0
                  have p1 := hN.cell 1
                  have p2 := hN.cell 2
                  have p3 := hN.cell 3
                  have p4 := hN.cell 4
                  have p5 := hN.cell 5
                  have p6 := hN.cell 6
                  simp only [List.getElem?_toArray, List.getElem?_cons_zero, List.getElem?_cons_succ] at p0 p1 p2 p3 p4 p5 p6
                  go_wp2_with fail
                  clear p0 p1 p2 p3 p4 p5 p6 cb fb hv hix
                  have hb2 := (hb1.alloc hb1.size (.cells #[.int .u64 (r.h 0 : Int), .int .u64 (r.h 1 : Int), .int .u64 (r.h 2 : Int), .int .u64 (r.h 3 : Int), .int .u8 (r.t : Int), .int .u8 (r.d : Int), .slice (some ⟨b, 0, none⟩) 8 8] 27)).setCell (p := ⟨b, ix, none⟩) (Nat.le_trans hbk.size hbl) (.int .u8 (v : Int))
                  have hRd := hRc.set ix (.int .u8 (v : Int))
                  rw [u8c_set] at hRd
                  generalize (y1.alloc (.cells #[.int .u64 (r.h 0 : Int), .int .u64 (r.h 1 : Int), .int .u64 (r.h 2 : Int), .int .u64 (r.h 3 : Int), .int .u8 (r.t : Int), .int .u8 (r.d : Int), .slice (some ⟨b, 0, none⟩) 8 8] 27)).setCell ⟨b, ix, none⟩ (.int .u8 (v : Int)) = y2 at *
                  have hby := row_byt hRd (by rw [List.length_set]; omega) (set_byte hzb hv255)
                  rw [List.length_set, hzl] at hby
                  refine (tells_true ⟨r.h, r.t, r.d, r.zs.set ix v⟩ (some ⟨b, 0, none⟩) 8 8 y2 ⟨hok.h, hok.t, hok.d, by omega, by omega⟩ hby (by intro h; cases h)).mono ?_
                  rintro e y3 ⟨rfl, hs3⟩
                  have hb3 := hb2.trans (hs3.mono hb2.size)
                  have hN3 := hN.below hN.lt hs3
                  have hNs : W0.heap.size ≤ y1.heap.size := hb1.size
                  clear hs3 hby hRd hRc hRb hb2 hb1 hs1 hN
                  go_wp2_with fail
                  refine (exr_any n2 hlt2 y3).mono ?_
                  rintro e y4 ⟨r9, b9, hok9, hzl9, hzb9, rfl, hbl9, hRb9, hs4⟩
                  have hb4 := hb3.trans (hs4.mono hb3.size)
                  have hN4 := hN3.below hN3.lt hs4
                  have p0 := hN4.cell 0
                  have p1 := hN4.cell 1
                  have p2 := hN4.cell 2
                  have p3 := hN4.cell 3
                  have p4 := hN4.cell 4
                  have p5 := hN4.cell 5
                  have p6 := hN4.cell 6
                  simp only [List.getElem?_toArray, List.getElem?_cons_zero, List.getElem?_cons_succ] at p0 p1 p2 p3 p4 p5 p6
                  have f0 := hN4.frozen 0
                  have f1 := hN4.frozen 1
                  have f2 := hN4.frozen 2
                  have f3 := hN4.frozen 3
                  have f4 := hN4.frozen 4
                  have f5 := hN4.frozen 5
                  have f6 := hN4.frozen 6
                  go_wp2_with fail
                  clear p0 p1 p2 p3 p4 p5 p6 f0 f1 f2 f3 f4 f5 f6
                  have hb9 : b9 ≠ y1.heap.size := by have := hN3.lt; omega
                  have hN5 : Row (((((((y4.setCell ⟨y1.heap.size, 0, none⟩ (.int .u64 (r9.h 0 : Int))).setCell ⟨y1.heap.size, 1, none⟩ (.int .u64 (r9.h 1 : Int))).setCell ⟨y1.heap.size, 2, none⟩ (.int .u64 (r9.h 2 : Int))).setCell ⟨y1.heap.size, 3, none⟩ (.int .u64 (r9.h 3 : Int))).setCell ⟨y1.heap.size, 4, none⟩ (.int .u8 (r9.t : Int))).setCell ⟨y1.heap.size, 5, none⟩ (.int .u8 (r9.d : Int))).setCell ⟨y1.heap.size, 6, none⟩ (.slice (some ⟨b9, 0, none⟩) 8 8)) y1.heap.size 27 #[.int .u64 (r9.h 0 : Int), .int .u64 (r9.h 1 : Int), .int .u64 (r9.h 2 : Int), .int .u64 (r9.h 3 : Int), .int .u8 (r9.t : Int), .int .u8 (r9.d : Int), .slice (some ⟨b9, 0, none⟩) 8 8] := (((((((hN4.set 0 (.int .u64 (r9.h 0 : Int))).set 1 (.int .u64 (r9.h 1 : Int))).set 2 (.int .u64 (r9.h 2 : Int))).set 3 (.int .u64 (r9.h 3 : Int))).set 4 (.int .u8 (r9.t : Int))).set 5 (.int .u8 (r9.d : Int))).set 6 (.slice (some ⟨b9, 0, none⟩) 8 8))
                  have hRb5 : Row (((((((y4.setCell ⟨y1.heap.size, 0, none⟩ (.int .u64 (r9.h 0 : Int))).setCell ⟨y1.heap.size, 1, none⟩ (.int .u64 (r9.h 1 : Int))).setCell ⟨y1.heap.size, 2, none⟩ (.int .u64 (r9.h 2 : Int))).setCell ⟨y1.heap.size, 3, none⟩ (.int .u64 (r9.h 3 : Int))).setCell ⟨y1.heap.size, 4, none⟩ (.int .u8 (r9.t : Int))).setCell ⟨y1.heap.size, 5, none⟩ (.int .u8 (r9.d : Int))).setCell ⟨y1.heap.size, 6, none⟩ (.slice (some ⟨b9, 0, none⟩) 8 8)) b9 5 (u8c r9.zs) := (((((((hRb9.other hb9).other hb9).other hb9).other hb9).other hb9).other hb9).other hb9)
                  have hb5 := (((((((hb4.setCell (p := ⟨y1.heap.size, 0, none⟩) hNs (.int .u64 (r9.h 0 : Int))).setCell (p := ⟨y1.heap.size, 1, none⟩) hNs (.int .u64 (r9.h 1 : Int))).setCell (p := ⟨y1.heap.size, 2, none⟩) hNs (.int .u64 (r9.h 2 : Int))).setCell (p := ⟨y1.heap.size, 3, none⟩) hNs (.int .u64 (r9.h 3 : Int))).setCell (p := ⟨y1.heap.size, 4, none⟩) hNs (.int .u8 (r9.t : Int))).setCell (p := ⟨y1.heap.size, 5, none⟩) hNs (.int .u8 (r9.d : Int))).setCell (p := ⟨y1.heap.size, 6, none⟩) hNs (.slice (some ⟨b9, 0, none⟩) 8 8))
                  clear hN4 hN3 hb4 hb3 hs4 hRb9
                  generalize (((((((y4.setCell ⟨y1.heap.size, 0, none⟩ (.int .u64 (r9.h 0 : Int))).setCell ⟨y1.heap.size, 1, none⟩ (.int .u64 (r9.h 1 : Int))).setCell ⟨y1.heap.size, 2, none⟩ (.int .u64 (r9.h 2 : Int))).setCell ⟨y1.heap.size, 3, none⟩ (.int .u64 (r9.h 3 : Int))).setCell ⟨y1.heap.size, 4, none⟩ (.int .u8 (r9.t : Int))).setCell ⟨y1.heap.size, 5, none⟩ (.int .u8 (r9.d : Int))).setCell ⟨y1.heap.size, 6, none⟩ (.slice (some ⟨b9, 0, none⟩) 8 8)) = y5 at *
                  obtain ⟨jx, hjx, hjx4⟩ : ∃ v : Nat, (k : Int).tmod 4 = (v : Int) ∧ v < 4 := ⟨k % 4, by rw [Int.tmod_eq_emod_of_nonneg (by omega)]; omega, by omega⟩
                  have hjxI : (jx : Int) < 4 := by omega
                  obtain ⟨cq, hcq, hcq2⟩ : ∃ v : Nat, (c : Int).tdiv 52 = (v : Int) ∧ v < 2 := ⟨c / 52, by rw [Int.tdiv_eq_ediv_of_nonneg (by omega)]; omega, by omega⟩
                  have ew0 : IntKind.i64.wrap (cq : Int) = (cq : Int) := by rw [IntKind.wrap_i64]; omega
                  have ew1 : IntKind.i64.wrap ((cq : Int) * 11) = (cq : Int) * 11 := by rw [IntKind.wrap_i64]; omega
                  obtain ⟨sh, ew2⟩ : ∃ sh : Nat, IntKind.i64.wrap ((c : Int) + (cq : Int) * 11) = (sh : Int) := ⟨c + cq * 11, by rw [IntKind.wrap_i64]; omega⟩
                  obtain ⟨m, hm, hmw⟩ : ∃ m : Nat, y5.cell? ⟨y1.heap.size, jx, none⟩ = some (.int .u64 (m : Int)) ∧ W64 m := by
                    rw [hN5.cell]
                    rcases (show jx = 0 ∨ jx = 1 ∨ jx = 2 ∨ jx = 3 by omega) with rfl | rfl | rfl | rfl <;> exact ⟨_, rfl, hok9.h _⟩
                  have rm := fun dd os => cell_regrown hm dd os
                  have hzw := W64.shl1 sh
                  have hxr := run_xor64 m (shl1 sh) hmw hzw
                  have hxw := lxor_w64 hmw hzw
                  refine wp_region_below_tail 14 (by kernel_rfl) (by kernel_rfl) ?_
                  simp only [List.take_succ_cons, List.take_zero, List.drop_succ_cons, List.drop_zero]
                  repeat (quiet_step (fail))
                  refine wpQuiet_nil ?_
                  rintro _ ⟨p, rfl⟩
                  have hb6 := below_regrown y5 p.d p.os
                  generalize grow (redrawn y5 p.d) p.os = y6 at *
                  have hN6 := hN5.below hN5.lt hb6
                  have hRb6 := hRb5.below hRb5.lt hb6
                  have hb7 := hb5.trans (hb6.mono hb5.size)
                  have cm : y6.cell? ⟨y1.heap.size, jx, none⟩ = some (.int .u64 (m : Int)) := (hb6.cell (p := ⟨y1.heap.size, jx, none⟩) hN5.lt).trans hm
                  have fm := hN6.frozen jx
                  have hN7 := hN6.set jx (.int .u64 ((lxor m (shl1 sh) : Nat) : Int))
                  have hsetc : (#[.int .u64 (r9.h 0 : Int), .int .u64 (r9.h 1 : Int), .int .u64 (r9.h 2 : Int), .int .u64 (r9.h 3 : Int), .int .u8 (r9.t : Int), .int .u8 (r9.d : Int), .slice (some ⟨b9, 0, none⟩) 8 8] : Array Value).setIfInBounds jx (.int .u64 ((lxor m (shl1 sh) : Nat) : Int)) = #[.int .u64 (setH r9.h jx (lxor m (shl1 sh)) 0 : Int), .int .u64 (setH r9.h jx (lxor m (shl1 sh)) 1 : Int), .int .u64 (setH r9.h jx (lxor m (shl1 sh)) 2 : Int), .int .u64 (setH r9.h jx (lxor m (shl1 sh)) 3 : Int), .int .u8 (r9.t : Int), .int .u8 (r9.d : Int), .slice (some ⟨b9, 0, none⟩) 8 8] := by
                    rcases (show jx = 0 ∨ jx = 1 ∨ jx = 2 ∨ jx = 3 by omega) with h | h | h | h <;> subst h <;> rfl
                  rw [hsetc] at hN7
                  have hRb7 : Row (y6.setCell ⟨y1.heap.size, jx, none⟩ (.int .u64 ((lxor m (shl1 sh) : Nat) : Int))) b9 5 (u8c r9.zs) := hRb6.other hb9
                  have hb8 := hb7.setCell (p := ⟨y1.heap.size, jx, none⟩) hNs (.int .u64 ((lxor m (shl1 sh) : Nat) : Int))
                  have hhw : ∀ j, W64 (setH r9.h jx (lxor m (shl1 sh)) j) := W64.setH hok9.h _ _ hxw
                  have HHW := Lib.hid hhw
                  clear hsetc hN6 hRb6 hN5 hRb5 hb7 rm hm hb6 hxr hxw hhw hmw hzw ew0 ew1 ew2 hcq hb5
                  have p0 := hN7.cell 0
                  have p1 := hN7.cell 1
                  have p2 := hN7.cell 2
                  have p3 := hN7.cell 3
                  have p4 := hN7.cell 4
                  have p5 := hN7.cell 5
                  have p6 := hN7.cell 6
                  simp only [List.getElem?_toArray, List.getElem?_cons_zero, List.getElem?_cons_succ] at p0 p1 p2 p3 p4 p5 p6
                  go_wp2_with fail
                  clear p0 p1 p2 p3 p4 p5 p6 cm fm hN7
                  generalize y6.setCell ⟨y1.heap.size, jx, none⟩ (.int .u64 ((lxor m (shl1 sh) : Nat) : Int)) = y7 at *
                  have hby := row_byt hRb7 (by omega) hzb9
                  rw [hzl9] at hby
                  refine (tells_true ⟨setH r9.h jx (lxor m (shl1 sh)), r9.t, r9.d, r9.zs⟩ (some ⟨b9, 0, none⟩) 8 8 y7 ⟨HHW.out, hok9.t, hok9.d, by omega, by omega⟩ hby (by intro h; cases h)).mono ?_
                  rintro e y8 ⟨rfl, hs8⟩
                  have hb9' := hb8.trans (hs8.mono hb8.size)
                  clear hs8 hby hRb7 hb8
                  go_wp2_with fail
                  go_roundg (54 - (c + 1))
                  case rel => exact ⟨c + 1, by omega, by omega, by go_num, hb9'⟩
                  case measure => omega
                · have hltcB : decide ((c : Int) < 54) = false := by rw [decide_eq_false_iff_not]; omega
                  go_wp2_with fail
                  go_roundg (9 - (k + 1))
                  case rel => exact ⟨k + 1, by omega, by omega, by go_num, hbk⟩
                  case measure => omega
            · have hltkB : decide ((k : Int) ≤ 8) = false := by rw [decide_eq_false_iff_not]; omega
              go_wp2_with fail
              go_loopg [10] 256 (fun g s wr' => ∃ c : Nat, g = 256 - c ∧ c ≤ 256 ∧ s = .int .i64 (c : Int) ∧ Below W0.heap.size W0 wr')
              case atStart => exact ⟨0, by omega, by omega, rfl, hbk⟩
              case round =>
                clear hbk
                obtain ⟨c, rfl, hc, rfl, hbk⟩ := hrel
                by_cases hltc : c < 256
                · have hltcB : decide ((c : Int) < 256) = true := by rw [decide_eq_true_eq]; omega
                  go_wp2_with fail
                  refine (exr_any n2 hlt2 wr).mono ?_
                  rintro e y1 ⟨r, b, hok, hzl, hzb, rfl, hbl, hRb, hs1⟩
                  have hb1 := hbk.trans (hs1.mono hbk.size)
                  go_wp2_with fail
                  refine (exr_any n2 hlt2 y1).mono ?_
                  rintro e y2 ⟨r9, b9, hok9, hzl9, hzb9, rfl, hbl9, hRb9, hs2⟩
                  have hb2 := hb1.trans (hs2.mono hb1.size)
                  have hRb2 := hRb.below hRb.lt hs2
                  go_wp2_with fail
                  have hb3 := (hb2.alloc hb2.size (.cells #[.int .u64 (r.h 0 : Int), .int .u64 (r.h 1 : Int), .int .u64 (r.h 2 : Int), .int .u64 (r.h 3 : Int), .int .u8 (c : Int), .int .u8 (r.d : Int), .slice (some ⟨b, 0, none⟩) 8 8] 27)).alloc (by have := hb2.size; simp; omega) (.cells #[.int .u64 (r9.h 0 : Int), .int .u64 (r9.h 1 : Int), .int .u64 (r9.h 2 : Int), .int .u64 (r9.h 3 : Int), .int .u8 (r9.t : Int), .int .u8 (c : Int), .slice (some ⟨b9, 0, none⟩) 8 8] 27)
                  have hRb3 := (hRb2.alloc (.cells #[.int .u64 (r.h 0 : Int), .int .u64 (r.h 1 : Int), .int .u64 (r.h 2 : Int), .int .u64 (r.h 3 : Int), .int .u8 (c : Int), .int .u8 (r.d : Int), .slice (some ⟨b, 0, none⟩) 8 8] 27)).alloc (.cells #[.int .u64 (r9.h 0 : Int), .int .u64 (r9.h 1 : Int), .int .u64 (r9.h 2 : Int), .int .u64 (r9.h 3 : Int), .int .u8 (r9.t : Int), .int .u8 (c : Int), .slice (some ⟨b9, 0, none⟩) 8 8] 27)
                  have hRb93 := (hRb9.alloc (.cells #[.int .u64 (r.h 0 : Int), .int .u64 (r.h 1 : Int), .int .u64 (r.h 2 : Int), .int .u64 (r.h 3 : Int), .int .u8 (c : Int), .int .u8 (r.d : Int), .slice (some ⟨b, 0, none⟩) 8 8] 27)).alloc (.cells #[.int .u64 (r9.h 0 : Int), .int .u64 (r9.h 1 : Int), .int .u64 (r9.h 2 : Int), .int .u64 (r9.h 3 : Int), .int .u8 (r9.t : Int), .int .u8 (c : Int), .slice (some ⟨b9, 0, none⟩) 8 8] 27)
                  have hN := Row.new (y2.alloc (.cells #[.int .u64 (r.h 0 : Int), .int .u64 (r.h 1 : Int), .int .u64 (r.h 2 : Int), .int .u64 (r.h 3 : Int), .int .u8 (c : Int), .int .u8 (r.d : Int), .slice (some ⟨b, 0, none⟩) 8 8] 27)) 27 #[.int .u64 (r9.h 0 : Int), .int .u64 (r9.h 1 : Int), .int .u64 (r9.h 2 : Int), .int .u64 (r9.h 3 : Int), .int .u8 (r9.t : Int), .int .u8 (c : Int), .slice (some ⟨b9, 0, none⟩) 8 8]
                  simp only [World.size_alloc] at hN
                  generalize (y2.alloc (.cells #[.int .u64 (r.h 0 : Int), .int .u64 (r.h 1 : Int), .int .u64 (r.h 2 : Int), .int .u64 (r.h 3 : Int), .int .u8 (c : Int), .int .u8 (r.d : Int), .slice (some ⟨b, 0, none⟩) 8 8] 27)).alloc (.cells #[.int .u64 (r9.h 0 : Int), .int .u64 (r9.h 1 : Int), .int .u64 (r9.h 2 : Int), .int .u64 (r9.h 3 : Int), .int .u8 (r9.t : Int), .int .u8 (c : Int), .slice (some ⟨b9, 0, none⟩) 8 8] 27) = y3 at *
                  have hby := row_byt hRb3 (by omega) hzb
                  rw [hzl] at hby
                  refine (tells_true ⟨r.h, c, r.d, r.zs⟩ (some ⟨b, 0, none⟩) 8 8 y3 ⟨hok.h, by show c < 256; omega, hok.d, by omega, by omega⟩ hby (by intro h; cases h)).mono ?_
                  rintro e y4 ⟨rfl, hs4⟩
                  have hb4 := hb3.trans (hs4.mono hb3.size)
                  have hN4 := hN.below hN.lt hs4
                  have hRb94 := hRb93.below hRb93.lt hs4
                  have p0 := hN4.cell 0
                  have p1 := hN4.cell 1
                  have p2 := hN4.cell 2
                  have p3 := hN4.cell 3
                  have p4 := hN4.cell 4
                  have p5 := hN4.cell 5
                  have p6 := hN4.cell 6
                  simp only [List.getElem?_toArray, List.getElem?_cons_zero, List.getElem?_cons_succ] at p0 p1 p2 p3 p4 p5 p6
                  clear hN hN4 hRb93 hRb3 hRb9 hRb2 hRb hby hb3 hb2 hb1
                  go_wp2_with fail
                  clear p0 p1 p2 p3 p4 p5 p6
                  have hby := row_byt hRb94 (by omega) hzb9
                  rw [hzl9] at hby
                  refine (tells_true ⟨r9.h, r9.t, c, r9.zs⟩ (some ⟨b9, 0, none⟩) 8 8 y4 ⟨hok9.h, hok9.t, by show c < 256; omega, by omega, by omega⟩ hby (by intro h; cases h)).mono ?_
                  rintro e y5 ⟨rfl, hs5⟩
                  have hb5 := hb4.trans (hs5.mono hb4.size)
                  clear hby hRb94 hb4 hs4 hs5
                  go_wp2_with fail
                  go_roundg (256 - (c + 1))
                  case rel => exact ⟨c + 1, by omega, by omega, by go_num, hb5⟩
                  case measure => omega
                · have hltcB : decide ((c : Int) < 256) = false := by rw [decide_eq_false_iff_not]; omega
                  go_wp2_with fail
                  go_roundg (3 - (n2 + 1))
                  case rel => exact ⟨n2 + 1, by omega, by omega, by go_num, hbk⟩
                  case measure => omega
        · have hlt2B : decide ((n2 : Int) < 3) = false := by rw [decide_eq_false_iff_not]; omega
          go_wp2_with fail
          refine (tells_true ⟨fun _ => 0, 0, 0, []⟩ none 0 0 wr ⟨fun _ => W64.zero, by decide, by decide, by omega, by omega⟩ ⟨rfl, by omega, fun i => by simp, .inl rfl⟩ (fun _ => rfl)).mono ?_
          rintro e y3 ⟨rfl, hs3⟩
          have hb3 := hbk.trans (hs3.mono hbk.size)
          go_wp2_with fail
          refine (awake_true y3).mono ?_
          rintro e y4 ⟨rfl, hs4⟩
          have hb4 := hb3.trans (hs4.mono hb3.size)
          go_wp2_with fail
          go_ret
          exact ⟨rfl, HBW.out.trans (hb4.mono HBW.out.size)⟩
end Go.Proofs.Ytdlnilebnobllaa
